/- Texts joined for a claim (Flo, CostPlain, FloCmp, CostPlain2, CostPlain3, CostPlain4, Plan, Base, Read, Bulk, Shape, Arg, Rule, JoinT). -/
import Derived.Laws.FloatArith
import Derived.WalkKit
import Derived.WalkLawsBesides
import Derived.WalkSpells
import Derived.Lib.Hide
import Derived.ProofKit
import Derived.OpenShut
import Derived.ShutString
import Derived.ChangeOld
import Derived.Carry
import Derived.SliceStrings
import Derived.SizedLaws
import Derived.JoinedCond
import Derived.Deep.Slices
import Derived.Test.YtcphalpcdcddpaaRows
import Derived.ChangeArms
import Derived.Deep.QuietTactic
import Derived.Shelf.Abstract
import Derived.BigQuiet
/- Real numbers from 0 on, by their words: their order is that of the words; sums, products and quotients of them are such. No program in sight. -/
namespace Go.Proofs.Ytcphalpcdcddpaa
open Ieee
set_option linter.unusedVariables false

/-- The word of infinity, of one. -/
abbrev infW : Nat := 9218868437227405312
abbrev oneW : Nat := 4607182418800017408
/-- What a word below infinity stands for, in units of the last place of all. -/
def valW (x : Nat) : Nat := if x < 4503599627370496 then x else (4503599627370496 + x % 4503599627370496) * 2 ^ (x / 4503599627370496 - 1)

theorem read_small {x : Nat} (h : x < 4503599627370496) : double.read x = .number false x (-1074) := by
  have h1 : x / 9223372036854775808 = 0 := Nat.div_eq_of_lt (by omega)
  have h2 : x % 9223372036854775808 = x := Nat.mod_eq_of_lt (by omega)
  show (if x % 9223372036854775808 < 4503599627370496 then Datum.number (x / 9223372036854775808 % 2 == 1) (x % 9223372036854775808) (-1074) else _) = _
  rw [h1, h2, if_pos h]; rfl
theorem read_normal {x : Nat} (h : 4503599627370496 ≤ x) (h' : x < infW) : double.read x = .number false (4503599627370496 + x % 4503599627370496) (-1074 + ((x / 4503599627370496 - 1 : Nat) : Int)) := by
  have h1 : x / 9223372036854775808 = 0 := Nat.div_eq_of_lt (by unfold infW at h'; omega)
  have h2 : x % 9223372036854775808 = x := Nat.mod_eq_of_lt (by unfold infW at h'; omega)
  show (if x % 9223372036854775808 < 4503599627370496 then Datum.number (x / 9223372036854775808 % 2 == 1) (x % 9223372036854775808) (-1074) else
    if x % 9223372036854775808 < 9218868437227405312 then Datum.number (x / 9223372036854775808 % 2 == 1) (4503599627370496 + x % 9223372036854775808 % 4503599627370496) (-1074 + ((x % 9223372036854775808 / 4503599627370496 - 1 : Nat) : Int)) else _) = _
  rw [h1, h2, if_neg (by omega), if_pos h']; rfl
theorem read_inf : double.read infW = .infinity false := by decide
/-- A finite word from 0 on, read. -/
theorem read_fin {x : Nat} (h : x < infW) : ∃ (m k : Nat), double.read x = .number false m (-1074 + (k : Int)) ∧ m * 2 ^ k = valW x := by
  by_cases hs : x < 4503599627370496
  · exact ⟨x, 0, by rw [read_small hs]; rfl, by unfold valW; rw [if_pos hs]; omega⟩
  · exact ⟨_, _, read_normal (by omega) h, by unfold valW; rw [if_neg hs]⟩

theorem valW_lt {x y : Nat} (h : x < y) : valW x < valW y := by
  unfold valW
  have ex := Nat.div_add_mod x 4503599627370496
  have ey := Nat.div_add_mod y 4503599627370496
  have mx := Nat.mod_lt x (show 0 < 4503599627370496 by decide)
  have my := Nat.mod_lt y (show 0 < 4503599627370496 by decide)
  generalize x % 4503599627370496 = r at *
  generalize y % 4503599627370496 = s at *
  generalize hp : x / 4503599627370496 = p at *
  generalize hq : y / 4503599627370496 = q at *
  by_cases hx : x < 4503599627370496
  · rw [if_pos hx]
    by_cases hy : y < 4503599627370496
    · rw [if_pos hy]; exact h
    · rw [if_neg hy]
      have : 4503599627370496 + s ≤ (4503599627370496 + s) * 2 ^ (q - 1) := Nat.le_mul_of_pos_right _ (Nat.two_pow_pos _)
      omega
  · rw [if_neg hx, if_neg (by omega)]
    have hp1 : 1 ≤ p := by omega
    by_cases he : p = q
    · subst he
      exact Nat.mul_lt_mul_of_pos_right (by omega) (Nat.two_pow_pos _)
    · have hpq : p + 1 ≤ q := by omega
      have h1 : (4503599627370496 + r) * 2 ^ (p - 1) < 2 * 4503599627370496 * 2 ^ (p - 1) := Nat.mul_lt_mul_of_pos_right (by omega) (Nat.two_pow_pos _)
      have h2 : 2 * 4503599627370496 * 2 ^ (p - 1) = 4503599627370496 * 2 ^ p := by
        rw [show 2 ^ p = 2 ^ (p - 1) * 2 by rw [← Nat.pow_succ]; congr 1; omega]
        generalize 2 ^ (p - 1) = a
        omega
      have h3 : 2 ^ p ≤ 2 ^ (q - 1) := Nat.pow_le_pow_right (by decide) (by omega)
      have h4 : 4503599627370496 * 2 ^ p ≤ (4503599627370496 + s) * 2 ^ (q - 1) := Nat.mul_le_mul (by omega) h3
      omega
theorem valW_lt_iff {x y : Nat} : valW x < valW y ↔ x < y :=
  ⟨fun h => by
    rcases Nat.lt_trichotomy x y with k | k | k
    · exact k
    · subst k; omega
    · have := valW_lt k; omega, valW_lt⟩
theorem valW_inj {x y : Nat} (h : valW x = valW y) : x = y := by
  rcases Nat.lt_trichotomy x y with k | k | k
  · have := valW_lt k; omega
  · exact k
  · have := valW_lt k; omega
theorem valW_pos {x : Nat} (h : 0 < x) : 0 < valW x := by have := valW_lt h; omega

theorem signed_min (m k l : Nat) : signed false m ((-1074 + (k : Int)) - min (-1074 + (k : Int)) (-1074 + (l : Int))).toNat = ((m * 2 ^ (k - min k l) : Nat) : Int) := by
  have : ((-1074 + (k : Int)) - min (-1074 + (k : Int)) (-1074 + (l : Int))).toNat = k - min k l := by omega
  rw [this]; unfold signed
  rw [if_neg (by decide), Nat.shiftLeft_eq]
theorem scale_lt {m n k l : Nat} : m * 2 ^ (k - min k l) < n * 2 ^ (l - min k l) ↔ m * 2 ^ k < n * 2 ^ l := by
  have h1 : m * 2 ^ k = m * 2 ^ (k - min k l) * 2 ^ (min k l) := by rw [Nat.mul_assoc, ← Nat.pow_add]; congr 2; omega
  have h2 : n * 2 ^ l = n * 2 ^ (l - min k l) * 2 ^ (min k l) := by rw [Nat.mul_assoc, ← Nat.pow_add]; congr 2; omega
  rw [h1, h2]
  exact (Nat.mul_lt_mul_right (Nat.two_pow_pos _)).symm

theorem compare_cast (a b : Nat) : compare (a : Int) (b : Int) = compare a b := by
  rcases Nat.lt_trichotomy a b with h | h | h
  · rw [Int.compare_eq_lt.2 (by omega), Nat.compare_eq_lt.2 h]
  · subst h; rw [Int.compare_eq_eq.2 rfl, Nat.compare_eq_eq.2 rfl]
  · rw [Int.compare_eq_gt.2 (by omega), Nat.compare_eq_gt.2 h]
theorem compare_val {m n k l x y : Nat} (hx : m * 2 ^ k = valW x) (hy : n * 2 ^ l = valW y) : compare (m * 2 ^ (k - min k l)) (n * 2 ^ (l - min k l)) = compare x y := by
  have h1 := @scale_lt m n k l
  have h2 := @scale_lt n m l k
  rw [Nat.min_comm l k] at h2
  rw [hx, hy, valW_lt_iff] at h1
  rw [hx, hy, valW_lt_iff] at h2
  rcases Nat.lt_trichotomy x y with h | h | h
  · rw [Nat.compare_eq_lt.2 h, Nat.compare_eq_lt.2 (h1.2 h)]
  · subst h
    rw [Nat.compare_eq_eq.2 rfl, Nat.compare_eq_eq.2]
    have a := mt h1.1 (Nat.lt_irrefl _)
    have b := mt h2.1 (Nat.lt_irrefl _)
    omega
  · rw [Nat.compare_eq_gt.2 h, Nat.compare_eq_gt.2 (h2.2 h)]

theorem order_ff {x y : Nat} (hx : x < infW) (hy : y < infW) : (double.read x).order (double.read y) = some (compare x y) := by
  obtain ⟨m, k, e1, v1⟩ := read_fin hx
  obtain ⟨n, l, e2, v2⟩ := read_fin hy
  rw [e1, e2]
  simp only [Datum.order]
  have e3 := signed_min n l k
  rw [Int.min_comm, Nat.min_comm] at e3
  rw [signed_min, e3, compare_cast, compare_val v1 v2]
theorem order_fi {x y : Nat} (hx : x < infW) (hy : double.read y = .infinity false) (h : x < y) : (double.read x).order (double.read y) = some (compare x y) := by
  obtain ⟨m, k, e1, v1⟩ := read_fin hx
  rw [e1, hy, Nat.compare_eq_lt.2 h]
  simp only [Datum.order]; rfl
theorem order_if {x y : Nat} (hx : x < infW) (hy : double.read y = .infinity false) (h : x < y) : (double.read y).order (double.read x) = some (compare y x) := by
  obtain ⟨m, k, e1, v1⟩ := read_fin hx
  rw [e1, hy, Nat.compare_eq_gt.2 h]
  simp only [Datum.order]; rfl
theorem order_ii {y : Nat} (hy : double.read y = .infinity false) : (double.read y).order (double.read y) = some (compare y y) := by
  rw [hy, Nat.compare_eq_eq.2 rfl]; simp only [Datum.order]; rfl
/-- The order of two of them is the order of their words. -/
theorem order_pos {x y : Nat} (hx : x ≤ infW) (hy : y ≤ infW) : double.order x y = some (compare x y) := by
  unfold Format.order
  rcases Nat.lt_or_eq_of_le hx with hx | hx <;> rcases Nat.lt_or_eq_of_le hy with hy | hy
  · exact order_ff hx hy
  · exact order_fi hx (hy ▸ read_inf) (hy ▸ hx)
  · exact order_if hy (hx ▸ read_inf) (hx ▸ hy)
  · rw [hx, hy]; exact order_ii read_inf

theorem infRung_eq : double.infRung = infW := by decide
theorem word_false (f : Format) (r : Nat) : f.word false r = r := rfl
/-- What is written without a sign is such a number. -/
theorem nearest_pos (m : Nat) (p : Int) : double.nearest false m p ≤ infW := by
  unfold Format.nearest
  split
  · rw [word_false]; exact Nat.zero_le _
  · rw [word_false, infRung_eq]; exact Nat.min_le_right _ _

theorem product_pos {x y : Nat} (hx : x ≤ infW) (hy : 0 < y) (hy' : y < infW) : ∃ r, double.mul x y = some r ∧ r ≤ infW := by
  unfold Format.mul
  obtain ⟨n, l, e2, v2⟩ := read_fin hy'
  have hn : n ≠ 0 := by rintro rfl; have := valW_pos hy; omega
  rcases Nat.lt_or_eq_of_le hx with hx | hx
  · obtain ⟨m, k, e1, v1⟩ := read_fin hx
    rw [e1, e2]
    exact ⟨_, rfl, nearest_pos _ _⟩
  · subst hx
    rw [read_inf, e2]
    show ∃ r, Option.map double.write (if n = 0 then none else some (.infinity (false ^^ false))) = some r ∧ _
    rw [if_neg hn]
    exact ⟨_, rfl, Nat.le_refl _⟩
theorem quotient_pos {x y : Nat} (hx : x ≤ infW) (hy : 0 < y) (hy' : y < infW) : ∃ r, double.div x y = some r ∧ r ≤ infW := by
  unfold Format.div
  obtain ⟨n, l, e2, v2⟩ := read_fin hy'
  have hn : n ≠ 0 := by rintro rfl; have := valW_pos hy; omega
  rcases Nat.lt_or_eq_of_le hx with hx | hx
  · obtain ⟨m, k, e1, v1⟩ := read_fin hx
    rw [e1, e2]
    show ∃ r, Option.map double.write (if n = 0 then _ else some (.number (false ^^ false) _ _)) = some r ∧ _
    rw [if_neg hn]
    exact ⟨_, rfl, nearest_pos _ _⟩
  · subst hx
    rw [read_inf, e2]
    exact ⟨_, rfl, Nat.le_refl _⟩
theorem sum_pos {x y : Nat} (hx : x ≤ infW) (hy : y ≤ infW) : ∃ r, double.add x y = some r ∧ r ≤ infW := by
  unfold Format.add
  rcases Nat.lt_or_eq_of_le hx with hx | hx <;> rcases Nat.lt_or_eq_of_le hy with hy | hy
  · obtain ⟨m, k, e1, v1⟩ := read_fin hx
    obtain ⟨n, l, e2, v2⟩ := read_fin hy
    rw [e1, e2]
    refine ⟨_, rfl, ?_⟩
    show double.nearest (if signed false m _ + signed false n _ = 0 then _ else decide (signed false m _ + signed false n _ < 0)) _ _ ≤ _
    have h1 : ∀ (a b : Nat), signed false a b = ((a <<< b : Nat) : Int) := fun a b => by unfold signed; rw [if_neg (by decide)]
    rw [h1, h1]
    have h2 : ∀ (c d : Nat), (if ((c : Int) + (d : Int) = 0) then (false && false) else decide ((c : Int) + (d : Int) < 0)) = false := fun c d => by
      split
      · rfl
      · exact decide_eq_false (by omega)
    rw [h2]
    exact nearest_pos _ _
  · subst hy
    obtain ⟨m, k, e1, v1⟩ := read_fin hx
    rw [e1, read_inf]; exact ⟨_, rfl, Nat.le_refl _⟩
  · subst hx
    obtain ⟨m, k, e1, v1⟩ := read_fin hy
    rw [e1, read_inf]; exact ⟨_, rfl, Nat.le_refl _⟩
  · subst hx; subst hy
    rw [read_inf]; exact ⟨_, rfl, Nat.le_refl _⟩

/-- Product, quotient and sum as functions of words. -/
def fmul (x y : Nat) : Nat := (double.mul x y).getD 0
def fdiv (x y : Nat) : Nat := (double.div x y).getD 0
def fadd (x y : Nat) : Nat := (double.add x y).getD 0
theorem fmul_eq {x y : Nat} (hx : x ≤ infW) (hy : 0 < y) (hy' : y < infW) : double.mul x y = some (fmul x y) := by
  obtain ⟨r, e, h⟩ := product_pos hx hy hy'; unfold fmul; rw [e]; rfl
theorem fmul_le {x y : Nat} (hx : x ≤ infW) (hy : 0 < y) (hy' : y < infW) : fmul x y ≤ infW := by
  obtain ⟨r, e, h⟩ := product_pos hx hy hy'; unfold fmul; rw [e]; exact h
theorem fdiv_eq {x y : Nat} (hx : x ≤ infW) (hy : 0 < y) (hy' : y < infW) : double.div x y = some (fdiv x y) := by
  obtain ⟨r, e, h⟩ := quotient_pos hx hy hy'; unfold fdiv; rw [e]; rfl
theorem fdiv_le {x y : Nat} (hx : x ≤ infW) (hy : 0 < y) (hy' : y < infW) : fdiv x y ≤ infW := by
  obtain ⟨r, e, h⟩ := quotient_pos hx hy hy'; unfold fdiv; rw [e]; exact h
theorem fadd_eq {x y : Nat} (hx : x ≤ infW) (hy : y ≤ infW) : double.add x y = some (fadd x y) := by
  obtain ⟨r, e, h⟩ := sum_pos hx hy; unfold fadd; rw [e]; rfl
theorem fadd_le {x y : Nat} (hx : x ≤ infW) (hy : y ≤ infW) : fadd x y ≤ infW := by
  obtain ⟨r, e, h⟩ := sum_pos hx hy; unfold fadd; rw [e]; exact h
end Go.Proofs.Ytcphalpcdcddpaa

/- Rules, what is known of their predicates, guesses: plain words, no program in sight. -/
namespace Go.Proofs.Ytcphalpcdcddpaa
set_option linter.unusedVariables false

/-- A term: its kind, its text; an atom: its predicate, its terms; a literal: its kind, its atom, its operation, its two sides; a rule: its head, its body. -/
abbrev TermZ := Int × ByteArray × Unit
abbrev AtomZ := ByteArray × List TermZ × Unit
abbrev LitZ := Int × AtomZ × Int × TermZ × TermZ × Unit
abbrev RuleZ := AtomZ × List LitZ × Unit
/-- What is known of a predicate: its rows, its columns' distinct ones, by words. -/
abbrev StatZ := ByteArray × Nat × List Nat × Unit
abbrev termsOf (l : LitZ) : List TermZ := l.2.1.2.1
abbrev predOf (l : LitZ) : ByteArray := l.2.1.1
abbrev opOf (l : LitZ) : Int := l.2.2.1
abbrev leftOf (l : LitZ) : TermZ := l.2.2.2.1
abbrev rightOf (l : LitZ) : TermZ := l.2.2.2.2.1

/-- One more of a list is gone over. -/
theorem fold_take {α σ : Type} (f : σ → α → σ) (s : σ) {l : List α} {i : Nat} {x : α} (h : l[i]? = some x) : (l.take (i + 1)).foldl f s = f ((l.take i).foldl f s) x := by
  rw [List.take_add_one, h, List.foldl_append]; rfl
theorem fold_all {α σ : Type} (f : σ → α → σ) (s : σ) {l : List α} {i : Nat} (h : l.length ≤ i) : (l.take i).foldl f s = l.foldl f s := by
  rw [List.take_of_length_le h]
theorem flat_take {α β : Type} (f : α → List β) {l : List α} {i : Nat} {x : α} (h : l[i]? = some x) : (l.take (i + 1)).flatMap f = (l.take i).flatMap f ++ f x := by
  rw [List.take_add_one, h, List.flatMap_append]; simp
theorem filterMap_take {α β : Type} (f : α → Option β) {l : List α} {i : Nat} {x : α} (h : l[i]? = some x) : (l.take (i + 1)).filterMap f = (l.take i).filterMap f ++ (f x).toList := by
  rw [List.take_add_one, h, List.filterMap_append]
  cases hf : f x <;> simp [hf]

/-- Is a text among these? -/
def hasT (a : List ByteArray) (s : ByteArray) : Bool := a.any fun x => decide (x = s)
theorem hasT_iff {a : List ByteArray} {s : ByteArray} : hasT a s = true ↔ s ∈ a := by
  unfold hasT
  rw [List.any_eq_true]
  exact ⟨fun ⟨x, h, e⟩ => of_decide_eq_true e ▸ h, fun h => ⟨s, h, decide_eq_true rfl⟩⟩
/-- The variables of the positive atoms, in order, each once. -/
def addName (a : List ByteArray) (t : TermZ) : List ByteArray := if t.1 = 1 ∧ hasT a t.2.1 = false then a ++ [t.2.1] else a
def namesT (a : List ByteArray) (ts : List TermZ) : List ByteArray := ts.foldl addName a
def namesL (a : List ByteArray) (l : LitZ) : List ByteArray := if l.1 = 1 then namesT a (termsOf l) else a
def namesB (ls : List LitZ) : List ByteArray := ls.foldl namesL []

/-- What a rule may be made of. -/
def kinds (ts : List TermZ) (up : Int) : Bool := ts.all fun t => decide (1 ≤ t.1 ∧ t.1 ≤ up)
def aggs (ts : List TermZ) : Nat := ts.countP fun t => decide (4 ≤ t.1)
def headOk (ts : List TermZ) : Bool := kinds ts 7 && decide (aggs ts < 2) && decide (ts.length ≤ 64)
def litOk (l : LitZ) : Bool := if l.1 = 1 ∨ l.1 = 2 then decide ((termsOf l).length ≤ 64) && kinds (termsOf l) 3 else if l.1 = 3 then decide (1 ≤ opOf l ∧ opOf l ≤ 4) && kinds [leftOf l, rightOf l] 3 else false
def parted (r : RuleZ) : Bool := headOk r.1.2.1 && r.2.1.all litOk
/-- May a term stand there, where these are bound? -/
def safeT (N : List ByteArray) (blank : Bool) (t : TermZ) : Bool := if t.1 = 2 then blank else decide (t.1 = 3 ∨ t.1 = 4 ∨ hasT N t.2.1 = true)
def safeL (N : List ByteArray) (l : LitZ) : Bool := if l.1 = 3 then safeT N false (leftOf l) && safeT N false (rightOf l) else if l.1 = 2 then (termsOf l).all (safeT N true) else true
def safeR (r : RuleZ) : Bool := r.1.2.1.all (safeT (namesB r.2.1) false) && r.2.1.all (safeL (namesB r.2.1))
/-- What is wrong with a rule: 0 nothing, 2 what it is made of, 111 it is not safe. -/
def checkR (r : RuleZ) : Nat := if parted r = true then if safeR r = true then 0 else 111 else 2

/-- A finite number from 0 on; minus nought is one too. -/
def finW (x : Nat) : Bool := decide (x < infW ∨ x = 9223372036854775808)
def zeroW (x : Nat) : Bool := decide (x = 0 ∨ x = 9223372036854775808)
/-- Do a predicate's counts fit a literal? -/
def fitL (s : StatZ) (l : LitZ) : Bool := decide (l.1 = 1 → predOf l = s.1 → (termsOf l).length = s.2.2.1.length)
def statOk (r : RuleZ) (S : List StatZ) (i : Nat) (s : StatZ) : Bool := finW s.2.1 && s.2.2.1.all finW && (S.take i).all (fun u => decide (u.1 ≠ s.1)) && r.2.1.all (fitL s)
def statsOk (r : RuleZ) (S : List StatZ) : Prop := ∀ (i : Nat) (s : StatZ), S[i]? = some s → statOk r S i s = true
open Classical in
noncomputable def errR (r : RuleZ) (S : List StatZ) : Nat := if checkR r = 0 then if statsOk r S then 0 else 2 else checkR r

/-- What is known of a literal's predicate. -/
def statOf (S : List StatZ) (l : LitZ) : Option StatZ := S.find? fun s => decide (s.1 = predOf l)
def rowsW (S : List StatZ) (l : LitZ) : Nat := match statOf S l with | some s => s.2.1 | none => 0
def atLeast (d : Nat) : Nat := if oneW < d ∧ d < infW then d else oneW
def distW (S : List StatZ) (l : LitZ) (c : Nat) : Nat := match statOf S l with | some s => atLeast (s.2.2.1.getD c 0) | none => oneW
/-- The columns of a literal: each with what it has of distinct ones. -/
def colsW (S : List StatZ) (l : LitZ) : List (TermZ × Nat) := (termsOf l).mapIdx fun c t => (t, distW S l c)

/-- The terms that a literal that filters asks of; its variables. -/
def asks (l : LitZ) : List TermZ := if l.1 = 2 then termsOf l else [leftOf l, rightOf l]
def varsT (ts : List TermZ) : List ByteArray := ts.filterMap fun t => if t.1 = 1 then some t.2.1 else none
/-- The variables of a literal, as the program keeps them. -/
def varsL (l : LitZ) : List ByteArray := if l.1 = 1 then varsT (termsOf l) else varsT (asks l)
/-- Is a variable in a positive literal of a set? -/
def boundIn (ls : List LitZ) (inn : List Bool) (v : ByteArray) : Prop := ∃ (i : Nat) (l : LitZ), ls[i]? = some l ∧ inn[i]? = some true ∧ l.1 = 1 ∧ v ∈ varsT (termsOf l)
/-- Does a set stand by itself? -/
def stands (ls : List LitZ) (inn : List Bool) : Prop := ∀ (i : Nat) (l : LitZ), ls[i]? = some l → inn[i]? = some true → l.1 ≠ 1 → ∀ v ∈ varsT (asks l), boundIn ls inn v

/-- What a literal that filters lets through. -/
def shareW (l : LitZ) : Nat := if l.1 = 2 then 4602678819172646912 else if opOf l = 1 then 4591870180066957722 else if opOf l = 2 then 4606281698874543309 else 4600877379321698714
/-- The pairs of a literal and whether it is in the set. -/
abbrev Pairs := List (LitZ × Bool)
def zeroIn (S : List StatZ) (ps : Pairs) : Bool := ps.any fun p => p.2 && decide (p.1.1 = 1) && zeroW (rowsW S p.1)
def mulRows (S : List StatZ) (s : Nat) (p : LitZ × Bool) : Nat := if p.2 = true ∧ p.1.1 = 1 then fmul s (rowsW S p.1) else s
def isVarT (v : ByteArray) (x : TermZ × Nat) : Option Nat := if x.1.1 = 1 ∧ x.1.2.1 = v then some x.2 else none
def isConstT (x : TermZ × Nat) : Option Nat := if x.1.1 = 3 then some x.2 else none
def spotsL (S : List StatZ) (v : ByteArray) (p : LitZ × Bool) : List Nat := if p.2 = true ∧ p.1.1 = 1 then (colsW S p.1).filterMap (isVarT v) else []
def spotsIn (S : List StatZ) (ps : Pairs) (v : ByteArray) : List Nat := ps.flatMap (spotsL S v)
def constsL (S : List StatZ) (p : LitZ × Bool) : List Nat := if p.2 = true ∧ p.1.1 = 1 then (colsW S p.1).filterMap isConstT else []
def constsIn (S : List StatZ) (ps : Pairs) : List Nat := ps.flatMap (constsL S)
/-- The place of the first least one. -/
def leastTo (l : List Nat) : Nat → Nat
  | 0 => 0
  | n + 1 => if l.getD n 0 < l.getD (leastTo l n) 0 then n else leastTo l n
def leastI (l : List Nat) : Nat := leastTo l l.length
/-- Divided by all but the first least one. -/
def divAll (k : Nat) (l : List Nat) (s : Nat) : Nat → Nat
  | 0 => s
  | n + 1 => if n = k then divAll k l s n else fdiv (divAll k l s n) (l.getD n 0)
def sharedW (l : List Nat) (s : Nat) : Nat := divAll (leastI l) l s l.length
def mulShare (s : Nat) (p : LitZ × Bool) : Nat := if p.2 = true ∧ p.1.1 ≠ 1 then fmul s (shareW p.1) else s
/-- The guess of a set. -/
def guessW (S : List StatZ) (ls : List LitZ) (inn : List Bool) : Nat :=
  if zeroIn S (ls.zip inn) = true then 0 else
  (ls.zip inn).foldl mulShare ((constsIn S (ls.zip inn)).foldl fdiv ((namesB ls).foldl (fun s v => sharedW (spotsIn S (ls.zip inn) v) s) ((ls.zip inn).foldl (mulRows S) oneW)))

/-- Numbers as a set. -/
def putNum (o : Option (List Bool)) (i : Int) : Option (List Bool) := match o with
  | some inn => if 0 ≤ i ∧ inn[i.toNat]? = some false then some (inn.set i.toNat true) else none
  | none => none
def setW (n : Nat) (xs : List Int) : Option (List Bool) := xs.foldl putNum (some (List.replicate n false))
open Classical in
/-- ... which stands by itself. -/
noncomputable def setOk (ls : List LitZ) (xs : List Int) : Option (List Bool) := match setW ls.length xs with
  | some inn => if stands ls inn then some inn else none
  | none => none
/-- The guess of a set and what is wrong. -/
noncomputable def guessE (r : RuleZ) (S : List StatZ) (xs : List Int) : Nat × Nat := if errR r S = 0 then match setOk r.2.1 xs with
  | some inn => (guessW S r.2.1 inn, 0)
  | none => (0, 2) else (0, errR r S)
/-- An order: each beginning of it is a set that stands. -/
def orderOk (ls : List LitZ) (xs : List Int) : Prop := xs.length = ls.length ∧ ∀ i, i ≤ xs.length → (setOk ls (xs.take i)).isSome = true
noncomputable def guessOf (S : List StatZ) (ls : List LitZ) (xs : List Int) : Nat := match setOk ls xs with
  | some inn => guessW S ls inn
  | none => 0
noncomputable def costTo (S : List StatZ) (ls : List LitZ) (xs : List Int) : Nat → Nat
  | 0 => 0
  | i + 1 => fadd (costTo S ls xs i) (guessOf S ls (xs.take (i + 1)))
open Classical in
noncomputable def costE (r : RuleZ) (S : List StatZ) (xs : List Int) : Nat × Nat := if errR r S = 0 then if orderOk r.2.1 xs then (costTo S r.2.1 xs xs.length, 0) else (0, 2) else (0, errR r S)

/-- What a guess needs of what is known: numbers that are no NaN. -/
theorem atLeast_ge (d : Nat) : oneW ≤ atLeast d := by unfold atLeast; split <;> omega
theorem atLeast_lt (d : Nat) : atLeast d < infW := by
  unfold atLeast; split
  · rename_i h; exact h.2
  · decide
theorem distW_ge (S : List StatZ) (l : LitZ) (c : Nat) : oneW ≤ distW S l c := by
  unfold distW; split
  · exact atLeast_ge _
  · exact Nat.le_refl _
theorem distW_lt (S : List StatZ) (l : LitZ) (c : Nat) : distW S l c < infW := by
  unfold distW; split
  · exact atLeast_lt _
  · decide
theorem distW_pos (S : List StatZ) (l : LitZ) (c : Nat) : 0 < distW S l c := Nat.lt_of_lt_of_le (by decide) (distW_ge S l c)
theorem shareW_pos (l : LitZ) : 0 < shareW l ∧ shareW l < infW := by
  unfold shareW; repeat' split
  all_goals decide
end Go.Proofs.Ytcphalpcdcddpaa

/- Real numbers by their words: which are finite ones from 0 on; comparisons with 0, 1, the greatest. No program in sight. -/
namespace Go.Proofs.Ytcphalpcdcddpaa
open Ieee
set_option linter.unusedVariables false

abbrev negW : Nat := 9223372036854775808
/-- A word above that of infinity, read. -/
theorem read_nan {x : Nat} (h : infW < x) (h' : x < negW) : ∃ f, double.read x = .nan false f := by
  have h1 : x / 9223372036854775808 = 0 := Nat.div_eq_of_lt h'
  have h2 : x % 9223372036854775808 = x := Nat.mod_eq_of_lt h'
  unfold infW at h
  refine ⟨x - 9218868437227405312, ?_⟩
  show (if x % 9223372036854775808 < 4503599627370496 then Datum.number (x / 9223372036854775808 % 2 == 1) (x % 9223372036854775808) (-1074) else
    if x % 9223372036854775808 < 9218868437227405312 then Datum.number (x / 9223372036854775808 % 2 == 1) (4503599627370496 + x % 9223372036854775808 % 4503599627370496) (-1074 + ((x % 9223372036854775808 / 4503599627370496 - 1 : Nat) : Int)) else
    if x % 9223372036854775808 = 9218868437227405312 then .infinity (x / 9223372036854775808 % 2 == 1) else .nan (x / 9223372036854775808 % 2 == 1) (x % 9223372036854775808 - 9218868437227405312)) = _
  rw [h1, h2, if_neg (by omega), if_neg (by omega), if_neg (by omega)]; rfl
/-- A word with a sign, read. -/
theorem read_neg {x : Nat} (h : negW ≤ x) (h' : x < 18446744073709551616) : (∃ m p, double.read x = .number true m p ∧ (negW < x → m ≠ 0)) ∨ double.read x = .infinity true ∨ ∃ f, double.read x = .nan true f := by
  have h1 : x / 9223372036854775808 % 2 = 1 := by
    have n1 : negW = 9223372036854775808 := rfl
    rw [show x / 9223372036854775808 = 1 by have := Nat.div_add_mod x 9223372036854775808; have := Nat.mod_lt x (show 0 < 9223372036854775808 by decide); omega]
  have hr : double.read x = (if x % 9223372036854775808 < 4503599627370496 then Datum.number (x / 9223372036854775808 % 2 == 1) (x % 9223372036854775808) (-1074) else
    if x % 9223372036854775808 < 9218868437227405312 then Datum.number (x / 9223372036854775808 % 2 == 1) (4503599627370496 + x % 9223372036854775808 % 4503599627370496) (-1074 + ((x % 9223372036854775808 / 4503599627370496 - 1 : Nat) : Int)) else
    if x % 9223372036854775808 = 9218868437227405312 then .infinity (x / 9223372036854775808 % 2 == 1) else .nan (x / 9223372036854775808 % 2 == 1) (x % 9223372036854775808 - 9218868437227405312)) := rfl
  rw [hr, h1]
  split
  · exact .inl ⟨_, _, rfl, fun hx => by unfold negW at hx; omega⟩
  · split
    · exact .inl ⟨_, _, rfl, fun _ => by omega⟩
    · split
      · exact .inr (.inl rfl)
      · exact .inr (.inr ⟨_, rfl⟩)
theorem read_zero : double.read 0 = .number false 0 (-1074) := by decide
theorem order_nan {x : Nat} (y : Nat) {s : Bool} {f : Nat} (h : double.read x = .nan s f) : double.order x y = none := by
  unfold Format.order; rw [h]; rfl
/-- A number with a sign against one without. -/
theorem order_neg {x y : Nat} (h : negW < x) (h' : x < 18446744073709551616) (hy : y ≤ infW) : double.order x y = none ∨ double.order x y = some .lt := by
  unfold Format.order
  rcases read_neg (Nat.le_of_lt h) h' with ⟨m, p, e, hm⟩ | e | ⟨f, e⟩
  · right
    rcases Nat.lt_or_eq_of_le hy with hy | hy
    · obtain ⟨n, l, e2, v2⟩ := read_fin hy
      rw [e, e2]
      simp only [Datum.order]
      have hm := hm h
      congr 1
      rw [Int.compare_eq_lt]
      unfold signed
      rw [if_pos rfl, if_neg (by decide), Nat.shiftLeft_eq, Nat.shiftLeft_eq]
      have : 0 < m * 2 ^ (p - min p (-1074 + (l : Int))).toNat := Nat.mul_pos (by omega) (Nat.two_pow_pos _)
      omega
    · rw [e, hy, read_inf]; rfl
  · right
    rw [e]
    rcases Nat.lt_or_eq_of_le hy with hy | hy
    · obtain ⟨n, l, e2, v2⟩ := read_fin hy
      rw [e2]; rfl
    · rw [hy, read_inf]; decide
  · left; rw [e]; rfl

/-- From 0 on? -/
theorem ge_zero {x : Nat} (hx : x < 18446744073709551616) : (double.order x 0 == some .gt || double.order x 0 == some .eq) = decide (x ≤ infW ∨ x = negW) := by
  by_cases h1 : x ≤ infW
  · rw [order_pos h1 (by decide), decide_eq_true (.inl h1)]
    rcases Nat.eq_zero_or_pos x with h | h
    · subst h; decide
    · rw [Nat.compare_eq_gt.2 h]; decide
  · by_cases h2 : x < negW
    · obtain ⟨f, e⟩ := read_nan (by omega) h2
      rw [order_nan 0 e, decide_eq_false (by omega)]; rfl
    · by_cases h3 : x = negW
      · subst h3; decide
      · rw [decide_eq_false (by omega)]
        rcases order_neg (show negW < x by omega) hx (show 0 ≤ infW by decide) with e | e <;> rw [e] <;> decide
/-- Above the greatest finite one? -/
theorem gt_max {x : Nat} (hx : x ≤ infW) : (double.order x 9218868437227405311 == some .gt) = decide (x = infW) := by
  rw [order_pos hx (by decide)]
  have n2 : infW = 9218868437227405312 := rfl
  rcases Nat.lt_trichotomy x 9218868437227405311 with h | h | h
  · rw [Nat.compare_eq_lt.2 h, decide_eq_false (by omega)]; rfl
  · subst h; decide
  · rw [Nat.compare_eq_gt.2 h, decide_eq_true (by omega)]; rfl
/-- A finite number less itself. -/
theorem sub_self {x : Nat} (h : x < infW) : double.sub x x = some 0 := by
  obtain ⟨m, k, e, _⟩ := read_fin h
  unfold Format.sub
  rw [e]
  have h0 : ∀ (p : Int), ((Datum.number false m p).sum (Datum.number false m p).opposite).map double.write = some 0 := fun p => by
    simp only [Datum.opposite, Datum.sum]
    have e1 : signed false m (p - min p p).toNat + signed (!false) m (p - min p p).toNat = 0 := by
      unfold signed; simp only [Bool.not_false, if_true]; rw [if_neg (by decide)]; omega
    rw [e1]
    rfl
  exact h0 _
theorem sub_self_neg : double.sub negW negW = some 0 := by decide
theorem sub_self_inf : double.sub infW infW = none := by decide
/-- Is it nought? -/
theorem eq_zero {x : Nat} (h : finW x = true) : (double.order x 0 == some .eq) = zeroW x := by
  unfold zeroW
  rcases of_decide_eq_true h with h | h
  · rw [order_pos (by omega) (by decide)]
    rcases Nat.eq_zero_or_pos x with h' | h'
    · subst h'; decide
    · rw [Nat.compare_eq_gt.2 h', decide_eq_false (by unfold infW at h; omega)]; rfl
  · subst h; decide
/-- Above 1? -/
theorem gt_one {d : Nat} (h : finW d = true) : (double.order d oneW == some .gt) = decide (oneW < d ∧ d < infW) := by
  rcases of_decide_eq_true h with h | h
  · rw [order_pos (by omega) (by decide)]
    rcases Nat.lt_trichotomy d oneW with h' | h' | h'
    · rw [Nat.compare_eq_lt.2 h', decide_eq_false (by omega)]; rfl
    · subst h'; decide
    · rw [Nat.compare_eq_gt.2 h', decide_eq_true ⟨h', h⟩]; rfl
  · subst h; decide
/-- 1 against a number. -/
theorem one_order {d : Nat} (h : finW d = true) : ∃ o, double.order oneW d = some o ∧ (match o with | .lt => d | .gt => oneW | .eq => if (double.read oneW).neg then d else oneW) = atLeast d := by
  unfold atLeast
  rcases of_decide_eq_true h with h | h
  · refine ⟨_, order_pos (by decide) (by omega), ?_⟩
    rcases Nat.lt_trichotomy oneW d with h' | h' | h'
    · rw [Nat.compare_eq_lt.2 h']
      show d = if oneW < d ∧ d < infW then d else oneW
      rw [if_pos ⟨h', h⟩]
    · subst h'; decide
    · rw [Nat.compare_eq_gt.2 h']
      show oneW = if oneW < d ∧ d < infW then d else oneW
      rw [if_neg (fun k => by have := k.1; omega)]
  · subst h; exact ⟨.gt, by decide, by decide⟩
end Go.Proofs.Ytcphalpcdcddpaa

/- Guesses: the program's lists of columns against the document's. No program in sight. -/
namespace Go.Proofs.Ytcphalpcdcddpaa
set_option linter.unusedVariables false

/-- The columns of a variable, as the program keeps them: each with the number of its literal. -/
def spotsOne (S : List StatZ) (v : ByteArray) (l : LitZ) (i : Nat) : List (Nat × Nat) := if l.1 = 1 then ((colsW S l).filterMap (isVarT v)).map fun d => (i, d) else []
def spotsP (S : List StatZ) (v : ByteArray) : Nat → List LitZ → List (Nat × Nat)
  | _, [] => []
  | i, l :: ls => spotsOne S v l i ++ spotsP S v (i + 1) ls
def constsOne (S : List StatZ) (l : LitZ) (i : Nat) : List (Nat × Nat) := if l.1 = 1 then ((colsW S l).filterMap isConstT).map fun d => (i, d) else []
def constsP (S : List StatZ) : Nat → List LitZ → List (Nat × Nat)
  | _, [] => []
  | i, l :: ls => constsOne S l i ++ constsP S (i + 1) ls
/-- Those of a set. -/
def inSet (inn : List Bool) (xs : List (Nat × Nat)) : List Nat := xs.filterMap fun x => if inn[x.1]? = some true then some x.2 else none

theorem inSet_append (inn : List Bool) (xs ys : List (Nat × Nat)) : inSet inn (xs ++ ys) = inSet inn xs ++ inSet inn ys := by
  unfold inSet; rw [List.filterMap_append]
theorem inSet_one (inn : List Bool) (i : Nat) (ds : List Nat) : inSet inn (ds.map fun d => (i, d)) = if inn[i]? = some true then ds else [] := by
  unfold inSet
  rw [List.filterMap_map]
  by_cases h : inn[i]? = some true
  · rw [if_pos h]
    induction ds with
    | nil => rfl
    | cons d ds ih => rw [List.filterMap_cons]; simp only [Function.comp, h, if_true]; exact congrArg (d :: ·) ih
  · rw [if_neg h]
    induction ds with
    | nil => rfl
    | cons d ds ih => rw [List.filterMap_cons]; simp only [Function.comp, h, if_false]; exact ih
theorem spots_in (S : List StatZ) (v : ByteArray) : ∀ (ls : List LitZ) (i : Nat) (pre : List Bool) (inn : List Bool), pre.length = i → inn.length = ls.length → inSet (pre ++ inn) (spotsP S v i ls) = spotsIn S (ls.zip inn) v
  | [], i, pre, inn, _, _ => by simp [spotsP, inSet, spotsIn]
  | l :: ls, i, pre, [], _, h => by simp at h
  | l :: ls, i, pre, b :: inn, hp, h => by
    have ih := spots_in S v ls (i + 1) (pre ++ [b]) inn (by simp [hp]) (by simpa using h)
    rw [List.append_assoc, List.singleton_append] at ih
    rw [spotsP, inSet_append, ih]
    unfold spotsIn
    rw [List.zip_cons_cons, List.flatMap_cons]
    congr 1
    have hb : (pre ++ b :: inn)[i]? = some b := by rw [List.getElem?_append_right (by omega), hp, Nat.sub_self]; rfl
    unfold spotsOne spotsL
    by_cases h1 : l.1 = 1
    · rw [if_pos h1, inSet_one, hb]
      cases b <;> simp [h1]
    · rw [if_neg h1, if_neg (fun k => h1 k.2)]; rfl
theorem consts_in (S : List StatZ) : ∀ (ls : List LitZ) (i : Nat) (pre : List Bool) (inn : List Bool), pre.length = i → inn.length = ls.length → inSet (pre ++ inn) (constsP S i ls) = constsIn S (ls.zip inn)
  | [], i, pre, inn, _, _ => by simp [constsP, inSet, constsIn]
  | l :: ls, i, pre, [], _, h => by simp at h
  | l :: ls, i, pre, b :: inn, hp, h => by
    have ih := consts_in S ls (i + 1) (pre ++ [b]) inn (by simp [hp]) (by simpa using h)
    rw [List.append_assoc, List.singleton_append] at ih
    rw [constsP, inSet_append, ih]
    unfold constsIn
    rw [List.zip_cons_cons, List.flatMap_cons]
    congr 1
    have hb : (pre ++ b :: inn)[i]? = some b := by rw [List.getElem?_append_right (by omega), hp, Nat.sub_self]; rfl
    unfold constsOne constsL
    by_cases h1 : l.1 = 1
    · rw [if_pos h1, inSet_one, hb]
      cases b <;> simp [h1]
    · rw [if_neg h1, if_neg (fun k => h1 k.2)]; rfl
theorem spotsP_snoc (S : List StatZ) (v : ByteArray) (l : LitZ) : ∀ (ls : List LitZ) (i : Nat), spotsP S v i (ls ++ [l]) = spotsP S v i ls ++ spotsOne S v l (i + ls.length)
  | [], i => by simp [spotsP]
  | a :: ls, i => by
    rw [List.cons_append, spotsP, spotsP_snoc S v l ls (i + 1), spotsP, List.append_assoc, List.length_cons]
    congr 3; omega
theorem constsP_snoc (S : List StatZ) (l : LitZ) : ∀ (ls : List LitZ) (i : Nat), constsP S i (ls ++ [l]) = constsP S i ls ++ constsOne S l (i + ls.length)
  | [], i => by simp [constsP]
  | a :: ls, i => by
    rw [List.cons_append, constsP, constsP_snoc S l ls (i + 1), constsP, List.append_assoc, List.length_cons]
    congr 3; omega
theorem spotsP_take (S : List StatZ) (v : ByteArray) {ls : List LitZ} {i : Nat} {l : LitZ} (h : ls[i]? = some l) : spotsP S v 0 (ls.take (i + 1)) = spotsP S v 0 (ls.take i) ++ spotsOne S v l i := by
  have hi := (List.getElem?_eq_some_iff.1 h).1
  rw [List.take_add_one, h]
  show spotsP S v 0 (ls.take i ++ [l]) = _
  rw [spotsP_snoc, Nat.zero_add, List.length_take, Nat.min_eq_left (by omega)]
theorem constsP_take (S : List StatZ) {ls : List LitZ} {i : Nat} {l : LitZ} (h : ls[i]? = some l) : constsP S 0 (ls.take (i + 1)) = constsP S 0 (ls.take i) ++ constsOne S l i := by
  have hi := (List.getElem?_eq_some_iff.1 h).1
  rw [List.take_add_one, h]
  show constsP S 0 (ls.take i ++ [l]) = _
  rw [constsP_snoc, Nat.zero_add, List.length_take, Nat.min_eq_left (by omega)]

/-- One more column of a literal. -/
def spotsCol (S : List StatZ) (v : ByteArray) (l : LitZ) (i c : Nat) : List (Nat × Nat) := (((colsW S l).take c).filterMap (isVarT v)).map fun d => (i, d)
def constsCol (S : List StatZ) (l : LitZ) (i c : Nat) : List (Nat × Nat) := (((colsW S l).take c).filterMap isConstT).map fun d => (i, d)
theorem cols_get (S : List StatZ) {l : LitZ} {c : Nat} {t : TermZ} (h : (termsOf l)[c]? = some t) : (colsW S l)[c]? = some (t, distW S l c) := by
  unfold colsW
  rw [List.getElem?_mapIdx, h]; rfl
theorem cols_len (S : List StatZ) (l : LitZ) : (colsW S l).length = (termsOf l).length := by unfold colsW; rw [List.length_mapIdx]
theorem spotsCol_zero (S : List StatZ) (v : ByteArray) (l : LitZ) (i : Nat) : spotsCol S v l i 0 = [] := rfl
theorem constsCol_zero (S : List StatZ) (l : LitZ) (i : Nat) : constsCol S l i 0 = [] := rfl
theorem spotsCol_succ (S : List StatZ) (v : ByteArray) {l : LitZ} {c : Nat} {t : TermZ} (i : Nat) (h : (termsOf l)[c]? = some t) : spotsCol S v l i (c + 1) = spotsCol S v l i c ++ if t.1 = 1 ∧ t.2.1 = v then [(i, distW S l c)] else [] := by
  unfold spotsCol
  rw [filterMap_take _ (cols_get S h), List.map_append]
  congr 1
  unfold isVarT
  split <;> rfl
theorem constsCol_succ (S : List StatZ) {l : LitZ} {c : Nat} {t : TermZ} (i : Nat) (h : (termsOf l)[c]? = some t) : constsCol S l i (c + 1) = constsCol S l i c ++ if t.1 = 3 then [(i, distW S l c)] else [] := by
  unfold constsCol
  rw [filterMap_take _ (cols_get S h), List.map_append]
  congr 1
  unfold isConstT
  split <;> rfl
theorem spotsCol_all (S : List StatZ) (v : ByteArray) {l : LitZ} (i : Nat) {c : Nat} (h : (termsOf l).length ≤ c) (h1 : l.1 = 1) : spotsCol S v l i c = spotsOne S v l i := by
  unfold spotsCol spotsOne
  rw [if_pos h1, List.take_of_length_le (by rw [cols_len]; exact h)]
theorem constsCol_all (S : List StatZ) {l : LitZ} (i : Nat) {c : Nat} (h : (termsOf l).length ≤ c) (h1 : l.1 = 1) : constsCol S l i c = constsOne S l i := by
  unfold constsCol constsOne
  rw [if_pos h1, List.take_of_length_le (by rw [cols_len]; exact h)]
/-- All that a spot names is in reach. -/
theorem spotsP_lt (S : List StatZ) (v : ByteArray) : ∀ (ls : List LitZ) (i : Nat) x, x ∈ spotsP S v i ls → x.1 < i + ls.length ∧ oneW ≤ x.2 ∧ x.2 < infW
  | [], i, x, h => by simp [spotsP] at h
  | l :: ls, i, x, h => by
    rw [spotsP, List.mem_append] at h
    rcases h with h | h
    · unfold spotsOne at h
      split at h
      · obtain ⟨d, hd, rfl⟩ := List.mem_map.1 h
        refine ⟨by simp, ?_⟩
        obtain ⟨y, hy, e⟩ := List.mem_filterMap.1 hd
        unfold colsW at hy
        obtain ⟨c, hc, rfl⟩ := List.mem_mapIdx.1 hy
        unfold isVarT at e
        split at e
        · cases e; exact ⟨distW_ge S l c, distW_lt S l c⟩
        · cases e
      · cases h
    · obtain ⟨h1, h2⟩ := spotsP_lt S v ls (i + 1) x h
      exact ⟨by simp only [List.length_cons]; omega, h2⟩
theorem constsP_lt (S : List StatZ) : ∀ (ls : List LitZ) (i : Nat) x, x ∈ constsP S i ls → x.1 < i + ls.length ∧ oneW ≤ x.2 ∧ x.2 < infW
  | [], i, x, h => by simp [constsP] at h
  | l :: ls, i, x, h => by
    rw [constsP, List.mem_append] at h
    rcases h with h | h
    · unfold constsOne at h
      split at h
      · obtain ⟨d, hd, rfl⟩ := List.mem_map.1 h
        refine ⟨by simp, ?_⟩
        obtain ⟨y, hy, e⟩ := List.mem_filterMap.1 hd
        unfold colsW at hy
        obtain ⟨c, hc, rfl⟩ := List.mem_mapIdx.1 hy
        unfold isConstT at e
        split at e
        · cases e; exact ⟨distW_ge S l c, distW_lt S l c⟩
        · cases e
      · cases h
    · obtain ⟨h1, h2⟩ := constsP_lt S ls (i + 1) x h
      exact ⟨by simp only [List.length_cons]; omega, h2⟩

/-- The place of the first least one. -/
theorem leastTo_le (l : List Nat) : ∀ n, 0 < n → leastTo l n < n
  | 1, _ => by unfold leastTo; split <;> simp [leastTo]
  | n + 2, _ => by
    have := leastTo_le l (n + 1) (by omega)
    unfold leastTo
    split <;> omega
theorem leastTo_min (l : List Nat) : ∀ n j, j < n → l.getD (leastTo l n) 0 ≤ l.getD j 0
  | n + 1, j, h => by
    unfold leastTo
    split
    · rename_i h1
      by_cases e : j = n
      · rw [e]; exact Nat.le_refl _
      · have := leastTo_min l n j (by omega); omega
    · rename_i h1
      by_cases e : j = n
      · rw [e]; omega
      · exact leastTo_min l n j (by omega)
theorem leastTo_first (l : List Nat) : ∀ n j, j < leastTo l n → l.getD (leastTo l n) 0 < l.getD j 0
  | 0, j, h => by simp [leastTo] at h
  | n + 1, j, h => by
    unfold leastTo at h ⊢
    split
    · rename_i h1
      rw [if_pos h1] at h
      have := leastTo_min l n j h; omega
    · rename_i h1
      rw [if_neg h1] at h
      exact leastTo_first l n j h
/-- Of fewer than two nothing is divided. -/
theorem sharedW_short {l : List Nat} (h : l.length < 2) (s : Nat) : sharedW l s = s := by
  match l, h with
  | [], _ => rfl
  | [a], _ => simp [sharedW, leastI, leastTo, divAll]
theorem divAll_le {l : List Nat} (hl : ∀ x ∈ l, oneW ≤ x ∧ x < infW) (k : Nat) {s : Nat} (hs : s ≤ infW) : ∀ n, n ≤ l.length → divAll k l s n ≤ infW
  | 0, _ => hs
  | n + 1, h => by
    have ih := divAll_le hl k hs n (by omega)
    unfold divAll
    split
    · exact ih
    · have hx := hl (l.getD n 0) (by rw [List.getD_eq_getElem?_getD, List.getElem?_eq_getElem (by omega)]; exact List.getElem_mem _)
      exact fdiv_le ih (Nat.lt_of_lt_of_le (by decide) hx.1) hx.2
theorem inSet_ok {inn : List Bool} {xs : List (Nat × Nat)} (h : ∀ x ∈ xs, oneW ≤ x.2 ∧ x.2 < infW) : ∀ d ∈ inSet inn xs, oneW ≤ d ∧ d < infW := fun d hd => by
  obtain ⟨x, hx, e⟩ := List.mem_filterMap.1 hd
  split at e
  · cases e; exact h x hx
  · cases e
end Go.Proofs.Ytcphalpcdcddpaa

/- What is known of a literal's predicate; sets of literals, part by part. No program in sight. -/
namespace Go.Proofs.Ytcphalpcdcddpaa
set_option linter.unusedVariables false

/-- What statsOk says, part by part. -/
structure Known (S : List StatZ) (ls : List LitZ) : Prop where
  rows : ∀ s ∈ S, finW s.2.1 = true
  dist : ∀ s ∈ S, ∀ x ∈ s.2.2.1, finW x = true
  uniq : ∀ (i j : Nat) (s u : StatZ), S[i]? = some s → S[j]? = some u → s.1 = u.1 → i = j
  fit : ∀ s ∈ S, ∀ l ∈ ls, l.1 = 1 → predOf l = s.1 → (termsOf l).length = s.2.2.1.length
theorem Known.of {r : RuleZ} {S : List StatZ} (h : statsOk r S) : Known S r.2.1 := by
  have hm : ∀ s ∈ S, ∃ i : Nat, S[i]? = some s := fun s hs => by
    obtain ⟨i, hi, rfl⟩ := List.mem_iff_getElem.1 hs
    exact ⟨i, List.getElem?_eq_getElem hi⟩
  have hp : ∀ (i : Nat) (s : StatZ), S[i]? = some s → finW s.2.1 = true ∧ s.2.2.1.all finW = true ∧ (S.take i).all (fun u => decide (u.1 ≠ s.1)) = true ∧ r.2.1.all (fitL s) = true := fun i s hs => by
    have := h i s hs
    unfold statOk at this
    simp only [Bool.and_eq_true] at this
    exact ⟨this.1.1.1, this.1.1.2, this.1.2, this.2⟩
  have hlt : ∀ (i j : Nat) (s u : StatZ), S[i]? = some s → S[j]? = some u → s.1 = u.1 → ¬ i < j := fun i j s u hi hj he hl => by
    have h1 := List.all_eq_true.1 (hp j u hj).2.2.1 s (List.mem_of_getElem? (i := i) (by rw [List.getElem?_take, if_pos hl]; exact hi))
    exact of_decide_eq_true h1 he
  refine ⟨fun s hs => ?_, fun s hs x hx => ?_, fun i j s u hi hj he => ?_, fun s hs l hl h1 h2 => ?_⟩
  · obtain ⟨i, hi⟩ := hm s hs; exact (hp i s hi).1
  · obtain ⟨i, hi⟩ := hm s hs; exact List.all_eq_true.1 (hp i s hi).2.1 x hx
  · have a := hlt i j s u hi hj he
    have b := hlt j i u s hj hi he.symm
    omega
  · obtain ⟨i, hi⟩ := hm s hs
    exact of_decide_eq_true (List.all_eq_true.1 (hp i s hi).2.2.2 l hl) h1 h2
theorem statOf_none {S : List StatZ} {l : LitZ} (h : ∀ u ∈ S, u.1 ≠ predOf l) : statOf S l = none := by
  unfold statOf
  rw [List.find?_eq_none]
  intro u hu; simpa using h u hu
theorem statOf_some {S : List StatZ} {l : LitZ} {s : StatZ} (h : statOf S l = some s) : s ∈ S ∧ s.1 = predOf l := by
  unfold statOf at h
  exact ⟨List.mem_of_find?_eq_some h, of_decide_eq_true (by simpa using List.find?_some h)⟩
theorem statOf_first {l : LitZ} {s : StatZ} : ∀ {S : List StatZ} {i : Nat}, S[i]? = some s → s.1 = predOf l → (∀ (j : Nat) u, j < i → S[j]? = some u → u.1 ≠ predOf l) → statOf S l = some s
  | [], i, h, _, _ => by simp at h
  | a :: S, 0, h, hp, _ => by
    simp at h; subst h
    unfold statOf; rw [List.find?_cons_of_pos]; simpa using hp
  | a :: S, i + 1, h, hp, hno => by
    have h0 := hno 0 a (by omega) rfl
    unfold statOf; rw [List.find?_cons_of_neg (by simpa using h0)]
    exact statOf_first (S := S) (i := i) (by simpa using h) hp fun j u hj hu => hno (j + 1) u (by omega) (by simpa using hu)
theorem Known.at {S : List StatZ} {ls : List LitZ} (k : Known S ls) {i : Nat} {s : StatZ} {l : LitZ} (hs : S[i]? = some s) (hp : s.1 = predOf l) : statOf S l = some s :=
  statOf_first hs hp fun j u hj hu he => by
    have := k.uniq i j s u hs hu (hp.trans he.symm); omega
theorem Known.rowsFin {S : List StatZ} {ls : List LitZ} (k : Known S ls) (l : LitZ) : finW (rowsW S l) = true := by
  unfold rowsW
  split
  · rename_i s h; exact k.rows s (statOf_some h).1
  · decide
theorem fin_lt {x : Nat} (h : finW x = true) (h0 : zeroW x = false) : 0 < x ∧ x < infW := by
  unfold finW at h; unfold zeroW at h0
  have h1 := of_decide_eq_true h
  have h2 := of_decide_eq_false h0
  omega
/-- One more column. -/
theorem distW_at {S : List StatZ} {l : LitZ} {s : StatZ} (h : statOf S l = some s) (c : Nat) : distW S l c = atLeast (s.2.2.1.getD c 0) := by unfold distW; rw [h]
theorem distW_none {S : List StatZ} {l : LitZ} (h : statOf S l = none) (c : Nat) : distW S l c = oneW := by unfold distW; rw [h]

/-- Is a variable in the i-th literal, a positive one of the set? -/
def boundAt (ls : List LitZ) (inn : List Bool) (v : ByteArray) (i : Nat) : Prop := ∃ l : LitZ, ls[i]? = some l ∧ inn[i]? = some true ∧ l.1 = 1 ∧ v ∈ varsT (termsOf l)
theorem mem_varsT {ts : List TermZ} {v : ByteArray} : v ∈ varsT ts ↔ ∃ (j : Nat) (t : TermZ), ts[j]? = some t ∧ t.1 = 1 ∧ t.2.1 = v := by
  unfold varsT
  rw [List.mem_filterMap]
  constructor
  · rintro ⟨t, ht, e⟩
    obtain ⟨j, hj, rfl⟩ := List.mem_iff_getElem.1 ht
    refine ⟨j, _, List.getElem?_eq_getElem hj, ?_⟩
    split at e
    · rename_i h; cases e; exact ⟨h, rfl⟩
    · cases e
  · rintro ⟨j, t, ht, h1, h2⟩
    exact ⟨t, List.mem_of_getElem? ht, by rw [if_pos h1, h2]⟩
/-- What a literal asks is bound. -/
def standsAt (ls : List LitZ) (inn : List Bool) (i : Nat) : Prop := ∀ l : LitZ, ls[i]? = some l → inn[i]? = some true → l.1 ≠ 1 → ∀ v ∈ varsT (asks l), boundIn ls inn v

/-- The pairs of a set. -/
theorem zip_at {ls : List LitZ} {inn : List Bool} {i : Nat} {l : LitZ} {b : Bool} (h1 : ls[i]? = some l) (h2 : inn[i]? = some b) : (ls.zip inn)[i]? = some (l, b) := by
  rw [List.getElem?_zip_eq_some]; exact ⟨h1, h2⟩
theorem zip_len {ls : List LitZ} {inn : List Bool} (h : inn.length = ls.length) : (ls.zip inn).length = ls.length := by
  rw [List.length_zip, h, Nat.min_self]
/-- The columns of a variable so far in a literal. -/
def spotsPart (S : List StatZ) (v : ByteArray) (p : LitZ × Bool) (c : Nat) : List Nat := if p.2 = true ∧ p.1.1 = 1 then ((colsW S p.1).take c).filterMap (isVarT v) else []
theorem spotsPart_zero (S : List StatZ) (v : ByteArray) (p : LitZ × Bool) : spotsPart S v p 0 = [] := by unfold spotsPart; split <;> rfl
theorem spotsPart_succ (S : List StatZ) (v : ByteArray) {l : LitZ} {c : Nat} {t : TermZ} (h1 : l.1 = 1) (h : (termsOf l)[c]? = some t) : spotsPart S v (l, true) (c + 1) = spotsPart S v (l, true) c ++ if t.1 = 1 ∧ t.2.1 = v then [distW S l c] else [] := by
  unfold spotsPart
  rw [if_pos ⟨rfl, h1⟩, if_pos ⟨rfl, h1⟩, filterMap_take _ (cols_get S h)]
  congr 1
  unfold isVarT
  split <;> rfl
theorem spotsPart_all (S : List StatZ) (v : ByteArray) {p : LitZ × Bool} {c : Nat} (h : (termsOf p.1).length ≤ c) : spotsPart S v p c = spotsL S v p := by
  unfold spotsPart spotsL
  rw [List.take_of_length_le (by rw [cols_len]; exact h)]
theorem spotsPart_off (S : List StatZ) (v : ByteArray) {p : LitZ × Bool} {c : Nat} (h : ¬ (p.2 = true ∧ p.1.1 = 1)) : spotsPart S v p c = spotsL S v p := by
  unfold spotsPart spotsL
  rw [if_neg h, if_neg h]
theorem spotsPart_len (S : List StatZ) (v : ByteArray) (p : LitZ × Bool) (c : Nat) : (spotsPart S v p c).length ≤ c := by
  unfold spotsPart; split
  · refine Nat.le_trans (List.length_filterMap_le _ _) ?_
    rw [List.length_take]; omega
  · simp
theorem spotsL_len (S : List StatZ) (v : ByteArray) (p : LitZ × Bool) : (spotsL S v p).length ≤ (termsOf p.1).length := by
  rw [← spotsPart_all S v (Nat.le_refl _)]; exact spotsPart_len _ _ _ _
theorem spotsIn_len (S : List StatZ) (v : ByteArray) (M : Nat) : ∀ (ps : Pairs), (∀ p ∈ ps, (termsOf p.1).length ≤ M) → (spotsIn S ps v).length ≤ ps.length * M
  | [], _ => by simp [spotsIn]
  | p :: ps, h => by
    have h1 := spotsIn_len S v M ps fun x hx => h x (List.mem_cons_of_mem _ hx)
    have h2 := spotsL_len S v p
    have h3 := h p List.mem_cons_self
    unfold spotsIn at h1 ⊢
    rw [List.flatMap_cons, List.length_append, List.length_cons, Nat.succ_mul]; omega
theorem spotsIn_take (S : List StatZ) (v : ByteArray) {ps : Pairs} {i : Nat} {p : LitZ × Bool} (h : ps[i]? = some p) : spotsIn S (ps.take (i + 1)) v = spotsIn S (ps.take i) v ++ spotsL S v p := flat_take _ h
theorem spotsL_ok (S : List StatZ) (v : ByteArray) (p : LitZ × Bool) : ∀ x ∈ spotsL S v p, oneW ≤ x ∧ x < infW := fun x hx => by
  unfold spotsL at hx
  split at hx
  · obtain ⟨y, hy, e⟩ := List.mem_filterMap.1 hx
    unfold colsW at hy
    obtain ⟨c, hc, rfl⟩ := List.mem_mapIdx.1 hy
    unfold isVarT at e
    split at e
    · cases e; exact ⟨distW_ge S _ c, distW_lt S _ c⟩
    · cases e
  · cases hx
theorem spotsIn_ok (S : List StatZ) (v : ByteArray) (ps : Pairs) : ∀ x ∈ spotsIn S ps v, oneW ≤ x ∧ x < infW := fun x hx => by
  obtain ⟨p, _, h⟩ := List.mem_flatMap.1 hx
  exact spotsL_ok S v p x h
/-- ... of constants. -/
def constsPart (S : List StatZ) (p : LitZ × Bool) (c : Nat) : List Nat := if p.2 = true ∧ p.1.1 = 1 then ((colsW S p.1).take c).filterMap isConstT else []
theorem constsPart_zero (S : List StatZ) (p : LitZ × Bool) : constsPart S p 0 = [] := by unfold constsPart; split <;> rfl
theorem constsPart_succ (S : List StatZ) {l : LitZ} {c : Nat} {t : TermZ} (h1 : l.1 = 1) (h : (termsOf l)[c]? = some t) : constsPart S (l, true) (c + 1) = constsPart S (l, true) c ++ if t.1 = 3 then [distW S l c] else [] := by
  unfold constsPart
  rw [if_pos ⟨rfl, h1⟩, if_pos ⟨rfl, h1⟩, filterMap_take _ (cols_get S h)]
  congr 1
  unfold isConstT
  split <;> rfl
theorem constsPart_all (S : List StatZ) {p : LitZ × Bool} {c : Nat} (h : (termsOf p.1).length ≤ c) : constsPart S p c = constsL S p := by
  unfold constsPart constsL
  rw [List.take_of_length_le (by rw [cols_len]; exact h)]
theorem constsPart_off (S : List StatZ) {p : LitZ × Bool} {c : Nat} (h : ¬ (p.2 = true ∧ p.1.1 = 1)) : constsPart S p c = constsL S p := by
  unfold constsPart constsL
  rw [if_neg h, if_neg h]
theorem constsIn_take (S : List StatZ) {ps : Pairs} {i : Nat} {p : LitZ × Bool} (h : ps[i]? = some p) : constsIn S (ps.take (i + 1)) = constsIn S (ps.take i) ++ constsL S p := flat_take _ h
theorem foldl_div_le {s : Nat} (hs : s ≤ infW) : ∀ (xs : List Nat), (∀ x ∈ xs, oneW ≤ x ∧ x < infW) → xs.foldl fdiv s ≤ infW
  | [], _ => hs
  | x :: xs, h => foldl_div_le (fdiv_le hs (Nat.lt_of_lt_of_le (by decide) (h x List.mem_cons_self).1) (h x List.mem_cons_self).2) xs fun y hy => h y (List.mem_cons_of_mem _ hy)
end Go.Proofs.Ytcphalpcdcddpaa

/- A guess, stage by stage. No program in sight. -/
namespace Go.Proofs.Ytcphalpcdcddpaa
set_option linter.unusedVariables false

/-- A positive literal of the set has rows. -/
def rowsOk (S : List StatZ) (ps : Pairs) : Prop := ∀ p ∈ ps, p.2 = true → p.1.1 = 1 → 0 < rowsW S p.1 ∧ rowsW S p.1 < infW
def mulTo (S : List StatZ) (ps : Pairs) (i : Nat) : Nat := (ps.take i).foldl (mulRows S) oneW
def sharTo (S : List StatZ) (ps : Pairs) (N : List ByteArray) (s i : Nat) : Nat := (N.take i).foldl (fun s v => sharedW (spotsIn S ps v) s) s
def constTo (S : List StatZ) (ps : Pairs) (s i : Nat) : Nat := (constsIn S (ps.take i)).foldl fdiv s
def constMid (S : List StatZ) (ps : Pairs) (s i : Nat) (p : LitZ × Bool) (c : Nat) : Nat := (constsPart S p c).foldl fdiv (constTo S ps s i)
def shareTo (ps : Pairs) (s i : Nat) : Nat := (ps.take i).foldl mulShare s

theorem mulTo_succ (S : List StatZ) {ps : Pairs} {i : Nat} {p : LitZ × Bool} (h : ps[i]? = some p) : mulTo S ps (i + 1) = mulRows S (mulTo S ps i) p := fold_take _ _ h
theorem sharTo_succ (S : List StatZ) (ps : Pairs) {N : List ByteArray} {s i : Nat} {v : ByteArray} (h : N[i]? = some v) : sharTo S ps N s (i + 1) = sharedW (spotsIn S ps v) (sharTo S ps N s i) := fold_take _ _ h
theorem shareTo_succ {ps : Pairs} {s i : Nat} {p : LitZ × Bool} (h : ps[i]? = some p) : shareTo ps s (i + 1) = mulShare (shareTo ps s i) p := fold_take _ _ h
theorem constMid_zero (S : List StatZ) (ps : Pairs) (s i : Nat) (p : LitZ × Bool) : constMid S ps s i p 0 = constTo S ps s i := by unfold constMid; rw [constsPart_zero]; rfl
theorem constMid_succ (S : List StatZ) (ps : Pairs) (s i : Nat) {l : LitZ} {c : Nat} {t : TermZ} (h1 : l.1 = 1) (h : (termsOf l)[c]? = some t) : constMid S ps s i (l, true) (c + 1) = if t.1 = 3 then fdiv (constMid S ps s i (l, true) c) (distW S l c) else constMid S ps s i (l, true) c := by
  unfold constMid
  rw [constsPart_succ S h1 h, List.foldl_append]
  split <;> rfl
theorem constMid_end (S : List StatZ) {ps : Pairs} (s : Nat) {i : Nat} {p : LitZ × Bool} (h : ps[i]? = some p) {c : Nat} (hc : constsPart S p c = constsL S p) : constMid S ps s i p c = constTo S ps s (i + 1) := by
  unfold constMid constTo
  rw [constsIn_take S h, List.foldl_append, hc]
theorem mulRows_le {S : List StatZ} {s : Nat} {p : LitZ × Bool} (hs : s ≤ infW) (hp : p.2 = true → p.1.1 = 1 → 0 < rowsW S p.1 ∧ rowsW S p.1 < infW) : mulRows S s p ≤ infW := by
  unfold mulRows
  split
  · rename_i h; exact fmul_le hs (hp h.1 h.2).1 (hp h.1 h.2).2
  · exact hs
theorem foldMul_le {S : List StatZ} : ∀ (ps : Pairs) (s : Nat), s ≤ infW → rowsOk S ps → ps.foldl (mulRows S) s ≤ infW
  | [], s, hs, _ => hs
  | p :: ps, s, hs, h => foldMul_le ps _ (mulRows_le hs (h p List.mem_cons_self)) fun q hq => h q (List.mem_cons_of_mem _ hq)
theorem mulTo_le {S : List StatZ} {ps : Pairs} (h : rowsOk S ps) (i : Nat) : mulTo S ps i ≤ infW := foldMul_le _ _ (by decide) fun p hp => h p (List.mem_of_mem_take hp)
theorem sharedW_le {L : List Nat} (hL : ∀ x ∈ L, oneW ≤ x ∧ x < infW) {s : Nat} (hs : s ≤ infW) : sharedW L s ≤ infW := divAll_le hL _ hs _ (Nat.le_refl _)
theorem foldShar_le (S : List StatZ) (ps : Pairs) : ∀ (N : List ByteArray) (s : Nat), s ≤ infW → N.foldl (fun s v => sharedW (spotsIn S ps v) s) s ≤ infW
  | [], s, hs => hs
  | v :: N, s, hs => foldShar_le S ps N _ (sharedW_le (spotsIn_ok S v ps) hs)
theorem sharTo_le (S : List StatZ) (ps : Pairs) (N : List ByteArray) {s : Nat} (hs : s ≤ infW) (i : Nat) : sharTo S ps N s i ≤ infW := foldShar_le _ _ _ _ hs
theorem constsPart_ok (S : List StatZ) (p : LitZ × Bool) (c : Nat) : ∀ x ∈ constsPart S p c, oneW ≤ x ∧ x < infW := fun x hx => by
  unfold constsPart at hx
  split at hx
  · obtain ⟨y, hy, e⟩ := List.mem_filterMap.1 hx
    have hy := List.mem_of_mem_take hy
    unfold colsW at hy
    obtain ⟨c, hc, rfl⟩ := List.mem_mapIdx.1 hy
    unfold isConstT at e
    split at e
    · cases e; exact ⟨distW_ge S _ c, distW_lt S _ c⟩
    · cases e
  · cases hx
theorem constsIn_ok (S : List StatZ) (ps : Pairs) : ∀ x ∈ constsIn S ps, oneW ≤ x ∧ x < infW := fun x hx => by
  obtain ⟨p, _, h⟩ := List.mem_flatMap.1 hx
  rw [← constsPart_all S (Nat.le_refl _)] at h
  exact constsPart_ok S p _ x h
theorem constTo_le (S : List StatZ) (ps : Pairs) {s : Nat} (hs : s ≤ infW) (i : Nat) : constTo S ps s i ≤ infW := foldl_div_le hs _ (constsIn_ok S _)
theorem constMid_le (S : List StatZ) (ps : Pairs) {s : Nat} (hs : s ≤ infW) (i : Nat) (p : LitZ × Bool) (c : Nat) : constMid S ps s i p c ≤ infW := foldl_div_le (constTo_le S ps hs i) _ (constsPart_ok S p c)
theorem mulShare_le {s : Nat} {p : LitZ × Bool} (hs : s ≤ infW) : mulShare s p ≤ infW := by
  unfold mulShare
  split
  · exact fmul_le hs (shareW_pos _).1 (shareW_pos _).2
  · exact hs
theorem foldShare_le : ∀ (ps : Pairs) (s : Nat), s ≤ infW → ps.foldl mulShare s ≤ infW
  | [], s, hs => hs
  | p :: ps, s, hs => foldShare_le ps _ (mulShare_le hs)
theorem shareTo_le (ps : Pairs) {s : Nat} (hs : s ≤ infW) (i : Nat) : shareTo ps s i ≤ infW := foldShare_le _ _ hs
/-- The whole of it. -/
theorem guessW_eq {S : List StatZ} {ls : List LitZ} {inn : List Bool} (hz : zeroIn S (ls.zip inn) = false) {n m : Nat} (hn : (ls.zip inn).length ≤ n) (hm : (namesB ls).length ≤ m) :
    guessW S ls inn = shareTo (ls.zip inn) (constTo S (ls.zip inn) (sharTo S (ls.zip inn) (namesB ls) (mulTo S (ls.zip inn) n) m) n) n := by
  unfold guessW shareTo constTo sharTo mulTo
  rw [if_neg (by rw [hz]; decide), List.take_of_length_le hn, List.take_of_length_le hm]
theorem guessW_zero {S : List StatZ} {ls : List LitZ} {inn : List Bool} {i : Nat} {l : LitZ} (h : (ls.zip inn)[i]? = some (l, true)) (h1 : l.1 = 1) (hz : zeroW (rowsW S l) = true) : guessW S ls inn = 0 := by
  unfold guessW
  rw [if_pos]
  unfold zeroIn
  rw [List.any_eq_true]
  exact ⟨_, List.mem_of_getElem? h, by simp [h1, hz]⟩
/-- No positive literal of the set without rows. -/
theorem zeroIn_no {S : List StatZ} {ps : Pairs} {n : Nat} (hn : ps.length ≤ n) (h : ∀ j, j < n → ¬ ∃ l : LitZ, ps[j]? = some (l, true) ∧ l.1 = 1 ∧ zeroW (rowsW S l) = true) : zeroIn S ps = false := by
  unfold zeroIn
  rw [List.any_eq_false]
  rintro ⟨l, b⟩ hp hh
  obtain ⟨j, hj, e⟩ := List.mem_iff_getElem.1 hp
  simp only [Bool.and_eq_true, decide_eq_true_eq] at hh
  obtain ⟨⟨rfl, h1⟩, hz⟩ := hh
  exact h j (by omega) ⟨l, by rw [List.getElem?_eq_getElem hj, e], h1, hz⟩
theorem rowsOk_of {S : List StatZ} {ls : List LitZ} (K : Known S ls) {ps : Pairs} (hz : zeroIn S ps = false) : rowsOk S ps := fun p hp h2 h1 => by
  unfold zeroIn at hz
  have := List.any_eq_false.1 hz p hp
  refine fin_lt (K.rowsFin p.1) ?_
  cases h : zeroW (rowsW S p.1)
  · rfl
  · exact absurd (by simp [h1, h2, h]) this
theorem mulRows_off {S : List StatZ} {s : Nat} {p : LitZ × Bool} (h : ¬ (p.2 = true ∧ p.1.1 = 1)) : mulRows S s p = s := if_neg h
theorem mulRows_on {S : List StatZ} {s : Nat} {l : LitZ} (h : l.1 = 1) : mulRows S s (l, true) = fmul s (rowsW S l) := if_pos ⟨rfl, h⟩
theorem mulShare_off {s : Nat} {p : LitZ × Bool} (h : ¬ (p.2 = true ∧ p.1.1 ≠ 1)) : mulShare s p = s := if_neg h
theorem mulShare_on {s : Nat} {l : LitZ} (h : l.1 ≠ 1) : mulShare s (l, true) = fmul s (shareW l) := if_pos ⟨rfl, h⟩
theorem guessW_le {S : List StatZ} {ls : List LitZ} (K : Known S ls) (inn : List Bool) : guessW S ls inn ≤ infW := by
  cases hz : zeroIn S (ls.zip inn) with
  | true => unfold guessW; rw [if_pos hz]; exact Nat.zero_le _
  | false =>
    rw [guessW_eq hz (Nat.le_refl _) (Nat.le_refl _)]
    exact shareTo_le _ (constTo_le _ _ (sharTo_le _ _ _ (mulTo_le (rowsOk_of K hz) _) _) _) _
theorem spotsOne_len' (S : List StatZ) (v : ByteArray) (l : LitZ) (i : Nat) : (spotsOne S v l i).length ≤ (termsOf l).length := by
  unfold spotsOne; split
  · rw [List.length_map]; exact Nat.le_trans (List.length_filterMap_le _ _) (Nat.le_of_eq (cols_len S l))
  · simp
theorem constsOne_len' (S : List StatZ) (l : LitZ) (i : Nat) : (constsOne S l i).length ≤ (termsOf l).length := by
  unfold constsOne; split
  · rw [List.length_map]; exact Nat.le_trans (List.length_filterMap_le _ _) (Nat.le_of_eq (cols_len S l))
  · simp
theorem spotsP_len' (S : List StatZ) (v : ByteArray) (M : Nat) : ∀ (ls : List LitZ) (i : Nat), (∀ l ∈ ls, (termsOf l).length ≤ M) → (spotsP S v i ls).length ≤ ls.length * M
  | [], i, _ => by simp [spotsP]
  | l :: ls, i, h => by
    have h1 := spotsP_len' S v M ls (i + 1) fun x hx => h x (List.mem_cons_of_mem _ hx)
    have h2 := spotsOne_len' S v l i
    have h3 := h l List.mem_cons_self
    rw [spotsP, List.length_append, List.length_cons, Nat.succ_mul]; omega
theorem constsP_len' (S : List StatZ) (M : Nat) : ∀ (ls : List LitZ) (i : Nat), (∀ l ∈ ls, (termsOf l).length ≤ M) → (constsP S i ls).length ≤ ls.length * M
  | [], i, _ => by simp [constsP]
  | l :: ls, i, h => by
    have h1 := constsP_len' S M ls (i + 1) fun x hx => h x (List.mem_cons_of_mem _ hx)
    have h2 := constsOne_len' S l i
    have h3 := h l List.mem_cons_self
    rw [constsP, List.length_append, List.length_cons, Nat.succ_mul]; omega
end Go.Proofs.Ytcphalpcdcddpaa

/- Costs: the best order and the greedy one, as plain functions; plans there are. No program in sight. -/
namespace Go.Proofs.Ytcphalpcdcddpaa
set_option linter.unusedVariables false

/-- An order and what it costs. -/
abbrev Plan := List Int × Nat
def lexLt : List Int → List Int → Bool
  | x :: xs, y :: ys => if x = y then lexLt xs ys else decide (x < y)
  | _, _ => false
def betterP (a b : Plan) : Bool := decide (a.2 < b.2) || (decide (a.2 = b.2) && lexLt a.1 b.1)
def pickP : Option Plan → Option Plan → Option Plan
  | b, none => b
  | none, some x => some x
  | some b, some x => if betterP x b then some x else some b
/-- The best of several plans. -/
def leastP (q : Nat → Option Plan) : Nat → Option Plan
  | 0 => none
  | n + 1 => pickP (leastP q n) (q n)
theorem leastP_congr {q q' : Nat → Option Plan} : ∀ {n : Nat}, (∀ i, i < n → q i = q' i) → leastP q n = leastP q' n
  | 0, _ => rfl
  | n + 1, h => by
    show pickP _ _ = pickP _ _
    rw [leastP_congr (fun i hi => h i (by omega)), h n (by omega)]
theorem pickP_or (b x : Option Plan) : pickP b x = b ∨ pickP b x = x := by
  cases b with
  | none => cases x with
    | none => exact .inl rfl
    | some x => exact .inr rfl
  | some b => cases x with
    | none => exact .inl rfl
    | some x =>
      show (if betterP x b then some x else some b) = _ ∨ (if betterP x b then some x else some b) = _
      split
      · exact .inr rfl
      · exact .inl rfl
theorem leastP_mem {q : Nat → Option Plan} {p : Plan} : ∀ {n : Nat}, leastP q n = some p → ∃ i, i < n ∧ q i = some p
  | 0, h => by cases h
  | n + 1, h => by
    rcases pickP_or (leastP q n) (q n) with e | e
    · have h' : pickP (leastP q n) (q n) = some p := h
      rw [e] at h'
      obtain ⟨i, hi, hq⟩ := leastP_mem h'
      exact ⟨i, by omega, hq⟩
    · have h' : pickP (leastP q n) (q n) = some p := h
      rw [e] at h'
      exact ⟨n, by omega, h'⟩
theorem pickP_some {b x : Option Plan} (h : b.isSome = true ∨ x.isSome = true) : (pickP b x).isSome = true := by
  cases b <;> cases x <;> simp only [pickP] <;> simp_all
  split <;> rfl
theorem leastP_some {q : Nat → Option Plan} : ∀ {n i : Nat}, i < n → (q i).isSome = true → (leastP q n).isSome = true
  | n + 1, i, hi, h => by
    by_cases e : i = n
    · subst e; exact pickP_some (.inr h)
    · exact pickP_some (.inl (leastP_some (by omega) h))

/-- Sets by bits. -/
def bitsS (n s : Nat) : List Bool := (List.range n).map fun i => s.testBit i
theorem bits_len (n s : Nat) : (bitsS n s).length = n := by simp [bitsS]
theorem bits_at {n s i : Nat} (h : i < n) : (bitsS n s)[i]? = some (s.testBit i) := by
  unfold bitsS
  rw [List.getElem?_map, List.getElem?_range h]; rfl
theorem subBit : ∀ (i s : Nat), s.testBit i = true → 2 ^ i ≤ s ∧ ∀ j, (s - 2 ^ i).testBit j = (s.testBit j && decide (j ≠ i))
  | 0, s, h => by
    rw [Nat.testBit_zero, decide_eq_true_eq] at h
    refine ⟨by simp; omega, fun j => ?_⟩
    cases j with
    | zero => rw [Nat.testBit_zero]; simp; omega
    | succ j =>
      rw [Nat.testBit_succ, Nat.testBit_succ]
      have e : (s - 2 ^ 0) / 2 = s / 2 := by simp; omega
      rw [e]; simp
  | i + 1, s, h => by
    rw [Nat.testBit_succ] at h
    obtain ⟨h1, h2⟩ := subBit i (s / 2) h
    have hp : 2 ^ (i + 1) = 2 * 2 ^ i := by rw [Nat.pow_succ]; omega
    refine ⟨by rw [hp]; omega, fun j => ?_⟩
    have e1 : (s - 2 ^ (i + 1)) / 2 = s / 2 - 2 ^ i := by rw [hp]; omega
    have e2 : (s - 2 ^ (i + 1)) % 2 = s % 2 := by rw [hp]; omega
    cases j with
    | zero => rw [Nat.testBit_zero, Nat.testBit_zero, e2]; simp
    | succ j =>
      rw [Nat.testBit_succ, Nat.testBit_succ, e1, h2 j]
      congr 1
      rw [decide_eq_decide]; omega
theorem bits_sub {n s i : Nat} (h : s.testBit i = true) : bitsS n (s - 2 ^ i) = (bitsS n s).set i false := by
  apply List.ext_getElem?
  intro j
  rw [List.getElem?_set]
  by_cases hj : j < n
  · rw [bits_at hj]
    by_cases e : i = j
    · subst e
      rw [if_pos rfl, if_pos (by rw [bits_len]; exact hj), (subBit i s h).2 i]; simp
    · have hd : decide (j ≠ i) = true := by simp; exact fun h => e h.symm
      rw [if_neg e, bits_at hj, (subBit i s h).2 j, hd, Bool.and_true]
  · rw [List.getElem?_eq_none_iff.2 (by rw [bits_len]; omega)]
    by_cases e : i = j
    · rw [if_pos e, if_neg (by rw [bits_len]; omega)]
    · rw [if_neg e, List.getElem?_eq_none_iff.2 (by rw [bits_len]; omega)]
theorem bits_all (n : Nat) : bitsS n (2 ^ n - 1) = List.replicate n true := by
  apply List.ext_getElem?
  intro j
  by_cases hj : j < n
  · rw [bits_at hj, Nat.testBit_two_pow_sub_one, decide_eq_true hj, List.getElem?_replicate, if_pos hj]
  · rw [List.getElem?_eq_none_iff.2 (by rw [bits_len]; omega), List.getElem?_replicate, if_neg hj]
theorem bits_some {n s : Nat} (h0 : s ≠ 0) (hs : s < 2 ^ n) : ∃ i, i < n ∧ s.testBit i = true := by
  obtain ⟨i, hi⟩ := Nat.exists_testBit_of_ne_zero h0
  refine ⟨i, ?_, hi⟩
  rcases Nat.lt_or_ge i n with h | h
  · exact h
  · have := Nat.testBit_lt_two_pow (Nat.lt_of_lt_of_le hs (Nat.pow_le_pow_right (by decide) h))
    rw [this] at hi; cases hi

/-- The plans by sets. -/
noncomputable def candP (T : Nat → Option Plan) (g s i : Nat) : Option Plan := if s.testBit i = true then (T (s - 2 ^ i)).map (fun p => (p.1 ++ [(i : Int)], fadd p.2 g)) else none
open Classical in
noncomputable def rowP (S : List StatZ) (ls : List LitZ) (T : Nat → Option Plan) (s : Nat) : Option Plan := if s = 0 then some ([], 0) else if stands ls (bitsS ls.length s) then leastP (candP T (guessW S ls (bitsS ls.length s)) s) ls.length else none
noncomputable def tabP (S : List StatZ) (ls : List LitZ) : Nat → Nat → Option Plan
  | 0, _ => none
  | k + 1, s => if s = k then rowP S ls (tabP S ls k) k else tabP S ls k s
noncomputable def planS (S : List StatZ) (ls : List LitZ) (s : Nat) : Option Plan := tabP S ls (s + 1) s
theorem tab_plan (S : List StatZ) (ls : List LitZ) {s : Nat} : ∀ {k : Nat}, s < k → tabP S ls k s = planS S ls s
  | k + 1, h => by
    by_cases e : s = k
    · subst e; rfl
    · show (if s = k then _ else tabP S ls k s) = _
      rw [if_neg e, tab_plan S ls (by omega)]
theorem cand_congr {T T' : Nat → Option Plan} {s : Nat} (h : ∀ u, u < s → T u = T' u) (g i : Nat) : candP T g s i = candP T' g s i := by
  unfold candP
  split
  · rename_i hb
    have := (subBit i s hb).1
    have hp := Nat.two_pow_pos i
    rw [h _ (by omega)]
  · rfl
theorem plan_eq (S : List StatZ) (ls : List LitZ) (s : Nat) : planS S ls s = rowP S ls (planS S ls) s := by
  have e : planS S ls s = rowP S ls (tabP S ls s) s := by
    show (if s = s then _ else _) = _
    rw [if_pos rfl]
  rw [e]
  unfold rowP
  split
  · rfl
  · split
    · exact leastP_congr fun i hi => cand_congr (fun u hu => tab_plan S ls hu) _ _
    · rfl

theorem count_unset {xs : List Bool} {i : Nat} (h : xs[i]? = some true) : (xs.set i false).countP id + 1 = xs.countP id := by
  induction xs generalizing i with
  | nil => cases h
  | cons b xs ih =>
    cases i with
    | zero =>
      have : b = true := by simpa using h
      subst this
      simp
    | succ i =>
      have h' : xs[i]? = some true := by simpa using h
      rw [List.set_cons_succ, List.countP_cons, List.countP_cons, ← ih h']; omega
theorem cand_ok {S : List StatZ} {ls : List LitZ} (K : Known S ls) {s i : Nat} (hi : i < ls.length) (ih : ∀ u p, u < s → planS S ls u = some p → p.2 ≤ infW ∧ p.1.length = (bitsS ls.length u).countP id) {g : Nat} (hg : g ≤ infW) {p : Plan} (h : candP (planS S ls) g s i = some p) : p.2 ≤ infW ∧ p.1.length = (bitsS ls.length s).countP id := by
  unfold candP at h
  split at h
  · rename_i hb
    obtain ⟨y, hy, rfl⟩ := Option.map_eq_some_iff.1 h
    have hle := (subBit i s hb).1
    have hp := Nat.two_pow_pos i
    obtain ⟨h1, h2⟩ := ih _ y (by omega) hy
    refine ⟨fadd_le h1 hg, ?_⟩
    rw [bits_sub hb] at h2
    have h3 := count_unset (xs := bitsS ls.length s) (i := i) (by rw [bits_at hi, hb])
    show (y.1 ++ [(i : Int)]).length = _
    rw [List.length_append, h2]; exact h3
  · cases h
theorem plan_ok {S : List StatZ} {ls : List LitZ} (K : Known S ls) : ∀ (s : Nat) (p : Plan), planS S ls s = some p → p.2 ≤ infW ∧ p.1.length = (bitsS ls.length s).countP id := by
  intro s
  induction s using Nat.strongRecOn with
  | _ s ih =>
    intro p h
    rw [plan_eq] at h
    unfold rowP at h
    split at h
    · rename_i h0
      cases h
      subst h0
      refine ⟨Nat.zero_le _, ?_⟩
      have : (bitsS ls.length 0).countP id = 0 := by
        rw [List.countP_eq_zero]
        intro b hb
        unfold bitsS at hb
        obtain ⟨i, _, rfl⟩ := List.mem_map.1 hb
        simp
      rw [this]; rfl
    · split at h
      · obtain ⟨i, hi, hq⟩ := leastP_mem h
        exact cand_ok K hi (fun u p hu => ih u hu p) (guessW_le K _) hq
      · cases h
theorem plan_len {S : List StatZ} {ls : List LitZ} (K : Known S ls) {s : Nat} {p : Plan} (h : planS S ls s = some p) : p.1.length ≤ ls.length := by
  rw [(plan_ok K s p h).2]
  exact Nat.le_trans List.countP_le_length (by rw [bits_len]; exact Nat.le_refl _)

/-- A set that stands has one of its literals without which it stands. -/
theorem stands_drop {ls : List LitZ} {inn : List Bool} (hl : inn.length = ls.length) (h : stands ls inn) (hne : ∃ i : Nat, inn[i]? = some true) : ∃ i : Nat, inn[i]? = some true ∧ stands ls (inn.set i false) := by
  by_cases hf : ∃ (i : Nat) (l : LitZ), inn[i]? = some true ∧ ls[i]? = some l ∧ l.1 ≠ 1
  · obtain ⟨i, l, hi, hli, hk⟩ := hf
    refine ⟨i, hi, fun j u hj hu hku v hv => ?_⟩
    rw [List.getElem?_set] at hu
    by_cases e : i = j
    · rw [if_pos e] at hu
      split at hu <;> cases hu
    · rw [if_neg e] at hu
      obtain ⟨m, x, h1, h2, h3, h4⟩ := h j u hj hu hku v hv
      refine ⟨m, x, h1, ?_, h3, h4⟩
      have : i ≠ m := fun e => by
        subst e
        rw [hli] at h1; cases h1
        exact hk h3
      rw [List.getElem?_set, if_neg this]; exact h2
  · obtain ⟨i, hi⟩ := hne
    refine ⟨i, hi, fun j u hj hu hku v hv => absurd ⟨j, u, ?_, hj, hku⟩ hf⟩
    rw [List.getElem?_set] at hu
    by_cases e : i = j
    · rw [if_pos e] at hu
      split at hu <;> cases hu
    · rw [if_neg e] at hu; exact hu
theorem plan_some (S : List StatZ) (ls : List LitZ) : ∀ (s : Nat), s < 2 ^ ls.length → stands ls (bitsS ls.length s) → (planS S ls s).isSome = true := by
  intro s
  induction s using Nat.strongRecOn with
  | _ s ih =>
    intro hlt hs
    rw [plan_eq]
    unfold rowP
    by_cases h0 : s = 0
    · rw [if_pos h0]; rfl
    · rw [if_neg h0, if_pos hs]
      obtain ⟨i0, hi0, hb0⟩ := bits_some h0 hlt
      obtain ⟨i, hi, hst⟩ := stands_drop (bits_len _ _) hs ⟨i0, by rw [bits_at hi0, hb0]⟩
      have hin : i < ls.length := by rw [← bits_len ls.length s]; exact (List.getElem?_eq_some_iff.1 hi).1
      rw [bits_at hin] at hi
      have hb : s.testBit i = true := by simpa using hi
      have hle := (subBit i s hb).1
      have hp := Nat.two_pow_pos i
      refine leastP_some hin ?_
      unfold candP
      rw [if_pos hb, Option.isSome_map]
      exact ih _ (by omega) (by omega) (by rw [bits_sub hb]; exact hst)

/-- What bodies of a checked rule's literals are. -/
theorem names_bound (v : ByteArray) : ∀ (ls : List LitZ) (N : List ByteArray), hasT (ls.foldl namesL N) v = true → hasT N v = true ∨ ∃ l ∈ ls, l.1 = 1 ∧ v ∈ varsT (termsOf l)
  | [], N, h => .inl h
  | l :: ls, N, h => by
    rcases names_bound v ls _ h with h | ⟨l', hl, h⟩
    · unfold namesL at h
      split at h
      · rename_i h1
        have ht : ∀ (ts : List TermZ) (N : List ByteArray), hasT (namesT N ts) v = true → hasT N v = true ∨ v ∈ varsT ts := by
          intro ts
          induction ts with
          | nil => intro N h; exact .inl h
          | cons t ts ih =>
            intro N h
            rcases ih _ h with h | h
            · unfold addName at h
              split at h
              · rename_i hk
                rw [hasT_iff, List.mem_append, List.mem_singleton] at h
                rcases h with h | h
                · exact .inl (hasT_iff.2 h)
                · refine .inr ?_
                  unfold varsT
                  rw [List.filterMap_cons, if_pos hk.1, h]
                  exact List.mem_cons_self
              · exact .inl h
            · refine .inr ?_
              unfold varsT at h ⊢
              rw [List.filterMap_cons]
              split
              · exact h
              · exact List.mem_cons_of_mem _ h
        rcases ht _ _ h with h | h
        · exact .inl h
        · exact .inr ⟨l, List.mem_cons_self, h1, h⟩
      · exact .inl h
    · exact .inr ⟨l', List.mem_cons_of_mem _ hl, h⟩
theorem safeT_bound {N : List ByteArray} {b : Bool} {t : TermZ} (h : safeT N b t = true) (h1 : t.1 = 1) : hasT N t.2.1 = true := by
  unfold safeT at h
  rw [if_neg (by omega), decide_eq_true_eq] at h
  rcases h with h | h | h
  · omega
  · omega
  · exact h
/-- A checked rule's body stands. -/
theorem full_stands {r : RuleZ} (h : checkR r = 0) : stands r.2.1 (List.replicate r.2.1.length true) := by
  unfold checkR at h
  have hp : parted r = true := by
    by_cases e : parted r = true
    · exact e
    · rw [if_neg e] at h; cases h
  rw [if_pos hp] at h
  have hs : safeR r = true := by
    by_cases e : safeR r = true
    · exact e
    · rw [if_neg e] at h; cases h
  intro i l hi _ hk v hv
  have hmem := List.mem_of_getElem? hi
  have hlit : litOk l = true := by
    unfold parted at hp
    rw [Bool.and_eq_true, List.all_eq_true] at hp
    exact hp.2 l hmem
  have hsafe : safeL (namesB r.2.1) l = true := by
    unfold safeR at hs
    rw [Bool.and_eq_true, List.all_eq_true, List.all_eq_true] at hs
    exact hs.2 l hmem
  have hN : hasT (namesB r.2.1) v = true := by
    obtain ⟨j, t, hj, ht1, rfl⟩ := mem_varsT.1 hv
    unfold safeL at hsafe
    by_cases h3 : l.1 = 3
    · rw [if_pos h3, Bool.and_eq_true] at hsafe
      unfold asks at hj
      rw [if_neg (by omega)] at hj
      have hm := List.mem_of_getElem? hj
      rw [List.mem_cons, List.mem_singleton] at hm
      rcases hm with rfl | rfl
      · exact safeT_bound hsafe.1 ht1
      · exact safeT_bound hsafe.2 ht1
    · rw [if_neg h3] at hsafe
      by_cases h2 : l.1 = 2
      · rw [if_pos h2, List.all_eq_true] at hsafe
        unfold asks at hj
        rw [if_pos h2] at hj
        exact safeT_bound (hsafe t (List.mem_of_getElem? hj)) ht1
      · unfold litOk at hlit
        rw [if_neg (by omega), if_neg h3] at hlit
        cases hlit
  rcases names_bound v r.2.1 [] hN with h | ⟨x, hx, hx1, hxv⟩
  · cases h
  · obtain ⟨m, hm⟩ := List.mem_iff_getElem?.1 hx
    refine ⟨m, x, hm, ?_, hx1, hxv⟩
    rw [List.getElem?_replicate, if_pos (List.getElem?_eq_some_iff.1 hm).1]

/-- The best order. -/
noncomputable def bestE (r : RuleZ) (S : List StatZ) : List Int × Nat × Nat := if errR r S = 0 then if 12 < r.2.1.length then ([], 0, 3) else match planS S r.2.1 (2 ^ r.2.1.length - 1) with
  | some p => (p.1, p.2, 0)
  | none => ([], 0, 0) else ([], 0, errR r S)
theorem best_some {r : RuleZ} {S : List StatZ} (h : checkR r = 0) : ∃ p, planS S r.2.1 (2 ^ r.2.1.length - 1) = some p := by
  have hp := Nat.two_pow_pos r.2.1.length
  have h1 := plan_some S r.2.1 (2 ^ r.2.1.length - 1) (by omega) (by rw [bits_all]; exact full_stands h)
  exact Option.isSome_iff_exists.1 h1

open Classical in
/-- The greedy order. -/
noncomputable def candG (S : List StatZ) (ls : List LitZ) (inn : List Bool) (i : Nat) : Option Plan := if inn[i]? = some false ∧ stands ls (inn.set i true) then some ([(i : Int)], guessW S ls (inn.set i true)) else none
noncomputable def nextG (S : List StatZ) (ls : List LitZ) (inn : List Bool) : Option Plan := leastP (candG S ls inn) ls.length
/-- What has been picked, what it costs, as a set. -/
abbrev GreedZ := List Int × Nat × List Bool
noncomputable def stepG (S : List StatZ) (ls : List LitZ) (x : GreedZ) : GreedZ := match nextG S ls x.2.2 with
  | some p => (x.1 ++ [p.1.headD 0], fadd x.2.1 p.2, x.2.2.set (p.1.headD 0).toNat true)
  | none => x
noncomputable def greedG (S : List StatZ) (ls : List LitZ) : Nat → GreedZ
  | 0 => ([], 0, List.replicate ls.length false)
  | k + 1 => stepG S ls (greedG S ls k)
noncomputable def greedyE (r : RuleZ) (S : List StatZ) : List Int × Nat × Nat := if errR r S = 0 then ((greedG S r.2.1 r.2.1.length).1, (greedG S r.2.1 r.2.1.length).2.1, 0) else ([], 0, errR r S)

/-- A set that is not all: there is one more, if all of them stand. -/
theorem stands_more {ls : List LitZ} {inn : List Bool} (hl : inn.length = ls.length) (hall : stands ls (List.replicate ls.length true)) (h : stands ls inn) (hne : ∃ i : Nat, inn[i]? = some false) : ∃ i : Nat, inn[i]? = some false ∧ stands ls (inn.set i true) := by
  by_cases hf : ∃ (i : Nat) (l : LitZ), inn[i]? = some false ∧ ls[i]? = some l ∧ l.1 = 1
  · obtain ⟨i, l, hi, hli, hk⟩ := hf
    refine ⟨i, hi, fun j u hj hu hku v hv => ?_⟩
    have hij : i ≠ j := fun e => by
      subst e
      rw [hli] at hj; cases hj
      exact hku hk
    rw [List.getElem?_set, if_neg hij] at hu
    obtain ⟨m, x, h1, h2, h3, h4⟩ := h j u hj hu hku v hv
    refine ⟨m, x, h1, ?_, h3, h4⟩
    rw [List.getElem?_set]
    by_cases e : i = m
    · rw [if_pos e, if_pos (List.getElem?_eq_some_iff.1 hi).1]
    · rw [if_neg e]; exact h2
  · obtain ⟨i, hi⟩ := hne
    refine ⟨i, hi, fun j u hj hu hku v hv => ?_⟩
    have hjl : j < ls.length := (List.getElem?_eq_some_iff.1 hj).1
    obtain ⟨m, x, h1, h2, h3, h4⟩ := hall j u hj (by rw [List.getElem?_replicate, if_pos hjl]) hku v hv
    refine ⟨m, x, h1, ?_, h3, h4⟩
    have hml : m < ls.length := (List.getElem?_eq_some_iff.1 h1).1
    rw [List.getElem?_set]
    by_cases e : i = m
    · rw [if_pos e, if_pos (List.getElem?_eq_some_iff.1 hi).1]
    · rw [if_neg e]
      have hm : inn[m]? = some inn[m] := List.getElem?_eq_getElem (by omega)
      rw [hm]
      cases hb : inn[m] with
      | true => rfl
      | false => exact absurd ⟨m, x, by rw [hm, hb], h1, h3⟩ hf
theorem stands_none {ls : List LitZ} (n : Nat) : stands ls (List.replicate n false) := fun i l _ h => by
  rw [List.getElem?_replicate] at h
  split at h <;> cases h
/-- What holds of the picked. -/
structure GreedOk (ls : List LitZ) (k : Nat) (x : GreedZ) : Prop where
  len : x.1.length = k
  inn : x.2.2.length = ls.length
  st : stands ls x.2.2
  count : x.2.2.countP id = k
  set : setW ls.length x.1 = some x.2.2
  cost : x.2.1 ≤ infW
theorem candG_some {S : List StatZ} {ls : List LitZ} {inn : List Bool} {i : Nat} {p : Plan} (h : candG S ls inn i = some p) : p = ([(i : Int)], guessW S ls (inn.set i true)) ∧ inn[i]? = some false ∧ stands ls (inn.set i true) := by
  unfold candG at h
  split at h
  · rename_i hc
    cases h
    exact ⟨rfl, hc.1, hc.2⟩
  · cases h
theorem count_set {xs : List Bool} {i : Nat} (h : xs[i]? = some false) : (xs.set i true).countP id = xs.countP id + 1 := by
  induction xs generalizing i with
  | nil => cases h
  | cons b xs ih =>
    cases i with
    | zero =>
      have : b = false := by simpa using h
      subst this
      simp
    | succ i =>
      have h' : xs[i]? = some false := by simpa using h
      rw [List.set_cons_succ, List.countP_cons, List.countP_cons, ih h']; omega
theorem setW_snoc {n : Nat} {xs : List Int} {inn : List Bool} {i : Nat} (h : setW n xs = some inn) (hi : inn[i]? = some false) : setW n (xs ++ [(i : Int)]) = some (inn.set i true) := by
  unfold setW at h ⊢
  rw [List.foldl_append, h]
  show putNum (some inn) (i : Int) = _
  unfold putNum
  simp only [Int.toNat_natCast]
  rw [if_pos ⟨by omega, hi⟩]
theorem next_some {S : List StatZ} {ls : List LitZ} (hall : stands ls (List.replicate ls.length true)) {k : Nat} (hk : k < ls.length) {x : GreedZ} (h : GreedOk ls k x) : ∃ (i : Nat), i < ls.length ∧ x.2.2[i]? = some false ∧ stands ls (x.2.2.set i true) ∧ nextG S ls x.2.2 = some ([(i : Int)], guessW S ls (x.2.2.set i true)) := by
  have hne : ∃ i : Nat, x.2.2[i]? = some false := by
    by_cases e : ∃ i : Nat, x.2.2[i]? = some false
    · exact e
    · have hc : x.2.2.countP id = x.2.2.length := List.countP_eq_length.2 fun b hb => by
        obtain ⟨i, hi⟩ := List.mem_iff_getElem?.1 hb
        cases b with
        | true => rfl
        | false => exact absurd ⟨i, hi⟩ e
      rw [h.count, h.inn] at hc
      omega
  obtain ⟨i, hi, hst⟩ := stands_more h.inn hall h.st hne
  have hil : i < ls.length := by rw [← h.inn]; exact (List.getElem?_eq_some_iff.1 hi).1
  have hs : (nextG S ls x.2.2).isSome = true := leastP_some hil (by unfold candG; rw [if_pos ⟨hi, hst⟩]; rfl)
  obtain ⟨p, hp⟩ := Option.isSome_iff_exists.1 hs
  obtain ⟨j, hj, hq⟩ := leastP_mem hp
  obtain ⟨rfl, h1, h2⟩ := candG_some hq
  exact ⟨j, hj, h1, h2, hp⟩
theorem step_ok {S : List StatZ} {ls : List LitZ} (K : Known S ls) (hall : stands ls (List.replicate ls.length true)) {k : Nat} (hk : k < ls.length) {x : GreedZ} (h : GreedOk ls k x) : GreedOk ls (k + 1) (stepG S ls x) := by
  obtain ⟨i, hi, h1, h2, h3⟩ := next_some (S := S) hall hk h
  unfold stepG
  rw [h3]
  simp only [List.headD_cons, Int.toNat_natCast]
  exact ⟨by rw [List.length_append, h.len]; rfl, by rw [List.length_set]; exact h.inn, h2, by rw [count_set h1, h.count], setW_snoc h.set h1, fadd_le h.cost (guessW_le K _)⟩
theorem greed_ok {S : List StatZ} {ls : List LitZ} (K : Known S ls) (hall : stands ls (List.replicate ls.length true)) : ∀ {k : Nat}, k ≤ ls.length → GreedOk ls k (greedG S ls k)
  | 0, _ => ⟨rfl, List.length_replicate, stands_none _, by show List.countP id (List.replicate _ false) = 0; rw [List.countP_eq_zero]; intro b hb; rw [(List.mem_replicate.1 hb).2]; simp, rfl, Nat.zero_le _⟩
  | k + 1, hk => step_ok K hall (by omega) (greed_ok K hall (by omega))
end Go.Proofs.Ytcphalpcdcddpaa

/- The words of these proofs: worlds that keep old blocks, rows of cells, appends. No program in sight. -/
namespace Go.Proofs.Ytcphalpcdcddpaa
open Go.RowKit
set_option linter.unusedVariables false

/-- It returned v and left the world alone. -/
def Ret (v : Value) (w : World) (e : Ending) (w' : World) : Prop := e = .returned v ∧ w = w'
theorem Ret.mk {v v' : Value} {w : World} (h : v = v') : Ret v w (.returned v') w := ⟨by rw [h], rfl⟩
/-- It returned v and only drew. -/
def RetD (v : Value) (w : World) (e : Ending) (w' : World) : Prop := e = .returned v ∧ ∃ n, w' = w.drewN n

theorem RetD.mk {v v' : Value} {w : World} (h : v = v') (n : Nat) : RetD v w (.returned v') (w.drewN n) := ⟨by rw [h], n, rfl⟩

theorem drew_ex2 (w : World) (n m : Nat) : ∃ k, (w.drewN n).drewN m = w.drewN k := ⟨_, World.drewN_drewN w n m⟩
theorem drew_ex3 (w : World) (n m : Nat) : ∃ k, ((w.drewN n).drewN m).drew = w.drewN k := ⟨_, by rw [World.drewN_drewN, World.drew_drewN]⟩
theorem RetD.mk' {v v' : Value} {w w' : World} (h : v = v') (hw : ∃ n, w' = w.drewN n) : RetD v w (.returned v') w' := ⟨by rw [h], hw⟩

/-- Blocks of w outside F are as they were. -/
structure Kp (F : Nat → Prop) (w w' : World) : Prop where
  os : w'.os = w.os
  tape : w'.tape = w.tape
  output : w'.output = w.output
  size : w.heap.size ≤ w'.heap.size
  block : ∀ k, k < w.heap.size → ¬ F k → w'.heap[k]? = w.heap[k]?

/-- All blocks of w are as they were. -/
abbrev Ext (w w' : World) : Prop := Kp (fun _ => False) w w'
/-- Blocks that came since w. -/
abbrev New (w : World) : Nat → Prop := fun g => w.heap.size ≤ g

theorem Kp.refl {F : Nat → Prop} (w : World) : Kp F w w := ⟨rfl, rfl, rfl, Nat.le_refl _, fun _ _ _ => rfl⟩
theorem Kp.trans' {F G : Nat → Prop} {a b c : World} (h : Kp F a b) (k : Kp G b c) (hg : ∀ i, i < a.heap.size → G i → F i) : Kp F a c :=
  ⟨k.os.trans h.os, k.tape.trans h.tape, k.output.trans h.output, Nat.le_trans h.size k.size, fun i hi hf =>
    (k.block i (Nat.lt_of_lt_of_le hi h.size) (fun g => hf (hg i hi g))).trans (h.block i hi hf)⟩
theorem Kp.trans {F : Nat → Prop} {a b c : World} (h : Kp F a b) (k : Kp F b c) : Kp F a c := h.trans' k fun _ _ g => g
theorem Kp.mono {F G : Nat → Prop} {a b : World} (h : Kp F a b) (hg : ∀ i, i < a.heap.size → F i → G i) : Kp G a b :=
  ⟨h.os, h.tape, h.output, h.size, fun i hi hf => h.block i hi fun x => hf (hg i hi x)⟩
theorem Kp.ext {F : Nat → Prop} {a b c : World} (h : Kp F a b) (k : Ext b c) : Kp F a c := h.trans' k fun _ _ g => g.elim
theorem Ext.kp {F : Nat → Prop} {a b : World} (h : Ext a b) : Kp F a b := h.mono fun _ _ x => x.elim
theorem Kp.alloc {F : Nat → Prop} {a b : World} (h : Kp F a b) (o : Obj) : Kp F a (b.alloc o) :=
  h.ext ⟨rfl, rfl, rfl, by simp, fun k hk _ => Below.heap_alloc _ _ _ hk⟩
theorem Kp.drew {F : Nat → Prop} {a b : World} (h : Kp F a b) : Kp F a b.drew := ⟨h.os, h.tape, h.output, h.size, h.block⟩
theorem Kp.drewN {F : Nat → Prop} {a b : World} (h : Kp F a b) (n : Nat) : Kp F a (b.drewN n) := ⟨h.os, h.tape, h.output, h.size, h.block⟩
theorem Kp.setCell {F : Nat → Prop} {a b : World} (h : Kp F a b) {p : Addr} (hp : p.block < a.heap.size → F p.block) (u : Value) : Kp F a (b.setCell p u) := by
  refine h.trans' (G := fun k => k = p.block) ⟨rfl, rfl, rfl, by simp [World.setCell], fun k hk hf => Below.heap_setCell _ _ _ _ hf⟩ ?_
  rintro i hi rfl
  exact hp hi
theorem Kp.below {w w' : World} (h : Ext w w') : Below w.heap.size w w' := ⟨h.os, h.tape, h.output, h.size, fun k hk => h.block k hk id⟩
theorem Kp.of_below {w w' : World} (h : Below w.heap.size w w') : Ext w w' := ⟨h.os, h.tape, h.output, h.size, fun k hk _ => h.block k hk⟩
theorem Kp.grown {F : Nat → Prop} {a b c : World} {row : Option Nat} (h : Kp F a b) (hg : b.grownBy c row) (hr : ∀ k, row = some k → k < a.heap.size → F k) : Kp F a c :=
  h.trans' (G := fun k => row = some k) ⟨hg.os, hg.tape, hg.output, hg.size, fun k hk hf => hg.block k hk fun e => hf e.symm⟩ fun i hi e => hr i e hi
theorem Kp.cell {F : Nat → Prop} {w w' : World} (h : Kp F w w') {b o : Nat} {v : Value} (hc : w.cell? ⟨b, o, none⟩ = some v) (hf : ¬ F b) : w'.cell? ⟨b, o, none⟩ = some v := by
  have hb : b < w.heap.size := World.block_lt_of_cell? _ _ hc
  rw [World.cell?_of_block (w := w) (h.block b hb hf)]; exact hc

/-- A block of cells, none frozen. -/
def Blk (w : World) (g : Nat) (cs : List Value) (e : TypeId) : Prop := w.heap[g]? = some (.cells cs.toArray e (0, 0))

section
variable {w w' : World} {g : Nat} {cs : List Value} {e : TypeId}
theorem Blk.lt (h : Blk w g cs e) : g < w.heap.size := lt_of_block h
theorem Blk.cell (h : Blk w g cs e) (i : Nat) (hi : i < cs.length) : w.cell? ⟨g, i, none⟩ = some cs[i] := by
  unfold Blk at h; simp [World.cell?, h, hi]
theorem Blk.cell' (h : Blk w g cs e) (i : Nat) : w.cell? ⟨g, i, none⟩ = cs[i]? := by
  unfold Blk at h; simp [World.cell?, h]
theorem Blk.free (h : Blk w g cs e) (i : Nat) : w.frozen? ⟨g, i, none⟩ = false := by
  unfold Blk at h; simp [World.frozen?, h]
theorem Blk.kp {F : Nat → Prop} (h : Blk w g cs e) (k : Kp F w w') (hf : ¬ F g) : Blk w' g cs e := (k.block g h.lt hf).trans h
theorem Blk.ext (h : Blk w g cs e) (k : Ext w w') : Blk w' g cs e := h.kp k id
theorem Blk.alloc (h : Blk w g cs e) (o : Obj) : Blk (w.alloc o) g cs e := h.ext ((Kp.refl w).alloc o)
theorem Blk.drew (h : Blk w g cs e) : Blk w.drew g cs e := h
theorem Blk.drewN (h : Blk w g cs e) (n : Nat) : Blk (w.drewN n) g cs e := h
theorem Blk.new (w : World) (cs : List Value) (e : TypeId) : Blk (w.alloc (.cells cs.toArray e)) w.heap.size cs e := by
  show (w.heap.push _)[w.heap.size]? = _; simp
theorem Blk.set (h : Blk w g cs e) (i : Nat) (v : Value) : Blk (w.setCell ⟨g, i, none⟩ v) g (cs.set i v) e := by
  unfold Blk at *
  simp only [World.setCell, Array.getElem?_modify, h]
  simp
theorem Blk.congrL {cs' : List Value} (h : Blk w g cs e) (hc : cs = cs') : Blk w g cs' e := hc ▸ h
theorem Blk.other (h : Blk w g cs e) {p : Addr} (hp : g ≠ p.block) (v : Value) : Blk (w.setCell p v) g cs e := by
  unfold Blk at *; rw [Below.heap_setCell _ _ _ _ hp]; exact h
end

/-- The cells from an address on. (An empty list asks nothing.) -/
def CellsAt (w : World) (ao : Option Addr) (vs : List Value) : Prop :=
  ∀ i u, vs[i]? = some u → ∃ b off, ao = some ⟨b, off, none⟩ ∧ w.cell? ⟨b, off + i, none⟩ = some u

/-- No address of F. -/
def Off (F : Nat → Prop) (ao : Option Addr) : Prop := ∀ a, ao = some a → ¬ F a.block

section
variable {w w' : World} {ao : Option Addr} {vs : List Value}
theorem CellsAt.nil (w : World) (ao : Option Addr) : CellsAt w ao [] := fun i u h => by simp at h
theorem CellsAt.kp {F : Nat → Prop} (h : CellsAt w ao vs) (k : Kp F w w') (hf : Off F ao) : CellsAt w' ao vs := fun i u hu => by
  obtain ⟨b, off, h1, h2⟩ := h i u hu
  exact ⟨b, off, h1, k.cell h2 (hf _ h1)⟩
theorem CellsAt.ext (h : CellsAt w ao vs) (k : Ext w w') : CellsAt w' ao vs := h.kp k fun _ _ => id
theorem CellsAt.alloc (h : CellsAt w ao vs) (o : Obj) : CellsAt (w.alloc o) ao vs := h.ext ((Kp.refl w).alloc o)
theorem CellsAt.drewN (h : CellsAt w ao vs) (n : Nat) : CellsAt (w.drewN n) ao vs := h.ext ((Kp.refl w).drewN n)
theorem CellsAt.getv (h : CellsAt w ao vs) {k : Nat} (hk : k < vs.length) : ∃ b off, ao = some ⟨b, off, none⟩ ∧ w.cell? ⟨b, off + k, none⟩ = some vs[k] :=
  h k _ (List.getElem?_eq_getElem hk)
theorem CellsAt.off (h : CellsAt w ao vs) (hv : vs ≠ []) : ∃ b off, ao = some ⟨b, off, none⟩ ∧ b < w.heap.size := by
  have hk : 0 < vs.length := by cases vs <;> simp_all
  obtain ⟨b, off, h1, h2⟩ := h.getv hk
  exact ⟨b, off, h1, World.block_lt_of_cell? _ _ h2⟩
theorem CellsAt.blk {g off : Nat} {cs : List Value} {e : TypeId} (h : Blk w g cs e) (n : Nat) : CellsAt w (some ⟨g, off, none⟩) ((cs.drop off).take n) := fun i u hu => by
  refine ⟨g, off, rfl, ?_⟩
  rw [h.cell']
  rw [List.getElem?_take] at hu
  split at hu
  · rw [List.getElem?_drop] at hu; exact hu
  · cases hu
theorem CellsAt.pre {g : Nat} {xs rest : List Value} {e : TypeId} (h : Blk w g (xs ++ rest) e) : CellsAt w (some ⟨g, 0, none⟩) xs := by
  have := CellsAt.blk (off := 0) h xs.length
  simpa using this
theorem CellsAt.one (w : World) (x : Value) (e : TypeId) : CellsAt (w.alloc (.cells #[x] e)) (some ⟨w.heap.size, 0, none⟩) [x] := by
  have := Blk.new w [x] e
  exact CellsAt.pre (rest := []) this
theorem CellsAt.two (w : World) (x y : Value) (e : TypeId) : CellsAt (w.alloc (.cells #[x, y] e)) (some ⟨w.heap.size, 0, none⟩) [x, y] := by
  have := Blk.new w [x, y] e
  exact CellsAt.pre (rest := []) this
end

def strs (ss : List ByteArray) : List Value := ss.map Value.string
def ints (zs : List Int) : List Value := zs.map (Value.int .i64)
theorem strs_get? (ss : List ByteArray) (k : Nat) (hk : k < ss.length) : (strs ss)[k]? = some (.string ss[k]) := by simp [strs, hk]
theorem strs_len (ss : List ByteArray) : (strs ss).length = ss.length := by simp [strs]
theorem ints_len (ss : List Int) : (ints ss).length = ss.length := by simp [ints]
theorem CellsAt.str {w : World} {ao : Option Addr} {ss : List ByteArray} (h : CellsAt w ao (strs ss)) {k : Nat} (hk : k < ss.length) : ∃ b off, ao = some ⟨b, off, none⟩ ∧ w.cell? ⟨b, off + k, none⟩ = some (.string ss[k]) :=
  h k _ (strs_get? ss k hk)
theorem CellsAt.int {w : World} {ao : Option Addr} {ss : List Int} (h : CellsAt w ao (ints ss)) {k : Nat} (hk : k < ss.length) : ∃ b off, ao = some ⟨b, off, none⟩ ∧ w.cell? ⟨b, off + k, none⟩ = some (.int .i64 ss[k]) :=
  h k _ (by simp [ints, hk])

/-- A slice that a call owns: nil, or from the head of a block of M on; n elements of k cells, xs; what is behind them is room. -/
def Row (w : World) (e : TypeId) (k : Nat) (v : Value) (n : Nat) (xs : List Value) (M : Nat → Prop) : Prop :=
  xs.length = n * k ∧ (v = .slice none 0 0 ∧ n = 0 ∨
    ∃ g cap rest, v = .slice (some ⟨g, 0, none⟩) n cap ∧ M g ∧ Blk w g (xs ++ rest) e ∧ (xs ++ rest).length = cap * k ∧ n ≤ cap ∧ cap ≤ maxLen)

section
variable {w w' : World} {e : TypeId} {k : Nat} {v : Value} {n : Nat} {xs : List Value} {M : Nat → Prop}
theorem Row.nil (w : World) (e : TypeId) (k : Nat) (M : Nat → Prop) : Row w e k (.slice none 0 0) 0 [] M := ⟨by simp, .inl ⟨rfl, rfl⟩⟩
theorem Row.mono {M' : Nat → Prop} (h : Row w e k v n xs M) (hm : ∀ g, M g → M' g) : Row w e k v n xs M' := by
  obtain ⟨h1, h2 | ⟨g, cap, rest, a, b, c⟩⟩ := h
  · exact ⟨h1, .inl h2⟩
  · exact ⟨h1, .inr ⟨g, cap, rest, a, hm g b, c⟩⟩
theorem Row.kp' {F : Nat → Prop} (h : Row w e k v n xs M) (hk : Kp F w w') (hf : ∀ g, v.ownBlock = some g → M g → ¬ F g) : Row w' e k v n xs M := by
  obtain ⟨h1, h2 | ⟨g, cap, rest, a, b, c, d⟩⟩ := h
  · exact ⟨h1, .inl h2⟩
  · exact ⟨h1, .inr ⟨g, cap, rest, a, b, c.kp hk (hf g (by rw [a]; rfl) b), d⟩⟩
theorem Row.kp {F : Nat → Prop} (h : Row w e k v n xs M) (hk : Kp F w w') (hf : ∀ g, M g → ¬ F g) : Row w' e k v n xs M := h.kp' hk fun g _ => hf g
theorem Row.ext (h : Row w e k v n xs M) (hk : Ext w w') : Row w' e k v n xs M := h.kp hk fun _ _ => id
theorem Row.alloc (h : Row w e k v n xs M) (o : Obj) : Row (w.alloc o) e k v n xs M := h.ext ((Kp.refl w).alloc o)
theorem Row.drew (h : Row w e k v n xs M) : Row w.drew e k v n xs M := h.ext ((Kp.refl w).drew)
theorem Row.drewN (h : Row w e k v n xs M) (m : Nat) : Row (w.drewN m) e k v n xs M := h.ext ((Kp.refl w).drewN m)
theorem Row.shape (h : Row w e k v n xs M) : ∃ ao cap, v = .slice ao n cap ∧ CellsAt w ao xs ∧ n ≤ cap := by
  obtain ⟨h1, ⟨rfl, rfl⟩ | ⟨g, cap, rest, rfl, b, c, d, e, f⟩⟩ := h
  · have : xs = [] := List.eq_nil_of_length_eq_zero (by simpa using h1)
    subst this
    exact ⟨none, 0, rfl, CellsAt.nil _ _, Nat.le_refl _⟩
  · exact ⟨_, cap, rfl, CellsAt.pre c, e⟩
theorem Row.one (w : World) (e : TypeId) (x : Value) (M : Nat → Prop) (hM : M w.heap.size) : Row (w.alloc (.cells #[x] e)) e 1 (.slice (some ⟨w.heap.size, 0, none⟩) 1 1) 1 [x] M :=
  ⟨rfl, .inr ⟨_, 1, [], rfl, hM, Blk.new w [x] e, rfl, Nat.le_refl _, by decide⟩⟩
theorem Row.empty (w : World) (e : TypeId) (k : Nat) (M : Nat → Prop) (hM : M w.heap.size) : Row (w.alloc (.cells #[] e)) e k (.slice (some ⟨w.heap.size, 0, none⟩) 0 0) 0 [] M :=
  ⟨by simp, .inr ⟨_, 0, [], rfl, hM, Blk.new w [] e, by simp, Nat.le_refl _, by decide⟩⟩
theorem Row.block (h : Row w e k v n xs M) : ∀ g, v.ownBlock = some g → M g := by
  obtain ⟨h1, ⟨rfl, rfl⟩ | ⟨g, cap, rest, rfl, b, c, d⟩⟩ := h
  · intro g hg; cases hg
  · intro g' hg; cases hg; exact b
end

/-- A slice type t of elements e: k cells and 'bytes' bytes each, zero value z. -/
def ElemT (P : Program) (t e : TypeId) (k bytes : Nat) (z : Value) : Prop :=
  P.underlying t = some (.slice e) ∧ (P.info? e).map (fun i => (i.zero, i.size, i.bytes)) = some (some z, k, bytes) ∧ z.cells.size = k ∧ 0 < k

section
variable {P : Program} {w : World} {t e : TypeId} {k bytes : Nat} {z : Value}

theorem run_append_none' (E : ElemT P t e k bytes z) (ty : TypeId) {ao : Option Addr} {n cap : Nat} (hc : n ≤ cap) (ao' : Option Addr) (c : Nat) :
    (Builtin.append_ #[t, t] ty #[.slice ao n cap, .slice ao' 0 c]).run P w = .ok (.slice ao n cap) w := by
  obtain ⟨ht, hi, hz, hk⟩ := E
  obtain ⟨i, hi, h1, h2, h3⟩ := info_parts hi
  cases ao' <;> cases ao <;> simp [Builtin.append_, run_underlying ht, sizeOf, typeInfo, hi, Builtin.lenOf, Builtin.firstCells, loadCells, loadCellsFrom, hc, storeCells]

theorem run_app (E : ElemT P t e k bytes z) (ty : TypeId) {v : Value} {n : Nat} {xs : List Value} {M : Nat → Prop} (hr : Row w e k v n xs M)
    {ao : Option Addr} {m c : Nat} {news : List Value} (hl : news.length = m * k) (hs : CellsAt w ao news) (h1 : ∀ u ∈ news, u.oneCell' = true) (hb : (n + m) * bytes ≤ 140737488355328) (h63 : n + m ≤ maxLen) :
    ∃ v' w', (Builtin.append_ #[t, t] ty #[v, .slice ao m c]).run P w = .ok v' w' ∧ Row w' e k v' (n + m) (xs ++ news) (fun g => v.ownBlock = some g ∨ w.heap.size ≤ g) ∧ Kp (fun g => v.ownBlock = some g) w w' ∧ (v' = .slice none 0 0 ↔ v = .slice none 0 0 ∧ m = 0) := by
  by_cases hm : m = 0
  · subst hm
    have hn : news = [] := List.eq_nil_of_length_eq_zero (by simpa using hl)
    subst hn
    obtain ⟨ao1, cap1, rfl, _, hcap⟩ := hr.shape
    refine ⟨_, w, run_append_none' E ty hcap _ _, ?_, Kp.refl _, by simp⟩
    simp only [Nat.add_zero, List.append_nil]
    obtain ⟨h1, h2 | ⟨g, cap, rest, a, b, c⟩⟩ := hr
    · exact ⟨h1, .inl h2⟩
    · exact ⟨h1, .inr ⟨g, cap, rest, a, .inl (by rw [a]; rfl), c⟩⟩
  · have hne : news ≠ [] := by
      rintro rfl
      have h0 := Nat.mul_pos (Nat.pos_of_ne_zero hm) E.2.2.2
      simp only [List.length_nil] at hl; omega
    obtain ⟨b, off, rfl, hlt⟩ := hs.off hne
    have hsrc : ∀ j u, news[j]? = some u → w.cell? ((⟨b, off, none⟩ : Addr).add j) = some u := fun j u hu => by
      obtain ⟨b', off', he, hc⟩ := hs j u hu
      cases he
      rw [Addr.add_lit]; exact hc
    obtain ⟨ht, hi, hz, hk⟩ := E
    obtain ⟨i, hi, hz1, hz2, hz3⟩ := info_parts hi
    have hsmall : n + m ≤ 9223372036854775807 := h63
    have grown : ∀ old, (w.drew.alloc (.cells (xs.toArray ++ news.toArray ++ Builtin.zeroCells z.cells (grownCap w (n + m) old e - (n + m))) e)).heap[w.heap.size]? =
        some (.cells ((xs ++ news) ++ (Builtin.zeroCells z.cells (grownCap w (n + m) old e - (n + m))).toList).toArray e (0, 0)) := fun old => by
      show (w.heap.push _)[w.heap.size]? = _
      simp
    have lens : ∀ old, ((xs ++ news) ++ (Builtin.zeroCells z.cells (grownCap w (n + m) old e - (n + m))).toList).length = grownCap w (n + m) old e * k := fun old => by
      have hge := grownCap_ge w (n + m) old e
      simp only [List.length_append, Array.length_toList, size_zeroCells, hz, hr.1, hl, ← Nat.add_mul]
      congr 1; omega
    obtain ⟨hx, ⟨rfl, rfl⟩ | ⟨g, cap, rest, rfl, hM, hB, hlen, hnc, hcm⟩⟩ := hr
    · have hx0 : xs = [] := List.eq_nil_of_length_eq_zero (by simpa using hx)
      subst hx0
      have hr := run_append_nil (P := P) w t ty e i z ht hi hz1 ⟨b, off, none⟩ m c news (by rw [hz2]; exact hl) hsrc (by omega) (by omega) (by rw [hz3]; simp only [Nat.zero_add] at hb; omega)
      refine ⟨_, _, hr, ?_, ⟨rfl, rfl, rfl, by simp, fun k hk _ => Below.heap_alloc w.drew _ k hk⟩, by simp [hm]⟩
      have h0 := grown 0
      have h2 := lens 0
      simp only [Nat.zero_add, List.nil_append, Array.empty_append] at h0 h2 ⊢
      exact ⟨hl, .inr ⟨_, _, _, rfl, .inr (Nat.le_refl _), h0, h2, grownCap_ge w m 0 e, grownCap_le_maxLen w m 0 e (by omega)⟩⟩
    · by_cases hroom : n + m ≤ cap
      · have hr := run_append_room (P := P) w t ty e i ht hi g n cap _ hB ⟨b, off, none⟩ m c news (by rw [hz2]; exact hl) hsrc h1 hroom (by
            simp only [hz2, List.size_toArray, hlen, hl, ← Nat.add_mul]; exact Nat.mul_le_mul_right _ hroom)
        refine ⟨_, _, hr, ⟨by rw [List.length_append, hx, hl, Nat.add_mul], .inr ⟨g, cap, rest.drop news.length, rfl, .inl rfl, ?_, ?_, hroom, hcm⟩⟩, ⟨rfl, rfl, rfl, by simp, fun k _ hk => setRow_other w g k _ (fun e => hk (by simp [Value.ownBlock, e]))⟩, by simp⟩
        · show _ = _
          rw [setRow_heap w g _ _ e _ hB]
          congr 2
          simp only [hz2]
          rw [← hx]
          simp
        · have : news.length ≤ rest.length := by
            have := hlen
            simp only [List.length_append, hx] at this
            have h3 : (n + m) * k ≤ cap * k := Nat.mul_le_mul_right _ hroom
            rw [Nat.add_mul] at h3
            omega
          simp only [List.length_append, List.length_drop] at hlen ⊢
          omega
      · have holds : ∀ j u, xs[j]? = some u → w.cell? ((⟨g, 0, none⟩ : Addr).add j) = some u := fun j u hu => by
          rw [Addr.add_lit, Nat.zero_add, hB.cell', List.getElem?_append_left (List.getElem?_eq_some_iff.1 hu).1]; exact hu
        have hr := run_append_grow (P := P) w t ty e i z ht hi hz1 ⟨g, 0, none⟩ n cap xs (by rw [hz2]; exact hx) holds ⟨b, off, none⟩ m c news (by rw [hz2]; exact hl) hsrc (by omega) (by omega) (by rw [hz3]; exact growslice_fits (by omega) hb)
        exact ⟨_, _, hr, ⟨by rw [List.length_append, hx, hl, Nat.add_mul], .inr ⟨_, _, _, rfl, .inr (Nat.le_refl _), grown cap, lens cap, grownCap_ge w (n + m) cap e, grownCap_le_maxLen w (n + m) cap e (by omega)⟩⟩, ⟨rfl, rfl, rfl, by simp, fun k hk _ => Below.heap_alloc w.drew _ k hk⟩, by simp⟩

/-- The walk's law of an append onto a slice of the call's own. -/
theorem wp_app (E : ElemT P t e k bytes z) {ops : Array Oper} {rest : List Oper} {o : Oper} {a : Act} {Q : Exit → Act → World → Prop} (hgd : o.guard = none) (s x : Operand)
    (ho : o.op = .call { callee := .builtin .append, args := #[s, x], argTypes := #[t, t] })
    {F : Nat → Prop} {w0 : World} (hkp : Kp F w0 w) {M : Nat → Prop} (hM : ∀ g, M g → g < w0.heap.size → F g) (hN : ∀ g, w.heap.size ≤ g → M g)
    {v : Value} {n : Nat} {xs : List Value} (hs : a.eval s = v) (hr : Row w e k v n xs M)
    {ao : Option Addr} {m c : Nat} {news : List Value} (hx : a.eval x = .slice ao m c) (hl : news.length = m * k) (hsrc : CellsAt w ao news) (h1 : ∀ u ∈ news, u.oneCell' = true)
    (hb : (n + m) * bytes ≤ 140737488355328) (h63 : n + m ≤ maxLen)
    (h : ∀ v' w', Row w' e k v' (n + m) (xs ++ news) M → Kp F w0 w' → Kp (fun g => v.ownBlock = some g) w w' → (v' = .slice none 0 0 ↔ v = .slice none 0 0 ∧ m = 0) → wpList P ops Q rest (a.put o.dst v') w') : wpList P ops Q (o :: rest) a w := by
  refine wpList_plain hgd fun K hK => ?_
  obtain ⟨v', w', hrun, h2, h3, h4⟩ := run_app (P := P) E o.type hr hl hsrc h1 hb h63 (c := c)
  unfold Oper.wp execOp
  simp only [ho, resolve, invoke, builtin, Sem.run_bind, Sem.run_pure, Result.andThen_ok, List.map_toArray, List.map_cons, List.map_nil, hs, hx, hrun]
  refine hK _ _ (h v' w' (h2.mono fun g hg => ?_) (hkp.trans' h3 fun i hi hg => hM i (hr.block i hg) hi) h3 h4)
  rcases hg with hg | hg
  · exact hr.block g hg
  · exact hN g hg

/-- The same for a slice that came since w0. -/
theorem wp_appN (E : ElemT P t e k bytes z) {ops : Array Oper} {rest : List Oper} {o : Oper} {a : Act} {Q : Exit → Act → World → Prop} (hgd : o.guard = none) (s x : Operand)
    (ho : o.op = .call { callee := .builtin .append, args := #[s, x], argTypes := #[t, t] })
    {F : Nat → Prop} {w0 : World} (hkp : Kp F w0 w)
    {v : Value} {n : Nat} {xs : List Value} (hs : a.eval s = v) (hr : Row w e k v n xs (New w0))
    {ao : Option Addr} {m c : Nat} {news : List Value} (hx : a.eval x = .slice ao m c) (hsrc : CellsAt w ao news) (hl : news.length = m * k) (h1 : ∀ u ∈ news, u.oneCell' = true)
    (hb : (n + m) * bytes ≤ 140737488355328) (h63 : n + m ≤ maxLen)
    (h : ∀ v' w', Row w' e k v' (n + m) (xs ++ news) (New w0) → Kp F w0 w' → Kp (fun g => v.ownBlock = some g) w w' → (v' = .slice none 0 0 ↔ v = .slice none 0 0 ∧ m = 0) → wpList P ops Q rest (a.put o.dst v') w') : wpList P ops Q (o :: rest) a w :=
  wp_app E hgd s x ho hkp (fun g h1 h2 => absurd h2 (Nat.not_lt.2 h1)) (fun g h1 => Nat.le_trans hkp.size h1) hs hr hx hl hsrc h1 hb h63 h
end

/-- A place at which the walk is made to stop. -/
def Halted (p : Prop) : Prop := p
theorem Halted.out {p : Prop} (h : Halted p) : p := h
theorem Halted.mk {p : Prop} (h : p) : Halted p := h

/-- It returned a value, all old blocks are as they were, and P holds of the new world and the value. -/
def RetN (w : World) (P : World → Value → Prop) (e : Ending) (w' : World) : Prop := ∃ v, e = .returned v ∧ Ext w w' ∧ P w' v
theorem RetN.mk {w w' : World} {P : World → Value → Prop} {v : Value} (h : Ext w w') (hp : P w' v) : RetN w P (.returned v) w' := ⟨v, rfl, h, hp⟩
/-- The same where blocks of F may have been written. -/
def RetF (F : Nat → Prop) (w : World) (P : World → Value → Prop) (e : Ending) (w' : World) : Prop := ∃ v, e = .returned v ∧ Kp F w w' ∧ P w' v
theorem RetF.mk {F : Nat → Prop} {w w' : World} {P : World → Value → Prop} {v : Value} (h : Kp F w w') (hp : P w' v) : RetF F w P (.returned v) w' := ⟨v, rfl, h, hp⟩
end Go.Proofs.Ytcphalpcdcddpaa

/- From what a row hands over of an argument to the words of these proofs. No program in sight. -/
namespace Go.Proofs.Ytcphalpcdcddpaa
open Go.ChangeShapes Go.WideShapes Go.ChangeAt Go.RowKit
open Go.ChangeMaps (open_string shut_string)
set_option linter.unusedVariables false

section
variable {H : Type} {enc : TypeId × Value → H} {P : Program} {W : World}

def Sized (P : Program) (t : TypeId) (d : DataW H) : Prop := ∀ n ∈ d.weights P t, n ≤ reachBytes
theorem sized_of {ts : List TypeId} {ds : List (DataW H)} (h : (DataW.weightsEach P ts ds).all (· ≤ reachBytes) = true) {j : Nat} {t : TypeId} {d : DataW H} (ht : ts[j]? = some t) (hd : ds[j]? = some d) : Sized P t d := fun n hn => by
  have := List.all_eq_true.1 h _ (DataW.weights_mem_each ht hd n hn)
  simpa using this

/-- A []string that came in. -/
def InStrs (w : World) (v : Value) (n m : Nat) : Prop :=
  ∃ ao cap ss, v = .slice ao ss.length cap ∧ CellsAt w ao (strs ss) ∧ ss.length ≤ n ∧ ∀ s ∈ ss, s.size ≤ m

theorem weights_str (P : Program) (e : TypeId) (b : List UInt8) : (DataW.lit (H := H) (.string b)).weights P e = [b.length] := by simp [DataW.weights]
theorem weightsAll_mem (P : Program) (e : TypeId) : ∀ {l : List (DataW H)} {d : DataW H}, d ∈ l → ∀ n ∈ d.weights P e, n ∈ DataW.weightsAll P e l
  | d0 :: l, d, hd, n, hn => by
    simp only [DataW.weightsAll, List.mem_append]
    rcases List.mem_cons.1 hd with rfl | hd
    · exact .inl hn
    · exact .inr (weightsAll_mem P e hd n hn)

theorem read_strs {t e : TypeId} {base : Nat} {v : Value} {d : DataW H} {p : List MemPlace} (hu : P.underlying t = some (.slice e)) (he : P.underlying e = some .string) (hc : P.cellsOf e = 1) (hby : P.bytesOf e = 16)
    (hok : Value.okWide P W .any base t v) (h : DataW.Trod enc P W 0 (fun _ => true) true t v d p) (hsz : Sized P t d) : InStrs W v 8796093021952 140737488351232 := by
  obtain ⟨ao, len, cap, rfl⟩ := okWide_slice hu hok
  obtain ⟨fuel, hf⟩ := h
  rcases open_strings hu he hc hf with ⟨hcs, hx⟩ | ⟨a, len', cap', ss, hcs, _, hl, hm, hz, hx, hcell, hws⟩
  · simp [Value.cells] at hcs
    obtain ⟨rfl, rfl, rfl⟩ := hcs
    exact ⟨none, 0, [], rfl, CellsAt.nil _ _, by simp, by simp⟩
  · simp [Value.cells] at hcs
    obtain ⟨rfl, rfl, rfl⟩ := hcs
    simp only [Prod.mk.injEq] at hx
    obtain ⟨rfl, _⟩ := hx
    simp only [if_true] at hz
    have hlen : (ss.take len).length = len := by rw [List.length_take]; omega
    have hr : reachBytes = 140737488351232 := by decide
    refine ⟨some a, cap, ss.take len, by rw [hlen], fun i u hu' => ?_, ?_, fun s hs => ?_⟩
    · have hi : i < len := by
        have := (List.getElem?_eq_some_iff.1 hu').1
        simp only [strs, List.length_map, hlen] at this; exact this
      obtain ⟨b, off, spot⟩ := a
      have h0 := hcell i (by omega)
      have hspot : spot = none := by
        have := World.cell?_spot (hcell 0 (by omega)); simpa [Addr.add] using this
      subst hspot
      refine ⟨b, off, rfl, ?_⟩
      rw [Addr.add_lit] at h0
      rw [h0]
      simp only [strs, List.getElem?_map, List.getElem?_take, hi, if_true] at hu'
      rw [List.getD_eq_getElem?_getD]
      cases hq : ss[i]? with
      | none => rw [hq] at hu'; simp at hu'
      | some x => rw [hq] at hu'; simpa using hu'
    · have := hsz ((ss.take len).length * 16 + (ss.drop len).length * 16) (by simp [DataW.weights, hu, hby, Nat.add_mul, ChangeShapes.strs])
      rw [hr] at this
      omega
    · have hmem : (DataW.lit (H := H) (.string s.data.toList)) ∈ ChangeShapes.strs (H := H) (ss.take len) := by
        simp only [ChangeShapes.strs, List.mem_map]; exact ⟨s, hs, rfl⟩
      have := hsz s.data.toList.length (by
        simp only [DataW.weights, hu, List.mem_cons, List.mem_append]
        right; left
        exact weightsAll_mem P e hmem _ (by rw [weights_str]; simp))
      rw [hr] at this
      exact this
end
end Go.Proofs.Ytcphalpcdcddpaa

/- What a bound on the reading gives; []int as it came in. -/
namespace Go.Proofs.Ytcphalpcdcddpaa
open Go.ChangeShapes Go.WideShapes Go.ChangeAt Go.RowKit
set_option linter.unusedVariables false

theorem bulk_one {H : Type} (d : DataW H) : 1 ≤ Rows.uptoBulk d := by
  cases d with
  | lit l => cases l <;> simp [Rows.uptoBulk]
  | nil => simp [Rows.uptoBulk]
  | ptr d => simp [Rows.uptoBulk]
  | slice elems spare => simp [Rows.uptoBulk]
  | agg parts => simp [Rows.uptoBulk]
  | iface t d => simp [Rows.uptoBulk]
  | map entries => simp [Rows.uptoBulk]
  | held h => simp [Rows.uptoBulk]
theorem bulk_len {H : Type} (l : List (DataW H)) : l.length ≤ Rows.uptoBulkAll l := by
  induction l with
  | nil => simp [Rows.uptoBulkAll]
  | cons x r ih => have := bulk_one x; simp only [Rows.uptoBulkAll, List.length_cons]; omega
theorem bulk_slice {H : Type} (elems spare : List (DataW H)) : elems.length + spare.length + 1 ≤ Rows.uptoBulk (.slice elems spare) := by
  have h1 := bulk_len elems
  have h2 := bulk_len spare
  simp only [Rows.uptoBulk]
  omega

/-- A []int that came in. -/
def InInts (w : World) (v : Value) (n : Nat) : Prop :=
  ∃ ao cap zs, v = .slice ao zs.length cap ∧ CellsAt w ao (ints zs) ∧ zs.length ≤ n

theorem read_ints {H : Type} {enc : TypeId × Value → H} {P : Program} {W : World} {t e : TypeId} {base : Nat} {v : Value} {d : DataW H} {p : List MemPlace} (hu : P.underlying t = some (.slice e)) (he : P.underlying e = some (.int .i64)) (hc : P.cellsOf e = 1)
    (hok : Value.okWide P W .any base t v) (h : DataW.Trod enc P W 0 (fun _ => true) true t v d p) {N : Nat} (hN : Rows.uptoBulk d ≤ N) : InInts W v N := by
  obtain ⟨ao, len, cap, rfl⟩ := okWide_slice hu hok
  obtain ⟨fuel, hf⟩ := h
  rcases open_ints hu he hc hf with ⟨hcs, hx⟩ | ⟨a, len', cap', zs, hcs, _, hl, hm, hz, hx, hcell, hws⟩
  · simp [Value.cells] at hcs
    obtain ⟨rfl, rfl, rfl⟩ := hcs
    exact ⟨none, 0, [], rfl, CellsAt.nil _ _, by simp⟩
  · simp [Value.cells] at hcs
    obtain ⟨rfl, rfl, rfl⟩ := hcs
    simp only [Prod.mk.injEq] at hx
    obtain ⟨rfl, _⟩ := hx
    simp only [if_true] at hz
    have hlen : (zs.take len).length = len := by rw [List.length_take]; omega
    have hb := bulk_slice (lits (H := H) .i64 (zs.take len)) (lits .i64 (zs.drop len))
    have hl2 : (lits (H := H) .i64 (zs.take len)).length = len := by simp [lits]; omega
    refine ⟨some a, cap, zs.take len, by rw [hlen], fun i u hu' => ?_, by rw [hlen]; omega⟩
    have hi : i < len := by
      have := (List.getElem?_eq_some_iff.1 hu').1
      simp only [ints, List.length_map, hlen] at this; exact this
    obtain ⟨b, off, spot⟩ := a
    have h0 := hcell i (by omega)
    have hspot : spot = none := by
      have := World.cell?_spot (hcell 0 (by omega)); simpa [Addr.add] using this
    subst hspot
    refine ⟨b, off, rfl, ?_⟩
    rw [Addr.add_lit] at h0
    rw [h0]
    simp only [ints, List.getElem?_map, List.getElem?_take, hi, if_true] at hu'
    rw [List.getD_eq_getElem?_getD]
    cases hq : zs[i]? with
    | none => rw [hq] at hu'; simp at hu'
    | some x => rw [hq] at hu'; simpa using hu'
end Go.Proofs.Ytcphalpcdcddpaa

/- Shapes: how data of a type lie in memory, and what a reading of a bounded argument gives of them. -/
namespace Go.Proofs.Ytcphalpcdcddpaa
open Go.ChangeShapes Go.WideShapes Go.ChangeAt Go.RowKit
set_option linter.unusedVariables false

/-- How data of a type lie in memory: the cells cs of world w are the datum x, all that they lead to lies in blocks of G. -/
structure Shp (P : Program) (α : Type) where
  ty : TypeId
  n : Nat
  At : World → (Nat → Prop) → List Value → α → Prop
  bulk : α → Nat
  cells : P.cellsOf ty = n
  len : ∀ {w G cs x}, At w G cs x → cs.length = n
  kp : ∀ {w w' G F cs x}, At w G cs x → Kp F w w' → (∀ k, G k → ¬ F k) → At w' G cs x
  mono : ∀ {w G G' cs x}, At w G cs x → (∀ k, G k → G' k) → At w G' cs x
  read : ∀ {H : Type} {enc : TypeId × Value → H} {w fuel cs d p}, DataW.trod enc P w 0 (fun _ => true) true fuel ty cs = some (d, p) → ∃ x, At w (fun k => k < w.heap.size) cs x ∧ bulk x ≤ Rows.uptoBulk d

section
variable {P : Program} {α β : Type}
theorem Shp.ext (s : Shp P α) {w w' : World} {G : Nat → Prop} {cs : List Value} {x : α} (h : s.At w G cs x) (hk : Ext w w') : s.At w' G cs x := s.kp h hk fun _ _ => id

theorem read_lit {H : Type} (l : Lit) : 1 ≤ Rows.uptoBulk (DataW.lit (H := H) l) := bulk_one _
def shInt (t : TypeId) (k : IntKind) (hu : P.underlying t = some (.int k)) (hc : P.cellsOf t = 1) : Shp P Int where
  ty := t
  n := 1
  At := fun _ _ cs x => cs = [.int k x] ∧ (Lit.int k x).wf = true
  bulk := fun _ => 1
  cells := hc
  len := fun h => by rw [h.1]; rfl
  kp := fun h _ _ => h
  mono := fun h _ => h
  read := fun h => by
    obtain ⟨n, rfl, e, hw⟩ := DataW.trod_int hu h
    cases e
    exact ⟨n, ⟨rfl, hw⟩, bulk_one _⟩
def shBool (t : TypeId) (hu : P.underlying t = some .bool) (hc : P.cellsOf t = 1) : Shp P Bool where
  ty := t
  n := 1
  At := fun _ _ cs x => cs = [.bool x]
  bulk := fun _ => 1
  cells := hc
  len := fun h => by rw [h]; rfl
  kp := fun h _ _ => h
  mono := fun h _ => h
  read := fun h => by
    obtain ⟨n, rfl, e⟩ := DataW.trod_bool hu h
    cases e
    exact ⟨n, rfl, bulk_one _⟩
def shStr (t : TypeId) (hu : P.underlying t = some .string) (hc : P.cellsOf t = 1) : Shp P ByteArray where
  ty := t
  n := 1
  At := fun _ _ cs x => cs = [.string x] ∧ x.size ≤ maxLen
  bulk := fun x => x.size + 1
  cells := hc
  len := fun h => by rw [h.1]; rfl
  kp := fun h _ _ => h
  mono := fun h _ => h
  read := fun h => by
    obtain ⟨n, rfl, e, hw⟩ := DataW.trod_string hu h
    cases e
    refine ⟨n, ⟨rfl, hw⟩, ?_⟩
    rw [Rows.uptoBulk, Array.length_toList]; exact Nat.le_refl _

/-- A slice's elements. -/
def ElemsAt (s : Shp P α) (w : World) (G : Nat → Prop) (ao : Option Addr) (xs : List α) : Prop :=
  ∀ i x, xs[i]? = some x → ∃ b off es, ao = some ⟨b, off, none⟩ ∧ G b ∧ b < w.heap.size ∧ s.At w G es x ∧ ∀ c u, es[c]? = some u → w.cell? ⟨b, off + (i * s.n + c), none⟩ = some u
theorem ElemsAt.kp {s : Shp P α} {w w' : World} {G F : Nat → Prop} {ao : Option Addr} {xs : List α} (h : ElemsAt s w G ao xs) (hk : Kp F w w') (hF : ∀ k, G k → ¬ F k) : ElemsAt s w' G ao xs := fun i x hx => by
  obtain ⟨b, off, es, e, hg, hb, ha, hc⟩ := h i x hx
  exact ⟨b, off, es, e, hg, Nat.lt_of_lt_of_le hb hk.size, s.kp ha hk hF, fun c u hu => hk.cell (hc c u hu) (hF b hg)⟩
theorem ElemsAt.ext {s : Shp P α} {w w' : World} {G : Nat → Prop} {ao : Option Addr} {xs : List α} (h : ElemsAt s w G ao xs) (hk : Ext w w') : ElemsAt s w' G ao xs := h.kp hk fun _ _ => id
theorem ElemsAt.mono {s : Shp P α} {w : World} {G G' : Nat → Prop} {ao : Option Addr} {xs : List α} (h : ElemsAt s w G ao xs) (hG : ∀ k, G k → G' k) : ElemsAt s w G' ao xs := fun i x hx => by
  obtain ⟨b, off, es, e, hg, hb, ha, hc⟩ := h i x hx
  exact ⟨b, off, es, e, hG b hg, hb, s.mono ha hG, hc⟩
def bulkL (f : α → Nat) (xs : List α) : Nat := (xs.map f).sum
theorem bulkL_cons (f : α → Nat) (x : α) (xs : List α) : bulkL f (x :: xs) = f x + bulkL f xs := by simp [bulkL]
theorem bulkL_mem (f : α → Nat) {x : α} : ∀ {xs : List α}, x ∈ xs → f x ≤ bulkL f xs
  | y :: xs, h => by
    rw [bulkL_cons]
    rcases List.mem_cons.1 h with rfl | h
    · omega
    · have := bulkL_mem f h; omega
theorem bulkL_len (f : α → Nat) (hf : ∀ x, 1 ≤ f x) : ∀ xs : List α, xs.length ≤ bulkL f xs
  | [] => by simp
  | x :: xs => by have := bulkL_len f hf xs; have := hf x; rw [bulkL_cons]; simp only [List.length_cons]; omega
theorem bulkL_le {H : Type} (f : α → Nat) : ∀ (xs : List α) (D : List (DataW H)), xs.length = D.length → (∀ (i : Nat) x d, xs[i]? = some x → D[i]? = some d → f x ≤ Rows.uptoBulk d) → bulkL f xs ≤ Rows.uptoBulkAll D
  | [], [], _, _ => by simp [bulkL]
  | x :: xs, d :: D, hl, h => by
    have h0 := h 0 x d rfl rfl
    have := bulkL_le f xs D (by simpa using hl) (fun i y e hy he => h (i + 1) y e (by simpa using hy) (by simpa using he))
    rw [bulkL_cons]; simp only [Rows.uptoBulkAll]; omega

def shSlice (t : TypeId) (s : Shp P α) (hu : P.underlying t = some (.slice s.ty)) (hc : P.cellsOf t = 1) (hn : 0 < s.n) : Shp P (List α) where
  ty := t
  n := 1
  At := fun w G cs xs => ∃ ao cap, cs = [.slice ao xs.length cap] ∧ xs.length ≤ cap ∧ cap ≤ maxLen ∧ ElemsAt s w G ao xs
  bulk := fun xs => bulkL s.bulk xs + 1
  cells := hc
  len := fun h => by obtain ⟨_, _, e, _⟩ := h; rw [e]; rfl
  kp := fun ⟨ao, cap, e, h1, h2, h⟩ hk hF => ⟨ao, cap, e, h1, h2, h.kp hk hF⟩
  mono := fun ⟨ao, cap, e, h1, h2, h⟩ hG => ⟨ao, cap, e, h1, h2, h.mono hG⟩
  read := fun {H enc w fuel cs d p} h => by
    rcases Go.Deep.open_slice hu h with ⟨hcs, hx⟩ | ⟨a, len, cap, m, n, D, Pl, hcs, _, hl, hm, hmm, hx, hel⟩
    · cases hx
      exact ⟨[], ⟨none, 0, hcs, by simp, by simp [maxLen], fun i x hi => by simp at hi⟩, by simp [Rows.uptoBulk, bulkL]⟩
    · cases hx
      subst hcs
      simp only [if_true] at hmm
      have each : ∀ i, i < len → ∃ q : α × List Value, (s.At w (fun k => k < w.heap.size) q.2 q.1 ∧ s.bulk q.1 ≤ Rows.uptoBulk (D i)) ∧ ∃ b off, a = ⟨b, off, none⟩ ∧ b < w.heap.size ∧ ∀ c u, q.2[c]? = some u → w.cell? ⟨b, off + (i * s.n + c), none⟩ = some u := by
        intro i hi
        obtain ⟨cs, hcs, ht⟩ := hel i (by omega)
        obtain ⟨x, hx, hb⟩ := s.read ht
        rw [s.cells] at hcs
        obtain ⟨_, hlen, hcell⟩ := World.cells?_some hcs
        obtain ⟨b, off, spot⟩ := a
        have hspot : spot = none := by
          obtain ⟨cs0, hcs0, _⟩ := hel 0 (by omega)
          rw [s.cells] at hcs0
          obtain ⟨_, hlen0, hcell0⟩ := World.cells?_some hcs0
          have h0 := hcell0 0 hn
          rw [List.getElem?_eq_getElem (by omega)] at h0
          have := World.cell?_spot h0
          simpa [Addr.add] using this
        subst hspot
        have cell : ∀ c, c < s.n → w.cell? ⟨b, off + (i * s.n + c), none⟩ = cs[c]? := fun c hc => by
          have := hcell c hc
          rw [Go.Deep.add_add, Addr.add_lit] at this
          exact this
        refine ⟨(x, cs), ⟨hx, hb⟩, b, off, rfl, ?_, fun c u hu => ?_⟩
        · have h0 := cell 0 hn
          rw [List.getElem?_eq_getElem (by omega)] at h0
          exact World.block_lt_of_cell? _ _ h0
        · have hc := (List.getElem?_eq_some_iff.1 hu).1
          rw [cell c (by simp only at hc; omega)]; exact hu
      have hex : ∃ q : List (α × List Value), q.length = len ∧ ∀ (i : Nat) y, q[i]? = some y → (s.At w (fun k => k < w.heap.size) y.2 y.1 ∧ s.bulk y.1 ≤ Rows.uptoBulk (D i)) ∧ ∃ b off, a = ⟨b, off, none⟩ ∧ b < w.heap.size ∧ ∀ c u, y.2[c]? = some u → w.cell? ⟨b, off + (i * s.n + c), none⟩ = some u := by
        clear hel hmm hl hm h
        induction len with
        | zero => exact ⟨[], rfl, fun i y hy => by simp at hy⟩
        | succ len ih =>
          obtain ⟨q, h1, h2⟩ := ih (fun i hi => each i (by omega))
          obtain ⟨y, hy⟩ := each len (by omega)
          refine ⟨q ++ [y], by simp [h1], fun i z hz => ?_⟩
          by_cases hi : i < len
          · rw [List.getElem?_append_left (by omega)] at hz; exact h2 i z hz
          · have h3 := (List.getElem?_eq_some_iff.1 hz).1
            simp only [List.length_append, List.length_cons, List.length_nil] at h3
            have e : i = len := by omega
            subst e
            rw [List.getElem?_append_right (by omega)] at hz
            simp [h1] at hz
            subst hz; exact hy
      obtain ⟨q, hq, hall⟩ := hex
      refine ⟨q.map (·.1), ⟨some a, cap, by simp [hq], by simp [hq, hl], hm, fun i x hi => ?_⟩, ?_⟩
      · rw [List.getElem?_map] at hi
        cases hy : q[i]? with
        | none => rw [hy] at hi; cases hi
        | some y =>
          rw [hy] at hi
          cases hi
          obtain ⟨⟨h1, _⟩, b, off, rfl, hb, hc⟩ := hall i y hy
          exact ⟨b, off, y.2, rfl, hb, hb, h1, hc⟩
      · have := bulkL_le (H := H) s.bulk (q.map (·.1)) ((List.range len).map D) (by simp [hq]) (fun i x d hx hd => by
          rw [List.getElem?_map] at hx hd
          cases hy : q[i]? with
          | none => rw [hy] at hx; cases hx
          | some y =>
            have hi := (List.getElem?_eq_some_iff.1 hy).1
            rw [hy] at hx
            rw [List.getElem?_range (by omega)] at hd
            cases hx; cases hd
            exact (hall i y hy).1.2)
        simp only [Rows.uptoBulk]
        omega

/-- A struct's fields, from an offset on. -/
structure Flds (P : Program) (α : Type) where
  n : Nat
  At : World → (Nat → Prop) → List Value → α → Prop
  bulk : α → Nat
  ok : List Field → Nat → Prop
  len : ∀ {w G cs x}, At w G cs x → cs.length = n
  kp : ∀ {w w' G F cs x}, At w G cs x → Kp F w w' → (∀ k, G k → ¬ F k) → At w' G cs x
  mono : ∀ {w G G' cs x}, At w G cs x → (∀ k, G k → G' k) → At w G' cs x
  read : ∀ {H : Type} {enc : TypeId × Value → H} {w : World} {fuel : Nat} {fs : List Field} {off : Nat} {cs : List Value} {xs : List (DataW H × List MemPlace)}, ok fs off → off + n ≤ cs.length → (fs.mapM fun f => DataW.trod enc P w 0 (fun _ => true) true fuel f.type ((cs.drop f.offset).take (P.cellsOf f.type))) = some xs →
    ∃ x, At w (fun k => k < w.heap.size) ((cs.drop off).take n) x ∧ bulk x ≤ Rows.uptoBulkAll (xs.map (·.1))
def fdNil : Flds P Unit where
  n := 0
  At := fun _ _ cs _ => cs = []
  bulk := fun _ => 0
  ok := fun fs _ => fs = []
  len := fun h => by rw [h]; rfl
  kp := fun h _ _ => h
  mono := fun h _ => h
  read := fun h _ hm => by
    subst h
    exact ⟨(), by simp, by simp⟩
def fdCons (s : Shp P α) (r : Flds P β) : Flds P (α × β) where
  n := s.n + r.n
  At := fun w G cs x => ∃ a b, cs = a ++ b ∧ s.At w G a x.1 ∧ r.At w G b x.2
  bulk := fun x => s.bulk x.1 + r.bulk x.2
  ok := fun fs off => ∃ f fs', fs = f :: fs' ∧ f.type = s.ty ∧ f.offset = off ∧ r.ok fs' (off + s.n)
  len := fun h => by obtain ⟨a, b, e, h1, h2⟩ := h; rw [e, List.length_append, s.len h1, r.len h2]
  kp := fun ⟨a, b, e, h1, h2⟩ hk hF => ⟨a, b, e, s.kp h1 hk hF, r.kp h2 hk hF⟩
  mono := fun ⟨a, b, e, h1, h2⟩ hG => ⟨a, b, e, s.mono h1 hG, r.mono h2 hG⟩
  read := fun {H enc w fuel fs off cs xs} ho hl hm => by
    obtain ⟨f, fs', rfl, h1, h2, h3⟩ := ho
    rw [List.mapM_cons] at hm
    obtain ⟨y, hy, hm⟩ := Option.bind_eq_some_iff.1 hm
    obtain ⟨ys, hys, hm⟩ := Option.bind_eq_some_iff.1 hm
    cases hm
    rw [h1, h2, s.cells] at hy
    obtain ⟨x, hx, hb⟩ := s.read (d := y.1) (p := y.2) hy
    obtain ⟨z, hz, hc⟩ := r.read h3 (by omega) hys
    refine ⟨(x, z), ⟨_, _, ?_, hx, hz⟩, ?_⟩
    · rw [← List.drop_drop, List.take_add]
    · simp only [List.map_cons, Rows.uptoBulkAll]; omega
def shStruct (t : TypeId) (r : Flds P α) {fs : Array Field} (hu : P.underlying t = some (.struct fs)) (hok : r.ok fs.toList 0) (hc : P.cellsOf t = r.n) : Shp P α where
  ty := t
  n := r.n
  At := r.At
  bulk := fun x => r.bulk x + 1
  cells := hc
  len := r.len
  kp := r.kp
  mono := r.mono
  read := fun {H enc w fuel cs d p} h => by
    cases fuel with
    | zero => simp [DataW.trod] at h
    | succ fuel =>
      unfold DataW.trod at h
      rw [hu] at h
      simp only at h
      split at h
      · rename_i hl
        rw [hc] at hl
        obtain ⟨xs, hm, e⟩ := Option.map_eq_some_iff.1 h
        cases e
        obtain ⟨x, hx, hb⟩ := r.read hok (by omega) hm
        rw [List.drop_zero, ← hl, List.take_length] at hx
        exact ⟨x, hx, by simp only [Rows.uptoBulk]; omega⟩
      · cases h

/-- An argument as it came in. -/
theorem Shp.arg (s : Shp P α) {H : Type} {enc : TypeId × Value → H} {W : World} {v : Value} {d : DataW H} {p : List MemPlace} (h : DataW.Trod enc P W 0 (fun _ => true) true s.ty v d p) {N : Nat} (hN : Rows.uptoBulk d ≤ N) :
    ∃ x, s.At W (fun k => k < W.heap.size) v.cells.toList x ∧ s.bulk x ≤ N := by
  obtain ⟨fuel, hf⟩ := h
  obtain ⟨x, hx, hb⟩ := s.read hf
  exact ⟨x, hx, Nat.le_trans hb hN⟩
/-- Texts, as cells. -/
theorem elems_strs {t : TypeId} {hu : P.underlying t = some .string} {hc : P.cellsOf t = 1} {w : World} {G : Nat → Prop} {ao : Option Addr} {ss : List ByteArray} (h : ElemsAt (shStr t hu hc) w G ao ss) : CellsAt w ao (strs ss) := fun i u hu' => by
  simp only [strs, List.getElem?_map] at hu'
  cases hx : ss[i]? with
  | none => rw [hx] at hu'; cases hu'
  | some x =>
    rw [hx] at hu'
    cases hu'
    obtain ⟨b, off, es, e, _, _, ha, hcell⟩ := h i x hx
    refine ⟨b, off, e, ?_⟩
    have := hcell 0 (.string x) (by rw [ha.1]; rfl)
    simpa [shStr] using this
end
end Go.Proofs.Ytcphalpcdcddpaa

/- Arguments as they came in, by their shapes. -/
namespace Go.Proofs.Ytcphalpcdcddpaa
open Go.ChangeShapes Go.WideShapes Go.ChangeAt Go.RowKit
set_option linter.unusedVariables false
section
variable {P : Program} {α β : Type}
/-- A slice that came in. -/
theorem arg_slice {t : TypeId} {s : Shp P α} (hu : P.underlying t = some (.slice s.ty)) (hc : P.cellsOf t = 1) (hn : 0 < s.n) {H : Type} {enc : TypeId × Value → H} {W : World} {base : Nat} {v : Value} {d : DataW H} {p : List MemPlace}
    (hok : Value.okWide P W .any base t v) (h : DataW.Trod enc P W 0 (fun _ => true) true t v d p) {N : Nat} (hN : Rows.uptoBulk d ≤ N) :
    ∃ ao cap xs, v = .slice ao xs.length cap ∧ xs.length ≤ cap ∧ ElemsAt s W (fun k => k < W.heap.size) ao xs ∧ bulkL s.bulk xs + 1 ≤ N := by
  obtain ⟨ao, len, cap, rfl⟩ := okWide_slice hu hok
  obtain ⟨x, ⟨ao', cap', e, hl, _, hx⟩, hb⟩ := (shSlice t s hu hc hn).arg h hN
  simp [Value.cells] at e
  obtain ⟨rfl, rfl, rfl⟩ := e
  exact ⟨ao, cap, x, rfl, hl, hx, hb⟩
/-- A text that came in. -/
theorem arg_str {t : TypeId} (hu : P.underlying t = some .string) (hc : P.cellsOf t = 1) {H : Type} {enc : TypeId × Value → H} {W : World} {base : Nat} {v : Value} {d : DataW H} {p : List MemPlace}
    (hok : Value.okWide P W .any base t v) (h : DataW.Trod enc P W 0 (fun _ => true) true t v d p) {N : Nat} (hN : Rows.uptoBulk d ≤ N) : ∃ s, v = .string s ∧ s.size + 1 ≤ N := by
  obtain ⟨s, rfl⟩ := okWide_string hu hok
  obtain ⟨x, ⟨e, _⟩, hb⟩ := (shStr t hu hc).arg h hN
  simp [Value.cells] at e
  subst e
  exact ⟨s, rfl, hb⟩
theorem bulk_in {H : Type} {l : List (DataW H)} {N : Nat} (h : Rows.uptoBulkAll l ≤ N) {d : DataW H} (hd : d ∈ l) : Rows.uptoBulk d ≤ N := by
  induction l with
  | nil => cases hd
  | cons x l ih =>
    simp only [Rows.uptoBulkAll] at h
    rcases List.mem_cons.1 hd with rfl | hd
    · omega
    · exact ih (by omega) hd
end
end Go.Proofs.Ytcphalpcdcddpaa

/- Rules, literals, terms in memory. -/
namespace Go.Proofs.Ytcphalpcdcddpaa
open Go.RowKit
set_option linter.unusedVariables false

/-- Two texts by their bytes, as the walk compares them. -/
theorem str_beq (a b : ByteArray) : (a.toList == b.toList) = decide (a = b) := by
  rw [Bool.eq_iff_iff, beq_iff_eq, decide_eq_true_iff]
  refine ⟨fun h => ?_, fun h => by rw [h]⟩
  rw [ByteArray.toList_eq, ByteArray.toList_eq] at h
  exact ByteArray.ext (Array.toList_inj.1 h)
theorem str_ne {a b : ByteArray} (h : ¬ a = b) : (a.toList == b.toList) = false := by rw [str_beq, decide_eq_false h]
theorem str_eq (a : ByteArray) : (a.toList == a.toList) = true := by rw [str_beq, decide_eq_true rfl]

noncomputable def shTerm : Shp Try.prog TermZ := shStruct 68 (fdCons (shInt 3 .i64 Try.underlying3 (by kernel_rfl)) (fdCons (shStr 9 Try.underlying9 (by kernel_rfl)) fdNil)) (fs := _) Try.underlying68 ⟨_, _, rfl, rfl, rfl, _, _, rfl, rfl, rfl, rfl⟩ (by kernel_rfl)
noncomputable def shTerms : Shp Try.prog (List TermZ) := shSlice 22 shTerm Try.underlying22 (by kernel_rfl) (by decide)
noncomputable def shAtom : Shp Try.prog AtomZ := shStruct 24 (fdCons (shStr 9 Try.underlying9 (by kernel_rfl)) (fdCons shTerms fdNil)) (fs := _) Try.underlying24 ⟨_, _, rfl, rfl, rfl, _, _, rfl, rfl, rfl, rfl⟩ (by kernel_rfl)
noncomputable def shLit : Shp Try.prog LitZ := shStruct 70 (fdCons (shInt 3 .i64 Try.underlying3 (by kernel_rfl)) (fdCons shAtom (fdCons (shInt 3 .i64 Try.underlying3 (by kernel_rfl)) (fdCons shTerm (fdCons shTerm fdNil))))) (fs := _) Try.underlying70 ⟨_, _, rfl, rfl, rfl, _, _, rfl, rfl, rfl, _, _, rfl, rfl, rfl, _, _, rfl, rfl, rfl, _, _, rfl, rfl, rfl, rfl⟩ (by kernel_rfl)
noncomputable def shLits : Shp Try.prog (List LitZ) := shSlice 25 shLit Try.underlying25 (by kernel_rfl) (by decide)
noncomputable def shRule : Shp Try.prog RuleZ := shStruct 27 (fdCons shAtom (fdCons shLits fdNil)) (fs := _) Try.underlying27 ⟨_, _, rfl, rfl, rfl, _, _, rfl, rfl, rfl, rfl⟩ (by kernel_rfl)

/-- Terms, literals from an address on. -/
abbrev TermsAt (w : World) (G : Nat → Prop) (ao : Option Addr) (ts : List TermZ) : Prop := ElemsAt shTerm w G ao ts
abbrev LitsAt (w : World) (G : Nat → Prop) (ao : Option Addr) (ls : List LitZ) : Prop := ElemsAt shLit w G ao ls

/-- What a term's parts are beyond their values. -/
def TermFit (t : TermZ) : Prop := (Lit.int .i64 t.1).wf = true ∧ t.2.1.size ≤ maxLen
theorem term_fit {w : World} {G : Nat → Prop} {cs : List Value} {t : TermZ} (h : shTerm.At w G cs t) : TermFit t := by
  obtain ⟨a1, b1, e1, ⟨e2, h2⟩, ⟨a3, b3, e3, ⟨e4, h4⟩, e5⟩⟩ := h
  exact ⟨h2, h4⟩
theorem term_cells {w : World} {G : Nat → Prop} {cs : List Value} {t : TermZ} (h : shTerm.At w G cs t) : cs = [.int .i64 t.1, .string t.2.1] := by
  obtain ⟨a1, b1, e1, ⟨e2, _⟩, ⟨a3, b3, e3, ⟨e4, _⟩, e5⟩⟩ := h
  rw [e2, e3, e4, e5] at e1; exact e1
/-- One term of a list. -/
theorem term_at {w : World} {G : Nat → Prop} {ao : Option Addr} {ts : List TermZ} (h : TermsAt w G ao ts) {i : Nat} {t : TermZ} (hi : ts[i]? = some t) :
    ∃ b off, ao = some ⟨b, off, none⟩ ∧ w.cell? ⟨b, off + i * 2, none⟩ = some (.int .i64 t.1) ∧ w.cell? ⟨b, off + i * 2 + 1, none⟩ = some (.string t.2.1) ∧ G b ∧ b < w.heap.size := by
  obtain ⟨b, off, es, e, hG, hb, ha, hcell⟩ := h i t hi
  rw [term_cells ha] at hcell
  have h0 := hcell 0 (.int .i64 t.1) rfl
  have h1 := hcell 1 (.string t.2.1) rfl
  rw [show shTerm.n = 2 from rfl] at h0 h1
  exact ⟨b, off, e, by simpa using h0, by rw [Nat.add_assoc]; exact h1, hG, hb⟩
/-- A literal's cells: its terms lie in a slice. -/
structure LitIn (w : World) (G : Nat → Prop) (l : LitZ) (ao : Option Addr) (cap : Nat) : Prop where
  terms : TermsAt w G ao (termsOf l)
  len : (termsOf l).length ≤ cap
  cap : cap ≤ maxLen
  left : TermFit (leftOf l)
  right : TermFit (rightOf l)
theorem LitIn.kp {w w' : World} {G F : Nat → Prop} {l : LitZ} {ao : Option Addr} {cap : Nat} (h : LitIn w G l ao cap) (hk : Kp F w w') (hF : ∀ k, G k → ¬ F k) : LitIn w' G l ao cap := ⟨h.terms.kp hk hF, h.len, h.cap, h.left, h.right⟩
theorem LitIn.ext {w w' : World} {G : Nat → Prop} {l : LitZ} {ao : Option Addr} {cap : Nat} (h : LitIn w G l ao cap) (hk : Ext w w') : LitIn w' G l ao cap := h.kp hk fun _ _ => id
theorem lit_cells {w : World} {G : Nat → Prop} {cs : List Value} {l : LitZ} (h : shLit.At w G cs l) : ∃ ao cap, LitIn w G l ao cap ∧
    cs = [.int .i64 l.1, .string (predOf l), .slice ao (termsOf l).length cap, .int .i64 (opOf l), .int .i64 (leftOf l).1, .string (leftOf l).2.1, .int .i64 (rightOf l).1, .string (rightOf l).2.1] := by
  obtain ⟨a1, b1, e1, ⟨e2, _⟩, ⟨a3, b3, e3, h3, ⟨a4, b4, e4, ⟨e5, _⟩, ⟨a6, b6, e6, h6, ⟨a7, b7, e7, h7, e8⟩⟩⟩⟩⟩ := h
  obtain ⟨c1, d1, f1, ⟨f2, _⟩, ⟨c3, d3, f3, ⟨ao, cap, f4, g1, g2, g3⟩, f5⟩⟩ := h3
  refine ⟨ao, cap, ⟨g3, g1, g2, term_fit h6, term_fit h7⟩, ?_⟩
  rw [e1, e2, e3, f1, f2, f3, f4, f5, e4, e5, e6, term_cells h6, e7, term_cells h7, e8]
  rfl
theorem lit_at {w : World} {G : Nat → Prop} {ao : Option Addr} {ls : List LitZ} (h : LitsAt w G ao ls) {i : Nat} {l : LitZ} (hi : ls[i]? = some l) :
    ∃ b off a cap, ao = some ⟨b, off, none⟩ ∧ G b ∧ b < w.heap.size ∧ LitIn w G l a cap ∧
      w.cell? ⟨b, off + i * 8, none⟩ = some (.int .i64 l.1) ∧ w.cell? ⟨b, off + i * 8 + 1, none⟩ = some (.string (predOf l)) ∧ w.cell? ⟨b, off + i * 8 + 2, none⟩ = some (.slice a (termsOf l).length cap) ∧
      w.cell? ⟨b, off + i * 8 + 3, none⟩ = some (.int .i64 (opOf l)) ∧ w.cell? ⟨b, off + i * 8 + 4, none⟩ = some (.int .i64 (leftOf l).1) ∧ w.cell? ⟨b, off + i * 8 + 5, none⟩ = some (.string (leftOf l).2.1) ∧
      w.cell? ⟨b, off + i * 8 + 6, none⟩ = some (.int .i64 (rightOf l).1) ∧ w.cell? ⟨b, off + i * 8 + 7, none⟩ = some (.string (rightOf l).2.1) := by
  obtain ⟨b, off, es, e, hG, hb, ha, hcell⟩ := h i l hi
  obtain ⟨a, cap, hl, ec⟩ := lit_cells ha
  rw [ec, show shLit.n = 8 from rfl] at hcell
  refine ⟨b, off, a, cap, e, hG, hb, hl, ?_, ?_, ?_, ?_, ?_, ?_, ?_, ?_⟩
  · simpa using hcell 0 _ rfl
  all_goals rw [Nat.add_assoc]
  · exact hcell 1 _ rfl
  · exact hcell 2 _ rfl
  · exact hcell 3 _ rfl
  · exact hcell 4 _ rfl
  · exact hcell 5 _ rfl
  · exact hcell 6 _ rfl
  · exact hcell 7 _ rfl
/-- A literal as a value. -/
abbrev litV (k : Int) (p : ByteArray) (a : Option Addr) (n cap : Nat) (op lk : Int) (lt : ByteArray) (rk : Int) (rt : ByteArray) : Value := .agg #[.int .i64 k, .string p, .slice a n cap, .int .i64 op, .int .i64 lk, .string lt, .int .i64 rk, .string rt]
/-- A rule in memory, by what its slices are. -/
structure RuleAt (w : World) (G : Nat → Prop) (r : RuleZ) (ha : Option Addr) (hcap : Nat) (ba : Option Addr) (bcap : Nat) : Prop where
  head : TermsAt w G ha r.1.2.1
  hlen : r.1.2.1.length ≤ hcap
  hmax : hcap ≤ maxLen
  body : LitsAt w G ba r.2.1
  blen : r.2.1.length ≤ bcap
  bmax : bcap ≤ maxLen
theorem RuleAt.kp {w w' : World} {G F : Nat → Prop} {r : RuleZ} {ha : Option Addr} {hc : Nat} {ba : Option Addr} {bc : Nat} (h : RuleAt w G r ha hc ba bc) (hk : Kp F w w') (hF : ∀ k, G k → ¬ F k) : RuleAt w' G r ha hc ba bc :=
  ⟨h.head.kp hk hF, h.hlen, h.hmax, h.body.kp hk hF, h.blen, h.bmax⟩
theorem RuleAt.ext {w w' : World} {G : Nat → Prop} {r : RuleZ} {ha : Option Addr} {hc : Nat} {ba : Option Addr} {bc : Nat} (h : RuleAt w G r ha hc ba bc) (hk : Ext w w') : RuleAt w' G r ha hc ba bc := h.kp hk fun _ _ => id
theorem RuleAt.mono {w : World} {G G' : Nat → Prop} {r : RuleZ} {ha : Option Addr} {hc : Nat} {ba : Option Addr} {bc : Nat} (h : RuleAt w G r ha hc ba bc) (hG : ∀ k, G k → G' k) : RuleAt w G' r ha hc ba bc :=
  ⟨h.head.mono hG, h.hlen, h.hmax, h.body.mono hG, h.blen, h.bmax⟩
/-- ... as a value. -/
abbrev ruleV (p : ByteArray) (ha : Option Addr) (hn hcap : Nat) (ba : Option Addr) (bn bcap : Nat) : Value := .agg #[.string p, .slice ha hn hcap, .slice ba bn bcap]
theorem rule_cells {w : World} {G : Nat → Prop} {cs : List Value} {r : RuleZ} (h : shRule.At w G cs r) : ∃ ha hcap ba bcap, RuleAt w G r ha hcap ba bcap ∧ cs = [.string r.1.1, .slice ha r.1.2.1.length hcap, .slice ba r.2.1.length bcap] := by
  obtain ⟨a1, b1, e1, ⟨c1, d1, f1, ⟨f2, _⟩, ⟨c3, d3, f3, ⟨ao, cap, f4, g1, g2, g3⟩, f5⟩⟩, ⟨a3, b3, e3, ⟨bo, bcap, h4, h5, h6, h7⟩, e4⟩⟩ := h
  refine ⟨ao, cap, bo, bcap, ⟨g3, g1, g2, h7, h5, h6⟩, ?_⟩
  rw [e1, f1, f2, f3, f4, f5, e3, h4, e4]; rfl
end Go.Proofs.Ytcphalpcdcddpaa

/- join: the kinds of terms (shaped, head, literal). -/
namespace Go.Proofs.Ytcphalpcdcddpaa
open Go.RowKit
set_option linter.unusedVariables false

/-- A term as a value. -/
abbrev termV (k : Int) (s : ByteArray) : Value := .agg #[.int .i64 k, .string s]
/-- A function that tells of each term. -/
def TellT (f : FuncId) (first captured : Array Value) (w0 : World) (q : TermZ → Bool) : Prop :=
  (∀ args w, (callFunc f args).run Try.prog w = .ok (Next.enter f args) w) ∧ ∀ w, Ext w0 w → ∀ (k : Int) (s : ByteArray), Calls Try.prog f (first.push (termV k s) ++ captured) w (RetN w fun w' v => v = .bool (q (k, s, ())))
def NoneT (w0 : World) (ts : List TermZ) (q : TermZ → Bool) (n : Nat) (iv : Value) (w : World) : Prop := ∃ i : Nat, i ≤ n ∧ iv = .int .i64 i ∧ Hid (∀ (j : Nat) u, j < i → ts[j]? = some u → q u = false) ∧ Hid (Ext w0 w)
theorem any_false {α : Type} {l : List α} {q : α → Bool} {n : Nat} (hn : n = l.length) (h : ∀ (j : Nat) u, j < n → l[j]? = some u → q u = false) : l.any q = false := by
  rw [List.any_eq_false]
  intro t ht
  obtain ⟨j, hj, rfl⟩ := List.mem_iff_getElem.1 ht
  rw [h j _ (by omega) (List.getElem?_eq_getElem hj)]; decide
theorem any_true {α : Type} {l : List α} {q : α → Bool} {i : Nat} {u : α} (h : l[i]? = some u) (hq : q u = true) : l.any q = true := List.any_eq_true.2 ⟨u, List.mem_of_getElem? h, hq⟩

set_option maxRecDepth 100000 in
set_option maxHeartbeats 1000000 in
theorem indexT_any (ts : List TermZ) (ao : Option Addr) (n cap : Nat) (f : FuncId) (first captured : Array Value) (q : TermZ → Bool) (w : World) (G : Nat → Prop) (hn : n = ts.length) (h : TermsAt w G ao ts) (hq : TellT f first captured w q) (hl : n ≤ 4611686018427387904) :
    Calls Try.prog 100 #[.slice ao n cap, .func (Fn.func f) first captured] w (RetN w fun w' v => ∃ z : Int, v = .int .i64 z ∧ decide (0 ≤ z) = ts.any q) := by
  have HN := Lib.hid hn; have HE := Lib.hid h; clear hn h
  have hent := hq.1
  have HQ := Lib.hid hq.2; clear hq
  go_enter Try.func100, Try.ntmps100
  go_wp2
  go_loopw [8] (fun iv wr => NoneT w ts q n iv wr) (fun iv _ => n - (intOf iv).toNat)
  case atStart => exact ⟨0, Nat.zero_le _, rfl, fun j u h => by omega, Kp.refl w⟩
  case round =>
    obtain ⟨i, hi, rfl, hno, hex⟩ := hrel
    by_cases hlt : i < n
    · have hlt' : i < ts.length := by rw [← HN.out]; exact hlt
      obtain ⟨t, ht⟩ : ∃ t, ts[i]? = some t := ⟨_, List.getElem?_eq_getElem hlt'⟩
      obtain ⟨b, off, eao, hc0, hc1, _⟩ := term_at (HE.out.ext hex.out) ht
      subst eao
      obtain ⟨k, s, ⟨⟩⟩ := t
      simp only at hc0 hc1
      have HC := Lib.hid (HQ.out wr hex.out k s)
      obtain ⟨r, er⟩ : ∃ r : Bool, q (k, s, ()) = r := ⟨_, rfl⟩
      rw [er] at HC
      have HT := Lib.hid (And.intro ht er)
      clear ht hlt' er
      cases r
      · go_wp2_with fail
        refine HC.out.mono ?_
        rintro e w1 ⟨v, rfl, hk1, rfl⟩
        have HX := Lib.hid (hex.out.trans hk1); clear hk1 hc0 hc1
        go_wp2
        go_roundw
        case rel =>
          refine ⟨i + 1, by omega, by first | rfl | (congr 1; done) | (congr 1; omega), fun j u hj hu => ?_, HX⟩
          by_cases e : j = i
          · subst e; rw [HT.out.1] at hu; cases hu; exact HT.out.2
          · exact hno.out j u (by omega) hu
        case measure => simp [intOf]; omega
      · go_wp2_with fail
        refine HC.out.mono ?_
        rintro e w1 ⟨v, rfl, hk1, rfl⟩
        have HX := Lib.hid (hex.out.trans hk1); clear hk1 hc0 hc1
        go_wp2
        go_ret
        exact RetN.mk HX.out ⟨i, rfl, by rw [any_true HT.out.1 HT.out.2]; simp⟩
    · go_wp2
      go_ret
      exact RetN.mk hex.out ⟨-1, rfl, by rw [any_false HN.out fun j u hj => hno.out j u (by omega)]; decide⟩
set_option maxRecDepth 100000 in
theorem containsT_any (ts : List TermZ) (ao : Option Addr) (n cap : Nat) (f : FuncId) (first captured : Array Value) (q : TermZ → Bool) (w : World) (G : Nat → Prop) (hn : n = ts.length) (h : TermsAt w G ao ts) (hq : TellT f first captured w q) (hl : n ≤ 4611686018427387904) :
    Calls Try.prog 98 #[.slice ao n cap, .func (Fn.func f) first captured] w (RetN w fun w' v => v = .bool (ts.any q)) := by
  have HI := Lib.hid (indexT_any ts ao n cap f first captured q w G hn h hq hl)
  clear hn h hq hl
  go_enter Try.func98, Try.ntmps98
  go_wp2_with fail
  refine HI.out.mono ?_
  rintro e w1 ⟨v, rfl, hk, z, rfl, hz⟩
  go_wp2
  go_ret
  exact RetN.mk hk (congrArg Value.bool (by first | exact hz | simp [← hz]))

theorem shapedFn_any (k : Int) (s : ByteArray) (w : World) : Calls Try.prog 99 #[termV k s] w (RetN w fun w' v => v = .bool (decide (k < 1 ∨ 3 < k))) := by
  by_cases h1 : k < 1
  · go_enter Try.func99, Try.ntmps99
    go_wp2
    go_ret
    exact RetN.mk ((Kp.refl w).alloc _) (by simp [h1])
  · go_enter Try.func99, Try.ntmps99
    go_wp2
    go_ret
    exact RetN.mk ((Kp.refl w).alloc _) (by simp; omega)
theorem kinds_any (ts : List TermZ) (up : Int) : (!ts.any fun t => decide (t.1 < 1 ∨ up < t.1)) = kinds ts up := by
  unfold kinds
  induction ts with
  | nil => rfl
  | cons t ts ih =>
    rw [List.any_cons, List.all_cons, ← ih, Bool.not_or]
    congr 1
    rw [← decide_not]
    apply decide_eq_decide.2; omega
theorem shaped_any (ts : List TermZ) (ao : Option Addr) (n cap : Nat) (w : World) (G : Nat → Prop) (hn : n = ts.length) (h : TermsAt w G ao ts) (hl : n ≤ 4611686018427387904) :
    Calls Try.prog 92 #[.slice ao n cap] w (RetN w fun w' v => v = .bool (kinds ts 3)) := by
  have HI := Lib.hid (containsT_any ts ao n cap 99 #[] #[] (fun t => decide (t.1 < 1 ∨ 3 < t.1)) w G hn h ⟨enters_of Try.func99 (by kernel_rfl) rfl, fun w' _ k s => shapedFn_any k s w'⟩ hl)
  clear hn h hl
  go_enter Try.func92, Try.ntmps92
  go_wp2_with fail
  refine HI.out.mono ?_
  rintro e w1 ⟨v, rfl, hk, rfl⟩
  go_wp2
  go_ret
  exact RetN.mk hk (congrArg Value.bool (by rw [← kinds_any ts 3]; simp))

/-- head: between two rounds. -/
def HeadTo (w0 : World) (ts : List TermZ) (n : Nat) (iv av : Value) (w : World) : Prop := ∃ i a : Nat, i ≤ n ∧ a ≤ i ∧ iv = .int .i64 i ∧ av = .int .i64 a ∧ Hid (kinds (ts.take i) 7 = true ∧ a = aggs (ts.take i)) ∧ Hid (Ext w0 w)
theorem kinds_take {ts : List TermZ} {i : Nat} {t : TermZ} (up : Int) (h : ts[i]? = some t) : kinds (ts.take (i + 1)) up = (kinds (ts.take i) up && decide (1 ≤ t.1 ∧ t.1 ≤ up)) := by
  unfold kinds; rw [List.take_add_one, h, List.all_append]; simp
theorem aggs_take {ts : List TermZ} {i : Nat} {t : TermZ} (h : ts[i]? = some t) : aggs (ts.take (i + 1)) = aggs (ts.take i) + if 4 ≤ t.1 then 1 else 0 := by
  unfold aggs; rw [List.take_add_one, h, List.countP_append]
  congr 1
  by_cases h4 : 4 ≤ t.1 <;> simp [h4]
theorem kinds_false {ts : List TermZ} {i : Nat} {t : TermZ} {up : Int} (h : ts[i]? = some t) (ht : ¬ (1 ≤ t.1 ∧ t.1 ≤ up)) : kinds ts up = false := by
  unfold kinds
  rw [List.all_eq_false]
  exact ⟨t, List.mem_of_getElem? h, by simp only [decide_eq_true_eq]; exact ht⟩
set_option maxRecDepth 100000 in
set_option maxHeartbeats 1000000 in
theorem head_any (ts : List TermZ) (ao : Option Addr) (n cap : Nat) (w : World) (G : Nat → Prop) (hn : n = ts.length) (h : TermsAt w G ao ts) (hl : n ≤ 1048576) :
    Calls Try.prog 76 #[.slice ao n cap] w (RetN w fun w' v => v = .bool (headOk ts)) := by
  have HN := Lib.hid hn; have HE := Lib.hid h; clear hn h
  go_enter Try.func76, Try.ntmps76
  go_wp2
  go_loopw [8, 3] (fun iv av wr => HeadTo w ts n iv av wr) (fun iv _ _ => n - (intOf iv).toNat)
  case atStart => exact ⟨0, 0, Nat.zero_le _, Nat.le_refl _, rfl, rfl, ⟨rfl, rfl⟩, Kp.refl w⟩
  case round =>
    obtain ⟨i, a, hi, hai, rfl, rfl, hst, hex⟩ := hrel
    by_cases hlt : i < n
    · have hlt' : i < ts.length := by rw [← HN.out]; exact hlt
      obtain ⟨t, ht⟩ : ∃ t, ts[i]? = some t := ⟨_, List.getElem?_eq_getElem hlt'⟩
      obtain ⟨b, off, eao, hc0, hc1, _⟩ := term_at (HE.out.ext hex.out) ht
      subst eao
      obtain ⟨k, s, ⟨⟩⟩ := t
      simp only at hc0 hc1
      have HT := Lib.hid ht
      clear ht hlt'
      by_cases h1 : k < 1
      · go_wp2
        go_ret
        exact RetN.mk (by first | exact hex.out.alloc _ | exact (hex.out.alloc _).drew) (by rw [headOk, kinds_false HT.out (up := 7) (by simp only; omega)]; rfl)
      · by_cases h7 : 7 < k
        · go_wp2
          go_ret
          exact RetN.mk (by first | exact hex.out.alloc _ | exact (hex.out.alloc _).drew) (by rw [headOk, kinds_false HT.out (up := 7) (by simp only; omega)]; rfl)
        · by_cases h4 : 4 ≤ k
          · go_wp2
            go_roundw
            case rel =>
              refine ⟨i + 1, a + 1, by omega, by omega, by first | rfl | (congr 1; done) | (congr 1; omega), by first | rfl | (congr 1; done) | (congr 1; omega), ⟨?_, ?_⟩, by first | exact hex.out.alloc _ | exact (hex.out.alloc _).drew⟩
              · rw [kinds_take 7 HT.out, hst.out.1]; simp; omega
              · rw [aggs_take HT.out, ← hst.out.2]; simp [h4]
            case measure => simp [intOf]; omega
          · go_wp2
            go_roundw
            case rel =>
              refine ⟨i + 1, a, by omega, by omega, by first | rfl | (congr 1; done) | (congr 1; omega), by first | rfl | trivial, ⟨?_, ?_⟩, by first | exact hex.out.alloc _ | exact (hex.out.alloc _).drew⟩
              · rw [kinds_take 7 HT.out, hst.out.1]; simp; omega
              · rw [aggs_take HT.out, ← hst.out.2]; simp [h4]
            case measure => simp [intOf]; omega
    · have e : ts.take i = ts := List.take_of_length_le (by have := HN.out; omega)
      have HS := Lib.hid (And.intro hst.out e)
      have HN2 := Lib.hid (show n = ts.length from HN.out)
      by_cases h2 : a < 2
      · by_cases h64 : n ≤ 64
        · have h64' : (n : Int) ≤ 64 := by omega
          go_wp2
          go_ret
          refine RetN.mk hex.out ?_
          obtain ⟨⟨g1, g2⟩, g3⟩ := HS.out
          rw [g3] at g1 g2
          have g4 := HN2.out
          unfold headOk; rw [g1, ← g2, ← g4]; simp [h2, h64]
        · have h64' : ¬ (n : Int) ≤ 64 := by omega
          go_wp2
          go_ret
          refine RetN.mk hex.out ?_
          obtain ⟨⟨g1, g2⟩, g3⟩ := HS.out
          rw [g3] at g1 g2
          have g4 := HN2.out
          unfold headOk; rw [g1, ← g2, ← g4]; simp [h64]
      · go_wp2
        go_ret
        refine RetN.mk hex.out ?_
        obtain ⟨⟨g1, g2⟩, g3⟩ := HS.out
        rw [g3] at g1 g2
        have g4 := HN2.out
        unfold headOk; rw [g1, ← g2, ← g4]; simp [h2]
end Go.Proofs.Ytcphalpcdcddpaa
