/- The walks of the statements' helpers lent, same, kept. -/
import Derived.Test.YtfkhelihepbehaaCmp
namespace Go.Proofs.Ytfkhelihepbehaa
open Go.RowKit
set_option linter.unusedVariables false

theorem elem_str : ElemT Try.prog 22 9 1 16 (.string ⟨#[]⟩) := ⟨by kernel_rfl, by kernel_rfl, rfl, by decide⟩

def mark1 : ByteArray := ⟨#[60, 109, 97, 114, 107]⟩
def mark2 : ByteArray := ⟨#[109, 97, 114, 107, 62]⟩

/-- What 'lent' hands back: a block of its own with the row and two marks. -/
def Lent (w : World) (n : Nat) (ss : List ByteArray) (w' : World) (v : Value) : Prop :=
  ∃ g cap rest, v = .slice (some ⟨g, 0, none⟩) n cap ∧ w.heap.size ≤ g ∧ Blk w' g (strs (ss ++ [mark1, mark2]) ++ rest) 9 ∧ n + 2 + rest.length = cap ∧ cap ≤ maxLen

theorem strs_one (ss : List ByteArray) : ∀ u ∈ strs ss, u.oneCell' = true := by
  intro u hu; obtain ⟨s, _, rfl⟩ := List.mem_map.1 hu; rfl

theorem strs_snoc2 (ss : List ByteArray) (a b : ByteArray) : strs (ss ++ [a, b]) = strs ss ++ [.string a, .string b] := by simp [strs]

set_option maxHeartbeats 400000 in
theorem lent_any (ss : List ByteArray) (a : Option Addr) (c : Nat) (w : World) (ha : CellsAt w a (strs ss)) (hx : ss.length ≤ 8796093021952) :
    Calls Try.prog 7 #[.slice a ss.length c] w (RetN w (Lent w ss.length ss)) := by
  go_enter Try.func7, Try.ntmps7
  have hr0 := Row.empty w 9 1 (New w) (Nat.le_refl _)
  have ha1 := ha.alloc (.cells #[] 9)
  have hk0 := (Kp.refl (F := fun _ => False) w).alloc (.cells #[] 9)
  go_wp2_with (first | (at_builtin; refine Halted.out ?_))
  refine Halted.mk (wp_appN elem_str rfl _ _ rfl hk0 rfl hr0 rfl ha1 (by simp [strs]) (strs_one _) (by omega) (by unfold maxLen; omega) ?_)
  intro v1 w1 hr1 hk1 _ _
  clear hr0 ha1 hk0
  go_wp2_with (first | (at_builtin; refine Halted.out ?_))
  refine Halted.mk (wp_appN elem_str rfl _ _ rfl (hk1.alloc _) rfl (hr1.alloc _) rfl (CellsAt.two _ _ _ _) rfl (by simp [Value.oneCell']) (by omega) (by unfold maxLen; omega) ?_)
  intro v2 w2 hr2 hk2 _ _
  clear hr1 hk1
  obtain ⟨_, ⟨rfl, h⟩ | ⟨g, cap, rest, rfl, hg, hB, hl, hc, hm⟩⟩ := hr2
  · omega
  go_wp2
  go_ret
  refine RetN.mk hk2 ⟨g, cap, rest, rfl, hg, ?_, ?_, hm⟩
  · rw [strs_snoc2]; exact hB
  · simp [strs] at hl; omega

theorem same_yes (ss : List ByteArray) (a b : Option Addr) (c d : Nat) (w : World) (ha : CellsAt w a (strs ss)) (hb : CellsAt w b (strs ss)) (hx : ss.length ≤ maxLen) :
    Calls Try.prog 20 #[.slice a ss.length c, .slice b ss.length d] w (RetD (.bool true) w) := by
  unfold maxLen at hx
  go_enter Try.func20, Try.ntmps20
  go_wp2
  go_loopw [5] (fun i wr => ∃ k n : Nat, k ≤ ss.length ∧ i = .int .i64 k ∧ wr = w.drewN n) (fun i _ => ss.length - (intOf i).toNat)
  case atStart => exact ⟨0, 0, Nat.zero_le _, rfl, rfl⟩
  case round =>
    obtain ⟨k, n, hk, rfl, rfl⟩ := hrel
    by_cases h1 : k < ss.length
    · obtain ⟨b1, o1, rfl, c1⟩ := ha.str h1
      obtain ⟨b2, o2, rfl, c2⟩ := hb.str h1
      go_wp2
      go_quiet (fail)
      go_wp2
      go_roundw
      case rel => exact ⟨k + 1, _, by omega, by go_num, rfl⟩
      case measure => simp [intOf]; omega
    · go_wp2
      go_ret
      refine RetD.mk' rfl ?_
      first | exact ⟨_, rfl⟩ | exact drew_ex2 _ _ _ | exact drew_ex3 _ _ _ | exact ⟨_, by rw [World.drewN_drewN, World.drewN_drewN]⟩

theorem same_len (xs ys : List ByteArray) (a b : Option Addr) (c d : Nat) (w : World) (h : xs.length ≠ ys.length) :
    Calls Try.prog 20 #[.slice a xs.length c, .slice b ys.length d] w (RetD (.bool false) w) := by
  have h' : ((xs.length : Int) != (ys.length : Int)) = true := by rw [bne_iff_ne]; omega
  go_enter Try.func20, Try.ntmps20
  go_wp2
  go_ret
  exact RetD.mk rfl 0

theorem same_no (xs ys : List ByteArray) (a b : Option Addr) (c d : Nat) (w : World) (ha : CellsAt w a (strs xs)) (hb : CellsAt w b (strs ys)) (hx : xs.length ≤ maxLen) (hne : xs ≠ ys) :
    Calls Try.prog 20 #[.slice a xs.length c, .slice b ys.length d] w (RetD (.bool false) w) := by
  by_cases hl : xs.length = ys.length
  rotate_left
  · exact same_len xs ys a b c d w hl
  unfold maxLen at hx
  have h' : ((xs.length : Int) != (ys.length : Int)) = false := by rw [bne_eq_false_iff_eq]; omega
  have HL := Lib.hid hl; clear hl
  have HN := Lib.hid hne; clear hne
  go_enter Try.func20, Try.ntmps20
  go_wp2
  go_loopw [5] (fun i wr => ∃ k n : Nat, k ≤ xs.length ∧ i = .int .i64 k ∧ wr = w.drewN n ∧ xs.take k = ys.take k) (fun i _ => xs.length - (intOf i).toNat)
  case atStart => exact ⟨0, 0, Nat.zero_le _, rfl, rfl, rfl⟩
  case round =>
    obtain ⟨k, n, hk, rfl, rfl, htk⟩ := hrel
    have HT := Lib.hid htk; clear htk
    by_cases h1 : k < xs.length
    · have h2 : k < ys.length := by have := HL.out; omega
      obtain ⟨b1, o1, rfl, c1⟩ := ha.str h1
      obtain ⟨b2, o2, rfl, c2⟩ := hb.str h2
      have htake : xs[k] = ys[k] → xs.take (k+1) = ys.take (k+1) := fun e => by
        rw [List.take_succ_eq_append_getElem h1, List.take_succ_eq_append_getElem h2, HT.out, e]
      have HK := Lib.hid htake; clear htake
      generalize xs[k] = x at *
      generalize ys[k] = y at *
      by_cases e : x = y
      · have e' : (!(x.toList == y.toList)) = false := by rw [e]; simp
        have HE := Lib.hid e; clear e
        go_wp2
        go_quiet (fail)
        go_wp2
        go_roundw
        case rel => exact ⟨k + 1, _, by omega, by go_num, rfl, HK.out HE.out⟩
        case measure => simp [intOf]; omega
      · have e' : (!(x.toList == y.toList)) = true := by
          cases h : (x.toList == y.toList)
          · rfl
          · exact absurd (toList_inj (eq_of_beq h)) e
        clear e
        go_wp2
        go_quiet (fail)
        go_wp2
        go_ret
        refine RetD.mk' rfl ?_
        first | exact ⟨_, rfl⟩ | exact drew_ex2 _ _ _ | exact drew_ex3 _ _ _ | exact ⟨_, by rw [World.drewN_drewN, World.drewN_drewN]⟩
    · exfalso
      have hk' : k = xs.length := by omega
      have h1 := HT.out
      rw [List.take_of_length_le (by omega), List.take_of_length_le (by have := HL.out; omega)] at h1
      exact HN.out h1

theorem same_any (xs ys : List ByteArray) (a b : Option Addr) (c d : Nat) (w : World) (ha : CellsAt w a (strs xs)) (hb : CellsAt w b (strs ys)) (hx : xs.length ≤ maxLen) :
    Calls Try.prog 20 #[.slice a xs.length c, .slice b ys.length d] w (RetD (.bool (decide (xs = ys))) w) := by
  by_cases h : xs = ys
  · subst h
    rw [decide_eq_true rfl]
    exact same_yes xs a b c d w ha hb hx
  · rw [decide_eq_false h]
    exact same_no xs ys a b c d w ha hb hx h

set_option maxHeartbeats 1000000 in
theorem kept_any (ss : List ByteArray) (g cap : Nat) (a : Option Addr) (c : Nat) (rest : List Value) (w : World) (hB : Blk w g (strs (ss ++ [mark1, mark2]) ++ rest) 9) (hcap : ss.length + 2 ≤ cap) (ha : CellsAt w a (strs ss)) (hx : ss.length ≤ 8796093021952)
    (hsz : ∀ s ∈ ss, s.size ≤ 4611686018427387904) :
    Calls Try.prog 10 #[.slice (some ⟨g, 0, none⟩) ss.length cap, .slice a ss.length c] w (RetF (fun k => k = g) w fun _ v => v = .bool true) := by
  have hl : CellsAt w (some ⟨g, 0, none⟩) (strs ss) := by
    rw [strs_snoc2, List.append_assoc] at hB
    exact CellsAt.pre hB
  have hlen : (strs (ss ++ [mark1, mark2]) ++ rest).length = ss.length + 2 + rest.length := by simp [strs]; omega
  have c1 : w.cell? ⟨g, ss.length, none⟩ = some (.string mark1) := by
    rw [hB.cell']; simp [strs]
  have c2 : w.cell? ⟨g, ss.length + 1, none⟩ = some (.string mark2) := by
    rw [hB.cell']; simp [strs]
  have hne : ¬ cap = 0 := by omega
  have m1 : (mark1.toList == [60, 109, 97, 114, 107]) = true := by decide +kernel
  have m2 : (mark2.toList == [109, 97, 114, 107, 62]) = true := by decide +kernel
  go_enter Try.func10, Try.ntmps10
  go_wp2_with fail
  refine (same_yes ss _ _ _ _ _ hl ha (by unfold maxLen; omega)).mono ?_
  rintro e w' ⟨rfl, n, rfl⟩
  go_wp2
  have hBH := Lib.hid hB; clear hB
  have hlenH := Lib.hid hlen; clear hlen
  clear c1 c2 m1 m2 hl ha
  go_loopw [7] (fun i wr => ∃ k : Nat, k ≤ ss.length ∧ i = .int .i64 k ∧ Kp (fun k => k = g) w wr ∧ ∃ cs, Blk wr g cs 9 ∧ cs.length = ss.length + 2 + rest.length ∧ ∀ j, (hj : j < ss.length) → k ≤ j → cs[j]? = some (.string ss[j])) (fun i _ => ss.length - (intOf i).toNat)
  case atStart =>
    refine ⟨0, Nat.zero_le _, rfl, (Kp.refl _).drewN n, _, hBH.out.drewN n, hlenH.out, fun j hj _ => ?_⟩
    simp [strs, hj, List.getElem?_append]
  case round =>
    obtain ⟨k, hk, rfl, hkp, cs, hb, hcs, hcell⟩ := hrel
    have hcsH := Lib.hid hcs; clear hcs
    by_cases h1 : k < ss.length
    · have c3 : wr.cell? ⟨g, k, none⟩ = some (.string ss[k]) := by rw [hb.cell']; exact hcell k h1 (Nat.le_refl _)
      have c4 := hb.free k
      have hs := hsz ss[k] (List.getElem_mem h1)
      have hB2 := fun v => hb.set k v
      have hBH2 := Lib.hid hB2; clear hB2 hb
      have hcellH := Lib.hid hcell; clear hcell
      generalize ss[k] = s at *
      go_wp2
      go_roundw
      case rel =>
        refine ⟨k + 1, by omega, by go_num, hkp.setCell (fun _ => rfl) _, _, hBH2.out _, by simp [hcsH.out], fun j hj hkj => ?_⟩
        rw [List.getElem?_set_ne (by omega)]
        exact hcellH.out j hj (by omega)
      case measure => simp [intOf]; omega
    · go_wp2
      go_ret
      exact RetF.mk hkp rfl

end Go.Proofs.Ytfkhelihepbehaa
