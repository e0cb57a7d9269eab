/- Texts joined for a claim (RefRow3, RefRow4, Bench, Bench2, Bench3, Bench4, BenchSt, BenchGot). -/
import Derived.Test.YtfkhelihepbehaaRo4
import Derived.Deep.RegionLaw
/- sibylref03.Rows: Add, Drop. -/
namespace Go.Proofs.Ytfkhelihepbehaa
open Go.RowKit
set_option linter.unusedVariables false

theorem CellsAt.sub' {w : World} {g off : Nat} {vs : List Value} (h : CellsAt w (some ⟨g, off, none⟩) vs) (k : Nat) : CellsAt w (some ⟨g, off + k, none⟩) (vs.drop k) := by
  intro i u hu
  rw [List.getElem?_drop] at hu
  obtain ⟨b, o, e, hc⟩ := h (k + i) u hu
  cases e
  exact ⟨g, off + k, rfl, by rw [Nat.add_assoc]; exact hc⟩
theorem CellsAt.take' {w : World} {ao : Option Addr} {vs : List Value} (h : CellsAt w ao vs) (k : Nat) : CellsAt w ao (vs.take k) := by
  intro i u hu
  rw [List.getElem?_take] at hu
  split at hu
  · exact h i u hu
  · cases hu
theorem Row.cast' {w : World} {e : TypeId} {k : Nat} {v : Value} {n n' : Nat} {xs xs' : List Value} {M : Nat → Prop} (h : Row w e k v n xs M) (hn : n = n') (hx : xs = xs') : Row w e k v n' xs' M := by subst hn hx; exact h
theorem rowVs_take (ps : List RowP) (k : Nat) : (rowVs ps).take k = rowVs (ps.take k) := by simp [rowVs]
theorem rowVs_drop (ps : List RowP) (k : Nat) : (rowVs ps).drop k = rowVs (ps.drop k) := by simp [rowVs]

section
variable {S S' : Nat → Prop} {w w0 w' : World} {c n : Nat} {LL : List (List ByteArray)} {v : Value}
theorem RefRows.store {lv0 : Value} (hex : Ext w0 w) (hc : c < w0.heap.size) (hnS : ¬ S c) (hS : ∀ k, S k → k < w0.heap.size) (hB : Blk w c [.int .i64 n, lv0] 70) {ps : List RowP} (hr : Row w 22 1 v ps.length (rowVs ps) (New w0))
    (hall : ∀ p ∈ ps, ReadsAs w p.1 p.2 ∧ p.2.length ≤ 8796093021952 ∧ ∀ a, p.1.1 = some a → S a.block ∨ (w0.heap.size ≤ a.block ∧ a.block < w.heap.size)) (hl : ps.length ≤ 1048576 * 1048576) :
    RefRows (fun k => S k ∨ (w0.heap.size ≤ k ∧ k < w.heap.size)) (w.setCell ⟨c, 1, none⟩ v) c n (ps.map Prod.snd) := by
  have hk : Kp (fun k => k = c) w (w.setCell ⟨c, 1, none⟩ v) := Kp.setCell (F := fun k => k = c) (Kp.refl w) (fun _ => rfl) v
  have hz := hex.size
  have hlt := hr.lt
  have hb := hr.block
  have hform : ∃ ao cap, v = .slice ao ps.length cap ∧ CellsAt w ao (rowVs ps) ∧ (ps.length ≤ cap ∧ cap ≤ maxLen ∧ (ao = none ∧ cap = 0 ∨ ∃ g, ao = some ⟨g, 0, none⟩)) := by
    obtain ⟨ao, cap, e, h1, h2⟩ := hr.shape
    refine ⟨ao, cap, e, h1, h2, ?_⟩
    subst e
    obtain ⟨_, ⟨e, h3⟩ | ⟨g, cap', rest, e, _, _, _, h4, h5⟩⟩ := hr
    · simp only [Value.slice.injEq] at e
      obtain ⟨rfl, _, rfl⟩ := e
      exact ⟨by decide, .inl ⟨rfl, rfl⟩⟩
    · simp only [Value.slice.injEq] at e
      obtain ⟨rfl, _, rfl⟩ := e
      exact ⟨h5, .inr ⟨_, rfl⟩⟩
  obtain ⟨ao, cap, rfl, hcs, hf⟩ := hform
  have hin : RowsIn (fun k => S k ∨ (w0.heap.size ≤ k ∧ k < w.heap.size)) w ao (ps.map Prod.snd) :=
    ⟨ps, rfl, hcs, fun a e => by subst e; exact .inr ⟨hb _ rfl, hlt _ rfl⟩, hall⟩
  have hcn : ¬ (S c ∨ (w0.heap.size ≤ c ∧ c < w.heap.size)) := fun h => by
    rcases h with h | h
    · exact hnS h
    · omega
  refine ⟨ao, cap, by simpa using hB.set 1 (.slice ao ps.length cap), hin.kp hk (fun k e h => by subst e; exact hcn h), by simpa using hf, hcn, fun k h => ?_, by simpa using hl⟩
  have := hk.size
  rcases h with h | h
  · have := hS k h; omega
  · omega

/-- What Add leaves. -/
def RefAdded (S : Nat → Prop) (w : World) (c n : Nat) (LL : List (List ByteArray)) (ss : List ByteArray) (w' : World) (v : Value) : Prop :=
  v = .tuple #[.bool (rowsAddR n LL ss).1, .int .i64 ((rowsAddR n LL ss).2 : Nat)] ∧ ∃ S', Grows w S S' ∧ RefRows S' w' c n (rowsAddL n LL ss)
theorem RefAdded.same {ss : List ByteArray} (h : RefRows S w c n LL) (hk : Ext w w') (hv : v = .tuple #[.bool (rowsAddR n LL ss).1, .int .i64 ((rowsAddR n LL ss).2 : Nat)]) (h0 : rowsAddL n LL ss = LL) : RefAdded S w c n LL ss w' v :=
  ⟨hv, S, Grows.refl _ _, by rw [h0]; exact h.ext hk⟩
theorem refAdd_nil (v : Value) (w : World) : Calls Try.prog 62 #[.pointer none, v] w (Ret (.tuple #[.bool false, .int .i64 1]) w) := by
  go_enter Try.func62, Try.ntmps62
  go_wp2
  go_ret2
  exact Ret.mk rfl
set_option maxRecDepth 100000 in
set_option maxHeartbeats 2000000 in
theorem refAdd_any (h : RefRows S w c n LL) (hst : Strict cmpRow LL) {xo : Option Addr} {m xc : Nat} {ss : List ByteArray} (hm : m = ss.length) (hx : CellsAt w xo (strs ss)) (hss : ss.length ≤ 8796093021952) (hl1 : LL.length + 1 ≤ 1048576 * 1048576) :
    Calls Try.prog 62 #[.pointer (some ⟨c, 0, none⟩), .slice xo m xc] w (RetF (fun k => k = c) w (RefAdded S w c n LL ss)) := by
  have HH := Lib.hid h
  obtain ⟨ao, cap, B0, R0, ⟨f1, f2, f3⟩, hnS, hSw, _⟩ := h
  have c1 : w.cell? ⟨c, 0, none⟩ = some (.int .i64 n) := by rw [B0.cell']; rfl
  have HT := Lib.hid (refTexts_any ss xo m xc w hm hx (by omega))
  have HF := Lib.hid (refRowFind_any HH.out hst (xc := xc) hm hx hss)
  have HX := Lib.hid (And.intro hx (And.intro hst (And.intro hnS hSw)))
  have HB := Lib.hid (And.intro B0 R0)
  have F3 := Lib.hid f3
  clear hst hx hnS hSw B0 R0 f3
  by_cases h1 : m = n
  · have q1 : ((m : Int) != (n : Int)) = false := by simp [h1]
    have H1 := Lib.hid h1; clear h1
    have hn : ss.length = n := by rw [← hm, H1.out]
    have HN := Lib.hid hn
    have HM := Lib.hid hm
    cases ht : textsC ss with
    | false =>
      have e0 : rowsAddR n LL ss = (false, 31) := by unfold rowsAddR; rw [if_neg (by simp [hn]), if_pos ht]
      rw [ht] at HT; clear ht hn hm f1 f2 hss hl1
      go_enter Try.func62, Try.ntmps62
      go_wp2_with fail
      refine HT.out.mono ?_
      rintro e w1 ⟨rfl, rfl⟩
      go_wp2
      go_ret2
      exact RetF.mk (Kp.refl _) (RefAdded.same HH.out (Kp.refl _) (by rw [e0]; rfl) (by unfold rowsAddL; rw [e0]; rfl))
    | true =>
      rw [ht] at HT
      cases hin : isIn cmpRow LL ss with
      | true =>
        have e0 : rowsAddR n LL ss = (false, 0) := by unfold rowsAddR; rw [if_neg (by simp [hn]), if_neg (by simp [ht]), if_neg (by simp [hin]), hin]; rfl
        have e1 : rowsAddL n LL ss = LL := by unfold rowsAddL addS; rw [e0, if_pos rfl, if_pos hin]
        have ef : findR LL ss = (below cmpRow LL ss : Nat) := by unfold findR; rw [if_pos hin]
        rw [ef] at HF
        generalize below cmpRow LL ss = bl at HF
        have E := Lib.hid (And.intro e0 e1); clear e0 e1 ef hin ht hn hm f1 f2 hss hl1
        have t1 : decide ((bl : Int) ≥ 0) = true := by simp
        go_enter Try.func62, Try.ntmps62
        go_wp2_with fail
        refine HT.out.mono ?_
        rintro e w1 ⟨rfl, rfl⟩
        go_wp2_with fail
        refine HF.out.mono ?_
        rintro e w1 ⟨v, rfl, hk, rfl⟩
        have HK := Lib.hid hk; clear hk
        go_wp2
        go_ret2
        exact RetF.mk (Ext.kp HK.out) (RefAdded.same HH.out HK.out (by rw [E.out.1]; rfl) E.out.2)
      | false =>
        have ef : findR LL ss = -1 := by unfold findR; rw [if_neg (by simp [hin])]
        rw [ef] at HF
        by_cases h65 : 65536 ≤ LL.length
        · have e0 : rowsAddR n LL ss = (false, 4) := by unfold rowsAddR; rw [if_neg (by simp [hn]), if_neg (by simp [ht]), if_pos ⟨h65, hin⟩]
          have E := Lib.hid e0; clear e0 ef hin ht hn hm hss hl1
          have c2 : w.cell? ⟨c, 1, none⟩ = some (.slice ao LL.length cap) := by rw [HB.out.1.cell']; rfl
          have t1 : decide ((LL.length : Int) ≥ 65536) = true := by simp; omega
          have t2 : decide ((65536 : Int) ≤ (LL.length : Int)) = true := by simp; omega
          go_enter Try.func62, Try.ntmps62
          go_wp2_with fail
          refine HT.out.mono ?_
          rintro e w1 ⟨rfl, rfl⟩
          go_wp2_with fail
          refine HF.out.mono ?_
          rintro e w1 ⟨v, rfl, hk, rfl⟩
          have d2 := hk.cell c2 id
          have HK := Lib.hid hk; clear hk
          go_wp2
          go_ret2
          exact RetF.mk (Ext.kp HK.out) (RefAdded.same HH.out HK.out (by rw [E.out]; rfl) (by unfold rowsAddL; rw [E.out]; rfl))
        · have e0 : rowsAddR n LL ss = (true, 0) := by unfold rowsAddR; rw [if_neg (by simp [hn]), if_neg (by simp [ht]), if_neg (by simp [h65]), hin]; rfl
          have e1 : rowsAddL n LL ss = LL.take (below cmpRow LL ss) ++ ss :: LL.drop (below cmpRow LL ss) := by unfold rowsAddL addS; rw [e0, if_pos rfl, if_neg (by simp [hin])]
          have E := Lib.hid (And.intro e0 e1); clear e0 e1 ef hin ht
          have hle := below_le (c := cmpRow) LL ss
          have HW := Lib.hid (fun W (hW : Ext w W) => refRowBelow_any (HH.out.ext hW) (xc := xc) hm (HX.out.1.ext hW) hss)
          generalize below cmpRow LL ss = b at *
          have HCP := Lib.hid (fun W (hW : Ext w W) => copied_any ss xo m xc W hm (HX.out.1.ext hW) hss)
          obtain ⟨N, en⟩ : ∃ n, n = LL.length := ⟨_, rfl⟩
          have c2 : w.cell? ⟨c, 1, none⟩ = some (.slice ao N cap) := by rw [en, HB.out.1.cell']; rfl
          rw [← en] at hle h65 hl1 f1
          have EN := Lib.hid (And.intro en hm); clear en
          have t1 : decide ((N : Int) ≥ 65536) = false := by simp; omega
          have t2 : decide ((65536 : Int) ≤ (N : Int)) = false := by simp; omega
          unfold maxLen at f2
          have hcw := HH.out.lt
          have hmm : m ≤ 8796093021952 := by omega
          clear hm hn
          go_enter Try.func62, Try.ntmps62
          go_wp2_with fail
          refine HT.out.mono ?_
          rintro e w1 ⟨rfl, rfl⟩
          go_wp2_with fail
          refine HF.out.mono ?_
          rintro e w1 ⟨v, rfl, hk1, rfl⟩
          have d2 := hk1.cell c2 id
          go_wp2_with fail
          refine (HW.out _ hk1).mono ?_
          rintro e w2 ⟨v, rfl, hk2, rfl⟩
          have hx2 := hk1.trans hk2
          have d3 := hx2.cell c2 id
          clear d2 t1 t2
          obtain ⟨ps, hE, hcs, _, hall⟩ := HB.out.2
          have hpn : ps.length = N := by rw [EN.out.1, hE]; simp
          have PS := Lib.hid (And.intro hE (And.intro hcs (And.intro hall hpn)))
          clear hE hcs hall hpn
          rcases F3.out with ⟨rfl, rfl⟩ | ⟨g, rfl⟩
          · have hN0 : N = 0 := by omega
            have hb0 : b = 0 := by omega
            subst hN0 hb0
            clear f1 f2 hle
            go_wp2_with (first | (at_builtin; refine Halted.out ?_))
            refine Halted.mk (wp_appN elemRow rfl _ _ rfl hx2 rfl (Row.nil w2 22 1 (New w)) rfl (news := (rowVs ps).take 0) (by simp; exact CellsAt.nil _ _) (by simp) (by simp) (by decide) (by decide) ?_)
            intro v1 w3 hr1 hk3 _ _
            have HR1 := Lib.hid hr1; clear hr1
            go_wp2_with fail
            refine (HCP.out _ hk3).mono ?_
            rintro e w3c ⟨vc, rfl, hkc, hrc⟩
            obtain ⟨ao1, cap1, ev, _, _⟩ := hrc.shape
            subst ev
            have HRC := Lib.hid (And.intro hkc hrc)
            have hk3c := hk3.trans hkc
            clear hkc hrc
            go_wp2_with (first | (at_builtin; refine Halted.out ?_))
            refine Halted.mk (wp_appN elemRow rfl _ _ rfl (hk3c.alloc (.cells #[.slice ao1 ss.length cap1] 22)) rfl ((HR1.out.ext HRC.out.1).alloc _) rfl (CellsAt.one w3c (.slice ao1 ss.length cap1) 22) rfl (by simp; rfl) (by omega) (by unfold maxLen; omega) ?_)
            intro v2 w4 hr2 hk4 hk4' _
            have HR2 := Lib.hid (And.intro hr2 (And.intro hk4 hk4')); clear hr2 hk4'
            have e1 := hk4.cell c2 id
            go_wp2_with (first | (at_builtin; refine Halted.out ?_))
            refine Halted.mk (wp_appN elemRow rfl _ _ rfl hk4 rfl HR2.out.1 rfl (news := (rowVs ps).drop 0) (by rw [List.drop_of_length_le (by rw [rowVs_len, PS.out.2.2.2]; exact Nat.le_refl _)]; exact CellsAt.nil _ _) (by rw [List.length_drop, rowVs_len]; have := PS.out.2.2.2; omega) (fun u hu => rowVs_one ps u (List.mem_of_mem_drop hu)) (by omega) (by unfold maxLen; omega) ?_)
            intro v3 w5 hr3 hk5 hk5' _
            obtain ⟨ao3, n3, cap3, e3, _⟩ : ∃ ao n cap, v3 = .slice ao n cap ∧ True := by obtain ⟨ao, cap, e, _⟩ := hr3.shape; exact ⟨_, _, _, e, trivial⟩
            subst e3
            have g1 := hk5.cell c2 id
            have g2 := (HB.out.1.ext hk5).free 1
            have HR3 := Lib.hid (And.intro hr3 (And.intro hk5 hk5')); clear hr3 hk5'
            go_wp2
            go_ret2
            obtain ⟨hr3, hk5, hk5'⟩ := HR3.out
            obtain ⟨hr2, hk4, hk4'⟩ := HR2.out
            obtain ⟨hkc, hrc⟩ := HRC.out
            obtain ⟨hE, hcs, hall, hpn⟩ := PS.out
            obtain ⟨hx0, hst0, hnS0, hSw0⟩ := HX.out
            have hne : 9 ≠ 22 := by decide
            have q1 := (show Row w3c 9 1 (.slice ao1 ss.length cap1) ss.length (strs ss) (New w3) from hrc).alloc (.cells #[.slice ao1 ss.length cap1] 22)
            have q2 := q1.kp' hk4' fun g hg _ hf => q1.sort_ne ((HR1.out.ext hkc).alloc (.cells #[.slice ao1 ss.length cap1] 22)) hne hg hf
            have q3 := q2.kp' hk5' fun g hg _ hf => q2.sort_ne hr2 hne hg hf
            have q4 := Row.readsAs (x := (ao1, ss.length, cap1)) q3
            have eL : (ps.take 0 ++ ((ao1, ss.length, cap1), ss) :: ps.drop 0).map Prod.snd = rowsAddL n LL ss := by rw [E.out.2, hE]; simp
            have hlen : (ps.take 0 ++ (((ao1, ss.length, cap1), ss) : RowP) :: ps.drop 0).length = 0 + 1 := by rw [List.length_append, List.length_cons, List.length_take, List.length_drop]; omega
            have hfin := RefRows.store (S := S) (n := n) hk5 hcw hnS0 hSw0 (HB.out.1.ext hk5) (ps := ps.take 0 ++ ((ao1, ss.length, cap1), ss) :: ps.drop 0) (v := .slice ao3 n3 cap3)
              (hr3.cast' (by first | (rw [hlen]; omega) | rw [hlen]) (by rw [rowVs_append, rowVs_take, rowVs_drop]; simp [rowVs])) (fun p hp => by
                have hp' : p ∈ ps ∨ p = ((ao1, ss.length, cap1), ss) := by
                  rcases List.mem_append.1 hp with h | h
                  · exact .inl (List.mem_of_mem_take h)
                  · rcases List.mem_cons.1 h with h | h
                    · exact .inr h
                    · exact .inl (List.mem_of_mem_drop h)
                rcases hp' with hp' | rfl
                · obtain ⟨h1, h2, h3⟩ := hall p hp'
                  exact ⟨⟨h1.1, h1.2.ext hk5⟩, h2, fun a e => .inl (h3 a e)⟩
                · refine ⟨q4.1, hss, fun a e => .inr ?_⟩
                  have := q4.2 a e
                  have hz3 := hk3.size
                  exact ⟨Nat.le_trans hz3 this.1, this.2⟩) (by rw [hlen]; omega)
            rw [eL] at hfin
            refine RetF.mk (Kp.setCell (F := fun k => k = c) (Ext.kp hk5) (fun _ => rfl) _) ⟨by rw [E.out.1]; rfl, _, ⟨fun k h => .inl h, fun k h => h.imp id fun h => h.1⟩, hfin⟩
          · have hp1 : (b : Int) ≤ (cap : Int) := by omega
            have hp2 : (b : Int) ≤ (N : Int) := by omega
            by_cases hcm : cap = b
            all_goals
                go_wp2_with (first | (at_builtin; refine Halted.out ?_))
                refine Halted.mk (wp_appN elemRow rfl _ _ rfl hx2 rfl (Row.nil w2 22 1 (New w)) rfl ((PS.out.2.1.ext hx2).take' b) (by rw [List.length_take, rowVs_len, PS.out.2.2.2]; omega) (fun u hu => rowVs_one ps u (List.mem_of_mem_take hu)) (by omega) (by unfold maxLen; omega) ?_)
                intro v1 w3 hr1 hk3 _ _
                have HR1 := Lib.hid hr1; clear hr1
                go_wp2_with fail
                refine (HCP.out _ hk3).mono ?_
                rintro e w3c ⟨vc, rfl, hkc, hrc⟩
                obtain ⟨ao1, cap1, ev, _, _⟩ := hrc.shape
                subst ev
                have HRC := Lib.hid (And.intro hkc hrc)
                have hk3c := hk3.trans hkc
                clear hkc hrc
                go_wp2_with (first | (at_builtin; refine Halted.out ?_))
                refine Halted.mk (wp_appN elemRow rfl _ _ rfl (hk3c.alloc (.cells #[.slice ao1 ss.length cap1] 22)) rfl ((HR1.out.ext HRC.out.1).alloc _) rfl (CellsAt.one w3c (.slice ao1 ss.length cap1) 22) rfl (by simp; rfl) (by omega) (by unfold maxLen; omega) ?_)
                intro v2 w4 hr2 hk4 hk4' _
                have HR2 := Lib.hid (And.intro hr2 (And.intro hk4 hk4')); clear hr2 hk4'
                have e1 := hk4.cell c2 id
                go_wp2_with (first | (at_builtin; refine Halted.out ?_))
                refine Halted.mk (wp_appN elemRow rfl _ _ rfl hk4 rfl HR2.out.1 rfl (news := (rowVs ps).drop b) (by
                  first
                    | (have := (PS.out.2.1.ext hk4).sub' b; rwa [Nat.zero_add] at this)
                    | (rw [List.drop_of_length_le (by rw [rowVs_len, PS.out.2.2.2]; omega)]; exact CellsAt.nil _ _)) (by rw [List.length_drop, rowVs_len]; have := PS.out.2.2.2; omega) (fun u hu => rowVs_one ps u (List.mem_of_mem_drop hu)) (by omega) (by unfold maxLen; omega) ?_)
                intro v3 w5 hr3 hk5 hk5' _
                obtain ⟨ao3, n3, cap3, e3, _⟩ : ∃ ao n cap, v3 = .slice ao n cap ∧ True := by obtain ⟨ao, cap, e, _⟩ := hr3.shape; exact ⟨_, _, _, e, trivial⟩
                subst e3
                have g1 := hk5.cell c2 id
                have g2 := (HB.out.1.ext hk5).free 1
                have HR3 := Lib.hid (And.intro hr3 (And.intro hk5 hk5')); clear hr3 hk5'
                go_wp2
                go_ret2
                obtain ⟨hr3, hk5, hk5'⟩ := HR3.out
                obtain ⟨hr2, hk4, hk4'⟩ := HR2.out
                obtain ⟨hkc, hrc⟩ := HRC.out
                obtain ⟨hE, hcs, hall, hpn⟩ := PS.out
                obtain ⟨hx0, hst0, hnS0, hSw0⟩ := HX.out
                have hne : 9 ≠ 22 := by decide
                have q1 := (show Row w3c 9 1 (.slice ao1 ss.length cap1) ss.length (strs ss) (New w3) from hrc).alloc (.cells #[.slice ao1 ss.length cap1] 22)
                have q2 := q1.kp' hk4' fun g hg _ hf => q1.sort_ne ((HR1.out.ext hkc).alloc (.cells #[.slice ao1 ss.length cap1] 22)) hne hg hf
                have q3 := q2.kp' hk5' fun g hg _ hf => q2.sort_ne hr2 hne hg hf
                have q4 := Row.readsAs (x := (ao1, ss.length, cap1)) q3
                have eL : (ps.take b ++ ((ao1, ss.length, cap1), ss) :: ps.drop b).map Prod.snd = rowsAddL n LL ss := by rw [E.out.2, hE]; simp
                have hlen : (ps.take b ++ (((ao1, ss.length, cap1), ss) : RowP) :: ps.drop b).length = N + 1 := by rw [List.length_append, List.length_cons, List.length_take, List.length_drop]; omega
                have hfin := RefRows.store (S := S) (n := n) hk5 hcw hnS0 hSw0 (HB.out.1.ext hk5) (ps := ps.take b ++ ((ao1, ss.length, cap1), ss) :: ps.drop b) (v := .slice ao3 n3 cap3)
                  (hr3.cast' (by first | (rw [hlen]; omega) | rw [hlen]) (by rw [rowVs_append, rowVs_take, rowVs_drop]; simp [rowVs])) (fun p hp => by
                    have hp' : p ∈ ps ∨ p = ((ao1, ss.length, cap1), ss) := by
                      rcases List.mem_append.1 hp with h | h
                      · exact .inl (List.mem_of_mem_take h)
                      · rcases List.mem_cons.1 h with h | h
                        · exact .inr h
                        · exact .inl (List.mem_of_mem_drop h)
                    rcases hp' with hp' | rfl
                    · obtain ⟨h1, h2, h3⟩ := hall p hp'
                      exact ⟨⟨h1.1, h1.2.ext hk5⟩, h2, fun a e => .inl (h3 a e)⟩
                    · refine ⟨q4.1, hss, fun a e => .inr ?_⟩
                      have := q4.2 a e
                      have hz3 := hk3.size
                      exact ⟨Nat.le_trans hz3 this.1, this.2⟩) (by rw [hlen]; omega)
                rw [eL] at hfin
                refine RetF.mk (Kp.setCell (F := fun k => k = c) (Ext.kp hk5) (fun _ => rfl) _) ⟨by rw [E.out.1]; rfl, _, ⟨fun k h => .inl h, fun k h => h.imp id fun h => h.1⟩, hfin⟩
  · have q1 : ((m : Int) != (n : Int)) = true := by simp; omega
    have e0 : rowsAddR n LL ss = (false, 30) := by unfold rowsAddR; rw [if_pos (by omega)]
    have E := Lib.hid e0; clear e0 hm hss hl1 f1 f2
    go_enter Try.func62, Try.ntmps62
    go_wp2
    go_ret2
    exact RetF.mk (Kp.refl _) (RefAdded.same HH.out (Kp.refl _) (by rw [E.out]; rfl) (by unfold rowsAddL; rw [E.out]; rfl))

/-- What Drop leaves. -/
def RefDropped (S : Nat → Prop) (w : World) (c n : Nat) (LL : List (List ByteArray)) (ss : List ByteArray) (w' : World) (v : Value) : Prop :=
  v = .tuple #[.bool (rowsDropR n LL ss).1, .int .i64 ((rowsDropR n LL ss).2 : Nat)] ∧ ∃ S', Grows w S S' ∧ RefRows S' w' c n (rowsDropL n LL ss)
theorem RefDropped.same {ss : List ByteArray} (h : RefRows S w c n LL) (hk : Ext w w') (hv : v = .tuple #[.bool (rowsDropR n LL ss).1, .int .i64 ((rowsDropR n LL ss).2 : Nat)]) (h0 : rowsDropL n LL ss = LL) : RefDropped S w c n LL ss w' v :=
  ⟨hv, S, Grows.refl _ _, by rw [h0]; exact h.ext hk⟩
theorem refDrop_nil (v : Value) (w : World) : Calls Try.prog 64 #[.pointer none, v] w (Ret (.tuple #[.bool false, .int .i64 1]) w) := by
  go_enter Try.func64, Try.ntmps64
  go_wp2
  go_ret2
  exact Ret.mk rfl
set_option maxRecDepth 100000 in
set_option maxHeartbeats 2000000 in
theorem refDrop_any (h : RefRows S w c n LL) (hst : Strict cmpRow LL) {xo : Option Addr} {m xc : Nat} {ss : List ByteArray} (hm : m = ss.length) (hx : CellsAt w xo (strs ss)) (hss : ss.length ≤ 8796093021952) :
    Calls Try.prog 64 #[.pointer (some ⟨c, 0, none⟩), .slice xo m xc] w (RetF (fun k => k = c) w (RefDropped S w c n LL ss)) := by
  have HH := Lib.hid h
  obtain ⟨ao, cap, B0, R0, ⟨f1, f2, f3⟩, hnS, hSw, hl1⟩ := h
  have c1 : w.cell? ⟨c, 0, none⟩ = some (.int .i64 n) := by rw [B0.cell']; rfl
  have HF := Lib.hid (refRowFind_any HH.out hst (xc := xc) hm hx hss)
  have HX := Lib.hid (And.intro hx (And.intro hst (And.intro hnS hSw)))
  have HB := Lib.hid (And.intro B0 R0)
  have F3 := Lib.hid f3
  clear hst hx hnS hSw B0 R0 f3
  by_cases h1 : m = n
  · have q1 : ((m : Int) != (n : Int)) = false := by simp [h1]
    have H1 := Lib.hid h1; clear h1
    have hn : ss.length = n := by rw [← hm, H1.out]
    cases hin : isIn cmpRow LL ss with
    | false =>
      have e0 : rowsDropR n LL ss = (false, 0) := by unfold rowsDropR; rw [if_neg (by simp [hn]), hin]
      have e1 : rowsDropL n LL ss = LL := by unfold rowsDropL dropS; rw [if_neg (by simp [hn]), if_neg (by simp [hin])]
      have ef : findR LL ss = -1 := by unfold findR; rw [if_neg (by simp [hin])]
      rw [ef] at HF
      have E := Lib.hid (And.intro e0 e1); clear e0 e1 ef hin hn hm f1 f2 hss hl1
      go_enter Try.func64, Try.ntmps64
      go_wp2_with fail
      refine HF.out.mono ?_
      rintro e w1 ⟨v, rfl, hk, rfl⟩
      have HK := Lib.hid hk; clear hk
      go_wp2
      go_ret2
      exact RetF.mk (Ext.kp HK.out) (RefDropped.same HH.out HK.out (by rw [E.out.1]; rfl) E.out.2)
    | true =>
      have e0 : rowsDropR n LL ss = (true, 0) := by unfold rowsDropR; rw [if_neg (by simp [hn]), hin]
      have e1 : rowsDropL n LL ss = LL.take (below cmpRow LL ss) ++ LL.drop (below cmpRow LL ss + 1) := by unfold rowsDropL dropS; rw [if_neg (by simp [hn]), if_pos hin]
      have ef : findR LL ss = (below cmpRow LL ss : Nat) := by unfold findR; rw [if_pos hin]
      have hlt : below cmpRow LL ss < LL.length := by
        obtain ⟨y, hy, _⟩ := (Strict.there (c := cmpRow) (cmpRow_law id) HX.out.2.1 ss).1 hin
        exact (List.getElem?_eq_some_iff.1 hy).1
      rw [ef] at HF
      generalize below cmpRow LL ss = i at *
      have E := Lib.hid (And.intro e0 e1); clear e0 e1 ef hin
      obtain ⟨N, en⟩ : ∃ n, n = LL.length := ⟨_, rfl⟩
      have c2 : w.cell? ⟨c, 1, none⟩ = some (.slice ao N cap) := by rw [en, HB.out.1.cell']; rfl
      rw [← en] at hlt hl1 f1
      have EN := Lib.hid (And.intro en hm); clear en
      unfold maxLen at f2
      have hcw := HH.out.lt
      have hmm : m ≤ 8796093021952 := by omega
      clear hm hn hss
      obtain ⟨ps, hE, hcs, _, hall⟩ := HB.out.2
      have hpn : ps.length = N := by rw [EN.out.1, hE]; simp
      have PS := Lib.hid (And.intro hE (And.intro hcs (And.intro hall hpn)))
      clear hE hcs hall hpn
      have t1 : decide ((i : Int) < 0) = false := by simp
      rcases F3.out with ⟨_, h0⟩ | ⟨g, rfl⟩
      · omega
      · have hp1 : (i : Int) ≤ (cap : Int) := by omega
        have hp2 : (i : Int) ≤ (N : Int) := by omega
        have hp3 : (i : Int) + 1 ≤ (N : Int) := by omega
        have hp4 : (i : Int) + 1 ≤ (cap : Int) := by omega
        have hp5 : (0 : Int) ≤ (i : Int) + 1 := by omega
        have hi1 : ((i : Int) + 1).toNat = i + 1 := by omega
        have hw1 : IntKind.i64.wrap ((i : Int) + 1) = (i : Int) + 1 := IntWalk.i64_in _ (by omega)
        have hci : ¬ cap = i := by omega
        by_cases hcm : cap = i + 1
        all_goals
          go_enter Try.func64, Try.ntmps64
          go_wp2_with fail
          refine HF.out.mono ?_
          rintro e w1 ⟨v, rfl, hk, rfl⟩
          have d2 := hk.cell c2 id
          go_wp2_with (first | (at_builtin; refine Halted.out ?_))
          refine Halted.mk (wp_appN elemRow rfl _ _ rfl hk rfl (Row.nil w1 22 1 (New w)) rfl ((PS.out.2.1.ext hk).take' i) (by rw [List.length_take, rowVs_len, PS.out.2.2.2]; omega) (fun u hu => rowVs_one ps u (List.mem_of_mem_take hu)) (by omega) (by unfold maxLen; omega) ?_)
          intro v2 w3 hr2 hk3 _ _
          have HR2 := Lib.hid hr2; clear hr2
          have e1 := hk3.cell c2 id
          go_wp2_with (first | (at_builtin; refine Halted.out ?_))
          refine Halted.mk (wp_appN elemRow rfl _ _ rfl hk3 rfl HR2.out rfl (news := (rowVs ps).drop (i + 1)) (by
              first
                | (have := (PS.out.2.1.ext hk3).sub' (i + 1); rwa [Nat.zero_add] at this)
                | (rw [List.drop_of_length_le (by rw [rowVs_len, PS.out.2.2.2]; omega)]; exact CellsAt.nil _ _)) (by rw [List.length_drop, rowVs_len, PS.out.2.2.2]; omega) (fun u hu => rowVs_one ps u (List.mem_of_mem_drop hu)) (by omega) (by unfold maxLen; omega) ?_)
          intro v3 w5 hr3 hk5 _ _
          obtain ⟨ao3, n3, cap3, e3, _⟩ : ∃ ao n cap, v3 = .slice ao n cap ∧ True := by obtain ⟨ao, cap, e, _⟩ := hr3.shape; exact ⟨_, _, _, e, trivial⟩
          subst e3
          have g1 := hk5.cell c2 id
          have g2 := (HB.out.1.ext hk5).free 1
          have HR3 := Lib.hid (And.intro hr3 hk5); clear hr3 HR2
          go_wp2
          go_ret2
          obtain ⟨hr3, hk5⟩ := HR3.out
          obtain ⟨hE, hcs, hall, hpn⟩ := PS.out
          obtain ⟨hx0, hst0, hnS0, hSw0⟩ := HX.out
          have eL : (ps.take i ++ ps.drop (i + 1)).map Prod.snd = rowsDropL n LL ss := by rw [E.out.2, hE]; simp
          have hlen : (ps.take i ++ ps.drop (i + 1)).length = N - 1 := by rw [List.length_append, List.length_take, List.length_drop]; omega
          have hfin := RefRows.store (S := S) (n := n) hk5 hcw hnS0 hSw0 (HB.out.1.ext hk5) (ps := ps.take i ++ ps.drop (i + 1)) (v := .slice ao3 n3 cap3)
            (hr3.cast' (by rw [hlen]; omega) (by rw [rowVs_append, rowVs_take, rowVs_drop]; simp)) (fun p hp => by
              have hp' : p ∈ ps := by
                rcases List.mem_append.1 hp with h | h
                · exact List.mem_of_mem_take h
                · exact List.mem_of_mem_drop h
              obtain ⟨h1, h2, h3⟩ := hall p hp'
              exact ⟨⟨h1.1, h1.2.ext hk5⟩, h2, fun a e => .inl (h3 a e)⟩) (by rw [hlen]; omega)
          rw [eL] at hfin
          refine RetF.mk (Kp.setCell (F := fun k => k = c) (Ext.kp hk5) (fun _ => rfl) _) ⟨by rw [E.out.1]; rfl, _, ⟨fun k h => .inl h, fun k h => h.imp id fun h => h.1⟩, hfin⟩
  · have q1 : ((m : Int) != (n : Int)) = true := by simp; omega
    have e0 : rowsDropR n LL ss = (false, 30) := by unfold rowsDropR; rw [if_pos (by omega)]
    have e1 : rowsDropL n LL ss = LL := by unfold rowsDropL; rw [if_pos (by omega)]
    have E := Lib.hid (And.intro e0 e1); clear e0 e1 hm hss hl1 f1 f2
    go_enter Try.func64, Try.ntmps64
    go_wp2
    go_ret2
    exact RetF.mk (Kp.refl _) (RefDropped.same HH.out (Kp.refl _) (by rw [E.out.1]; rfl) E.out.2)
end
end Go.Proofs.Ytfkhelihepbehaa

/- sibylref03.Rows: With. -/
namespace Go.Proofs.Ytfkhelihepbehaa
open Go.RowKit
set_option linter.unusedVariables false

theorem step_run {P : Program} {ops : Array Oper} {o : Oper} {a : Act} {w : World} {K : Act → World → Prop} {Q : Exit → Act → World → Prop} {E : Prop} (hgd : o.guard = none) (s x : Operand) {t1 t2 : TypeId}
    (ho : o.op = .call { callee := .builtin .append, args := #[s, x], argTypes := #[t1, t2] }) {v u v' : Value} {w' : World} (hs : a.eval s = v) (hx : a.eval x = u)
    (hr : (Builtin.append_ #[t1, t2] o.type #[v, u]).run P w = .ok v' w') (h : K (a.put o.dst v') w') :
    if Region.wanted o (yielded ops a.tmps) = true then Oper.wp P o a w K Q else E := by
  have hw : Region.wanted o (yielded ops a.tmps) = true := by simp [Region.wanted, hgd]
  rw [if_pos hw]
  unfold Oper.wp execOp
  simp only [ho, resolve, invoke, builtin, Sem.run_bind, Sem.run_pure, Result.andThen_ok, List.map_toArray, List.map_cons, List.map_nil, hs, hx, hr]
  exact h

section
variable {S S1 S2 S' : Nat → Prop} {w w' : World} {c c1 c2 n n1 n2 : Nat} {LL L1 L2 : List (List ByteArray)} {v : Value} {lo : Nat}
/-- The append of a row to own rows, as a run. -/
theorem OwnRows.run {W X1 : World} {ao : Option Addr} {m cap : Nat} {x : RowZ} {ss : List ByteArray} (h : OwnRows lo W (.slice ao m cap) LL) (hk : Ext W X1) (hlo : lo ≤ W.heap.size) (hx : Row X1 9 1 (.slice x.1 x.2.1 x.2.2) ss.length (strs ss) (New W)) (hss : ss.length ≤ 8796093021952)
    (hll : LL.length ≤ 1048576 * 1048576) : ∃ ao3 n3 cap3 w3, (Builtin.append_ #[64, 64] 64 #[.slice ao m cap, .slice (some ⟨X1.heap.size, 0, none⟩) 1 1]).run Try.prog (X1.alloc (.cells #[.slice x.1 x.2.1 x.2.2] 22)) = .ok (.slice ao3 n3 cap3) w3 ∧
      OwnRows lo w3 (.slice ao3 n3 cap3) (LL ++ [ss]) ∧ Kp (fun g => (Value.slice ao m cap).ownBlock = some g) (X1.alloc (.cells #[.slice x.1 x.2.1 x.2.2] 22)) w3 := by
  obtain ⟨ps, rfl, r2, r3, r4⟩ := h
  have hex : Ext W (X1.alloc (.cells #[.slice x.1 x.2.1 x.2.2] 22)) := hk.alloc _
  have r2' := r2.ext hex
  rw [List.length_map] at hll
  obtain ⟨v3, w3, hrun, hr3, hk3, _⟩ := run_app (P := Try.prog) elemRow 64 r2' (m := 1) (c := 1) rfl (CellsAt.one X1 _ _) (by simp; rfl) (by omega) (by unfold maxLen; omega)
  obtain ⟨ao3, cap3, ev, _, _⟩ := hr3.shape
  subst ev
  refine ⟨ao3, _, cap3, w3, hrun, ?_, hk3⟩
  exact OwnRows.push r2' (fun p hp => ⟨(r3 p hp).1.ext hex, (r3 p hp).2⟩) r4 (B := W.heap.size) (fun p hp g hg => (r3 p hp).1.lt g hg) hlo (hx.alloc _) hss
    (hr3.mono fun g hg => by rcases hg with hg | hg; exact r2.block g hg; exact Nat.le_trans hlo (Nat.le_trans hex.size hg)) hk3
/-- Rows that were built in a box of their own. -/
theorem RefRows.of_own (hS : ∀ k, S k → k < w.heap.size) (hc : ¬ S c) (hB : Blk w c [.int .i64 n, v] 70) (h : OwnRows lo w v LL) (hlo : c < lo) (hl : LL.length ≤ 1048576 * 1048576) :
    RefRows (fun k => S k ∨ (lo ≤ k ∧ k < w.heap.size)) w c n LL := by
  obtain ⟨ao, cap, rfl, h1, h2⟩ := h.form
  refine ⟨ao, cap, hB, h1.mono fun k h => .inr h, h2, fun h => ?_, fun k h => ?_, hl⟩
  · rcases h with h | h
    · exact hc h
    · omega
  · rcases h with h | h
    · exact hS k h
    · exact h.2

set_option maxRecDepth 100000 in
theorem refWith_nil1 (v : Value) (x : Int) (w : World) : Calls Try.prog 69 #[.pointer none, v, .int .i64 x] w (Ret (.tuple #[.pointer none, .int .i64 1]) w) := by
  go_enter Try.func69, Try.ntmps69
  go_wp2
  go_ret2
  exact Ret.mk rfl
set_option maxRecDepth 100000 in
theorem refWith_nil2 (a : Addr) (x : Int) (w : World) : Calls Try.prog 69 #[.pointer (some a), .pointer none, .int .i64 x] w (Ret (.tuple #[.pointer none, .int .i64 1]) w) := by
  go_enter Try.func69, Try.ntmps69
  go_wp2
  go_ret2
  exact Ret.mk rfl
set_option maxRecDepth 100000 in
theorem refWith_arity (h1 : RefRows S1 w c1 n1 L1) (h2 : RefRows S2 w c2 n2 L2) (hne : n1 ≠ n2) (x : Int) : Calls Try.prog 69 #[.pointer (some ⟨c1, 0, none⟩), .pointer (some ⟨c2, 0, none⟩), .int .i64 x] w (RetD (.tuple #[.pointer none, .int .i64 30]) w) := by
  have a1 : w.cell? ⟨c1, 0, none⟩ = some (.int .i64 n1) := by obtain ⟨ao, cap, B, _⟩ := h1; rw [B.cell']; rfl
  have a2 : w.cell? ⟨c2, 0, none⟩ = some (.int .i64 n2) := by obtain ⟨ao, cap, B, _⟩ := h2; rw [B.cell']; rfl
  have t1 : ((n1 : Int) != (n2 : Int)) = true := by simp; omega
  clear h1 h2
  go_enter Try.func69, Try.ntmps69
  go_wp2
  go_region
  all_goals
    go_wp2
    go_ret2
    exact RetD.mk rfl 1

/-- Between two rounds of With that takes rows over. -/
def PickR (N : Nat) (w0 : World) (c n : Nat) (p : List ByteArray → Bool) (LL : List (List ByteArray)) (kv : Value) (w : World) : Prop :=
  ∃ i : Nat, i ≤ N ∧ kv = .int .i64 i ∧ Ext w0 w ∧ ∃ lv, Blk w c [.int .i64 n, lv] 70 ∧ OwnRows (c + 1) w lv ((LL.take i).filter p)
set_option maxRecDepth 100000 in
set_option maxHeartbeats 4000000 in
theorem refPick_any (x : Int) (hx : x = 1 ∨ x = 2) (h1 : RefRows S w c1 n L1) (h2 : RefRows S w c2 n L2) (hst : Strict cmpRow L2) :
    Calls Try.prog 69 #[.pointer (some ⟨c1, 0, none⟩), .pointer (some ⟨c2, 0, none⟩), .int .i64 x] w
      (RetN w fun w' v => ∃ r, v = .tuple #[r, .int .i64 0] ∧ RefNew S w n (L1.filter fun y => isIn cmpRow L2 y == (x == 2)) w' r) := by
  have hl := h1.len
  have HSS := Lib.hid h1.inS
  have HH2 := Lib.hid (And.intro h2 hst)
  obtain ⟨ao, cap, B1, R1, _⟩ := h1
  have a1 : w.cell? ⟨c1, 0, none⟩ = some (.int .i64 n) := by rw [B1.cell']; rfl
  have b1 : w.cell? ⟨c1, 1, none⟩ = some (.slice ao L1.length cap) := by rw [B1.cell']; rfl
  have a2 : w.cell? ⟨c2, 0, none⟩ = some (.int .i64 n) := by obtain ⟨ao, cap, B, _⟩ := h2; rw [B.cell']; rfl
  have t1 : ((n : Int) != (n : Int)) = false := by simp
  have t0 : (x == 0) = false := by rcases hx with rfl | rfl <;> rfl
  obtain ⟨x2, ex2⟩ : ∃ b, b = (x == 2) := ⟨_, rfl⟩
  have t2 : (x == 2) = x2 := ex2.symm
  obtain ⟨p, ep⟩ : ∃ p : List ByteArray → Bool, p = fun y => isIn cmpRow L2 y == (x == 2) := ⟨_, rfl⟩
  have EP := Lib.hid (And.intro ep ex2)
  rw [← ep]
  clear B1 h2 hst ep ex2 hx
  obtain ⟨N, en⟩ : ∃ n, n = L1.length := ⟨_, rfl⟩
  rw [← en] at b1 hl
  have EN := Lib.hid en
  have HC := Lib.hid R1
  clear R1 en
  go_enter Try.func69, Try.ntmps69
  go_wp2
  go_region
  all_goals
    go_wp2
    obtain ⟨c, ec⟩ : ∃ c, c = w.heap.size := ⟨_, rfl⟩
    rw [← ec]
    have EC := Lib.hid ec; clear ec
    go_loopw [13] (PickR N w c n p L1) (fun kv _ => N - (intOf kv).toNat)
    case atStart => exact ⟨0, Nat.zero_le _, rfl, (Kp.refl w).drew.alloc _, .slice none 0 0, by rw [EC.out]; exact Blk.new w.drew [_, _] _, OwnRows.nil _ _⟩
    case round =>
      obtain ⟨i, hi, rfl, hex, lv, hB, hown⟩ := hrel
      have d1 := hex.cell b1 id
      by_cases hlt : i < N
      · obtain ⟨y, hy⟩ : ∃ y, L1[i]? = some y := ⟨_, List.getElem?_eq_getElem (by have := EN.out; omega)⟩
        obtain ⟨g, o, xa, xcap, eao, c3, hcy, hly, _⟩ := (HC.out.ext hex).get hy
        subst eao
        have i1 : (i : Int) < (N : Int) := by omega
        have i2 : (0 : Int) ≤ (i : Int) := by omega
        have hps := pick_step p L1 i y hy
        have HF := Lib.hid (refRowFind_any (HH2.out.1.ext hex) HH2.out.2 (xc := xcap) rfl hcy hly)
        have HCP := Lib.hid (fun W (hW : Ext wr W) => copied_any y xa y.length xcap W rfl (hcy.ext hW) hly)
        have HB := Lib.hid (And.intro hB hown)
        have hf : decide (findR L2 y ≥ 0) = isIn cmpRow L2 y := by
          unfold findR
          cases isIn cmpRow L2 y <;> simp
        have hf2 : decide ((0 : Int) ≤ findR L2 y) = isIn cmpRow L2 y := by first | exact hf | (rw [← hf]; simp)
        have hpy : p y = (isIn cmpRow L2 y == x2) := by rw [EP.out.1, EP.out.2]
        generalize findR L2 y = fy at *
        generalize isIn cmpRow L2 y = bi at *
        cases hp : p y with
        | true =>
          have t3 : (bi == x2) = true := by rw [← hpy, hp]
          have hlen : ((L1.take i).filter p).length ≤ i := Nat.le_trans (List.length_filter_le _ _) (by simp; omega)
          obtain ⟨lao, ln, lcap, ev, _⟩ : ∃ ao n cap, lv = .slice ao n cap ∧ True := by obtain ⟨ao, cap, e, _⟩ := hown.shape; exact ⟨_, _, _, e, trivial⟩
          subst ev
          have HP := Lib.hid (And.intro hps hp)
          have hcw : c < wr.heap.size := hB.lt
          clear hps hp hpy hown hcy hy
          have m1 : wr.cell? ⟨c, 1, none⟩ = some (.slice lao ln lcap) := by rw [hB.cell']; rfl
          have m2 := hB.free 1
          clear hB
          go_wp2_with fail
          refine HF.out.mono ?_
          rintro e w1 ⟨v1, rfl, hk1, rfl⟩
          have d2 := hk1.cell d1 id
          have c4 := hk1.cell c3 id
          have m3 := hk1.cell m1 id
          have HB1 := Lib.hid (And.intro (HB.out.1.ext hk1) (HB.out.2.ext hk1))
          have hx1 := hex.trans hk1
          clear m1 m2 d1 c3
          go_wp2
          go_region_law (first
            | (go_simp; go_at_call 106; (with_reducible refine (HCP.out _ ?_).mono ?_); exact hk1.drew; rintro e X1 ⟨vc, rfl, hkc, hrc⟩; obtain ⟨ao2, cap2, ev, _, _⟩ := hrc.shape; subst ev; have kX : Ext w1 X1 := (Kp.refl w1).drew.trans hkc; have m4 := kX.cell m3 id; have c5 := kX.cell c4 id; have d3 := kX.cell d2 id; have m5 := (kX.alloc (.cells #[.slice ao2 y.length cap2] 22)).cell m3 id; have c6 := (kX.alloc (.cells #[.slice ao2 y.length cap2] 22)).cell c4 id; have d4 := (kX.alloc (.cells #[.slice ao2 y.length cap2] 22)).cell d2 id; obtain ⟨ao3, n3, cap3, w3, hrunA, hown3, hk3⟩ := OwnRows.run (x := (ao2, y.length, cap2)) HB1.out.2 kX (by have := hk1.size; omega) (show Row X1 9 1 (.slice ao2 y.length cap2) y.length (strs y) (New w1) from hrc) hly (by omega); have hB3 : Blk w3 c [.int .i64 n, .slice lao ln lcap] 70 := (HB1.out.1.ext (kX.alloc _)).kp hk3 (fun h => by have := (HB1.out.2.lt _ h).1; omega); have m6 : w3.cell? ⟨c, 1, none⟩ = some (.slice lao ln lcap) := (by rw [hB3.cell']; rfl); have m7 := hB3.free 1; have hex3 : Ext w w3 := (hx1.trans (kX.alloc _)).trans' hk3 (fun k hk hg => by have := (HB1.out.2.lt k hg).1; have := EC.out; omega); have HR3 := Lib.hid (And.intro hB3 (And.intro hown3 hex3)); clear hB3 hown3 hex3 hk3 hrc)
            | (refine step_run rfl _ _ rfl rfl rfl hrunA ?_))
          all_goals
            go_wp2
            go_roundw
            case rel =>
              obtain ⟨hB3, hown3, hex3⟩ := HR3.out
              refine ⟨i + 1, by omega, by first | rfl | (congr 1; done) | (congr 1; omega), Kp.setCell (F := fun _ => False) hex3 (fun h => by have := EC.out; simp only at h; omega) _, _, hB3.set 1 _, ?_⟩
              rw [HP.out.1, if_pos HP.out.2]
              exact hown3.kp (Kp.setCell (F := fun k => k = c) (Kp.refl w3) (fun _ => rfl) _) fun g hg e => by omega
            case measure => simp [intOf]; omega
        | false =>
          have t3 : (bi == x2) = false := by rw [← hpy, hp]
          have HP := Lib.hid (And.intro hps hp)
          clear hps hp hpy hown hcy hy hB
          go_wp2_with fail
          refine HF.out.mono ?_
          rintro e w1 ⟨v1, rfl, hk1, rfl⟩
          clear d1 c3
          go_wp2
          go_roundw
          case rel =>
            refine ⟨i + 1, by omega, by first | rfl | (congr 1; done) | (congr 1; omega), hex.trans hk1, _, HB.out.1.ext hk1, ?_⟩
            rw [HP.out.1, if_neg (by rw [HP.out.2]; simp)]
            simpa using HB.out.2.ext hk1
          case measure => simp [intOf]; omega
      · obtain rfl : i = N := by omega
        have hown : OwnRows (c + 1) wr lv ((L1.take i).filter p) := hown
        rw [List.take_of_length_le (by have := EN.out; omega)] at hown
        have hlen : (L1.filter p).length ≤ i := by have := List.length_filter_le p L1; have := EN.out; omega
        have HB := Lib.hid (And.intro hB hown); clear hB hown
        go_wp2
        go_ret2
        have hS := HSS.out
        have hz := hex.size
        have hc := EC.out
        refine RetN.mk hex ⟨_, rfl, c, _, rfl, by omega, ⟨fun k h => .inl h, fun k h => h.imp id fun h => by have := h.1; omega⟩, RefRows.of_own (S := S) (fun k h => Nat.lt_of_lt_of_le (hS k h) hz) (fun h => by have := hS c h; omega) HB.out.1 HB.out.2 (Nat.lt_succ_self c) (by omega)⟩

/-- The union as With makes it: row by row. -/
def unionR (L1 L2 : List (List ByteArray)) : List (List ByteArray) := L2.foldl (addS cmpRow) L1
theorem unionR_take {L1 L2 : List (List ByteArray)} {i : Nat} {y : List ByteArray} (hy : L2[i]? = some y) : unionR L1 (L2.take (i + 1)) = addS cmpRow (unionR L1 (L2.take i)) y := by
  obtain ⟨hl, e⟩ := List.getElem?_eq_some_iff.1 hy
  unfold unionR
  rw [List.take_succ_eq_append_getElem hl, e, List.foldl_append]; rfl
theorem unionR_strict {L1 : List (List ByteArray)} (h : Strict cmpRow L1) : ∀ L2, Strict cmpRow (unionR L1 L2) := by
  intro L2
  unfold unionR
  induction L2 generalizing L1 with
  | nil => exact h
  | cons y L2 ih => exact ih (Strict.add (c := cmpRow) (cmpRow_law id) h y)
theorem unionR_mono (L1 L2 L3 : List (List ByteArray)) : (unionR L1 L2).length ≤ (unionR L1 (L2 ++ L3)).length := by
  unfold unionR
  rw [List.foldl_append]
  generalize L2.foldl (addS cmpRow) L1 = U
  induction L3 generalizing U with
  | nil => exact Nat.le_refl _
  | cons y L3 ih =>
    rw [List.foldl_cons]
    have h1 := ih (addS cmpRow U y)
    have h2 := addS_len (c := cmpRow) U y
    omega
/-- What With that unites leaves. -/
def RefUnited (S : Nat → Prop) (w : World) (n : Nat) (U : List (List ByteArray)) (w' : World) (v : Value) : Prop :=
  if 65536 < U.length then v = .tuple #[.pointer none, .int .i64 4] else ∃ r, v = .tuple #[r, .int .i64 0] ∧ RefNew S w n U w' r
/-- Between two rounds of With that unites. -/
def UniteR (S : Nat → Prop) (N : Nat) (w0 : World) (c n : Nat) (L1 L2 : List (List ByteArray)) (kv : Value) (w : World) : Prop :=
  ∃ i : Nat, i ≤ N ∧ kv = .int .i64 i ∧ Ext w0 w ∧ (unionR L1 (L2.take i)).length ≤ 65536 ∧ ∃ S', Grows w0 S S' ∧ RefRows S' w c n (unionR L1 (L2.take i))
set_option maxRecDepth 100000 in
set_option maxHeartbeats 4000000 in
theorem refUnion_any (h1 : RefRows S w c1 n L1) (h2 : RefRows S w c2 n L2) (hst : Strict cmpRow L1) (hrs : ∀ ss ∈ L2, ss.length = n ∧ textsC ss = true) (h65 : L1.length ≤ 65536) :
    Calls Try.prog 69 #[.pointer (some ⟨c1, 0, none⟩), .pointer (some ⟨c2, 0, none⟩), .int .i64 0] w
      (RetN w (RefUnited S w n (unionR L1 L2))) := by
  have hl := h2.len
  have HCO := Lib.hid (fun W (hW : Ext w W) => refCopy_any (h1.ext hW))
  have H0 := Lib.hid (And.intro hst (And.intro hrs h65))
  obtain ⟨ao, cap, B2, R2, _⟩ := h2
  have a2 : w.cell? ⟨c2, 0, none⟩ = some (.int .i64 n) := by rw [B2.cell']; rfl
  have b2 : w.cell? ⟨c2, 1, none⟩ = some (.slice ao L2.length cap) := by rw [B2.cell']; rfl
  have a1 : w.cell? ⟨c1, 0, none⟩ = some (.int .i64 n) := by obtain ⟨ao, cap, B, _⟩ := h1; rw [B.cell']; rfl
  have t1 : ((n : Int) != (n : Int)) = false := by simp
  clear B2 h1 hst hrs h65
  obtain ⟨N, en⟩ : ∃ n, n = L2.length := ⟨_, rfl⟩
  rw [← en] at b2 hl
  have EN := Lib.hid en
  have HC := Lib.hid R2
  clear R2 en
  go_enter Try.func69, Try.ntmps69
  go_wp2
  go_region
  all_goals
    go_wp2_with fail
    refine (HCO.out _ (Kp.refl w).drew).mono ?_
    rintro e w1 ⟨v1, rfl, hk1, c, S1, rfl, hcw, hg1, hr1⟩
    have hx1 : Ext w w1 := (Kp.refl w).drew.trans hk1
    have hcw' : w.heap.size ≤ c := hcw
    have d0 := hx1.cell b2 id
    have HG := Lib.hid (And.intro hx1 (And.intro (show Grows w S S1 from hg1) hr1))
    clear hx1 hg1 hr1 hk1 hcw
    go_wp2
    go_loopw [9] (UniteR S N w c n L1 L2) (fun kv _ => N - (intOf kv).toNat)
    case atStart => exact ⟨0, Nat.zero_le _, rfl, HG.out.1, H0.out.2.2, S1, HG.out.2.1, HG.out.2.2⟩
    case round =>
      obtain ⟨i, hi, rfl, hex, hul, S2, hg2, hr2⟩ := hrel
      have d1 := hex.cell b2 id
      by_cases hlt : i < N
      · obtain ⟨y, hy⟩ : ∃ y, L2[i]? = some y := ⟨_, List.getElem?_eq_getElem (by have := EN.out; omega)⟩
        obtain ⟨g, o, xa, xcap, eao, c3, hcy, hly, _⟩ := (HC.out.ext hex).get hy
        subst eao
        have i1 : (i : Int) < (N : Int) := by omega
        have i2 : (0 : Int) ≤ (i : Int) := by omega
        have hut := unionR_take (L1 := L1) hy
        have hys := H0.out.2.1 y (List.mem_of_getElem? hy)
        have HA := Lib.hid (refAdd_any hr2 (unionR_strict H0.out.1 _) (xc := xcap) rfl hcy hly (by omega))
        have hlen := addS_len (c := cmpRow) (unionR L1 (L2.take i)) y
        rw [← hut] at hlen
        have hmn : (unionR L1 (L2.take (i + 1))).length ≤ (unionR L1 L2).length := by
          have := unionR_mono L1 (L2.take (i + 1)) (L2.drop (i + 1))
          rwa [List.take_append_drop] at this
        have HU := Lib.hid (And.intro hut (And.intro hlen hmn))
        by_cases hbad : 65536 ≤ (unionR L1 (L2.take i)).length ∧ isIn cmpRow (unionR L1 (L2.take i)) y = false
        · have e0 : rowsAddR n (unionR L1 (L2.take i)) y = (false, 4) := by unfold rowsAddR; rw [if_neg (by simp [hys.1]), if_neg (by simp [hys.2]), if_pos hbad]
          have HE := Lib.hid (And.intro e0 hbad)
          clear e0 hbad hut hlen hmn hys hcy hy hr2 hg2 hul
          go_wp2_with fail
          refine HA.out.mono ?_
          rintro e w2 ⟨v2, rfl, hk2, rfl, _⟩
          rw [HE.out.1]
          have HK := Lib.hid hk2; clear hk2 d1 c3
          go_wp2
          go_ret2
          refine RetN.mk (hex.trans' HK.out fun k hk e => by omega) ?_
          have hlt65 : 65536 < (unionR L1 L2).length := by
            obtain ⟨_, h2, h3⟩ := HU.out
            rw [HE.out.2.2] at h2
            simp at h2
            have := HE.out.2.1
            omega
          unfold RefUnited
          rw [if_pos hlt65]
          rfl
        · have e0 : (rowsAddR n (unionR L1 (L2.take i)) y).2 = 0 := by unfold rowsAddR; rw [if_neg (by simp [hys.1]), if_neg (by simp [hys.2]), if_neg hbad]
          have e1 : rowsAddL n (unionR L1 (L2.take i)) y = unionR L1 (L2.take (i + 1)) := by unfold rowsAddL; rw [e0, if_pos rfl, hut]
          have hul2 : (unionR L1 (L2.take (i + 1))).length ≤ 65536 := by
            rw [hlen]
            cases hin : isIn cmpRow (unionR L1 (L2.take i)) y with
            | true => simpa using hul
            | false =>
              have : ¬ 65536 ≤ (unionR L1 (L2.take i)).length := fun h => hbad ⟨h, hin⟩
              simp; omega
          have HE := Lib.hid (And.intro e0 (And.intro e1 (And.intro hul2 hg2)))
          clear e0 e1 hul2 hbad hut hlen hmn hys hcy hy hr2 hg2 hul
          go_wp2_with fail
          refine HA.out.mono ?_
          rintro e w2 ⟨v2, rfl, hk2, rfl, S3, hg3, hr3⟩
          rw [HE.out.1]
          rw [HE.out.2.1] at hr3
          have HK := Lib.hid (And.intro hk2 (And.intro hg3 hr3)); clear hk2 hg3 hr3 d1 c3
          go_wp2
          go_roundw
          case rel =>
            exact ⟨i + 1, by omega, by first | rfl | (congr 1; done) | (congr 1; omega), hex.trans' HK.out.1 (fun k hk e => by omega), HE.out.2.2.1, S3, HE.out.2.2.2.trans HK.out.2.1 hex.size, HK.out.2.2⟩
          case measure => simp [intOf]; omega
      · obtain rfl : i = N := by omega
        rw [List.take_of_length_le (by have := EN.out; omega)] at hr2 hul
        have HR := Lib.hid (And.intro hr2 (And.intro hg2 hul)); clear hr2 hg2 hul
        go_wp2
        go_ret2
        refine RetN.mk hex ?_
        unfold RefUnited
        rw [if_neg (by have := HR.out.2.2; omega)]
        exact ⟨_, rfl, c, S2, rfl, hcw', HR.out.2.1, HR.out.1⟩
end
end Go.Proofs.Ytfkhelihepbehaa

/- The bench of TupleRows: Rows and the document's behind pointers that may be nil; what the law's helpers tell. -/
namespace Go.Proofs.Ytfkhelihepbehaa
open Go.RowKit Go.Shelf
set_option linter.unusedVariables false

/-- Is it the nil pointer? -/
def isNil : Value → Bool
  | .pointer none => true
  | _ => false
/-- The block that a pointer names. -/
def FP (rv : Value) : Nat → Prop := fun k => rv = .pointer (some ⟨k, 0, none⟩)
/-- What belongs to Rows behind a pointer. -/
def OwnP (rv iv : Value) : Nat → Prop := fun k => ∃ b, rv = .pointer (some ⟨b, 0, none⟩) ∧ Owns b iv k
/-- Rows behind a pointer; nil: none, of the arity 0. -/
def RowsP (S : Nat → Prop) (w : World) (rv iv : Value) (ar : Nat) (LL : List (List ByteArray)) : Prop :=
  (rv = .pointer none ∧ iv = .slice none 0 0 ∧ ar = 0 ∧ LL = []) ∨ ∃ b, rv = .pointer (some ⟨b, 0, none⟩) ∧ RowsQ True S w b iv ar LL
/-- The document's Rows behind a pointer. -/
def RefP (S : Nat → Prop) (w : World) (mv : Value) (ar : Nat) (LL : List (List ByteArray)) : Prop :=
  (mv = .pointer none ∧ ar = 0 ∧ LL = []) ∨ ∃ c, mv = .pointer (some ⟨c, 0, none⟩) ∧ RefRows S w c ar LL
/-- What Same is of two. -/
def sameP (v1 v2 : Value) (a1 a2 : Nat) (L1 L2 : List (List ByteArray)) : Bool := !isNil v1 && !isNil v2 && decide (a1 = a2 ∧ L1 = L2)

section
variable {S S' : Nat → Prop} {w w' : World} {rv iv mv rv1 rv2 iv1 iv2 mv1 mv2 : Value} {ar a1 a2 : Nat} {LL L1 L2 : List (List ByteArray)}
theorem FP.own {k : Nat} (h : FP rv k) : OwnP rv iv k := ⟨k, h, .inl rfl⟩
theorem RowsP.kp {F : Nat → Prop} (h : RowsP S w rv iv ar LL) (hk : Kp F w w') (hF : ∀ k, F k → ¬ OwnP rv iv k) (hS : ∀ k, F k → ¬ S k) : RowsP S w' rv iv ar LL := by
  rcases h with h | ⟨b, rfl, h⟩
  · exact .inl h
  · exact .inr ⟨b, rfl, h.kp hk (fun k hf ho => hF k hf ⟨b, rfl, ho⟩) hS⟩
theorem RowsP.ownLt (h : RowsP S w rv iv ar LL) : ∀ k, OwnP rv iv k → k < w.heap.size := by
  rintro k ⟨b, rfl, ho⟩
  rcases h with ⟨h, _⟩ | ⟨b', h, h2⟩
  · cases h
  · cases h; exact h2.ownLt k ho
theorem RowsP.notS (h : RowsP S w rv iv ar LL) : ∀ k, OwnP rv iv k → ¬ S k := by
  rintro k ⟨b, rfl, ho⟩
  rcases h with ⟨h, _⟩ | ⟨b', h, h2⟩
  · cases h
  · cases h; exact h2.notS k ho
theorem RowsAt.p {b : Nat} (h : RowsAt S w b iv ar LL) : RowsP S w (.pointer (some ⟨b, 0, none⟩)) iv ar LL := .inr ⟨b, rfl, h.q⟩
theorem RowsP.wide (h : RowsP S w rv iv ar LL) (hs : ∀ k, S k → S' k) (hl : ∀ k, S' k → k < w.heap.size) (hn : ∀ k, OwnP rv iv k → ¬ S' k) : RowsP S' w rv iv ar LL := by
  rcases h with h | ⟨b, rfl, h | ⟨hz, e, el, hB, h1, h2⟩⟩
  · exact .inl h
  · exact .inr ⟨b, rfl, .inl (h.move (F := fun _ => False) (Kp.refl w) (fun _ h => h.elim) (fun _ h => h.elim) hs hl (fun k ho => hn k ⟨b, rfl, ho⟩))⟩
  · exact .inr ⟨b, rfl, .inr ⟨hz, e, el, hB, hl, hn b ⟨b, rfl, .inl rfl⟩⟩⟩
theorem fq_fp {z : Prop} {b k : Nat} (h : FQ z b k) : FP (.pointer (some ⟨b, 0, none⟩)) k := by obtain ⟨_, rfl⟩ := h; rfl

theorem rowsP_all (h : RowsP S w rv iv ar LL) : Calls Try.prog 75 #[rv] w (RetF (FP rv) w fun w' v => RowsP S w' rv iv ar LL ∧ OwnRows w.heap.size w' v LL) := by
  rcases h with ⟨rfl, rfl, rfl, rfl⟩ | ⟨b, rfl, h⟩
  · refine (rowsAll_nil w).mono ?_
    rintro e w' ⟨v, rfl, hk, h1⟩
    exact RetF.mk (Ext.kp hk) ⟨.inl ⟨rfl, rfl, rfl, rfl⟩, h1⟩
  · refine (rowsAll_q h).mono ?_
    rintro e w' ⟨v, rfl, hk, h1, h2⟩
    exact RetF.mk (hk.mono fun _ _ h => fq_fp h) ⟨h1.p, h2⟩
theorem rowsP_len (h : RowsP S w rv iv ar LL) : Calls Try.prog 76 #[rv] w (RetF (FP rv) w fun w' v => v = .int .i64 (LL.length : Nat) ∧ RowsP S w' rv iv ar LL) := by
  rcases h with ⟨rfl, rfl, rfl, rfl⟩ | ⟨b, rfl, h⟩
  · refine (rowsLen_nil w).mono ?_
    rintro e w' ⟨rfl, rfl⟩
    exact RetF.mk (Kp.refl _) ⟨rfl, .inl ⟨rfl, rfl, rfl, rfl⟩⟩
  · refine (rowsLen_q h).mono ?_
    rintro e w' ⟨v, rfl, hk, h1, h2⟩
    exact RetF.mk (hk.mono fun _ _ h => fq_fp h) ⟨h1, h2.p⟩
theorem rowsP_arity (h : RowsP S w rv iv ar LL) : Calls Try.prog 77 #[rv] w (Ret (.int .i64 ar) w) := by
  rcases h with ⟨rfl, rfl, rfl, rfl⟩ | ⟨b, rfl, h⟩
  · exact rowsArity_nil w
  · exact rowsArity_q h
theorem rowsP_at_in (h : RowsP S w rv iv ar LL) (k : Nat) (ss : List ByteArray) (hx : LL[k]? = some ss) :
    Calls Try.prog 80 #[rv, .int .i64 k] w (RetF (FP rv) w fun w' v => ∃ r, v = .tuple #[r, .bool true] ∧ RowsP S w' rv iv ar LL ∧ OwnRow w w' r ss) := by
  rcases h with ⟨rfl, rfl, rfl, rfl⟩ | ⟨b, rfl, h⟩
  · cases hx
  · refine (rowsAt_in h k ss hx).mono ?_
    rintro e w' ⟨v, rfl, hk, r, rfl, h1, h2⟩
    exact RetF.mk (hk.mono fun _ _ h => fq_fp h) ⟨r, rfl, h1.p, h2⟩
theorem rowsP_at_out (h : RowsP S w rv iv ar LL) (i : Int) (hi : i < 0 ∨ LL.length ≤ i) :
    Calls Try.prog 80 #[rv, .int .i64 i] w (RetF (FP rv) w fun w' v => ∃ r, v = .tuple #[r, .bool false] ∧ RowsP S w' rv iv ar LL ∧ OwnRow w w' r []) := by
  rcases h with ⟨rfl, rfl, rfl, rfl⟩ | ⟨b, rfl, h⟩
  · refine (rowsAt_nil i w).mono ?_
    rintro e w' ⟨v, rfl, hk, r, rfl, h1⟩
    exact RetF.mk (Ext.kp hk) ⟨r, rfl, .inl ⟨rfl, rfl, rfl, rfl⟩, h1⟩
  · refine (rowsAt_out h i hi).mono ?_
    rintro e w' ⟨v, rfl, hk, r, rfl, h1, h2⟩
    exact RetF.mk (hk.mono fun _ _ h => fq_fp h) ⟨r, rfl, h1.p, h2⟩
theorem rowsP_each (h : RowsP S w rv iv ar LL) : Calls Try.prog 81 #[rv] w (RetF (FP rv) w fun w' v => RowsP S w' rv iv ar LL ∧ EachRows w.heap.size w' v LL) := by
  rcases h with ⟨rfl, rfl, rfl, rfl⟩ | ⟨b, rfl, h⟩
  · refine (rowsEach_nil w).mono ?_
    rintro e w' ⟨v, rfl, hk, h1⟩
    exact RetF.mk (Ext.kp hk) ⟨.inl ⟨rfl, rfl, rfl, rfl⟩, h1⟩
  · refine (rowsEach_q h).mono ?_
    rintro e w' ⟨v, rfl, hk, h1, h2⟩
    exact RetF.mk (hk.mono fun _ _ h => fq_fp h) ⟨h1.p, h2⟩
theorem RowsP.ptr (h : RowsP S w rv iv ar LL) : ∃ p, rv = .pointer p := by
  rcases h with ⟨rfl, _⟩ | ⟨b, rfl, _⟩
  · exact ⟨_, rfl⟩
  · exact ⟨_, rfl⟩
theorem RefP.ptr (h : RefP S w mv ar LL) : ∃ p, mv = .pointer p := by
  rcases h with ⟨rfl, _⟩ | ⟨b, rfl, _⟩
  · exact ⟨_, rfl⟩
  · exact ⟨_, rfl⟩
/-- Two different ones, or one twice. -/
def PairP (rv1 rv2 iv1 iv2 : Value) (a1 a2 : Nat) (L1 L2 : List (List ByteArray)) : Prop := (rv1 = rv2 ∧ iv1 = iv2 ∧ a1 = a2 ∧ L1 = L2) ∨ ∀ k, OwnP rv1 iv1 k → ¬ OwnP rv2 iv2 k
theorem rowsP_same (h1 : RowsP S w rv1 iv1 a1 L1) (h2 : RowsP S w rv2 iv2 a2 L2) (hp : PairP rv1 rv2 iv1 iv2 a1 a2 L1 L2) :
    Calls Try.prog 82 #[rv1, rv2] w (RetF (fun k => FP rv1 k ∨ FP rv2 k) w fun w' v => v = .bool (sameP rv1 rv2 a1 a2 L1 L2) ∧ RowsP S w' rv1 iv1 a1 L1 ∧ RowsP S w' rv2 iv2 a2 L2) := by
  have hd : ∀ n, Kp (fun k => FP rv1 k ∨ FP rv2 k) w (w.drewN n) := fun n => (Kp.refl w).drewN n
  have hrn : ∀ n, RowsP S (w.drewN n) rv1 iv1 a1 L1 ∧ RowsP S (w.drewN n) rv2 iv2 a2 L2 := fun n => ⟨h1.kp (F := fun _ => False) ((Kp.refl w).drewN n) (fun _ h => h.elim) (fun _ h => h.elim), h2.kp (F := fun _ => False) ((Kp.refl w).drewN n) (fun _ h => h.elim) (fun _ h => h.elim)⟩
  rcases h1 with ⟨rfl, rfl, rfl, rfl⟩ | ⟨b1, rfl, q1⟩
  · refine (rowsSame_nil1 rv2 w).mono ?_
    rintro e w' ⟨rfl, n, rfl⟩
    exact RetF.mk (hd n) ⟨rfl, hrn n⟩
  · rcases h2 with ⟨rfl, rfl, rfl, rfl⟩ | ⟨b2, rfl, q2⟩
    · refine (rowsSame_nil2 _ w).mono ?_
      rintro e w' ⟨rfl, n, rfl⟩
      exact RetF.mk (hd n) ⟨by simp [sameP, isNil], hrn n⟩
    · by_cases ha : a1 = a2
      · subst ha
        rcases hp with ⟨h1, rfl, _, rfl⟩ | hap
        · cases h1
          refine (rowsSame_self q1).mono ?_
          rintro e w' ⟨v, rfl, hk, rfl, hr⟩
          exact RetF.mk (hk.mono fun _ _ h => .inl (fq_fp h)) ⟨by simp [sameP, isNil], hr.p, hr.p⟩
        · refine (rowsSame_q q1 q2 fun k ho ho' => hap k ⟨b1, rfl, ho⟩ ⟨b2, rfl, ho'⟩).mono ?_
          rintro e w' ⟨v, rfl, hk, rfl, hr1, hr2⟩
          exact RetF.mk (hk.mono fun _ _ h => h.imp fq_fp fq_fp) ⟨by simp [sameP, isNil], hr1.p, hr2.p⟩
      · refine (rowsSame_arity q1.ar q2.ar ha).mono ?_
        rintro e w' ⟨rfl, n, rfl⟩
        exact RetF.mk (hd n) ⟨by simp [sameP, isNil, ha], hrn n⟩

theorem RefP.kp {F : Nat → Prop} (h : RefP S w mv ar LL) (hk : Kp F w w') (hF : ∀ k, F k → ¬ FP mv k) (hS : ∀ k, F k → ¬ S k) : RefP S w' mv ar LL := by
  rcases h with h | ⟨c, rfl, h⟩
  · exact .inl h
  · exact .inr ⟨c, rfl, h.kp hk (fun hf => hF c hf rfl) hS⟩
theorem RefP.lt (h : RefP S w mv ar LL) : ∀ k, FP mv k → k < w.heap.size := by
  intro k hk
  rcases h with ⟨rfl, _⟩ | ⟨c, rfl, h⟩
  · cases hk
  · cases hk; exact h.lt
theorem RefP.notS (h : RefP S w mv ar LL) : ∀ k, FP mv k → ¬ S k := by
  intro k hk
  rcases h with ⟨rfl, _⟩ | ⟨c, rfl, h⟩
  · cases hk
  · cases hk; exact h.notS
theorem RefP.wide (h : RefP S w mv ar LL) (hs : ∀ k, S k → S' k) (hl : ∀ k, S' k → k < w.heap.size) (hn : ∀ k, FP mv k → ¬ S' k) : RefP S' w mv ar LL := by
  rcases h with h | ⟨c, rfl, h⟩
  · exact .inl h
  · exact .inr ⟨c, rfl, h.wide hs (hn c rfl) hl⟩
theorem refP_all (h : RefP S w mv ar LL) : Calls Try.prog 67 #[mv] w (RetN w fun w' v => OwnRows w.heap.size w' v LL) := by
  rcases h with ⟨rfl, rfl, rfl⟩ | ⟨c, rfl, h⟩
  · refine (refAll_nil w).mono ?_
    rintro e w' ⟨rfl, rfl⟩
    exact RetN.mk (Kp.refl _) (OwnRows.nil _ _)
  · exact refAll_any h
theorem refP_arity (h : RefP S w mv ar LL) : Calls Try.prog 78 #[mv] w (Ret (.int .i64 ar) w) := by
  rcases h with ⟨rfl, rfl, rfl⟩ | ⟨c, rfl, h⟩
  · exact refArity_nil w
  · exact refArity_any h
theorem refP_same (h1 : RefP S w mv1 a1 L1) (h2 : RefP S w mv2 a2 L2) : Calls Try.prog 83 #[mv1, mv2] w (RetN w fun w' v => v = .bool (sameP mv1 mv2 a1 a2 L1 L2)) := by
  rcases h1 with ⟨rfl, rfl, rfl⟩ | ⟨c1, rfl, q1⟩
  · refine (refSame_nil1 mv2 w).mono ?_
    rintro e w' ⟨rfl, n, rfl⟩
    exact RetN.mk ((Kp.refl w).drewN n) rfl
  · rcases h2 with ⟨rfl, rfl, rfl⟩ | ⟨c2, rfl, q2⟩
    · refine (refSame_nil2 _ w).mono ?_
      rintro e w' ⟨rfl, n, rfl⟩
      exact RetN.mk ((Kp.refl w).drewN n) (by simp [sameP, isNil])
    · refine (refSame_any q1 q2).mono ?_
      rintro e w' ⟨v, rfl, hk, rfl⟩
      exact RetN.mk hk (by simp [sameP, isNil])
theorem sameP_nil {n1 n2 : Value} (h1 : isNil rv1 = isNil n1) (h2 : isNil rv2 = isNil n2) : sameP rv1 rv2 a1 a2 L1 L2 = sameP n1 n2 a1 a2 L1 L2 := by simp [sameP, h1, h2]

theorem num_any (e : Int) (w : World) : Calls Try.prog 23 #[.int .i64 e] w (Ret (.int .i64 e) w) := by
  go_enter Try.func23, Try.ntmps23
  go_wp2
  go_ret
  exact Ret.mk rfl
theorem place_mod (x : Int) (n : Nat) (hn : 0 < n) : (if x.tmod n < 0 then x.tmod n + n else x.tmod n) = x % (n : Int) := by
  have h1 := Int.tmod_eq_emod (a := x) (b := n)
  have h3 := Int.emod_lt_of_pos x (show (0 : Int) < n by omega)
  have h4 := Int.emod_nonneg x (show (n : Int) ≠ 0 by omega)
  have h5 : (n : Int).natAbs = n := by omega
  rw [h5] at h1
  split at h1 <;> split <;> omega
/-- The place among n. -/
def placeN (x : Int) (n : Nat) : Nat := (x % (n : Int)).toNat
theorem placeN_lt (x : Int) (n : Nat) (hn : 0 < n) : placeN x n < n := by
  have h3 := Int.emod_lt_of_pos x (show (0 : Int) < n by omega)
  have h4 := Int.emod_nonneg x (show (n : Int) ≠ 0 by omega)
  unfold placeN; omega
theorem placeN_eq (x : Int) (n : Nat) (hn : 0 < n) : (placeN x n : Int) = if x.tmod n < 0 then x.tmod n + n else x.tmod n := by
  rw [place_mod x n hn]
  have h4 := Int.emod_nonneg x (show (n : Int) ≠ 0 by omega)
  unfold placeN; omega
theorem place_any (x : Int) (n : Nat) (hn : 0 < n) (hm : n ≤ 1000) (w : World) :
    Calls Try.prog 11 #[.int .i64 x, .int .i64 n] w (Ret (.int .i64 (placeN x n : Nat)) w) := by
  have h0 : (n : Int) ≠ 0 := by omega
  have HP := Lib.hid (placeN_eq x n hn)
  have b1 : x.tmod n < n := Int.tmod_lt_of_pos x (by omega)
  have b2 : -(n : Int) < x.tmod n := by
    have h1 := Int.tmod_eq_emod (a := x) (b := n)
    have h3 := Int.emod_lt_of_pos x (show (0 : Int) < n by omega)
    have h4 := Int.emod_nonneg x (show (n : Int) ≠ 0 by omega)
    have h5 : (n : Int).natAbs = n := by omega
    rw [h5] at h1
    split at h1 <;> omega
  have e1 : wrap64 (x.tmod n) = x.tmod n := by unfold wrap64; omega
  by_cases hk : x.tmod n < 0
  · have e2 : wrap64 (x.tmod n + n) = x.tmod n + n := by unfold wrap64; omega
    have E := Lib.hid (And.intro e1 e2); clear e1 e2
    go_enter Try.func11, Try.ntmps11
    go_wp2
    go_ret
    exact Ret.mk (by rw [HP.out, if_pos hk]; first | rfl | simp [E.out.1, E.out.2])
  · have E := Lib.hid e1; clear e1
    go_enter Try.func11, Try.ntmps11
    go_wp2
    go_ret
    exact Ret.mk (by rw [HP.out, if_neg (by omega)]; rfl)
set_option maxRecDepth 100000 in
set_option maxHeartbeats 1000000 in
/-- The same rows. -/
theorem rows_yes {S1 S2 : Nat → Prop} (ao1 ao2 : Option Addr) (N cap1 cap2 : Nat) (hN : N = LL.length) (h1 : RowsIn S1 w ao1 LL) (h2 : RowsIn S2 w ao2 LL) (hl : N ≤ 1048576 * 1048576) :
    Calls Try.prog 79 #[.slice ao1 N cap1, .slice ao2 N cap2] w (RetN w fun w' v => v = .bool true) := by
  have HR := Lib.hid (And.intro h1 h2)
  have EN := Lib.hid hN
  clear h1 h2 hN
  go_enter Try.func79, Try.ntmps79
  go_wp2
  go_loopw [5] (ReadR N (fun _ => True) w) (fun k _ => N - (intOf k).toNat)
  case atStart => exact ⟨0, Nat.zero_le _, rfl, trivial, Kp.refl _⟩
  case round =>
    obtain ⟨i, hi, rfl, _, hex⟩ := hrel
    by_cases hlt : i < N
    · obtain ⟨y, hy⟩ : ∃ y, LL[i]? = some y := ⟨_, List.getElem?_eq_getElem (by have := EN.out; omega)⟩
      obtain ⟨g1, o1, x1, xc1, e1, c3, q1, l1, _⟩ := (HR.out.1.ext hex).get hy
      obtain ⟨g2, o2, x2, xc2, e2, c4, q2, l2, _⟩ := (HR.out.2.ext hex).get hy
      subst e1 e2
      have HCM := Lib.hid (fun W (hW : Ext wr W) => same_yes y x1 x2 xc1 xc2 W (q1.ext hW) (q2.ext hW) (by unfold maxLen; omega))
      have i1 : (i : Int) < (N : Int) := by omega
      have i2 : (0 : Int) ≤ (i : Int) := by omega
      clear q1 q2 hy
      go_wp2
      go_region_held3 (fun w' => w'.cell? ⟨g1, o1 + i, none⟩ = some (.slice x1 y.length xc1) ∧ w'.cell? ⟨g2, o2 + i, none⟩ = some (.slice x2 y.length xc2)) (first | exact ⟨by assumption, by assumption⟩ | go_keep)
        (first | (go_at_call 20; (with_reducible refine (HCM.out _ ?_).mono ?_); exact (Kp.refl wr).drew; rintro e wc ⟨rfl, kc, rfl⟩; have c3 : (wr.drew.drewN kc).cell? ⟨g1, o1 + i, none⟩ = some (.slice x1 y.length xc1) := c3; have c4 : (wr.drew.drewN kc).cell? ⟨g2, o2 + i, none⟩ = some (.slice x2 y.length xc2) := c4))
      all_goals
        go_wp2
        go_roundw
        case rel => exact ⟨i + 1, by omega, by first | rfl | (congr 1; done) | (congr 1; omega), trivial, hex.drewN (1 + kc)⟩
        case measure => simp [intOf]; omega
    · go_wp2
      go_ret
      exact RetN.mk hex rfl
end
end Go.Proofs.Ytfkhelihepbehaa

/- The bench of TupleRows: what holds of it; what told knows between its lines. -/
namespace Go.Proofs.Ytfkhelihepbehaa
open Go.RowKit Go.Shelf
set_option linter.unusedVariables false

/-- Three places: the program's pointers, their items, the document's; arities, rows. -/
structure Bench3 where
  rv : Nat → Value
  iv : Nat → Value
  mv : Nat → Value
  ar : Nat → Nat
  LL : Nat → List (List ByteArray)
structure BenchAt (S : Nat → Prop) (w : World) (bd : Nat) (D : Bench3) : Prop where
  blk : Blk w bd [D.rv 0, D.rv 1, D.rv 2, D.mv 0, D.mv 1, D.mv 2] 57
  rows : ∀ k, k < 3 → RowsP S w (D.rv k) (D.iv k) (D.ar k) (D.LL k)
  refs : ∀ k, k < 3 → RefP S w (D.mv k) (D.ar k) (D.LL k)
  both : ∀ k, k < 3 → isNil (D.rv k) = isNil (D.mv k)
  apart : ∀ i j, i < 3 → j < 3 → i ≠ j → ∀ g, OwnP (D.rv i) (D.iv i) g → ¬ OwnP (D.rv j) (D.iv j) g
  mapart : ∀ i j, i < 3 → j < 3 → ∀ g, FP (D.mv i) g → ¬ OwnP (D.rv j) (D.iv j) g
  mm : ∀ i j, i < 3 → j < 3 → i ≠ j → ∀ g, FP (D.mv i) g → ¬ FP (D.mv j) g
  off : ∀ k, k < 3 → ¬ OwnP (D.rv k) (D.iv k) bd ∧ ¬ FP (D.mv k) bd
  offS : ¬ S bd
  inS : ∀ k, S k → k < w.heap.size
  good : ∀ k, k < 3 → Strict cmpRow (D.LL k) ∧ (∀ ss ∈ D.LL k, ss.length = D.ar k ∧ textsC ss = true) ∧ (D.LL k).length ≤ 65536
/-- What may turn while nothing is added: the program's own boxes. -/
def BenchF (D : Bench3) (g : Nat) : Prop := ∃ k, k < 3 ∧ FP (D.rv k) g

section
variable {S S' : Nat → Prop} {w0 w w' W W' : World} {bd : Nat} {D : Bench3}
theorem BenchAt.kp {F : Nat → Prop} (h : BenchAt S w bd D) (hk : Kp F w w') (hb : ¬ F bd) (hF : ∀ g, F g → ∀ k, k < 3 → ¬ OwnP (D.rv k) (D.iv k) g ∧ ¬ FP (D.mv k) g) (hS : ∀ g, F g → ¬ S g) : BenchAt S w' bd D :=
  ⟨h.blk.kp hk hb, fun k hk' => (h.rows k hk').kp hk (fun g hg => (hF g hg k hk').1) hS, fun k hk' => (h.refs k hk').kp hk (fun g hg => (hF g hg k hk').2) hS, h.both, h.apart, h.mapart, h.mm, h.off, h.offS, fun k hk' => Nat.lt_of_lt_of_le (h.inS k hk') hk.size, h.good⟩
theorem BenchAt.ext (h : BenchAt S w bd D) (hk : Ext w w') : BenchAt S w' bd D := h.kp hk id (fun _ x => x.elim) (fun _ x => x.elim)
/-- What came after a bench was there turns it not. -/
theorem BenchAt.later (h0 : BenchAt S w0 bd D) (h : BenchAt S W bd D) {z : Nat} (hz : w0.heap.size ≤ z) (hk : Kp (fun g => z ≤ g) W W') : BenchAt S W' bd D :=
  h.kp hk (fun hg => by have := h0.blk.lt; omega) (fun g hg k hk' => ⟨fun ho => by have := (h0.rows k hk').ownLt g ho; omega, fun ho => by have := (h0.refs k hk').lt g ho; omega⟩) (fun g hg hs => by have := h0.inS g hs; omega)
theorem BenchAt.call (h : BenchAt S W bd D) {j : Nat} (hj : j < 3) (hk : Kp (FP (D.rv j)) W W') (hr : RowsP S W' (D.rv j) (D.iv j) (D.ar j) (D.LL j)) : BenchAt S W' bd D := by
  have hS : ∀ g, FP (D.rv j) g → ¬ S g := fun g hg => (h.rows j hj).notS g (FP.own hg)
  refine ⟨h.blk.kp hk fun hg => (h.off j hj).1 (FP.own hg), fun k hk' => ?_, fun k hk' => (h.refs k hk').kp hk (fun g hg hm => h.mapart k j hk' hj g hm (FP.own hg)) hS, h.both, h.apart, h.mapart, h.mm, h.off, h.offS, fun k hk' => Nat.lt_of_lt_of_le (h.inS k hk') hk.size, h.good⟩
  by_cases e : k = j
  · subst e; exact hr
  · exact (h.rows k hk').kp hk (fun g hg ho => h.apart j k hj hk' (fun e' => e e'.symm) g (FP.own hg) ho) hS
theorem BenchAt.pair (h : BenchAt S W bd D) {i j : Nat} (hi : i < 3) (hj : j < 3) : PairP (D.rv i) (D.rv j) (D.iv i) (D.iv j) (D.ar i) (D.ar j) (D.LL i) (D.LL j) := by
  by_cases e : i = j
  · subst e; exact .inl ⟨rfl, rfl, rfl, rfl⟩
  · exact .inr (h.apart i j hi hj e)
theorem BenchAt.call2 (h : BenchAt S W bd D) {i j : Nat} (hi : i < 3) (hj : j < 3) (hk : Kp (fun k => FP (D.rv i) k ∨ FP (D.rv j) k) W W') (hr : RowsP S W' (D.rv i) (D.iv i) (D.ar i) (D.LL i)) (hr2 : RowsP S W' (D.rv j) (D.iv j) (D.ar j) (D.LL j)) : BenchAt S W' bd D := by
  have hS : ∀ g, (FP (D.rv i) g ∨ FP (D.rv j) g) → ¬ S g := fun g hg => by
    rcases hg with hg | hg
    · exact (h.rows i hi).notS g (FP.own hg)
    · exact (h.rows j hj).notS g (FP.own hg)
  refine ⟨h.blk.kp hk fun hg => ?_, fun k hk' => ?_, fun k hk' => (h.refs k hk').kp hk (fun g hg hm => ?_) hS, h.both, h.apart, h.mapart, h.mm, h.off, h.offS, fun k hk' => Nat.lt_of_lt_of_le (h.inS k hk') hk.size, h.good⟩
  · rcases hg with hg | hg
    · exact (h.off i hi).1 (FP.own hg)
    · exact (h.off j hj).1 (FP.own hg)
  · by_cases e : k = i
    · subst e; exact hr
    · by_cases e' : k = j
      · subst e'; exact hr2
      · refine (h.rows k hk').kp hk (fun g hg ho => ?_) hS
        rcases hg with hg | hg
        · exact h.apart i k hi hk' (fun x => e x.symm) g (FP.own hg) ho
        · exact h.apart j k hj hk' (fun x => e' x.symm) g (FP.own hg) ho
  · rcases hg with hg | hg
    · exact h.mapart k i hk' hi g hm (FP.own hg)
    · exact h.mapart k j hk' hj g hm (FP.own hg)
theorem BenchAt.cr (h : BenchAt S w bd D) {k : Nat} (hk : k < 3) : w.cell? ⟨bd, k, none⟩ = some (D.rv k) := by
  rw [h.blk.cell']
  match k, hk with
  | 0, _ => rfl
  | 1, _ => rfl
  | 2, _ => rfl
theorem BenchAt.cm (h : BenchAt S w bd D) {k : Nat} (hk : k < 3) : w.cell? ⟨bd, 3 + k, none⟩ = some (D.mv k) := by
  rw [h.blk.cell']
  match k, hk with
  | 0, _ => rfl
  | 1, _ => rfl
  | 2, _ => rfl

/-- What told knows between its lines: the bench, and the rows that are wanted; ds: the marks of its loops. -/
structure TB (S : Nat → Prop) (w0 : World) (bd : Nat) (D : Bench3) (z : Nat) (aow : Option Addr) (L : List (List ByteArray)) (ds : List Deferred) (W : World) : Prop where
  b0 : BenchAt S w0 bd D
  b : BenchAt S W bd D
  kp : Kp (BenchF D) w0 W
  lo : w0.heap.size ≤ z
  zW : z ≤ W.heap.size
  want : RowsIn (fun g => w0.heap.size ≤ g ∧ g < z) W aow L
  marks : Marks z W ds
variable {z : Nat} {aow : Option Addr} {L : List (List ByteArray)} {ds : List Deferred}
theorem TB.ext (h : TB S w0 bd D z aow L ds W) (hk : Ext W W') : TB S w0 bd D z aow L ds W' :=
  ⟨h.b0, h.b.ext hk, h.kp.ext hk, h.lo, Nat.le_trans h.zW hk.size, h.want.ext hk, h.marks.kp hk fun _ x => x.elim⟩
theorem TB.fresh (h : TB S w0 bd D z aow L [] W) (hk : Kp (fun g => z ≤ g) W W') : TB S w0 bd D z aow L [] W' :=
  ⟨h.b0, h.b0.later h.b h.lo hk, h.kp.trans' hk fun i hi hg => by have := h.lo; omega, h.lo, Nat.le_trans h.zW hk.size, h.want.kp hk fun k hk hs => by omega, Marks.nil _ _⟩
theorem TB.fpLt (h : TB S w0 bd D z aow L ds W) {g j : Nat} (hj : j < 3) (hg : FP (D.rv j) g) : g < w0.heap.size := (h.b0.rows j hj).ownLt g (FP.own hg)
theorem TB.call (h : TB S w0 bd D z aow L ds W) {j : Nat} (hj : j < 3) (hk : Kp (FP (D.rv j)) W W') (hr : RowsP S W' (D.rv j) (D.iv j) (D.ar j) (D.LL j)) : TB S w0 bd D z aow L ds W' :=
  ⟨h.b0, h.b.call hj hk hr, h.kp.trans' hk fun i hi hg => ⟨j, hj, hg⟩, h.lo, Nat.le_trans h.zW hk.size, h.want.kp hk fun k hk hs => by have := h.fpLt hj hk; omega, h.marks.kp hk fun k hk => by have := h.fpLt hj hk; have := h.lo; omega⟩
theorem TB.call2 (h : TB S w0 bd D z aow L ds W) {i j : Nat} (hi : i < 3) (hj : j < 3) (hk : Kp (fun k => FP (D.rv i) k ∨ FP (D.rv j) k) W W') (hr : RowsP S W' (D.rv i) (D.iv i) (D.ar i) (D.LL i)) (hr2 : RowsP S W' (D.rv j) (D.iv j) (D.ar j) (D.LL j)) : TB S w0 bd D z aow L ds W' := by
  have hlt : ∀ g, (FP (D.rv i) g ∨ FP (D.rv j) g) → g < w0.heap.size := fun g hg => by
    rcases hg with hg | hg
    · exact h.fpLt hi hg
    · exact h.fpLt hj hg
  exact ⟨h.b0, h.b.call2 hi hj hk hr hr2, h.kp.trans' hk fun k hk' hg => by rcases hg with hg | hg; exact ⟨i, hi, hg⟩; exact ⟨j, hj, hg⟩, h.lo, Nat.le_trans h.zW hk.size, h.want.kp hk fun k hk hs => by have := hlt k hk; omega, h.marks.kp hk fun k hk => by have := hlt k hk; have := h.lo; omega⟩
theorem TB.push (h : TB S w0 bd D z aow L ds W) (hk : Kp (fun g => z ≤ g) W W') (hko : ∀ (k : Nat) (o : Obj), W.heap[k]? = some o → o.isCells = false → W'.heap[k]? = some o) {d : Nat} (hD : W.heap.size ≤ d) (hd : W'.heap[d]? = some (.deferred (some []))) : TB S w0 bd D z aow L ({ target := .collected d, args := #[] } :: ds) W' :=
  ⟨h.b0, h.b0.later h.b h.lo hk, h.kp.trans' hk fun i hi hg => by have := h.lo; omega, h.lo, Nat.le_trans h.zW hk.size, h.want.kp hk fun k hk hs => by omega, h.marks.push hko hD (Nat.le_trans h.zW hD) hd⟩

theorem TB.all (h : TB S w0 bd D z aow L ds W) {j : Nat} (hj : j < 3) : Calls Try.prog 75 #[D.rv j] W (RetF (FP (D.rv j)) W fun w' v => TB S w0 bd D z aow L ds w' ∧ OwnRows W.heap.size w' v (D.LL j)) := by
  refine (rowsP_all (h.b.rows j hj)).mono ?_
  rintro e w' ⟨v, rfl, hk, h1, h2⟩
  exact RetF.mk hk ⟨h.call hj hk h1, h2⟩
theorem TB.len (h : TB S w0 bd D z aow L ds W) {j : Nat} (hj : j < 3) : Calls Try.prog 76 #[D.rv j] W (RetF (FP (D.rv j)) W fun w' v => v = .int .i64 ((D.LL j).length : Nat) ∧ TB S w0 bd D z aow L ds w') := by
  refine (rowsP_len (h.b.rows j hj)).mono ?_
  rintro e w' ⟨v, rfl, hk, h1, h2⟩
  exact RetF.mk hk ⟨h1, h.call hj hk h2⟩
theorem TB.atIn (h : TB S w0 bd D z aow L ds W) {j : Nat} (hj : j < 3) (k : Nat) (ss : List ByteArray) (hx : (D.LL j)[k]? = some ss) :
    Calls Try.prog 80 #[D.rv j, .int .i64 k] W (RetF (FP (D.rv j)) W fun w' v => ∃ r, v = .tuple #[r, .bool true] ∧ TB S w0 bd D z aow L ds w' ∧ OwnRow W w' r ss) := by
  refine (rowsP_at_in (h.b.rows j hj) k ss hx).mono ?_
  rintro e w' ⟨v, rfl, hk, r, h1, h2, h3⟩
  exact RetF.mk hk ⟨r, h1, h.call hj hk h2, h3⟩
theorem TB.atOut (h : TB S w0 bd D z aow L ds W) {j : Nat} (hj : j < 3) (i : Int) (hi : i < 0 ∨ (D.LL j).length ≤ i) :
    Calls Try.prog 80 #[D.rv j, .int .i64 i] W (RetF (FP (D.rv j)) W fun w' v => ∃ r, v = .tuple #[r, .bool false] ∧ TB S w0 bd D z aow L ds w' ∧ OwnRow W w' r []) := by
  refine (rowsP_at_out (h.b.rows j hj) i hi).mono ?_
  rintro e w' ⟨v, rfl, hk, r, h1, h2, h3⟩
  exact RetF.mk hk ⟨r, h1, h.call hj hk h2, h3⟩
theorem TB.each (h : TB S w0 bd D z aow L ds W) {j : Nat} (hj : j < 3) : Calls Try.prog 81 #[D.rv j] W (RetF (FP (D.rv j)) W fun w' v => TB S w0 bd D z aow L ds w' ∧ EachRows W.heap.size w' v (D.LL j)) := by
  refine (rowsP_each (h.b.rows j hj)).mono ?_
  rintro e w' ⟨v, rfl, hk, h1, h2⟩
  exact RetF.mk hk ⟨h.call hj hk h1, h2⟩
theorem TB.same (h : TB S w0 bd D z aow L ds W) {i j : Nat} (hi : i < 3) (hj : j < 3) : Calls Try.prog 82 #[D.rv i, D.rv j] W (RetF (fun k => FP (D.rv i) k ∨ FP (D.rv j) k) W fun w' v => v = .bool (sameP (D.rv i) (D.rv j) (D.ar i) (D.ar j) (D.LL i) (D.LL j)) ∧ TB S w0 bd D z aow L ds w') := by
  refine (rowsP_same (h.b.rows i hi) (h.b.rows j hj) (h.b.pair hi hj)).mono ?_
  rintro e w' ⟨v, rfl, hk, h1, h2, h3⟩
  exact RetF.mk hk ⟨h1, h.call2 hi hj hk h2 h3⟩
theorem TB.msame (h : TB S w0 bd D z aow L ds W) {i j : Nat} (hi : i < 3) (hj : j < 3) : Calls Try.prog 83 #[D.mv i, D.mv j] W (RetN W fun w' v => v = .bool (sameP (D.rv i) (D.rv j) (D.ar i) (D.ar j) (D.LL i) (D.LL j)) ∧ TB S w0 bd D z aow L ds w') := by
  refine (refP_same (h.b.refs i hi) (h.b.refs j hj)).mono ?_
  rintro e w' ⟨v, rfl, hk, rfl⟩
  exact RetN.mk hk ⟨by rw [sameP_nil (h.b.both i hi) (h.b.both j hj)], h.ext hk⟩
end

/-- A row's cells, whatever is in them: nil, or from the head of a block of F on. -/
def RoomRow (F : Nat → Prop) (w : World) (x : RowZ) (n : Nat) : Prop := n = 0 ∨ ∃ g cap cs, x = (some ⟨g, 0, none⟩, n, cap) ∧ F g ∧ Blk w g cs 9 ∧ n ≤ cs.length
theorem RoomRow.of_row {w : World} {x : RowZ} {n : Nat} {xs : List Value} {M : Nat → Prop} (h : Row w 9 1 (.slice x.1 x.2.1 x.2.2) n xs M) : RoomRow M w x n := by
  obtain ⟨hx, ⟨_, h0⟩ | ⟨g, cap, rest, e, hM, hB, hl, hc, _⟩⟩ := h
  · exact .inl h0
  · obtain ⟨x1, x2, x3⟩ := x
    simp only [Value.slice.injEq] at e
    obtain ⟨rfl, rfl, rfl⟩ := e
    exact .inr ⟨g, _, _, rfl, hM, hB, by simp at hl ⊢; omega⟩
theorem RoomRow.kp {F G : Nat → Prop} {w w' : World} {x : RowZ} {n : Nat} (h : RoomRow F w x n) (hk : Kp G w w') (hG : ∀ g, F g → ¬ G g) : RoomRow F w' x n := by
  rcases h with h | ⟨g, cap, cs, e, hF, hB, hl⟩
  · exact .inl h
  · exact .inr ⟨g, cap, cs, e, hF, hB.kp hk (hG g hF), hl⟩
theorem RoomRow.set {F : Nat → Prop} {w : World} {x : RowZ} {n : Nat} (h : RoomRow F w x n) (g' i : Nat) (v : Value) : RoomRow F (w.setCell ⟨g', i, none⟩ v) x n := by
  rcases h with h | ⟨g, cap, cs, e, hF, hB, hl⟩
  · exact .inl h
  · by_cases hg : g = g'
    · subst hg
      exact .inr ⟨g, cap, _, e, hF, hB.set i v, by simpa using hl⟩
    · exact .inr ⟨g, cap, cs, e, hF, hB.other (fun e => hg e) v, hl⟩
end Go.Proofs.Ytfkhelihepbehaa

/- The bench of TupleRows: what Add, Drop, Has, Below, Union, Minus, Meet, Copy and NewRows do behind pointers that may be nil. -/
namespace Go.Proofs.Ytfkhelihepbehaa
open Go.RowKit Go.Shelf
set_option linter.unusedVariables false

section
variable {z : Prop} {S S' : Nat → Prop} {w w' : World} {b : Nat} {iv : Value} {arity : Nat} {LL : List (List ByteArray)}
theorem RowsAt.openS (h : RowsAt S w b iv arity LL) (hst : Strict cmpRow LL) {x : RowZ} {ss : List ByteArray} (hx : RowIn w x ss) (ho : RowOff x (Owns b iv)) :
    ∃ con zs, (∀ x ss, ReadsAs w x ss → con x = ss) ∧ SetAtRow Try.prog (poolOf S x) w b (.func (Fn.func 8) #[] #[]) iv [.int .i64 arity] 68 (RowD (poolOf S x) w) (fun x y => cmpRow (con x) (con y)) zs ∧ zs.map con = LL ∧
      RowD (poolOf S x) w x ∧ con x = ss ∧ Strict (fun x y => cmpRow (con x) (con y)) zs ∧ isIn (fun x y => cmpRow (con x) (con y)) zs x = isIn cmpRow LL ss ∧ ∀ z ∈ zs, RowD S w z := by
  obtain ⟨con, zs, hc, hs, hl⟩ := h
  have ex := hc x ss hx.1
  refine ⟨con, zs, hc, ⟨hs.blk, hs.row, hs.apart, fun k hk => ?_, fun k hk hs' => ?_, rows_ord hc, fun z hz => ?_, hs.len⟩, hl, ⟨ss, hx.1, hx.2.1, fun a e => .inr ⟨a, e, rfl⟩⟩, ex, ?_, ?_, hs.all⟩
  · rcases hk with hk | ⟨a, e, rfl⟩
    · exact hs.inS k hk
    · exact hx.2.2 a e
  · rcases hs' with hs' | ⟨a, e, rfl⟩
    · exact hs.notS k hk hs'
    · exact ho a e hk
  · obtain ⟨sz, h1, h2, h3⟩ := hs.all z hz
    exact ⟨sz, h1, h2, fun a e => .inl (h3 a e)⟩
  · rw [← hl] at hst
    exact List.pairwise_map.1 hst
  · rw [← hl, ← ex]; simp [isIn, List.any_map, Function.comp_def]
theorem RowsAt.of_set' {S' : Nat → Prop} {w1 w2 : World} {con : RowZ → List ByteArray} {zs : List RowZ} {D : RowZ → Prop} (hc : ∀ x ss, ReadsAs w1 x ss → con x = ss) (hsame : Same S w1 w2) (hSS : ∀ k, S k → S' k)
    (h : SetAtRow Try.prog S' w2 b (.func (Fn.func 8) #[] #[]) iv [.int .i64 arity] 68 D (fun x y => cmpRow (con x) (con y)) zs) (hall : ∀ z ∈ zs, RowD S w1 z) : RowsAt S w2 b iv arity (zs.map con) := by
  obtain ⟨con', hc'⟩ := con_ex w2
  have all : ∀ z ∈ zs, RowD S w2 z ∧ con' z = con z := fun z hz => by
    obtain ⟨ss, h1, h2, h3⟩ := hall z hz
    have h1' := h1.same hsame h3
    exact ⟨⟨ss, h1', h2, h3⟩, by rw [hc' z ss h1', hc z ss h1]⟩
  exact ⟨con', zs, hc', ⟨h.blk, h.row, h.apart, fun k hk => h.inS k (hSS k hk), fun k ho hk => h.notS k ho (hSS k hk), rows_ord hc', fun z hz => (all z hz).1, h.len⟩, List.map_congr_left fun z hz => (all z hz).2⟩
set_option maxRecDepth 100000 in
theorem rowsDrop_s (h : RowsQ z S w b iv arity LL) (hst : Strict cmpRow LL) {ao : Option Addr} {n cap : Nat} {ss : List ByteArray} (hx : RowIn w (ao, n, cap) ss) (ho : RowOff (ao, n, cap) (Owns b iv)) :
    Calls Try.prog 63 #[.pointer (some ⟨b, 0, none⟩), .slice ao n cap] w (RetF (Owns b iv) w fun w' v => v = .tuple #[.bool (rowsDropR arity LL ss).1, .int .i64 ((rowsDropR arity LL ss).2 : Nat)] ∧
      ∃ iv', RowsQ z S w' b iv' arity (rowsDropL arity LL ss) ∧ iv'.ownBlock = iv.ownBlock) := by
  have hn : n = ss.length := hx.1.1
  have c2 := h.ar
  by_cases h1 : n = arity
  · have q1 : ((n : Int) != (arity : Int)) = false := by simp [h1]
    have HS := Lib.hid (rowsSet_q h); clear h
    have HX := Lib.hid (And.intro hst (And.intro hx ho)); clear hst hx ho
    have HN := Lib.hid (show ss.length = arity by omega)
    clear hn h1
    go_enter Try.func63, Try.ntmps63
    go_wp2_with fail
    refine HS.out.mono ?_
    rintro e w1 ⟨v, rfl, hk, rfl, h1⟩
    have hx1 := HX.out.2.1.kp hk (fun a e hf => HX.out.2.2 a e (.inl hf.2))
    obtain ⟨con, zs, hc, hs, hl, hd, ex, hz, e1, hall⟩ := h1.openS HX.out.1 hx1 HX.out.2.2
    have HF := Lib.hid (setDropRow_any (cmpRow_law con) (ao, n, cap) hd hz hs)
    rw [e1] at HF
    have HC := Lib.hid (And.intro hc (And.intro hl (And.intro ex (And.intro hs hall))))
    have HK := Lib.hid (And.intro hk h1)
    clear hc hs hl hd ex hz e1 hall hk h1 hx1 q1 c2
    go_wp2_with fail
    refine HF.out.mono ?_
    rintro e w2 ⟨v, rfl, hk2, rfl, iv', hs2, hiv⟩
    have HK2 := Lib.hid (And.intro hk2 (And.intro hs2 hiv)); clear hk2 hs2 hiv
    go_wp2
    go_ret2
    obtain ⟨hc, hl, ex, hs, hall⟩ := HC.out
    have hsame : Same S w1 w2 := HK2.out.1.same HK.out.2.inS fun k h1 h2 => HK.out.2.notS k h2 h1
    have hrows := RowsAt.of_set' hc hsame (fun k h => Or.inl h) HK2.out.2.1 fun z hz => hall z (mem_dropS hz)
    rw [← dropS_map con zs (ao, n, cap), hl, ex] at hrows
    refine RetF.mk ((HK.out.1.mono fun k _ h => FQ.owns k h).trans HK2.out.1) ⟨?_, iv', .inl ?_, HK2.out.2.2⟩
    · unfold rowsDropR; rw [if_neg (by rw [HN.out]; simp)]; rfl
    · unfold rowsDropL; rw [if_neg (by rw [HN.out]; simp)]; exact hrows
  · have q1 : ((n : Int) != (arity : Int)) = true := by rw [bne_iff_ne]; omega
    have H := Lib.hid h; clear h
    have HN := Lib.hid (show ss.length ≠ arity by omega)
    clear hst hx ho hn h1
    go_enter Try.func63, Try.ntmps63
    go_wp2
    go_ret2
    refine RetF.mk (Kp.refl _) ⟨?_, iv, ?_, rfl⟩
    · unfold rowsDropR; rw [if_pos HN.out]; rfl
    · unfold rowsDropL; rw [if_pos HN.out]; exact H.out
end

/-- What Add and Drop answer, nil ones too; what is there behind them. -/
def addRP (v : Value) (ar : Nat) (LL : List (List ByteArray)) (ss : List ByteArray) : Bool × Nat := if isNil v then (false, 1) else rowsAddR ar LL ss
def addLP (v : Value) (ar : Nat) (LL : List (List ByteArray)) (ss : List ByteArray) : List (List ByteArray) := if isNil v then LL else rowsAddL ar LL ss
def dropRP (v : Value) (ar : Nat) (LL : List (List ByteArray)) (ss : List ByteArray) : Bool × Nat := if isNil v then (false, 1) else rowsDropR ar LL ss
def dropLP (v : Value) (ar : Nat) (LL : List (List ByteArray)) (ss : List ByteArray) : List (List ByteArray) := if isNil v then LL else rowsDropL ar LL ss
/-- What with answers: an error; 0: there are new Rows. -/
def withE (v1 v2 : Value) (a1 a2 : Nat) (L : List (List ByteArray)) : Nat := if isNil v1 || isNil v2 then 1 else if a1 ≠ a2 then 30 else if 65536 < L.length then 4 else 0

section
variable {S S' : Nat → Prop} {w w' : World} {rv iv mv rv1 rv2 iv1 iv2 mv1 mv2 : Value} {ar a1 a2 : Nat} {LL L1 L2 : List (List ByteArray)} {ao : Option Addr} {n cap : Nat} {ss : List ByteArray}
theorem RowOff.p (ho : RowOff (ao, n, cap) (OwnP rv iv)) {b : Nat} (h : rv = .pointer (some ⟨b, 0, none⟩)) : RowOff (ao, n, cap) (Owns b iv) := fun a e ho' => ho a e ⟨b, h, ho'⟩
theorem owns_ownP {b : Nat} : ∀ k, Owns b iv k → OwnP (.pointer (some ⟨b, 0, none⟩)) iv k := fun k h => ⟨b, rfl, h⟩
theorem rowsP_add (h : RowsP S w rv iv ar LL) (hst : Strict cmpRow LL) (hx : RowIn w (ao, n, cap) ss) (ho : RowOff (ao, n, cap) (OwnP rv iv)) (hl : LL.length ≤ 65536) :
    Calls Try.prog 61 #[rv, .slice ao n cap] w (RetF (OwnP rv iv) w fun w' v => v = .tuple #[.bool (addRP rv ar LL ss).1, .int .i64 ((addRP rv ar LL ss).2 : Nat)] ∧
      ∃ S' iv', Grows w S S' ∧ RowsP S' w' rv iv' ar (addLP rv ar LL ss) ∧ ∀ k, OwnP rv iv' k → OwnP rv iv k ∨ w.heap.size ≤ k) := by
  rcases h with ⟨rfl, rfl, rfl, rfl⟩ | ⟨b, rfl, h⟩
  · refine (rowsAdd_nil _ w).mono ?_
    rintro e w' ⟨rfl, rfl⟩
    exact RetF.mk (Kp.refl _) ⟨rfl, S, _, Grows.refl _ _, .inl ⟨rfl, rfl, rfl, rfl⟩, fun k h => .inl h⟩
  · refine (rowsAdd_q h hst hx (ho.p rfl) (by omega)).mono ?_
    rintro e w' ⟨v, rfl, hk, e1, S', iv', h1, h2, h3, h4⟩
    refine RetF.mk (hk.mono fun k _ h => owns_ownP k h) ⟨e1, S', iv', ⟨h1, h2⟩, .inr ⟨b, rfl, h3⟩, ?_⟩
    rintro k ⟨b', e, ho'⟩
    cases e
    rcases ho' with rfl | ho'
    · exact .inl ⟨_, rfl, .inl rfl⟩
    · exact (h4 k ho').imp (fun h => ⟨_, rfl, .inr h⟩) id
theorem rowsP_drop (h : RowsP S w rv iv ar LL) (hst : Strict cmpRow LL) (hx : RowIn w (ao, n, cap) ss) (ho : RowOff (ao, n, cap) (OwnP rv iv)) :
    Calls Try.prog 63 #[rv, .slice ao n cap] w (RetF (OwnP rv iv) w fun w' v => v = .tuple #[.bool (dropRP rv ar LL ss).1, .int .i64 ((dropRP rv ar LL ss).2 : Nat)] ∧
      ∃ iv', RowsP S w' rv iv' ar (dropLP rv ar LL ss) ∧ ∀ k, OwnP rv iv' k → OwnP rv iv k ∨ w.heap.size ≤ k) := by
  rcases h with ⟨rfl, rfl, rfl, rfl⟩ | ⟨b, rfl, h⟩
  · refine (rowsDrop_nil _ w).mono ?_
    rintro e w' ⟨rfl, rfl⟩
    exact RetF.mk (Kp.refl _) ⟨rfl, _, .inl ⟨rfl, rfl, rfl, rfl⟩, fun k h => .inl h⟩
  · refine (rowsDrop_s h hst hx (ho.p rfl)).mono ?_
    rintro e w' ⟨v, rfl, hk, e1, iv', h3, h4⟩
    refine RetF.mk (hk.mono fun k _ h => owns_ownP k h) ⟨e1, iv', .inr ⟨b, rfl, h3⟩, ?_⟩
    rintro k ⟨b', e, ho'⟩
    cases e
    rcases ho' with rfl | ho'
    · exact .inl ⟨_, rfl, .inl rfl⟩
    · rw [h4] at ho'; exact .inl ⟨_, rfl, .inr ho'⟩
theorem rowsP_has (h : RowsP S w rv iv ar LL) (hst : Strict cmpRow LL) (hx : RowIn w (ao, n, cap) ss) (ho : RowOff (ao, n, cap) (OwnP rv iv)) :
    Calls Try.prog 65 #[rv, .slice ao n cap] w (RetF (FP rv) w fun w' v => v = .bool (isIn cmpRow LL ss) ∧ RowsP S w' rv iv ar LL) := by
  rcases h with ⟨rfl, rfl, rfl, rfl⟩ | ⟨b, rfl, h⟩
  · refine (rowsHas_nil _ w).mono ?_
    rintro e w' ⟨rfl, rfl⟩
    exact RetF.mk (Kp.refl _) ⟨rfl, .inl ⟨rfl, rfl, rfl, rfl⟩⟩
  · refine (rowsHas_q h hst hx (ho.p rfl)).mono ?_
    rintro e w' ⟨v, rfl, hk, e1, h1⟩
    exact RetF.mk (hk.mono fun k _ h => fq_fp h) ⟨e1, h1.p⟩
theorem rowsP_below (h : RowsP S w rv iv ar LL) (hst : Strict cmpRow LL) (hx : RowIn w (ao, n, cap) ss) (ho : RowOff (ao, n, cap) (OwnP rv iv)) :
    Calls Try.prog 68 #[rv, .slice ao n cap] w (RetF (FP rv) w fun w' v => v = .int .i64 (below cmpRow LL ss : Nat) ∧ RowsP S w' rv iv ar LL) := by
  rcases h with ⟨rfl, rfl, rfl, rfl⟩ | ⟨b, rfl, h⟩
  · refine (rowsBelow_nil _ w).mono ?_
    rintro e w' ⟨rfl, rfl⟩
    exact RetF.mk (Kp.refl _) ⟨rfl, .inl ⟨rfl, rfl, rfl, rfl⟩⟩
  · refine (rowsBelow_q h hst hx (ho.p rfl)).mono ?_
    rintro e w' ⟨v, rfl, hk, e1, h1⟩
    exact RetF.mk (hk.mono fun k _ h => fq_fp h) ⟨e1, h1.p⟩
/-- New Rows behind a pointer, all of it since w; or an error. -/
def NewP (S : Nat → Prop) (w : World) (ar : Nat) (L : List (List ByteArray)) (err : Nat) (w' : World) (r : Value) : Prop :=
  (err ≠ 0 ∧ r = .pointer none) ∨ (err = 0 ∧ ∃ b iv, r = .pointer (some ⟨b, 0, none⟩) ∧ (∀ k, OwnP r iv k → w.heap.size ≤ k) ∧ RowsP S w' r iv ar L)
theorem NewP.of {b : Nat} (hb : w.heap.size ≤ b) (hi : ∀ k, iv.ownBlock = some k → w.heap.size ≤ k) (h : RowsAt S w' b iv ar LL) : NewP S w ar LL 0 w' (.pointer (some ⟨b, 0, none⟩)) := by
  refine .inr ⟨rfl, b, iv, rfl, ?_, h.p⟩
  rintro k ⟨b', e, ho⟩
  cases e
  rcases ho with rfl | ho
  · exact hb
  · exact hi k ho
theorem rowsP_copy (h : RowsP S w rv iv ar LL) : Calls Try.prog 73 #[rv] w (RetF (FP rv) w fun w' v => RowsP S w' rv iv ar LL ∧ NewP S w ar LL (if isNil rv then 1 else 0) w' v) := by
  rcases h with ⟨rfl, rfl, rfl, rfl⟩ | ⟨b, rfl, h⟩
  · refine (rowsCopy_nil w).mono ?_
    rintro e w' ⟨rfl, rfl⟩
    exact RetF.mk (Kp.refl _) ⟨.inl ⟨rfl, rfl, rfl, rfl⟩, .inl ⟨by simp [isNil], rfl⟩⟩
  · refine (rowsCopy_q h).mono ?_
    rintro e w' ⟨v, rfl, hk, h1, b', iv', rfl, hb, hi, h2⟩
    exact RetF.mk (hk.mono fun k _ h => fq_fp h) ⟨h1.p, NewP.of hb hi h2⟩
theorem rowsP_Union (h1 : RowsP S w rv1 iv1 a1 L1) (h2 : RowsP S w rv2 iv2 a2 L2) (hap : ∀ k, OwnP rv1 iv1 k → ¬ OwnP rv2 iv2 k) (hll : L1.length + L2.length ≤ 1048576 * 1048576) :
    Calls Try.prog 70 #[rv1, rv2] w (RetF (fun k => FP rv1 k ∨ FP rv2 k) w fun w' v => RowsP S w' rv1 iv1 a1 L1 ∧ RowsP S w' rv2 iv2 a2 L2 ∧
      ∃ r, v = .tuple #[r, .int .i64 (withE rv1 rv2 a1 a2 (newS cmpRow (L1 ++ L2)) : Nat)] ∧ NewP S w a1 (newS cmpRow (L1 ++ L2)) (withE rv1 rv2 a1 a2 (newS cmpRow (L1 ++ L2))) w' r) := by
  have hd : ∀ n, Kp (fun k => FP rv1 k ∨ FP rv2 k) w (w.drewN n) := fun n => (Kp.refl w).drewN n
  have hrn : ∀ n, RowsP S (w.drewN n) rv1 iv1 a1 L1 ∧ RowsP S (w.drewN n) rv2 iv2 a2 L2 := fun n => ⟨h1.kp (F := fun _ => False) ((Kp.refl w).drewN n) (fun _ h => h.elim) (fun _ h => h.elim), h2.kp (F := fun _ => False) ((Kp.refl w).drewN n) (fun _ h => h.elim) (fun _ h => h.elim)⟩
  rcases h1 with ⟨rfl, rfl, rfl, rfl⟩ | ⟨b1, rfl, q1⟩
  · refine (rowsUnion_nil1 rv2 w).mono ?_
    rintro e w' ⟨rfl, rfl⟩
    exact RetF.mk (Kp.refl _) ⟨(hrn 0).1, (hrn 0).2, _, rfl, .inl ⟨by simp [withE, isNil], rfl⟩⟩
  · rcases h2 with ⟨rfl, rfl, rfl, rfl⟩ | ⟨b2, rfl, q2⟩
    · refine (rowsUnion_nil2 _ w).mono ?_
      rintro e w' ⟨rfl, rfl⟩
      exact RetF.mk (Kp.refl _) ⟨(hrn 0).1, (hrn 0).2, .pointer none, by simp [withE, isNil], .inl ⟨by simp [withE, isNil], rfl⟩⟩
    · by_cases ha : a1 = a2
      · subst ha
        refine (rowsUnion_q q1 q2 (fun k ho ho' => hap k ⟨b1, rfl, ho⟩ ⟨b2, rfl, ho'⟩) hll).mono ?_
        rintro e w' ⟨v, rfl, hk, hr1, hr2, hq⟩
        unfold RowsWithQ at hq
        have hk' := hk.mono fun _ _ h => h.imp (fq_fp (z := True)) (fq_fp (z := True))
        split at hq
        · rename_i hlt
          have ew : withE (.pointer (some ⟨b1, 0, none⟩)) (.pointer (some ⟨b2, 0, none⟩)) a1 a1 (newS cmpRow (L1 ++ L2)) = 4 := by unfold withE; rw [if_neg (by simp [isNil]), if_neg (by simp), if_pos hlt]
          exact RetF.mk hk' ⟨hr1.p, hr2.p, .pointer none, by rw [hq, ew]; rfl, .inl ⟨by rw [ew]; decide, rfl⟩⟩
        · rename_i hlt
          obtain ⟨b', iv', rfl, hb, hi, hnew⟩ := hq
          have ew : withE (.pointer (some ⟨b1, 0, none⟩)) (.pointer (some ⟨b2, 0, none⟩)) a1 a1 (newS cmpRow (L1 ++ L2)) = 0 := by unfold withE; rw [if_neg (by simp [isNil]), if_neg (by simp), if_neg hlt]
          exact RetF.mk hk' ⟨hr1.p, hr2.p, _, by rw [ew]; rfl, by rw [ew]; exact NewP.of hb hi hnew⟩
      · refine (rowsUnion_arity q1 q2 ha).mono ?_
        rintro e w' ⟨rfl, n, rfl⟩
        have ew : withE (.pointer (some ⟨b1, 0, none⟩)) (.pointer (some ⟨b2, 0, none⟩)) a1 a2 (newS cmpRow (L1 ++ L2)) = 30 := by unfold withE; rw [if_neg (by simp [isNil]), if_pos ha]
        exact RetF.mk (hd n) ⟨(hrn n).1, (hrn n).2, .pointer none, by rw [ew]; rfl, .inl ⟨by rw [ew]; decide, rfl⟩⟩
theorem rowsP_Minus (h1 : RowsP S w rv1 iv1 a1 L1) (h2 : RowsP S w rv2 iv2 a2 L2) (hap : ∀ k, OwnP rv1 iv1 k → ¬ OwnP rv2 iv2 k) (hll : L1.length + L2.length ≤ 1048576 * 1048576) :
    Calls Try.prog 71 #[rv1, rv2] w (RetF (fun k => FP rv1 k ∨ FP rv2 k) w fun w' v => RowsP S w' rv1 iv1 a1 L1 ∧ RowsP S w' rv2 iv2 a2 L2 ∧
      ∃ r, v = .tuple #[r, .int .i64 (withE rv1 rv2 a1 a2 (L1.filter fun x => !isIn cmpRow L2 x) : Nat)] ∧ NewP S w a1 (L1.filter fun x => !isIn cmpRow L2 x) (withE rv1 rv2 a1 a2 (L1.filter fun x => !isIn cmpRow L2 x)) w' r) := by
  have hd : ∀ n, Kp (fun k => FP rv1 k ∨ FP rv2 k) w (w.drewN n) := fun n => (Kp.refl w).drewN n
  have hrn : ∀ n, RowsP S (w.drewN n) rv1 iv1 a1 L1 ∧ RowsP S (w.drewN n) rv2 iv2 a2 L2 := fun n => ⟨h1.kp (F := fun _ => False) ((Kp.refl w).drewN n) (fun _ h => h.elim) (fun _ h => h.elim), h2.kp (F := fun _ => False) ((Kp.refl w).drewN n) (fun _ h => h.elim) (fun _ h => h.elim)⟩
  rcases h1 with ⟨rfl, rfl, rfl, rfl⟩ | ⟨b1, rfl, q1⟩
  · refine (rowsMinus_nil1 rv2 w).mono ?_
    rintro e w' ⟨rfl, rfl⟩
    exact RetF.mk (Kp.refl _) ⟨(hrn 0).1, (hrn 0).2, _, rfl, .inl ⟨by simp [withE, isNil], rfl⟩⟩
  · rcases h2 with ⟨rfl, rfl, rfl, rfl⟩ | ⟨b2, rfl, q2⟩
    · refine (rowsMinus_nil2 _ w).mono ?_
      rintro e w' ⟨rfl, rfl⟩
      exact RetF.mk (Kp.refl _) ⟨(hrn 0).1, (hrn 0).2, .pointer none, by simp [withE, isNil], .inl ⟨by simp [withE, isNil], rfl⟩⟩
    · by_cases ha : a1 = a2
      · subst ha
        refine (rowsMinus_q q1 q2 (fun k ho ho' => hap k ⟨b1, rfl, ho⟩ ⟨b2, rfl, ho'⟩) hll).mono ?_
        rintro e w' ⟨v, rfl, hk, hr1, hr2, hq⟩
        unfold RowsWithQ at hq
        have hk' := hk.mono fun _ _ h => h.imp (fq_fp (z := True)) (fq_fp (z := True))
        split at hq
        · rename_i hlt
          have ew : withE (.pointer (some ⟨b1, 0, none⟩)) (.pointer (some ⟨b2, 0, none⟩)) a1 a1 (L1.filter fun x => !isIn cmpRow L2 x) = 4 := by unfold withE; rw [if_neg (by simp [isNil]), if_neg (by simp), if_pos hlt]
          exact RetF.mk hk' ⟨hr1.p, hr2.p, .pointer none, by rw [hq, ew]; rfl, .inl ⟨by rw [ew]; decide, rfl⟩⟩
        · rename_i hlt
          obtain ⟨b', iv', rfl, hb, hi, hnew⟩ := hq
          have ew : withE (.pointer (some ⟨b1, 0, none⟩)) (.pointer (some ⟨b2, 0, none⟩)) a1 a1 (L1.filter fun x => !isIn cmpRow L2 x) = 0 := by unfold withE; rw [if_neg (by simp [isNil]), if_neg (by simp), if_neg hlt]
          exact RetF.mk hk' ⟨hr1.p, hr2.p, _, by rw [ew]; rfl, by rw [ew]; exact NewP.of hb hi hnew⟩
      · refine (rowsMinus_arity q1 q2 ha).mono ?_
        rintro e w' ⟨rfl, n, rfl⟩
        have ew : withE (.pointer (some ⟨b1, 0, none⟩)) (.pointer (some ⟨b2, 0, none⟩)) a1 a2 (L1.filter fun x => !isIn cmpRow L2 x) = 30 := by unfold withE; rw [if_neg (by simp [isNil]), if_pos ha]
        exact RetF.mk (hd n) ⟨(hrn n).1, (hrn n).2, .pointer none, by rw [ew]; rfl, .inl ⟨by rw [ew]; decide, rfl⟩⟩
theorem rowsP_Meet (h1 : RowsP S w rv1 iv1 a1 L1) (h2 : RowsP S w rv2 iv2 a2 L2) (hap : ∀ k, OwnP rv1 iv1 k → ¬ OwnP rv2 iv2 k) (hll : L1.length + L2.length ≤ 1048576 * 1048576) :
    Calls Try.prog 72 #[rv1, rv2] w (RetF (fun k => FP rv1 k ∨ FP rv2 k) w fun w' v => RowsP S w' rv1 iv1 a1 L1 ∧ RowsP S w' rv2 iv2 a2 L2 ∧
      ∃ r, v = .tuple #[r, .int .i64 (withE rv1 rv2 a1 a2 (L1.filter fun x => isIn cmpRow L2 x) : Nat)] ∧ NewP S w a1 (L1.filter fun x => isIn cmpRow L2 x) (withE rv1 rv2 a1 a2 (L1.filter fun x => isIn cmpRow L2 x)) w' r) := by
  have hd : ∀ n, Kp (fun k => FP rv1 k ∨ FP rv2 k) w (w.drewN n) := fun n => (Kp.refl w).drewN n
  have hrn : ∀ n, RowsP S (w.drewN n) rv1 iv1 a1 L1 ∧ RowsP S (w.drewN n) rv2 iv2 a2 L2 := fun n => ⟨h1.kp (F := fun _ => False) ((Kp.refl w).drewN n) (fun _ h => h.elim) (fun _ h => h.elim), h2.kp (F := fun _ => False) ((Kp.refl w).drewN n) (fun _ h => h.elim) (fun _ h => h.elim)⟩
  rcases h1 with ⟨rfl, rfl, rfl, rfl⟩ | ⟨b1, rfl, q1⟩
  · refine (rowsMeet_nil1 rv2 w).mono ?_
    rintro e w' ⟨rfl, rfl⟩
    exact RetF.mk (Kp.refl _) ⟨(hrn 0).1, (hrn 0).2, _, rfl, .inl ⟨by simp [withE, isNil], rfl⟩⟩
  · rcases h2 with ⟨rfl, rfl, rfl, rfl⟩ | ⟨b2, rfl, q2⟩
    · refine (rowsMeet_nil2 _ w).mono ?_
      rintro e w' ⟨rfl, rfl⟩
      exact RetF.mk (Kp.refl _) ⟨(hrn 0).1, (hrn 0).2, .pointer none, by simp [withE, isNil], .inl ⟨by simp [withE, isNil], rfl⟩⟩
    · by_cases ha : a1 = a2
      · subst ha
        refine (rowsMeet_q q1 q2 (fun k ho ho' => hap k ⟨b1, rfl, ho⟩ ⟨b2, rfl, ho'⟩) hll).mono ?_
        rintro e w' ⟨v, rfl, hk, hr1, hr2, hq⟩
        unfold RowsWithQ at hq
        have hk' := hk.mono fun _ _ h => h.imp (fq_fp (z := True)) (fq_fp (z := True))
        split at hq
        · rename_i hlt
          have ew : withE (.pointer (some ⟨b1, 0, none⟩)) (.pointer (some ⟨b2, 0, none⟩)) a1 a1 (L1.filter fun x => isIn cmpRow L2 x) = 4 := by unfold withE; rw [if_neg (by simp [isNil]), if_neg (by simp), if_pos hlt]
          exact RetF.mk hk' ⟨hr1.p, hr2.p, .pointer none, by rw [hq, ew]; rfl, .inl ⟨by rw [ew]; decide, rfl⟩⟩
        · rename_i hlt
          obtain ⟨b', iv', rfl, hb, hi, hnew⟩ := hq
          have ew : withE (.pointer (some ⟨b1, 0, none⟩)) (.pointer (some ⟨b2, 0, none⟩)) a1 a1 (L1.filter fun x => isIn cmpRow L2 x) = 0 := by unfold withE; rw [if_neg (by simp [isNil]), if_neg (by simp), if_neg hlt]
          exact RetF.mk hk' ⟨hr1.p, hr2.p, _, by rw [ew]; rfl, by rw [ew]; exact NewP.of hb hi hnew⟩
      · refine (rowsMeet_arity q1 q2 ha).mono ?_
        rintro e w' ⟨rfl, n, rfl⟩
        have ew : withE (.pointer (some ⟨b1, 0, none⟩)) (.pointer (some ⟨b2, 0, none⟩)) a1 a2 (L1.filter fun x => isIn cmpRow L2 x) = 30 := by unfold withE; rw [if_neg (by simp [isNil]), if_pos ha]
        exact RetF.mk (hd n) ⟨(hrn n).1, (hrn n).2, .pointer none, by rw [ew]; rfl, .inl ⟨by rw [ew]; decide, rfl⟩⟩

theorem refP_add (h : RefP S w mv ar LL) (hst : Strict cmpRow LL) (hn : n = ss.length) (hx : CellsAt w ao (strs ss)) (hss : ss.length ≤ 8796093021952) (hl : LL.length ≤ 65536) :
    Calls Try.prog 62 #[mv, .slice ao n cap] w (RetF (FP mv) w fun w' v => v = .tuple #[.bool (addRP mv ar LL ss).1, .int .i64 ((addRP mv ar LL ss).2 : Nat)] ∧ ∃ S', Grows w S S' ∧ RefP S' w' mv ar (addLP mv ar LL ss)) := by
  rcases h with ⟨rfl, rfl, rfl⟩ | ⟨c, rfl, h⟩
  · refine (refAdd_nil _ w).mono ?_
    rintro e w' ⟨rfl, rfl⟩
    exact RetF.mk (Kp.refl _) ⟨rfl, S, Grows.refl _ _, .inl ⟨rfl, rfl, rfl⟩⟩
  · refine (refAdd_any h hst hn hx hss (by omega)).mono ?_
    rintro e w' ⟨v, rfl, hk, e1, S', h1, h2⟩
    exact RetF.mk (hk.mono fun k _ h => by subst h; rfl) ⟨e1, S', h1, .inr ⟨c, rfl, h2⟩⟩
theorem refP_drop (h : RefP S w mv ar LL) (hst : Strict cmpRow LL) (hn : n = ss.length) (hx : CellsAt w ao (strs ss)) (hss : ss.length ≤ 8796093021952) :
    Calls Try.prog 64 #[mv, .slice ao n cap] w (RetF (FP mv) w fun w' v => v = .tuple #[.bool (dropRP mv ar LL ss).1, .int .i64 ((dropRP mv ar LL ss).2 : Nat)] ∧ ∃ S', Grows w S S' ∧ RefP S' w' mv ar (dropLP mv ar LL ss)) := by
  rcases h with ⟨rfl, rfl, rfl⟩ | ⟨c, rfl, h⟩
  · refine (refDrop_nil _ w).mono ?_
    rintro e w' ⟨rfl, rfl⟩
    exact RetF.mk (Kp.refl _) ⟨rfl, S, Grows.refl _ _, .inl ⟨rfl, rfl, rfl⟩⟩
  · refine (refDrop_any h hst hn hx hss).mono ?_
    rintro e w' ⟨v, rfl, hk, e1, S', h1, h2⟩
    exact RetF.mk (hk.mono fun k _ h => by subst h; rfl) ⟨e1, S', h1, .inr ⟨c, rfl, h2⟩⟩
theorem refP_below (h : RefP S w mv ar LL) (hn : n = ss.length) (hx : CellsAt w ao (strs ss)) (hss : ss.length ≤ 8796093021952) :
    Calls Try.prog 66 #[mv, .slice ao n cap] w (RetN w fun w' v => v = .int .i64 (below cmpRow LL ss : Nat)) := by
  rcases h with ⟨rfl, rfl, rfl⟩ | ⟨c, rfl, h⟩
  · refine (refRowBelow_nil _ w).mono ?_
    rintro e w' ⟨rfl, rfl⟩
    exact RetN.mk (Kp.refl _) rfl
  · exact refRowBelow_any h hn hx hss
/-- New Rows of the document's behind a pointer; or an error. -/
def NewM (S : Nat → Prop) (w : World) (ar : Nat) (L : List (List ByteArray)) (err : Nat) (w' : World) (r : Value) : Prop :=
  (err ≠ 0 ∧ r = .pointer none) ∨ (err = 0 ∧ ∃ c S', r = .pointer (some ⟨c, 0, none⟩) ∧ w.heap.size ≤ c ∧ Grows w S S' ∧ RefP S' w' r ar L)
theorem NewM.of (h : RefNew S w ar LL w' mv) : NewM S w ar LL 0 w' mv := by
  obtain ⟨c, S', rfl, h1, h2, h3⟩ := h
  exact .inr ⟨rfl, c, S', rfl, h1, h2, .inr ⟨c, rfl, h3⟩⟩
theorem refP_copy (h : RefP S w mv ar LL) : Calls Try.prog 74 #[mv] w (RetN w fun w' v => NewM S w ar LL (if isNil mv then 1 else 0) w' v) := by
  rcases h with ⟨rfl, rfl, rfl⟩ | ⟨c, rfl, h⟩
  · refine (refCopy_nil w).mono ?_
    rintro e w' ⟨rfl, rfl⟩
    exact RetN.mk (Kp.refl _) (.inl ⟨by simp [isNil], rfl⟩)
  · refine (refCopy_any h).mono ?_
    rintro e w' ⟨v, rfl, hk, h1⟩
    exact RetN.mk hk (NewM.of h1)
theorem refP_with {x : Int} {L : List (List ByteArray)} (h1 : RefP S w mv1 a1 L1) (h2 : RefP S w mv2 a2 L2) (hst1 : Strict cmpRow L1) (hst2 : Strict cmpRow L2) (hrs : ∀ ss ∈ L2, ss.length = a2 ∧ textsC ss = true) (h65 : L1.length ≤ 65536)
    (hx : (x = 0 ∧ L = unionR L1 L2) ∨ (x = 1 ∨ x = 2) ∧ L = L1.filter fun y => isIn cmpRow L2 y == (x == 2)) :
    Calls Try.prog 69 #[mv1, mv2, .int .i64 x] w (RetN w fun w' v => ∃ r, v = .tuple #[r, .int .i64 (withE mv1 mv2 a1 a2 L : Nat)] ∧ NewM S w a1 L (withE mv1 mv2 a1 a2 L) w' r) := by
  rcases h1 with ⟨rfl, rfl, rfl⟩ | ⟨c1, rfl, q1⟩
  · refine (refWith_nil1 mv2 x w).mono ?_
    rintro e w' ⟨rfl, rfl⟩
    exact RetN.mk (Kp.refl _) ⟨_, rfl, .inl ⟨by simp [withE, isNil], rfl⟩⟩
  · rcases h2 with ⟨rfl, rfl, rfl⟩ | ⟨c2, rfl, q2⟩
    · refine (refWith_nil2 _ x w).mono ?_
      rintro e w' ⟨rfl, rfl⟩
      exact RetN.mk (Kp.refl _) ⟨.pointer none, by simp [withE, isNil], .inl ⟨by simp [withE, isNil], rfl⟩⟩
    · by_cases ha : a1 = a2
      · subst ha
        rcases hx with ⟨rfl, rfl⟩ | ⟨hx, rfl⟩
        · refine (refUnion_any q1 q2 hst1 hrs h65).mono ?_
          rintro e w' ⟨v, rfl, hk, hq⟩
          unfold RefUnited at hq
          split at hq
          · rename_i hlt
            have ew : withE (.pointer (some ⟨c1, 0, none⟩)) (.pointer (some ⟨c2, 0, none⟩)) a1 a1 (unionR L1 L2) = 4 := by unfold withE; rw [if_neg (by simp [isNil]), if_neg (by simp), if_pos hlt]
            exact RetN.mk hk ⟨.pointer none, by rw [hq, ew]; rfl, .inl ⟨by rw [ew]; decide, rfl⟩⟩
          · rename_i hlt
            obtain ⟨r, rfl, hnew⟩ := hq
            have ew : withE (.pointer (some ⟨c1, 0, none⟩)) (.pointer (some ⟨c2, 0, none⟩)) a1 a1 (unionR L1 L2) = 0 := by unfold withE; rw [if_neg (by simp [isNil]), if_neg (by simp), if_neg hlt]
            exact RetN.mk hk ⟨r, by rw [ew]; rfl, by rw [ew]; exact NewM.of hnew⟩
        · refine (refPick_any x hx q1 q2 hst2).mono ?_
          rintro e w' ⟨v, rfl, hk, r, rfl, hnew⟩
          have ew : withE (.pointer (some ⟨c1, 0, none⟩)) (.pointer (some ⟨c2, 0, none⟩)) a1 a1 (L1.filter fun y => isIn cmpRow L2 y == (x == 2)) = 0 := by
            unfold withE; rw [if_neg (by simp [isNil]), if_neg (by simp), if_neg (by have := List.length_filter_le (fun y => isIn cmpRow L2 y == (x == 2)) L1; omega)]
          exact RetN.mk hk ⟨r, by rw [ew]; rfl, by rw [ew]; exact NewM.of hnew⟩
      · refine (refWith_arity q1 q2 ha x).mono ?_
        rintro e w' ⟨rfl, n, rfl⟩
        have ew : withE (.pointer (some ⟨c1, 0, none⟩)) (.pointer (some ⟨c2, 0, none⟩)) a1 a2 L = 30 := by unfold withE; rw [if_neg (by simp [isNil]), if_pos ha]
        exact RetN.mk ((Kp.refl w).drewN n) ⟨.pointer none, by rw [ew]; rfl, .inl ⟨by rw [ew]; decide, rfl⟩⟩
end
end Go.Proofs.Ytfkhelihepbehaa

/- The bench of TupleRows: one place takes on other Rows. -/
namespace Go.Proofs.Ytfkhelihepbehaa
open Go.RowKit Go.Shelf
set_option linter.unusedVariables false

theorem newS_self {L : List (List ByteArray)} (h : Strict cmpRow L) : newS cmpRow L = L := by
  refine Strict.unique (c := cmpRow) (cmpRow_law id) (Strict.new (c := cmpRow) (cmpRow_law id) L) h fun x => ⟨fun hx => newS_mem hx, fun hx => ?_⟩
  have h1 : isIn cmpRow (newS cmpRow L) x = true := by
    rw [isIn_newS (c := cmpRow) (cmpRow_law id)]
    exact isIn_iff.2 ⟨x, hx, cmpRow_self x⟩
  obtain ⟨y, hy, hz⟩ := isIn_iff.1 h1
  rw [← cmpRow_zero hz]; exact hy
theorem newS_union {L1 : List (List ByteArray)} (h : Strict cmpRow L1) (L2 : List (List ByteArray)) : newS cmpRow (L1 ++ L2) = unionR L1 L2 := by
  unfold newS unionR
  rw [List.foldl_append]
  have e : L1.foldl (addS cmpRow) [] = L1 := newS_self h
  rw [e]

/-- Another one at a place. -/
def Bench3.upd (D : Bench3) (i : Nat) (rv iv mv : Value) (ar : Nat) (LL : List (List ByteArray)) : Bench3 :=
  ⟨fun k => if k = i then rv else D.rv k, fun k => if k = i then iv else D.iv k, fun k => if k = i then mv else D.mv k, fun k => if k = i then ar else D.ar k, fun k => if k = i then LL else D.LL k⟩
/-- All of a bench came since lo. -/
def BenchLo (lo : Nat) (D : Bench3) (bd : Nat) : Prop := lo ≤ bd ∧ ∀ k, k < 3 → (∀ g, OwnP (D.rv k) (D.iv k) g → lo ≤ g) ∧ ∀ g, FP (D.mv k) g → lo ≤ g

section
variable {S S' : Nat → Prop} {w w' W : World} {bd lo : Nat} {D : Bench3} {i : Nat} {rv iv mv : Value} {ar : Nat} {LL : List (List ByteArray)}
theorem BenchAt.turn (h : BenchAt S w bd D) {z : Nat} (hz : ∀ k, k < 3 → (∀ g, OwnP (D.rv k) (D.iv k) g → g < z) ∧ ∀ g, FP (D.mv k) g → g < z) (bw : bd < z) (hi : i < 3) (hk : Kp (fun g => OwnP (D.rv i) (D.iv i) g ∨ FP (D.mv i) g ∨ g = bd) w W)
    (hB : Blk W bd [(D.upd i rv iv mv ar LL).rv 0, (D.upd i rv iv mv ar LL).rv 1, (D.upd i rv iv mv ar LL).rv 2, (D.upd i rv iv mv ar LL).mv 0, (D.upd i rv iv mv ar LL).mv 1, (D.upd i rv iv mv ar LL).mv 2] 57)
    (hS : (∀ k, S k → S' k) ∧ ∀ k, S' k → S k ∨ z ≤ k) (hSW : ∀ k, S' k → k < W.heap.size) (hr : RowsP S' W rv iv ar LL) (hm : RefP S' W mv ar LL) (hro : ∀ g, OwnP rv iv g → OwnP (D.rv i) (D.iv i) g ∨ z ≤ g) (hmo : ∀ g, FP mv g → FP (D.mv i) g ∨ z ≤ g)
    (hrm : ∀ g, FP mv g → ¬ OwnP rv iv g) (hb : isNil rv = isNil mv) (hg : Strict cmpRow LL ∧ (∀ ss ∈ LL, ss.length = ar ∧ textsC ss = true) ∧ LL.length ≤ 65536) : BenchAt S' W bd (D.upd i rv iv mv ar LL) := by
  have ow : ∀ {k g}, k < 3 → OwnP (D.rv k) (D.iv k) g → g < z := fun hk ho => (hz _ hk).1 _ ho
  have mw : ∀ {k g}, k < 3 → FP (D.mv k) g → g < z := fun hk ho => (hz _ hk).2 _ ho
  have hFS : ∀ g, (OwnP (D.rv i) (D.iv i) g ∨ FP (D.mv i) g ∨ g = bd) → ¬ S g := fun g hg => by
    rcases hg with hg | hg | rfl
    · exact (h.rows i hi).notS g hg
    · exact (h.refs i hi).notS g hg
    · exact h.offS
  have rows' : ∀ k, k < 3 → k ≠ i → RowsP S' W (D.rv k) (D.iv k) (D.ar k) (D.LL k) := fun k hk' ne => by
    refine ((h.rows k hk').kp hk (fun g hg ho => ?_) hFS).wide hS.1 hSW fun g ho hs => ?_
    · rcases hg with hg | hg | rfl
      · exact h.apart i k hi hk' (fun e => ne e.symm) g hg ho
      · exact h.mapart i k hi hk' g hg ho
      · exact (h.off k hk').1 ho
    · rcases hS.2 g hs with hs | hs
      · exact (h.rows k hk').notS g ho hs
      · have := ow hk' ho; omega
  have refs' : ∀ k, k < 3 → k ≠ i → RefP S' W (D.mv k) (D.ar k) (D.LL k) := fun k hk' ne => by
    refine ((h.refs k hk').kp hk (fun g hg ho => ?_) hFS).wide hS.1 hSW fun g ho hs => ?_
    · rcases hg with hg | hg | rfl
      · exact h.mapart k i hk' hi g ho hg
      · exact h.mm i k hi hk' (fun e => ne e.symm) g hg ho
      · exact (h.off k hk').2 ho
    · rcases hS.2 g hs with hs | hs
      · exact (h.refs k hk').notS g ho hs
      · have := mw hk' ho; omega
  refine ⟨hB, fun k hk' => ?_, fun k hk' => ?_, fun k hk' => ?_, fun a b ha hb' hab g hg hg' => ?_, fun a b ha hb' g hg hg' => ?_, fun a b ha hb' hab g hg hg' => ?_, fun k hk' => ?_, fun hs => ?_, hSW, fun k hk' => ?_⟩
  · unfold Bench3.upd
    by_cases e : k = i
    · simp only [e, if_true]; exact hr
    · simp only [e, if_false]; exact rows' k hk' e
  · unfold Bench3.upd
    by_cases e : k = i
    · simp only [e, if_true]; exact hm
    · simp only [e, if_false]; exact refs' k hk' e
  · unfold Bench3.upd
    by_cases e : k = i
    · simp only [e, if_true]; exact hb
    · simp only [e, if_false]; exact h.both k hk'
  · unfold Bench3.upd at hg hg'
    by_cases ea : a = i <;> by_cases eb : b = i <;> simp only [ea, eb, if_true, if_false] at hg hg'
    · omega
    · rcases hro g hg with hg | hg
      · exact h.apart i b hi hb' (fun e => eb e.symm) g hg hg'
      · have := ow hb' hg'; omega
    · rcases hro g hg' with hg' | hg'
      · exact h.apart a i ha hi ea g hg hg'
      · have := ow ha hg; omega
    · exact h.apart a b ha hb' hab g hg hg'
  · unfold Bench3.upd at hg hg'
    by_cases ea : a = i <;> by_cases eb : b = i <;> simp only [ea, eb, if_true, if_false] at hg hg'
    · exact hrm g hg hg'
    · rcases hmo g hg with hg | hg
      · exact h.mapart i b hi hb' g hg hg'
      · have := ow hb' hg'; omega
    · rcases hro g hg' with hg' | hg'
      · exact h.mapart a i ha hi g hg hg'
      · have := mw ha hg; omega
    · exact h.mapart a b ha hb' g hg hg'
  · unfold Bench3.upd at hg hg'
    by_cases ea : a = i <;> by_cases eb : b = i <;> simp only [ea, eb, if_true, if_false] at hg hg'
    · omega
    · rcases hmo g hg with hg | hg
      · exact h.mm i b hi hb' (fun e => eb e.symm) g hg hg'
      · have := mw hb' hg'; omega
    · rcases hmo g hg' with hg' | hg'
      · exact h.mm a i ha hi ea g hg hg'
      · have := mw ha hg; omega
    · exact h.mm a b ha hb' hab g hg hg'
  · unfold Bench3.upd
    by_cases e : k = i
    · simp only [e, if_true]
      refine ⟨fun ho => ?_, fun ho => ?_⟩
      · rcases hro _ ho with ho | ho
        · exact (h.off i hi).1 ho
        · omega
      · rcases hmo _ ho with ho | ho
        · exact (h.off i hi).2 ho
        · omega
    · simp only [e, if_false]; exact h.off k hk'
  · rcases hS.2 _ hs with hs | hs
    · exact h.offS hs
    · omega
  · unfold Bench3.upd
    by_cases e : k = i
    · simp only [e, if_true]; exact hg
    · simp only [e, if_false]; exact h.good k hk'
theorem BenchLo.turn (h : BenchLo lo D bd) (hi : i < 3) {z : Nat} (hw : lo ≤ z) (hro : ∀ g, OwnP rv iv g → OwnP (D.rv i) (D.iv i) g ∨ z ≤ g) (hmo : ∀ g, FP mv g → FP (D.mv i) g ∨ z ≤ g) : BenchLo lo (D.upd i rv iv mv ar LL) bd := by
  refine ⟨h.1, fun k hk => ?_⟩
  unfold Bench3.upd
  by_cases e : k = i
  · simp only [e, if_true]
    refine ⟨fun g hg => ?_, fun g hg => ?_⟩
    · rcases hro g hg with hg | hg
      · exact (h.2 i hi).1 g hg
      · omega
    · rcases hmo g hg with hg | hg
      · exact (h.2 i hi).2 g hg
      · omega
  · simp only [e, if_false]; exact h.2 k hk
/-- Nothing moved: the same pointers. -/
theorem upd_same {x y : Value} (hr : rv = D.rv i) (hm : mv = D.mv i) : (D.upd i rv iv mv ar LL).rv = D.rv ∧ (D.upd i rv iv mv ar LL).mv = D.mv := by
  unfold Bench3.upd
  constructor
  · funext k; simp only; split
    · rename_i e; rw [hr, e]
    · rfl
  · funext k; simp only; split
    · rename_i e; rw [hm, e]
    · rfl
theorem good_add {v : Value} {ss : List ByteArray} (h : Strict cmpRow LL ∧ (∀ s ∈ LL, s.length = ar ∧ textsC s = true) ∧ LL.length ≤ 65536) :
    Strict cmpRow (addLP v ar LL ss) ∧ (∀ s ∈ addLP v ar LL ss, s.length = ar ∧ textsC s = true) ∧ (addLP v ar LL ss).length ≤ 65536 := by
  unfold addLP
  split
  · exact h
  · unfold rowsAddL
    split
    · rename_i h0
      have hA : ss.length = ar ∧ textsC ss = true ∧ ¬ (65536 ≤ LL.length ∧ isIn cmpRow LL ss = false) := by
        unfold rowsAddR at h0
        split at h0
        · cases h0
        · split at h0
          · cases h0
          · split at h0
            · cases h0
            · rename_i h1 h2 h3
              exact ⟨by omega, by simpa using h2, h3⟩
      refine ⟨Strict.add (c := cmpRow) (cmpRow_law id) h.1 ss, fun s hs => ?_, ?_⟩
      · unfold addS at hs
        split at hs
        · exact h.2.1 s hs
        · rcases List.mem_append.1 hs with hs | hs
          · exact h.2.1 s (List.mem_of_mem_take hs)
          · rcases List.mem_cons.1 hs with rfl | hs
            · exact ⟨hA.1, hA.2.1⟩
            · exact h.2.1 s (List.mem_of_mem_drop hs)
      · rw [addS_len]
        cases hin : isIn cmpRow LL ss with
        | true => simpa using h.2.2
        | false =>
          have := hA.2.2
          have h4 : ¬ 65536 ≤ LL.length := fun h5 => this ⟨h5, hin⟩
          simp; omega
    · exact h
theorem good_sub {L' : List (List ByteArray)} (h : Strict cmpRow LL ∧ (∀ s ∈ LL, s.length = ar ∧ textsC s = true) ∧ LL.length ≤ 65536) (hs : L'.Sublist LL) :
    Strict cmpRow L' ∧ (∀ s ∈ L', s.length = ar ∧ textsC s = true) ∧ L'.length ≤ 65536 :=
  ⟨h.1.sub hs, fun s hm => h.2.1 s (hs.subset hm), Nat.le_trans hs.length_le h.2.2⟩
theorem dropLP_sub {v : Value} {ss : List ByteArray} : (dropLP v ar LL ss).Sublist LL := by
  unfold dropLP
  split
  · exact List.Sublist.refl _
  · unfold rowsDropL
    split
    · exact List.Sublist.refl _
    · unfold dropS
      split
      · have h1 : (LL.drop (below cmpRow LL ss + 1)).Sublist (LL.drop (below cmpRow LL ss)) := by
          rw [show below cmpRow LL ss + 1 = below cmpRow LL ss + 1 from rfl, ← List.drop_drop]
          exact List.drop_sublist _ _
        have h2 := (List.Sublist.refl (LL.take (below cmpRow LL ss))).append h1
        rwa [List.take_append_drop] at h2
      · exact List.Sublist.refl _
theorem good_union {L1 L2 : List (List ByteArray)} (h1 : Strict cmpRow L1 ∧ (∀ s ∈ L1, s.length = ar ∧ textsC s = true) ∧ L1.length ≤ 65536) (h2 : ∀ s ∈ L2, s.length = ar ∧ textsC s = true) (h : (unionR L1 L2).length ≤ 65536) :
    Strict cmpRow (unionR L1 L2) ∧ (∀ s ∈ unionR L1 L2, s.length = ar ∧ textsC s = true) ∧ (unionR L1 L2).length ≤ 65536 := by
  refine ⟨unionR_strict h1.1 L2, fun s hs => ?_, h⟩
  rw [← newS_union h1.1] at hs
  rcases List.mem_append.1 (newS_mem hs) with h | h
  · exact h1.2.1 s h
  · exact h2 s h
end
end Go.Proofs.Ytfkhelihepbehaa

/- bench.step: what holds between its lines. -/
namespace Go.Proofs.Ytfkhelihepbehaa
open Go.RowKit Go.Shelf
set_option linter.unusedVariables false

/-- A block that is no part of a bench. -/
def OffB (S : Nat → Prop) (D : Bench3) (bd g : Nat) : Prop := ¬ S g ∧ g ≠ bd ∧ ∀ k, k < 3 → ¬ OwnP (D.rv k) (D.iv k) g ∧ ¬ FP (D.mv k) g
/-- The bench; beside it the row that was lent (gi) and the operation's box (ob). -/
structure StB (lo : Nat) (w0 : World) (bd gi ob : Nat) (cg co : List Value) (S : Nat → Prop) (D : Bench3) (W : World) : Prop where
  b : BenchAt S W bd D
  l : BenchLo lo D bd
  kp : Kp (fun g => lo ≤ g) w0 W
  gB : Blk W gi cg 9
  gO : OffB S D bd gi
  gL : lo ≤ gi
  oB : Blk W ob co 73
  oO : OffB S D bd ob
  lw : lo ≤ w0.heap.size

section
variable {lo bd gi ob : Nat} {w0 w W W1 W2 : World} {cg co : List Value} {S S1 S2 S' : Nat → Prop} {D : Bench3} {i : Nat} {rv iv mv : Value} {ar : Nat} {LL : List (List ByteArray)}
theorem RowsP.trim (h : RowsP S w rv iv ar LL) : RowsP (fun k => S k ∧ k < w.heap.size) w rv iv ar LL := by
  rcases h with h | ⟨b, rfl, h⟩
  · exact .inl h
  · have hs := h.inS
    have hn := h.notS
    rcases h with h | ⟨hz, e, el, hB, h1, h2⟩
    · exact .inr ⟨b, rfl, .inl (h.move (F := fun _ => False) (Kp.refl w) (fun _ h => h.elim) (fun _ h => h.elim) (fun k hk => ⟨hk, hs k hk⟩) (fun k hk => hk.2) (fun k ho hk => hn k ho hk.1))⟩
    · exact .inr ⟨b, rfl, .inr ⟨hz, e, el, hB, fun k hk => hk.2, fun hk => h2 hk.1⟩⟩
theorem RefP.trim (h : RefP S w mv ar LL) : RefP (fun k => S k ∧ k < w.heap.size) w mv ar LL := by
  rcases h with h | ⟨c, rfl, h⟩
  · exact .inl h
  · exact .inr ⟨c, rfl, h.wide (fun k hk => ⟨hk, h.inS k hk⟩) (fun hk => h.notS hk.1) fun k hk => hk.2⟩
theorem StB.ext (h : StB lo w0 bd gi ob cg co S D W) (hk : Ext W W1) : StB lo w0 bd gi ob cg co S D W1 :=
  ⟨h.b.ext hk, h.l, h.kp.ext hk, h.gB.ext hk, h.gO, h.gL, h.oB.ext hk, h.oO, h.lw⟩
theorem StB.call (h : StB lo w0 bd gi ob cg co S D W) (hi : i < 3) (hk : Kp (FP (D.rv i)) W W1) (hr : RowsP S W1 (D.rv i) (D.iv i) (D.ar i) (D.LL i)) : StB lo w0 bd gi ob cg co S D W1 :=
  ⟨h.b.call hi hk hr, h.l, h.kp.trans (hk.mono fun g _ hg => (h.l.2 i hi).1 g (FP.own hg)), h.gB.kp hk fun hg => (h.gO.2.2 i hi).1 (FP.own hg), h.gO, h.gL, h.oB.kp hk fun hg => (h.oO.2.2 i hi).1 (FP.own hg), h.oO, h.lw⟩
theorem StB.call2 {j : Nat} (h : StB lo w0 bd gi ob cg co S D W) (hi : i < 3) (hj : j < 3) (hk : Kp (fun k => FP (D.rv i) k ∨ FP (D.rv j) k) W W1) (hr : RowsP S W1 (D.rv i) (D.iv i) (D.ar i) (D.LL i)) (hr2 : RowsP S W1 (D.rv j) (D.iv j) (D.ar j) (D.LL j)) : StB lo w0 bd gi ob cg co S D W1 := by
  refine ⟨h.b.call2 hi hj hk hr hr2, h.l, h.kp.trans (hk.mono fun g _ hg => ?_), h.gB.kp hk fun hg => ?_, h.gO, h.gL, h.oB.kp hk fun hg => ?_, h.oO, h.lw⟩
  · rcases hg with hg | hg
    · exact (h.l.2 i hi).1 g (FP.own hg)
    · exact (h.l.2 j hj).1 g (FP.own hg)
  · rcases hg with hg | hg
    · exact (h.gO.2.2 i hi).1 (FP.own hg)
    · exact (h.gO.2.2 j hj).1 (FP.own hg)
  · rcases hg with hg | hg
    · exact (h.oO.2.2 i hi).1 (FP.own hg)
    · exact (h.oO.2.2 j hj).1 (FP.own hg)
theorem StB.turn {z : Nat} (h : StB lo w0 bd gi ob cg co S D W) (hz : ∀ k, k < 3 → (∀ g, OwnP (D.rv k) (D.iv k) g → g < z) ∧ ∀ g, FP (D.mv k) g → g < z) (bw : bd < z) (gz : gi < z) (oz : ob < z) (lz : lo ≤ z) (hi : i < 3) (hk : Kp (fun g => OwnP (D.rv i) (D.iv i) g ∨ FP (D.mv i) g ∨ g = bd) W W1)
    (hB : Blk W1 bd [(D.upd i rv iv mv ar LL).rv 0, (D.upd i rv iv mv ar LL).rv 1, (D.upd i rv iv mv ar LL).rv 2, (D.upd i rv iv mv ar LL).mv 0, (D.upd i rv iv mv ar LL).mv 1, (D.upd i rv iv mv ar LL).mv 2] 57)
    (hS : (∀ k, S k → S' k) ∧ ∀ k, S' k → S k ∨ z ≤ k) (hSW : ∀ k, S' k → k < W1.heap.size) (hr : RowsP S' W1 rv iv ar LL) (hm : RefP S' W1 mv ar LL) (hro : ∀ g, OwnP rv iv g → OwnP (D.rv i) (D.iv i) g ∨ z ≤ g) (hmo : ∀ g, FP mv g → FP (D.mv i) g ∨ z ≤ g)
    (hrm : ∀ g, FP mv g → ¬ OwnP rv iv g) (hb : isNil rv = isNil mv) (hg : Strict cmpRow LL ∧ (∀ ss ∈ LL, ss.length = ar ∧ textsC ss = true) ∧ LL.length ≤ 65536) : StB lo w0 bd gi ob cg co S' (D.upd i rv iv mv ar LL) W1 := by
  have off : ∀ g, g < z → OffB S D bd g → OffB S' (D.upd i rv iv mv ar LL) bd g := fun g hgz ho => by
    refine ⟨fun hs => ?_, ho.2.1, fun k hk' => ?_⟩
    · rcases hS.2 g hs with hs | hs
      · exact ho.1 hs
      · omega
    · unfold Bench3.upd
      by_cases e : k = i
      · simp only [e, if_true]
        refine ⟨fun h => ?_, fun h => ?_⟩
        · rcases hro g h with h | h
          · exact (ho.2.2 i hi).1 h
          · omega
        · rcases hmo g h with h | h
          · exact (ho.2.2 i hi).2 h
          · omega
      · simp only [e, if_false]; exact ho.2.2 k hk'
  have nF : ∀ g, OffB S D bd g → ¬ (OwnP (D.rv i) (D.iv i) g ∨ FP (D.mv i) g ∨ g = bd) := fun g ho hf => by
    rcases hf with hf | hf | hf
    · exact (ho.2.2 i hi).1 hf
    · exact (ho.2.2 i hi).2 hf
    · exact ho.2.1 hf
  exact ⟨h.b.turn hz bw hi hk hB hS hSW hr hm hro hmo hrm hb hg, h.l.turn hi lz hro hmo, h.kp.trans (hk.mono fun g _ hg => by
    rcases hg with hg | hg | rfl
    · exact (h.l.2 i hi).1 g hg
    · exact (h.l.2 i hi).2 g hg
    · exact h.l.1), h.gB.kp hk (nF _ h.gO), off _ gz h.gO, h.gL, h.oB.kp hk (nF _ h.oO), off _ oz h.oO, h.lw⟩
/-- All of a bench lies below the world's size. -/
theorem StB.below (h : StB lo w0 bd gi ob cg co S D W) : ∀ k, k < 3 → (∀ g, OwnP (D.rv k) (D.iv k) g → g < W.heap.size) ∧ ∀ g, FP (D.mv k) g → g < W.heap.size :=
  fun k hk => ⟨(h.b.rows k hk).ownLt, (h.b.refs k hk).lt⟩
/-- An operation on a place, by the program and by the document. -/
theorem StB.both {iv' : Value} {LL' : List (List ByteArray)} (h : StB lo w0 bd gi ob cg co S D W) (hi : i < 3) (hk1 : Kp (OwnP (D.rv i) (D.iv i)) W W1) (hS1 : Grows W S S1) (hr : RowsP S1 W1 (D.rv i) iv' (D.ar i) LL') (hro : ∀ g, OwnP (D.rv i) iv' g → OwnP (D.rv i) (D.iv i) g ∨ W.heap.size ≤ g)
    (hk2 : Kp (FP (D.mv i)) W1 W2) (hS2 : Grows W1 S S2) (hm : RefP S2 W2 (D.mv i) (D.ar i) LL') (hg : Strict cmpRow LL' ∧ (∀ ss ∈ LL', ss.length = D.ar i ∧ textsC ss = true) ∧ LL'.length ≤ 65536) :
    ∃ S' D', StB lo w0 bd gi ob cg co S' D' W2 := by
  have hz1 := hk1.size
  have hz2 := hk2.size
  have mlt : ∀ g, FP (D.mv i) g → g < W.heap.size := (h.below i hi).2
  have nm : ∀ g, FP (D.mv i) g → ¬ OwnP (D.rv i) iv' g := fun g hg ho => by
    rcases hro g ho with ho | ho
    · exact h.b.mapart i i hi hi g hg ho
    · have := mlt g hg; omega
  have nS1 : ∀ g, FP (D.mv i) g → ¬ S1 g := fun g hg hs => by
    rcases hS1.2 g hs with hs | hs
    · exact (h.b.refs i hi).notS g hg hs
    · have := mlt g hg; omega
  have hs1 := hr.trim
  have ownlt := hs1.ownLt
  have hr2 := hs1.kp hk2 (fun g hg ho => nm g hg ho) fun g hg hs => nS1 g hg hs.1
  have hm2 := hm.trim
  have lo1 := h.lw
  have lo2 := h.kp.size
  obtain ⟨e1, e2⟩ := upd_same (D := D) (i := i) (iv := iv') (ar := D.ar i) (LL := LL') (x := .nilFunc) (y := .nilFunc) (rfl : D.rv i = D.rv i) (rfl : D.mv i = D.mv i)
  refine ⟨fun k => (S1 k ∧ k < W1.heap.size) ∨ (S2 k ∧ k < W2.heap.size), D.upd i (D.rv i) iv' (D.mv i) (D.ar i) LL', h.turn (z := W.heap.size) h.below h.b.blk.lt h.gB.lt h.oB.lt (by omega) hi ((hk1.mono fun g _ hg => .inl hg).trans (hk2.mono fun g _ hg => .inr (.inl hg))) ?_ ⟨fun k hk => .inl ⟨hS1.1 k hk, ?_⟩, fun k hk => ?_⟩ (fun k hk => ?_) (hr2.wide (fun k hk => .inl hk) (fun k hk => ?_) fun g ho hs => ?_) (hm2.wide (fun k hk => .inr hk) (fun k hk => ?_) fun g ho hs => ?_) hro (fun g hg => .inl hg) (fun g hg => nm g hg) (h.b.both i hi) hg⟩
  · rw [e1, e2]
    exact (h.b.blk.kp hk1 fun ho => (h.b.off i hi).1 ho).kp hk2 fun ho => (h.b.off i hi).2 ho
  · have := h.b.inS k hk; omega
  · rcases hk with hk | hk
    · exact hS1.2 k hk.1
    · exact (hS2.2 k hk.1).imp id fun h => by omega
  · rcases hk with hk | hk <;> omega
  · rcases hk with hk | hk <;> omega
  · rcases hs with hs | hs
    · exact hr.notS g ho hs.1
    · rcases hS2.2 g hs.1 with hs' | hs'
      · exact hr.notS g ho (hS1.1 g hs')
      · have := ownlt g ho; omega
  · rcases hk with hk | hk <;> omega
  · rcases hs with hs | hs
    · exact nS1 g ho hs.1
    · exact hm.notS g ho hs.1
/-- New Rows of both go to a place. -/
theorem StB.put {W3 : World} (h0 : StB lo w0 bd gi ob cg co S D W) (h : StB lo w0 bd gi ob cg co S D W2) (hi : i < 3) (hW : W.heap.size ≤ W2.heap.size) (hS : Grows W S S') (hr : RowsP S W2 rv iv ar LL) (hm : RefP S' W2 mv ar LL) (hrn : ∀ g, OwnP rv iv g → W.heap.size ≤ g) (hmn : ∀ g, FP mv g → W.heap.size ≤ g)
    (hrS : ∀ g, OwnP rv iv g → ¬ S' g) (hrm : ∀ g, FP mv g → ¬ OwnP rv iv g) (hb : isNil rv = isNil mv) (hg : Strict cmpRow LL ∧ (∀ ss ∈ LL, ss.length = ar ∧ textsC ss = true) ∧ LL.length ≤ 65536)
    (h3 : W3 = (W2.setCell ⟨bd, i, none⟩ rv).setCell ⟨bd, 3 + i, none⟩ mv ∨ W3 = (W2.setCell ⟨bd, 3 + i, none⟩ mv).setCell ⟨bd, i, none⟩ rv) : ∃ S' D', StB lo w0 bd gi ob cg co S' D' W3 := by
  have hk : Kp (fun g => g = bd) W2 W3 := by
    rcases h3 with rfl | rfl
    · exact Kp.setCell (F := fun g => g = bd) (Kp.setCell (F := fun g => g = bd) (Kp.refl _) (fun _ => rfl) _) (fun _ => rfl) _
    · exact Kp.setCell (F := fun g => g = bd) (Kp.setCell (F := fun g => g = bd) (Kp.refl _) (fun _ => rfl) _) (fun _ => rfl) _
  have hB : Blk W3 bd [(D.upd i rv iv mv ar LL).rv 0, (D.upd i rv iv mv ar LL).rv 1, (D.upd i rv iv mv ar LL).rv 2, (D.upd i rv iv mv ar LL).mv 0, (D.upd i rv iv mv ar LL).mv 1, (D.upd i rv iv mv ar LL).mv 2] 57 := by
    have hb0 := h.b.blk
    rcases h3 with rfl | rfl
    all_goals
      match i, hi with
      | 0, _ => exact (hb0.set _ _).set _ _
      | 1, _ => exact (hb0.set _ _).set _ _
      | 2, _ => exact (hb0.set _ _).set _ _
  have bz := h0.b.blk.lt
  have hlt := hr.ownLt
  have hm2 := hm.trim
  have nbd : ∀ g, g = bd → ¬ S g := fun g e hs => h.b.offS (e ▸ hs)
  have lo1 := h0.lw
  have lo2 := h0.kp.size
  have hz3 := hk.size
  refine ⟨fun k => S' k ∧ k < W2.heap.size, D.upd i rv iv mv ar LL, h.turn (z := W.heap.size) h0.below bz h0.gB.lt h0.oB.lt (by omega) hi (hk.mono fun g _ e => .inr (.inr e)) hB ⟨fun k hk => ⟨hS.1 k hk, h.b.inS k hk⟩, fun k hk => hS.2 k hk.1⟩ (fun k hk => by omega)
    ((hr.kp hk (fun g e ho => by have := hrn g ho; omega) nbd).wide (fun k hk => ⟨hS.1 k hk, h.b.inS k hk⟩) (fun k hk => by omega) fun g ho hs => hrS g ho hs.1) (hm2.kp hk (fun g e ho => by have := hmn g ho; omega) fun g e hs => ?_) (fun g ho => .inr (hrn g ho)) (fun g ho => .inr (hmn g ho)) hrm hb hg⟩
  subst e
  rcases hS.2 _ hs.1 with hs | hs
  · exact nbd _ rfl hs
  · omega
end
end Go.Proofs.Ytfkhelihepbehaa

/- bench.told's loop over Each: what a round does, as a law about worlds. -/
namespace Go.Proofs.Ytfkhelihepbehaa
open Go.RowKit Go.Shelf
set_option linter.unusedVariables false

theorem KeepsOthers.of_own {w w' : World} {e : TypeId} {k n : Nat} {v : Value} {xs : List Value} {M : Nat → Prop} (h : Row w e k v n xs M) (hk : Kp (fun g => v.ownBlock = some g) w w') : KeepsOthers w w' :=
  ⟨hk.size, fun k o hk' ho => (hk.block k (lt_of_block hk') (fun hg => by
    obtain ⟨cs, hb, _⟩ := h.has hg
    unfold Blk at hb
    rw [hb] at hk'; cases hk'; cases ho)).trans hk'⟩
/-- A copy of a row is appended to what is gathered in a box. -/
theorem gotE_app {w0 X : World} {B : Nat} {ao : Option Addr} {n cap : Nat} {LL : List (List ByteArray)} {ax : Option Addr} {cx : Nat} {ss : List ByteArray} (hz : w0.heap.size ≤ X.heap.size) (hBlt : B < w0.heap.size) (hll : LL.length ≤ 1048576 * 1048576)
    (hB : Blk X B [.slice ao n cap] 64) (hr : OwnRows w0.heap.size X (.slice ao n cap) LL) (hx : CellsAt X ax (strs ss)) (hss : ss.length ≤ 8796093021952) :
    ∃ a1 n1 c1 w1, (Builtin.append_ #[22, 22] 22 #[.slice (some ⟨X.heap.size, 0, none⟩) 0 0, .slice ax ss.length cx]).run Try.prog (X.drew.alloc (.cells #[] 9)) = .ok (.slice a1 n1 c1) w1 ∧
    ∃ ao3 n3 cap3 w3, (Builtin.append_ #[64, 64] 64 #[.slice ao n cap, .slice (some ⟨w1.heap.size, 0, none⟩) 1 1]).run Try.prog (w1.alloc (.cells #[.slice a1 n1 c1] 22)) = .ok (.slice ao3 n3 cap3) w3 ∧
      w1.cell? ⟨B, 0, none⟩ = some (.slice ao n cap) ∧ (X.drew.alloc (.cells #[] 9)).cell? ⟨B, 0, none⟩ = some (.slice ao n cap) ∧ (w1.alloc (.cells #[.slice a1 n1 c1] 22)).cell? ⟨B, 0, none⟩ = some (.slice ao n cap) ∧ w3.frozen? ⟨B, 0, none⟩ = false ∧ w3.cell? ⟨B, 0, none⟩ = some (.slice ao n cap) ∧
      KeepsOthers X (w3.setCell ⟨B, 0, none⟩ (.slice ao3 n3 cap3)) ∧ Kp (fun g => g = B ∨ w0.heap.size ≤ g) X (w3.setCell ⟨B, 0, none⟩ (.slice ao3 n3 cap3)) ∧ Blk (w3.setCell ⟨B, 0, none⟩ (.slice ao3 n3 cap3)) B [.slice ao3 n3 cap3] 64 ∧
      OwnRows w0.heap.size (w3.setCell ⟨B, 0, none⟩ (.slice ao3 n3 cap3)) (.slice ao3 n3 cap3) (LL ++ [ss]) := by
  have kd : Ext X (X.drew.alloc (.cells #[] 9)) := (Kp.refl X).drew.alloc _
  have re : Row (X.drew.alloc (.cells #[] 9)) 9 1 (.slice (some ⟨X.heap.size, 0, none⟩) 0 0) 0 [] (New X) := Row.empty X.drew 9 1 (New X) (Nat.le_refl _)
  obtain ⟨v1, w1, hrun1, hr1, hk1, _⟩ := run_app (P := Try.prog) elem_str 22 re (m := ss.length) (c := cx) (by simp [strs]) (hx.ext kd) (strs_one ss) (by omega) (by unfold maxLen; omega)
  obtain ⟨a1, c1, e1, _, _⟩ := hr1.shape
  subst e1
  have ko1 := KeepsOthers.of_own re hk1
  have k1 : Ext X w1 := kd.trans' hk1 fun i hi hg => by cases hg; simp at hi
  have row1 : Row w1 9 1 (.slice a1 ss.length c1) ss.length (strs ss) (New X) := by
    have h : Row w1 9 1 (.slice a1 (0 + ss.length) c1) (0 + ss.length) ([] ++ strs ss) (New X) := Row.mono hr1 fun g hg => by
      rcases hg with hg | hg
      · cases hg; exact Nat.le_refl _
      · exact Nat.le_trans kd.size hg
    simpa using h
  rw [Nat.zero_add] at hrun1
  refine ⟨a1, _, c1, w1, hrun1, ?_⟩
  obtain ⟨ao3, n3, cap3, w3, hrun3, hown3, hk3⟩ : ∃ ao3 n3 cap3 w3, (Builtin.append_ #[64, 64] 64 #[.slice ao n cap, .slice (some ⟨w1.heap.size, 0, none⟩) 1 1]).run Try.prog (w1.alloc (.cells #[.slice a1 ss.length c1] 22)) = .ok (.slice ao3 n3 cap3) w3 ∧
      OwnRows w0.heap.size w3 (.slice ao3 n3 cap3) (LL ++ [ss]) ∧ Kp (fun g => (Value.slice ao n cap).ownBlock = some g) (w1.alloc (.cells #[.slice a1 ss.length c1] 22)) w3 := OwnRows.run (x := (a1, ss.length, c1)) hr k1 hz row1 hss hll
  have k2 : Ext X (w1.alloc (.cells #[.slice a1 ss.length c1] 22)) := k1.alloc _
  have hlt := hr.lt
  have hB1 := hB.ext k1
  have hB2 := hB.ext k2
  have hB3 : Blk w3 B [.slice ao n cap] 64 := hB2.kp hk3 fun h => by have := (hlt _ h).1; omega
  have ko3 : KeepsOthers (w1.alloc (.cells #[.slice a1 ss.length c1] 22)) w3 := by
    obtain ⟨ps, e, h2, _⟩ := hr
    exact KeepsOthers.of_own (h2.ext k2) hk3
  have k3 : Kp (fun g => g = B ∨ w0.heap.size ≤ g) X w3 := (Ext.kp k2).trans (hk3.mono fun g _ hg => .inr (hlt g hg).1)
  refine ⟨ao3, n3, cap3, w3, hrun3, by rw [hB1.cell']; rfl, by rw [(hB.ext kd).cell']; rfl, by rw [hB2.cell']; rfl, hB3.free 0, by rw [hB3.cell']; rfl, ?_, k3.setCell (fun _ => .inl rfl) _, hB3.set 0 _, ?_⟩
  · exact (((((KeepsOthers.of_ext kd).trans ko1).trans (KeepsOthers.alloc _ _)).trans ko3).trans (KeepsOthers.setCell _ _ _))
  · exact hown3.kp (Kp.setCell (F := fun g => g = B) (Kp.refl _) (fun _ => rfl) _) fun g hg e => by omega

/-- One of a row's texts is written over. -/
theorem Row.put {w : World} {x : RowZ} {ss : List ByteArray} {M : Nat → Prop} (h : Row w 9 1 (.slice x.1 x.2.1 x.2.2) ss.length (strs ss) M) (i : Nat) (hi : i < ss.length) (s : ByteArray) :
    ∃ g, x.1 = some ⟨g, 0, none⟩ ∧ M g ∧ (∃ u, w.cell? ⟨g, i, none⟩ = some u) ∧ w.frozen? ⟨g, i, none⟩ = false ∧ Row (w.setCell ⟨g, i, none⟩ (.string s)) 9 1 (.slice x.1 x.2.1 x.2.2) (ss.set i s).length (strs (ss.set i s)) M := by
  obtain ⟨hx, ⟨_, h0⟩ | ⟨g, cap, rest, e, hM, hB, hl, hc, hm⟩⟩ := h
  · omega
  · obtain ⟨x1, x2, x3⟩ := x
    simp only [Value.slice.injEq] at e
    obtain ⟨rfl, rfl, rfl⟩ := e
    have hs : (strs ss ++ rest).set i (.string s) = strs (ss.set i s) ++ rest := by
      rw [List.set_append_left _ _ (by simp [strs]; exact hi)]
      simp [strs, List.map_set]
    refine ⟨g, rfl, hM, ⟨_, hB.cell i (by simp [strs]; omega)⟩, hB.free i, by simp [strs], .inr ⟨g, _, rest, by simp, hM, ?_, by rw [← hs]; simpa using hl, by simpa using hc, hm⟩⟩
    rw [← hs]; exact hB.set i _
theorem pair_or {α : Type} {R : α → α → Prop} {l : List α} (h : l.Pairwise R) {x y : α} (hx : x ∈ l) (hy : y ∈ l) : x = y ∨ R x y ∨ R y x := by
  obtain ⟨i, hi, rfl⟩ := List.mem_iff_getElem.1 hx
  obtain ⟨j, hj, rfl⟩ := List.mem_iff_getElem.1 hy
  have hp := List.pairwise_iff_getElem.1 h
  rcases Nat.lt_trichotomy i j with h | h | h
  · exact .inr (.inl (hp i j hi hj h))
  · subst h; exact .inl rfl
  · exact .inr (.inr (hp j i hj hi h))
theorem pair_at {α : Type} {R : α → α → Prop} {l : List α} (h : l.Pairwise R) {i j : Nat} {x y : α} (hx : l[i]? = some x) (hy : l[j]? = some y) (hij : i < j) : R x y := by
  obtain ⟨hi, rfl⟩ := List.getElem?_eq_some_iff.1 hx
  obtain ⟨hj, rfl⟩ := List.getElem?_eq_some_iff.1 hy
  exact List.pairwise_iff_getElem.1 h i j hi hj hij

theorem prefix_at {α : Type} {l ps : List α} {p : α} (h : l ++ [p] <+: ps) {n : Nat} (hn : n = l.length) : ps[n]? = some p := by
  obtain ⟨t, rfl⟩ := h
  rw [List.append_assoc, List.getElem?_append_right (by omega), hn]
  simp
/-- A row's value. -/
abbrev rowOf (p : RowP) : Value := .slice p.1.1 p.1.2.1 p.1.2.2
/-- Between two rounds: a box with copies of what went by; the rows to come as they were, if those that went by were the first ones. -/
def GotE (z : Nat) (SB : Nat → Prop) (w0 : World) (B : Nat) (ps : List RowP) (pre : List { p : RowP // p ∈ ps }) (W : World) : Prop :=
  pre.length ≤ ps.length ∧ Kp (fun g => z ≤ g ∧ ¬ SB g) w0 W ∧
  (∃ v LL', LL'.length = pre.length ∧ Blk W B [v] 64 ∧ OwnRows w0.heap.size W v LL' ∧ (pre.map Subtype.val <+: ps → LL' = (pre.map Subtype.val).map Prod.snd)) ∧
  (∀ p ∈ ps, ∃ ss, ss.length = p.2.length ∧ Row W 9 1 (rowOf p) ss.length (strs ss) (fun g => z ≤ g ∧ g < B ∧ ¬ SB g)) ∧
  (pre.map Subtype.val <+: ps → ∀ (i : Nat) p, pre.length ≤ i → ps[i]? = some p → Row W 9 1 (rowOf p) p.2.length (strs p.2) (fun g => z ≤ g ∧ g < B ∧ ¬ SB g))
theorem OwnRows.grown' {lo : Nat} {W W' : World} {v : Value} {LL : List (List ByteArray)} {row : Option Nat} (h : OwnRows lo W v LL) (hg : W.grownBy W' row) (hr : ∀ r, row = some r → ∃ o : Obj, W.heap[r]? = some o ∧ o.isCells = false) : OwnRows lo W' v LL := by
  obtain ⟨ps, h1, h2, h3, h4⟩ := h
  exact ⟨ps, h1, h2.grown hg hr, fun p hp => ⟨(h3 p hp).1.grown hg hr, (h3 p hp).2⟩, h4⟩
theorem GotE.own {z : Nat} {SB : Nat → Prop} {w0 : World} {B B' : Nat} {ps : List RowP} (hB : w0.heap.size ≤ B') : OwnFrom B' (GotE z SB w0 B ps) := fun pre W W' row hs hg hr => by
  obtain ⟨h1, h2, ⟨v, LL', h3, h4, h5, h6⟩, h7, h8⟩ := hs
  have hr2 : ∀ r, row = some r → ∃ o : Obj, W.heap[r]? = some o ∧ o.isCells = false := fun r e => (hr r e).2
  refine ⟨h1, h2.grown hg fun k e hk => ?_, ⟨v, LL', h3, h4.grown hg hr2, h5.grown' hg hr2, h6⟩, fun p hp => ?_, fun hp i p hi he => (h8 hp i p hi he).grown hg hr2⟩
  · have := (hr k e).1; omega
  · obtain ⟨ss, q1, q2⟩ := h7 p hp
    exact ⟨ss, q1, q2.grown hg hr2⟩
/-- What is known of the row of a round. -/
theorem GotE.row {z : Nat} {SB : Nat → Prop} {w0 W : World} {B : Nat} {ps : List RowP} {pre : List { p : RowP // p ∈ ps }} (h : GotE z SB w0 B ps pre W) (p : RowP) (hp : p ∈ ps) :
    ∃ ss, ss.length = p.2.length ∧ Row W 9 1 (rowOf p) ss.length (strs ss) (fun g => z ≤ g ∧ g < B ∧ ¬ SB g) ∧ (pre.map Subtype.val ++ [p] <+: ps → ss = p.2) := by
  by_cases hc : pre.map Subtype.val ++ [p] <+: ps
  · have hpre : pre.map Subtype.val <+: ps := (List.prefix_append _ _).trans hc
    have hat : ps[pre.length]? = some p := prefix_at hc (by simp)
    exact ⟨p.2, rfl, h.2.2.2.2 hpre _ p (Nat.le_refl _) hat, fun _ => rfl⟩
  · obtain ⟨ss, h1, h2⟩ := h.2.2.2.1 p hp
    exact ⟨ss, h1, h2, fun h => absurd h hc⟩
theorem GotE.next {z : Nat} {SB : Nat → Prop} {w0 X Xn W : World} {B : Nat} {ps : List RowP} {pre : List { p : RowP // p ∈ ps }} (h : GotE z SB w0 B ps pre X) {p : RowP} (hp : p ∈ ps) (hlen : pre.length < ps.length)
    (hap : ps.Pairwise fun p q => ∀ g, (rowOf p).ownBlock = some g → (rowOf q).ownBlock ≠ some g) (hBw : B < w0.heap.size) (hzB : z ≤ B) (hSB : ∀ k, SB k → k < B) {v' : Value} {LL' : List (List ByteArray)} {ss ss2 : List ByteArray}
    (K1 : Kp (fun g => g = B ∨ w0.heap.size ≤ g) X Xn) (hBn : Blk Xn B [v'] 64) (hown : OwnRows w0.heap.size Xn v' (LL' ++ [ss])) (hLL : LL'.length = pre.length) (hLc : pre.map Subtype.val <+: ps → LL' = (pre.map Subtype.val).map Prod.snd)
    (hsc : pre.map Subtype.val ++ [p] <+: ps → ss = p.2) (K2 : Kp (fun g => (rowOf p).ownBlock = some g) Xn W) (hl2 : ss2.length = p.2.length) (hx2 : Row W 9 1 (rowOf p) ss2.length (strs ss2) (fun g => z ≤ g ∧ g < B ∧ ¬ SB g)) :
    SameOn SB X W ∧ GotE z SB w0 B ps (pre ++ [⟨p, hp⟩]) W := by
  have hxb : ∀ g, (rowOf p).ownBlock = some g → z ≤ g ∧ g < B ∧ ¬ SB g := hx2.block
  have KW : Kp (fun g => z ≤ g ∧ ¬ SB g) X W := (K1.mono fun g _ hg => by
    rcases hg with rfl | hg
    · exact ⟨hzB, fun hs => by have := hSB _ hs; omega⟩
    · exact ⟨by omega, fun hs => by have := hSB _ hs; omega⟩).trans (K2.mono fun g _ hg => ⟨(hxb g hg).1, (hxb g hg).2.2⟩)
  have hzX := h.2.1.size
  have move : ∀ {q : RowP} {xs : List Value} {m : Nat}, q ∈ ps → (∀ g, (rowOf p).ownBlock = some g → (rowOf q).ownBlock ≠ some g) → Row X 9 1 (rowOf q) m xs (fun g => z ≤ g ∧ g < B ∧ ¬ SB g) → Row W 9 1 (rowOf q) m xs (fun g => z ≤ g ∧ g < B ∧ ¬ SB g) := fun hq hne hr =>
    (hr.kp K1 fun g hg hf => by rcases hf with hf | hf <;> omega).kp' K2 fun g hg _ hf => hne g hf hg
  refine ⟨SameOn.of_kp KW (fun k hk => by have := hSB k hk; omega) (fun k hk hf => hf.2 hk), by rw [List.length_append]; simp; omega, h.2.1.trans KW, ⟨v', _, by rw [List.length_append, List.length_append, hLL]; rfl, hBn.kp K2 (fun hg => by have := hxb _ hg; omega), hown.kp K2 (fun g hg hf => by have := hxb _ hf; omega), fun hpre => ?_⟩, fun q hq => ?_, fun hpre i q hi he => ?_⟩
  · rw [List.map_append, List.map_singleton] at hpre ⊢
    rw [List.map_append, hLc ((List.prefix_append _ _).trans hpre), hsc hpre]; rfl
  · by_cases e : q = p
    · subst e; exact ⟨ss2, hl2, hx2⟩
    · obtain ⟨sq, q1, q2⟩ := h.2.2.2.1 q hq
      refine ⟨sq, q1, move hq (fun g hg hg' => ?_) q2⟩
      rcases pair_or hap hq hp with h | h | h
      · exact e h
      · exact h g hg' hg
      · exact h g hg hg'
  · rw [List.map_append, List.map_singleton] at hpre
    rw [List.length_append, List.length_singleton] at hi
    have hat : ps[pre.length]? = some p := prefix_at hpre (by simp)
    exact move (List.mem_of_getElem? he) (pair_at hap hat he (by omega)) (h.2.2.2.2 ((List.prefix_append _ _).trans hpre) i q (by omega) he)
/-- A row of a round, written over so far. -/
def SpoilX (w0 : World) (p : RowP) (m : Nat) (M : Nat → Prop) (kv : Value) (W : World) : Prop :=
  ∃ i : Nat, i ≤ m ∧ kv = .int .i64 i ∧ Kp (fun g => (rowOf p).ownBlock = some g) w0 W ∧ ∃ ss, ss.length = m ∧ Row W 9 1 (rowOf p) ss.length (strs ss) M

/-- The loop that breaks: ahead of its first row; left. -/
def FirstE {α : Type} (w0 : World) (pre : List α) (W : World) : Prop := pre = [] ∧ Ext w0 W
def LeftE {α : Type} (w0 : World) (x : Nat) (c : Code) (pre : List α) (W : World) : Prop := c = .exit x ∧ Ext w0 W
theorem Ext.grown' {w0 W W' : World} {row : Option Nat} {B : Nat} (h : Ext w0 W) (hB : w0.heap.size ≤ B) (hg : W.grownBy W' row) (hr : ∀ r, row = some r → B ≤ r ∧ ∃ o : Obj, W.heap[r]? = some o ∧ o.isCells = false) : Ext w0 W' :=
  Kp.grown h hg fun k e hk => by have := (hr k e).1; omega
theorem FirstE.own {α : Type} {w0 : World} {B : Nat} (hB : w0.heap.size ≤ B) : OwnFrom B (FirstE (α := α) w0) := fun pre W W' row hs hg hr => ⟨hs.1, Ext.grown' hs.2 hB hg hr⟩
theorem LeftE.own {α : Type} {w0 : World} {x : Nat} {c : Code} {B : Nat} (hB : w0.heap.size ≤ B) : OwnFrom B (LeftE (α := α) w0 x c) := fun pre W W' row hs hg hr => ⟨hs.1, Ext.grown' hs.2 hB hg hr⟩
section
variable {S : Nat → Prop} {w0 w W W' : World} {bd : Nat} {D : Bench3} {z : Nat} {aow : Option Addr} {L : List (List ByteArray)}
theorem TB.push0 (h : TB S w0 bd D z aow L [] W) (hk : Kp (fun g => z ≤ g) W W') {d : Nat} (hD : W.heap.size ≤ d) (hd : W'.heap[d]? = some (.deferred (some []))) : TB S w0 bd D z aow L [{ target := .collected d, args := #[] }] W' :=
  ⟨h.b0, h.b0.later h.b h.lo hk, h.kp.trans' hk fun i hi hg => by have := h.lo; omega, h.lo, Nat.le_trans h.zW hk.size, h.want.kp hk fun k hk hs => by omega, ⟨[d], rfl, by simp, fun D hD' => by
    have e : D = d := by simpa using hD'
    subst e; exact ⟨Nat.le_trans h.zW hD, hd⟩⟩⟩
theorem CellsAt.sameOn {SB : Nat → Prop} {ao : Option Addr} {vs : List Value} (h : CellsAt W ao vs) (hs : SameOn SB W W') (ha : ∀ a, ao = some a → SB a.block) : CellsAt W' ao vs := fun i u hu => by
  obtain ⟨b, o, e, c⟩ := h i u hu
  exact ⟨b, o, e, (hs.cell (ha _ e)).trans c⟩
theorem SameOn.of_ext {SB : Nat → Prop} (hk : Ext W W') (hS : ∀ k, SB k → k < W.heap.size) : SameOn SB W W' := ⟨hk.size, fun k hk' => hk.block k (hS k hk') id⟩
theorem benchTold_ret {W : World} {tmps : Array Value} {ds : List Deferred} (h : TB S w bd D z aow L ds W) (ht : tmps.getD 4 undef = .bool true) :
    bodyPostM Fence.wide 4 Try.prog Try.f25 (RetF (BenchF D) w fun w' v => v = .bool true ∧ BenchAt S w' bd D) .ret { tmps := tmps, defers := ds } W := by
  refine leaves_marks h.marks fun w' e1 e2 e3 e4 e5 e6 => ?_
  have kx : Kp (fun k => z ≤ k) W w' := ⟨e1, e2, e3, by omega, fun k hk hf => e5 k (by omega)⟩
  refine ⟨.bool true, ?_, RetF.mk (h.kp.trans' kx fun i hi hg => by have := h.lo; omega) ⟨rfl, h.b0.later h.b h.lo kx⟩⟩
  have ht' : tmps[4]?.getD undef = .bool true := by simpa using ht
  simp [results, Try.f25, go_sem, ht']
end
end Go.Proofs.Ytfkhelihepbehaa
