/- Proved here: the statement CostGathersUptoSaid: the law returns true for every input of the bound that the row names and leaves its arguments as they were. No condition of its own. -/
import Derived.Test.YtomeebimmmfmbaaGreatGa7
import Derived.StillTailTactics
import Derived.Deep.CondSized
/- The document's Base: put: a relation that isn't there, at its place. -/
namespace Go.Proofs.YtomeebimmmfmbaaGreat
open Go.RowKit
set_option linter.unusedVariables false

theorem elem_ptrR : ElemT Tryz.prog 145 150 1 8 (.pointer none) := ⟨by kernel_rfl, by kernel_rfl, rfl, by decide⟩
theorem ptrs_one (G : List REnt) : ∀ u ∈ G.map REnt.ptr, u.oneCell' = true := fun u hu => by
  obtain ⟨g, _, rfl⟩ := List.mem_map.1 hu
  rfl
section
variable {S : Nat → Prop} {w w' : World} {cb : Nat} {G : List REnt}
theorem RefB.place (hst : Strict cmpN (G.map REnt.name)) {s : ByteArray} {i : Nat} (hi : i ≤ G.length) (h1 : ∀ (j : Nat) (g : REnt), j < i → G[j]? = some g → Op.bytesLess g.name.toList s.toList = true)
    (h2 : ∀ g, G[i]? = some g → Op.bytesLess g.name.toList s.toList = false) : i = below cmpN (G.map REnt.name) s := by
  refine hst.place cmpN_ord (by simpa using hi) (fun y h0 hy => ?_) fun y hy => ?_
  · rw [List.getElem?_map] at hy
    obtain ⟨g, hg, rfl⟩ := Option.map_eq_some_iff.1 hy
    exact cmpB_neg.2 (h1 (i - 1) g (by omega) hg)
  · rw [List.getElem?_map] at hy
    obtain ⟨g, hg, rfl⟩ := Option.map_eq_some_iff.1 hy
    have := h2 g hg
    have h3 : ¬ cmpB g.name.toList s.toList < 0 := fun h => by rw [cmpB_neg.1 h] at this; cases this
    show 0 ≤ cmpB g.name.toList s.toList
    omega
/-- What put leaves. -/
theorem RefB.put (h : RefB S w cb G) {g : REnt} {i : Nat} (hi : i = below cmpN (G.map REnt.name) g.name) (hr : RefRows S w g.c g.ar g.LL) (hoff : ∀ x ∈ G, x.c ≠ g.c) (hgb : g.c ≠ cb) (hl : G.length < 4194304)
    (hk : Ext w w') {v1 v2 : Value} (h1 : Row w' 9 1 v1 (i + 1 + (G.length - i)) (((strs (G.map REnt.name)).take i ++ [.string g.name]) ++ (strs (G.map REnt.name)).drop i) (New w)) (h2 : Row w' 150 1 v2 (i + 1 + (G.length - i)) (((G.map REnt.ptr).take i ++ [g.ptr]) ++ (G.map REnt.ptr).drop i) (New w)) :
    ∃ S', Grows w S S' ∧ RefB S' ((w'.setCell ⟨cb, 0, none⟩ v1).setCell ⟨cb, 1, none⟩ v2) cb (insN REnt.name G g) := by
  have hil : i ≤ G.length := by have := below_le (c := cmpN) (G.map REnt.name) g.name; rw [List.length_map] at this; omega
  have hlen : (insN REnt.name G g).length = G.length + 1 := by rw [(insN_perm REnt.name G g).length_eq]; simp
  have e1 : ((strs (G.map REnt.name)).take i ++ [Value.string g.name]) ++ (strs (G.map REnt.name)).drop i = strs ((insN REnt.name G g).map REnt.name) := by
    unfold insN strs
    rw [← hi]
    simp [List.map_take, List.map_drop]
  have e2 : ((G.map REnt.ptr).take i ++ [g.ptr]) ++ (G.map REnt.ptr).drop i = (insN REnt.name G g).map REnt.ptr := by
    unfold insN
    rw [← hi]
    simp [List.map_take, List.map_drop]
  have en : i + 1 + (G.length - i) = (insN REnt.name G g).length := by rw [hlen]; omega
  rw [e1, en] at h1
  rw [e2, en] at h2
  have hcb : cb < w.heap.size := by obtain ⟨na, nc, aa, ac, hB, _⟩ := h.blk; exact hB.lt
  obtain ⟨na, nc, rfl, c1, f1, b1⟩ := h1.form
  obtain ⟨aa, ac, rfl, c2, f2, b2⟩ := h2.form
  obtain ⟨na0, nc0, aa0, ac0, hB, _⟩ := h.blk
  have hk2 : Kp (fun k => k = cb) w ((w'.setCell ⟨cb, 0, none⟩ (.slice na (insN REnt.name G g).length nc)).setCell ⟨cb, 1, none⟩ (.slice aa (insN REnt.name G g).length ac)) := by
    refine ((Ext.kp hk).setCell (F := fun k => k = cb) (p := ⟨cb, 0, none⟩) (fun _ => rfl) _).setCell (p := ⟨cb, 1, none⟩) (fun _ => rfl) _
  have hk3 : Kp (fun k => k = cb) w' ((w'.setCell ⟨cb, 0, none⟩ (.slice na (insN REnt.name G g).length nc)).setCell ⟨cb, 1, none⟩ (.slice aa (insN REnt.name G g).length ac)) := by
    refine ((Kp.refl w').setCell (F := fun k => k = cb) (p := ⟨cb, 0, none⟩) (fun _ => rfl) _).setCell (p := ⟨cb, 1, none⟩) (fun _ => rfl) _
  have hB' := ((hB.ext hk).set 0 (.slice na (insN REnt.name G g).length nc)).set 1 (.slice aa (insN REnt.name G g).length ac)
  have hz2 := hk2.size
  have hz3 := hk3.size
  generalize hW : (w'.setCell ⟨cb, 0, none⟩ (.slice na (insN REnt.name G g).length nc)).setCell ⟨cb, 1, none⟩ (.slice aa (insN REnt.name G g).length ac) = W at *
  have hSn : ∀ k, k = cb → ¬ S k := fun k e => by subst e; exact h.notS
  refine ⟨fun k => S k ∨ (w.heap.size ≤ k ∧ k < W.heap.size), ⟨fun k h => .inl h, fun k h => h.imp id fun h => h.1⟩, ?_⟩
  have hmem : ∀ x, x ∈ insN REnt.name G g ↔ x = g ∨ x ∈ G := fun x => by
    rw [(insN_perm REnt.name G g).mem_iff]; simp [or_comm]
  have hlt : ∀ x, x ∈ insN REnt.name G g → x.c < w.heap.size ∧ ¬ S x.c ∧ x.c ≠ cb ∧ RefRows S w x.c x.ar x.LL := fun x hx => by
    rcases (hmem x).1 hx with rfl | hx
    · exact ⟨hr.lt, hr.notS, hgb, hr⟩
    · exact ⟨(h.rows x hx).lt, (h.rows x hx).notS, h.off x hx, h.rows x hx⟩
  refine ⟨⟨na, nc, aa, ac, by simpa using hB', c1.kp hk3 (fun a e f => ?_), c2.kp hk3 (fun a e f => ?_), fun a e => .inr ⟨(b1 a e).1, Nat.lt_of_lt_of_le (b1 a e).2 hz3⟩, fun a e => .inr ⟨(b2 a e).1, Nat.lt_of_lt_of_le (b2 a e).2 hz3⟩, f1, f2⟩,
    fun x hx => ?_, ?_, ?_, fun x hx => (hlt x hx).2.2.1, fun k hk' => ?_, by rw [hlen]; omega⟩
  · have h9 : w.heap.size ≤ a.block := (b1 a e).1
    have f9 : a.block = cb := f
    omega
  · have h9 : w.heap.size ≤ a.block := (b2 a e).1
    have f9 : a.block = cb := f
    omega
  · obtain ⟨p1, p2, p3, p4⟩ := hlt x hx
    refine ((p4.kp hk2 p3 fun k e => hSn k e)).wide (fun k h => .inl h) (fun h => ?_) fun k h => ?_
    · rcases h with h | h
      · exact p2 h
      · omega
    · rcases h with h | h
      · have := p4.inS k h; omega
      · exact h.2
  · refine (List.Perm.pairwise_iff (fun {a b} h => Ne.symm h) (insN_perm REnt.name G g)).2 ?_
    refine List.pairwise_append.2 ⟨h.apart, List.pairwise_singleton _ _, fun a ha b hb => ?_⟩
    rw [List.mem_singleton] at hb
    subst hb
    exact hoff a ha
  · intro hc
    rcases hc with hc | hc
    · exact h.notS hc
    · omega
  · rcases hk' with hk' | hk'
    · have := h.inS k hk'; omega
    · exact hk'.2
set_option maxRecDepth 100000 in
set_option maxHeartbeats 4000000 in
theorem refBPut_any (h : RefB S w cb G) (hst : Strict cmpN (G.map REnt.name)) (g : REnt) (hr : RefRows S w g.c g.ar g.LL) (hoff : ∀ x ∈ G, x.c ≠ g.c) (hgb : g.c ≠ cb) (hl : G.length < 4194304) :
    Calls Tryz.prog 97 #[.pointer (some ⟨cb, 0, none⟩), .string g.name, g.ptr] w (RetF (fun k => k = cb) w fun w' v => ∃ S', Grows w S S' ∧ RefB S' w' cb (insN REnt.name G g)) := by
  have H := Lib.hid (And.intro h (And.intro hst (And.intro hr (And.intro hoff (And.intro hgb hl)))))
  obtain ⟨na, nc, aa, ac, hB, hN, hA, _, _, ⟨n1, n2, n3⟩, a1, a2, a3⟩ := h.blk
  obtain ⟨n, en⟩ : ∃ n, G.length = n := ⟨_, rfl⟩
  rw [en] at hB n1 a1 hl
  obtain ⟨s, es⟩ : ∃ s, g.name = s := ⟨_, rfl⟩
  obtain ⟨c, ec⟩ : ∃ c, g.c = c := ⟨_, rfl⟩
  have ept : g.ptr = .pointer (some ⟨c, 0, none⟩) := by rw [← ec]; rfl
  have c0 : w.cell? ⟨cb, 0, none⟩ = some (.slice na n nc) := by rw [hB.cell']; rfl
  have c1 : w.cell? ⟨cb, 1, none⟩ = some (.slice aa n ac) := by rw [hB.cell']; rfl
  have HCell := Lib.hid (fun w' (hw : Ext w w') => (⟨hw.cell c0 id, hw.cell c1 id⟩ : w'.cell? ⟨cb, 0, none⟩ = some (.slice na n nc) ∧ w'.cell? ⟨cb, 1, none⟩ = some (.slice aa n ac)))
  have HG := Lib.hid (And.intro en (And.intro hN (And.intro hA hB)))
  have HE := Lib.hid (And.intro es (And.intro ec ept))
  rw [es, ept]
  have N3 := Lib.hid n3
  have A3 := Lib.hid a3
  unfold maxLen at n2 a2
  clear h hst hr hoff hgb hB hN hA en es ec ept n3 a3
  go_enter Tryz.func97, Tryz.ntmps97
  go_wp2
  go_loopw [8] (fun kv wr => ∃ i : Nat, i ≤ n ∧ kv = .int .i64 i ∧ Hid (Ext w wr) ∧ Hid (∀ (j : Nat) (x : REnt), j < i → G[j]? = some x → Op.bytesLess x.name.toList s.toList = true)) (fun k _ => n - (intOf k).toNat)
  case atStart => exact ⟨0, Nat.zero_le _, rfl, Lib.hid (Kp.refl _), Lib.hid fun j g hj => by omega⟩
  case round =>
    obtain ⟨i, hi, rfl, hex, hin⟩ := hrel
    clear c0 c1
    obtain ⟨c0, c1⟩ := HCell.out wr hex.out
    by_cases hgo : ∃ x, G[i]? = some x ∧ Op.bytesLess x.name.toList s.toList = true
    · obtain ⟨x, hx, q1⟩ := hgo
      have hlt : i < n := by rw [← HG.out.1]; exact (List.getElem?_eq_some_iff.1 hx).1
      obtain ⟨nb, no, rfl, d0⟩ := HG.out.2.1 i (.string x.name) (by simp [strs, hx])
      replace d0 := hex.out.cell d0 id
      have HX := Lib.hid (And.intro hx q1)
      generalize x.name = xn at d0 q1
      clear hx
      go_wp2
      go_roundw
      case rel => exact ⟨i + 1, by omega, by first | rfl | (congr 1; done) | (congr 1; omega), hex, Lib.hid fun j y hj hy => by
          by_cases hji : j < i
          · exact hin.out j y hji hy
          · obtain rfl : j = i := by omega
            rw [HX.out.1] at hy
            cases hy
            exact HX.out.2⟩
      case measure => simp [intOf]; omega
    · have hbel : i = below cmpN (G.map REnt.name) s := RefB.place H.out.2.1 (by rw [HG.out.1]; exact hi) hin.out fun x hx => by
        cases hb : Op.bytesLess x.name.toList s.toList with
        | false => rfl
        | true => exact absurd ⟨x, hx, hb⟩ hgo
      have HBel := Lib.hid hbel
      clear hbel
      have hway : (∃ (b : Bool) (x : ByteArray), b = true ∧ i < n ∧ (∃ nb no, na = some ⟨nb, no, none⟩ ∧ wr.cell? ⟨nb, no + i, none⟩ = some (.string x)) ∧ Op.bytesLess x.toList s.toList = false) ∨ i = n := by
        by_cases hlt : i < n
        · obtain ⟨x, hx⟩ : ∃ x, G[i]? = some x := ⟨_, List.getElem?_eq_getElem (by rw [HG.out.1]; exact hlt)⟩
          obtain ⟨nb, no, e, d0⟩ := HG.out.2.1 i (.string x.name) (by simp [strs, hx])
          refine .inl ⟨true, x.name, rfl, hlt, ⟨nb, no, e, hex.out.cell d0 id⟩, ?_⟩
          cases hb : Op.bytesLess x.name.toList s.toList with
          | false => rfl
          | true => exact absurd ⟨x, hx, hb⟩ hgo
        · exact .inr (by omega)
      clear hgo hin
      have HH := Lib.hid (show (strs (G.map REnt.name)).length = n ∧ (G.map REnt.ptr).length = n from ⟨by rw [strs_len, List.length_map, HG.out.1], by rw [List.length_map, HG.out.1]⟩)
      have hp0 : (i : Int) ≤ (n : Int) := by omega
      have hp1 : (i : Int) ≤ (nc : Int) := by omega
      have hp2 : (i : Int) ≤ (ac : Int) := by omega
      have hne := Lib.hid (show 9 ≠ 150 by decide)
      have HEX := Lib.hid hex.out
      rcases hway with ⟨b0, x, _, hlt, ⟨nb, no, e, d0⟩, q1⟩ | hin'
      · subst e
        have hcn : ¬ nc = i := by omega
        have hca : ¬ ac = i := by omega
        rcases N3.out with ⟨e, _⟩ | ⟨gn, e⟩
        · cases e
        · cases e
          rcases A3.out with ⟨e, e0⟩ | ⟨ga, e⟩
          · omega
          · subst e
            rw [Nat.zero_add] at d0
            go_wp2_with (first | (at_builtin; refine Halted.out ?_))
            refine Halted.mk (wp_appN elem_str rfl _ _ rfl HEX.out rfl (Row.nil wr 9 1 (New w)) rfl ((HG.out.2.1.ext HEX.out).take' i) (by rw [List.length_take, HH.out.1]; omega) (fun u hu => strs_one _ u (List.mem_of_mem_take hu)) (by omega) (by unfold maxLen; omega) ?_)
            intro v1 w3 hr1 hk3 _ _
            obtain ⟨c0, c1⟩ := HCell.out w3 hk3
            have HR1 := Lib.hid hr1
            clear hr1
            go_wp2_with (first | (at_builtin; refine Halted.out ?_))
            refine Halted.mk (wp_appN elem_str rfl _ _ rfl (hk3.alloc (.cells #[.string s] 9)) rfl (HR1.out.alloc _) rfl (CellsAt.one w3 (.string s) 9) rfl (by simp; rfl) (by omega) (by unfold maxLen; omega) ?_)
            intro v2 w4 hr2 hk4 _ _
            obtain ⟨c0, c1⟩ := HCell.out w4 hk4
            have HR2 := Lib.hid hr2
            clear hr2
            go_wp2_with (first | (at_builtin; refine Halted.out ?_))
            refine Halted.mk (wp_appN elem_str rfl _ _ rfl hk4 rfl HR2.out rfl (news := (strs (G.map REnt.name)).drop i) (by
              first
                | (have := (HG.out.2.1.ext hk4).sub' i; rwa [Nat.zero_add] at this)
                | (rw [List.drop_of_length_le (by rw [HH.out.1]; omega)]; exact CellsAt.nil _ _)) (by rw [List.length_drop, HH.out.1]; omega) (fun u hu => strs_one _ u (List.mem_of_mem_drop hu)) (by omega) (by unfold maxLen; omega) ?_)
            intro v3 w5 hr3 hk5 _ _
            obtain ⟨c0, c1⟩ := HCell.out w5 hk5
            have HR3 := Lib.hid hr3
            clear hr3
            go_wp2_with (first | (at_builtin; refine Halted.out ?_))
            refine Halted.mk (wp_appN elem_ptrR rfl _ _ rfl hk5 rfl (Row.nil w5 150 1 (New w)) rfl ((HG.out.2.2.1.ext hk5).take' i) (by rw [List.length_take, HH.out.2]; omega) (fun u hu => ptrs_one _ u (List.mem_of_mem_take hu)) (by omega) (by unfold maxLen; omega) ?_)
            intro u1 w6 hq1 hk6 hk6' _
            obtain ⟨c0, c1⟩ := HCell.out w6 hk6
            have HQ1 := Lib.hid (And.intro hq1 hk6')
            clear hq1 hk6'
            go_wp2_with (first | (at_builtin; refine Halted.out ?_))
            refine Halted.mk (wp_appN elem_ptrR rfl _ _ rfl (hk6.alloc (.cells #[.pointer (some ⟨c, 0, none⟩)] 150)) rfl (HQ1.out.1.alloc _) rfl (CellsAt.one w6 (.pointer (some ⟨c, 0, none⟩)) 150) rfl (by simp; rfl) (by omega) (by unfold maxLen; omega) ?_)
            intro u2 w7 hq2 hk7 hk7' _
            obtain ⟨c0, c1⟩ := HCell.out w7 hk7
            have HQ2 := Lib.hid (And.intro hq2 hk7')
            clear hq2 hk7'
            go_wp2_with (first | (at_builtin; refine Halted.out ?_))
            refine Halted.mk (wp_appN elem_ptrR rfl _ _ rfl hk7 rfl HQ2.out.1 rfl (news := (G.map REnt.ptr).drop i) (by
              first
                | (have := (HG.out.2.2.1.ext hk7).sub' i; rwa [Nat.zero_add] at this)
                | (rw [List.drop_of_length_le (by rw [HH.out.2]; omega)]; exact CellsAt.nil _ _)) (by rw [List.length_drop, HH.out.2]; omega) (fun u hu => ptrs_one _ u (List.mem_of_mem_drop hu)) (by omega) (by unfold maxLen; omega) ?_)
            intro u3 w8 hq3 hk8 hk8' _
            have HQ3 := Lib.hid (And.intro hq3 hk8')
            clear hq3 hk8'
            obtain ⟨a1', n1', p1', e1, _⟩ : ∃ ao n cap, v3 = .slice ao n cap ∧ True := by obtain ⟨ao, cap, e, _⟩ := HR3.out.shape; exact ⟨_, _, _, e, trivial⟩
            obtain ⟨a2', n2', p2', e2, _⟩ : ∃ ao n cap, u3 = .slice ao n cap ∧ True := by obtain ⟨ao, cap, e, _⟩ := HQ3.out.1.shape; exact ⟨_, _, _, e, trivial⟩
            subst e1 e2
            have f0 := (HG.out.2.2.2.ext hk8).free 0
            have f1 := (HG.out.2.2.2.ext hk8).free 1
            obtain ⟨c0, c1⟩ := HCell.out w8 hk8
            have HK8 := Lib.hid hk8
            clear hk3 hk4 hk5 hk6 hk7 hk8
            go_wp2
            go_end0
            have r1 := HR3.out.kp' HQ1.out.2 fun g hg _ hf => by cases hf
            have r2 := r1.alloc (.cells #[.pointer (some ⟨c, 0, none⟩)] 150)
            have r3 := r2.kp' HQ2.out.2 fun g hg _ hf => r2.sort_ne (HQ1.out.1.alloc (.cells #[.pointer (some ⟨c, 0, none⟩)] 150)) hne.out hg hf
            have r4 := r3.kp' HQ3.out.2 fun g hg _ hf => r3.sort_ne HQ2.out.1 hne.out hg hf
            obtain ⟨h1, h2, h3, h4, h5, h6⟩ := H.out
            refine RetF.mk ((Ext.kp HK8.out).setCell (F := fun k => k = cb) (p := ⟨cb, 0, none⟩) (fun _ => rfl) _ |>.setCell (p := ⟨cb, 1, none⟩) (fun _ => rfl) _) (h1.put (i := i) (by rw [HE.out.1]; exact HBel.out) h3 h4 h5 h6 HK8.out ?_ ?_)
            · exact r4.cast' (by rw [HG.out.1]; omega) (by rw [HE.out.1]; simp)
            · exact HQ3.out.1.cast' (by rw [HG.out.1]; omega) (by rw [HE.out.2.2]; simp)
      · subst hin'
        rcases N3.out with ⟨e, e0⟩ | ⟨gn, e⟩
        all_goals
          subst e
          rcases A3.out with ⟨e, e1⟩ | ⟨ga, e⟩
          all_goals
            subst e
            by_cases hcn : nc = i
            all_goals
              first
                | (exfalso; omega)
                | (by_cases hca : ac = i
                   all_goals
                     first
                       | (exfalso; omega)
                       | skip)
        all_goals
          go_wp2_with (first | (at_builtin; refine Halted.out ?_))
          refine Halted.mk (wp_appN elem_str rfl _ _ rfl HEX.out rfl (Row.nil wr 9 1 (New w)) rfl ((HG.out.2.1.ext HEX.out).take' i) (by rw [List.length_take, HH.out.1]; omega) (fun u hu => strs_one _ u (List.mem_of_mem_take hu)) (by omega) (by unfold maxLen; omega) ?_)
          intro v1 w3 hr1 hk3 _ _
          obtain ⟨c0, c1⟩ := HCell.out w3 hk3
          have HR1 := Lib.hid hr1
          clear hr1
          go_wp2_with (first | (at_builtin; refine Halted.out ?_))
          refine Halted.mk (wp_appN elem_str rfl _ _ rfl (hk3.alloc (.cells #[.string s] 9)) rfl (HR1.out.alloc _) rfl (CellsAt.one w3 (.string s) 9) rfl (by simp; rfl) (by omega) (by unfold maxLen; omega) ?_)
          intro v2 w4 hr2 hk4 _ _
          obtain ⟨c0, c1⟩ := HCell.out w4 hk4
          have HR2 := Lib.hid hr2
          clear hr2
          go_wp2_with (first | (at_builtin; refine Halted.out ?_))
          refine Halted.mk (wp_appN elem_str rfl _ _ rfl hk4 rfl HR2.out rfl (news := (strs (G.map REnt.name)).drop i) (by
            first
              | (have := (HG.out.2.1.ext hk4).sub' i; rwa [Nat.zero_add] at this)
              | (rw [List.drop_of_length_le (by rw [HH.out.1]; omega)]; exact CellsAt.nil _ _)) (by rw [List.length_drop, HH.out.1]; omega) (fun u hu => strs_one _ u (List.mem_of_mem_drop hu)) (by omega) (by unfold maxLen; omega) ?_)
          intro v3 w5 hr3 hk5 _ _
          obtain ⟨c0, c1⟩ := HCell.out w5 hk5
          have HR3 := Lib.hid hr3
          clear hr3
          go_wp2_with (first | (at_builtin; refine Halted.out ?_))
          refine Halted.mk (wp_appN elem_ptrR rfl _ _ rfl hk5 rfl (Row.nil w5 150 1 (New w)) rfl ((HG.out.2.2.1.ext hk5).take' i) (by rw [List.length_take, HH.out.2]; omega) (fun u hu => ptrs_one _ u (List.mem_of_mem_take hu)) (by omega) (by unfold maxLen; omega) ?_)
          intro u1 w6 hq1 hk6 hk6' _
          obtain ⟨c0, c1⟩ := HCell.out w6 hk6
          have HQ1 := Lib.hid (And.intro hq1 hk6')
          clear hq1 hk6'
          go_wp2_with (first | (at_builtin; refine Halted.out ?_))
          refine Halted.mk (wp_appN elem_ptrR rfl _ _ rfl (hk6.alloc (.cells #[.pointer (some ⟨c, 0, none⟩)] 150)) rfl (HQ1.out.1.alloc _) rfl (CellsAt.one w6 (.pointer (some ⟨c, 0, none⟩)) 150) rfl (by simp; rfl) (by omega) (by unfold maxLen; omega) ?_)
          intro u2 w7 hq2 hk7 hk7' _
          obtain ⟨c0, c1⟩ := HCell.out w7 hk7
          have HQ2 := Lib.hid (And.intro hq2 hk7')
          clear hq2 hk7'
          go_wp2_with (first | (at_builtin; refine Halted.out ?_))
          refine Halted.mk (wp_appN elem_ptrR rfl _ _ rfl hk7 rfl HQ2.out.1 rfl (news := (G.map REnt.ptr).drop i) (by
            first
              | (have := (HG.out.2.2.1.ext hk7).sub' i; rwa [Nat.zero_add] at this)
              | (rw [List.drop_of_length_le (by rw [HH.out.2]; omega)]; exact CellsAt.nil _ _)) (by rw [List.length_drop, HH.out.2]; omega) (fun u hu => ptrs_one _ u (List.mem_of_mem_drop hu)) (by omega) (by unfold maxLen; omega) ?_)
          intro u3 w8 hq3 hk8 hk8' _
          have HQ3 := Lib.hid (And.intro hq3 hk8')
          clear hq3 hk8'
          obtain ⟨a1', n1', p1', e1, _⟩ : ∃ ao n cap, v3 = .slice ao n cap ∧ True := by obtain ⟨ao, cap, e, _⟩ := HR3.out.shape; exact ⟨_, _, _, e, trivial⟩
          obtain ⟨a2', n2', p2', e2, _⟩ : ∃ ao n cap, u3 = .slice ao n cap ∧ True := by obtain ⟨ao, cap, e, _⟩ := HQ3.out.1.shape; exact ⟨_, _, _, e, trivial⟩
          subst e1 e2
          have f0 := (HG.out.2.2.2.ext hk8).free 0
          have f1 := (HG.out.2.2.2.ext hk8).free 1
          obtain ⟨c0, c1⟩ := HCell.out w8 hk8
          have HK8 := Lib.hid hk8
          clear hk3 hk4 hk5 hk6 hk7 hk8
          go_wp2
          go_end0
          have r1 := HR3.out.kp' HQ1.out.2 fun g hg _ hf => by cases hf
          have r2 := r1.alloc (.cells #[.pointer (some ⟨c, 0, none⟩)] 150)
          have r3 := r2.kp' HQ2.out.2 fun g hg _ hf => r2.sort_ne (HQ1.out.1.alloc (.cells #[.pointer (some ⟨c, 0, none⟩)] 150)) hne.out hg hf
          have r4 := r3.kp' HQ3.out.2 fun g hg _ hf => r3.sort_ne HQ2.out.1 hne.out hg hf
          obtain ⟨h1, h2, h3, h4, h5, h6⟩ := H.out
          refine RetF.mk ((Ext.kp HK8.out).setCell (F := fun k => k = cb) (p := ⟨cb, 0, none⟩) (fun _ => rfl) _ |>.setCell (p := ⟨cb, 1, none⟩) (fun _ => rfl) _) (h1.put (i := i) (by rw [HE.out.1]; exact HBel.out) h3 h4 h5 h6 HK8.out ?_ ?_)
          · exact r4.cast' (by rw [HG.out.1]; omega) (by rw [HE.out.1]; simp)
          · exact HQ3.out.1.cast' (by rw [HG.out.1]; omega) (by rw [HE.out.2.2]; simp)
end
end Go.Proofs.YtomeebimmmfmbaaGreat

/- The document's Base: Declare, Add. -/
namespace Go.Proofs.YtomeebimmmfmbaaGreat
open Go.RowKit
set_option linter.unusedVariables false

/-- What holds of the document's bases: contents that may be, names in their order. -/
structure RefOk (G : List REnt) : Prop where
  ok : BaseOk (cntR G)
  names : Strict cmpN (G.map REnt.name)
theorem cntR_names (G : List REnt) : (cntR G).map (·.1) = G.map REnt.name := by unfold cntR; rw [List.map_map]; rfl
theorem findR2_none {G : List REnt} {s : ByteArray} (h : findR2 G s = none) : getC (cntR G) s = none ∧ s ∉ G.map REnt.name := by
  have h1 : getC (cntR G) s = none := by rw [findR2_get, h]; rfl
  exact ⟨h1, by rw [← cntR_names]; exact getC_none.1 h1⟩
theorem findR2_cnt {G : List REnt} {s : ByteArray} {g : REnt} (h : findR2 G s = some g) : getC (cntR G) s = some (g.ar, g.LL) ∧ rowsC (cntR G) s = g.LL := by
  have h1 : getC (cntR G) s = some (g.ar, g.LL) := by rw [findR2_get, h]; rfl
  exact ⟨h1, rows_some h1⟩
section
variable {S S' : Nat → Prop} {w w1 w2 w3 : World} {cb : Nat} {G : List REnt} {s : ByteArray} {ss : List ByteArray}
/-- What a change leaves of a base: what C' says. -/
def RefBTo (S : Nat → Prop) (w : World) (cb : Nat) (G : List REnt) (C' : List CntZ) (w' : World) : Prop :=
  ∃ S' G', Grows w S S' ∧ RefB S' w' cb G' ∧ RefOk G' ∧ SameC (cntR G') C' ∧ G'.length ≤ G.length + 1 ∧ ∀ k, OwnG cb G' k → OwnG cb G k ∨ w.heap.size ≤ k
theorem RefBTo.same {C' : List CntZ} (h : RefB S w cb G) (ho : RefOk G) (hk : Ext w w1) (hc : C' = cntR G) : RefBTo S w cb G C' w1 :=
  ⟨S, G, Grows.refl _ _, h.ext hk, ho, by rw [hc]; exact SameC.refl _, Nat.le_succ _, fun k h => .inl h⟩
/-- Rows under a name that is there change. -/
theorem RefB.turn {pre post : List REnt} {g : REnt} (h : RefB S w cb (pre ++ g :: post)) {LL' : List (List ByteArray)} (hk : Kp (fun k => k = g.c) w w1) (hS : Grows w S S') (hr : RefRows S' w1 g.c g.ar LL') :
    RefB S' w1 cb (pre ++ { g with LL := LL' } :: post) := by
  have hg : g ∈ pre ++ g :: post := by simp
  have hgc := h.off g hg
  have hgS := (h.rows g hg).notS
  have hlt := (h.rows g hg).lt
  obtain ⟨na, nc, aa, ac, h1, h2, h3, h4, h5, h6⟩ := h.blk
  have hF : ∀ k, k = g.c → ¬ S k := fun k e hs => by subst e; exact hgS hs
  have en : (pre ++ { g with LL := LL' } :: post).map REnt.name = (pre ++ g :: post).map REnt.name := by simp
  have ep : (pre ++ { g with LL := LL' } :: post).map REnt.ptr = (pre ++ g :: post).map REnt.ptr := by simp [REnt.ptr]
  have el : (pre ++ { g with LL := LL' } :: post).length = (pre ++ g :: post).length := by simp
  have hap := h.apart
  have hoff : ∀ x ∈ pre ++ g :: post, x = g ∨ x.c ≠ g.c := fun x hx => by
    rw [List.pairwise_append] at hap
    obtain ⟨_, p2, p3⟩ := hap
    rw [List.pairwise_cons] at p2
    rcases List.mem_append.1 hx with hx | hx
    · exact .inr (p3 x hx g (List.mem_cons_self ..))
    · rcases List.mem_cons.1 hx with rfl | hx
      · exact .inl rfl
      · exact .inr fun e => p2.1 x hx e.symm
  have hmem : ∀ x ∈ pre ++ { g with LL := LL' } :: post, x = { g with LL := LL' } ∨ (x ∈ pre ++ g :: post ∧ x.c ≠ g.c) := fun x hx => by
    rw [List.pairwise_append] at hap
    obtain ⟨_, p2, p3⟩ := hap
    rw [List.pairwise_cons] at p2
    rcases List.mem_append.1 hx with hx | hx
    · exact .inr ⟨by simp [hx], p3 x hx g (List.mem_cons_self ..)⟩
    · rcases List.mem_cons.1 hx with rfl | hx
      · exact .inl rfl
      · exact .inr ⟨by simp [hx], fun e => p2.1 x hx e.symm⟩
  have hS' := hr.inS
  refine ⟨⟨na, nc, aa, ac, ?_, ?_, ?_, fun a e => hS.1 _ (h4 a e), fun a e => hS.1 _ (h5 a e), ?_⟩, fun x hx => ?_, ?_, ?_, fun x hx => ?_, hS', ?_⟩
  · rw [el]; exact h1.kp hk fun e => hgc e.symm
  · rw [en]; exact h2.kp hk fun a e => hF _ |> fun f e2 => f e2 (h4 a e)
  · rw [ep]; exact h3.kp hk fun a e => hF _ |> fun f e2 => f e2 (h5 a e)
  · rw [el]; exact h6
  · rcases hmem x hx with rfl | ⟨hx, hne⟩
    · exact hr
    · refine ((h.rows x hx).kp hk hne hF).wide hS.1 (fun h9 => ?_) hS'
      rcases hS.2 _ h9 with h9 | h9
      · exact (h.rows x hx).notS h9
      · have := (h.rows x hx).lt; omega
  · have := hap
    rw [List.pairwise_append, List.pairwise_cons] at this ⊢
    obtain ⟨p1, ⟨p2, p3⟩, p4⟩ := this
    refine ⟨p1, ⟨p2, p3⟩, fun a ha b hb => ?_⟩
    rcases List.mem_cons.1 hb with rfl | hb
    · exact p4 a ha g (List.mem_cons_self ..)
    · exact p4 a ha b (List.mem_cons_of_mem _ hb)
  · intro h9
    rcases hS.2 _ h9 with h9 | h9
    · exact h.notS h9
    · have := h1.lt; omega
  · rcases hmem x hx with rfl | ⟨hx, hne⟩
    · exact hgc
    · exact h.off x hx
  · rw [el]; exact h.len
theorem findR2_split {g : REnt} (h : findR2 G s = some g) : ∃ pre post, G = pre ++ g :: post := List.append_of_mem (findR2_some h).1
theorem cntR_set {pre post : List REnt} {g : REnt} (hn : ((cntR (pre ++ g :: post)).map (·.1)).Nodup) (LL' : List (List ByteArray)) : setC (cntR (pre ++ g :: post)) g.name (g.ar, LL') = cntR (pre ++ { g with LL := LL' } :: post) := by
  have hg : getC (cntR (pre ++ g :: post)) g.name = some (g.ar, g.LL) := (getC_mem hn).2 (List.mem_map.2 ⟨g, by simp, rfl⟩)
  unfold setC
  rw [hg]
  simp only [Option.isSome_some, if_true]
  have e1 : cntR (pre ++ g :: post) = cntR pre ++ g.cnt :: cntR post := by simp [cntR]
  have e2 : cntR (pre ++ { g with LL := LL' } :: post) = cntR pre ++ (g.name, g.ar, LL') :: cntR post := by simp [cntR, REnt.cnt]
  rw [e1] at hn ⊢
  rw [e2]
  rw [List.map_append, List.map_cons, List.nodup_append, List.nodup_cons] at hn
  obtain ⟨_, ⟨p2, _⟩, p4⟩ := hn
  rw [List.map_append, List.map_cons]
  congr 1
  · conv => rhs; rw [← List.map_id (cntR pre)]
    apply List.map_congr_left
    intro x hx
    rw [if_neg]
    · rfl
    · exact p4 x.1 (List.mem_map.2 ⟨x, hx, rfl⟩) g.name (List.mem_cons_self ..)
  · rw [if_pos (show (REnt.cnt g).1 = g.name from rfl)]
    congr 1
    conv => rhs; rw [← List.map_id (cntR post)]
    apply List.map_congr_left
    intro x hx
    rw [if_neg]
    · rfl
    · intro e
      exact p2 (by rw [show (REnt.cnt g).1 = g.name from rfl, ← e]; exact List.mem_map.2 ⟨x, hx, rfl⟩)
/-- A name comes: the contents. -/
theorem cntR_ins (hn : (cntR G).map (·.1) |>.Nodup) {g : REnt} (h : g.name ∉ G.map REnt.name) : (cntR (insN REnt.name G g)).Perm (cntR G ++ [g.cnt]) := by
  unfold cntR
  have := (insN_perm REnt.name G g).map REnt.cnt
  simpa using this
theorem RefOk.ins (h : RefOk G) {g : REnt} (hn : g.name ∉ G.map REnt.name) (hb : BaseOk (cntR G ++ [g.cnt])) : RefOk (insN REnt.name G g) ∧ SameC (cntR (insN REnt.name G g)) (cntR G ++ [g.cnt]) :=
  have hp := cntR_ins h.ok.nodup hn
  ⟨⟨perm_ok hp.symm hb, insN_strict REnt.name h.names hn⟩, (perm_same hp.symm hb.nodup).symm⟩
theorem refRows_cell {c n : Nat} {LL : List (List ByteArray)} (h : RefRows S w c n LL) : w.cell? ⟨c, 0, none⟩ = some (.int .i64 n) ∧ ∃ lo lc, w.cell? ⟨c, 1, none⟩ = some (.slice lo LL.length lc) := by
  obtain ⟨ao, cap, h1, _⟩ := h
  exact ⟨by rw [h1.cell']; rfl, ao, cap, by rw [h1.cell']; rfl⟩
/-- A new name. -/
theorem refB_fresh {k c : Nat} (h : RefB S w cb G) (ho : RefOk G) (hn : namedC s = true) (he : findR2 G s = none) (hk : k ≤ 64) (hx : Ext w w1) (hc : w.heap.size ≤ c) (hr : RefRows S w1 c k []) (w2 : World) (hk2 : Kp (fun k => k = cb) w1 w2) (hg : Grows w1 S S')
    (hb : RefB S' w2 cb (insN REnt.name G ⟨s, c, k, []⟩)) : Kp (fun k => k = cb) w w2 ∧ Grows w S S' ∧ RefOk (insN REnt.name G ⟨s, c, k, []⟩) ∧ SameC (cntR (insN REnt.name G ⟨s, c, k, []⟩)) (cntR G ++ [(s, k, [])]) ∧ (insN REnt.name G ⟨s, c, k, []⟩).length ≤ G.length + 1 ∧ ∀ q, OwnG cb (insN REnt.name G ⟨s, c, k, []⟩) q → OwnG cb G q ∨ w.heap.size ≤ q := by
  obtain ⟨g1, g2⟩ := findR2_none he
  have hd : declR (cntR G) s (k : Int) = 0 := declR_none hn (by omega) g1
  have hC : declC (cntR G) s (k : Int) = cntR G ++ [(s, k, [])] := by
    unfold declC
    rw [if_pos ⟨hd, g1⟩]; rfl
  have hbo : BaseOk (cntR G ++ [(s, k, [])]) := by rw [← hC]; exact ok_decl ho.ok s _
  obtain ⟨i1, i2⟩ := ho.ins (g := ⟨s, c, k, []⟩) g2 hbo
  refine ⟨(Ext.kp hx).trans hk2, (Grows.refl w S).trans hg hx.size, i1, i2, by rw [(insN_perm REnt.name G _).length_eq]; simp, fun q hq => ?_⟩
  rcases hq with rfl | ⟨x, hx, rfl⟩
  · exact .inl (.inl rfl)
  · rcases List.mem_append.1 ((insN_perm REnt.name G _).mem_iff.1 hx) with hx | hx
    · exact .inl (.inr ⟨x, hx, rfl⟩)
    · obtain rfl := List.mem_singleton.1 hx
      exact .inr hc
set_option maxRecDepth 100000 in
set_option maxHeartbeats 4000000 in
theorem refBDecl_any (h : RefB S w cb G) (ho : RefOk G) (s : ByteArray) (a : Int) (hl : G.length < 4194304) :
    Calls Tryz.prog 59 #[.pointer (some ⟨cb, 0, none⟩), .string s, .int .i64 a] w (RetF (fun k => k = cb) w fun w' v => v = .int .i64 ((declR (cntR G) s a : Nat) : Int) ∧ RefBTo S w cb G (declC (cntR G) s a) w') := by
  have H := Lib.hid (And.intro h (And.intro ho hl))
  have HN := Lib.hid (refNamed_any s w)
  clear h ho hl
  cases hn : namedC s with
  | false =>
    rw [hn] at HN
    have HNM := Lib.hid hn
    clear hn
    go_enter Tryz.func59, Tryz.ntmps59
    go_wp2_with fail
    refine HN.out.mono ?_
    rintro e w' ⟨rfl, rfl⟩
    go_wp2
    go_ret
    have e2 := declR_name (C := cntR G) a HNM.out
    exact RetF.mk (Kp.refl _) ⟨by rw [e2]; rfl, RefBTo.same H.out.1 H.out.2.1 (Kp.refl _) (declC_not (by rw [e2]; decide))⟩
  | true =>
    rw [hn] at HN
    have HNM := Lib.hid hn
    clear hn
    by_cases ha : a < 0 ∨ 64 < a
    · have HNB := Lib.hid (refNewRows_bad a w ha)
      have HAB := Lib.hid ha
      clear ha
      go_enter Tryz.func59, Tryz.ntmps59
      go_wp2_with fail
      refine HN.out.mono ?_
      rintro e w' ⟨rfl, rfl⟩
      go_wp2_with fail
      refine HNB.out.mono ?_
      rintro e w' ⟨rfl, rfl⟩
      go_wp2
      go_ret
      have e2 := declR_bad (s := s) (C := cntR G) HNM.out HAB.out
      exact RetF.mk (Kp.refl _) ⟨by rw [e2]; rfl, RefBTo.same H.out.1 H.out.2.1 (Kp.refl _) (declC_not (by rw [e2]; decide))⟩
    · obtain ⟨k, rfl⟩ := Int.eq_ofNat_of_zero_le (show 0 ≤ a by omega)
      have hk64 : k ≤ 64 := by omega
      have HNR := Lib.hid (refNewRows_any S w k hk64 H.out.1.inS)
      have HAN := Lib.hid ha
      clear ha
      cases he : findR2 G s with
      | none =>
        have HE := Lib.hid he
        clear he
        go_enter Tryz.func59, Tryz.ntmps59
        go_wp2_with fail
        refine HN.out.mono ?_
        rintro e w' ⟨rfl, rfl⟩
        go_wp2_with fail
        refine HNR.out.mono ?_
        rintro e w1 ⟨v, rfl, hk1, rfl, hrows⟩
        have HK1 := Lib.hid (And.intro hk1 hrows)
        clear hk1 hrows
        go_wp2_with fail
        refine (refBRows_any (H.out.1.ext HK1.out.1) s).mono ?_
        rintro e w2 ⟨v, rfl, hk2, hv⟩
        rw [HE.out] at hv
        replace hv : v = .pointer none := hv
        subst hv
        have HK2 := Lib.hid (And.intro hk2 (HK1.out.1.trans hk2))
        clear hk2
        go_wp2_with fail
        obtain ⟨gc, egc⟩ : ∃ gc, w.heap.size = gc := ⟨_, rfl⟩
        have HP := Lib.hid (refBPut_any (H.out.1.ext HK2.out.2) H.out.2.1.names ⟨s, w.heap.size, k, []⟩ (HK1.out.2.ext HK2.out.1) (fun x hx e => by have := (H.out.1.rows x hx).lt; simp only at e; omega) (fun e => by
          obtain ⟨na, nc, aa, ac, hB, _⟩ := H.out.1.blk
          have := hB.lt
          simp only at e; omega) H.out.2.2)
        refine HP.out.mono ?_
        rintro e w4 ⟨v, rfl, hk4, S', hS', hb⟩
        have HM4 := Lib.hid (And.intro hk4 (And.intro hS' hb))
        clear hk4 hS' hb
        go_wp2
        go_ret
        obtain ⟨g1, g2⟩ := findR2_none HE.out
        have hd : declR (cntR G) s (k : Int) = 0 := declR_none HNM.out (by omega) g1
        obtain ⟨f1, f2, f3, f4, f5, f6⟩ := refB_fresh H.out.1 H.out.2.1 HNM.out HE.out hk64 HK2.out.2 (Nat.le_refl _) (HK1.out.2.ext HK2.out.1) w4 HM4.out.1 HM4.out.2.1 HM4.out.2.2
        refine RetF.mk f1 ⟨by rw [hd]; rfl, S', _, f2, HM4.out.2.2, f3, ?_, f5, f6⟩
        have hC : declC (cntR G) s (k : Int) = cntR G ++ [(s, k, [])] := by
          unfold declC
          rw [if_pos ⟨hd, g1⟩]; rfl
        rw [hC]; exact f4
      | some g =>
        have HE := Lib.hid he
        obtain ⟨c, ec⟩ : ∃ c, g.c = c := ⟨_, rfl⟩
        obtain ⟨ar, ear⟩ : ∃ ar, g.ar = ar := ⟨_, rfl⟩
        have hcell := (refRows_cell (H.out.1.rows g (findR2_some he).1)).1
        rw [ec, ear] at hcell
        have hg := (findR2_cnt he).1
        have hR := declR_some (C := cntR G) HNM.out HAN.out hg
        rw [ear] at hR
        have HR := Lib.hid (And.intro hR (And.intro (declC_some (C := cntR G) (a := (k : Int)) hg) ec))
        clear he ec ear hg hR
        by_cases hq : ar = k
        all_goals
          have HQ := Lib.hid hq
          first
            | have q1 : ((ar : Int) != (k : Int)) = false := by simp [hq]
            | have q1 : ((ar : Int) != (k : Int)) = true := by rw [bne_iff_ne]; omega
          clear hq
          go_enter Tryz.func59, Tryz.ntmps59
          go_wp2_with fail
          refine HN.out.mono ?_
          rintro e w' ⟨rfl, rfl⟩
          go_wp2_with fail
          refine HNR.out.mono ?_
          rintro e w1 ⟨v, rfl, hk1, rfl, hrows⟩
          have HK1 := Lib.hid hk1
          clear hk1 hrows
          go_wp2_with fail
          refine (refBRows_any (H.out.1.ext HK1.out) s).mono ?_
          rintro e w2 ⟨v, rfl, hk2, hv⟩
          rw [HE.out] at hv
          replace hv : v = .pointer (some ⟨g.c, 0, none⟩) := hv
          rw [HR.out.2.2] at hv
          subst hv
          have HK2 := Lib.hid (HK1.out.trans hk2)
          have d1 := HK2.out.cell hcell id
          clear hk2 hcell
          go_wp2
          go_ret
          refine RetF.mk (Ext.kp HK2.out) ⟨?_, RefBTo.same H.out.1 H.out.2.1 HK2.out HR.out.2.1⟩
          rw [HR.out.1]
          first
            | rw [if_pos (by rw [HQ.out])]; rfl
            | rw [if_neg (fun q => HQ.out (by omega))]; rfl
theorem refBAdd_same (h : RefB S w cb G) (ho : RefOk G) (hk : Ext w w1) {n : Nat} (hR : addR (cntR G) s ss = (false, n)) (hn : n ≠ 0) :
    RetF (OwnG cb G) w (fun w' v => v = .tuple #[.bool (addR (cntR G) s ss).1, .int .i64 ((addR (cntR G) s ss).2 : Nat)] ∧ RefBTo S w cb G (addC (cntR G) s ss) w') (.returned (.tuple #[.bool false, .int .i64 (n : Nat)])) w1 :=
  RetF.mk (Ext.kp hk) ⟨by rw [hR], RefBTo.same h ho hk (addC_not (by rw [hR]; exact hn))⟩
theorem rowsAdd_ok {n : Nat} {LL : List (List ByteArray)} (h1 : ss.length = n) (h2 : textsC ss = true) (h3 : ¬ (65536 ≤ LL.length ∧ isIn cmpRow LL ss = false)) : rowsAddR n LL ss = (!isIn cmpRow LL ss, 0) ∧ rowsAddL n LL ss = addS cmpRow LL ss := by
  have e : rowsAddR n LL ss = (!isIn cmpRow LL ss, 0) := by
    unfold rowsAddR
    rw [if_neg (by simp [h1]), if_neg (by simp [h2]), if_neg h3]
  exact ⟨e, by unfold rowsAddL; rw [e, if_pos rfl]⟩
/-- A row under a name that is there. -/
theorem refBAdd_old {g : REnt} (h : RefB S w cb G) (ho : RefOk G) (hf : findR2 G s = some g) (hR : addR (cntR G) s ss = (!isIn cmpRow g.LL ss, 0)) (har : g.ar = ss.length) (hx : Ext w w2) (hk : Kp (fun k => k = g.c) w2 w3) (hS : Grows w2 S S') (hr : RefRows S' w3 g.c g.ar (addS cmpRow g.LL ss)) :
    RetF (OwnG cb G) w (fun w' v => v = .tuple #[.bool (addR (cntR G) s ss).1, .int .i64 ((addR (cntR G) s ss).2 : Nat)] ∧ RefBTo S w cb G (addC (cntR G) s ss) w') (.returned (.tuple #[.bool (!isIn cmpRow g.LL ss), .int .i64 0])) w3 := by
  obtain ⟨g1, g2⟩ := findR2_cnt hf
  obtain ⟨hm, hn⟩ := findR2_some hf
  obtain ⟨pre, post, e⟩ := findR2_split hf
  have hC : addC (cntR G) s ss = setC (cntR G) s (g.ar, addS cmpRow g.LL ss) := by
    unfold addC
    rw [hR, if_pos rfl, g2, har]
  have hbo := ok_add ho.ok s ss
  rw [hC] at hbo ⊢
  have hx2 := (h.ext hx)
  subst e
  have hs := cntR_set ho.ok.nodup (addS cmpRow g.LL ss)
  rw [← hn, hs] at hbo ⊢
  have en : (pre ++ { g with LL := addS cmpRow g.LL ss } :: post).map REnt.name = (pre ++ g :: post).map REnt.name := by simp
  refine RetF.mk ((Ext.kp hx).trans (hk.mono fun k _ e => .inr ⟨g, hm, e⟩)) ⟨by rw [hn, hR]; rfl, S', _, (Grows.refl w S).trans hS hx.size, hx2.turn hk hS hr, ⟨hbo, by rw [en]; exact ho.names⟩, SameC.refl _, by simp, ?_⟩
  rintro k (e | ⟨x, hx, e⟩)
  · exact .inl (.inl e)
  · rcases List.mem_append.1 hx with hx | hx
    · exact .inl (.inr ⟨x, by simp [hx], e⟩)
    · rcases List.mem_cons.1 hx with rfl | hx
      · exact .inl (.inr ⟨g, hm, e⟩)
      · exact .inl (.inr ⟨x, by simp [hx], e⟩)
/-- The first row under a new name. -/
theorem refBAdd_new {S2 : Nat → Prop} {c : Nat} (h : RefB S w cb G) (ho : RefOk G) (hf : findR2 G s = none) (hn : namedC s = true) (hl : ss.length ≤ 64) (hR : addR (cntR G) s ss = (true, 0)) (hx : Ext w w1) (hc : w.heap.size ≤ c) (hr1 : RefRows S w1 c ss.length []) (hk2 : Kp (fun k => k = cb) w1 w2) (hS2 : Grows w1 S S2) (hb : RefB S2 w2 cb (insN REnt.name G ⟨s, c, ss.length, []⟩))
    (hk : Kp (fun k => k = c) w2 w3) (hS : Grows w2 S2 S') (hr : RefRows S' w3 c ss.length (addS cmpRow [] ss)) :
    RetF (OwnG cb G) w (fun w' v => v = .tuple #[.bool (addR (cntR G) s ss).1, .int .i64 ((addR (cntR G) s ss).2 : Nat)] ∧ RefBTo S w cb G (addC (cntR G) s ss) w') (.returned (.tuple #[.bool true, .int .i64 0])) w3 := by
  obtain ⟨g1, g2⟩ := findR2_none hf
  obtain ⟨f1, f2, f3, f4, f5, f6⟩ := refB_fresh h ho hn hf hl hx hc hr1 w2 hk2 hS2 hb
  have hC : addC (cntR G) s ss = setC (cntR G) s (ss.length, addS cmpRow [] ss) := by
    unfold addC
    rw [hR, if_pos rfl, rows_none g1]
  have hsame : SameC (cntR (insN REnt.name G ⟨s, c, ss.length, addS cmpRow [] ss⟩)) (addC (cntR G) s ss) := by
    have hp := cntR_ins ho.ok.nodup (g := ⟨s, c, ss.length, addS cmpRow [] ss⟩) g2
    rw [hC]
    have e : setC (cntR G) s (ss.length, addS cmpRow [] ss) = cntR G ++ [(s, ss.length, addS cmpRow [] ss)] := by
      unfold setC
      rw [g1]; rfl
    have hbo := ok_add ho.ok s ss
    rw [hC, e] at hbo
    rw [e]
    exact (perm_same hp.symm hbo.nodup).symm
  have hbo := ok_add ho.ok s ss
  have hbo2 : BaseOk (cntR (insN REnt.name G ⟨s, c, ss.length, addS cmpRow [] ss⟩)) := by
    have hp := cntR_ins ho.ok.nodup (g := ⟨s, c, ss.length, addS cmpRow [] ss⟩) g2
    refine perm_ok hp.symm ?_
    have e : setC (cntR G) s (ss.length, addS cmpRow [] ss) = cntR G ++ [(s, ss.length, addS cmpRow [] ss)] := by
      unfold setC
      rw [g1]; rfl
    rw [hC, e] at hbo
    exact hbo
  have hturn : RefB S' w3 cb (insN REnt.name G ⟨s, c, ss.length, addS cmpRow [] ss⟩) := by
    unfold insN at hb ⊢
    exact hb.turn hk hS hr
  refine RetF.mk ((f1.mono fun k _ e => .inl e).trans' hk fun k hk e => by omega) ⟨by rw [hR]; rfl, S', _, f2.trans hS f1.size, hturn, ⟨hbo2, ?_⟩, hsame, ?_, ?_⟩
  · exact insN_strict REnt.name ho.names g2
  · have := (insN_perm REnt.name G ⟨s, c, ss.length, addS cmpRow [] ss⟩).length_eq
    rw [this]; simp
  · rintro k (e | ⟨x, hx, e⟩)
    · exact .inl (.inl e)
    · rcases List.mem_append.1 ((insN_perm REnt.name G _).mem_iff.1 hx) with hx | hx
      · exact .inl (.inr ⟨x, hx, e⟩)
      · obtain rfl := List.mem_singleton.1 hx
        rw [e]; exact .inr hc
set_option maxRecDepth 100000 in
set_option maxHeartbeats 4000000 in
theorem refBAdd_anyE (h : RefB S w cb G) (ho : RefOk G) (s : ByteArray) {xo : Option Addr} {m xc : Nat} {ss : List ByteArray} (hm : m = ss.length) (hx : CellsAt w xo (strs ss)) (hss : ss.length ≤ 8796093021952) (hxo : ss ≠ [] → Off (fun k => k = cb) xo) (hl : G.length < 4194304) :
    Calls Tryz.prog 60 #[.pointer (some ⟨cb, 0, none⟩), .string s, .slice xo m xc] w (RetF (OwnG cb G) w fun w' v => v = .tuple #[.bool (addR (cntR G) s ss).1, .int .i64 ((addR (cntR G) s ss).2 : Nat)] ∧ RefBTo S w cb G (addC (cntR G) s ss) w') := by
  have H := Lib.hid (And.intro h (And.intro ho hl))
  have HN := Lib.hid (refNamed_any s w)
  have HX := Lib.hid (And.intro hm (And.intro hx (And.intro hss hxo)))
  have HT := Lib.hid (fun W (hW : Ext w W) => refTexts_any ss xo m xc W hm (hx.ext hW) (by omega))
  have hm8 : m ≤ 8796093021952 := by omega
  clear h ho hl hm hx hss hxo
  cases hn : namedC s with
  | false =>
    rw [hn] at HN
    have HNM := Lib.hid hn
    clear hn
    go_enter Tryz.func60, Tryz.ntmps60
    go_wp2_with fail
    refine HN.out.mono ?_
    rintro e w' ⟨rfl, rfl⟩
    go_wp2
    go_ret2
    exact refBAdd_same H.out.1 H.out.2.1 (Kp.refl _) (addR_name ss HNM.out) (by decide)
  | true =>
    rw [hn] at HN
    have HNM := Lib.hid hn
    clear hn
    cases hf : findR2 G s with
    | some g =>
      obtain ⟨hmem, hname⟩ := findR2_some hf
      obtain ⟨hget, hrows⟩ := findR2_cnt hf
      have hrr := H.out.1.rows g hmem
      have hok := H.out.2.1.ok.all g.cnt (List.mem_map.2 ⟨g, hmem, rfl⟩)
      have har64 : g.ar ≤ 64 := hok.ar
      have hst : Strict cmpRow g.LL := hok.strict
      have hfew : g.LL.length ≤ 65536 := hok.few
      obtain ⟨d0, lo, lc, d1⟩ := refRows_cell hrr
      have HF := Lib.hid (And.intro hf (And.intro hget (And.intro hrows (And.intro hrr hst))))
      have HB := Lib.hid (refBRows_any H.out.1 s)
      have HFind := Lib.hid (fun W (hW : Ext w W) => refRowFind_any (hrr.ext hW) hst (xc := xc) HX.out.1 (HX.out.2.1.ext hW) HX.out.2.2.1)
      have HAdd := Lib.hid (fun W (hW : Ext w W) => refAdd_any (hrr.ext hW) hst (xc := xc) HX.out.1 (HX.out.2.1.ext hW) HX.out.2.2.1 (by omega))
      have HLen := Lib.hid (fun W (hW : Ext w W) => refBLen_any (H.out.1.ext hW) (by have := H.out.2.1.ok.few; omega))
      obtain ⟨c, ec⟩ : ∃ c, g.c = c := ⟨_, rfl⟩
      obtain ⟨ar, ear⟩ : ∃ ar, g.ar = ar := ⟨_, rfl⟩
      obtain ⟨ln, eln⟩ : ∃ ln, g.LL.length = ln := ⟨_, rfl⟩
      have hB2 : Calls Tryz.prog 96 #[.pointer (some ⟨cb, 0, none⟩), .string s] w (RetN w fun w' v => v = .pointer (some ⟨c, 0, none⟩)) := by
        rw [← ec]; have := HB.out; rw [hf] at this; exact this
      have HB2 := Lib.hid hB2
      rw [ec] at d0 d1 HFind HAdd
      rw [ear] at d0 har64
      rw [eln] at d1 hfew
      have HE := Lib.hid (And.intro ec (And.intro ear eln))
      clear hf hmem hname hget hrows hrr hok hst HB hB2 ec ear eln
      by_cases h64 : m ≤ 64
      · by_cases har : ar = m
        · have q1 : ((ar : Int) != (m : Int)) = false := by simp [har]
          have t1 : decide ((m : Int) > 64) = false := by simp; omega
          have t2 : decide (64 < (m : Int)) = false := by simp; omega
          have HAr := Lib.hid har
          have hlen : ss.length = g.ar := by rw [HE.out.2.1, HAr.out, HX.out.1]
          have hao : arOk (cntR G) s ss = true := ar_some HF.out.2.1 hlen.symm
          have HAo := Lib.hid (And.intro hlen hao)
          clear har hlen hao h64 hm8 har64
          cases ht : textsC ss with
          | false =>
            have HT2 := Lib.hid ht
            rw [ht] at HT
            clear ht
            go_enter Tryz.func60, Tryz.ntmps60
            go_wp2_with fail
            refine HN.out.mono ?_
            rintro e w' ⟨rfl, rfl⟩
            go_wp2_with fail
            refine HB2.out.mono ?_
            rintro e w1 ⟨v, rfl, hk1, rfl⟩
            have d01 := hk1.cell d0 id
            have HK1 := Lib.hid hk1
            clear hk1 d0 d1
            go_wp2_with fail
            refine (HT.out w1 HK1.out).mono ?_
            rintro e w' ⟨rfl, rfl⟩
            go_wp2
            go_ret2
            exact refBAdd_same H.out.1 H.out.2.1 HK1.out (addR_text HNM.out HAo.out.2 HT2.out) (by decide)
          | true =>
            have HT2 := Lib.hid ht
            rw [ht] at HT
            clear ht
            cases hin : isIn cmpRow g.LL ss with
            | true =>
              have hRR := addR_rest (C := cntR G) (row := ss) HNM.out HAo.out.2 HT2.out (by rw [HF.out.2.2.1, hin]; simp)
              rw [HF.out.2.2.1, hin, if_neg (by simp)] at hRR
              have hadd := rowsAdd_ok (n := g.ar) (LL := g.LL) (ss := ss) HAo.out.1 HT2.out (by rw [hin]; simp)
              have ef : findR g.LL ss = (below cmpRow g.LL ss : Nat) := by unfold findR; rw [if_pos hin]
              rw [ef] at HFind
              obtain ⟨bl, ebl⟩ : ∃ bl, below cmpRow g.LL ss = bl := ⟨_, rfl⟩
              rw [ebl] at HFind
              have HIn := Lib.hid (And.intro hRR (And.intro hadd hin))
              have t1' : decide ((bl : Int) < 0) = false := by simp
              clear hRR hadd hin ef ebl
              go_enter Tryz.func60, Tryz.ntmps60
              go_wp2_with fail
              refine HN.out.mono ?_
              rintro e w' ⟨rfl, rfl⟩
              go_wp2_with fail
              refine HB2.out.mono ?_
              rintro e w1 ⟨v, rfl, hk1, rfl⟩
              have d01 := hk1.cell d0 id
              have HK1 := Lib.hid hk1
              clear hk1 d0 d1
              go_wp2_with fail
              refine (HT.out w1 HK1.out).mono ?_
              rintro e w' ⟨rfl, rfl⟩
              go_wp2_with fail
              refine (HFind.out w1 HK1.out).mono ?_
              rintro e w2 ⟨v, rfl, hk2, rfl⟩
              have HK2 := Lib.hid (HK1.out.trans hk2)
              clear hk2
              go_wp2_with fail
              refine (HAdd.out w2 HK2.out).mono ?_
              rintro e w3 ⟨v, rfl, hk3, hv, S', hS', hr3⟩
              rw [HIn.out.2.1.1, HIn.out.2.2] at hv
              subst hv
              have HK3 := Lib.hid (And.intro hk3 (And.intro hS' hr3))
              clear hk3 hS' hr3
              go_wp2
              go_ret2
              have hfin := refBAdd_old (ss := ss) H.out.1 H.out.2.1 HF.out.1 (by rw [HIn.out.1, HIn.out.2.2]) HAo.out.1.symm HK2.out (by rw [HE.out.1]; exact HK3.out.1) HK3.out.2.1 (by rw [HE.out.1]; rw [← HIn.out.2.1.2]; exact HK3.out.2.2)
              rw [HIn.out.2.2] at hfin
              exact hfin
            | false =>
              have ef : findR g.LL ss = -1 := by unfold findR; rw [if_neg (by simp [hin])]
              rw [ef] at HFind
              have hir : isIn cmpRow (rowsC (cntR G) s) ss = false := by rw [HF.out.2.2.1]; exact hin
              obtain ⟨tot, etot⟩ : ∃ tot, totalC (cntR G) = tot := ⟨_, rfl⟩
              rw [etot] at HLen
              by_cases hmany : 262144 ≤ tot
              · have t3 : decide ((tot : Int) ≥ 262144) = true := by simp; omega
                have t4 : decide ((262144 : Int) ≤ (tot : Int)) = true := by simp; omega
                have hR := addR_many (C := cntR G) HNM.out HAo.out.2 HT2.out (by rw [etot]; exact hmany) hir
                have HR := Lib.hid hR
                clear hin ef hir etot hmany hR
                go_enter Tryz.func60, Tryz.ntmps60
                go_wp2_with fail
                refine HN.out.mono ?_
                rintro e w' ⟨rfl, rfl⟩
                go_wp2_with fail
                refine HB2.out.mono ?_
                rintro e w1 ⟨v, rfl, hk1, rfl⟩
                have d01 := hk1.cell d0 id
                have HK1 := Lib.hid hk1
                clear hk1 d0 d1
                go_wp2_with fail
                refine (HT.out w1 HK1.out).mono ?_
                rintro e w' ⟨rfl, rfl⟩
                go_wp2_with fail
                refine (HFind.out w1 HK1.out).mono ?_
                rintro e w2 ⟨v, rfl, hk2, rfl⟩
                have HK2 := Lib.hid (HK1.out.trans hk2)
                clear hk2
                go_wp2_with fail
                refine (HLen.out w2 HK2.out).mono ?_
                rintro e w3 ⟨v, rfl, hk3, rfl⟩
                have HK3 := Lib.hid (HK2.out.trans hk3)
                clear hk3
                go_wp2
                go_ret2
                exact refBAdd_same H.out.1 H.out.2.1 HK3.out HR.out (by decide)
              · have t3 : decide ((tot : Int) ≥ 262144) = false := by simp; omega
                have t4 : decide ((262144 : Int) ≤ (tot : Int)) = false := by simp; omega
                have hRR := addR_rest (C := cntR G) (row := ss) HNM.out HAo.out.2 HT2.out (by rw [etot]; omega)
                rw [HF.out.2.2.1, hin] at hRR
                by_cases hfull : 65536 ≤ ln
                · have t5 : decide ((ln : Int) ≥ 65536) = true := by simp; omega
                  have t6 : decide ((65536 : Int) ≤ (ln : Int)) = true := by simp; omega
                  rw [if_pos ⟨by rw [HE.out.2.2]; exact hfull, rfl⟩] at hRR
                  have HR := Lib.hid hRR
                  clear hin ef hir etot hmany hRR hfull hfew
                  go_enter Tryz.func60, Tryz.ntmps60
                  go_wp2_with fail
                  refine HN.out.mono ?_
                  rintro e w' ⟨rfl, rfl⟩
                  go_wp2_with fail
                  refine HB2.out.mono ?_
                  rintro e w1 ⟨v, rfl, hk1, rfl⟩
                  have d01 := hk1.cell d0 id
                  have HK1 := Lib.hid hk1
                  clear hk1 d0
                  go_wp2_with fail
                  refine (HT.out w1 HK1.out).mono ?_
                  rintro e w' ⟨rfl, rfl⟩
                  go_wp2_with fail
                  refine (HFind.out w1 HK1.out).mono ?_
                  rintro e w2 ⟨v, rfl, hk2, rfl⟩
                  have HK2 := Lib.hid (HK1.out.trans hk2)
                  clear hk2
                  go_wp2_with fail
                  refine (HLen.out w2 HK2.out).mono ?_
                  rintro e w3 ⟨v, rfl, hk3, rfl⟩
                  have HK3 := Lib.hid (HK2.out.trans hk3)
                  have d13 := HK3.out.cell d1 id
                  clear hk3 d1
                  go_wp2
                  go_ret2
                  exact refBAdd_same H.out.1 H.out.2.1 HK3.out HR.out (by decide)
                · have t5 : decide ((ln : Int) ≥ 65536) = false := by simp; omega
                  have t6 : decide ((65536 : Int) ≤ (ln : Int)) = false := by simp; omega
                  rw [if_neg (fun h => hfull (by rw [← HE.out.2.2]; exact h.1))] at hRR
                  have hadd := rowsAdd_ok (n := g.ar) (LL := g.LL) (ss := ss) HAo.out.1 HT2.out (fun h => hfull (by rw [← HE.out.2.2]; exact h.1))
                  have HIn := Lib.hid (And.intro hRR (And.intro hadd hin))
                  clear hin ef hir etot hmany hRR hfull hfew hadd
                  go_enter Tryz.func60, Tryz.ntmps60
                  go_wp2_with fail
                  refine HN.out.mono ?_
                  rintro e w' ⟨rfl, rfl⟩
                  go_wp2_with fail
                  refine HB2.out.mono ?_
                  rintro e w1 ⟨v, rfl, hk1, rfl⟩
                  have d01 := hk1.cell d0 id
                  have HK1 := Lib.hid hk1
                  clear hk1 d0
                  go_wp2_with fail
                  refine (HT.out w1 HK1.out).mono ?_
                  rintro e w' ⟨rfl, rfl⟩
                  go_wp2_with fail
                  refine (HFind.out w1 HK1.out).mono ?_
                  rintro e w2 ⟨v, rfl, hk2, rfl⟩
                  have HK2 := Lib.hid (HK1.out.trans hk2)
                  clear hk2
                  go_wp2_with fail
                  refine (HLen.out w2 HK2.out).mono ?_
                  rintro e w3 ⟨v, rfl, hk3, rfl⟩
                  have HK3 := Lib.hid (HK2.out.trans hk3)
                  have d13 := HK3.out.cell d1 id
                  clear hk3 d1
                  go_wp2_with fail
                  refine (HAdd.out w3 HK3.out).mono ?_
                  rintro e w4 ⟨v, rfl, hk4, hv, S', hS', hr4⟩
                  rw [HIn.out.2.1.1, HIn.out.2.2] at hv
                  subst hv
                  have HK4 := Lib.hid (And.intro hk4 (And.intro hS' hr4))
                  clear hk4 hS' hr4
                  go_wp2
                  go_ret2
                  have hfin := refBAdd_old (ss := ss) H.out.1 H.out.2.1 HF.out.1 (by rw [HIn.out.1, HIn.out.2.2]) HAo.out.1.symm HK3.out (by rw [HE.out.1]; exact HK4.out.1) HK4.out.2.1 (by rw [HE.out.1]; rw [← HIn.out.2.1.2]; exact HK4.out.2.2)
                  rw [HIn.out.2.2] at hfin
                  exact hfin
        · have q1 : ((ar : Int) != (m : Int)) = true := by rw [bne_iff_ne]; omega
          have t1 : decide ((m : Int) > 64) = false := by simp; omega
          have t2 : decide (64 < (m : Int)) = false := by simp; omega
          have hR := addR_arity (row := ss) HNM.out HF.out.2.1 (by rw [← HX.out.1]; show g.ar ≠ m; rw [HE.out.2.1]; exact har)
          have HR := Lib.hid hR
          clear har hR h64 hm8 har64 d1
          go_enter Tryz.func60, Tryz.ntmps60
          go_wp2_with fail
          refine HN.out.mono ?_
          rintro e w' ⟨rfl, rfl⟩
          go_wp2_with fail
          refine HB2.out.mono ?_
          rintro e w1 ⟨v, rfl, hk1, rfl⟩
          have d01 := hk1.cell d0 id
          have HK1 := Lib.hid hk1
          clear hk1 d0
          go_wp2
          go_ret2
          exact refBAdd_same H.out.1 H.out.2.1 HK1.out HR.out (by decide)
      · have t1 : decide ((m : Int) > 64) = true := by simp; omega
        have t2 : decide (64 < (m : Int)) = true := by simp; omega
        have hR := addR_arity (row := ss) HNM.out HF.out.2.1 (by rw [← HX.out.1]; show g.ar ≠ m; rw [HE.out.2.1]; omega)
        have HR := Lib.hid hR
        clear hR h64 hm8 har64 d0 d1
        go_enter Tryz.func60, Tryz.ntmps60
        go_wp2_with fail
        refine HN.out.mono ?_
        rintro e w' ⟨rfl, rfl⟩
        go_wp2_with fail
        refine HB2.out.mono ?_
        rintro e w1 ⟨v, rfl, hk1, rfl⟩
        have HK1 := Lib.hid hk1
        clear hk1
        go_wp2
        go_ret2
        exact refBAdd_same H.out.1 H.out.2.1 HK1.out HR.out (by decide)
    | none =>
      obtain ⟨hget, hno⟩ := findR2_none hf
      have HB := Lib.hid (refBRows_any H.out.1 s)
      rw [hf] at HB
      have HB2 := Lib.hid (show Calls Tryz.prog 96 #[.pointer (some ⟨cb, 0, none⟩), .string s] w (RetN w fun w' v => v = .pointer none) from HB.out)
      have HLen := Lib.hid (fun W (hW : Ext w W) => refBLen_any (H.out.1.ext hW) (by have := H.out.2.1.ok.few; omega))
      have HF := Lib.hid (And.intro hf (And.intro hget hno))
      clear hf hget hno HB
      by_cases h64 : m ≤ 64
      · have t1 : decide ((m : Int) > 64) = false := by simp; omega
        have t2 : decide (64 < (m : Int)) = false := by simp; omega
        have hss : ss.length ≤ 64 := by rw [← HX.out.1]; exact h64
        have hao : arOk (cntR G) s ss = true := ar_none HF.out.2.1 hss
        have HAo := Lib.hid (And.intro hss hao)
        clear hss hao h64 hm8
        cases ht : textsC ss with
        | false =>
          have HT2 := Lib.hid ht
          rw [ht] at HT
          clear ht
          go_enter Tryz.func60, Tryz.ntmps60
          go_wp2_with fail
          refine HN.out.mono ?_
          rintro e w' ⟨rfl, rfl⟩
          go_wp2_with fail
          refine HB2.out.mono ?_
          rintro e w1 ⟨v, rfl, hk1, rfl⟩
          have HK1 := Lib.hid hk1
          clear hk1
          go_wp2_with fail
          refine (HT.out w1 HK1.out).mono ?_
          rintro e w' ⟨rfl, rfl⟩
          go_wp2
          go_ret2
          exact refBAdd_same H.out.1 H.out.2.1 HK1.out (addR_text HNM.out HAo.out.2 HT2.out) (by decide)
        | true =>
          have HT2 := Lib.hid ht
          rw [ht] at HT
          clear ht
          have hir : isIn cmpRow (rowsC (cntR G) s) ss = false := by rw [rows_none HF.out.2.1]; rfl
          obtain ⟨tot, etot⟩ : ∃ tot, totalC (cntR G) = tot := ⟨_, rfl⟩
          rw [etot] at HLen
          by_cases hmany : 262144 ≤ tot
          · have t3 : decide ((tot : Int) ≥ 262144) = true := by simp; omega
            have t4 : decide ((262144 : Int) ≤ (tot : Int)) = true := by simp; omega
            have HR := Lib.hid (addR_many (C := cntR G) HNM.out HAo.out.2 HT2.out (by rw [etot]; exact hmany) hir)
            clear hir etot hmany
            go_enter Tryz.func60, Tryz.ntmps60
            go_wp2_with fail
            refine HN.out.mono ?_
            rintro e w' ⟨rfl, rfl⟩
            go_wp2_with fail
            refine HB2.out.mono ?_
            rintro e w1 ⟨v, rfl, hk1, rfl⟩
            have HK1 := Lib.hid hk1
            clear hk1
            go_wp2_with fail
            refine (HT.out w1 HK1.out).mono ?_
            rintro e w' ⟨rfl, rfl⟩
            go_wp2_with fail
            refine (refRowFind_nil _ w1).mono ?_
            rintro e w' ⟨rfl, rfl⟩
            go_wp2_with fail
            refine (HLen.out w1 HK1.out).mono ?_
            rintro e w3 ⟨v, rfl, hk3, rfl⟩
            have HK3 := Lib.hid (HK1.out.trans hk3)
            clear hk3
            go_wp2
            go_ret2
            exact refBAdd_same H.out.1 H.out.2.1 HK3.out HR.out (by decide)
          · have t3 : decide ((tot : Int) ≥ 262144) = false := by simp; omega
            have t4 : decide ((262144 : Int) ≤ (tot : Int)) = false := by simp; omega
            have hRR := addR_rest (C := cntR G) (row := ss) HNM.out HAo.out.2 HT2.out (by rw [etot]; omega)
            rw [rows_none HF.out.2.1, if_neg (by simp)] at hRR
            have hadd := rowsAdd_ok (n := ss.length) (LL := []) (ss := ss) rfl HT2.out (by simp)
            have HIn := Lib.hid (And.intro hRR hadd)
            clear hir etot hmany hRR hadd
            have hcb : cb < w.heap.size := by obtain ⟨na, nc, aa, ac, hB, _⟩ := H.out.1.blk; exact hB.lt
            have HCb := Lib.hid hcb
            clear hcb
            go_enter Tryz.func60, Tryz.ntmps60
            go_wp2_with fail
            refine HN.out.mono ?_
            rintro e w' ⟨rfl, rfl⟩
            go_wp2_with fail
            refine HB2.out.mono ?_
            rintro e w1 ⟨v, rfl, hk1, rfl⟩
            have HK1 := Lib.hid hk1
            clear hk1
            go_wp2_with fail
            refine (HT.out w1 HK1.out).mono ?_
            rintro e w' ⟨rfl, rfl⟩
            go_wp2_with fail
            refine (refRowFind_nil _ w1).mono ?_
            rintro e w' ⟨rfl, rfl⟩
            go_wp2_with fail
            refine (HLen.out w1 HK1.out).mono ?_
            rintro e w3 ⟨v, rfl, hk3, rfl⟩
            have HK3 := Lib.hid (HK1.out.trans hk3)
            clear hk3
            go_wp2_with fail
            obtain ⟨gc, egc⟩ : ∃ gc, w3.heap.size = gc := ⟨_, rfl⟩
            obtain ⟨w4, ew4⟩ : ∃ w4, w3.alloc (.cells #[.int .i64 m, .slice none 0 0] 149) = w4 := ⟨_, rfl⟩
            rw [egc, ew4]
            have hz3 := HK3.out.size
            have hB4 : Blk w4 gc [.int .i64 m, .slice none 0 0] 149 := by rw [← ew4, ← egc]; exact Blk.new w3 [_, _] _
            have hk4 : Ext w w4 := by rw [← ew4]; exact HK3.out.alloc _
            have hr4 : RefRows S w4 gc m [] := ⟨none, 0, hB4, RowsIn.nil _ _, ⟨Nat.le_refl _, by decide, .inl ⟨rfl, rfl⟩⟩, fun h => by have := H.out.1.inS _ h; omega, fun k h => Nat.lt_of_lt_of_le (H.out.1.inS k h) hk4.size, by simp⟩
            have HK4 := Lib.hid (And.intro hk4 (And.intro hr4 (show w.heap.size ≤ gc by omega)))
            have HP := Lib.hid (refBPut_any (H.out.1.ext hk4) H.out.2.1.names ⟨s, gc, m, []⟩ hr4 (fun x hx e => by have := (H.out.1.rows x hx).lt; simp only at e; omega) (fun e => by have := HCb.out; simp only at e; omega) H.out.2.2)
            clear hB4 hk4 hr4 ew4 egc hz3
            refine HP.out.mono ?_
            rintro e w5 ⟨v, rfl, hk5, S2, hS2, hb5⟩
            have hgm : (⟨s, gc, m, []⟩ : REnt) ∈ insN REnt.name G ⟨s, gc, m, []⟩ := (insN_perm REnt.name G _).mem_iff.2 (by simp)
            have hr5 : RefRows S2 w5 gc m [] := hb5.rows _ hgm
            have hx5 : CellsAt w5 xo (strs ss) := by
              by_cases e0 : ss = []
              · rw [e0]; exact CellsAt.nil _ _
              · exact (HX.out.2.1.ext HK4.out.1).kp hk5 fun a e f => HX.out.2.2.2 e0 a e f
            have HK5 := Lib.hid (And.intro hk5 (And.intro hS2 (And.intro hb5 (And.intro hr5 hx5))))
            clear hk5 hS2 hb5 hr5 hx5 hgm
            go_wp2_with fail
            refine (refAdd_any HK5.out.2.2.2.1 strict_nil (xc := xc) HX.out.1 HK5.out.2.2.2.2 HX.out.2.2.1 (by simp)).mono ?_
            rintro e w6 ⟨v, rfl, hk6, hv, S', hS', hr6⟩
            have hm2 := HX.out.1
            rw [hm2, HIn.out.2.1] at hv
            subst hv
            have HK6 := Lib.hid (And.intro hk6 (And.intro hS' hr6))
            clear hk6 hS' hr6 hm2
            go_wp2
            go_ret2
            have hm2 := HX.out.1
            have hr6 := HK6.out.2.2
            have hb5 := HK5.out.2.2.1
            have hr4 := HK4.out.2.1
            rw [hm2] at hr4 hb5 hr6
            rw [HIn.out.2.2] at hr6
            exact refBAdd_new H.out.1 H.out.2.1 HF.out.1 HNM.out HAo.out.1 HIn.out.1 HK4.out.1 HK4.out.2.2 hr4 HK5.out.1 HK5.out.2.1 hb5 HK6.out.1 HK6.out.2.1 hr6
      · have t1 : decide ((m : Int) > 64) = true := by simp; omega
        have t2 : decide (64 < (m : Int)) = true := by simp; omega
        have HR := Lib.hid (addR_long (row := ss) HNM.out HF.out.2.1 (by rw [← HX.out.1]; omega))
        clear h64 hm8
        go_enter Tryz.func60, Tryz.ntmps60
        go_wp2_with fail
        refine HN.out.mono ?_
        rintro e w' ⟨rfl, rfl⟩
        go_wp2_with fail
        refine HB2.out.mono ?_
        rintro e w1 ⟨v, rfl, hk1, rfl⟩
        have HK1 := Lib.hid hk1
        clear hk1
        go_wp2
        go_ret2
        exact refBAdd_same H.out.1 H.out.2.1 HK1.out HR.out (by decide)
end
end Go.Proofs.YtomeebimmmfmbaaGreat

/- The document's Base: Relations. -/
namespace Go.Proofs.YtomeebimmmfmbaaGreat
open Go.RowKit
set_option linter.unusedVariables false

theorem relsC_at {G : List REnt} (ho : RefOk G) {i : Nat} {g : REnt} (hg : G[i]? = some g) : (relsC (cntR G))[i]? = some (g.name, (g.ar : Int), g.LL, ()) := by
  rw [rels_sorted (by rw [cntR_names]; exact ho.names), List.getElem?_map]
  unfold cntR
  rw [List.getElem?_map, hg]; rfl
set_option maxRecDepth 100000 in
set_option maxHeartbeats 4000000 in
theorem refBRels_any {S : Nat → Prop} {w : World} {cb : Nat} {G : List REnt} (h : RefB S w cb G) (ho : RefOk G) (hl : G.length ≤ 2097152) :
    Calls Tryz.prog 29 #[.pointer (some ⟨cb, 0, none⟩)] w (RetN w fun w' v => RelsV w.heap.size w' v (relsC (cntR G))) := by
  have H := Lib.hid (And.intro h ho)
  obtain ⟨na, nc, aa, ac, hB, hN, hA, _, _⟩ := h.blk
  obtain ⟨n, en⟩ : ∃ n, G.length = n := ⟨_, rfl⟩
  rw [en] at hB hl
  have hLn : (relsC (cntR G)).length = n := by rw [rels_sorted (by rw [cntR_names]; exact ho.names), List.length_map, cntR, List.length_map, en]
  have HAt := Lib.hid (fun i g hg => relsC_at ho (i := i) (g := g) hg)
  obtain ⟨L, eL⟩ : ∃ L, relsC (cntR G) = L := ⟨_, rfl⟩
  rw [eL] at hLn HAt ⊢
  have HL := Lib.hid (And.intro eL hLn)
  have HG := Lib.hid (And.intro en (And.intro hB (And.intro hN hA)))
  have c0 : w.cell? ⟨cb, 0, none⟩ = some (.slice na n nc) := by rw [hB.cell']; rfl
  have c1 : w.cell? ⟨cb, 1, none⟩ = some (.slice aa n ac) := by rw [hB.cell']; rfl
  have HC := Lib.hid (fun W (hW : Ext w W) => (⟨hW.cell c0 id, hW.cell c1 id⟩ : W.cell? ⟨cb, 0, none⟩ = some (.slice na n nc) ∧ W.cell? ⟨cb, 1, none⟩ = some (.slice aa n ac)))
  clear h ho eL hLn en hB hN hA
  go_enter Tryz.func29, Tryz.ntmps29
  go_wp2
  clear c0 c1
  go_loopw [4, 3] (fun iv ov wr => RelTo L w n iv ov wr) (fun iv _ _ => n - (intOf iv).toNat)
  case atStart => exact ⟨0, Nat.zero_le _, rfl, Kp.refl _, [], rfl, Row.nil _ _ _ _, fun x hx => by simp at hx⟩
  case round =>
    obtain ⟨i, hi, rfl, hex, hin⟩ := hrel
    obtain ⟨c0, c1⟩ := HC.out wr hex.out
    by_cases hlt : i < n
    · obtain ⟨g, hg⟩ : ∃ g, G[i]? = some g := ⟨_, List.getElem?_eq_getElem (by rw [HG.out.1]; exact hlt)⟩
      have hq := HAt.out i g hg
      have hgm := List.mem_of_getElem? hg
      obtain ⟨nb, no, ena, d0⟩ := HG.out.2.2.1 i (.string g.name) (by simp [strs, hg])
      obtain ⟨ab, ao, eaa, d1⟩ := HG.out.2.2.2 i g.ptr (by simp [hg])
      subst ena eaa
      have hrows := H.out.1.rows g hgm
      have hfew : g.LL.length ≤ 65536 := (H.out.2.ok.all g.cnt (List.mem_map.2 ⟨g, hgm, rfl⟩)).few
      obtain ⟨d2, _⟩ := refRows_cell hrows
      have HRA := Lib.hid (fun w' (hw : Ext wr w') => refAll_any ((hrows.ext hex.out).ext hw))
      obtain ⟨s, es⟩ : ∃ s, g.name = s := ⟨_, rfl⟩
      obtain ⟨p, ep⟩ : ∃ p, g.c = p := ⟨_, rfl⟩
      obtain ⟨ar, ear⟩ : ∃ ar, g.ar = ar := ⟨_, rfl⟩
      obtain ⟨LL, eLL⟩ : ∃ LL, g.LL = LL := ⟨_, rfl⟩
      have ept : g.ptr = .pointer (some ⟨p, 0, none⟩) := by rw [← ep]; rfl
      rw [es] at d0
      rw [ept] at d1
      rw [ep, ear] at d2
      rw [es, ear, eLL] at hq
      rw [ep, eLL] at HRA
      rw [eLL] at hfew
      have HQ := Lib.hid hq
      obtain ⟨m, em⟩ : ∃ m, LL.length = m := ⟨_, rfl⟩
      have hm : m ≤ 65536 := by rw [← em]; exact hfew
      have EM := Lib.hid em
      have HCells := Lib.hid (show ∀ w', Ext wr w' → (fun w' : World => w'.cell? ⟨cb, 0, none⟩ = some (.slice (some ⟨nb, no, none⟩) n nc) ∧ w'.cell? ⟨cb, 1, none⟩ = some (.slice (some ⟨ab, ao, none⟩) n ac) ∧ w'.cell? ⟨nb, no + i, none⟩ = some (.string s) ∧ w'.cell? ⟨ab, ao + i, none⟩ = some (.pointer (some ⟨p, 0, none⟩)) ∧ w'.cell? ⟨p, 0, none⟩ = some (.int .i64 ar)) w' from fun w' hw => ⟨hw.cell c0 id, hw.cell c1 id, hw.cell (hex.out.cell d0 id) id, hw.cell (hex.out.cell d1 id) id, hw.cell (hex.out.cell d2 id) id⟩)
      obtain ⟨vs, hvs, hrow, hds⟩ := hin.out
      obtain ⟨oa, oc, eov, _, _⟩ := hrow.shape
      subst eov
      have HRow := Lib.hid (And.intro hvs (And.intro hrow hds))
      clear hg hq hgm d0 d1 d2 hrows hfew es ep ear eLL ept em hvs hrow hds hin
      go_wp2
      refine draw_begin (fun w' : World => w'.cell? ⟨cb, 0, none⟩ = some (.slice (some ⟨nb, no, none⟩) n nc) ∧ w'.cell? ⟨cb, 1, none⟩ = some (.slice (some ⟨ab, ao, none⟩) n ac) ∧ w'.cell? ⟨nb, no + i, none⟩ = some (.string s) ∧ w'.cell? ⟨ab, ao + i, none⟩ = some (.pointer (some ⟨p, 0, none⟩)) ∧ w'.cell? ⟨p, 0, none⟩ = some (.int .i64 ar)) [28] (by kernel_rfl) (HCells.out _ (Kp.refl wr).drew) (fun hHeld => ?_)
      (refine draw_free (i := 0) (v := ?_) rfl ?_ ?_; rotate_left; (intro w; go_simp; try with_reducible rfl)); (try simp only [Act.put, List.setIfInBounds_toArray, List.set_cons_zero, List.set_cons_succ])
      (refine draw_free (i := 1) (v := ?_) rfl ?_ ?_; rotate_left; (intro w; go_simp; try with_reducible rfl)); (try simp only [Act.put, List.setIfInBounds_toArray, List.set_cons_zero, List.set_cons_succ])
      (refine draw_free (i := 2) (v := ?_) rfl ?_ ?_; rotate_left; (intro w; go_simp; try with_reducible rfl)); (try simp only [Act.put, List.setIfInBounds_toArray, List.set_cons_zero, List.set_cons_succ])
      (refine draw_free (i := 3) (v := ?_) rfl ?_ ?_; rotate_left; (intro w; go_simp; try with_reducible rfl)); (try simp only [Act.put, List.setIfInBounds_toArray, List.set_cons_zero, List.set_cons_succ])
      (refine draw_in (i := 4) (v := ?_) rfl ?_ ?_; rotate_left; (intro w hSw; (try dsimp only at hSw); go_simp; try with_reducible rfl)); (try simp only [Act.put, List.setIfInBounds_toArray, List.set_cons_zero, List.set_cons_succ])
      (refine draw_free (i := 5) (v := ?_) rfl ?_ ?_; rotate_left; (intro w; go_simp; try with_reducible rfl)); (try simp only [Act.put, List.setIfInBounds_toArray, List.set_cons_zero, List.set_cons_succ])
      (refine draw_in (i := 6) (v := ?_) rfl ?_ ?_; rotate_left; (intro w hSw; (try dsimp only at hSw); go_simp; try with_reducible rfl)); (try simp only [Act.put, List.setIfInBounds_toArray, List.set_cons_zero, List.set_cons_succ])
      (refine draw_in (i := 7) (v := ?_) rfl ?_ ?_; rotate_left; (intro w hSw; (try dsimp only at hSw); go_simp; try with_reducible rfl)); (try simp only [Act.put, List.setIfInBounds_toArray, List.set_cons_zero, List.set_cons_succ])
      (refine draw_free (i := 8) (v := ?_) rfl ?_ ?_; rotate_left; (intro w; go_simp; try with_reducible rfl)); (try simp only [Act.put, List.setIfInBounds_toArray, List.set_cons_zero, List.set_cons_succ])
      (refine draw_free (i := 9) (v := ?_) rfl ?_ ?_; rotate_left; (intro w; go_simp; try with_reducible rfl)); (try simp only [Act.put, List.setIfInBounds_toArray, List.set_cons_zero, List.set_cons_succ])
      (refine draw_free (i := 10) (v := ?_) rfl ?_ ?_; rotate_left; (intro w; go_simp; try with_reducible rfl)); (try simp only [Act.put, List.setIfInBounds_toArray, List.set_cons_zero, List.set_cons_succ])
      (refine draw_in (i := 11) (v := ?_) rfl ?_ ?_; rotate_left; (intro w hSw; (try dsimp only at hSw); go_simp; try with_reducible rfl)); (try simp only [Act.put, List.setIfInBounds_toArray, List.set_cons_zero, List.set_cons_succ])
      (refine draw_free (i := 12) (v := ?_) rfl ?_ ?_; rotate_left; (intro w; go_simp; try with_reducible rfl)); (try simp only [Act.put, List.setIfInBounds_toArray, List.set_cons_zero, List.set_cons_succ])
      (refine draw_in (i := 13) (v := ?_) rfl ?_ ?_; rotate_left; (intro w hSw; (try dsimp only at hSw); go_simp; try with_reducible rfl)); (try simp only [Act.put, List.setIfInBounds_toArray, List.set_cons_zero, List.set_cons_succ])
      (refine draw_in (i := 14) (v := ?_) rfl ?_ ?_; rotate_left; (intro w hSw; (try dsimp only at hSw); go_simp; try with_reducible rfl)); (try simp only [Act.put, List.setIfInBounds_toArray, List.set_cons_zero, List.set_cons_succ])
      (refine draw_free (i := 15) (v := ?_) rfl ?_ ?_; rotate_left; (intro w; go_simp; try with_reducible rfl)); (try simp only [Act.put, List.setIfInBounds_toArray, List.set_cons_zero, List.set_cons_succ])
      (refine draw_free (i := 16) (v := ?_) rfl ?_ ?_; rotate_left; (intro w; go_simp; try with_reducible rfl)); (try simp only [Act.put, List.setIfInBounds_toArray, List.set_cons_zero, List.set_cons_succ])
      (refine draw_in (i := 17) (v := ?_) rfl ?_ ?_; rotate_left; (intro w hSw; (try dsimp only at hSw); go_simp; try with_reducible rfl)); (try simp only [Act.put, List.setIfInBounds_toArray, List.set_cons_zero, List.set_cons_succ])
      (refine draw_free (i := 18) (v := ?_) rfl ?_ ?_; rotate_left; (intro w; go_simp; try with_reducible rfl)); (try simp only [Act.put, List.setIfInBounds_toArray, List.set_cons_zero, List.set_cons_succ])
      (refine draw_free (i := 19) (v := ?_) rfl ?_ ?_; rotate_left; (intro w; go_simp; try with_reducible rfl)); (try simp only [Act.put, List.setIfInBounds_toArray, List.set_cons_zero, List.set_cons_succ])
      (refine draw_free (i := 20) (v := ?_) rfl ?_ ?_; rotate_left; (intro w; go_simp; try with_reducible rfl)); (try simp only [Act.put, List.setIfInBounds_toArray, List.set_cons_zero, List.set_cons_succ])
      (refine draw_in (i := 21) (v := ?_) rfl ?_ ?_; rotate_left; (intro w hSw; (try dsimp only at hSw); go_simp; try with_reducible rfl)); (try simp only [Act.put, List.setIfInBounds_toArray, List.set_cons_zero, List.set_cons_succ])
      (refine draw_free (i := 22) (v := ?_) rfl ?_ ?_; rotate_left; (intro w; go_simp; try with_reducible rfl)); (try simp only [Act.put, List.setIfInBounds_toArray, List.set_cons_zero, List.set_cons_succ])
      (refine draw_in (i := 23) (v := ?_) rfl ?_ ?_; rotate_left; (intro w hSw; (try dsimp only at hSw); go_simp; try with_reducible rfl)); (try simp only [Act.put, List.setIfInBounds_toArray, List.set_cons_zero, List.set_cons_succ])
      (refine draw_in (i := 24) (v := ?_) rfl ?_ ?_; rotate_left; (intro w hSw; (try dsimp only at hSw); go_simp; try with_reducible rfl)); (try simp only [Act.put, List.setIfInBounds_toArray, List.set_cons_zero, List.set_cons_succ])
      refine draw_one (i := 25) ?_
      refine comes_turn (i := 25) rfl (fun K hK => ?_)
      go_simp
      (refine (HRA.out _ (Kp.refl wr).drew).mono ?_; rintro e w5 ⟨v, rfl, hk3, hown⟩; have X5 := Lib.hid (show Ext wr w5 from ((Kp.refl wr).drew).trans hk3); obtain ⟨ya, yc, rfl, _, _⟩ := hown.slice; rw [EM.out] at hown; rw [EM.out]; have HO := Lib.hid hown; clear hk3 hown)
      go_wp2_with fail
      refine hK.out _ _ ?_ (fun hHeld => ?_)
      · (try dsimp only); (exact HCells.out _ X5.out)
      clear hK K; (try simp only [Act.put, List.setIfInBounds_toArray, List.set_cons_zero, List.set_cons_succ])
      (refine draw_free (i := 26) (v := ?_) rfl ?_ ?_; rotate_left; (intro w; go_simp; try with_reducible rfl)); (try simp only [Act.put, List.setIfInBounds_toArray, List.set_cons_zero, List.set_cons_succ])
      refine draw_one (i := 27) ?_
      refine comes_turn (i := 27) rfl (fun K hK => ?_)
      go_simp
      refine hK.out _ _ ?_ (fun hHeld => ?_)
      · (try dsimp only); (exact HCells.out _ (X5.out.alloc _))
      clear hK K; (try simp only [Act.put, List.setIfInBounds_toArray, List.set_cons_zero, List.set_cons_succ])
      refine draw_one (i := 28) ?_
      refine comes_late (i := 28) rfl (by kernel_rfl) (fun K hK => ?_)
      refine draw_appN elem_rel rfl _ _ rfl ((hex.out.trans X5.out).alloc _) rfl ((HRow.out.2.1.ext X5.out).alloc _) rfl (CellsAt.new w5 [.string s, .int .i64 ar, .slice ya m yc] 71) (by rfl) (by simp [Value.oneCell']) (by omega) (by unfold maxLen; omega) ?_; intro v1 w6 hr1 hk1 hk2
      refine hK.out _ _ ?_
      clear hK K; (try simp only [Act.put, List.setIfInBounds_toArray, List.set_cons_zero, List.set_cons_succ])
      (refine draw_free (i := 29) (v := ?_) rfl ?_ ?_; rotate_left; (intro w; go_simp; try with_reducible rfl)); (try simp only [Act.put, List.setIfInBounds_toArray, List.set_cons_zero, List.set_cons_succ])
      refine wpAnyD_done (by kernel_rfl) ?_ _
      have HFin := Lib.hid (show ∃ vs, vs.length = i + 1 ∧ Row w6 71 3 v1 (i + 1) (((L.take (i + 1)).zip vs).flatMap relCells) (New w) ∧ ∀ x ∈ (L.take (i + 1)).zip vs, RelAt w w6 x by
        have hlen : (L.take i).length = vs.length := by rw [List.length_take, HRow.out.1]; have := HL.out.2; omega
        have et := takeSnoc HQ.out
        have hrA := (HRow.out.2.1.ext X5.out).alloc (.cells #[.string s, .int .i64 ar, .slice ya m yc] 71)
        refine ⟨vs ++ [(ya, yc)], by rw [List.length_append, HRow.out.1]; rfl, ?_, ?_⟩
        · rw [et, List.zip_append hlen, List.flatMap_append]
          have e2 : (([(s, (ar : Int), LL, ())].zip [(ya, yc)]).flatMap relCells) = [.string s, .int .i64 ar, .slice ya m yc] := by
            show relCells ((s, (ar : Int), LL, ()), (ya, yc)) ++ [] = _
            rw [List.append_nil]
            show [Value.string s, .int .i64 ar, .slice ya LL.length yc] = _
            rw [EM.out]
          rw [e2]; exact hr1
        · intro x hx
          rw [et, List.zip_append hlen, List.mem_append] at hx
          rcases hx with hx | hx
          · exact RelAt.row (OwnRows.ext (OwnRows.ext (HRow.out.2.2 x hx) X5.out) ((Kp.refl _).alloc _)) hrA hk2
          · have hx' : x = ((s, (ar : Int), LL, ()), (ya, yc)) := by simpa using hx
            subst hx'
            have ho : RelAt w w5 ((s, (ar : Int), LL, ()), (ya, yc)) := by
              show OwnRows w.heap.size w5 (.slice ya LL.length yc) LL
              rw [EM.out]
              exact OwnRows.mono HO.out hex.out.size
            exact RelAt.row (OwnRows.ext ho ((Kp.refl _).alloc _)) hrA hk2)
      have HX6 := Lib.hid hk1
      clear hr1 hk1 hk2 hHeld HCells HO X5 HRow c0 c1
      go_wp2
      go_roundw
      case rel => exact ⟨i + 1, by omega, by first | rfl | (congr 1; done) | (congr 1; omega), HX6.out, HFin.out⟩
      case measure => simp [intOf]; omega
    · obtain rfl : i = n := by omega
      obtain ⟨vs, hvs, hrow, hds⟩ := hin.out
      have hall : L.take i = L := List.take_of_length_le (by have := HL.out.2; omega)
      rw [hall] at hrow hds
      rw [← HL.out.2] at hrow hvs
      have hV := rels_own hvs hrow hds
      have HV := Lib.hid hV
      clear hin hvs hrow hds hall hV
      go_wp2
      go_ret
      exact RetN.mk hex.out HV.out
end Go.Proofs.YtomeebimmmfmbaaGreat

/- The document's counts: Gather. -/
namespace Go.Proofs.YtomeebimmmfmbaaGreat
open Go.RowKit
set_option linter.unusedVariables false
attribute [local go_sem] run_store_float

/-- How many unlike texts so far. -/
def NubN (w0 : World) (l : List ByteArray) (m : Nat) (kv nv : Value) (w : World) : Prop := ∃ k : Nat, k ≤ m ∧ kv = .int .i64 k ∧ nv = .int .i64 ((nubTo l k).length : Nat) ∧ Hid (Ext w0 w)
/-- Is it the first of its kind, so far? -/
def FirstN (w0 : World) (l : List ByteArray) (s : ByteArray) (m : Nat) (jv fv : Value) (w : World) : Prop := ∃ (j : Nat) (b : Bool), j ≤ m ∧ jv = .int .i64 j ∧ fv = .bool b ∧ Hid (b = true ↔ s ∉ l.take j) ∧ Hid (Ext w0 w)
theorem firstN_next {l : List ByteArray} {s t : ByteArray} {j : Nat} {b : Bool} (hb : b = true ↔ s ∉ l.take j) (ht : l[j]? = some t) : (b && !decide (t = s)) = true ↔ s ∉ l.take (j + 1) := by
  rw [List.take_add_one, ht, Bool.and_eq_true, hb, List.mem_append]
  simp only [Option.toList_some, List.mem_singleton, Bool.not_eq_true', decide_eq_false_iff_not, not_or]
  exact ⟨fun h => ⟨h.1, fun e => h.2 e.symm⟩, fun h => ⟨h.1, fun e => h.2 e.symm⟩⟩

set_option maxRecDepth 100000 in
set_option maxHeartbeats 8000000 in
theorem refGather_any {S : Nat → Prop} {w : World} {cb : Nat} {G : List REnt} (h : RefB S w cb G) (ho : RefOk G) (hl : G.length ≤ 1048576) (hf : ∀ q ∈ relsC (cntR G), RelFit q) :
    Calls Tryz.prog 9 #[.pointer (some ⟨cb, 0, none⟩)] w (RetN w fun w' v => ∃ a c, v = .slice a (relsC (cntR G)).length c ∧ StatsAt w' a ((relsC (cntR G)).map gatS)) := by
  have HR := Lib.hid (refBRels_any h ho (by omega))
  have hll : (relsC (cntR G)).length ≤ 1048576 := by rw [rels_sorted (by rw [cntR_names]; exact ho.names), List.length_map, cntR, List.length_map]; exact hl
  obtain ⟨L, eL⟩ : ∃ L, relsC (cntR G) = L := ⟨_, rfl⟩
  rw [eL] at hf hll HR ⊢
  obtain ⟨n, en⟩ : ∃ n, n = L.length := ⟨_, rfl⟩
  rw [← en] at hll
  have HN := Lib.hid en
  have HF := Lib.hid hf
  clear h ho hl hf eL en
  go_enter Tryz.func9, Tryz.ntmps9
  go_wp2_with fail
  refine HR.out.mono ?_
  rintro e w1 ⟨v1, rfl, hk1, la, lc, rfl, hlc1, hlc2, hin⟩
  rw [← HN.out] at hlc1 ⊢
  have HIn := Lib.hid (And.intro hk1 (And.intro hin (And.intro hlc1 hlc2)))
  clear hk1 hin hlc1 hlc2 HR
  go_wp2
  go_loopw [5, 3] (fun iv ov wr => PlainTo (L.map gatS) w1 n iv ov wr) (fun iv _ _ => n - (intOf iv).toNat)
  case atStart => exact ⟨0, Nat.zero_le _, rfl, ⟨[], rfl, Row.nil _ _ _ _, fun x hx => by simp at hx⟩, Kp.refl _⟩
  case round =>
    obtain ⟨i, hi, rfl, hin, hex⟩ := hrel
    by_cases hlt : i < n
    · obtain ⟨q, hq⟩ : ∃ q, L[i]? = some q := ⟨_, List.getElem?_eq_getElem (by rw [← HN.out]; exact hlt)⟩
      obtain ⟨b, off, ra, rcap, eao, -, c0, c1, c2, d1, d2, hrows⟩ := HIn.out.2.1 i q hq
      subst eao
      have hqf := HF.out q (List.mem_of_getElem? hq)
      obtain ⟨p, ep⟩ : ∃ p, p = q.1 := ⟨_, rfl⟩
      obtain ⟨ar, ear⟩ : ∃ ar : Nat, q.2.1 = (ar : Int) := ⟨q.2.1.toNat, by have := hqf.ar0; omega⟩
      obtain ⟨LL, eLL⟩ : ∃ LL, LL = q.2.2.1 := ⟨_, rfl⟩
      obtain ⟨m, em⟩ : ∃ m, m = LL.length := ⟨_, rfl⟩
      have har := hqf.ar
      have hm := hqf.few
      have hlen := hqf.len
      rw [ear] at c1 har hlen
      rw [← ep] at c0
      rw [← eLL] at hm hlen d1 hrows
      rw [← eLL, ← em] at c2
      rw [← em] at hm d1
      have HQ := Lib.hid (And.intro hq (And.intro ep (And.intro ear (And.intro eLL em))))
      have HLen := Lib.hid hlen
      have HRows := Lib.hid hrows
      have har64 : ar ≤ 64 := by omega
      have HC := Lib.hid (fun W (hW : Ext w1 W) => (⟨hW.cell c0 id, hW.cell c1 id, hW.cell c2 id⟩ : W.cell? ⟨b, off + i * 3, none⟩ = some (.string p) ∧ W.cell? ⟨b, off + i * 3 + 1, none⟩ = some (.int .i64 ar) ∧ W.cell? ⟨b, off + i * 3 + 2, none⟩ = some (.slice ra m rcap)))
      clear hq ep ear eLL em hqf hlen hrows c0 c1 c2 har
      obtain ⟨c0, c1, c2⟩ := HC.out wr hex.out
      go_wp2
      obtain ⟨gx, eg⟩ : ∃ g, wr.heap.size = g := ⟨_, rfl⟩
      obtain ⟨r, er⟩ : ∃ r, floatOfInt .f64 (m : Int) = r := ⟨_, rfl⟩
      rw [eg, er]
      obtain ⟨w2, ew2⟩ : ∃ x, wr.alloc (.cells #[.string p, .float .f64 r, .slice none 0 0] 49) = x := ⟨_, rfl⟩
      rw [ew2]
      have HGX := Lib.hid (show Blk w2 gx [.string p, .float .f64 r, .slice none 0 0] 49 by rw [← ew2, ← eg]; exact Blk.new wr _ _)
      have X2 := Lib.hid (show Ext wr w2 by rw [← ew2]; exact (Kp.refl wr).alloc _)
      have EGX := Lib.hid (And.intro (show wr.heap.size ≤ gx by rw [eg]; exact Nat.le_refl _) er)
      clear ew2 eg er c0 c1 c2
      generalize hw5 : wr = w5 at *; clear hw5
      go_loopw [8] (fun kv wk => DistTo (colsN LL ar) p r gx w5 ar kv wk) (fun kv _ => ar - (intOf kv).toNat)
      case atStart => exact ⟨0, Nat.zero_le _, rfl, ⟨_, HGX.out, Row.nil _ _ _ _⟩, X2.out⟩
      case round =>
        obtain ⟨c, hc, rfl, hin2, hex2⟩ := hrel
        obtain ⟨dv, hB, hr⟩ := hin2.out
        obtain ⟨ba, bc, edv, _, _⟩ := hr.shape
        subst edv
        obtain ⟨c0, c1, c2⟩ := HC.out wr (hex.out.trans hex2.out)
        have HBj := Lib.hid hB
        have HRj := Lib.hid hr
        clear hin2 hB hr c0 c2
        by_cases hlt2 : c < ar
        · go_wp2
          clear c1
          generalize hw6 : wr = w6 at *; clear hw6
          have HX6 := Lib.hid (hex.out.trans hex2.out)
          go_loopw [10, 9] (fun kv nv wk => NubN w6 (colN LL c) m kv nv wk) (fun kv _ _ => m - (intOf kv).toNat)
          case atStart => exact ⟨0, Nat.zero_le _, rfl, rfl, Kp.refl _⟩
          case round =>
            obtain ⟨k, hk, rfl, rfl, hexk⟩ := hrel
            by_cases hlt3 : k < m
            · obtain ⟨rk, hrk⟩ : ∃ rk, LL[k]? = some rk := ⟨_, List.getElem?_eq_getElem (by rw [← HQ.out.2.2.2.2]; exact hlt3)⟩
              have hrl := HLen.out rk (List.mem_of_getElem? hrk)
              obtain ⟨s, hs⟩ : ∃ s, rk[c]? = some s := ⟨_, List.getElem?_eq_getElem (by omega)⟩
              have HK := Lib.hid (And.intro (colN_get hrk hs) (And.intro hrk hs))
              obtain ⟨nn, enn⟩ : ∃ nn, (nubTo (colN LL c) k).length = nn := ⟨_, rfl⟩
              have hnn := nubTo_len (colN LL c) k
              rw [enn] at hnn ⊢
              have ENN := Lib.hid enn
              clear hrk hs hrl enn
              go_wp2
              generalize hw7 : wr = w7 at *; clear hw7
              go_loopw [12, 11] (fun jv fv wk => FirstN w7 (colN LL c) s k jv fv wk) (fun jv _ _ => k - (intOf jv).toNat)
              case atStart => exact ⟨0, true, Nat.zero_le _, rfl, rfl, Lib.hid (by simp), Kp.refl _⟩
              case round =>
                obtain ⟨j, bj, hj, rfl, rfl, hbj, hexj⟩ := hrel
                by_cases hlt4 : j < k
                · obtain ⟨rj, hrj⟩ : ∃ rj, LL[j]? = some rj := ⟨_, List.getElem?_eq_getElem (by rw [← HQ.out.2.2.2.2]; omega)⟩
                  have hrl := HLen.out rj (List.mem_of_getElem? hrj)
                  obtain ⟨t, ht⟩ : ∃ t, rj[c]? = some t := ⟨_, List.getElem?_eq_getElem (by omega)⟩
                  have HJ := Lib.hid (colN_get hrj ht)
                  cases bj with
                  | false =>
                    have HNX := Lib.hid (show false = true ↔ s ∉ (colN LL c).take (j + 1) from by rw [← firstN_next hbj.out HJ.out]; simp)
                    clear hrj ht hrl hbj
                    go_wp2
                    go_quiet (fail)
                    go_wp2
                    go_roundw
                    case rel => exact ⟨j + 1, false, by omega, by first | rfl | (congr 1; done) | (congr 1; omega), rfl, HNX, Lib.hid (hexj.out.drewN _)⟩
                    case measure => simp [intOf]; omega
                  | true =>
                    obtain ⟨g1, o1, x1, y1, era, a1, a2, a3, -⟩ := HRows.out.get hrj
                    obtain ⟨g2, o2, x2, y2, era2, b1, b2, b3, -⟩ := HRows.out.get HK.out.2.1
                    subst era
                    cases era2
                    obtain ⟨g3, o3, ex1, a4⟩ := a2 c (.string t) (by simp [strs, ht])
                    obtain ⟨g4, o4, ex2, b4⟩ := b2 c (.string s) (by simp [strs, HK.out.2.2])
                    subst ex1
                    subst ex2
                    have hX := (HX6.out.trans hexk.out).trans hexj.out
                    have lj : rj.length = ar := by omega
                    have lk : rk.length = ar := by have := HLen.out rk (List.mem_of_getElem? HK.out.2.1); omega
                    rw [lj] at a1
                    rw [lk] at b1
                    replace a1 := hX.cell a1 id
                    replace b1 := hX.cell b1 id
                    replace a4 := hX.cell a4 id
                    replace b4 := hX.cell b4 id
                    clear a2 a3 b2 b3 hX lj lk hrj ht hrl
                    obtain ⟨bt, ebt⟩ : ∃ bt, decide (t = s) = bt := ⟨_, rfl⟩
                    have hq1 : (t.toList == s.toList) = bt := by rw [str_beq]; exact ebt
                    have hq2 : (t.toList != s.toList) = !bt := by unfold bne; rw [hq1]
                    have HNX := Lib.hid (show (!bt) = true ↔ s ∉ (colN LL c).take (j + 1) from by
                      have h8 := firstN_next hbj.out HJ.out
                      rw [ebt] at h8
                      simpa using h8)
                    clear ebt hbj
                    go_wp2
                    go_quiet (fail)
                    go_wp2
                    go_roundw
                    case rel => exact ⟨j + 1, !bt, by omega, by first | rfl | (congr 1; done) | (congr 1; omega), rfl, HNX, Lib.hid (hexj.out.drewN _)⟩
                    case measure => simp [intOf]; omega
                · have ej : k = j := by omega
                  subst ej
                  cases bj with
                  | true =>
                    have hnub := nubTo_new HK.out.1 (hbj.out.1 rfl)
                    have HNu := Lib.hid (show (nubTo (colN LL c) (k + 1)).length = nn + 1 by rw [hnub, List.length_append, ENN.out]; rfl)
                    clear hnub
                    go_wp2
                    go_roundw
                    case rel => exact ⟨k + 1, by omega, by first | rfl | (congr 1; done) | (congr 1; omega), (by rw [HNu.out]; congr 1), Lib.hid (hexk.out.trans hexj.out)⟩
                    case measure => simp [intOf]; omega
                  | false =>
                    have hnub := nubTo_old HK.out.1 (Classical.not_not.1 fun e => by have := hbj.out.2 e; cases this)
                    have HNu := Lib.hid (show (nubTo (colN LL c) (k + 1)).length = nn by rw [hnub, ENN.out])
                    clear hnub
                    go_wp2
                    go_roundw
                    case rel => exact ⟨k + 1, by omega, by first | rfl | (congr 1; done) | (congr 1; omega), (by rw [HNu.out]), Lib.hid (hexk.out.trans hexj.out)⟩
                    case measure => simp [intOf]; omega
            · have ek : m = k := by omega
              subst ek
              obtain ⟨nn, enn⟩ : ∃ nn, (nubTo (colN LL c) m).length = nn := ⟨_, rfl⟩
              rw [enn]
              have hyd : floatOfInt .f64 (nn : Int) = fltN (distN LL c) := by rw [← enn]; show _ = fltN (nubTo (colN LL c) LL.length).length; rw [← HQ.out.2.2.2.2]
              have HY := Lib.hid hyd
              have hX := hex2.out.trans hexk.out
              have HBk := Lib.hid (HBj.out.ext hexk.out)
              have HRk := Lib.hid (HRj.out.ext hexk.out)
              have g2 : wr.cell? ⟨gx, 2, none⟩ = some (.slice ba c bc) := by rw [HBk.out.cell']; rfl
              clear hyd hexk enn
              go_wp2_with (first | (at_builtin; refine Halted.out ?_))
              refine Halted.mk (wp_appN (m := 1) (n := c) elem_flt rfl _ _ rfl (hX.alloc _) rfl (HRk.out.alloc _) rfl (CellsAt.one wr (.float .f64 (floatOfInt .f64 (nn : Int))) 45) (by rfl) (by simp [Value.oneCell']) (by omega) (by unfold maxLen; omega) ?_)
              intro v1 w8 hr1 hk1 hk2 _
              obtain ⟨b6, c6, ev6, _, _⟩ := hr1.shape
              subst ev6
              have hB6 : Blk w8 gx [.string p, .float .f64 r, .slice ba c bc] 49 := (HBk.out.alloc _).kp hk2 (fun e => (by obtain ⟨cs, hb⟩ := HRk.out.blkOf e; exact typ_fs (blk_ne hb HBk.out)))
              have x6 : w8.cell? ⟨gx, 2, none⟩ = some (.slice ba c bc) := by rw [hB6.cell']; rfl
              have x6f := hB6.free 2
              have HA := Lib.hid (And.intro hr1 (And.intro hk1 hB6))
              clear hr1 hk1 hk2 hB6 g2 hX
              go_wp2
              obtain ⟨hr1, hk1, hB6⟩ := HA.out
              obtain ⟨w9, ew9⟩ : ∃ w9, w8.setCell ⟨gx, 2, none⟩ (.slice b6 (c + 1) c6) = w9 := ⟨_, rfl⟩
              have hk67 : Kp (fun k => k = gx) w8 w9 := by rw [← ew9]; exact Kp.setCell (F := fun k => k = gx) (Kp.refl w8) (fun _ => rfl) _
              have hB9 : Blk w9 gx [.string p, .float .f64 r, .slice b6 (c + 1) c6] 49 := by rw [← ew9]; exact hB6.set 2 _
              have hx9 : Ext w5 w9 := by rw [← ew9]; exact Kp.setCell (F := fun _ => False) hk1 (fun h => by have := EGX.out.1; simp only at h; omega) _
              have hr9 := hr1.kp' hk67 fun g hg _ e => by
                obtain ⟨cs, hb⟩ := hr1.blkOf hg
                subst e
                exact typ_fs (blk_ne hb hB6)
              have e9 : flts ((colsN LL ar).take (c + 1)) = flts ((colsN LL ar).take c) ++ [.float .f64 (floatOfInt .f64 (nn : Int))] := by rw [takeSnoc (colsN_get LL hlt2), HY.out]; simp [flts]
              rw [← e9] at hr9
              clear e9
              have HFin := Lib.hid (show ∃ dv, Blk w9 gx [.string p, .float .f64 r, dv] 49 ∧ Row w9 45 1 dv (c + 1) (flts ((colsN LL ar).take (c + 1))) (New w5) from ⟨_, hB9, hr9⟩)
              have HX9 := Lib.hid hx9
              rw [ew9]
              clear hr1 hk1 hB6 hk67 hB9 hx9 hr9 x6 x6f HA ew9
              go_roundw
              case rel => exact ⟨c + 1, by omega, by first | rfl | (congr 1; done) | (congr 1; omega), HFin.out, HX9.out⟩
              case measure => simp [intOf]; omega
        · have ec : ar = c := by omega
          subst ec
          have hall : (colsN LL ar).take ar = colsN LL ar := List.take_of_length_le (by rw [colsN_len]; exact Nat.le_refl _)
          rw [hall] at HRj
          obtain ⟨vs, hvs, hrow, hds⟩ := hin.out
          obtain ⟨oa, oc, eov, _, _⟩ := hrow.shape
          subst eov
          have l0 : wr.cell? ⟨gx, 0, none⟩ = some (.string p) := by rw [HBj.out.cell']; rfl
          have l1 : wr.cell? ⟨gx, 1, none⟩ = some (.float .f64 r) := by rw [HBj.out.cell']; rfl
          have l2 : wr.cell? ⟨gx, 2, none⟩ = some (.slice ba ar bc) := by rw [HBj.out.cell']; rfl
          have HRo := Lib.hid (hrow.ext hex2.out)
          have HDs := Lib.hid (And.intro hvs (fun x hx => (hds x hx).ext hex2.out))
          have hXw := hex.out.trans hex2.out
          clear hvs hrow hds hin hall
          go_wp2_with (first | (at_builtin; refine Halted.out ?_))
          refine Halted.mk (wp_appN (m := 1) (n := i) elem_stat25 rfl _ _ rfl (hXw.alloc _) rfl (HRo.out.alloc _) rfl (CellsAt.new wr [.string p, .float .f64 r, .slice ba ar bc] 49) (by rfl) (by simp [Value.oneCell']) (by omega) (by unfold maxLen; omega) ?_)
          intro v1 w6 hr1 hk1 hk2 _
          have HFin := Lib.hid (show ∃ vs, vs.length = i + 1 ∧ Row w6 49 3 v1 (i + 1) ((((L.map gatS).take (i + 1)).zip vs).flatMap statC) (New w1) ∧ ∀ x ∈ ((L.map gatS).take (i + 1)).zip vs, DistAt w1 w6 x by
            have hgi : (L.map gatS)[i]? = some (gatS q) := by rw [List.getElem?_map, HQ.out.1]; rfl
            have hlen : ((L.map gatS).take i).length = vs.length := by rw [List.length_take, HDs.out.1, List.length_map]; have := HN.out; omega
            have et := takeSnoc hgi
            have hcn : (gatS q).2.2.1 = colsN LL ar := by show colsN q.2.2.1 q.2.1.toNat = _; rw [HQ.out.2.2.1, HQ.out.2.2.2.1]; rfl
            have hcl : (gatS q).2.2.1.length = ar := by rw [hcn, colsN_len]
            have hkd : ∀ x, DistAt w1 (wr.alloc (.cells #[.string p, .float .f64 r, .slice ba ar bc] 49)) x → DistAt w1 w6 x := fun x hx => Row.kp' hx hk2 fun g hg _ e => by
              obtain ⟨cs, hb⟩ := (HRo.out.alloc _).blkOf e
              obtain ⟨cs', hb'⟩ := Row.blkOf hx hg
              exact typ_fs (blk_ne hb' hb)
            refine ⟨vs ++ [(ba, bc)], by rw [List.length_append, HDs.out.1]; rfl, ?_, ?_⟩
            · rw [et, List.zip_append hlen, List.flatMap_append]
              have e2 : (([gatS q].zip [(ba, bc)]).flatMap statC) = [.string p, .float .f64 r, .slice ba ar bc] := by
                show statC (gatS q, (ba, bc)) ++ [] = _
                rw [List.append_nil]
                show [Value.string q.1, .float .f64 (floatOfInt .f64 (q.2.2.1.length : Nat)), .slice ba (gatS q).2.2.1.length bc] = _
                rw [hcl, ← HQ.out.2.1, ← HQ.out.2.2.2.1, ← HQ.out.2.2.2.2, EGX.out.2]
              rw [e2]; exact hr1
            · intro x hx
              rw [et, List.zip_append hlen, List.mem_append] at hx
              rcases hx with hx | hx
              · exact hkd _ (Row.alloc (HDs.out.2 x hx) _)
              · simp at hx; subst hx
                refine hkd _ (Row.alloc (show Row wr 45 1 (.slice ba (gatS q).2.2.1.length bc) (gatS q).2.2.1.length (flts (gatS q).2.2.1) (New w1) from ?_) _)
                have h := HRj.out.mono (M' := New w1) fun g hg => Nat.le_trans hex.out.size hg
                rw [hcl, hcn]; exact h)
          have HX6 := Lib.hid hk1
          clear hr1 hk1 hk2 l0 l1 l2 hXw
          go_wp2
          go_roundw
          case rel => exact ⟨i + 1, by omega, by first | rfl | (congr 1; done) | (congr 1; omega), HFin.out, HX6.out⟩
          case measure => simp [intOf]; omega
    · have ei : n = i := by omega
      subst ei
      obtain ⟨vs, hvs, hrow, hds⟩ := hin.out
      have hall : (L.map gatS).take n = L.map gatS := List.take_of_length_le (by rw [List.length_map, ← HN.out]; exact Nat.le_refl _)
      rw [hall] at hrow hds
      obtain ⟨oa, oc, eov, h2, h1, h3⟩ := hrow.cap
      subst eov
      have HSt := Lib.hid (stats_cells (hvs.trans (by rw [List.length_map]; exact HN.out)) h2 hds)
      clear hvs hrow hds hin hall h2
      go_wp2
      go_ret
      exact RetN.mk (HIn.out.1.trans hex.out) ⟨_, _, by rw [← HN.out]; rfl, HSt.out⟩
end Go.Proofs.YtomeebimmmfmbaaGreat

/- The document's Base: FromRelations. -/
namespace Go.Proofs.YtomeebimmmfmbaaGreat
open Go.RowKit
set_option linter.unusedVariables false

theorem same_lenC {C D : List CntZ} (hC : (C.map (·.1)).Nodup) (hD : (D.map (·.1)).Nodup) (h : SameC C D) : C.length = D.length := by
  have h1 := (names_perm C).length_eq
  have h2 := (names_perm D).length_eq
  rw [names_same hC hD h] at h1
  rw [List.length_map] at h1 h2
  omega
theorem len_declC (C : List CntZ) (s : ByteArray) (a : Int) : (declC C s a).length ≤ C.length + 1 := by
  unfold declC
  split
  · simp
  · omega
theorem len_addC {C : List CntZ} {s : ByteArray} (row : List ByteArray) (h : ∃ v, getC C s = some v) : (addC C s row).length = C.length ∧ ∃ v, getC (addC C s row) s = some v := by
  obtain ⟨v, hv⟩ := h
  unfold addC
  split
  · refine ⟨?_, (row.length, addS cmpRow (rowsC C s) row), by rw [getC_set, if_pos rfl]⟩
    unfold setC
    rw [hv]; simp
  · exact ⟨rfl, v, hv⟩
theorem cntR_len (G : List REnt) : (cntR G).length = G.length := by unfold cntR; simp
/-- What the document's FromRelations makes. -/
def RefFromV (w : World) (L : List RelZ) (w' : World) (v : Value) : Prop :=
  ((fromC [] L).2 = 0 → ∃ cb S G, v = .tuple #[.pointer (some ⟨cb, 0, none⟩), .int .i64 0] ∧ RefB S w' cb G ∧ RefOk G ∧ SameC (cntR G) (fromC [] L).1 ∧ G.length ≤ L.length ∧ (∀ k, S k → w.heap.size ≤ k) ∧ ∀ k, OwnG cb G k → w.heap.size ≤ k) ∧
  ((fromC [] L).2 ≠ 0 → v = .tuple #[.pointer none, .int .i64 (((fromC [] L).2 : Nat) : Int)])
/-- A base of one's own. -/
structure MyRef (w0 : World) (S : Nat → Prop) (w : World) (cb : Nat) (G : List REnt) (C : List CntZ) : Prop where
  base : RefB S w cb G
  ok : RefOk G
  same : SameC (cntR G) C
  okC : BaseOk C
  ext : Ext w0 w
  pool : ∀ k, S k → w0.heap.size ≤ k
  own : ∀ k, OwnG cb G k → w0.heap.size ≤ k
theorem MyRef.len {w0 w : World} {S : Nat → Prop} {cb : Nat} {G : List REnt} {C : List CntZ} (h : MyRef w0 S w cb G C) : G.length = C.length := by
  rw [← cntR_len, same_lenC h.ok.ok.nodup h.okC.nodup h.same]
theorem MyRef.drew {w0 w w' : World} {S : Nat → Prop} {cb : Nat} {G : List REnt} {C : List CntZ} (h : MyRef w0 S w cb G C) (hk : Ext w w') : MyRef w0 S w' cb G C :=
  ⟨h.base.ext hk, h.ok, h.same, h.okC, h.ext.trans hk, h.pool, h.own⟩
theorem MyRef.next {w0 w w' : World} {S : Nat → Prop} {cb : Nat} {G : List REnt} {C D C' : List CntZ} {F : Nat → Prop} (h : MyRef w0 S w cb G C) (hk : Kp F w w') (hF : ∀ k, F k → OwnG cb G k) (ht : RefBTo S w cb G C' w') (hs : SameC C' D) (hD : BaseOk D) : ∃ S' G', MyRef w0 S' w' cb G' D := by
  obtain ⟨S', G', h1, h2, h3, h4, h5, h6⟩ := ht
  have hz := h.ext.size
  refine ⟨S', G', h2, h3, h4.trans hs, hD, h.ext.trans' hk fun k hk f => absurd (h.own k (hF k f)) (by omega), fun k hk => ?_, fun k hk => ?_⟩
  · rcases h1.2 k hk with h | h'
    · exact MyRef.pool ‹_› k h
    · omega
  · rcases h6 k hk with h' | h'
    · exact h.own k h'
    · omega
def RefFromTo (w0 : World) (cb : Nat) (L : List RelZ) (n : Nat) (iv : Value) (w : World) : Prop := ∃ i : Nat, i ≤ n ∧ iv = .int .i64 i ∧ Hid (∃ S G C, MyRef w0 S w cb G C ∧ C.length ≤ i ∧ fromC C (L.drop i) = fromC [] L)
def RefFromIn (w0 : World) (cb : Nat) (q : RelZ) (R : List CntZ × Nat) (i m : Nat) (jv : Value) (w : World) : Prop := ∃ j : Nat, j ≤ m ∧ jv = .int .i64 j ∧ Hid (∃ S G C, MyRef w0 S w cb G C ∧ C.length ≤ i + 1 ∧ (∃ v, getC C q.1 = some v) ∧ addAll C q.1 (q.2.2.1.drop j) = R)

set_option maxRecDepth 100000 in
set_option maxHeartbeats 4000000 in
theorem refFrom_any (L : List RelZ) (ao : Option Addr) (n cap : Nat) (w : World) (S0 : Nat → Prop) (hn : n = L.length) (hL : RelsIn S0 w ao L) (hl : n ≤ 2097152) (hr : ∀ q ∈ L, q.2.2.1.length ≤ 1048576) :
    Calls Tryz.prog 24 #[.slice ao n cap] w (RetN w (RefFromV w L)) := by
  have HN := Lib.hid hn
  have HL := Lib.hid hL
  have HR := Lib.hid hr
  clear hn hL hr
  go_enter Tryz.func24, Tryz.ntmps24
  go_wp2_with fail
  refine (refBNew_any (fun _ => False) w (fun _ x => x.elim)).mono ?_
  rintro e w1 ⟨v, rfl, hk1, rfl, hB⟩
  obtain ⟨cb, ecb⟩ : ∃ cb, w.heap.size = cb := ⟨_, rfl⟩
  have HM0 := Lib.hid (show MyRef w (fun _ => False) w1 cb [] [] from
    { base := by rw [← ecb]; exact hB
      ok := ⟨ok_nil, List.Pairwise.nil⟩
      same := SameC.refl _
      okC := ok_nil
      ext := hk1, pool := fun _ x => x.elim
      own := fun k hk => by
        rcases hk with rfl | ⟨e, he, _⟩
        · omega
        · simp at he })
  rw [ecb]
  clear hB hk1 ecb
  go_wp2
  go_loopw [5] (fun iv wr => RefFromTo w cb L n iv wr) (fun iv _ => n - (intOf iv).toNat)
  case atStart => exact ⟨0, Nat.zero_le _, rfl, _, [], [], HM0.out, Nat.le_refl _, rfl⟩
  case round =>
    clear HM0
    obtain ⟨i, hi, rfl, hin⟩ := hrel
    obtain ⟨S, G, C, hM, hlen, hF⟩ := hin.out
    have HM := Lib.hid hM
    have HF := Lib.hid (And.intro hF hlen)
    clear hin hM hF hlen
    by_cases hlt : i < n
    · obtain ⟨q, hq⟩ : ∃ q, L[i]? = some q := ⟨_, List.getElem?_eq_getElem (by rw [← HN.out]; exact hlt)⟩
      obtain ⟨b, off, ra, rcap, eao, hSb, c0, c1, c2, hrl, hrm, hrows⟩ := HL.out i q hq
      subst eao
      obtain ⟨s, es⟩ : ∃ s, q.1 = s := ⟨_, rfl⟩
      obtain ⟨a, ea⟩ : ∃ a, q.2.1 = a := ⟨_, rfl⟩
      obtain ⟨m, em⟩ : ∃ m, q.2.2.1.length = m := ⟨_, rfl⟩
      rw [es] at c0
      rw [ea] at c1
      rw [em] at c2 hrl
      have hm1 : m ≤ 1048576 := by rw [← em]; exact HR.out q (List.mem_of_getElem? hq)
      have HQ := Lib.hid (And.intro hq (And.intro es (And.intro ea em)))
      have HRows := Lib.hid hrows
      have HC := Lib.hid (fun W (hW : Ext w W) => (⟨hW.cell c0 id, hW.cell c1 id, hW.cell c2 id⟩ : W.cell? ⟨b, off + i * 3, none⟩ = some (.string s) ∧ W.cell? ⟨b, off + i * 3 + 1, none⟩ = some (.int .i64 a) ∧ W.cell? ⟨b, off + i * 3 + 2, none⟩ = some (.slice ra m rcap)))
      clear hq es ea em hrows hSb c0 c1 c2
      obtain ⟨c0, c1, c2⟩ := HC.out wr HM.out.ext
      go_wp2
      go_still_tail 11, (by kernel_rfl)
      go_wp2_with fail
      obtain ⟨wd, ewd⟩ : ∃ wd, wr.drew = wd := ⟨_, rfl⟩
      rw [ewd]
      have HMd := Lib.hid (show MyRef w S wd cb G C by rw [← ewd]; exact HM.out.drew (Kp.refl wr).drew)
      clear ewd
      refine (refBDecl_any HMd.out.base HMd.out.ok s a (by rw [HMd.out.len]; have := HF.out.2; omega)).mono ?_
      rintro e w2 ⟨v, rfl, hk2, rfl, hT2⟩
      obtain ⟨S1, G1, hM1⟩ := HMd.out.next hk2 (fun k e => .inl e) hT2 (same_declC HMd.out.same s a) (ok_decl HMd.out.okC s a)
      have HM1 := Lib.hid hM1
      clear hk2 hT2 hM1 c0 c1 c2
      rw [same_declR HMd.out.same]
      obtain ⟨d, ed⟩ : ∃ d, declR C s a = d := ⟨_, rfl⟩
      rw [ed]
      have ED := Lib.hid ed
      clear ed
      by_cases hd : d = 0
      · have q1 : ((d : Int) != 0) = false := by simp [hd]
        have HD := Lib.hid hd
        clear hd
        have hdr : (L.drop i) = q :: L.drop (i + 1) := drop_at HQ.out.1
        have HDr := Lib.hid hdr
        clear hdr
        go_wp2
        clear q1
        generalize hw5 : w2 = w5 at *; clear hw5
        go_loopw [7] (fun jv wk => RefFromIn w cb q (addAll (declC C s a) s q.2.2.1) i m jv wk) (fun jv _ => m - (intOf jv).toNat)
        case atStart =>
          have h0 := decl_ar (C := C) (s := s) (a := a) (by rw [ED.out]; exact HD.out)
          exact ⟨0, Nat.zero_le _, rfl, S1, G1, _, HM1.out, by have := len_declC C s a; have := HF.out.2; omega, by obtain ⟨LL, e, _⟩ := h0; exact ⟨_, by rw [HQ.out.2.1]; exact e⟩, by rw [HQ.out.2.1]; rfl⟩
        case round =>
          clear HM1 HM HMd
          obtain ⟨j, hj, rfl, hin⟩ := hrel
          obtain ⟨S2, G2, C2, hM2, hl2, hv2, hA2⟩ := hin.out
          have HM2 := Lib.hid (And.intro hM2 (And.intro hl2 (And.intro hv2 hA2)))
          clear hin hM2 hl2 hv2 hA2
          obtain ⟨c0, c1, c2⟩ := HC.out wr HM2.out.1.ext
          by_cases hlt2 : j < m
          · obtain ⟨ss, hss⟩ : ∃ ss, q.2.2.1[j]? = some ss := ⟨_, List.getElem?_eq_getElem (by rw [HQ.out.2.2.2]; exact hlt2)⟩
            obtain ⟨g, o, xa, xcap, era, d0, d1, d2, d3⟩ := HRows.out.get hss
            subst era
            obtain ⟨k, ek⟩ : ∃ k, ss.length = k := ⟨_, rfl⟩
            rw [ek] at d0
            have d0w := d0
            replace d0 := HM2.out.1.ext.cell d0 id
            obtain ⟨c0w, _, c2w⟩ := HC.out w (Kp.refl w)
            have HMd := Lib.hid (HM2.out.1.drew (Kp.refl wr).drew)
            have HSS := Lib.hid (And.intro hss ek)
            have HRow := Lib.hid (And.intro d1 (And.intro d2 d3))
            clear hss ek d1 d2 d3
            go_wp2
            have HCd := Lib.hid (fun W (hW : Ext w W) => (⟨hW.cell c0w id, hW.cell c2w id, hW.cell d0w id⟩ : W.cell? ⟨b, off + i * 3, none⟩ = some (.string s) ∧ W.cell? ⟨b, off + i * 3 + 2, none⟩ = some (.slice (some ⟨g, o, none⟩) m rcap) ∧ W.cell? ⟨g, o + j, none⟩ = some (.slice xa k xcap)))
            clear c0w c2w d0w
            refine draw_begin (fun w' : World => w'.cell? ⟨b, off + i * 3, none⟩ = some (.string s) ∧ w'.cell? ⟨b, off + i * 3 + 2, none⟩ = some (.slice (some ⟨g, o, none⟩) m rcap) ∧ w'.cell? ⟨g, o + j, none⟩ = some (.slice xa k xcap)) [] (by kernel_rfl) (HCd.out _ (HM2.out.1.ext.drew)) (fun hHeld => ?_)
            (refine draw_free (i := 0) (v := ?_) rfl ?_ ?_; rotate_left; (intro w; go_simp; try with_reducible rfl)); (try simp only [Act.put, List.setIfInBounds_toArray, List.set_cons_zero, List.set_cons_succ])
            (refine draw_free (i := 1) (v := ?_) rfl ?_ ?_; rotate_left; (intro w; go_simp; try with_reducible rfl)); (try simp only [Act.put, List.setIfInBounds_toArray, List.set_cons_zero, List.set_cons_succ])
            (refine draw_free (i := 2) (v := ?_) rfl ?_ ?_; rotate_left; (intro w; go_simp; try with_reducible rfl)); (try simp only [Act.put, List.setIfInBounds_toArray, List.set_cons_zero, List.set_cons_succ])
            (refine draw_in (i := 3) (v := ?_) rfl ?_ ?_; rotate_left; (intro w hSw; (try dsimp only at hSw); go_simp; try with_reducible rfl)); (try simp only [Act.put, List.setIfInBounds_toArray, List.set_cons_zero, List.set_cons_succ])
            (refine draw_free (i := 4) (v := ?_) rfl ?_ ?_; rotate_left; (intro w; go_simp; try with_reducible rfl)); (try simp only [Act.put, List.setIfInBounds_toArray, List.set_cons_zero, List.set_cons_succ])
            (refine draw_in (i := 5) (v := ?_) rfl ?_ ?_; rotate_left; (intro w hSw; (try dsimp only at hSw); go_simp; try with_reducible rfl)); (try simp only [Act.put, List.setIfInBounds_toArray, List.set_cons_zero, List.set_cons_succ])
            (refine draw_free (i := 6) (v := ?_) rfl ?_ ?_; rotate_left; (intro w; go_simp; try with_reducible rfl)); (try simp only [Act.put, List.setIfInBounds_toArray, List.set_cons_zero, List.set_cons_succ])
            (refine draw_free (i := 7) (v := ?_) rfl ?_ ?_; rotate_left; (intro w; go_simp; try with_reducible rfl)); (try simp only [Act.put, List.setIfInBounds_toArray, List.set_cons_zero, List.set_cons_succ])
            (refine draw_in (i := 8) (v := ?_) rfl ?_ ?_; rotate_left; (intro w hSw; (try dsimp only at hSw); go_simp; try with_reducible rfl)); (try simp only [Act.put, List.setIfInBounds_toArray, List.set_cons_zero, List.set_cons_succ])
            (refine draw_free (i := 9) (v := ?_) rfl ?_ ?_; rotate_left; (intro w; go_simp; try with_reducible rfl)); (try simp only [Act.put, List.setIfInBounds_toArray, List.set_cons_zero, List.set_cons_succ])
            (refine draw_in (i := 10) (v := ?_) rfl ?_ ?_; rotate_left; (intro w hSw; (try dsimp only at hSw); go_simp; try with_reducible rfl)); (try simp only [Act.put, List.setIfInBounds_toArray, List.set_cons_zero, List.set_cons_succ])
            (refine draw_free (i := 11) (v := ?_) rfl ?_ ?_; rotate_left; (intro w; go_simp; try with_reducible rfl)); (try simp only [Act.put, List.setIfInBounds_toArray, List.set_cons_zero, List.set_cons_succ])
            (refine draw_in (i := 12) (v := ?_) rfl ?_ ?_; rotate_left; (intro w hSw; (try dsimp only at hSw); go_simp; try with_reducible rfl)); (try simp only [Act.put, List.setIfInBounds_toArray, List.set_cons_zero, List.set_cons_succ])
            (refine draw_in (i := 13) (v := ?_) rfl ?_ ?_; rotate_left; (intro w hSw; (try dsimp only at hSw); go_simp; try with_reducible rfl)); (try simp only [Act.put, List.setIfInBounds_toArray, List.set_cons_zero, List.set_cons_succ])
            refine draw_one (i := 14) ?_
            refine comes_turn (i := 14) rfl (fun K hK => ?_)
            go_simp
            (refine (refBAdd_anyE HMd.out.base HMd.out.ok s (xo := xa) (m := k) (xc := xcap) (ss := ss) HSS.out.2.symm (HRow.out.1.ext HMd.out.ext) HRow.out.2.1 (fun hne a e ho => by have h1 := HMd.out.own _ (.inl ho); have h2 := cells_lt HRow.out.1 hne a e; omega) (by rw [HMd.out.len]; have := HM2.out.2.1; omega)).mono ?_; rintro e w3 ⟨v, rfl, hk3, rfl, hT3⟩; obtain ⟨S3, G3, hM3⟩ := HMd.out.next hk3 (fun k e => e) hT3 (same_addC HMd.out.ok.ok HMd.out.okC HMd.out.same s ss) (ok_add HMd.out.okC s ss); have HM3 := Lib.hid hM3; clear hk3 hT3 hM3; rw [same_addR HMd.out.ok.ok HMd.out.okC HMd.out.same]; obtain ⟨x1, ex1⟩ : ∃ x, (addR C2 s ss).1 = x := ⟨_, rfl⟩; obtain ⟨x2, ex2⟩ : ∃ x, (addR C2 s ss).2 = x := ⟨_, rfl⟩; rw [ex1, ex2]; have EX := Lib.hid ex2; clear ex1 ex2)
            go_wp2_with fail
            refine hK.out _ _ ?_ (fun hHeld => ?_)
            · (try dsimp only); (exact HCd.out _ HM3.out.ext)
            clear hK K; (try simp only [Act.put, List.setIfInBounds_toArray, List.set_cons_zero, List.set_cons_succ])
            (refine draw_free (i := 15) (v := ?_) rfl ?_ ?_; rotate_left; (intro w; go_simp; try with_reducible rfl)); (try simp only [Act.put, List.setIfInBounds_toArray, List.set_cons_zero, List.set_cons_succ])
            (refine draw_free (i := 16) (v := ?_) rfl ?_ ?_; rotate_left; (intro w; go_simp; try with_reducible rfl)); (try simp only [Act.put, List.setIfInBounds_toArray, List.set_cons_zero, List.set_cons_succ])
            (refine draw_free (i := 17) (v := ?_) rfl ?_ ?_; rotate_left; (intro w; go_simp; try with_reducible rfl)); (try simp only [Act.put, List.setIfInBounds_toArray, List.set_cons_zero, List.set_cons_succ])
            (refine draw_free (i := 18) (v := ?_) rfl ?_ ?_; rotate_left; (intro w; go_simp; try with_reducible rfl)); (try simp only [Act.put, List.setIfInBounds_toArray, List.set_cons_zero, List.set_cons_succ])
            (refine draw_free (i := 19) (v := ?_) rfl ?_ ?_; rotate_left; (intro w; go_simp; try with_reducible rfl)); (try simp only [Act.put, List.setIfInBounds_toArray, List.set_cons_zero, List.set_cons_succ])
            refine wpAnyD_done (by kernel_rfl) ?_ _
            clear hHeld
            have hdj : q.2.2.1.drop j = ss :: q.2.2.1.drop (j + 1) := drop_at HSS.out.1
            have HDj := Lib.hid hdj
            clear hdj
            by_cases hx : x2 = 0
            · have q1 : ((x2 : Int) != 0) = false := by simp [hx]
              have HX := Lib.hid hx
              clear hx
              go_wp2
              go_roundw
              case rel =>
                have hla := len_addC (C := C2) (s := s) ss (by rw [← HQ.out.2.1]; exact HM2.out.2.2.1)
                refine ⟨j + 1, by omega, by first | rfl | (congr 1; done) | (congr 1; omega), S3, G3, _, HM3.out, by rw [hla.1]; exact HM2.out.2.1, by rw [HQ.out.2.1]; exact hla.2, ?_⟩
                rw [← HM2.out.2.2.2, HDj.out, HQ.out.2.1]
                exact (addAll_go (by rw [EX.out]; exact HX.out)).symm
              case measure => simp [intOf]; omega
            · have q1 : ((x2 : Int) != 0) = true := by simp; omega
              have HX := Lib.hid hx
              clear hx
              go_wp2
              go_ret2
              have hall := HM2.out.2.2.2
              rw [HDj.out, HQ.out.2.1, addAll_bad (by rw [EX.out]; exact HX.out), EX.out] at hall
              have hfr : fromC [] L = (C2, x2) := by
                rw [← HF.out.1, HDr.out, from_err (by rw [HQ.out.2.1, HQ.out.2.2.1, ED.out]; exact HD.out) (by rw [HQ.out.2.1, HQ.out.2.2.1, ← hall]; exact HX.out), HQ.out.2.1, HQ.out.2.2.1, ← hall]
              exact RetN.mk HM3.out.ext ⟨fun h0 => by rw [hfr] at h0; exact absurd h0 HX.out, fun _ => by rw [hfr]; rfl⟩
          · obtain rfl : j = m := by omega
            have hall := HM2.out.2.2.2
            rw [List.drop_of_length_le (by rw [HQ.out.2.2.2]; exact Nat.le_refl _)] at hall
            have hall' : addAll (declC C s a) s q.2.2.1 = (C2, 0) := hall.symm
            have HAll := Lib.hid hall'
            clear hall hall'
            go_wp2
            go_roundw
            case rel =>
              refine ⟨i + 1, by omega, by first | rfl | (congr 1; done) | (congr 1; omega), S2, G2, C2, HM2.out.1, HM2.out.2.1, ?_⟩
              rw [← HF.out.1, HDr.out, from_go (by rw [HQ.out.2.1, HQ.out.2.2.1, ED.out]; exact HD.out) (by rw [HQ.out.2.1, HQ.out.2.2.1, HAll.out]), HQ.out.2.1, HQ.out.2.2.1, HAll.out]
            case measure => simp [intOf]; omega
      · have q1 : ((d : Int) != 0) = true := by simp; omega
        have HD := Lib.hid hd
        clear hd
        go_wp2
        go_ret2
        have hfr : fromC [] L = (C, d) := by
          rw [← HF.out.1, drop_at HQ.out.1, from_bad (by rw [HQ.out.2.1, HQ.out.2.2.1, ED.out]; exact HD.out), HQ.out.2.1, HQ.out.2.2.1, ED.out]
        exact RetN.mk HM1.out.ext ⟨fun h0 => by rw [hfr] at h0; exact absurd h0 HD.out, fun _ => by rw [hfr]; rfl⟩
    · obtain rfl : i = n := by omega
      have hfr : fromC [] L = (C, 0) := by
        rw [← HF.out.1, List.drop_of_length_le (by rw [← HN.out]; exact Nat.le_refl _)]; rfl
      have HFr := Lib.hid hfr
      clear hfr
      go_wp2
      go_ret2
      exact RetN.mk HM.out.ext ⟨fun _ => ⟨cb, S, G, rfl, HM.out.base, HM.out.ok, by rw [HFr.out]; exact HM.out.same, by rw [HM.out.len, ← HN.out]; exact HF.out.2, HM.out.pool, HM.out.own⟩, fun h0 => absurd (by rw [HFr.out]) h0⟩
end Go.Proofs.YtomeebimmmfmbaaGreat

/- The law of counts: many, base, Gather of none. -/
namespace Go.Proofs.YtomeebimmmfmbaaGreat
open Go.RowKit Go.Shelf
set_option linter.unusedVariables false

def sumR (L : List RelZ) : Nat := (L.map fun q => q.2.2.1.length).sum
theorem sumR_take {L : List RelZ} {i : Nat} {q : RelZ} (h : L[i]? = some q) : sumR (L.take (i + 1)) = sumR (L.take i) + q.2.2.1.length := by
  unfold sumR
  rw [List.take_add_one, h, List.map_append, List.sum_append]; simp
theorem sumR_le (L : List RelZ) (i : Nat) : sumR (L.take i) ≤ sumR L := by
  have h : sumR L = sumR (L.take i) + sumR (L.drop i) := by unfold sumR; rw [← List.sum_append, ← List.map_append, List.take_append_drop]
  omega
def ManyTo (w0 : World) (L : List RelZ) (n : Nat) (iv nv : Value) (w : World) : Prop := ∃ i : Nat, i ≤ n ∧ iv = .int .i64 i ∧ nv = .int .i64 (sumR (L.take i) : Nat) ∧ Hid (Ext w0 w)
set_option maxRecDepth 100000 in
theorem many_any (L : List RelZ) (ao : Option Addr) (n cap : Nat) (w : World) (S0 : Nat → Prop) (hn : n = L.length) (hL : RelsIn S0 w ao L) (hl : n ≤ 1048576) (hs : sumR L ≤ 1048576) :
    Calls Tryz.prog 5 #[.slice ao n cap] w (RetN w fun w' v => v = .bool (decide (400 < sumR L))) := by
  have HN := Lib.hid hn
  have HL := Lib.hid hL
  clear hn hL
  go_enter Tryz.func5, Tryz.ntmps5
  go_wp2
  go_loopw [4, 3] (fun iv nv wr => ManyTo w L n iv nv wr) (fun iv _ _ => n - (intOf iv).toNat)
  case atStart => exact ⟨0, Nat.zero_le _, rfl, rfl, Lib.hid (Kp.refl _)⟩
  case round =>
    obtain ⟨i, hi, rfl, rfl, hex⟩ := hrel
    by_cases hlt : i < n
    · obtain ⟨q, hq⟩ : ∃ q, L[i]? = some q := ⟨_, List.getElem?_eq_getElem (by rw [← HN.out]; exact hlt)⟩
      obtain ⟨b, off, ra, rcap, eao, -, -, -, c2, -, -, -⟩ := HL.out i q hq
      subst eao
      replace c2 := hex.out.cell c2 id
      have hst := sumR_take hq
      have hle := sumR_le L (i + 1)
      obtain ⟨s, es⟩ : ∃ s, sumR (L.take i) = s := ⟨_, rfl⟩
      obtain ⟨k, ek⟩ : ∃ k, q.2.2.1.length = k := ⟨_, rfl⟩
      rw [es, ek] at hst
      rw [ek] at c2
      rw [es]
      have HS := Lib.hid hst
      have hsk : s + k ≤ 1048576 := by omega
      clear hst hle es ek hq
      go_wp2
      go_roundw
      case rel => exact ⟨i + 1, by omega, by first | rfl | (congr 1; done) | (congr 1; omega), (by rw [HS.out]; congr 1), hex⟩
      case measure => simp [intOf]; omega
    · have ei : n = i := by omega
      subst ei
      have hall : L.take n = L := List.take_of_length_le (by rw [← HN.out]; exact Nat.le_refl _)
      rw [hall]
      obtain ⟨s, es⟩ : ∃ s, sumR L = s := ⟨_, rfl⟩
      rw [es]
      have HS := Lib.hid es
      clear hall
      by_cases h4 : 400 < s
      · have q1 : (400 : Int) < (s : Int) := by omega
        go_wp2
        go_ret
        exact RetN.mk hex.out (by first | rfl | (rw [HS.out, decide_eq_true h4]; rfl))
      · have q1 : ¬ (400 : Int) < (s : Int) := by omega
        go_wp2
        go_ret
        exact RetN.mk hex.out (by first | rfl | (rw [HS.out, decide_eq_false h4]; rfl))
theorem gather_nil (w : World) : Calls Tryz.prog 8 #[.pointer none] w (RetN w fun w' v => v = .tuple #[.slice none 0 0, .int .i64 1]) := by
  have hq : ∀ w : World, (binOp .eql 35 (.pointer none) (.pointer none)).run Tryz.prog w = .ok (.bool true) w := fun _ => by kernel_rfl
  go_enter Tryz.func8, Tryz.ntmps8
  go_wp2
  go_ret2
  exact RetN.mk (Kp.refl _) rfl
/-- Bases out of relations, by the program and by the document. -/
def BothV (w : World) (L : List RelZ) (w' : World) (v : Value) : Prop :=
  ((fromC [] L).2 = 0 → ∃ bb r cb S S' E G, v = .tuple #[.pointer (some ⟨bb, 0, none⟩), .pointer (some ⟨cb, 0, none⟩)] ∧ BaseAt S w' bb r E ∧ RefB S' w' cb G ∧ RefOk G ∧ cntE E = (fromC [] L).1 ∧ SameC (cntR G) (fromC [] L).1 ∧ G.length ≤ L.length) ∧
  ((fromC [] L).2 ≠ 0 → v = .tuple #[.pointer none, .pointer none])
theorem base25_any (L : List RelZ) (ao : Option Addr) (n cap : Nat) (w : World) (S0 : Nat → Prop) (hn : n = L.length) (hL : RelsIn S0 w ao L) (hl : n ≤ 1048576) (hr : ∀ q ∈ L, q.2.2.1.length ≤ 1048576) :
    Calls Tryz.prog 7 #[.slice ao n cap] w (RetN w (BothV w L)) := by
  have HF := Lib.hid (from_any L ao n cap w S0 hn hL (by omega) hr)
  have HM := Lib.hid (fun (W : World) (hW : Ext w W) => refFrom_any L ao n cap W S0 hn (hL.ext hW) (by omega) hr)
  clear hn hL hr
  go_enter Tryz.func7, Tryz.ntmps7
  go_wp2_with fail
  refine HF.out.mono ?_
  rintro e w1 ⟨v1, rfl, hk1, h0, hne⟩
  by_cases hz : (fromC [] L).2 = 0
  · obtain ⟨bb, r, S, E, rfl, hB, hC, -, -⟩ := h0 hz
    have H1 := Lib.hid (And.intro hk1 (And.intro hB hC))
    clear h0 hne hB hC hk1
    go_wp2_with fail
    refine (HM.out w1 H1.out.1).mono ?_
    rintro e w2 ⟨v2, rfl, hk2, m0, -⟩
    obtain ⟨cb, S', G, rfl, hR, hok, hC2, hlen, -, -⟩ := m0 hz
    have H2 := Lib.hid (And.intro hk2 (And.intro hR (And.intro hok (And.intro hC2 hlen))))
    have HZ := Lib.hid hz
    clear m0 hR hok hC2 hk2 hlen hz
    go_wp2
    go_ret2
    exact RetN.mk (H1.out.1.trans H2.out.1) ⟨fun _ => ⟨bb, r, cb, S, S', E, G, rfl, H1.out.2.1.ext H2.out.1, H2.out.2.1, H2.out.2.2.1, H1.out.2.2, H2.out.2.2.2.1, H2.out.2.2.2.2⟩, fun h => absurd HZ.out h⟩
  · obtain rfl := hne hz
    have H1 := Lib.hid hk1
    clear h0 hne hk1
    go_wp2_with fail
    refine (HM.out w1 H1.out).mono ?_
    rintro e w2 ⟨v2, rfl, hk2, -, m1⟩
    obtain rfl := m1 hz
    have H2 := Lib.hid hk2
    have HZ := Lib.hid hz
    clear m1 hk2 hz
    go_wp2
    go_ret2
    exact RetN.mk (H1.out.trans H2.out) ⟨fun h => absurd h HZ.out, fun _ => rfl⟩
theorem GathV.stats {S : List StatZ} {w W : World} {v : Value} (h : GathV S w v W) : ∃ a c, v = .slice a S.length c ∧ StatsAt W a S := by
  obtain ⟨vs, h1, h2, h3⟩ := h
  obtain ⟨oa, oc, eov, q1, _, _⟩ := h2.cap
  exact ⟨oa, oc, eov, stats_cells h1 q1 h3⟩
end Go.Proofs.YtomeebimmmfmbaaGreat

/- CostGathers walked. -/
namespace Go.Proofs.YtomeebimmmfmbaaGreat
open Go.RowKit Go.Shelf
set_option linter.unusedVariables false
attribute [local go_sem] run_store_float

def SeenTo (w0 : World) (n : Nat) (iv : Value) (w : World) : Prop := ∃ i : Nat, i ≤ n ∧ iv = .int .i64 i ∧ Hid (Ext w0 w)
theorem names_lenE {E : List Ent} {G : List REnt} (h1 : BaseOk (cntE E)) (h2 : RefOk G) (hs : SameC (cntE E) (cntR G)) : E.length = G.length := by
  have h := same_lenC h1.nodup h2.ok.nodup hs
  rw [show (cntE E).length = E.length from by unfold cntE; simp, show (cntR G).length = G.length from by unfold cntR; simp] at h
  exact h
theorem rel_fit {C : List CntZ} (h : BaseOk C) : ∀ q ∈ relsC C, RelFit q := fun q hq => by
  obtain ⟨v, hv, ha, e⟩ := rels_mem hq
  have hm := h.all _ ((getC_mem h.nodup).1 hv)
  exact ⟨by omega, by have h1 : v.1 ≤ 64 := hm.ar; omega, by rw [e]; exact hm.few, fun r hr => by
    rw [e] at hr
    have h1 : r.length = v.1 := hm.len r hr
    rw [ha, h1]⟩
/-- The facts of the law's argument. -/
structure SightIn (L : List RelZ) (la : Option Addr) (nl : Nat) (hs : List TermZ) (ls : List LitZ) (ha : Option Addr) (hn : Nat) (ba : Option Addr) (n : Nat) (xs : List Int) (na : Option Addr) (m mcap : Nat) (x y : Nat) (w : World) (G : Nat → Prop) : Prop where
  enl : nl = L.length
  rel : RelsIn (fun _ => True) w la L
  few : nl ≤ 1048576
  sum : sumR L ≤ 1048576
  rows : ∀ q ∈ L, q.2.2.1.length ≤ 1048576
  ehn : hn = hs.length
  heads : TermsAt w G ha hs
  hfew : hn ≤ 1048576
  en : n = ls.length
  lits : LitsAt w G ba ls
  fit : Fit ls
  em : m = xs.length
  order : CellsAt w na (ints xs)
  mfew : m ≤ 1048576
  cap : m ≤ mcap
  max : mcap ≤ maxLen
  old : ∀ k, G k → k < w.heap.size
  px : x < 18446744073709551616
  py : y < 18446744073709551616
set_option maxRecDepth 100000 in
set_option maxHeartbeats 16000000 in
theorem gathers_any (L : List RelZ) (la : Option Addr) (nl lcap : Nat) (p : ByteArray) (hs : List TermZ) (ls : List LitZ) (ha : Option Addr) (hn hcap : Nat) (ba : Option Addr) (n bcap : Nat) (xs : List Int) (na : Option Addr) (m mcap : Nat) (x y : Nat) (w : World) (G : Nat → Prop) (h : SightIn L la nl hs ls ha hn ba n xs na m mcap x y w G) :
    Calls Tryz.prog 3 #[.agg #[.slice la nl lcap, .string p, .slice ha hn hcap, .slice ba n bcap, .slice na m mcap, .int .u64 x, .int .u64 y]] w (RetN w fun w' v => v = .bool true) := by
  have HS := Lib.hid h
  have hl : n ≤ 1048576 := by have h1 := h.fit.len; have h2 := h.en; omega
  clear h
  go_enter Tryz.func3, Tryz.ntmps3
  obtain ⟨w1, e1⟩ : ∃ w1, (w.alloc (.cells #[.slice la nl lcap, .string p, .slice ha hn hcap, .slice ba n bcap, .slice na m mcap, .int .u64 x, .int .u64 y] 32)).alloc (.cells #[.string p, .slice ha hn hcap, .slice ba n bcap] 28) = w1 := ⟨_, rfl⟩
  have hB0 : Blk w1 w.heap.size [.slice la nl lcap, .string p, .slice ha hn hcap, .slice ba n bcap, .slice na m mcap, .int .u64 x, .int .u64 y] 32 := by rw [← e1]; exact (Blk.new w _ _).alloc _
  have hB1 : Blk w1 (w.heap.size + 1) [.string p, .slice ha hn hcap, .slice ba n bcap] 28 := by
    have := Blk.new (w.alloc (.cells #[.slice la nl lcap, .string p, .slice ha hn hcap, .slice ba n bcap, .slice na m mcap, .int .u64 x, .int .u64 y] 32)) [.string p, .slice ha hn hcap, .slice ba n bcap] 28
    rw [alloc_size] at this
    rw [← e1]; exact this
  have hx1 : Ext w w1 := by rw [← e1]; exact ((Kp.refl w).alloc _).alloc _
  obtain ⟨g0, eg0⟩ : ∃ g, w.heap.size = g := ⟨_, rfl⟩
  rw [eg0] at hB0 hB1
  have HB := Lib.hid (And.intro hB0 (And.intro hB1 (And.intro hx1 eg0)))
  have HM := Lib.hid (many_any L la nl lcap w1 _ HS.out.enl (HS.out.rel.ext hx1) HS.out.few HS.out.sum)
  have HR := Lib.hid (show ∀ W, Ext w1 W → W.cell? ⟨g0 + 1, 0, none⟩ = some (.string p) ∧ W.cell? ⟨g0 + 1, 1, none⟩ = some (.slice ha hn hcap) ∧ W.cell? ⟨g0 + 1, 2, none⟩ = some (.slice ba n bcap) ∧ W.cell? ⟨g0, 4, none⟩ = some (.slice na m mcap) ∧ W.cell? ⟨g0, 5, none⟩ = some (.int .u64 x) ∧ W.cell? ⟨g0, 6, none⟩ = some (.int .u64 y) from fun W hW => by
    have q0 := HB.out.1.ext hW
    have q1 := HB.out.2.1.ext hW
    exact ⟨by rw [q1.cell']; rfl, by rw [q1.cell']; rfl, by rw [q1.cell']; rfl, by rw [q0.cell']; rfl, by rw [q0.cell']; rfl, by rw [q0.cell']; rfl⟩)
  clear hB0 hB1 hx1
  go_wp2_with fail
  clear e1
  refine HM.out.mono ?_
  rintro e w2 ⟨v, rfl, hk2, rfl⟩
  have H2 := Lib.hid hk2
  obtain ⟨r0, r1, r2, -, -, -⟩ := HR.out w2 hk2
  clear hk2 HM
  by_cases h4 : 400 < sumR L
  · rw [decide_eq_true h4]
    go_wp2
    go_ret
    exact RetN.mk (HB.out.2.2.1.trans H2.out) rfl
  · rw [decide_eq_false h4]
    clear h4
    go_wp2_with fail
    refine (great_any p ha hn hcap ba n bcap w2 (by omega)).mono ?_
    rintro e w3 ⟨v, rfl, hk3, rfl⟩
    have H3 := Lib.hid (H2.out.trans hk3)
    clear hk3 r0 r1 r2 H2
    by_cases h4 : 40 < n
    · rw [decide_eq_true h4]
      clear h4
      go_wp2
      go_ret
      exact RetN.mk (HB.out.2.2.1.trans H3.out) rfl
    · rw [decide_eq_false h4]
      clear h4
      go_wp2_with fail
      refine (base25_any L la nl lcap w3 _ HS.out.enl (HS.out.rel.ext (HB.out.2.2.1.trans H3.out)) HS.out.few HS.out.rows).mono ?_
      rintro e w4 ⟨v, rfl, hk4, hyes, hno⟩
      by_cases hz : (fromC [] L).2 = 0
      · obtain ⟨bb, r, cb, S, S', E, Gr, rfl, hbase, href, hrok, hce, hcr, hlen⟩ := hyes hz
        have hsame : SameC (cntE E) (cntR Gr) := by rw [hce]; exact hcr.symm
        have hEl : E.length = Gr.length := names_lenE hbase.ok hrok hsame
        have hEs : E.length ≤ 1048576 := by have h1 := HS.out.enl; have h2 := HS.out.few; omega
        have hrl : relsC (cntE E) = relsC (cntR Gr) := rels_same hbase.ok.nodup hrok.ok.nodup hsame
        have H4 := Lib.hid (And.intro (H3.out.trans hk4) (And.intro hbase (And.intro href (And.intro hrok (And.intro hEl (And.intro hEs hrl))))))
        have hnp : ∀ w : World, (binOp .eql 36 (.pointer (some ⟨cb, 0, none⟩)) (.pointer none)).run Tryz.prog w = .ok (.bool false) w := fun _ => by kernel_rfl
        clear hyes hno hbase href hrok hce hcr hlen hsame hEl hEs hrl hk4 hz
        go_wp2_with fail
        refine (gather_any H4.out.2.1 H4.out.2.2.2.2.2.1).mono ?_
        rintro e w5 ⟨v, rfl, hk5, gv, rfl, hgv⟩
        have hgs := hgv.stats
        rw [H4.out.2.2.2.2.2.2] at hgs
        obtain ⟨ga, gc, rfl, hst⟩ := hgs
        have H5 := Lib.hid (And.intro hk5 hst)
        clear hk5 hgv hst
        go_wp2_with fail
        refine (refGather_any (H4.out.2.2.1.ext H5.out.1) H4.out.2.2.2.1 (by rw [← H4.out.2.2.2.2.1]; exact H4.out.2.2.2.2.2.1) (rel_fit H4.out.2.2.2.1.ok)).mono ?_
        rintro e w6 ⟨v, rfl, hk6, wa, wc, rfl, hwt⟩
        obtain ⟨St, eSt⟩ : ∃ St, (relsC (cntR Gr)).map gatS = St := ⟨_, rfl⟩
        obtain ⟨ns, ens⟩ : ∃ ns, St.length = ns := ⟨_, rfl⟩
        have hns : (relsC (cntR Gr)).length = ns := by rw [← ens, ← eSt, List.length_map]
        have H6 := Lib.hid (show Ext w4 w6 ∧ StatsAt w6 ga St ∧ StatsAt w6 wa St ∧ St.length = ns ∧ ns ≤ 1048576 ∧ ∀ s ∈ St, s.2.2.1.length ≤ 64 from by
          refine ⟨H5.out.1.trans hk6, ?_, ?_, ens, ?_, fun s hs => ?_⟩
          · rw [← eSt]; exact H5.out.2.ext hk6
          · rw [← eSt]; exact hwt
          · rw [← hns, rels_sorted (by rw [cntR_names]; exact H4.out.2.2.2.1.names), List.length_map, cntR, List.length_map, ← H4.out.2.2.2.2.1]; exact H4.out.2.2.2.2.2.1
          · rw [← eSt] at hs
            obtain ⟨q, hq, rfl⟩ := List.mem_map.1 hs
            have hf := rel_fit H4.out.2.2.2.1.ok q hq
            show (colsN q.2.2.1 q.2.1.toNat).length ≤ 64
            rw [colsN_len]
            have := hf.ar
            omega)
        rw [hns]
        clear hk6 hwt eSt ens hns
        go_wp2_with fail
        refine (gather_nil w6).mono ?_
        rintro e w7 ⟨v, rfl, hk7, rfl⟩
        have H7 := Lib.hid (And.intro (H6.out.1.trans hk7) (And.intro (H6.out.2.1.ext hk7) (H6.out.2.2.1.ext hk7)))
        clear hk7
        have hn6 := H6.out.2.2.2.2.1
        go_wp2
        go_loopw [12] (SeenTo w7 ns) (fun iv _ => ns - (intOf iv).toNat)
        case atStart => exact ⟨0, Nat.zero_le _, rfl, Lib.hid (Kp.refl _)⟩
        case round =>
          obtain ⟨i, hi, rfl, hex⟩ := hrel
          generalize hw8 : wr = w8 at *; clear hw8
          by_cases hlt : i < ns
          · obtain ⟨s, hs⟩ : ∃ s, St[i]? = some s := ⟨_, List.getElem?_eq_getElem (by rw [H6.out.2.2.2.1]; exact hlt)⟩
            obtain ⟨bl, ol, da, dc, ea1, l0, l1, l2, le1, le2, hda⟩ := (H7.out.2.1.ext hex.out) i s hs
            obtain ⟨bw, ow, db, dd, ea2, m0, m1, m2, le3, le4, hdb⟩ := (H7.out.2.2.ext hex.out) i s hs
            subst ea1
            subst ea2
            have hsd := H6.out.2.2.2.2.2 s (List.mem_of_getElem? hs)
            obtain ⟨sp, esp⟩ : ∃ y, s.1 = y := ⟨_, rfl⟩
            obtain ⟨sr, esr⟩ : ∃ y, s.2.1 = y := ⟨_, rfl⟩
            obtain ⟨sl, esl⟩ : ∃ y, s.2.2.1 = y := ⟨_, rfl⟩
            rw [esp] at l0 m0
            rw [esr] at l1 m1
            rw [esl] at l2 m2 hda hdb hsd le1 le3
            obtain ⟨sd, esd⟩ : ∃ y, sl.length = y := ⟨_, rfl⟩
            rw [esd] at l2 m2 hsd le1 le3
            have HD := Lib.hid (And.intro hda (And.intro hdb esd))
            have HCs := Lib.hid (show ∀ w', Ext w8 w' → (fun w' : World => w'.cell? ⟨bl, ol + i * 3, none⟩ = some (.string sp) ∧ w'.cell? ⟨bl, ol + i * 3 + 1, none⟩ = some (.float .f64 sr) ∧ w'.cell? ⟨bl, ol + i * 3 + 2, none⟩ = some (.slice da sd dc) ∧ w'.cell? ⟨bw, ow + i * 3, none⟩ = some (.string sp) ∧ w'.cell? ⟨bw, ow + i * 3 + 1, none⟩ = some (.float .f64 sr) ∧ w'.cell? ⟨bw, ow + i * 3 + 2, none⟩ = some (.slice db sd dd)) w' from fun w' hw => ⟨hw.cell l0 id, hw.cell l1 id, hw.cell l2 id, hw.cell m0 id, hw.cell m1 id, hw.cell m2 id⟩)
            have hq1 : (sp.toList == sp.toList) = true := str_eq sp
            have hq2 : (sp.toList != sp.toList) = false := by unfold bne; rw [hq1]; rfl
            have HAl := Lib.hid (fun W => alike_any sr W)
            clear hs esp esr esl esd l0 l1 l2 m0 m1 m2 hda hdb le1 le2 le3 le4
            go_wp2
            refine draw_begin (fun w' : World => w'.cell? ⟨bl, ol + i * 3, none⟩ = some (.string sp) ∧ w'.cell? ⟨bl, ol + i * 3 + 1, none⟩ = some (.float .f64 sr) ∧ w'.cell? ⟨bl, ol + i * 3 + 2, none⟩ = some (.slice da sd dc) ∧ w'.cell? ⟨bw, ow + i * 3, none⟩ = some (.string sp) ∧ w'.cell? ⟨bw, ow + i * 3 + 1, none⟩ = some (.float .f64 sr) ∧ w'.cell? ⟨bw, ow + i * 3 + 2, none⟩ = some (.slice db sd dd)) [] (by kernel_rfl) (HCs.out _ (Kp.refl w8).drew) (fun hHeld => ?_)
            (refine draw_free (i := 0) (v := ?_) rfl ?_ ?_; rotate_left; (intro w; go_simp; try with_reducible rfl)); (try simp only [Act.put, List.setIfInBounds_toArray, List.set_cons_zero, List.set_cons_succ])
            (refine draw_free (i := 1) (v := ?_) rfl ?_ ?_; rotate_left; (intro w; go_simp; try with_reducible rfl)); (try simp only [Act.put, List.setIfInBounds_toArray, List.set_cons_zero, List.set_cons_succ])
            (refine draw_in (i := 2) (v := ?_) rfl ?_ ?_; rotate_left; (intro w hSw; (try dsimp only at hSw); go_simp; try with_reducible rfl)); (try simp only [Act.put, List.setIfInBounds_toArray, List.set_cons_zero, List.set_cons_succ])
            (refine draw_free (i := 3) (v := ?_) rfl ?_ ?_; rotate_left; (intro w; go_simp; try with_reducible rfl)); (try simp only [Act.put, List.setIfInBounds_toArray, List.set_cons_zero, List.set_cons_succ])
            (refine draw_in (i := 4) (v := ?_) rfl ?_ ?_; rotate_left; (intro w hSw; (try dsimp only at hSw); go_simp; try with_reducible rfl)); (try simp only [Act.put, List.setIfInBounds_toArray, List.set_cons_zero, List.set_cons_succ])
            (refine draw_free (i := 5) (v := ?_) rfl ?_ ?_; rotate_left; (intro w; go_simp; try with_reducible rfl)); (try simp only [Act.put, List.setIfInBounds_toArray, List.set_cons_zero, List.set_cons_succ])
            (refine draw_free (i := 6) (v := ?_) rfl ?_ ?_; rotate_left; (intro w; go_simp; try with_reducible rfl)); (try simp only [Act.put, List.setIfInBounds_toArray, List.set_cons_zero, List.set_cons_succ])
            (refine draw_in (i := 7) (v := ?_) rfl ?_ ?_; rotate_left; (intro w hSw; (try dsimp only at hSw); go_simp; try with_reducible rfl)); (try simp only [Act.put, List.setIfInBounds_toArray, List.set_cons_zero, List.set_cons_succ])
            (refine draw_free (i := 8) (v := ?_) rfl ?_ ?_; rotate_left; (intro w; go_simp; try with_reducible rfl)); (try simp only [Act.put, List.setIfInBounds_toArray, List.set_cons_zero, List.set_cons_succ])
            (refine draw_in (i := 9) (v := ?_) rfl ?_ ?_; rotate_left; (intro w hSw; (try dsimp only at hSw); go_simp; try with_reducible rfl)); (try simp only [Act.put, List.setIfInBounds_toArray, List.set_cons_zero, List.set_cons_succ])
            (refine draw_free (i := 10) (v := ?_) rfl ?_ ?_; rotate_left; (intro w; go_simp; try with_reducible rfl)); (try simp only [Act.put, List.setIfInBounds_toArray, List.set_cons_zero, List.set_cons_succ])
            (refine draw_free (i := 11) (v := ?_) rfl ?_ ?_; rotate_left; (intro w; go_simp; try with_reducible rfl)); (try simp only [Act.put, List.setIfInBounds_toArray, List.set_cons_zero, List.set_cons_succ])
            (first | (refine draw_free (i := 12) (v := ?_) rfl ?_ ?_; rotate_left; (intro w; go_simp; try with_reducible rfl)) | (refine draw_out (i := 12) rfl ?_)); (try simp only [Act.put, List.setIfInBounds_toArray, List.set_cons_zero, List.set_cons_succ])
            (first | (refine draw_free (i := 13) (v := ?_) rfl ?_ ?_; rotate_left; (intro w; go_simp; try with_reducible rfl)) | (refine draw_out (i := 13) rfl ?_)); (try simp only [Act.put, List.setIfInBounds_toArray, List.set_cons_zero, List.set_cons_succ])
            (first | (refine draw_in (i := 14) (v := ?_) rfl ?_ ?_; rotate_left; (intro w hSw; (try dsimp only at hSw); go_simp; try with_reducible rfl)) | (refine draw_out (i := 14) rfl ?_)); (try simp only [Act.put, List.setIfInBounds_toArray, List.set_cons_zero, List.set_cons_succ])
            (first | (refine draw_free (i := 15) (v := ?_) rfl ?_ ?_; rotate_left; (intro w; go_simp; try with_reducible rfl)) | (refine draw_out (i := 15) rfl ?_)); (try simp only [Act.put, List.setIfInBounds_toArray, List.set_cons_zero, List.set_cons_succ])
            (first | (refine draw_in (i := 16) (v := ?_) rfl ?_ ?_; rotate_left; (intro w hSw; (try dsimp only at hSw); go_simp; try with_reducible rfl)) | (refine draw_out (i := 16) rfl ?_)); (try simp only [Act.put, List.setIfInBounds_toArray, List.set_cons_zero, List.set_cons_succ])
            (first | (refine draw_free (i := 17) (v := ?_) rfl ?_ ?_; rotate_left; (intro w; go_simp; try with_reducible rfl)) | (refine draw_out (i := 17) rfl ?_)); (try simp only [Act.put, List.setIfInBounds_toArray, List.set_cons_zero, List.set_cons_succ])
            (first | (refine draw_free (i := 18) (v := ?_) rfl ?_ ?_; rotate_left; (intro w; go_simp; try with_reducible rfl)) | (refine draw_out (i := 18) rfl ?_)); (try simp only [Act.put, List.setIfInBounds_toArray, List.set_cons_zero, List.set_cons_succ])
            (first | (refine draw_in (i := 19) (v := ?_) rfl ?_ ?_; rotate_left; (intro w hSw; (try dsimp only at hSw); go_simp; try with_reducible rfl)) | (refine draw_out (i := 19) rfl ?_)); (try simp only [Act.put, List.setIfInBounds_toArray, List.set_cons_zero, List.set_cons_succ])
            (first | (refine draw_free (i := 20) (v := ?_) rfl ?_ ?_; rotate_left; (intro w; go_simp; try with_reducible rfl)) | (refine draw_out (i := 20) rfl ?_)); (try simp only [Act.put, List.setIfInBounds_toArray, List.set_cons_zero, List.set_cons_succ])
            (first | (refine draw_in (i := 21) (v := ?_) rfl ?_ ?_; rotate_left; (intro w hSw; (try dsimp only at hSw); go_simp; try with_reducible rfl)) | (refine draw_out (i := 21) rfl ?_)); (try simp only [Act.put, List.setIfInBounds_toArray, List.set_cons_zero, List.set_cons_succ])
            refine draw_one (i := 22) ?_
            refine comes_turn (i := 22) rfl (fun K hK => ?_)
            go_simp
            (refine (HAl.out _).mono ?_; rintro e w9 ⟨v, rfl, hk9, rfl⟩; have X9 := Lib.hid (show Ext w8 w9 from ((Kp.refl w8).drew).trans hk9); clear hk9)
            go_wp2_with fail
            refine hK.out _ _ ?_ (fun hHeld => ?_)
            · (try dsimp only); (exact HCs.out _ X9.out)
            clear hK K; (try simp only [Act.put, List.setIfInBounds_toArray, List.set_cons_zero, List.set_cons_succ])
            (first | (refine draw_free (i := 23) (v := ?_) rfl ?_ ?_; rotate_left; (intro w; go_simp; try with_reducible rfl)) | (refine draw_out (i := 23) rfl ?_)); (try simp only [Act.put, List.setIfInBounds_toArray, List.set_cons_zero, List.set_cons_succ])
            (refine draw_free (i := 24) (v := ?_) rfl ?_ ?_; rotate_left; (intro w; go_simp; try with_reducible rfl)); (try simp only [Act.put, List.setIfInBounds_toArray, List.set_cons_zero, List.set_cons_succ])
            (refine draw_free (i := 25) (v := ?_) rfl ?_ ?_; rotate_left; (intro w; go_simp; try with_reducible rfl)); (try simp only [Act.put, List.setIfInBounds_toArray, List.set_cons_zero, List.set_cons_succ])
            (first | (refine draw_free (i := 26) (v := ?_) rfl ?_ ?_; rotate_left; (intro w; go_simp; try with_reducible rfl)) | (refine draw_out (i := 26) rfl ?_)); (try simp only [Act.put, List.setIfInBounds_toArray, List.set_cons_zero, List.set_cons_succ])
            (first | (refine draw_free (i := 27) (v := ?_) rfl ?_ ?_; rotate_left; (intro w; go_simp; try with_reducible rfl)) | (refine draw_out (i := 27) rfl ?_)); (try simp only [Act.put, List.setIfInBounds_toArray, List.set_cons_zero, List.set_cons_succ])
            (first | (refine draw_in (i := 28) (v := ?_) rfl ?_ ?_; rotate_left; (intro w hSw; (try dsimp only at hSw); go_simp; try with_reducible rfl)) | (refine draw_out (i := 28) rfl ?_)); (try simp only [Act.put, List.setIfInBounds_toArray, List.set_cons_zero, List.set_cons_succ])
            (first | (refine draw_free (i := 29) (v := ?_) rfl ?_ ?_; rotate_left; (intro w; go_simp; try with_reducible rfl)) | (refine draw_out (i := 29) rfl ?_)); (try simp only [Act.put, List.setIfInBounds_toArray, List.set_cons_zero, List.set_cons_succ])
            (first | (refine draw_in (i := 30) (v := ?_) rfl ?_ ?_; rotate_left; (intro w hSw; (try dsimp only at hSw); go_simp; try with_reducible rfl)) | (refine draw_out (i := 30) rfl ?_)); (try simp only [Act.put, List.setIfInBounds_toArray, List.set_cons_zero, List.set_cons_succ])
            (first | (refine draw_in (i := 31) (v := ?_) rfl ?_ ?_; rotate_left; (intro w hSw; (try dsimp only at hSw); go_simp; try with_reducible rfl)) | (refine draw_out (i := 31) rfl ?_)); (try simp only [Act.put, List.setIfInBounds_toArray, List.set_cons_zero, List.set_cons_succ])
            (first | (refine draw_free (i := 32) (v := ?_) rfl ?_ ?_; rotate_left; (intro w; go_simp; try with_reducible rfl)) | (refine draw_out (i := 32) rfl ?_)); (try simp only [Act.put, List.setIfInBounds_toArray, List.set_cons_zero, List.set_cons_succ])
            (first | (refine draw_free (i := 33) (v := ?_) rfl ?_ ?_; rotate_left; (intro w; go_simp; try with_reducible rfl)) | (refine draw_out (i := 33) rfl ?_)); (try simp only [Act.put, List.setIfInBounds_toArray, List.set_cons_zero, List.set_cons_succ])
            (first | (refine draw_in (i := 34) (v := ?_) rfl ?_ ?_; rotate_left; (intro w hSw; (try dsimp only at hSw); go_simp; try with_reducible rfl)) | (refine draw_out (i := 34) rfl ?_)); (try simp only [Act.put, List.setIfInBounds_toArray, List.set_cons_zero, List.set_cons_succ])
            (first | (refine draw_free (i := 35) (v := ?_) rfl ?_ ?_; rotate_left; (intro w; go_simp; try with_reducible rfl)) | (refine draw_out (i := 35) rfl ?_)); (try simp only [Act.put, List.setIfInBounds_toArray, List.set_cons_zero, List.set_cons_succ])
            (first | (refine draw_in (i := 36) (v := ?_) rfl ?_ ?_; rotate_left; (intro w hSw; (try dsimp only at hSw); go_simp; try with_reducible rfl)) | (refine draw_out (i := 36) rfl ?_)); (try simp only [Act.put, List.setIfInBounds_toArray, List.set_cons_zero, List.set_cons_succ])
            (first | (refine draw_in (i := 37) (v := ?_) rfl ?_ ?_; rotate_left; (intro w hSw; (try dsimp only at hSw); go_simp; try with_reducible rfl)) | (refine draw_out (i := 37) rfl ?_)); (try simp only [Act.put, List.setIfInBounds_toArray, List.set_cons_zero, List.set_cons_succ])
            (first | (refine draw_free (i := 38) (v := ?_) rfl ?_ ?_; rotate_left; (intro w; go_simp; try with_reducible rfl)) | (refine draw_out (i := 38) rfl ?_)); (try simp only [Act.put, List.setIfInBounds_toArray, List.set_cons_zero, List.set_cons_succ])
            (refine draw_free (i := 39) (v := ?_) rfl ?_ ?_; rotate_left; (intro w; go_simp; try with_reducible rfl)); (try simp only [Act.put, List.setIfInBounds_toArray, List.set_cons_zero, List.set_cons_succ])
            refine wpAnyD_done (by kernel_rfl) ?_ _
            clear hHeld hq1 hq2
            go_wp2
            go_loopw [13] (SeenTo w9 sd) (fun iv _ => sd - (intOf iv).toNat)
            case atStart => exact ⟨0, Nat.zero_le _, rfl, Lib.hid (Kp.refl _)⟩
            case round =>
              obtain ⟨c, hc, rfl, hexc⟩ := hrel
              generalize hw10 : wr = w10 at *; clear hw10
              have hx10 := X9.out.trans hexc.out
              obtain ⟨-, -, l2, -, -, m2⟩ := HCs.out w10 hx10
              by_cases hltc : c < sd
              · obtain ⟨dx, hdx⟩ : ∃ dx, sl[c]? = some dx := ⟨_, List.getElem?_eq_getElem (by rw [HD.out.2.2]; exact hltc)⟩
                obtain ⟨ea, eo, eda, ca⟩ := HD.out.1 c (.float .f64 dx) (by simp [flts, hdx])
                obtain ⟨fa, fo, fda, cb2⟩ := HD.out.2.1 c (.float .f64 dx) (by simp [flts, hdx])
                subst eda
                subst fda
                replace ca := hx10.cell ca id
                replace cb2 := hx10.cell cb2 id
                have HCs2 := Lib.hid (show ∀ w', Ext w10 w' → (fun w' : World => w'.cell? ⟨bl, ol + i * 3 + 2, none⟩ = some (.slice (some ⟨ea, eo, none⟩) sd dc) ∧ w'.cell? ⟨bw, ow + i * 3 + 2, none⟩ = some (.slice (some ⟨fa, fo, none⟩) sd dd) ∧ w'.cell? ⟨ea, eo + c, none⟩ = some (.float .f64 dx) ∧ w'.cell? ⟨fa, fo + c, none⟩ = some (.float .f64 dx)) w' from fun w' hw => ⟨hw.cell l2 id, hw.cell m2 id, hw.cell ca id, hw.cell cb2 id⟩)
                have HAl2 := Lib.hid (fun W => alike_any dx W)
                have HXc := Lib.hid hexc.out
                clear hdx ca cb2 m2 hx10 hexc
                go_wp2
                clear l2
                refine draw_begin (fun w' : World => w'.cell? ⟨bl, ol + i * 3 + 2, none⟩ = some (.slice (some ⟨ea, eo, none⟩) sd dc) ∧ w'.cell? ⟨bw, ow + i * 3 + 2, none⟩ = some (.slice (some ⟨fa, fo, none⟩) sd dd) ∧ w'.cell? ⟨ea, eo + c, none⟩ = some (.float .f64 dx) ∧ w'.cell? ⟨fa, fo + c, none⟩ = some (.float .f64 dx)) [] (by kernel_rfl) (HCs2.out _ (Kp.refl w10).drew) (fun hHeld => ?_)
                (refine draw_free (i := 0) (v := ?_) rfl ?_ ?_; rotate_left; (intro w; go_simp; try with_reducible rfl)); (try simp only [Act.put, List.setIfInBounds_toArray, List.set_cons_zero, List.set_cons_succ])
                (refine draw_free (i := 1) (v := ?_) rfl ?_ ?_; rotate_left; (intro w; go_simp; try with_reducible rfl)); (try simp only [Act.put, List.setIfInBounds_toArray, List.set_cons_zero, List.set_cons_succ])
                (refine draw_in (i := 2) (v := ?_) rfl ?_ ?_; rotate_left; (intro w hSw; (try dsimp only at hSw); go_simp; try with_reducible rfl)); (try simp only [Act.put, List.setIfInBounds_toArray, List.set_cons_zero, List.set_cons_succ])
                (refine draw_free (i := 3) (v := ?_) rfl ?_ ?_; rotate_left; (intro w; go_simp; try with_reducible rfl)); (try simp only [Act.put, List.setIfInBounds_toArray, List.set_cons_zero, List.set_cons_succ])
                (refine draw_in (i := 4) (v := ?_) rfl ?_ ?_; rotate_left; (intro w hSw; (try dsimp only at hSw); go_simp; try with_reducible rfl)); (try simp only [Act.put, List.setIfInBounds_toArray, List.set_cons_zero, List.set_cons_succ])
                (refine draw_free (i := 5) (v := ?_) rfl ?_ ?_; rotate_left; (intro w; go_simp; try with_reducible rfl)); (try simp only [Act.put, List.setIfInBounds_toArray, List.set_cons_zero, List.set_cons_succ])
                (refine draw_in (i := 6) (v := ?_) rfl ?_ ?_; rotate_left; (intro w hSw; (try dsimp only at hSw); go_simp; try with_reducible rfl)); (try simp only [Act.put, List.setIfInBounds_toArray, List.set_cons_zero, List.set_cons_succ])
                (refine draw_in (i := 7) (v := ?_) rfl ?_ ?_; rotate_left; (intro w hSw; (try dsimp only at hSw); go_simp; try with_reducible rfl)); (try simp only [Act.put, List.setIfInBounds_toArray, List.set_cons_zero, List.set_cons_succ])
                (refine draw_free (i := 8) (v := ?_) rfl ?_ ?_; rotate_left; (intro w; go_simp; try with_reducible rfl)); (try simp only [Act.put, List.setIfInBounds_toArray, List.set_cons_zero, List.set_cons_succ])
                (refine draw_free (i := 9) (v := ?_) rfl ?_ ?_; rotate_left; (intro w; go_simp; try with_reducible rfl)); (try simp only [Act.put, List.setIfInBounds_toArray, List.set_cons_zero, List.set_cons_succ])
                (refine draw_in (i := 10) (v := ?_) rfl ?_ ?_; rotate_left; (intro w hSw; (try dsimp only at hSw); go_simp; try with_reducible rfl)); (try simp only [Act.put, List.setIfInBounds_toArray, List.set_cons_zero, List.set_cons_succ])
                (refine draw_free (i := 11) (v := ?_) rfl ?_ ?_; rotate_left; (intro w; go_simp; try with_reducible rfl)); (try simp only [Act.put, List.setIfInBounds_toArray, List.set_cons_zero, List.set_cons_succ])
                (refine draw_in (i := 12) (v := ?_) rfl ?_ ?_; rotate_left; (intro w hSw; (try dsimp only at hSw); go_simp; try with_reducible rfl)); (try simp only [Act.put, List.setIfInBounds_toArray, List.set_cons_zero, List.set_cons_succ])
                (refine draw_free (i := 13) (v := ?_) rfl ?_ ?_; rotate_left; (intro w; go_simp; try with_reducible rfl)); (try simp only [Act.put, List.setIfInBounds_toArray, List.set_cons_zero, List.set_cons_succ])
                (refine draw_in (i := 14) (v := ?_) rfl ?_ ?_; rotate_left; (intro w hSw; (try dsimp only at hSw); go_simp; try with_reducible rfl)); (try simp only [Act.put, List.setIfInBounds_toArray, List.set_cons_zero, List.set_cons_succ])
                (refine draw_in (i := 15) (v := ?_) rfl ?_ ?_; rotate_left; (intro w hSw; (try dsimp only at hSw); go_simp; try with_reducible rfl)); (try simp only [Act.put, List.setIfInBounds_toArray, List.set_cons_zero, List.set_cons_succ])
                refine draw_one (i := 16) ?_
                refine comes_turn (i := 16) rfl (fun K hK => ?_)
                go_simp
                (refine (HAl2.out _).mono ?_; rintro e w11 ⟨v, rfl, hk11, rfl⟩; have X11 := Lib.hid (show Ext w10 w11 from ((Kp.refl w10).drew).trans hk11); clear hk11)
                go_wp2_with fail
                refine hK.out _ _ ?_ (fun hHeld => ?_)
                · (try dsimp only); (exact HCs2.out _ X11.out)
                clear hK K; (try simp only [Act.put, List.setIfInBounds_toArray, List.set_cons_zero, List.set_cons_succ])
                (refine draw_free (i := 17) (v := ?_) rfl ?_ ?_; rotate_left; (intro w; go_simp; try with_reducible rfl)); (try simp only [Act.put, List.setIfInBounds_toArray, List.set_cons_zero, List.set_cons_succ])
                refine wpAnyD_done (by kernel_rfl) ?_ _
                clear hHeld
                go_wp2
                go_roundw
                case rel => exact ⟨c + 1, by omega, by first | rfl | (congr 1; done) | (congr 1; omega), Lib.hid (HXc.out.trans X11.out)⟩
                case measure => simp [intOf]; omega
              · have ec : sd = c := by omega
                subst ec
                have HXc := Lib.hid (hex.out.trans hx10)
                clear hx10 hexc
                go_wp2
                go_roundw
                case rel => exact ⟨i + 1, by omega, by first | rfl | (congr 1; done) | (congr 1; omega), HXc⟩
                case measure => simp [intOf]; omega
          · have ei : ns = i := by omega
            subst ei
            have hx8 := (H4.out.1.trans H7.out.1).trans hex.out
            obtain ⟨r0, r1, r2, r4, r5, r6⟩ := HR.out w8 hx8
            have hq := frombits_run
            have HX8 := Lib.hid hx8
            clear hx8 hex
            go_wp2_with fail
            refine (apart_any x y HS.out.px HS.out.py w8).mono ?_
            rintro e w9 ⟨v, rfl, hk9, rfl⟩
            have H9 := Lib.hid (HX8.out.trans hk9)
            clear hk9 r0 r1 r2 r4 r5 r6
            go_wp2_with fail
            refine (refApart_any x y HS.out.px HS.out.py w9).mono ?_
            rintro e w10 ⟨v, rfl, hk10, rfl⟩
            have H10 := Lib.hid (H9.out.trans hk10)
            have HOrd := Lib.hid (fun W (hW : Ext w1 W) => orders_any p hs ls ha hn hcap ba n bcap xs na m mcap W G HS.out.ehn (HS.out.heads.ext (HB.out.2.2.1.trans hW)) HS.out.hfew HS.out.en (HS.out.lits.ext (HB.out.2.2.1.trans hW)) HS.out.fit HS.out.em (HS.out.order.ext (HB.out.2.2.1.trans hW)) HS.out.mfew HS.out.cap HS.out.max (fun k hk => Nat.lt_of_lt_of_le (HS.out.old k hk) (HB.out.2.2.1.trans hW).size))
            obtain ⟨r0, r1, r2, r4, -, -⟩ := HR.out w10 H10.out
            clear hk10 hq
            by_cases hg : geW x ∧ geW y
            · obtain ⟨z, ez⟩ : ∃ z, apartW (normW x) (normW y) = z := ⟨_, rfl⟩
              have hv1 : apartV x y = z := by unfold apartV; rw [if_pos hg, ez]
              have hv2 : refApartV x y = .tuple #[.float .f64 z, .bool true] := by unfold refApartV; rw [if_pos hg, ez]
              have hzl : z ≤ infW := by rw [← ez]; exact apartW_le (norm_le hg.1) (norm_le hg.2)
              have hzz : ((FloatKind.format .f64).order z z == some .eq) = true := by
                have h1 : (FloatKind.format .f64).order z z = some (compare z z) := order_pos hzl hzl
                rw [h1, Nat.compare_eq_eq.2 rfl]; rfl
              rw [hv1, hv2]
              clear hv1 hv2 hzl hg ez
              go_wp2_with fail
              refine (alike_any z w10).mono ?_
              rintro e w11 ⟨v, rfl, hk11, rfl⟩
              have H11 := Lib.hid (H10.out.trans hk11)
              obtain ⟨r0, r1, r2, r4, -, -⟩ := HR.out w11 H11.out
              clear hk11 hzz
              go_wp2_with fail
              refine (HOrd.out w11 H11.out).mono ?_
              rintro e w12 ⟨v, rfl, hk12, rfl⟩
              have HFin := Lib.hid (HB.out.2.2.1.trans (H11.out.trans hk12))
              clear hk12
              go_wp2
              go_ret
              exact RetN.mk HFin.out rfl
            · have hv1 : apartV x y = nanW := by unfold apartV; rw [if_neg hg]
              have hv2 : refApartV x y = .tuple #[.float .f64 0, .bool false] := by unfold refApartV; rw [if_neg hg]
              have hzz : ((FloatKind.format .f64).order nanW nanW == some .eq) = false := by decide
              rw [hv1, hv2]
              clear hv1 hv2 hg
              go_wp2_with fail
              refine (HOrd.out w10 H10.out).mono ?_
              rintro e w12 ⟨v, rfl, hk12, rfl⟩
              have HFin := Lib.hid (HB.out.2.2.1.trans (H10.out.trans hk12))
              clear hk12
              go_wp2
              go_ret
              exact RetN.mk HFin.out rfl
      · obtain rfl := hno hz
        have H4 := Lib.hid (H3.out.trans hk4)
        have q1 : ∀ w : World, (binOp .eql 36 (.pointer none) (.pointer none)).run Tryz.prog w = .ok (.bool true) w := fun _ => by kernel_rfl
        have q2 : ∀ w : World, (binOp .eql 35 (.pointer none) (.pointer none)).run Tryz.prog w = .ok (.bool true) w := fun _ => by kernel_rfl
        clear hyes hno hk4 hz
        go_wp2_with fail
        refine (gather_nil w4).mono ?_
        rintro e w5 ⟨v, rfl, hk5, rfl⟩
        have H5 := Lib.hid (H4.out.trans hk5)
        clear hk5
        go_wp2
        go_ret
        exact RetN.mk (HB.out.2.2.1.trans H5.out) rfl
end Go.Proofs.YtomeebimmmfmbaaGreat

/- Proved here: the statement CostGathersUptoSaid: the law returns true for every input of the bound that the row names and leaves its arguments as they were. No condition of its own. -/
namespace Go.Proofs.YtomeebimmmfmbaaGreat.lawCostGathers
open Go.ChangeShapes Go.WideShapes Go.ChangeAt Go.RowKit
set_option linter.unusedVariables false

theorem own : ownKnob Tryz.prog.godebug = none := by kernel_rfl
theorem laidOut : laidOutB Tryz.prog = true := by kernel_rfl

noncomputable def shSight : Shp Tryz.prog (List RelZ × RuleZ × List Int × Int × Int × Unit) := shStruct 32 (fdCons (shSlice 22 shRel Tryz.underlying22 (by kernel_rfl) (by decide)) (fdCons shRule (fdCons shInts (fdCons shWord (fdCons shWord fdNil))))) (fs := _) Tryz.underlying32 ⟨_, _, rfl, rfl, rfl, _, _, rfl, rfl, rfl, _, _, rfl, rfl, rfl, _, _, rfl, rfl, rfl, _, _, rfl, rfl, rfl, rfl⟩ (by kernel_rfl)

theorem sumR_bulk : ∀ L : List RelZ, sumR L ≤ bulkL shRel.bulk L
  | [] => Nat.zero_le _
  | q :: L => by
    have h1 := sumR_bulk L
    have h2 : shRel.bulk q = (shT.bulk q.1 + (1 + ((bulkL shTs.bulk q.2.2.1 + 1) + 0))) + 1 := rfl
    have h3 := bulkL_len shTs.bulk (fun x => by show 1 ≤ _ + 1; omega) q.2.2.1
    have h4 : sumR (q :: L) = q.2.2.1.length + sumR L := by unfold sumR; simp
    have h5 : bulkL shRel.bulk (q :: L) = shRel.bulk q + bulkL shRel.bulk L := by simp [bulkL]
    omega

theorem gathers_walk {v : Value} {W : World} (hv : ∃ cs x, v = .agg cs ∧ shSight.At W (fun k => k < W.heap.size) cs.toList x ∧ shSight.bulk x ≤ 1048576) :
    Calls Tryz.prog 3 #[v] W (fun e w' => e = .returned (.bool true) ∧ Below W.heap.size W w') := by
  obtain ⟨cs, x, rfl, ⟨a0, b0, e0, ⟨ra, rc, er, r1, r2, r3⟩, a1, b1, e1, h1, a2, b2, e2, ⟨oa, oc, e3, o1, o2, o3⟩, a4, b4, e4, ⟨e5, u5⟩, a6, b6, e6, ⟨e7, u7⟩, e8⟩, hb⟩ := hv
  obtain ⟨ha, hcap, ba, bcap, hR, ec⟩ := rule_cells h1
  have e8' : b6 = [] := e8
  have p5 := wf_u64 u5
  have p7 := wf_u64 u7
  have z5 : x.2.2.2.1 = ((x.2.2.2.1.toNat : Nat) : Int) := by omega
  have z7 : x.2.2.2.2.1 = ((x.2.2.2.2.1.toNat : Nat) : Int) := by omega
  have ecs : cs = #[.slice ra x.1.length rc, .string x.2.1.1.1, .slice ha x.2.1.1.2.1.length hcap, .slice ba x.2.1.2.1.length bcap, .slice oa x.2.2.1.length oc, .int .u64 ((x.2.2.2.1.toNat : Nat) : Int), .int .u64 ((x.2.2.2.2.1.toNat : Nat) : Int)] := by
    rw [← Array.toList_inj, e0, er, e1, ec, e2, e3, e4, e5, e6, e7, e8', ← z5, ← z7]; rfl
  have hbk : shSight.bulk x = ((bulkL shRel.bulk x.1 + 1) + (shRule.bulk x.2.1 + ((bulkL shI.bulk x.2.2.1 + 1) + (1 + (1 + 0))))) + 1 := rfl
  have l1 := bulkL_len shI.bulk (fun _ => Nat.le_refl 1) x.2.2.1
  have l2 := sumR_bulk x.1
  obtain ⟨f1, f2⟩ := rule_fit (r := x.2.1) (by omega)
  obtain ⟨j1, j2⟩ := int_cells o3
  obtain ⟨k1, k2⟩ := rel_bulk (L := x.1) (N := 1048576) (by omega)
  rw [ecs]
  refine (gathers_any x.1 ra x.1.length rc x.2.1.1.1 x.2.1.1.2.1 x.2.1.2.1 ha _ hcap ba _ bcap x.2.2.1 oa _ oc x.2.2.2.1.toNat x.2.2.2.2.1.toNat W (fun k => k < W.heap.size)
    { enl := rfl, rel := elems_rels r3 (fun q hq ss hs => by have := (k2 q hq).2 ss hs; omega), few := k1, sum := by omega, rows := fun q hq => (k2 q hq).1, ehn := rfl, heads := hR.head, hfew := f1, en := rfl, lits := hR.body, fit := f2, em := rfl, order := j1, mfew := by omega, cap := o1, max := o2, old := fun k h => h, px := by omega, py := by omega }).mono ?_
  rintro e w' ⟨v, rfl, hk, rfl⟩
  exact ⟨rfl, hk.below⟩

set_option maxRecDepth 100000 in
theorem lifted (os : Os) (started : os.Started) (H : Type) (enc : TypeId × Value → H) (F : Stop.Interp) :
    ReturnsInHanded {} Tryz.checked os 3 .any ((Rows.OpenSpec.upto Rows.costGathersSpec).pre6 enc Tryz.prog Tryz.f3 Rows.costGathersUptoRow.domain false) (((Rows.OpenSpec.upto Rows.costGathersSpec).at F).post enc Tryz.prog Tryz.f3 false true false false) := by
  refine returnsInHanded_of_cond (C := Tryz.checked) (s := Rows.OpenSpec.upto Rows.costGathersSpec) (k := Rows.uptoSmall) rfl own started (by kernel_rfl) Tryz.func3
    (OpenSpec.witness (enc := enc) (C := Tryz.checked) (s := Rows.OpenSpec.upto Rows.costGathersSpec) (k := Rows.uptoSmall) rfl false ⟨#[], #[.agg #[.slice none 0 0, .string ⟨#[]⟩, .slice none 0 0, .slice none 0 0, .slice none 0 0, .int .u64 0, .int .u64 0]], []⟩ 8 (by kernel_rfl) (by kernel_rfl) (by kernel_rfl)
      (x := ([.agg [.nil, .agg [.agg [.lit (.string []), .nil], .nil], .nil, .lit (.int .u64 0), .lit (.int .u64 0)]], [], [])) (by kernel_rfl) rfl (by kernel_rfl)) ?_
  intro W base args ds gs before hval0 hW hcnd hk0 _
  have hk : Rows.uptoSmall H (ds ++ gs) = true := hk0
  clear hk0
  have hval : ∀ (j : Nat) t v, Tryz.f3.params[j]? = some t → args[j]? = some v → Value.okWide Tryz.prog W .any base t v := hval0
  have hW' := hW
  obtain ⟨p, q, hA0, hV, rfl, hfz, hnd⟩ := hW
  have hA : DataW.TrodAll enc Tryz.prog W 0 (fun _ => true) true Tryz.f3.params.toList args.toList ds p := hA0
  rw [Tryz.params3] at hA hval
  obtain ⟨v0, vs0, d0, ds0, p0, q0, hargs, rfl, rfl, h0, r0⟩ := trodAll_cons hA
  obtain ⟨rfl, rfl, rfl⟩ := trodAll_nil r0
  obtain rfl : args = #[v0] := by cases args; simp_all
  obtain ⟨rfl, rfl⟩ := trodVars_none hV
  have lt0 : ∀ x ∈ p0, x.block < W.heap.size := by obtain ⟨m, hm⟩ := h0; exact DataW.trod_lt m _ _ _ hm
  clear hA0 hval0
  simp only [List.append_nil] at hk
  have hk1 : Rows.uptoBulkAll [d0] ≤ 1048576 := of_decide_eq_true hk
  clear hk
  have x0 : ∃ cs x, v0 = .agg cs ∧ shSight.At W (fun k => k < W.heap.size) cs.toList x ∧ shSight.bulk x ≤ 1048576 := by
    obtain ⟨cs, rfl, hcs⟩ := okWide_struct Tryz.underlying32 (hval 0 32 v0 rfl rfl)
    obtain ⟨x, hx, hb⟩ := shSight.arg h0 (bulk_in hk1 (by simp))
    exact ⟨cs, x, rfl, hx, hb⟩
  refine (gathers_walk x0).mono fun e W' ⟨he, bel⟩ => ?_
  subst he
  exact ⟨_, rfl, _, _, _, [], _, [], hW', trodAll_mk1 (shut_bool Tryz.underlying4 _), (trodAll_cons_mk (Below.trod laidOut (by kernel_rfl) (of_decide_eq_true (by kernel_rfl)) h0 bel lt0) trodAll_mk0), rfl, bel.frame _, fun h => by cases h⟩

theorem over : Rows.costGathersUptoRow.holds Tryz.pinned (Rows.OpenSpec.upto Rows.costGathersSpec) :=
  OpenClaim.holds_of_cond 3 Tryz.f3 rfl rfl rfl rfl rfl rfl rfl ⟨rfl, rfl, rfl, rfl, rfl⟩ rfl rfl rfl rfl rfl (by kernel_rfl) Tryz.func3 (by kernel_rfl)
    (of_decide_eq_true (by kernel_rfl)) (by unfold Func.isWrapper; first | (rw [if_pos (by decide +kernel)]; kernel_rfl) | (rw [if_neg (by decide +kernel)]; exact ⟨rfl, rfl⟩))
    (fun os started H enc _ F => lifted os started H enc F)

theorem proved : Rows.CostGathersUptoSaid := over
#print axioms proved
end Go.Proofs.YtomeebimmmfmbaaGreat.lawCostGathers
