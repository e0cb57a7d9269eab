/- tuple.Set at []string: Minus, Meet, Same, Union. -/
import Derived.Test.YtfkhelihepbehaaSetPickRow
namespace Go.Proofs.Ytfkhelihepbehaa
open Go.RowKit
set_option linter.unusedVariables false

section
variable {S : Nat → Prop} {w : World} {b : Nat} {ov iv : Value} {tail : List Value} {te : TypeId} {D : Option Addr × Nat × Nat → Prop} {c : Option Addr × Nat × Nat → Option Addr × Nat × Nat → Int} {zs : List (Option Addr × Nat × Nat)}

set_option maxRecDepth 100000 in
theorem setMinusFnRow_any (O : OrdLaw c) (bu : Nat) (eu : TypeId) (x : Option Addr × Nat × Nat) (hx : D x) (hs : Strict c zs) (h : SetAtRow Try.prog S w b ov iv tail te D c zs) (hB : Blk w bu [.pointer (some ⟨b, 0, none⟩)] eu) :
    Calls Try.prog 138 #[(Value.slice (x).1 (x).2.1 (x).2.2), .pointer (some ⟨bu, 0, none⟩)] w (fun e w' => e = .returned (.bool (!isIn c zs x)) ∧ Ext w w') := by
  have HF := Lib.hid (setHasRow_any O x hx hs h); clear h
  have c1 : w.cell? ⟨bu, 0, none⟩ = some (.pointer (some ⟨b, 0, none⟩)) := by rw [hB.cell']; rfl
  clear hB
  go_enter Try.func138, Try.ntmps138
  go_wp2_with fail
  refine HF.out.mono ?_
  rintro e w1 ⟨v, rfl, hk, rfl⟩
  have HK := Lib.hid hk; clear hk
  go_wp2
  go_ret
  exact ⟨rfl, HK.out⟩
theorem setMinusRow_nil (v : Value) (w : World) : Calls Try.prog 112 #[.pointer none, v] w (Ret (.pointer none) w) := by
  go_enter Try.func112, Try.ntmps112
  go_wp2
  go_ret
  exact Ret.mk rfl
set_option maxRecDepth 100000 in
set_option maxHeartbeats 2000000 in
theorem setMinusRow_any (O : OrdLaw c) {vo : Value} {zs2 : List (Option Addr × Nat × Nat)} (h : SetAtRow Try.prog S w b ov iv tail te D c zs) (h2 : PtrSetRow Try.prog S w vo zs2) (hD : ∀ x ∈ zs2, D x) :
    Calls Try.prog 112 #[.pointer (some ⟨b, 0, none⟩), vo] w
      (RetN w fun w' v => ∃ b' iv', v = .pointer (some ⟨b', 0, none⟩) ∧ w.heap.size ≤ b' ∧ (∀ k, iv'.ownBlock = some k → w.heap.size ≤ k) ∧ SetAtRow Try.prog S w' b' ov iv' [] 66 D c (zs.filter fun x => !isIn c (newS c zs2) x)) := by
  have HU := Lib.hid (setUnderRow_any O h h2 hD)
  have HH := Lib.hid h; clear h h2
  go_enter Try.func112, Try.ntmps112
  go_wp2_with fail
  refine HU.out.mono ?_
  rintro e w1 ⟨v, rfl, hk, b1, iv1, rfl, hb1, hiv1, hset⟩
  have HS := Lib.hid (And.intro hk hset); clear hk hset
  go_wp2_with fail
  have hent : ∀ args w, (callFunc 138 args).run Try.prog w = .ok (.enter 138 args) w := enters_of Try.func138 (by kernel_rfl) rfl
  have hex := HS.out.1.alloc (.cells #[.pointer (some ⟨b1, 0, none⟩)] 131)
  have hsz := HS.out.1.size
  have hBu := Blk.new w1 [.pointer (some ⟨b1, 0, none⟩)] 131
  have hset2 := HS.out.2.ext ((Kp.refl (F := fun _ => False) w1).alloc (.cells #[.pointer (some ⟨b1, 0, none⟩)] 131))
  refine (setPickRow_any (HH.out.ext hex) 138 #[] #[.pointer (some ⟨w1.heap.size, 0, none⟩)] _ ⟨hent, fun w' hw x hx => setMinusFnRow_any O w1.heap.size _ x (HH.out.all x hx) (Strict.new O zs2) (hset2.ext hw) (hBu.ext hw)⟩).mono ?_
  rintro e w2 ⟨v, rfl, hk2, b2, iv2, rfl, hb2, hiv2, hset3⟩
  have HR := Lib.hid hset3; clear hset3 hBu hset2
  go_wp2
  go_ret
  rw [alloc_size] at hb2 hiv2
  exact RetN.mk (hex.trans hk2) ⟨b2, iv2, rfl, by omega, fun k hk => by have := hiv2 k hk; omega, HR.out⟩
theorem setMeetRow_nil (v : Value) (w : World) : Calls Try.prog 113 #[.pointer none, v] w (Ret (.pointer none) w) := by
  go_enter Try.func113, Try.ntmps113
  go_wp2
  go_ret
  exact Ret.mk rfl
set_option maxRecDepth 100000 in
set_option maxHeartbeats 2000000 in
theorem setMeetRow_any (O : OrdLaw c) {vo : Value} {zs2 : List (Option Addr × Nat × Nat)} (h : SetAtRow Try.prog S w b ov iv tail te D c zs) (h2 : PtrSetRow Try.prog S w vo zs2) (hD : ∀ x ∈ zs2, D x) :
    Calls Try.prog 113 #[.pointer (some ⟨b, 0, none⟩), vo] w
      (RetN w fun w' v => ∃ b' iv', v = .pointer (some ⟨b', 0, none⟩) ∧ w.heap.size ≤ b' ∧ (∀ k, iv'.ownBlock = some k → w.heap.size ≤ k) ∧ SetAtRow Try.prog S w' b' ov iv' [] 66 D c (zs.filter fun x => isIn c (newS c zs2) x)) := by
  have HU := Lib.hid (setUnderRow_any O h h2 hD)
  have HH := Lib.hid h; clear h h2
  go_enter Try.func113, Try.ntmps113
  go_wp2_with fail
  refine HU.out.mono ?_
  rintro e w1 ⟨v, rfl, hk, b1, iv1, rfl, hb1, hiv1, hset⟩
  have HS := Lib.hid (And.intro hk hset); clear hk hset
  go_wp2_with fail
  have hent : ∀ args w, (callFunc 108 args).run Try.prog w = .ok (.enter 108 args) w := enters_of Try.func108 (by kernel_rfl) rfl
  have hsz := HS.out.1.size
  refine (setPickRow_any (HH.out.ext HS.out.1) 108 #[.pointer (some ⟨b1, 0, none⟩)] #[] _ ⟨hent, fun w' hw x hx => (setHasRow_any O x (HH.out.all x hx) (Strict.new O zs2) (HS.out.2.ext hw)).mono (by rintro e w2 ⟨v, rfl, hk, rfl⟩; exact ⟨rfl, hk⟩)⟩).mono ?_
  rintro e w2 ⟨v, rfl, hk2, b2, iv2, rfl, hb2, hiv2, hset3⟩
  have HR := Lib.hid hset3; clear hset3
  go_wp2
  go_ret
  exact RetN.mk (HS.out.1.trans hk2) ⟨b2, iv2, rfl, by omega, fun k hk => by have := hiv2 k hk; omega, HR.out⟩
theorem setLenRow_ptr {v : Value} (h : PtrSetRow Try.prog S w v zs) : Calls Try.prog 116 #[v] w (Ret (.int .i64 (zs.length : Nat)) w) := by
  rcases h with ⟨rfl, rfl⟩ | ⟨b, ov, iv, tail, te, D, c, rfl, h2⟩
  · exact setLenRow_nil w
  · exact setLenRow_any h2
theorem setSameRow_nil {v : Value} (h : PtrSetRow Try.prog S w v zs) : Calls Try.prog 119 #[.pointer none, v] w (Ret (.bool (decide (zs.length = 0))) w) := by
  have HL := Lib.hid (setLenRow_ptr h); clear h
  have key : ((zs.length : Int) == 0) = decide (zs.length = 0) := by
    rw [Bool.eq_iff_iff]; simp
  have HK := Lib.hid key; clear key
  go_enter Try.func119, Try.ntmps119
  go_wp2_with fail
  refine HL.out.mono ?_
  rintro e w' ⟨rfl, rfl⟩
  go_wp2
  go_ret
  exact Ret.mk (congrArg Value.bool HK.out.symm)
set_option maxRecDepth 100000 in
set_option maxHeartbeats 2000000 in
theorem setSameRow_any {vo : Value} {zs2 : List (Option Addr × Nat × Nat)} (h : SetAtRow Try.prog S w b ov iv tail te D c zs) (h2 : PtrSetRow Try.prog S w vo zs2) (hD : ∀ x ∈ zs2, D x) :
    Calls Try.prog 119 #[.pointer (some ⟨b, 0, none⟩), vo] w
      (RetF (fun _ => False) w fun w' v => ∃ r : Bool, v = .bool r ∧ (r = true ↔ zs.length = zs2.length ∧ ∀ (i : Nat) x y, zs[i]? = some x → zs2[i]? = some y → c x y = 0)) := by
  obtain ⟨c1, c2⟩ := h.cells
  obtain ⟨ao, cap, rfl, hc, _⟩ := h.row.shape
  have hl := h.len
  have hl2 := h2.len
  have hent : ∀ args w, (callFunc 142 args).run Try.prog w = .ok (.enter 142 args) w := enters_of Try.func142 (by kernel_rfl) rfl
  have HE := Lib.hid hent; clear hent
  have HC := Lib.hid hc; clear hc
  have HH := Lib.hid h; clear h
  have H2 := Lib.hid h2; clear h2
  have heq : ∀ w1, Ext w w1 → EqEachRow Try.prog 142 #[.pointer (some ⟨b, 0, none⟩)] #[] w1 (zs.map fun x => (Value.slice (x).1 (x).2.1 (x).2.2)) (zs2.map fun x => (Value.slice (x).1 (x).2.1 (x).2.2)) (fun i => decide (c (zs.getD i default) (zs2.getD i default) = 0)) := by
    intro w1 h1
    refine ⟨HE.out, fun w2 hw2 i u v hu hv => ?_⟩
    rw [List.getElem?_map] at hu hv
    cases hx : zs[i]? with
    | none => rw [hx] at hu; cases hu
    | some x =>
      cases hy : zs2[i]? with
      | none => rw [hy] at hv; cases hv
      | some y =>
        rw [hx] at hu; rw [hy] at hv
        have eu : u = (Value.slice (x).1 (x).2.1 (x).2.2) := by have := Option.some.inj hu; exact this.symm
        have ev : v = (Value.slice (y).1 (y).2.1 (y).2.2) := by have := Option.some.inj hv; exact this.symm
        subst eu ev
        have hh := HH.out.ext (h1.trans hw2)
        have e1 : zs.getD i default = x := by simp [List.getD, hx]
        have e2 : zs2.getD i default = y := by simp [List.getD, hy]
        simp only [e1, e2]
        exact setAlikeRow_any S w2 b ov _ te D c x y (HH.out.all x (List.mem_of_getElem? hx)) (hD y (List.mem_of_getElem? hy)) hh.blk hh.inS hh.ord
  have HEQ := Lib.hid heq; clear heq
  go_enter Try.func119, Try.ntmps119
  go_wp2
  go_region_held3 (fun w' => w'.cell? ⟨b, 1, none⟩ = some (.slice ao zs.length cap)) (first | assumption | go_keep)
    (first
      | (go_at_call 135; refine (setItemsRow_ptr (H2.out.ext (Kp.refl w).drew)).mono ?_; rintro e w1 ⟨v, rfl, hk, hr⟩; obtain ⟨ao1, cap2, ev, hcc, _⟩ := hr.shape; subst ev; have d1 := hk.cell c2 id; have hex : Ext w w1 := (Kp.refl w).drew.trans hk)
      | (go_at_call 141; refine (equalFuncRow_any (zs.map fun x => (Value.slice (x).1 (x).2.1 (x).2.2)) (zs2.map fun x => (Value.slice (x).1 (x).2.1 (x).2.2)) ao ao1 cap cap2 _ _ _ _ _ zs.length zs2.length (by simp) (by simp) (HC.out.ext hex) hcc (HEQ.out _ hex) (by omega) (by omega)).mono ?_; rintro e w2 ⟨v2, rfl, hk2, r, rfl, hr2⟩; have d2 := hk2.cell d1 id))
  all_goals
    go_wp2
    go_ret
    refine RetF.mk (hex.trans hk2) ⟨r, rfl, ?_⟩
    rw [hr2]
    refine and_congr_right fun hlen => ⟨fun H i x y hx hy => ?_, fun H i hi => ?_⟩
    · have hi := (List.getElem?_eq_some_iff.1 hx).1
      have := of_decide_eq_true (H i hi)
      rw [show zs.getD i default = x by simp [List.getD, hx], show zs2.getD i default = y by simp [List.getD, hy]] at this
      exact this
    · have g1 : zs[i]? = some (zs[i]'hi) := List.getElem?_eq_getElem _
      have g2 : zs2[i]? = some (zs2[i]'(by omega)) := List.getElem?_eq_getElem _
      have := H i _ _ g1 g2
      rw [show zs.getD i default = zs[i] by simp [List.getD, g1], show zs2.getD i default = zs2[i]'(by omega) by simp [List.getD, g2]]
      exact decide_eq_true this
theorem setUnionRow_nil (v : Value) (w : World) : Calls Try.prog 111 #[.pointer none, v] w (Ret (.pointer none) w) := by
  go_enter Try.func111, Try.ntmps111
  go_wp2
  go_ret
  exact Ret.mk rfl
set_option maxRecDepth 100000 in
set_option maxHeartbeats 2000000 in
theorem setUnionRow_any (O : OrdLaw c) {vo : Value} {zs2 : List (Option Addr × Nat × Nat)} (h : SetAtRow Try.prog S w b ov iv tail te D c zs) (h2 : PtrSetRow Try.prog S w vo zs2) (hD : ∀ x ∈ zs2, D x) (hll : zs.length + zs2.length ≤ 1048576 * 1048576) :
    Calls Try.prog 111 #[.pointer (some ⟨b, 0, none⟩), vo] w
      (RetN w fun w' v => ∃ b' iv', v = .pointer (some ⟨b', 0, none⟩) ∧ w.heap.size ≤ b' ∧ (∀ k, iv'.ownBlock = some k → w.heap.size ≤ k) ∧ SetAtRow Try.prog S w' b' ov iv' [] 66 D c (newS c (zs ++ zs2))) := by
  obtain ⟨c1, c2⟩ := h.cells
  obtain ⟨ao, cap, rfl, hc, _⟩ := h.row.shape
  have HC := Lib.hid hc; clear hc
  have HH := Lib.hid h; clear h
  have H2 := Lib.hid h2; clear h2
  have one : ∀ (l : List (Option Addr × Nat × Nat)), ∀ u ∈ l.map (fun x => (Value.slice (x).1 (x).2.1 (x).2.2)), u.oneCell' = true := by intro l u hu; obtain ⟨x, _, rfl⟩ := List.mem_map.1 hu; rfl
  have ONE := Lib.hid one; clear one
  have conc : ∀ (w1 : World) (ao1 : Option Addr) (cap2 : Nat), Ext w w1 → CellsAt w1 ao1 (zs2.map fun x => (Value.slice (x).1 (x).2.1 (x).2.2)) →
      Calls Try.prog 134 #[.slice (some ⟨w1.heap.size, 0, none⟩) 2 2] (w1.alloc (.cells #[.slice ao zs.length cap, .slice ao1 zs2.length cap2] 64))
        (RetN (w1.alloc (.cells #[.slice ao zs.length cap, .slice ao1 zs2.length cap2] 64)) fun w' v => ∃ ao3 cap3, v = .slice ao3 (zs.length + zs2.length) cap3 ∧ CellsAt w' ao3 ((zs ++ zs2).map fun x => (Value.slice (x).1 (x).2.1 (x).2.2))) := by
    intro w1 ao1 cap2 h1 hc1
    have hcs : CellsAt (w1.alloc (.cells #[.slice ao zs.length cap, .slice ao1 zs2.length cap2] 64)) (some ⟨w1.heap.size, 0, none⟩) (partsRow [(ao, cap, zs.map fun x => (Value.slice (x).1 (x).2.1 (x).2.2)), (ao1, cap2, zs2.map fun x => (Value.slice (x).1 (x).2.1 (x).2.2))]) := by
      have := CellsAt.two w1 (.slice ao zs.length cap) (.slice ao1 zs2.length cap2) 64
      simpa [partsRow] using this
    have ht : totalRow [(ao, cap, zs.map fun x => (Value.slice (x).1 (x).2.1 (x).2.2)), (ao1, cap2, zs2.map fun x => (Value.slice (x).1 (x).2.1 (x).2.2))] = zs.length + zs2.length := by simp [totalRow]
    refine (concatRow_any [(ao, cap, zs.map fun x => (Value.slice (x).1 (x).2.1 (x).2.2)), (ao1, cap2, zs2.map fun x => (Value.slice (x).1 (x).2.1 (x).2.2))] _ 2 _ 2 rfl hcs ?_ (by rw [ht]; omega) (by omega)).mono ?_
    · intro q hq
      rcases List.mem_cons.1 hq with rfl | hq
      · exact ⟨(HC.out.ext h1).alloc _, ONE.out zs⟩
      · rcases List.mem_cons.1 hq with rfl | hq
        · exact ⟨hc1.alloc _, ONE.out zs2⟩
        · cases hq
    · rintro e w2 ⟨v, rfl, hk, hr⟩
      obtain ⟨ao3, cap3, ev, hcc, _⟩ := hr.shape
      refine RetN.mk hk ⟨ao3, cap3, by rw [ev, ht], ?_⟩
      simpa using hcc
  have HCONC := Lib.hid conc; clear conc
  go_enter Try.func111, Try.ntmps111
  go_wp2
  go_region_held3 (fun w' => w'.cell? ⟨b, 0, none⟩ = some ov ∧ w'.cell? ⟨b, 1, none⟩ = some (.slice ao zs.length cap)) (first | exact ⟨by assumption, by assumption⟩ | go_keep)
    (first
      | (go_at_call 135; refine (setItemsRow_ptr (H2.out.ext (Kp.refl w).drew)).mono ?_; rintro e w1 ⟨v, rfl, hk, hr⟩; obtain ⟨ao1, cap2, ev, hcc, _⟩ := hr.shape; subst ev; have d1 := hk.cell c1 id; have d2 := hk.cell c2 id; have hex : Ext w w1 := (Kp.refl w).drew.trans hk)
      | (go_at_call 134; refine (HCONC.out w1 ao1 cap2 hex hcc).mono ?_; rintro e w2 ⟨v2, rfl, hk2, ao3, cap3, rfl, hcc3⟩; have hex2 := (hex.alloc (.cells #[.slice ao zs.length cap, .slice ao1 zs2.length cap2] 64)).trans hk2; have e1 := hex2.cell c1 id; have e2 := hex2.cell c2 id)
      | (go_at_call 133; refine (newSetRow_any S _ ov ao3 (zs.length + zs2.length) cap3 D c O (zs ++ zs2) (by simp) hcc3 (fun k hk => Nat.lt_of_lt_of_le (HH.out.inS k hk) hex2.size) (HH.out.ord.same (hex2.same HH.out.inS fun _ _ => id)) (by intro x hx; rcases List.mem_append.1 hx with hx | hx; exact HH.out.all x hx; exact hD x hx) hll).mono ?_; rintro e w3 ⟨v3, rfl, hk3, b', iv', rfl, hb', hiv', hset⟩; have g1 := hk3.cell e1 id; have g2 := hk3.cell e2 id))
  all_goals
    go_wp2
    go_ret
    exact RetN.mk (hex2.trans hk3) ⟨b', iv', rfl, Nat.le_trans hex2.size hb', fun k h => Nat.le_trans hex2.size (hiv' k h), hset⟩
end
end Go.Proofs.Ytfkhelihepbehaa
