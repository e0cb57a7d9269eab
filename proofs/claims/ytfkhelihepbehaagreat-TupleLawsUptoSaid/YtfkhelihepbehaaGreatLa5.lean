/- Texts joined for a claim (SetCopyRow, SetPickRow, SetMeetRow, SetAtRow, IterRow, RowSet, BasePut, SwapInt, InsInt, SymLInt, SymInt, SymGInt, SortInt). -/
import Derived.Test.YtfkhelihepbehaaGreatLa4
import Derived.Deep.RegionHeld3
import Derived.Deep.RegionWith
import Derived.Test.YtfkhelihepbehaaGreatProg
import Derived.BigRegion
import Derived.StillTailTactics
import Derived.Deep.QuietTactic
import Derived.BigQuiet
import Derived.Deep.DeepCutAuto
/- tuple.Set at []string: Copy, At, under: what makes sets out of sets. -/
namespace Go.Proofs.YtfkhelihepbehaaGreat
open Go.RowKit
set_option linter.unusedVariables false

/-- A set that a pointer names; nil: no items. -/
def PtrSetRow (P : Program) (S : Nat → Prop) (w : World) (v : Value) (zs : List (Option Addr × Nat × Nat)) : Prop :=
  (v = .pointer none ∧ zs = []) ∨ ∃ b ov iv tail te D c, v = .pointer (some ⟨b, 0, none⟩) ∧ SetAtRow P S w b ov iv tail te D c zs
theorem PtrSetRow.ext {P : Program} {S : Nat → Prop} {w w' : World} {v : Value} {zs : List (Option Addr × Nat × Nat)} (h : PtrSetRow P S w v zs) (hk : Ext w w') : PtrSetRow P S w' v zs := by
  rcases h with h | ⟨b, ov, iv, tail, te, D, c, h1, h2⟩
  · exact .inl h
  · exact .inr ⟨b, ov, iv, tail, te, D, c, h1, h2.ext hk⟩
theorem PtrSetRow.len {P : Program} {S : Nat → Prop} {w : World} {v : Value} {zs : List (Option Addr × Nat × Nat)} (h : PtrSetRow P S w v zs) : zs.length ≤ 1048576 * 1048576 := by
  rcases h with ⟨_, rfl⟩ | ⟨b, ov, iv, tail, te, D, c, h1, h2⟩
  · simp
  · exact h2.len

theorem setItemsRow_ptr {S : Nat → Prop} {w : World} {v : Value} {zs : List (Option Addr × Nat × Nat)} (h : PtrSetRow Tryz.prog S w v zs) :
    Calls Tryz.prog 146 #[v] w (RetN w fun w' r => Row w' 29 1 r zs.length (zs.map fun x => (Value.slice (x).1 (x).2.1 (x).2.2)) (New w)) := by
  rcases h with ⟨rfl, rfl⟩ | ⟨b, ov, iv, tail, te, D, c, rfl, h2⟩
  · refine (setItemsRow_nil w).mono ?_
    rintro e w' ⟨rfl, rfl⟩
    exact RetN.mk (Kp.refl _) (Row.nil _ _ _ _)
  · exact setItemsRow_any h2

theorem OrdVRow.form {P : Program} {S : Nat → Prop} {w0 : World} {ov : Value} {D : Option Addr × Nat × Nat → Prop} {c : Option Addr × Nat × Nat → Option Addr × Nat × Nat → Int} (h : OrdVRow P S w0 ov D c) : ov = .nilFunc ∨ ∃ f first cap, ov = .func f first cap := by
  rcases h with ⟨h, _⟩ | ⟨f, first, cap, h, _⟩
  · exact .inl h
  · exact .inr ⟨_, _, _, h⟩

theorem setAtRow_new {P : Program} {S : Nat → Prop} {w w1 : World} {ov iv : Value} {D : Option Addr × Nat × Nat → Prop} {c : Option Addr × Nat × Nat → Option Addr × Nat × Nat → Int} {zs : List (Option Addr × Nat × Nat)} {M : Nat → Prop} (ho : OrdVRow P S w ov D c) (hS : ∀ k, S k → k < w.heap.size) (hex : Ext w w1)
    (hr : Row w1 29 1 iv zs.length (zs.map fun x => (Value.slice (x).1 (x).2.1 (x).2.2)) M) (hD : ∀ x ∈ zs, D x) (hl : zs.length ≤ 1048576 * 1048576) (te : TypeId) (hM : ∀ k, M k → w.heap.size ≤ k := by exact fun k h => h) :
    SetAtRow P S (w1.alloc (.cells #[ov, iv] te)) w1.heap.size ov iv [] te D c zs := by
  refine ⟨Blk.new w1 [ov, iv] te, (hr.own).alloc _, fun h => by have := hr.lt _ h; omega, fun k h => Nat.lt_of_lt_of_le (hS k h) (hex.alloc _).size, fun k h hs => ?_, ho.same ((hex.alloc _).same hS fun _ _ => id), hD, hl⟩
  have h1 := hS k hs
  have h2 := hex.size
  rcases h with h | h
  · omega
  · have := hM k (hr.block k h); omega

section
variable {S : Nat → Prop} {w : World} {b : Nat} {ov iv : Value} {tail : List Value} {te : TypeId} {D : Option Addr × Nat × Nat → Prop} {c : Option Addr × Nat × Nat → Option Addr × Nat × Nat → Int} {zs : List (Option Addr × Nat × Nat)}

set_option maxRecDepth 100000 in
set_option maxHeartbeats 2000000 in
theorem setCopyRow_any (h : SetAtRow Tryz.prog S w b ov iv tail te D c zs) :
    Calls Tryz.prog 153 #[.pointer (some ⟨b, 0, none⟩)] w
      (RetN w fun w' v => ∃ b' iv', v = .pointer (some ⟨b', 0, none⟩) ∧ w.heap.size ≤ b' ∧ (∀ k, iv'.ownBlock = some k → w.heap.size ≤ k) ∧ SetAtRow Tryz.prog S w' b' ov iv' [] 96 D c zs) := by
  obtain ⟨c1, c2⟩ := h.cells
  obtain ⟨ao, cap, rfl, hc, _⟩ := h.row.shape
  have hform := h.ord.form
  have hl := h.len
  have HC := Lib.hid hc; clear hc
  have HH := Lib.hid h; clear h
  rcases hform with rfl | ⟨f1, first1, cap1, rfl⟩
  · go_enter Tryz.func153, Tryz.ntmps153
    go_wp2
    go_region_held3 (fun w' => w'.cell? ⟨b, 0, none⟩ = some .nilFunc ∧ w'.cell? ⟨b, 1, none⟩ = some (.slice ao zs.length cap)) (first | exact ⟨by assumption, by assumption⟩ | go_keep)
      (first | (go_at_call 168; refine (cloneRow_any (zs.map fun x => (Value.slice (x).1 (x).2.1 (x).2.2)) ao cap _ zs.length (by simp) (HC.out.drewN 1) (by intro u hu; obtain ⟨x, _, rfl⟩ := List.mem_map.1 hu; rfl) (by omega)).mono ?_; rintro e w1 ⟨v, rfl, hk, hr⟩; obtain ⟨ao1, cap2, ev, _, _⟩ := hr.shape; subst ev; have d1 := hk.cell c1 id; have d2 := hk.cell c2 id))
    go_wp2
    go_ret
    have hex : Ext w w1 := (Kp.refl w).drew.trans hk
    exact RetN.mk (hex.alloc _) ⟨w1.heap.size, .slice ao1 zs.length cap2, rfl, hex.size, (fun k hk' => hr.block k hk'), setAtRow_new HH.out.ord HH.out.inS hex hr HH.out.all hl _⟩
  · go_enter Tryz.func153, Tryz.ntmps153
    go_wp2
    go_region_held3 (fun w' => w'.cell? ⟨b, 0, none⟩ = some (.func f1 first1 cap1) ∧ w'.cell? ⟨b, 1, none⟩ = some (.slice ao zs.length cap)) (first | exact ⟨by assumption, by assumption⟩ | go_keep)
      (first | (go_at_call 168; refine (cloneRow_any (zs.map fun x => (Value.slice (x).1 (x).2.1 (x).2.2)) ao cap _ zs.length (by simp) (HC.out.drewN 1) (by intro u hu; obtain ⟨x, _, rfl⟩ := List.mem_map.1 hu; rfl) (by omega)).mono ?_; rintro e w1 ⟨v, rfl, hk, hr⟩; obtain ⟨ao1, cap2, ev, _, _⟩ := hr.shape; subst ev; have d1 := hk.cell c1 id; have d2 := hk.cell c2 id))
    go_wp2
    go_ret
    have hex : Ext w w1 := (Kp.refl w).drew.trans hk
    exact RetN.mk (hex.alloc _) ⟨w1.heap.size, .slice ao1 zs.length cap2, rfl, hex.size, (fun k hk' => hr.block k hk'), setAtRow_new HH.out.ord HH.out.inS hex hr HH.out.all hl _⟩

end
end Go.Proofs.YtfkhelihepbehaaGreat

/- tuple.Set at []string: pick, Minus, Meet, Same. -/
namespace Go.Proofs.YtfkhelihepbehaaGreat
open Go.RowKit
set_option linter.unusedVariables false

/-- A test that pick may ask: of any of zs, in every world in which all old blocks are as they were. -/
def TestOnRow (P : Program) (f : FuncId) (first captured : Array Value) (w0 : World) (zs : List (Option Addr × Nat × Nat)) (p : Option Addr × Nat × Nat → Bool) : Prop :=
  (∀ args w, (callFunc f args).run P w = .ok (Next.enter f args) w) ∧ ∀ w, Ext w0 w → ∀ x ∈ zs, Calls P f (first.push ((Value.slice (x).1 (x).2.1 (x).2.2)) ++ captured) w fun e w' => e = .returned (.bool (p x)) ∧ Ext w w'

/-- Between two rounds of pick. -/
def PickAtRow (n : Nat) (w0 : World) (b : Nat) (ov : Value) (te : TypeId) (p : Option Addr × Nat × Nat → Bool) (zs : List (Option Addr × Nat × Nat)) (kv : Value) (w : World) : Prop :=
  ∃ i : Nat, i ≤ n ∧ kv = .int .i64 i ∧ Ext w0 w ∧ ∃ rv, Blk w b [ov, rv] te ∧ Row w 29 1 rv ((zs.take i).filter p).length (((zs.take i).filter p).map fun x => (Value.slice (x).1 (x).2.1 (x).2.2)) (fun g => w0.heap.size ≤ g ∧ g ≠ b)

section
variable {S : Nat → Prop} {w : World} {b : Nat} {ov iv : Value} {tail : List Value} {te : TypeId} {D : Option Addr × Nat × Nat → Prop} {c : Option Addr × Nat × Nat → Option Addr × Nat × Nat → Int} {zs : List (Option Addr × Nat × Nat)}

end
end Go.Proofs.YtfkhelihepbehaaGreat

/- tuple.Set at []string: Minus, Meet, Same, Union. -/
namespace Go.Proofs.YtfkhelihepbehaaGreat
open Go.RowKit
set_option linter.unusedVariables false

section
variable {S : Nat → Prop} {w : World} {b : Nat} {ov iv : Value} {tail : List Value} {te : TypeId} {D : Option Addr × Nat × Nat → Prop} {c : Option Addr × Nat × Nat → Option Addr × Nat × Nat → Int} {zs : List (Option Addr × Nat × Nat)}

theorem setLenRow_ptr {v : Value} (h : PtrSetRow Tryz.prog S w v zs) : Calls Tryz.prog 147 #[v] w (Ret (.int .i64 (zs.length : Nat)) w) := by
  rcases h with ⟨rfl, rfl⟩ | ⟨b, ov, iv, tail, te, D, c, rfl, h2⟩
  · exact setLenRow_nil w
  · exact setLenRow_any h2
theorem setSameRow_nil {v : Value} (h : PtrSetRow Tryz.prog S w v zs) : Calls Tryz.prog 112 #[.pointer none, v] w (Ret (.bool (decide (zs.length = 0))) w) := by
  have HL := Lib.hid (setLenRow_ptr h); clear h
  have key : ((zs.length : Int) == 0) = decide (zs.length = 0) := by
    rw [Bool.eq_iff_iff]; simp
  have HK := Lib.hid key; clear key
  go_enter Tryz.func112, Tryz.ntmps112
  go_wp2_with fail
  refine HL.out.mono ?_
  rintro e w' ⟨rfl, rfl⟩
  go_wp2
  go_ret
  exact Ret.mk (congrArg Value.bool HK.out.symm)
set_option maxRecDepth 100000 in
set_option maxHeartbeats 2000000 in
theorem setSameRow_any {vo : Value} {zs2 : List (Option Addr × Nat × Nat)} (h : SetAtRow Tryz.prog S w b ov iv tail te D c zs) (h2 : PtrSetRow Tryz.prog S w vo zs2) (hD : ∀ x ∈ zs2, D x) :
    Calls Tryz.prog 112 #[.pointer (some ⟨b, 0, none⟩), vo] w
      (RetF (fun _ => False) w fun w' v => ∃ r : Bool, v = .bool r ∧ (r = true ↔ zs.length = zs2.length ∧ ∀ (i : Nat) x y, zs[i]? = some x → zs2[i]? = some y → c x y = 0)) := by
  obtain ⟨c1, c2⟩ := h.cells
  obtain ⟨ao, cap, rfl, hc, _⟩ := h.row.shape
  have hl := h.len
  have hl2 := h2.len
  have hent : ∀ args w, (callFunc 149 args).run Tryz.prog w = .ok (.enter 149 args) w := enters_of Tryz.func149 (by kernel_rfl) rfl
  have HE := Lib.hid hent; clear hent
  have HC := Lib.hid hc; clear hc
  have HH := Lib.hid h; clear h
  have H2 := Lib.hid h2; clear h2
  have heq : ∀ w1, Ext w w1 → EqEachRow Tryz.prog 149 #[.pointer (some ⟨b, 0, none⟩)] #[] w1 (zs.map fun x => (Value.slice (x).1 (x).2.1 (x).2.2)) (zs2.map fun x => (Value.slice (x).1 (x).2.1 (x).2.2)) (fun i => decide (c (zs.getD i default) (zs2.getD i default) = 0)) := by
    intro w1 h1
    refine ⟨HE.out, fun w2 hw2 i u v hu hv => ?_⟩
    rw [List.getElem?_map] at hu hv
    cases hx : zs[i]? with
    | none => rw [hx] at hu; cases hu
    | some x =>
      cases hy : zs2[i]? with
      | none => rw [hy] at hv; cases hv
      | some y =>
        rw [hx] at hu; rw [hy] at hv
        have eu : u = (Value.slice (x).1 (x).2.1 (x).2.2) := by have := Option.some.inj hu; exact this.symm
        have ev : v = (Value.slice (y).1 (y).2.1 (y).2.2) := by have := Option.some.inj hv; exact this.symm
        subst eu ev
        have hh := HH.out.ext (h1.trans hw2)
        have e1 : zs.getD i default = x := by simp [List.getD, hx]
        have e2 : zs2.getD i default = y := by simp [List.getD, hy]
        simp only [e1, e2]
        exact setAlikeRow_any S w2 b ov _ te D c x y (HH.out.all x (List.mem_of_getElem? hx)) (hD y (List.mem_of_getElem? hy)) hh.blk hh.inS hh.ord
  have HEQ := Lib.hid heq; clear heq
  go_enter Tryz.func112, Tryz.ntmps112
  go_wp2
  go_region_held3 (fun w' => w'.cell? ⟨b, 1, none⟩ = some (.slice ao zs.length cap)) (first | assumption | go_keep)
    (first
      | (go_at_call 146; refine (setItemsRow_ptr (H2.out.ext (Kp.refl w).drew)).mono ?_; rintro e w1 ⟨v, rfl, hk, hr⟩; obtain ⟨ao1, cap2, ev, hcc, _⟩ := hr.shape; subst ev; have d1 := hk.cell c2 id; have hex : Ext w w1 := (Kp.refl w).drew.trans hk)
      | (go_at_call 148; refine (equalFuncRow_any (zs.map fun x => (Value.slice (x).1 (x).2.1 (x).2.2)) (zs2.map fun x => (Value.slice (x).1 (x).2.1 (x).2.2)) ao ao1 cap cap2 _ _ _ _ _ zs.length zs2.length (by simp) (by simp) (HC.out.ext hex) hcc (HEQ.out _ hex) (by omega) (by omega)).mono ?_; rintro e w2 ⟨v2, rfl, hk2, r, rfl, hr2⟩; have d2 := hk2.cell d1 id))
  all_goals
    go_wp2
    go_ret
    refine RetF.mk (hex.trans hk2) ⟨r, rfl, ?_⟩
    rw [hr2]
    refine and_congr_right fun hlen => ⟨fun H i x y hx hy => ?_, fun H i hi => ?_⟩
    · have hi := (List.getElem?_eq_some_iff.1 hx).1
      have := of_decide_eq_true (H i hi)
      rw [show zs.getD i default = x by simp [List.getD, hx], show zs2.getD i default = y by simp [List.getD, hy]] at this
      exact this
    · have g1 : zs[i]? = some (zs[i]'hi) := List.getElem?_eq_getElem _
      have g2 : zs2[i]? = some (zs2[i]'(by omega)) := List.getElem?_eq_getElem _
      have := H i _ _ g1 g2
      rw [show zs.getD i default = zs[i] by simp [List.getD, g1], show zs2.getD i default = zs2[i]'(by omega) by simp [List.getD, g2]]
      exact decide_eq_true this
theorem setUnionRow_nil (v : Value) (w : World) : Calls Tryz.prog 155 #[.pointer none, v] w (Ret (.pointer none) w) := by
  go_enter Tryz.func155, Tryz.ntmps155
  go_wp2
  go_ret
  exact Ret.mk rfl
set_option maxRecDepth 100000 in
set_option maxHeartbeats 2000000 in
theorem setUnionRow_any (O : OrdLaw c) {vo : Value} {zs2 : List (Option Addr × Nat × Nat)} (h : SetAtRow Tryz.prog S w b ov iv tail te D c zs) (h2 : PtrSetRow Tryz.prog S w vo zs2) (hD : ∀ x ∈ zs2, D x) (hll : zs.length + zs2.length ≤ 1048576 * 1048576) :
    Calls Tryz.prog 155 #[.pointer (some ⟨b, 0, none⟩), vo] w
      (RetN w fun w' v => ∃ b' iv', v = .pointer (some ⟨b', 0, none⟩) ∧ w.heap.size ≤ b' ∧ (∀ k, iv'.ownBlock = some k → w.heap.size ≤ k) ∧ SetAtRow Tryz.prog S w' b' ov iv' [] 96 D c (newS c (zs ++ zs2))) := by
  obtain ⟨c1, c2⟩ := h.cells
  obtain ⟨ao, cap, rfl, hc, _⟩ := h.row.shape
  have HC := Lib.hid hc; clear hc
  have HH := Lib.hid h; clear h
  have H2 := Lib.hid h2; clear h2
  have one : ∀ (l : List (Option Addr × Nat × Nat)), ∀ u ∈ l.map (fun x => (Value.slice (x).1 (x).2.1 (x).2.2)), u.oneCell' = true := by intro l u hu; obtain ⟨x, _, rfl⟩ := List.mem_map.1 hu; rfl
  have ONE := Lib.hid one; clear one
  have conc : ∀ (w1 : World) (ao1 : Option Addr) (cap2 : Nat), Ext w w1 → CellsAt w1 ao1 (zs2.map fun x => (Value.slice (x).1 (x).2.1 (x).2.2)) →
      Calls Tryz.prog 172 #[.slice (some ⟨w1.heap.size, 0, none⟩) 2 2] (w1.alloc (.cells #[.slice ao zs.length cap, .slice ao1 zs2.length cap2] 22))
        (RetN (w1.alloc (.cells #[.slice ao zs.length cap, .slice ao1 zs2.length cap2] 22)) fun w' v => ∃ ao3 cap3, v = .slice ao3 (zs.length + zs2.length) cap3 ∧ CellsAt w' ao3 ((zs ++ zs2).map fun x => (Value.slice (x).1 (x).2.1 (x).2.2))) := by
    intro w1 ao1 cap2 h1 hc1
    have hcs : CellsAt (w1.alloc (.cells #[.slice ao zs.length cap, .slice ao1 zs2.length cap2] 22)) (some ⟨w1.heap.size, 0, none⟩) (partsRow [(ao, cap, zs.map fun x => (Value.slice (x).1 (x).2.1 (x).2.2)), (ao1, cap2, zs2.map fun x => (Value.slice (x).1 (x).2.1 (x).2.2))]) := by
      have := CellsAt.two w1 (.slice ao zs.length cap) (.slice ao1 zs2.length cap2) 22
      simpa [partsRow] using this
    have ht : totalRow [(ao, cap, zs.map fun x => (Value.slice (x).1 (x).2.1 (x).2.2)), (ao1, cap2, zs2.map fun x => (Value.slice (x).1 (x).2.1 (x).2.2))] = zs.length + zs2.length := by simp [totalRow]
    refine (concatRow_any [(ao, cap, zs.map fun x => (Value.slice (x).1 (x).2.1 (x).2.2)), (ao1, cap2, zs2.map fun x => (Value.slice (x).1 (x).2.1 (x).2.2))] _ 2 _ 2 rfl hcs ?_ (by rw [ht]; omega) (by omega)).mono ?_
    · intro q hq
      rcases List.mem_cons.1 hq with rfl | hq
      · exact ⟨(HC.out.ext h1).alloc _, ONE.out zs⟩
      · rcases List.mem_cons.1 hq with rfl | hq
        · exact ⟨hc1.alloc _, ONE.out zs2⟩
        · cases hq
    · rintro e w2 ⟨v, rfl, hk, hr⟩
      obtain ⟨ao3, cap3, ev, hcc, _⟩ := hr.shape
      refine RetN.mk hk ⟨ao3, cap3, by rw [ev, ht], ?_⟩
      simpa using hcc
  have HCONC := Lib.hid conc; clear conc
  go_enter Tryz.func155, Tryz.ntmps155
  go_wp2
  go_region_held3 (fun w' => w'.cell? ⟨b, 0, none⟩ = some ov ∧ w'.cell? ⟨b, 1, none⟩ = some (.slice ao zs.length cap)) (first | exact ⟨by assumption, by assumption⟩ | go_keep)
    (first
      | (go_at_call 146; refine (setItemsRow_ptr (H2.out.ext (Kp.refl w).drew)).mono ?_; rintro e w1 ⟨v, rfl, hk, hr⟩; obtain ⟨ao1, cap2, ev, hcc, _⟩ := hr.shape; subst ev; have d1 := hk.cell c1 id; have d2 := hk.cell c2 id; have hex : Ext w w1 := (Kp.refl w).drew.trans hk)
      | (go_at_call 172; refine (HCONC.out w1 ao1 cap2 hex hcc).mono ?_; rintro e w2 ⟨v2, rfl, hk2, ao3, cap3, rfl, hcc3⟩; have hex2 := (hex.alloc (.cells #[.slice ao zs.length cap, .slice ao1 zs2.length cap2] 22)).trans hk2; have e1 := hex2.cell c1 id; have e2 := hex2.cell c2 id)
      | (go_at_call 171; refine (newSetRow_any S _ ov ao3 (zs.length + zs2.length) cap3 D c O (zs ++ zs2) (by simp) hcc3 (fun k hk => Nat.lt_of_lt_of_le (HH.out.inS k hk) hex2.size) (HH.out.ord.same (hex2.same HH.out.inS fun _ _ => id)) (by intro x hx; rcases List.mem_append.1 hx with hx | hx; exact HH.out.all x hx; exact hD x hx) hll).mono ?_; rintro e w3 ⟨v3, rfl, hk3, b', iv', rfl, hb', hiv', hset⟩; have g1 := hk3.cell e1 id; have g2 := hk3.cell e2 id))
  all_goals
    go_wp2
    go_ret
    exact RetN.mk (hex2.trans hk3) ⟨b', iv', rfl, Nat.le_trans hex2.size hb', fun k h => Nat.le_trans hex2.size (hiv' k h), hset⟩
end
end Go.Proofs.YtfkhelihepbehaaGreat

/- tuple.Set at []string: At, Each. -/
namespace Go.Proofs.YtfkhelihepbehaaGreat
open Go.RowKit
set_option linter.unusedVariables false

section
variable {S : Nat → Prop} {w : World} {b : Nat} {ov iv : Value} {tail : List Value} {te : TypeId} {D : Option Addr × Nat × Nat → Prop} {c : Option Addr × Nat × Nat → Option Addr × Nat × Nat → Int} {zs : List (Option Addr × Nat × Nat)}

end
end Go.Proofs.YtfkhelihepbehaaGreat

/- slices.Values at [][]string: the iterator keeps its contract; tuple.Set's Each. -/
namespace Go.Proofs.YtfkhelihepbehaaGreat
open Go.RowKit Go.Shelf
set_option linter.unusedVariables false
attribute [local go_sem] Oper.semAt_some

set_option maxRecDepth 100000 in
set_option maxHeartbeats 2000000 in
theorem values1Row_in (F : Fence) (n : Nat) (h7 : F.fn 167) (hro : F.round = none) (hn : 1 ≤ n) (S : Nat → Prop) (l Bs : Nat) (ao : Option Addr) (m cap : Nat) (zs : List (Option Addr × Nat × Nat)) (hm : m = zs.length) (hreach : m ≤ 1048576 * 1048576) (J Jx : List (Option Addr × Nat × Nat) → World → Prop)
    (hY : ∀ pre x W, J pre W → pre.length < zs.length → YieldAt F (n - 1) Tryz.prog l #[(Value.slice (x).1 (x).2.1 (x).2.2)] W fun e W' =>
      (e = .returned (.bool true) ∧ J (pre ++ [x]) W' ∧ SameOn S W W') ∨ (e = .returned (.bool false) ∧ Jx (pre ++ [x]) W'))
    (W : World) (hSB : S Bs) (hSa : ∀ a, ao = some a → S a.block) (hBs : W.cell? ⟨Bs, 0, none⟩ = some (.slice ao m cap)) (hc : CellsAt W ao (zs.map fun x => (Value.slice (x).1 (x).2.1 (x).2.2))) (h0 : J [] W) :
    CallsIn F n Tryz.prog 167 #[.func (.yield l) #[] #[], .pointer (some ⟨Bs, 0, none⟩)] W fun e W' => (∃ v, e = .returned v) ∧
      ((∃ ys, ys = zs ∧ J ys W') ∨ (∃ pre, pre <+: zs ∧ Jx pre W')) := by
  have HC := Lib.hid hc; have HM := Lib.hid hm; clear hc hm
  refine callsIn_of_wp Tryz.func167 rfl h7 ?_ hro
  simp only [Tryz.ntmps167, List.size_toArray, List.length_cons, List.length_nil, Nat.reduceAdd, Nat.reduceSub, Array.replicate_succ, Array.replicate_zero, List.push_toArray, List.append_toArray, List.nil_append, List.cons_append]
  gi_wp2
  gi_loopw [7] (fun i wr => ∃ k : Nat, k ≤ m ∧ i = .int .i64 k ∧ J (zs.take k) wr ∧ SameOn S W wr)
    (fun i _ => m - (intOf i).toNat)
  case atStart => exact ⟨0, Nat.zero_le _, rfl, h0, SameOn.refl _ _⟩
  case round =>
    obtain ⟨k, hk, rfl, hJs, hnx⟩ := hrel
    by_cases hlt : k < m
    · have hkl : k < zs.length := by rw [← HM.out]; exact hlt
      obtain ⟨x, hx⟩ : ∃ x, zs[k]? = some x := ⟨_, List.getElem?_eq_getElem hkl⟩
      obtain ⟨g, o, eao, c3⟩ := HC.out k ((Value.slice (x).1 (x).2.1 (x).2.2)) (by rw [List.getElem?_map, hx]; rfl)
      have c3' := (hnx.cell (o := o + k) (hSa _ eao)).trans c3
      have et : zs.take (k + 1) = zs.take k ++ [x] := by rw [List.take_add_one, hx]; rfl
      have ET := Lib.hid et
      have hy0 := hY _ x wr hJs (by rw [List.length_take]; omega)
      have HX := Lib.hid (And.intro hx hkl)
      clear hx hkl et c3
      subst eao
      obtain ⟨fn, tmps, assign, body, hy, hR⟩ := hy0
      gi_wp2
      refine hR.mono ?_
      rintro e W3 (⟨rfl, hJ3, hk3⟩ | ⟨rfl, hJx3⟩)
      · gi_wp2
        go_roundw
        case rel => exact ⟨k + 1, by omega, by simp, by rw [ET.out]; exact hJ3, hnx.trans hk3⟩
        case measure => first | (simp [intOf]; done) | (simp [intOf]; omega)
      · gi_wp2
        refine bodyPost_ret (results_none rfl _ _ _) rfl ?_
        exact ⟨⟨_, rfl⟩, .inr ⟨_, by rw [← ET.out]; exact List.take_prefix _ _, hJx3⟩⟩
    · obtain rfl : k = m := by omega
      gi_wp2
      go_end0
      exact ⟨⟨_, rfl⟩, .inl ⟨_, by rw [HM.out, List.take_length], hJs⟩⟩

set_option maxHeartbeats 1000000 in
theorem valuesRow_any (ao : Option Addr) (len cap : Nat) (w : World) :
    Calls Tryz.prog 145 #[.slice ao len cap] w (RetN w fun w' v => v = .func (.func 167) #[] #[.pointer (some ⟨w.heap.size, 0, none⟩)] ∧ w' = w.alloc (.cells #[.slice ao len cap] 22)) := by
  go_enter Tryz.func145, Tryz.ntmps145
  go_wp2
  go_ret
  exact RetN.mk ((Kp.refl w).alloc _) ⟨rfl, rfl⟩

/-- An iterator over these items: a box that holds a slice of them, both since M. -/
def IterRow (w : World) (v : Value) (zs : List (Option Addr × Nat × Nat)) (lo : Nat) : Prop :=
  ∃ Bs ao cap, v = .func (.func 167) #[] #[.pointer (some ⟨Bs, 0, none⟩)] ∧ lo ≤ Bs ∧ (∀ a, ao = some a → lo ≤ a.block ∧ a.block < w.heap.size) ∧ w.cell? ⟨Bs, 0, none⟩ = some (.slice ao zs.length cap) ∧ CellsAt w ao (zs.map fun x => (Value.slice (x).1 (x).2.1 (x).2.2)) ∧ zs.length ≤ 1048576 * 1048576
theorem IterRow.ext {w w' : World} {v : Value} {zs : List (Option Addr × Nat × Nat)} {lo : Nat} (h : IterRow w v zs lo) (hk : Ext w w') : IterRow w' v zs lo := by
  obtain ⟨Bs, ao, cap, h1, h2, h3, h4, h5, h6⟩ := h
  exact ⟨Bs, ao, cap, h1, h2, fun a e => ⟨(h3 a e).1, Nat.lt_of_lt_of_le (h3 a e).2 hk.size⟩, hk.cell h4 id, h5.ext hk, h6⟩

theorem IterRow.kp {F : Nat → Prop} {w w' : World} {v : Value} {zs : List (Option Addr × Nat × Nat)} {lo : Nat} (h : IterRow w v zs lo) (hk : Kp F w w') (hF : ∀ g, F g → g < lo) : IterRow w' v zs lo := by
  obtain ⟨Bs, ao, cap, h1, h2, h3, h4, h5, h6⟩ := h
  have off : ∀ g, lo ≤ g → ¬ F g := fun g hg hf => by have := hF g hf; omega
  exact ⟨Bs, ao, cap, h1, h2, fun a e => ⟨(h3 a e).1, Nat.lt_of_lt_of_le (h3 a e).2 hk.size⟩, hk.cell h4 (off _ h2), h5.kp hk (fun a e => off _ (h3 a e).1), h6⟩

/-- The iterator keeps its contract: all the items, in order; or a beginning of them. -/
theorem IterRow.stops {w : World} {v : Value} {zs : List (Option Addr × Nat × Nat)} {lo : Nat} (h : IterRow w v zs lo) (F : Fence) (n : Nat) (h7 : F.fn 167) (hro : F.round = none) (hn : 1 ≤ n) :
    ∃ Bs, v = .func (.func 167) #[] #[.pointer (some ⟨Bs, 0, none⟩)] ∧ SeqStopsK F n Tryz.prog 167 #[.pointer (some ⟨Bs, 0, none⟩)] (fun x => #[(Value.slice (x).1 (x).2.1 (x).2.2)]) (SameOn fun k => lo ≤ k ∧ k < w.heap.size) (fun ys => ys = zs) (fun pre => pre <+: zs) zs.length w := by
  obtain ⟨Bs, ao, cap, h1, h2, h3, h4, h5, h6⟩ := h
  refine ⟨Bs, h1, fun l J Jx W hW _ _ hY h0 => ?_⟩
  have hb := World.block_lt_of_cell? _ _ h4
  exact values1Row_in F n h7 hro hn _ l Bs ao zs.length cap zs rfl h6 J Jx hY W ⟨h2, hb⟩ (fun a e => h3 a e) ((Kp.of_below hW).cell h4 id) (h5.ext (Kp.of_below hW)) h0

set_option maxRecDepth 100000 in
set_option maxHeartbeats 1000000 in
theorem setEachRow_ptr {S : Nat → Prop} {w : World} {v : Value} {zs : List (Option Addr × Nat × Nat)} (h : PtrSetRow Tryz.prog S w v zs) :
    Calls Tryz.prog 111 #[v] w (RetN w fun w' r => IterRow w' r zs w.heap.size) := by
  have hl := h.len
  have HI := Lib.hid (setItemsRow_ptr h); clear h
  go_enter Tryz.func111, Tryz.ntmps111
  go_wp2_with fail
  refine HI.out.mono ?_
  rintro e w1 ⟨v1, rfl, hk, hr⟩
  have hb1 := hr.block
  have hlt := hr.lt
  obtain ⟨ao, cap, ev, hc, _⟩ := hr.shape
  subst ev
  have HK := Lib.hid (And.intro hk hc); clear hk hr hc
  go_wp2_with fail
  refine (valuesRow_any ao zs.length cap w1).mono ?_
  rintro e w2 ⟨v2, rfl, hk2, rfl, ew⟩
  have HK2 := Lib.hid (And.intro hk2 ew); clear hk2 ew
  go_wp2
  go_ret
  have hsz := HK.out.1.size
  refine RetN.mk (HK.out.1.trans HK2.out.1) ⟨w1.heap.size, ao, cap, rfl, hsz, fun a e => ?_, ?_, HK.out.2.ext HK2.out.1, hl⟩
  · subst e
    have h1 := hb1 a.block rfl
    have h2 := hlt a.block rfl
    exact ⟨h1, Nat.lt_of_lt_of_le h2 HK2.out.1.size⟩
  · rw [HK2.out.2]; exact (Blk.new w1 [Value.slice ao zs.length cap] 22).cell' 0
end Go.Proofs.YtfkhelihepbehaaGreat

/- tuple.Rows: rows of texts in a set: what a row reads as, their order, set, Len, NewRows, named, texts. -/
namespace Go.Proofs.YtfkhelihepbehaaGreat
open Go.RowKit
set_option linter.unusedVariables false

/-- A row, as an element of a slice: address, length, capacity. -/
abbrev RowZ := Option Addr × Nat × Nat
/-- It reads as these texts. -/
def ReadsAs (w : World) (x : RowZ) (ss : List ByteArray) : Prop := x.2.1 = ss.length ∧ CellsAt w x.1 (strs ss)
theorem ReadsAs.unique {w : World} {x : RowZ} {a b : List ByteArray} (h : ReadsAs w x a) (h' : ReadsAs w x b) : a = b := by
  obtain ⟨h1, h2⟩ := h
  obtain ⟨h3, h4⟩ := h'
  refine List.ext_getElem (by omega) fun i hi hj => ?_
  obtain ⟨b1, o1, e1, c1⟩ := h2.str hi
  obtain ⟨b2, o2, e2, c2⟩ := h4.str hj
  rw [e1] at e2
  cases e2
  rw [c1] at c2
  simpa using c2
theorem con_ex (w : World) : ∃ con : RowZ → List ByteArray, ∀ x ss, ReadsAs w x ss → con x = ss := by
  have h : ∀ x : RowZ, ∃ l : List ByteArray, ∀ ss, ReadsAs w x ss → l = ss := fun x => by
    by_cases hx : ∃ ss, ReadsAs w x ss
    · obtain ⟨ss, hs⟩ := hx
      exact ⟨ss, fun ss' hs' => hs.unique hs'⟩
    · exact ⟨[], fun ss hs => absurd ⟨ss, hs⟩ hx⟩
  exact ⟨fun x => Classical.choose (h x), fun x => Classical.choose_spec (h x)⟩

/-- A row that is read from the pool S, and no longer than a row may be. -/
def RowD (S : Nat → Prop) (w : World) (x : RowZ) : Prop := ∃ ss, ReadsAs w x ss ∧ ss.length ≤ 8796093021952 ∧ ∀ a, x.1 = some a → S a.block
theorem ReadsAs.same {S : Nat → Prop} {w w' : World} {x : RowZ} {ss : List ByteArray} (h : ReadsAs w x ss) (hs : Same S w w') (ha : ∀ a, x.1 = some a → S a.block) : ReadsAs w' x ss := by
  refine ⟨h.1, fun i u hu => ?_⟩
  obtain ⟨b, o, e, c⟩ := h.2 i u hu
  refine ⟨b, o, e, ?_⟩
  rw [World.cell?_of_block (w := w) (hs b (ha _ e)).2]; exact c
theorem RowD.same {S : Nat → Prop} {w w' : World} {x : RowZ} (h : RowD S w x) (hs : Same S w w') : RowD S w' x := by
  obtain ⟨ss, h1, h2, h3⟩ := h
  exact ⟨ss, h1.same hs h3, h2, h3⟩

theorem cmpRow_law {α : Type} (f : α → List ByteArray) : OrdLaw (fun x y => cmpRow (f x) (f y)) :=
  ⟨fun x y => by have := cmpRow_swap (f x) (f y); omega, fun x y z h h' => cmpRow_trans h h'⟩

/-- Rows' order, as a set's. -/
theorem rows_ord {S : Nat → Prop} {w : World} {con : RowZ → List ByteArray} (hc : ∀ x ss, ReadsAs w x ss → con x = ss) :
    OrdVRow Tryz.prog S w (.func (Fn.func 41) #[] #[]) (RowD S w) (fun x y => cmpRow (con x) (con y)) := by
  refine .inr ⟨_, _, _, rfl, enters_of Tryz.func41 (by kernel_rfl) rfl, fun w' hw x y hx hy => ?_⟩
  obtain ⟨xs, hx1, hx2, hx3⟩ := hx
  obtain ⟨ys, hy1, hy2, hy3⟩ := hy
  have ex := hc x xs hx1
  have ey := hc y ys hy1
  have hx' := hx1.same hw hx3
  have hy' := hy1.same hw hy3
  obtain ⟨ax, nx, cx⟩ := x
  obtain ⟨ay, ny, cy⟩ := y
  obtain ⟨h1, h2⟩ := hx'
  obtain ⟨h3, h4⟩ := hy'
  simp only at h1 h2 h3 h4
  subst h1 h3
  simp only [ex, ey]
  refine (tupleCompare_any xs ys ax ay cx cy w' h2 h4 (by unfold maxLen; omega) (by unfold maxLen; omega)).mono ?_
  rintro e w2 ⟨rfl, rfl⟩
  exact ⟨rfl, Kp.refl w'⟩

/-- Rows in memory: their arity, their texts in order; the pool S holds the rows themselves. -/
def RowsAt (S : Nat → Prop) (w : World) (b : Nat) (iv : Value) (arity : Nat) (LL : List (List ByteArray)) : Prop :=
  ∃ con zs, (∀ x ss, ReadsAs w x ss → con x = ss) ∧ SetAtRow Tryz.prog S w b (.func (Fn.func 41) #[] #[]) iv [.int .i64 arity] 98 (RowD S w) (fun x y => cmpRow (con x) (con y)) zs ∧ zs.map con = LL

theorem named_any (s : ByteArray) (w : World) : Calls Tryz.prog 96 #[.string s] w (Ret (.bool (decide (1 ≤ s.size ∧ s.size ≤ 4096))) w) := by
  by_cases h1 : 1 ≤ s.size
  · have q1 : (1 : Int) ≤ (s.size : Int) := by omega
    by_cases h2 : s.size ≤ 4096
    · have q2 : (s.size : Int) ≤ 4096 := by omega
      have H := Lib.hid (And.intro h1 h2)
      go_enter Tryz.func96, Tryz.ntmps96
      go_wp2
      go_ret
      exact Ret.mk (by simp [H.out.1, H.out.2])
    · have q2 : ¬ (s.size : Int) ≤ 4096 := by omega
      have H := Lib.hid h2
      go_enter Tryz.func96, Tryz.ntmps96
      go_wp2
      go_ret
      exact Ret.mk (by simp [H.out])
  · have q1 : ¬ (1 : Int) ≤ (s.size : Int) := by omega
    have H := Lib.hid h1
    go_enter Tryz.func96, Tryz.ntmps96
    go_wp2
    go_ret
    exact Ret.mk (by simp [H.out])
theorem textsFn_any (s : ByteArray) (w : World) : Calls Tryz.prog 136 #[.string s] w (Ret (.bool (decide (4096 < s.size))) w) := by
  by_cases h : 4096 < s.size
  · have q : (4096 : Int) < (s.size : Int) := by omega
    have H := Lib.hid h
    go_enter Tryz.func136, Tryz.ntmps136
    go_wp2
    go_ret
    exact Ret.mk (by simp [H.out])
  · have q : ¬ (4096 : Int) < (s.size : Int) := by omega
    have H := Lib.hid h
    go_enter Tryz.func136, Tryz.ntmps136
    go_wp2
    go_ret
    exact Ret.mk (by simp [H.out])
/-- May these be a row's? -/
def textsC (ss : List ByteArray) : Bool := ss.all fun s => decide (s.size ≤ 4096)
theorem texts_any (ss : List ByteArray) (ao : Option Addr) (n c : Nat) (w : World) (hn : n = ss.length) (hc : CellsAt w ao (strs ss)) (hl : n ≤ 4611686018427387904) :
    Calls Tryz.prog 98 #[.slice ao n c] w (RetN w fun w' v => v = .bool (textsC ss)) := by
  have hent : ∀ args w, (callFunc 136 args).run Tryz.prog w = .ok (.enter 136 args) w := enters_of Tryz.func136 (by kernel_rfl) rfl
  have hi := containsFuncStr_any (strs ss) ao c 136 #[] #[] (fun i => decide (4096 < (ss[i]?.getD ⟨#[]⟩).size)) w n (by simp [strs, hn]) hc ⟨hent, fun w' _ i u hu => by
    rw [strs, List.getElem?_map] at hu
    cases hs : ss[i]? with
    | none => rw [hs] at hu; cases hu
    | some s =>
      rw [hs] at hu
      cases hu
      refine (textsFn_any s w').mono ?_
      rintro e w2 ⟨rfl, rfl⟩
      exact ⟨by simp [hs], Kp.refl _⟩⟩ hl
  have key : (!(List.range n).any fun i => decide (4096 < (ss[i]?.getD ⟨#[]⟩).size)) = textsC ss := by
    rw [Bool.eq_iff_iff]
    simp only [Bool.not_eq_true', List.any_eq_false, List.mem_range, decide_eq_true_eq, textsC, List.all_eq_true]
    constructor
    · intro h s hs
      obtain ⟨i, hi, rfl⟩ := List.mem_iff_getElem.1 hs
      have := h i (by omega)
      simp only [List.getElem?_eq_getElem hi, Option.getD_some] at this
      omega
    · intro h i hi
      have hi' : i < ss.length := by omega
      have := h ss[i] (List.getElem_mem _)
      simp only [List.getElem?_eq_getElem hi', Option.getD_some]
      omega
  have HI := Lib.hid (And.intro hi key); clear hi key hent hc hn
  go_enter Tryz.func98, Tryz.ntmps98
  go_wp2_with fail
  refine HI.out.1.mono ?_
  rintro e w1 ⟨v, rfl, hk, rfl⟩
  have HK := Lib.hid hk; clear hk
  go_wp2
  go_ret
  exact RetN.mk HK.out (by rw [← HI.out.2]; rfl)
end Go.Proofs.YtfkhelihepbehaaGreat

namespace Go.Proofs.YtfkhelihepbehaaGreat
open Go.RowKit
set_option linter.unusedVariables false

section
variable {S S' : Nat → Prop} {w w' : World} {b : Nat} {iv : Value} {arity : Nat} {LL : List (List ByteArray)}

theorem RowsAt.move {F : Nat → Prop} (h : RowsAt S w b iv arity LL) (hk : Kp F w w') (hF : ∀ k, F k → ¬ Owns b iv k) (hS : ∀ k, F k → ¬ S k) (hsub : ∀ k, S k → S' k) (hin : ∀ k, S' k → k < w'.heap.size) (hno : ∀ k, Owns b iv k → ¬ S' k) :
    RowsAt S' w' b iv arity LL := by
  obtain ⟨con, zs, hc, hs, hl⟩ := h
  obtain ⟨con', hc'⟩ := con_ex w'
  have hs' := hs.kp hk hF hS
  have hsame : Same S w w' := hk.same hs.inS fun k h1 h2 => hS k h2 h1
  have all : ∀ z ∈ zs, RowD S' w' z ∧ con' z = con z := fun z hz => by
    obtain ⟨ss, h1, h2, h3⟩ := hs.all z hz
    have h1' := h1.same hsame h3
    exact ⟨⟨ss, h1', h2, fun a e => hsub _ (h3 a e)⟩, by rw [hc' z ss h1', hc z ss h1]⟩
  refine ⟨con', zs, hc', ⟨hs'.blk, hs'.row, hs'.apart, hin, hno, rows_ord hc', fun z hz => (all z hz).1, hs.len⟩, ?_⟩
  rw [← hl]
  exact List.map_congr_left fun z hz => (all z hz).2
theorem RowsAt.ext (h : RowsAt S w b iv arity LL) (hk : Ext w w') : RowsAt S w' b iv arity LL := by
  have hb := h
  obtain ⟨con, zs, hc, hs, hl⟩ := hb
  exact h.move hk (fun _ x => x.elim) (fun _ x => x.elim) (fun _ h => h) (fun k hk' => Nat.lt_of_lt_of_le (hs.inS k hk') hk.size) hs.notS
theorem RowsAt.blk (h : RowsAt S w b iv arity LL) : Blk w b [.func (Fn.func 41) #[] #[], iv, .int .i64 arity] 98 := by
  obtain ⟨con, zs, hc, hs, hl⟩ := h
  exact hs.blk

theorem rowsSet_nil (w : World) : Calls Tryz.prog 110 #[.pointer none] w (Ret (.pointer none) w) := by
  go_enter Tryz.func110, Tryz.ntmps110
  go_wp2
  go_ret
  exact Ret.mk rfl
theorem rowsSet_any (h : RowsAt S w b iv arity LL) : Calls Tryz.prog 110 #[.pointer (some ⟨b, 0, none⟩)] w (Ret (.pointer (some ⟨b, 0, none⟩)) w) := by
  have c0 : w.cell? ⟨b, 0, none⟩ = some (.func (Fn.func 41) #[] #[]) := by rw [h.blk.cell']; rfl
  have hq : ∀ w : World, (binOp .eql 79 (.func (Fn.func 41) #[] #[]) .nilFunc).run Tryz.prog w = .ok (.bool false) w := fun _ => by kernel_rfl
  clear h
  go_enter Tryz.func110, Tryz.ntmps110
  go_wp2
  go_ret
  exact Ret.mk rfl
theorem rowsLen_nil (w : World) : Calls Tryz.prog 124 #[.pointer none] w (Ret (.int .i64 0) w) := by
  go_enter Tryz.func124, Tryz.ntmps124
  go_wp2_with fail
  refine (rowsSet_nil w).mono ?_
  rintro e w' ⟨rfl, rfl⟩
  go_wp2_with fail
  refine (setLenRow_nil w).mono ?_
  rintro e w' ⟨rfl, rfl⟩
  go_wp2
  go_ret
  exact Ret.mk rfl
theorem rowsLen_any (h : RowsAt S w b iv arity LL) : Calls Tryz.prog 124 #[.pointer (some ⟨b, 0, none⟩)] w (Ret (.int .i64 (LL.length : Nat)) w) := by
  have H := Lib.hid h
  obtain ⟨con, zs, hc, hs, hl⟩ := h
  have HS := Lib.hid hs
  have HL := Lib.hid (show zs.length = LL.length by rw [← hl]; simp)
  clear hs hc hl
  go_enter Tryz.func124, Tryz.ntmps124
  go_wp2_with fail
  refine (rowsSet_any H.out).mono ?_
  rintro e w' ⟨rfl, rfl⟩
  go_wp2_with fail
  refine (setLenRow_any HS.out).mono ?_
  rintro e w' ⟨rfl, rfl⟩
  go_wp2
  go_ret
  exact Ret.mk (by rw [← HL.out]; rfl)

theorem rowsAt_new (S : Nat → Prop) (w : World) (a : Nat) (hS : ∀ k, S k → k < w.heap.size) :
    RowsAt S (w.alloc (.cells #[.func (Fn.func 41) #[] #[], .slice none 0 0, .int .i64 a] 98)) w.heap.size (.slice none 0 0) a [] := by
  obtain ⟨con, hc⟩ := con_ex (w.alloc (.cells #[.func (Fn.func 41) #[] #[], .slice none 0 0, .int .i64 a] 98))
  refine ⟨con, [], hc, ⟨Blk.new w [.func (Fn.func 41) #[] #[], .slice none 0 0, .int .i64 a] 98, Row.nil _ _ _ _, by simp [Value.ownBlock], fun k hk => by rw [alloc_size]; have := hS k hk; omega, fun k ho hs => ?_, rows_ord hc, by simp, by simp⟩, rfl⟩
  rcases ho with rfl | ho
  · have := hS _ hs; omega
  · cases ho
theorem newRows_any (S : Nat → Prop) (w : World) (a : Nat) (ha : a ≤ 64) (hS : ∀ k, S k → k < w.heap.size) :
    Calls Tryz.prog 97 #[.int .i64 a] w (RetN w fun w' v => v = .tuple #[.pointer (some ⟨w.heap.size, 0, none⟩), .int .i64 0] ∧ RowsAt S w' w.heap.size (.slice none 0 0) a []) := by
  have HR := Lib.hid (rowsAt_new S w a hS)
  have q1 : ¬ (a : Int) < 0 := by omega
  have q2 : ¬ (64 : Int) < (a : Int) := by omega
  clear hS
  go_enter Tryz.func97, Tryz.ntmps97
  go_wp2
  go_ret2
  exact RetN.mk ((Kp.refl w).alloc _) ⟨rfl, HR.out⟩
end
end Go.Proofs.YtfkhelihepbehaaGreat

namespace Go.Proofs.YtfkhelihepbehaaGreat
open Go.RowKit
set_option linter.unusedVariables false

/-- A row that is handed in: where it lies, what it reads as. -/
def RowIn (w : World) (x : RowZ) (ss : List ByteArray) : Prop := ReadsAs w x ss ∧ ss.length ≤ 8796093021952 ∧ ∀ a, x.1 = some a → a.block < w.heap.size
/-- It lies off these blocks. -/
def RowOff (x : RowZ) (F : Nat → Prop) : Prop := ∀ a, x.1 = some a → ¬ F a.block
/-- The pool with a row's block. -/
def poolOf (S : Nat → Prop) (x : RowZ) : Nat → Prop := fun k => S k ∨ ∃ a, x.1 = some a ∧ a.block = k

section
variable {S : Nat → Prop} {w w' : World} {b : Nat} {iv : Value} {arity : Nat} {LL : List (List ByteArray)}
theorem RowsAt.inS (h : RowsAt S w b iv arity LL) : ∀ k, S k → k < w.heap.size := by
  obtain ⟨con, zs, hc, hs, hl⟩ := h
  exact hs.inS
theorem RowsAt.notS (h : RowsAt S w b iv arity LL) : ∀ k, Owns b iv k → ¬ S k := by
  obtain ⟨con, zs, hc, hs, hl⟩ := h
  exact hs.notS
/-- A row's block goes to the pool. -/
theorem RowsAt.pool (h : RowsAt S w b iv arity LL) {x : RowZ} {ss : List ByteArray} (hx : RowIn w x ss) (ho : RowOff x (Owns b iv)) : RowsAt (poolOf S x) w b iv arity LL := by
  refine h.move (F := fun _ => False) (Kp.refl w) (fun _ x => x.elim) (fun _ x => x.elim) (fun k hk => .inl hk) (fun k hk => ?_) (fun k hk hs => ?_)
  · rcases hk with hk | ⟨a, e, rfl⟩
    · exact h.inS k hk
    · exact hx.2.2 a e
  · rcases hs with hs | ⟨a, e, rfl⟩
    · exact h.notS k hk hs
    · exact ho a e hk
/-- The set behind the rows, and a row held against it. -/
theorem RowsAt.open (h : RowsAt S w b iv arity LL) (hst : Strict cmpRow LL) {x : RowZ} {ss : List ByteArray} (hx : RowIn w x ss) (ho : RowOff x (Owns b iv)) :
    ∃ con zs, (∀ x ss, ReadsAs w x ss → con x = ss) ∧ SetAtRow Tryz.prog (poolOf S x) w b (.func (Fn.func 41) #[] #[]) iv [.int .i64 arity] 98 (RowD (poolOf S x) w) (fun x y => cmpRow (con x) (con y)) zs ∧ zs.map con = LL ∧
      RowD (poolOf S x) w x ∧ con x = ss ∧ Strict (fun x y => cmpRow (con x) (con y)) zs ∧ isIn (fun x y => cmpRow (con x) (con y)) zs x = isIn cmpRow LL ss ∧ below (fun x y => cmpRow (con x) (con y)) zs x = below cmpRow LL ss := by
  obtain ⟨con, zs, hc, hs, hl⟩ := h.pool hx ho
  have ex := hc x ss hx.1
  refine ⟨con, zs, hc, hs, hl, ⟨ss, hx.1, hx.2.1, fun a e => .inr ⟨a, e, rfl⟩⟩, ex, ?_, ?_, ?_⟩
  · rw [← hl] at hst
    exact List.pairwise_map.1 hst
  · rw [← hl, ← ex]; simp [isIn, List.any_map, Function.comp_def]
  · rw [← hl, ← ex]; simp [below, List.filter_map, Function.comp_def]

theorem rowsHas_any (h : RowsAt S w b iv arity LL) (hst : Strict cmpRow LL) {x : RowZ} {ss : List ByteArray} (hx : RowIn w x ss) (ho : RowOff x (Owns b iv)) :
    Calls Tryz.prog 99 #[.pointer (some ⟨b, 0, none⟩), .slice x.1 x.2.1 x.2.2] w (RetN w fun w' v => v = .bool (isIn cmpRow LL ss)) := by
  have H := Lib.hid h
  obtain ⟨con, zs, hc, hs, hl, hd, ex, hz, e1, e2⟩ := h.open hst hx ho
  have HF := Lib.hid (setHasRow_any (cmpRow_law con) x hd hz hs)
  rw [e1] at HF
  clear h hst hx ho hc hs hl hd ex hz e1 e2
  go_enter Tryz.func99, Tryz.ntmps99
  go_wp2_with fail
  refine (rowsSet_any H.out).mono ?_
  rintro e w' ⟨rfl, rfl⟩
  go_wp2_with fail
  refine HF.out.mono ?_
  rintro e w1 ⟨v, rfl, hk, rfl⟩
  have HK := Lib.hid hk; clear hk
  go_wp2
  go_ret
  exact RetN.mk HK.out rfl

theorem RowsAt.of_set {S' : Nat → Prop} {w1 w2 : World} {con : RowZ → List ByteArray} {zs : List RowZ} (hc : ∀ x ss, ReadsAs w1 x ss → con x = ss) (hsame : Same S' w1 w2)
    (h : SetAtRow Tryz.prog S' w2 b (.func (Fn.func 41) #[] #[]) iv [.int .i64 arity] 98 (RowD S' w1) (fun x y => cmpRow (con x) (con y)) zs) : RowsAt S' w2 b iv arity (zs.map con) := by
  obtain ⟨con', hc'⟩ := con_ex w2
  have all : ∀ z ∈ zs, RowD S' w2 z ∧ con' z = con z := fun z hz => by
    have hd := h.all z hz
    obtain ⟨ss, h1, h2, h3⟩ := hd
    have h1' := h1.same hsame h3
    exact ⟨⟨ss, h1', h2, h3⟩, by rw [hc' z ss h1', hc z ss h1]⟩
  exact ⟨con', zs, hc', ⟨h.blk, h.row, h.apart, h.inS, h.notS, rows_ord hc', fun z hz => (all z hz).1, h.len⟩, List.map_congr_left fun z hz => (all z hz).2⟩

/-- What Add answers. -/
def rowsAddR (arity : Nat) (LL : List (List ByteArray)) (ss : List ByteArray) : Bool × Nat :=
  if ss.length ≠ arity then (false, 30) else if textsC ss = false then (false, 31) else if 65536 ≤ LL.length ∧ isIn cmpRow LL ss = false then (false, 4) else (!isIn cmpRow LL ss, 0)
/-- What is there behind it. -/
def rowsAddL (arity : Nat) (LL : List (List ByteArray)) (ss : List ByteArray) : List (List ByteArray) := if (rowsAddR arity LL ss).2 = 0 then addS cmpRow LL ss else LL

/-- Add's last lines: the row's clone goes to the set. -/
theorem rowsPut (h : RowsAt S w b iv arity LL) (hst : Strict cmpRow LL) {ao : Option Addr} {n cap : Nat} {ss : List ByteArray} {w1 : World} (hk : Ext w w1) (hr : Row w1 9 1 (.slice ao n cap) n (strs ss) (New w)) (hn : n = ss.length) (hl : n ≤ 8796093021952) (hLL : LL.length + 1 ≤ 1048576 * 1048576) :
    Calls Tryz.prog 129 #[.pointer (some ⟨b, 0, none⟩), .slice ao n cap] w1 (RetF (Owns b iv) w1 fun w' v => v = .bool (!isIn cmpRow LL ss) ∧
      ∃ iv', RowsAt (poolOf S (ao, n, cap)) w' b iv' arity (addS cmpRow LL ss) ∧ ∀ k, iv'.ownBlock = some k → iv.ownBlock = some k ∨ w1.heap.size ≤ k) := by
  have hx : RowIn w1 (ao, n, cap) ss := by
    obtain ⟨ao', cap', e, hc, _⟩ := hr.shape
    cases e
    refine ⟨⟨hn, hc⟩, by omega, fun a e => ?_⟩
    have e' : ao = some a := e
    subst e'
    exact hr.lt a.block rfl
  have ho : RowOff (ao, n, cap) (Owns b iv) := fun a e ho => by
    have e' : ao = some a := e
    subst e'
    have h1 : w.heap.size ≤ a.block := hr.block a.block rfl
    have h2 : a.block < w.heap.size := by
      obtain ⟨con, zs, hc, hs, hl⟩ := h
      rcases ho with ho | ho
      · rw [ho]; exact hs.blk.lt
      · exact hs.row.lt _ ho
    omega
  obtain ⟨con, zs, hc, hs, hlz, hd, ex, hz, e1, e2⟩ := (h.ext hk).open hst hx ho
  have hzl : zs.length = LL.length := by rw [← hlz]; simp
  refine (setAddRow_any (cmpRow_law con) (ao, n, cap) hd hz hs (by omega)).mono ?_
  rintro e w2 ⟨v, rfl, hk2, rfl, iv', hs2, hiv⟩
  refine RetF.mk hk2 ⟨by rw [e1], iv', ?_, hiv⟩
  have hsame : Same (poolOf S (ao, n, cap)) w1 w2 := hk2.same hs.inS fun k h1 h2 => hs.notS k h2 h1
  have := RowsAt.of_set hc hsame hs2
  rwa [← addS_map con zs (ao, n, cap), hlz, ex] at this
end
end Go.Proofs.YtfkhelihepbehaaGreat

namespace Go.Proofs.YtfkhelihepbehaaGreat
open Go.RowKit
set_option linter.unusedVariables false

section
variable {S : Nat → Prop} {w w' : World} {b : Nat} {iv : Value} {arity : Nat} {LL : List (List ByteArray)}
/-- What Add leaves. -/
def RowsAdded (S : Nat → Prop) (w : World) (b : Nat) (iv : Value) (arity : Nat) (LL : List (List ByteArray)) (ss : List ByteArray) (w' : World) (v : Value) : Prop :=
  v = .tuple #[.bool (rowsAddR arity LL ss).1, .int .i64 ((rowsAddR arity LL ss).2 : Nat)] ∧
    ∃ S' iv', (∀ k, S k → S' k) ∧ (∀ k, S' k → S k ∨ w.heap.size ≤ k) ∧ RowsAt S' w' b iv' arity (rowsAddL arity LL ss) ∧ ∀ k, iv'.ownBlock = some k → iv.ownBlock = some k ∨ w.heap.size ≤ k
theorem RowsAdded.same (h : RowsAt S w b iv arity LL) {ss : List ByteArray} {w1 : World} (hk : Ext w w1) {v : Value} (hv : v = .tuple #[.bool (rowsAddR arity LL ss).1, .int .i64 ((rowsAddR arity LL ss).2 : Nat)]) (h0 : rowsAddL arity LL ss = LL) : RowsAdded S w b iv arity LL ss w1 v :=
  ⟨hv, S, iv, fun _ h => h, fun _ h => .inl h, by rw [h0]; exact h.ext hk, fun _ h => .inl h⟩

set_option maxRecDepth 100000 in
set_option maxHeartbeats 2000000 in
theorem rowsAdd_any (h : RowsAt S w b iv arity LL) (hst : Strict cmpRow LL) {ao : Option Addr} {n cap : Nat} {ss : List ByteArray} (hx : RowIn w (ao, n, cap) ss) (ho : RowOff (ao, n, cap) (Owns b iv)) (hLL : LL.length + 1 ≤ 1048576 * 1048576) :
    Calls Tryz.prog 87 #[.pointer (some ⟨b, 0, none⟩), .slice ao n cap] w (RetF (Owns b iv) w (RowsAdded S w b iv arity LL ss)) := by
  have hn : n = ss.length := hx.1.1
  have hcs : CellsAt w ao (strs ss) := hx.1.2
  have hl : ss.length ≤ 8796093021952 := hx.2.1
  have c2 : w.cell? ⟨b, 2, none⟩ = some (.int .i64 arity) := by rw [h.blk.cell']; rfl
  have HT := Lib.hid (texts_any ss ao n cap w hn hcs (by omega))
  have HH := Lib.hid (fun w1 (hw : Ext w w1) => rowsHas_any (h.ext hw) hst (x := (ao, n, cap)) (ss := ss) ⟨⟨hn, hcs.ext hw⟩, hl, fun a e => Nat.lt_of_lt_of_le (hx.2.2 a e) hw.size⟩ ho)
  have HLN := Lib.hid (fun w1 (hw : Ext w w1) => rowsLen_any (h.ext hw))
  have HS := Lib.hid (fun w1 (hw : Ext w w1) => rowsSet_any (h.ext hw))
  have HCL := Lib.hid (fun w1 (hw : Ext w w1) => cloneStr_any (strs ss) ao cap w1 n (by simp [strs, hn]) (hcs.ext hw) (strs_one ss) (by omega))
  have HP := Lib.hid (fun w0 w1 ao1 cap1 (hw : Ext w w0) (hk : Ext w0 w1) hr => rowsPut (w := w0) (w1 := w1) (ao := ao1) (n := n) (cap := cap1) (h.ext hw) hst hk hr hn (by omega) hLL)
  have H := Lib.hid h
  have HN := Lib.hid hn
  clear h hst hx ho hcs hn
  obtain ⟨m, em⟩ : ∃ m, m = LL.length := ⟨_, rfl⟩
  rw [← em] at HLN hLL
  have EM := Lib.hid em; clear em hLL
  by_cases h1 : n = arity
  · have q1 : ((n : Int) != (arity : Int)) = false := by simp [h1]
    have H1 := Lib.hid h1; clear h1
    cases ht : textsC ss with
    | false =>
      have HTX := Lib.hid ht
      rw [ht] at HT; clear ht
      go_enter Tryz.func87, Tryz.ntmps87
      go_wp2_with fail
      refine HT.out.mono ?_
      rintro e w1 ⟨v, rfl, hk, rfl⟩
      have HK := Lib.hid hk; clear hk
      go_wp2
      go_ret2
      have e0 : rowsAddR arity LL ss = (false, 31) := by unfold rowsAddR; rw [if_neg (by rw [← HN.out, H1.out]; simp), if_pos HTX.out]
      exact RetF.mk (Ext.kp HK.out) (RowsAdded.same H.out HK.out (by rw [e0]; rfl) (by unfold rowsAddL; rw [e0]; rfl))
    | true =>
      have HTX := Lib.hid ht
      rw [ht] at HT; clear ht
      by_cases hf : 65536 ≤ m
      · have q2 : decide ((65536 : Int) ≤ (m : Int)) = true := by rw [decide_eq_true_iff]; omega
        have HF := Lib.hid hf; clear hf
        cases hi : isIn cmpRow LL ss with
        | false =>
          have HI := Lib.hid hi
          rw [hi] at HH; clear hi
          go_enter Tryz.func87, Tryz.ntmps87
          go_wp2_with fail
          refine HT.out.mono ?_
          rintro e w0 ⟨v, rfl, hk0, rfl⟩
          go_wp2_with fail
          refine (HLN.out w0 hk0).mono ?_
          rintro e w' ⟨rfl, rfl⟩
          go_wp2_with fail
          refine (HH.out w0 hk0).mono ?_
          rintro e w1 ⟨v, rfl, hk01, rfl⟩
          have hk1 := hk0.trans hk01
          clear hk0 hk01
          have HK := Lib.hid hk1; clear hk1
          go_wp2
          go_ret2
          have e0 : rowsAddR arity LL ss = (false, 4) := by unfold rowsAddR; rw [if_neg (by rw [← HN.out, H1.out]; simp), if_neg (by rw [HTX.out]; simp), if_pos ⟨EM.out ▸ HF.out, HI.out⟩]
          exact RetF.mk (Ext.kp HK.out) (RowsAdded.same H.out HK.out (by rw [e0]; rfl) (by unfold rowsAddL; rw [e0]; rfl))
        | true =>
          have HI := Lib.hid hi
          rw [hi] at HH; clear hi
          go_enter Tryz.func87, Tryz.ntmps87
          go_wp2_with fail
          refine HT.out.mono ?_
          rintro e w0 ⟨v, rfl, hk0, rfl⟩
          go_wp2_with fail
          refine (HLN.out w0 hk0).mono ?_
          rintro e w' ⟨rfl, rfl⟩
          go_wp2_with fail
          refine (HH.out w0 hk0).mono ?_
          rintro e w1 ⟨v, rfl, hk01, rfl⟩
          have hk1 := hk0.trans hk01
          clear hk0 hk01
          go_wp2_with fail
          refine (HS.out w1 hk1).mono ?_
          rintro e w' ⟨rfl, rfl⟩
          go_wp2_with fail
          refine (HCL.out w1 hk1).mono ?_
          rintro e w2 ⟨v, rfl, hk2, hr2⟩
          obtain ⟨ao2, cap2, ev, _, _⟩ := hr2.shape
          subst ev
          go_wp2_with fail
          refine (HP.out w1 w2 ao2 cap2 hk1 hk2 hr2).mono ?_
          rintro e w3 ⟨v, rfl, hk3, rfl, iv', hrows, hiv⟩
          have HR := Lib.hid (And.intro hk3 (And.intro hrows hiv))
          have hb2 := hr2.block
          clear hk3 hrows hiv hr2
          go_wp2
          go_ret2
          have e0 : rowsAddR arity LL ss = (!isIn cmpRow LL ss, 0) := by unfold rowsAddR; rw [if_neg (by rw [← HN.out, H1.out]; simp), if_neg (by rw [HTX.out]; simp), if_neg (fun h => by rw [HI.out] at h; cases h.2)]
          have z1 := hk1.size
          have z2 := hk2.size
          refine RetF.mk ((Ext.kp (hk1.trans hk2)).trans HR.out.1) ⟨by rw [e0]; rfl, poolOf S (ao2, n, cap2), iv', fun k h => .inl h, fun k h => ?_, by unfold rowsAddL; rw [e0]; exact HR.out.2.1, fun k h => (HR.out.2.2 k h).imp id (fun h => by omega)⟩
          rcases h with h | ⟨a, e, rfl⟩
          · exact .inl h
          · have e' : ao2 = some a := e
            subst e'
            have := hb2 a.block rfl
            exact .inr (Nat.le_trans z1 this)
      · have q2 : decide ((65536 : Int) ≤ (m : Int)) = false := by rw [decide_eq_false_iff_not]; omega
        have HF := Lib.hid hf; clear hf
        go_enter Tryz.func87, Tryz.ntmps87
        go_wp2_with fail
        refine HT.out.mono ?_
        rintro e w1 ⟨v, rfl, hk1, rfl⟩
        go_wp2_with fail
        refine (HLN.out w1 hk1).mono ?_
        rintro e w' ⟨rfl, rfl⟩
        go_wp2_with fail
        refine (HS.out w1 hk1).mono ?_
        rintro e w' ⟨rfl, rfl⟩
        go_wp2_with fail
        refine (HCL.out w1 hk1).mono ?_
        rintro e w2 ⟨v, rfl, hk2, hr2⟩
        obtain ⟨ao2, cap2, ev, _, _⟩ := hr2.shape
        subst ev
        go_wp2_with fail
        refine (HP.out w1 w2 ao2 cap2 hk1 hk2 hr2).mono ?_
        rintro e w3 ⟨v, rfl, hk3, rfl, iv', hrows, hiv⟩
        have HR := Lib.hid (And.intro hk3 (And.intro hrows hiv))
        have hb2 := hr2.block
        clear hk3 hrows hiv hr2
        go_wp2
        go_ret2
        have e0 : rowsAddR arity LL ss = (!isIn cmpRow LL ss, 0) := by unfold rowsAddR; rw [if_neg (by rw [← HN.out, H1.out]; simp), if_neg (by rw [HTX.out]; simp), if_neg (fun h => HF.out (EM.out ▸ h.1))]
        have z1 := hk1.size
        have z2 := hk2.size
        refine RetF.mk ((Ext.kp (hk1.trans hk2)).trans HR.out.1) ⟨by rw [e0]; rfl, poolOf S (ao2, n, cap2), iv', fun k h => .inl h, fun k h => ?_, by unfold rowsAddL; rw [e0]; exact HR.out.2.1, fun k h => (HR.out.2.2 k h).imp id (fun h => by omega)⟩
        rcases h with h | ⟨a, e, rfl⟩
        · exact .inl h
        · have e' : ao2 = some a := e
          subst e'
          have := hb2 a.block rfl
          exact .inr (Nat.le_trans z1 this)
  · have q1 : ((n : Int) != (arity : Int)) = true := by rw [bne_iff_ne]; omega
    have H1 := Lib.hid h1; clear h1
    go_enter Tryz.func87, Tryz.ntmps87
    go_wp2
    go_ret2
    have e0 : rowsAddR arity LL ss = (false, 30) := by unfold rowsAddR; rw [if_pos (by rw [← HN.out]; exact H1.out)]
    exact RetF.mk (Kp.refl _) (RowsAdded.same H.out (Kp.refl _) (by rw [e0]; rfl) (by unfold rowsAddL; rw [e0]; rfl))
end
end Go.Proofs.YtfkhelihepbehaaGreat

/- tuple.Base: put, NewBase, Len. -/
namespace Go.Proofs.YtfkhelihepbehaaGreat
open Go.RowKit
set_option linter.unusedVariables false

section
variable {w w' : World} {bb r : Nat} {n : Int} {m : List (ByteArray × Value)}
theorem basePut_any (hB : Blk w bb [.map (some r), .int .i64 n] 65) (hm : MapIs w r m) (s : ByteArray) (p : Option Addr) :
    Calls Tryz.prog 100 #[.pointer (some ⟨bb, 0, none⟩), .string s, .pointer p] w (RetF (fun k => k = r) w fun w' v => MapIs w' r (putM m s (.pointer p))) := by
  have c0 : w.cell? ⟨bb, 0, none⟩ = some (.map (some r)) := by rw [hB.cell']; rfl
  obtain ⟨w2, hrun, hm2, hk2⟩ := run_update_str (P := Tryz.prog) Tryz.underlying63 Tryz.underlying9 hm s (.pointer p)
  have hq : ∀ w : World, (binOp .eql 63 (.map (some r)) (.map none)).run Tryz.prog w = .ok (.bool false) w := fun w => by kernel_rfl
  have HM := Lib.hid (And.intro hm2 hk2)
  clear hB hm hm2 hk2
  go_enter Tryz.func100, Tryz.ntmps100
  go_wp2
  go_end0
  exact RetF.mk HM.out.2 HM.out.1
theorem newBase_any (w : World) : Calls Tryz.prog 30 #[] w (RetN w fun w' v => v = .pointer (some ⟨w.heap.size + 1, 0, none⟩) ∧ Blk w' (w.heap.size + 1) [.map (some w.heap.size), .int .i64 0] 65 ∧ MapIs w' w.heap.size []) := by
  have hmm := @run_makeMap Tryz.prog
  go_enter Tryz.func30, Tryz.ntmps30
  go_wp2
  go_ret
  have hB := Blk.new (w.alloc (.map #[] 0)) [.map (some w.heap.size), .int .i64 0] 65
  rw [alloc_size] at hB
  exact RetN.mk (((Kp.refl w).alloc _).alloc _) ⟨rfl, hB, (MapIs.new w).ext ((Kp.refl _).alloc _)⟩
theorem baseLen_nil (w : World) : Calls Tryz.prog 29 #[.pointer none] w (Ret (.int .i64 0) w) := by
  go_enter Tryz.func29, Tryz.ntmps29
  go_wp2
  go_ret
  exact Ret.mk rfl
theorem baseLen_any (hB : Blk w bb [.map (some r), .int .i64 n] 65) : Calls Tryz.prog 29 #[.pointer (some ⟨bb, 0, none⟩)] w (Ret (.int .i64 n) w) := by
  have c0 : w.cell? ⟨bb, 1, none⟩ = some (.int .i64 n) := by rw [hB.cell']; rfl
  clear hB
  go_enter Tryz.func29, Tryz.ntmps29
  go_wp2
  go_ret
  exact Ret.mk rfl

set_option maxRecDepth 100000 in
set_option maxHeartbeats 2000000 in
/-- The first fact of an empty base. -/
theorem baseAdd_first (S : Nat → Prop) (hB : Blk w bb [.map (some r), .int .i64 0] 65) (hm : MapIs w r []) (hS : ∀ k, S k → k < w.heap.size) (hSb : ¬ S bb) (hSr : ¬ S r) (s : ByteArray) (hs1 : 1 ≤ s.size) (hs2 : s.size ≤ 4096)
    {ao : Option Addr} {k cap : Nat} {ss : List ByteArray} (hx : RowIn w (ao, k, cap) ss) (hk : ss.length ≤ 64) (ht : textsC ss = true) :
    Calls Tryz.prog 40 #[.pointer (some ⟨bb, 0, none⟩), .string s, .slice ao k cap] w (RetF (fun g => g = bb ∨ g = r) w fun w' v => v = .tuple #[.bool true, .int .i64 0] ∧
      ∃ S' b iv, Blk w' bb [.map (some r), .int .i64 1] 65 ∧ MapIs w' r [(s, .pointer (some ⟨b, 0, none⟩))] ∧ RowsAt S' w' b iv ss.length [ss] ∧ w.heap.size ≤ b) := by
  have hkn : k = ss.length := hx.1.1
  have hcs : CellsAt w ao (strs ss) := hx.1.2
  have hbr : bb ≠ r := by
    rintro rfl
    obtain ⟨es, c, h1, _⟩ := hm
    unfold Blk at hB; rw [hB] at h1; cases h1
  have hblt := hB.lt
  have hrlt := hm.lt
  have c0 : w.cell? ⟨bb, 0, none⟩ = some (.map (some r)) := by rw [hB.cell']; rfl
  have hlk := run_lookup_str (P := Tryz.prog) Tryz.underlying63 Tryz.underlying9 (z := .pointer none) (by kernel_rfl) hm s
  have hnm := named_any s w
  rw [show decide (1 ≤ s.size ∧ s.size ≤ 4096) = true by simp [hs1, hs2]] at hnm
  have HN := Lib.hid hnm; clear hnm
  have HNR := Lib.hid (newRows_any S w k (by omega) hS)
  have HT := Lib.hid (fun w1 (hw : Ext w w1) => texts_any ss ao k cap w1 hkn (hcs.ext hw) (by omega))
  rw [ht] at HT
  have hl0 : (getM ([] : List (ByteArray × Value)) s).getD (.pointer none) = .pointer none := rfl
  rw [hl0] at hlk
  have HA := Lib.hid (fun w1 (hw : Ext w w1) (hr : RowsAt S w1 w.heap.size (.slice none 0 0) k []) => rowsAdd_any hr List.Pairwise.nil (ao := ao) (n := k) (cap := cap) (ss := ss) ⟨⟨hkn, hcs.ext hw⟩, by omega, fun a e => Nat.lt_of_lt_of_le (hx.2.2 a e) hw.size⟩
    (fun a e ho => by
      have := hx.2.2 a e
      rcases ho with ho | ho
      · omega
      · cases ho) (by simp))
  have HB := Lib.hid (And.intro hB hm)
  have HKN := Lib.hid hkn
  have HTX := Lib.hid ht
  clear hB hm hx hcs hkn ht hl0
  have hk64 : k ≤ 64 := by rw [HKN.out]; exact hk
  go_enter Tryz.func40, Tryz.ntmps40
  go_wp2_with fail
  refine HN.out.mono ?_
  rintro e w' ⟨rfl, rfl⟩
  go_wp2_with fail
  refine HNR.out.mono ?_
  rintro e w1 ⟨v, rfl, hk1, rfl, hrows⟩
  have d2 : w1.cell? ⟨w.heap.size, 2, none⟩ = some (.int .i64 k) := by rw [hrows.blk.cell']; rfl
  have hB1 := HB.out.1.ext hk1
  have c1 : w1.cell? ⟨bb, 1, none⟩ = some (.int .i64 0) := by rw [hB1.cell']; rfl
  have HR := Lib.hid (And.intro hk1 (And.intro hrows hB1))
  clear hk1 hrows hB1
  go_wp2_with fail
  refine (HT.out w1 HR.out.1).mono ?_
  rintro e w2 ⟨v, rfl, hk2, rfl⟩
  have c1' := hk2.cell c1 id
  have HK2 := Lib.hid hk2; clear hk2
  go_wp2_with fail
  refine (HA.out w2 (HR.out.1.trans HK2.out) (HR.out.2.1.ext HK2.out)).mono ?_
  rintro e w3 ⟨v, rfl, hk3, hv, S', iv', hss, hsn, hrows3, hiv⟩
  have e0 : rowsAddR k [] ss = (true, 0) := by
    unfold rowsAddR; rw [if_neg (by rw [HKN.out]; simp), if_neg (by rw [HTX.out]; simp), if_neg (by simp)]; simp [isIn]
  have e1 : rowsAddL k [] ss = [ss] := by
    unfold rowsAddL; rw [e0]; simp [addS, isIn, below]
  rw [e0] at hv
  rw [e1] at hrows3
  subst hv
  have kk3 : Kp (fun g => g = w.heap.size) w2 w3 := hk3.mono fun g _ h => by
    rcases h with h | h
    · exact h
    · cases h
  have hex3 : Ext w w3 := (HR.out.1.trans HK2.out).trans' kk3 (fun i hi e => by omega)
  have HB3 := Lib.hid (And.intro (HB.out.1.ext hex3) (HB.out.2.ext hex3))
  have HX3 := Lib.hid (And.intro hex3 hrows3)
  have HIV := Lib.hid (And.intro hiv hsn)
  have hz2 := (HR.out.1.trans HK2.out).size
  have hz3 := hrows3.blk.lt
  clear hk3 kk3 hex3 hrows3 hss hsn hiv e0 e1 c1 c1' d2 hlk c0
  go_wp2_with fail
  refine (basePut_any HB3.out.1 HB3.out.2 s (some ⟨w.heap.size, 0, none⟩)).mono ?_
  rintro e w4 ⟨v, rfl, hk4, hm4⟩
  have hB4 := HB3.out.1.kp hk4 hbr
  have c4 : w4.cell? ⟨bb, 1, none⟩ = some (.int .i64 0) := by rw [hB4.cell']; rfl
  have f4 := hB4.free 1
  have HB4 := Lib.hid hB4
  have HM4 := Lib.hid (And.intro hk4 hm4)
  clear hB4 hk4 hm4
  go_wp2
  go_ret2
  have kf : Kp (fun g => g = bb) w4 (w4.setCell ⟨bb, 1, none⟩ (.int .i64 1)) := Kp.setCell (F := fun g => g = bb) (Kp.refl w4) (fun _ => rfl) _
  have kfw : Kp (fun g => g = bb ∨ g = r) w3 (w4.setCell ⟨bb, 1, none⟩ (.int .i64 1)) := (HM4.out.1.mono fun g _ h => .inr h).trans (kf.mono fun g _ h => .inl h)
  have hown : ∀ g, g = bb ∨ g = r → ¬ Owns w.heap.size iv' g := fun g hg ho => by
    rcases ho with ho | ho
    · omega
    · rcases HIV.out.1 g ho with h | h
      · cases h
      · omega
  have hnoS : ∀ g, g = bb ∨ g = r → ¬ S' g := fun g hg hs => by
    rcases HIV.out.2 g hs with h | h
    · rcases hg with rfl | rfl
      · exact hSb h
      · exact hSr h
    · omega
  have hend := HX3.out.2.move kfw hown hnoS (fun _ h => h) (fun q hq => Nat.lt_of_lt_of_le (HX3.out.2.inS q hq) kfw.size) HX3.out.2.notS
  rw [HKN.out] at hend
  exact RetF.mk ((Ext.kp HX3.out.1).trans kfw) ⟨rfl, S', w.heap.size, iv', HB4.out.set 1 _, HM4.out.2.kp kf (fun e => hbr e.symm), hend, Nat.le_refl _⟩
end
end Go.Proofs.YtfkhelihepbehaaGreat

/- slices at int: swapRangeCmpFunc and rotateCmpFunc: what they do to a row of cells. -/
namespace Go.Proofs.YtfkhelihepbehaaGreat
open Go.RowKit
set_option linter.unusedVariables false

def valInt (z : Nat → Int) (i : Nat) : Value := (Value.int .i64 (z (i)))


set_option maxHeartbeats 1000000 in
theorem swapRangeInt_any (z : Nat → Int) (g n cap : Nat) (rest : List Value) (fv : Value) (w0 w : World) (hk0 : Kp (fun k => k = g) w0 w) (p X M Y q : List Nat) (hXY : X.length = Y.length)
    (hn : (p ++ X ++ M ++ Y ++ q).length = n) (hB : Blk w g ((p ++ X ++ M ++ Y ++ q).map (valInt z) ++ rest) 3) (hm : n ≤ 4611686018427387904) (a b m : Nat) (ea : a = p.length) (eb : b = (p.length + X.length + M.length : Nat)) (em : m = X.length) :
    Calls Tryz.prog 192 #[.slice (some ⟨g, 0, none⟩) n cap, .int .i64 a, .int .i64 b, .int .i64 m, fv] w
      (RetF (fun k => k = g) w0 fun w' v => v = .tuple #[] ∧ Blk w' g ((p ++ Y ++ M ++ X ++ q).map (valInt z) ++ rest) 3) := by
  simp only [List.length_append] at hn
  have b1 : a ≤ n := by omega
  have b2 : b + m ≤ n := by omega
  have b3 : a + m ≤ b := by omega
  have HX := Lib.hid hXY; clear hXY
  have HN := Lib.hid hn; clear hn
  have EA := Lib.hid ea; clear ea
  have EB := Lib.hid eb; clear eb
  have EM := Lib.hid em; clear em
  go_enter Tryz.func192, Tryz.ntmps192
  go_wp2
  go_loopw [10] (fun i wr => ∃ (k : Nat) (X1 X2 Y1 Y2 : List Nat), Hid (X = X1 ++ X2 ∧ Y = Y1 ++ Y2 ∧ X1.length = k ∧ Y1.length = k) ∧ k ≤ m ∧ i = .int .i64 k ∧ Kp (fun k => k = g) w0 wr ∧ Hid (Blk wr g ((p ++ Y1 ++ X2 ++ M ++ X1 ++ Y2 ++ q).map (valInt z) ++ rest) 3)) (fun i _ => m - (intOf i).toNat)
  case atStart => exact ⟨0, [], X, [], Y, ⟨rfl, rfl, rfl, rfl⟩, Nat.zero_le _, rfl, hk0, by show Blk _ _ _ _; simpa using hB⟩
  case round =>
    obtain ⟨k, X1, X2, Y1, Y2, HH, hkm, rfl, hkp, hb⟩ := hrel
    by_cases hlt : k < m
    · have key : ∃ x y X2' Y2', X2 = x :: X2' ∧ Y2 = y :: Y2' ∧ X2'.length + k + 1 = m := by
        obtain ⟨rfl, rfl, h3, h4⟩ := HH.out
        have h5 := EM.out; have h6 := HX.out
        simp only [List.length_append] at h5 h6
        cases X2 with
        | nil => simp at h5; omega
        | cons x X2 =>
          cases Y2 with
          | nil => simp at h6; simp at h5; omega
          | cons y Y2 => exact ⟨x, y, X2, Y2, rfl, rfl, by simp at h5; omega⟩
      obtain ⟨x, y, X2', Y2', rfl, rfl, hl2⟩ := key
      obtain ⟨s1, s2, c1, c2⟩ := swapCells (u := p ++ Y1) (v := X2' ++ M ++ X1) (t := Y2' ++ q) (x := x) (y := y) (i := a + k) (j := b + k) (by simpa using hb.out) (by
          have := EA.out; have := HH.out.2.2.2; simp; omega) (by
          have := EA.out; have := EB.out; have := EM.out; have := HH.out.2.2; simp; omega)
      have f1 := hb.out.free (a + k)
      have f2 := hb.out.free (b + k)
      have S1 := Lib.hid s1; have S2 := Lib.hid s2
      clear s1 s2
      unfold valInt at c1 c2
      have hne : ¬ (a + k = b + k) := by omega
      have hne' : ¬ (b + k = a + k) := by omega
      have HL2 := Lib.hid hl2; clear hl2
      obtain ⟨i1, i2, i3, i4⟩ := idx_facts (a := a) (b := k) (n := n) (by omega) hm
      obtain ⟨j1, j2, j3, j4⟩ := idx_facts (a := b) (b := k) (n := n) (by omega) hm
      go_wp2
      go_region
      clear i1 i2 i3 i4 j1 j2 j3 j4
      go_wp2
      go_roundw
      case rel =>
        refine ⟨k + 1, X1 ++ [x], X2', Y1 ++ [y], Y2', ⟨?_, ?_, ?_, ?_⟩, by omega, by go_num, ?_, ?_⟩
        · simpa using HH.out.1
        · simpa using HH.out.2.1
        · simpa using HH.out.2.2.1
        · simpa using HH.out.2.2.2
        · exact ((hkp.setCell (fun _ => rfl) _).setCell (fun _ => rfl) _).drew
        · exact S1.out.drew.congrL (by simp)
      case measure => simp [intOf]; omega
    · have key : X2 = [] ∧ Y2 = [] := by
        obtain ⟨rfl, rfl, h3, h4⟩ := HH.out
        have h5 := EM.out; have h6 := HX.out
        simp only [List.length_append] at h5 h6
        exact ⟨List.eq_nil_of_length_eq_zero (by omega), List.eq_nil_of_length_eq_zero (by omega)⟩
      obtain ⟨rfl, rfl⟩ := key
      go_wp2
      go_end0
      refine RetF.mk hkp ⟨rfl, ?_⟩
      obtain ⟨h1, h2, _, _⟩ := HH.out
      have h3 := hb.out
      rw [h1, h2]
      simpa using h3

theorem swapRangeInt_int (z : Nat → Int) (g n cap : Nat) (rest : List Value) (fv : Value) (w0 w : World) (hk0 : Kp (fun k => k = g) w0 w) (p X M Y q : List Nat) (hXY : X.length = Y.length)
    (hn : (p ++ X ++ M ++ Y ++ q).length = n) (hB : Blk w g ((p ++ X ++ M ++ Y ++ q).map (valInt z) ++ rest) 3) (hm : n ≤ 4611686018427387904) (a b m : Int) (ea : a = (p.length : Nat)) (eb : b = (p.length + X.length + M.length : Nat)) (em : m = (X.length : Nat)) :
    Calls Tryz.prog 192 #[.slice (some ⟨g, 0, none⟩) n cap, .int .i64 a, .int .i64 b, .int .i64 m, fv] w
      (RetF (fun k => k = g) w0 fun w' v => v = .tuple #[] ∧ Blk w' g ((p ++ Y ++ M ++ X ++ q).map (valInt z) ++ rest) 3) := by
  subst ea eb em
  exact swapRangeInt_any z g n cap rest fv w0 w hk0 p X M Y q hXY hn hB hm _ _ _ rfl rfl rfl

set_option maxHeartbeats 1000000 in
theorem rotateInt_any (z : Nat → Int) (g n cap : Nat) (rest : List Value) (fv : Value) (w0 w : World) (hk0 : Kp (fun k => k = g) w0 w) (p X Y q : List Nat) (hX : X ≠ []) (hY : Y ≠ [])
    (hn : (p ++ X ++ Y ++ q).length = n) (hB : Blk w g ((p ++ X ++ Y ++ q).map (valInt z) ++ rest) 3) (hm : n ≤ 4611686018427387904) (a m b : Nat) (ea : a = p.length) (em : m = p.length + X.length) (eb : b = p.length + X.length + Y.length) :
    Calls Tryz.prog 176 #[.slice (some ⟨g, 0, none⟩) n cap, .int .i64 a, .int .i64 m, .int .i64 b, fv] w
      (RetF (fun k => k = g) w0 fun w' v => v = .tuple #[] ∧ Blk w' g ((p ++ Y ++ X ++ q).map (valInt z) ++ rest) 3) := by
  have b1 : a < m := by have := List.length_pos_iff.2 hX; omega
  have b2 : m < b := by have := List.length_pos_iff.2 hY; omega
  have b3 : b ≤ n := by simp at hn; omega
  have HN := Lib.hid hn; clear hn
  have EA := Lib.hid ea; clear ea
  have EB := Lib.hid eb; clear eb
  have EM := Lib.hid em; clear em
  go_enter Tryz.func176, Tryz.ntmps176
  go_wp2
  go_loopw [10, 11] (fun i j wr => ∃ (x y : Nat) (p' X' Y' q' : List Nat), Hid (X'.length = x ∧ Y'.length = y ∧ p'.length + x = m ∧ p' ++ Y' ++ X' ++ q' = p ++ Y ++ X ++ q) ∧ 0 < x ∧ 0 < y ∧ x ≤ m ∧ m + y ≤ n ∧ i = .int .i64 x ∧ j = .int .i64 y ∧ Kp (fun k => k = g) w0 wr ∧ Hid (Blk wr g ((p' ++ X' ++ Y' ++ q').map (valInt z) ++ rest) 3)) (fun i j _ => (intOf i).toNat + (intOf j).toNat)
  case atStart =>
    have h1 := EA.out; have h2 := EB.out; have h3 := EM.out
    refine ⟨X.length, Y.length, p, X, Y, q, ⟨rfl, rfl, by omega, rfl⟩, by omega, by omega, by omega, by omega, ?_, ?_, hk0, hB⟩
    · congr 1; omega
    · congr 1; omega
  case round =>
    obtain ⟨x, y, p', X', Y', q', HH, hx, hy, hxm, hyn, rfl, rfl, hkp, hb⟩ := hrel
    have HNn : (p' ++ X' ++ Y' ++ q').length = n := by
      have h1 := congrArg List.length HH.out.2.2.2
      have h2 := HN.out
      simp at h1 h2 ⊢
      omega
    have HNN := Lib.hid HNn; clear HNn
    rcases Nat.lt_trichotomy y x with hlt | heq | hgt
    · have h1 : ((x : Int) != (y : Int)) = true := by rw [bne_iff_ne]; omega
      obtain ⟨hX1, hY1, hp1, ht⟩ := HH.out
      have HT := Lib.hid ht; clear ht
      have key : ∃ X1 X2, X' = X1 ++ X2 ∧ X1.length = y ∧ X2.length = x - y := ⟨_, _, (List.take_append_drop y X').symm, by simp; omega, by simp; omega⟩
      obtain ⟨X1, X2, rfl, lX1, lX2⟩ := key
      have HL := Lib.hid (And.intro hX1 (And.intro hY1 (And.intro hp1 (And.intro lX1 lX2))))
      clear hX1 hY1 hp1 lX1 lX2
      go_wp2_with fail
      refine (swapRangeInt_int z g n cap rest fv w0 wr hkp p' X1 X2 Y' q' (by have := HL.out; omega) (by simpa using HNN.out) (by simpa using hb.out) hm _ _ _ (by have := HL.out; omega) (by have := HL.out; omega) (by have := HL.out; omega)).mono ?_
      rintro e w1 ⟨v, rfl, hk1, rfl, hb1⟩
      have HB1 := Lib.hid hb1; clear hb1
      go_wp2
      go_roundw
      case rel =>
        refine ⟨x - y, y, p' ++ Y', X2, X1, q', ⟨by have := HL.out; omega, by have := HL.out; omega, by have := HL.out; simp; omega, by rw [← HT.out]; simp⟩, by omega, hy, by omega, hyn, ?_, rfl, hk1, HB1.out.congrL (by simp)⟩
        congr 1; omega
      case measure => simp [intOf]; omega
    · subst heq
      have h1 : ((y : Int) != (y : Int)) = false := by simp
      obtain ⟨hX1, hY1, hp1, ht⟩ := HH.out
      have HT := Lib.hid ht; clear ht
      have HL := Lib.hid (And.intro hX1 (And.intro hY1 hp1))
      clear hX1 hY1 hp1
      go_wp2_with fail
      refine (swapRangeInt_int z g n cap rest fv w0 wr hkp p' X' [] Y' q' (by have := HL.out; omega) (by simpa using HNN.out) (by simpa using hb.out) hm _ _ _ (by have := HL.out; omega) (by have := HL.out; simp; omega) (by have := HL.out; omega)).mono ?_
      rintro e w1 ⟨v, rfl, hk1, rfl, hb1⟩
      have HB1 := Lib.hid hb1; clear hb1
      go_wp2
      go_end0
      refine RetF.mk hk1 ⟨rfl, ?_⟩
      have := HT.out
      rw [← this]
      simpa using HB1.out
    · have h1 : ((x : Int) != (y : Int)) = true := by rw [bne_iff_ne]; omega
      obtain ⟨hX1, hY1, hp1, ht⟩ := HH.out
      have HT := Lib.hid ht; clear ht
      have key : ∃ Y1 Y2, Y' = Y1 ++ Y2 ∧ Y1.length = y - x ∧ Y2.length = x := ⟨_, _, (List.take_append_drop (y - x) Y').symm, by simp; omega, by simp; omega⟩
      obtain ⟨Y1, Y2, rfl, lY1, lY2⟩ := key
      have HL := Lib.hid (And.intro hX1 (And.intro hY1 (And.intro hp1 (And.intro lY1 lY2))))
      clear hX1 hY1 hp1 lY1 lY2
      go_wp2_with fail
      refine (swapRangeInt_int z g n cap rest fv w0 wr hkp p' X' Y1 Y2 q' (by have := HL.out; omega) (by simpa using HNN.out) (by simpa using hb.out) hm _ _ _ (by have := HL.out; omega) (by have := HL.out; omega) (by have := HL.out; omega)).mono ?_
      rintro e w1 ⟨v, rfl, hk1, rfl, hb1⟩
      have HB1 := Lib.hid hb1; clear hb1
      go_wp2
      go_roundw
      case rel =>
        refine ⟨x, y - x, p', Y2, Y1, X' ++ q', ⟨by have := HL.out; omega, by have := HL.out; omega, by have := HL.out; omega, by rw [← HT.out]; simp⟩, hx, by omega, by omega, by omega, rfl, ?_, hk1, HB1.out.congrL (by simp)⟩
        congr 1; omega
      case measure => simp [intOf]; omega
end Go.Proofs.YtfkhelihepbehaaGreat

/- slices.insertionSortCmpFunc at int. -/
namespace Go.Proofs.YtfkhelihepbehaaGreat
open Go.RowKit
set_option linter.unusedVariables false

set_option maxRecDepth 100000 in
set_option maxHeartbeats 2000000 in
theorem insSortInt_any (z : Nat → Int) (g n cap N : Nat) (rest : List Value) (f : FuncId) (first captured : Array Value) (c : Nat → Nat → Int) (L : CmpLaw c) (w0 w : World)
    (hcmp : CmpOn Tryz.prog f first captured g N w0 (valInt z) c) (hk0 : Kp (fun k => k = g) w0 w) (p seg q : List Nat) (hN : ∀ i ∈ seg, i < N) (hinc : seg.Pairwise (· < ·))
    (hn : (p ++ seg ++ q).length = n) (hB : Blk w g ((p ++ seg ++ q).map (valInt z) ++ rest) 3) (hm : n ≤ 4611686018427387904) (a b : Nat) (ea : a = p.length) (eb : b = p.length + seg.length) :
    Calls Tryz.prog 158 #[.slice (some ⟨g, 0, none⟩) n cap, .int .i64 a, .int .i64 b, .func (Fn.func f) first captured] w
      (RetF (fun k => k = g) w0 fun w' v => v = .tuple #[] ∧ ∃ C, C.Perm seg ∧ Sorted c C ∧ Blk w' g ((p ++ C ++ q).map (valInt z) ++ rest) 3) := by
  simp only [List.length_append] at hn
  have b1 : a ≤ b := by omega
  have b2 : b ≤ n := by omega
  have HN := Lib.hid hn; clear hn
  have EA := Lib.hid ea; clear ea
  have EB := Lib.hid eb; clear eb
  have HI := Lib.hid hinc; clear hinc
  have HNs := Lib.hid hN; clear hN
  have hent := hcmp.1
  have HC := Lib.hid hcmp.2; clear hcmp
  go_enter Tryz.func158, Tryz.ntmps158
  go_wp2
  go_loopw [8] (fun i wr => ∃ (k : Nat) (S R : List Nat), Hid ((seg = [] ∧ S = [] ∧ R = [] ∧ b < k ∨ S ≠ [] ∧ k = a + S.length ∧ S.length + R.length = seg.length) ∧ (S ++ R).Perm seg ∧ Sorted c S ∧ R.Pairwise (· < ·) ∧ ∀ s ∈ S, ∀ r ∈ R, s < r) ∧ k ≤ b + 1 ∧ i = .int .i64 k ∧ Kp (fun k => k = g) w0 wr ∧ Hid (Blk wr g ((p ++ S ++ R ++ q).map (valInt z) ++ rest) 3)) (fun i _ => b + 1 - (intOf i).toNat)
  case atStart =>
    have h1 := EA.out; have h2 := EB.out
    cases seg with
    | nil => exact ⟨a + 1, [], [], ⟨.inl ⟨rfl, rfl, rfl, by simp at h2; omega⟩, List.Perm.refl _, Sorted.nil, List.Pairwise.nil, by simp⟩, by omega, by go_num, hk0, hB.congrL (by simp)⟩
    | cons x seg =>
      have hp := List.pairwise_cons.1 HI.out
      exact ⟨a + 1, [x], seg, ⟨.inr ⟨by simp, rfl, by simp; omega⟩, List.Perm.refl _, Sorted.one x, hp.2, by simpa using hp.1⟩, by simp at h2; omega, by go_num, hk0, hB.congrL (by simp)⟩
  case round =>
    obtain ⟨k, S, R, HH, hkb, rfl, hkp, hb⟩ := hrel
    by_cases hlt : k < b
    · have key : ∃ x R', R = x :: R' ∧ k = a + S.length ∧ S ≠ [] ∧ S.length + R'.length + 1 = seg.length := by
        obtain ⟨h1, h2, h3, h4, h5⟩ := HH.out
        have e2 := EB.out; have e1 := EA.out
        rcases h1 with ⟨_, _, _, h⟩ | ⟨h, h', h''⟩
        · omega
        · cases R with
          | nil => simp at h''; omega
          | cons x R => exact ⟨x, R, rfl, h', h, by simp at h''; omega⟩
      obtain ⟨x, R', rfl, ek, hS, hSR⟩ := key
      have EK := Lib.hid ek; clear ek
      have HSR := Lib.hid hSR; clear hSR
      have HS := Lib.hid hS; clear hS
      go_wp2
      obtain ⟨wo, rfl⟩ : ∃ wo : World, wo = wr := ⟨_, rfl⟩
      go_loopw [9] (fun jv wr => ∃ (j : Nat) (S1 S2 : List Nat), Hid (S = S1 ++ S2 ∧ j = a + S1.length ∧ ∀ y ∈ S2, c x y < 0) ∧ a ≤ j ∧ j ≤ k ∧ jv = .int .i64 j ∧ Kp (fun k => k = g) w0 wr ∧ Hid (Blk wr g ((p ++ S1 ++ x :: S2 ++ R' ++ q).map (valInt z) ++ rest) 3)) (fun j _ => (intOf j).toNat)
      case atStart => exact ⟨k, S, [], ⟨by simp, EK.out, by simp⟩, by have := EK.out; omega, Nat.le_refl _, rfl, hkp, hb.out.congrL (by simp)⟩
      case round =>
        obtain ⟨j, S1, S2, HJ, haj, hjk, rfl, hkp1, hb1⟩ := hrel
        by_cases hgt : a < j
        · obtain ⟨j, rfl⟩ : ∃ j', j = j' + 1 := ⟨j - 1, by omega⟩
          have key : ∃ S1' y, S1 = S1' ++ [y] ∧ j = a + S1'.length := by
            obtain ⟨h1, h2, h3⟩ := HJ.out
            rcases List.eq_nil_or_concat S1 with rfl | ⟨l, y, rfl⟩
            · simp at h2; omega
            · exact ⟨l, y, by simp, by simp at h2; omega⟩
          obtain ⟨S1', y, rfl, ej⟩ := key
          obtain ⟨s1, s2, c1, c2⟩ := swapCells (f := valInt z) (rest := rest) (u := p ++ S1') (v := []) (t := S2 ++ R' ++ q) (x := y) (y := x) (i := j) (j := j + 1) (hb1.out.congrL (by simp)) (by have := EA.out; simp; omega) (by have := EA.out; simp; omega)
          have f1 := hb1.out.free j
          have f2 := hb1.out.free (j + 1)
          have hxN : x < N ∧ y < N := by
            have hp := HH.out.2.1
            have h1 := HJ.out.1
            refine ⟨HNs.out x (hp.subset (by simp)), HNs.out y (hp.subset (by rw [h1]; simp))⟩
          have hcall := fun W hW => HC.out W hW x y hxN.1 hxN.2
          have HCall := Lib.hid hcall; clear hcall
          have S1H := Lib.hid s1; have S2H := Lib.hid s2
          have EJ := Lib.hid ej; clear ej
          clear s1 s2 hxN
          unfold valInt at c1 c2
          obtain ⟨i1, i2, i3, i4, i5, i6, i7⟩ := idx_pred (k := j) (n := n) (by omega) hm
          have g1 : decide ((a : Int) < (j : Int) + 1) = true := by simp; omega
          generalize hcc : c x y = cc at HCall
          have HCC := Lib.hid hcc; clear hcc
          by_cases hneg : cc < 0
          · go_wp2
            go_still_tail 14, (by kernel_rfl)
            go_wp2_with fail
            refine (HCall.out _ hkp1.drew).mono ?_
            rintro e w1 ⟨rfl, hk2⟩
            have hkp2 : Kp (fun k => k = g) w0 w1 := hkp1.drew.ext hk2
            have hb2 : Blk w1 g ((p ++ (S1' ++ [y]) ++ x :: S2 ++ R' ++ q).map (valInt z) ++ rest) 3 := hb1.out.drew.ext hk2
            clear c1 c2 f1 f2 S1H S2H hk2
            obtain ⟨s1, s2, c1, c2⟩ := swapCells (f := valInt z) (rest := rest) (u := p ++ S1') (v := []) (t := S2 ++ R' ++ q) (x := y) (y := x) (i := j) (j := j + 1) (hb2.congrL (by simp)) (by have := EA.out; have := EJ.out; simp; omega) (by have := EA.out; have := EJ.out; simp; omega)
            have f1 := hb2.free j
            have f2 := hb2.free (j + 1)
            have S1H := Lib.hid s1; have S2H := Lib.hid s2
            clear s1 s2 hb2
            unfold valInt at c1 c2
            go_wp2
            go_region
            clear i1 i2 i3 i4 i5 i6 i7
            go_wp2
            go_roundw
            case rel =>
              refine ⟨j, S1', y :: S2, ⟨by have := HJ.out.1; simpa using this, EJ.out, ?_⟩, by omega, by omega, by go_num, ?_, ?_⟩
              · intro y' hy'
                rcases List.mem_cons.1 hy' with rfl | h
                · rw [HCC.out]; exact hneg
                · exact HJ.out.2.2 y' h
              · first | exact ((hkp2.setCell (fun _ => rfl) _).setCell (fun _ => rfl) _).drew | exact ((hkp2.drew.setCell (fun _ => rfl) _).setCell (fun _ => rfl) _)
              · first | exact S1H.out.drew.congrL (by simp) | exact S2H.out.drew.congrL (by simp)
            case measure => first | (simp [intOf]; done) | (simp [intOf]; omega)
          · have hneg' : ¬ (cc < 0) := hneg
            go_wp2
            go_still_tail 14, (by kernel_rfl)
            go_wp2_with fail
            refine (HCall.out _ hkp1.drew).mono ?_
            rintro e w1 ⟨rfl, hk2⟩
            have hkp2 : Kp (fun k => k = g) w0 w1 := hkp1.drew.ext hk2
            have hb2 : Blk w1 g ((p ++ (S1' ++ [y]) ++ x :: S2 ++ R' ++ q).map (valInt z) ++ rest) 3 := hb1.out.drew.ext hk2
            have HB2 := Lib.hid hb2
            clear c1 c2 f1 f2 S1H S2H hk2 hb2 i1 i2 i3 i4 i5 i6 i7
            go_wp2
            go_roundw
            case rel =>
              have hs := ins_step L HH.out.2.1 HH.out.2.2.1 HH.out.2.2.2.1 HH.out.2.2.2.2 HJ.out.1 HJ.out.2.2 (by
                intro y' hy'; simp at hy'; subst hy'; rw [HCC.out]; omega)
              refine ⟨k + 1, S1' ++ [y] ++ x :: S2, R', ⟨.inr ⟨by simp, ?_, ?_⟩, hs⟩, by omega, by go_num, hkp2, HB2.out.congrL (by simp)⟩
              · have h1 := EK.out; have h2 := congrArg List.length HJ.out.1; simp at h2 ⊢; omega
              · have h1 := HSR.out; have h2 := congrArg List.length HJ.out.1; simp at h2 ⊢; omega
            case measure => first | (simp [intOf]; done) | (simp [intOf]; omega)
        · have hja : j = a := by omega
          subst hja
          have key : S1 = [] := by
            have := HJ.out.2.1
            exact List.eq_nil_of_length_eq_zero (by omega)
          subst key
          have g1 : decide ((j : Int) < (j : Int)) = false := by simp
          have HB1 := Lib.hid hb1.out
          go_wp2
          go_quiet (fail)
          go_wp2
          go_roundw
          case rel =>
            have hs := ins_step L HH.out.2.1 HH.out.2.2.1 HH.out.2.2.2.1 HH.out.2.2.2.2 HJ.out.1 HJ.out.2.2 (by
              intro y' hy'; simp at hy')
            refine ⟨k + 1, x :: S2, R', ⟨.inr ⟨by simp, ?_, ?_⟩, by simpa using hs⟩, by omega, by go_num, hkp1.drewN _, (HB1.out.drewN _).congrL (by simp)⟩
            · have h1 := EK.out; have h2 := congrArg List.length HJ.out.1; simp at h2 ⊢; omega
            · have h1 := HSR.out; have h2 := congrArg List.length HJ.out.1; simp at h2 ⊢; omega
          case measure => first | (simp [intOf]; done) | (simp [intOf]; omega)
    · go_wp2
      go_end0
      obtain ⟨h1, h2, h3, h4, h5⟩ := HH.out
      have e2 := EB.out; have e1 := EA.out
      have hR : R = [] := by
        rcases h1 with ⟨_, _, h, _⟩ | ⟨_, h, h'⟩
        · exact h
        · exact List.eq_nil_of_length_eq_zero (by omega)
      subst hR
      exact RetF.mk hkp ⟨rfl, S, by simpa using h2, h3, hb.out.congrL (by simp)⟩
end Go.Proofs.YtfkhelihepbehaaGreat

/- slices.symMergeCmpFunc at int, the right part of one element. -/
namespace Go.Proofs.YtfkhelihepbehaaGreat
open Go.RowKit
set_option linter.unusedVariables false

set_option maxRecDepth 100000 in
set_option maxHeartbeats 2000000 in
theorem symMergeInt_last (z : Nat → Int) (g n cap N : Nat) (rest : List Value) (f : FuncId) (first captured : Array Value) (c : Nat → Nat → Int) (L : CmpLaw c) (w0 w : World)
    (hcmp : CmpOn Tryz.prog f first captured g N w0 (valInt z) c) (hm : n ≤ 4611686018427387904) (hk0 : Kp (fun k => k = g) w0 w) (p A : List Nat) (x : Nat) (q : List Nat) (hA2 : 2 ≤ A.length) (hN : ∀ i ∈ p ++ A ++ x :: q, i < N) (hs : Sorted c A) (hlr : ∀ v ∈ A, v < x)
    (hn : (p ++ A ++ x :: q).length = n) (hB : Blk w g ((p ++ A ++ x :: q).map (valInt z) ++ rest) 3) (a m b : Nat) (ea : a = p.length) (em : m = a + A.length) (eb : b = m + 1) :
    Calls Tryz.prog 159 #[.slice (some ⟨g, 0, none⟩) n cap, .int .i64 a, .int .i64 m, .int .i64 b, .func (Fn.func f) first captured] w
      (RetF (fun k => k = g) w0 fun w' v => v = .tuple #[] ∧ ∃ C, C.Perm (A ++ [x]) ∧ Sorted c C ∧ Blk w' g ((p ++ C ++ q).map (valInt z) ++ rest) 3) := by
  have b1 : m < b := by omega
  have b2 : b ≤ n := by simp at hn; omega
  have b3 : a + 1 < m := by omega
  have HN := Lib.hid hn; clear hn
  have EA := Lib.hid ea; clear ea
  have HNs := Lib.hid hN; clear hN
  have hent := hcmp.1
  have HC := Lib.hid hcmp.2; clear hcmp
  have t1 : ((m : Int) - a == 1) = false := by simp; omega
  have t2 : ((b : Int) - m == 1) = true := by simp; omega
  have EMM := Lib.hid em; clear em
  have EBB0 := Lib.hid eb; clear eb
  go_enter Tryz.func159, Tryz.ntmps159
  go_wp2
  obtain ⟨low, hlow⟩ : ∃ low : Nat → Prop, low = fun t => ¬ c x ((p ++ A ++ x :: q).getD t 0) < 0 := ⟨_, rfl⟩
  obtain ⟨high, hhigh⟩ : ∃ high : Nat → Prop, high = fun t => c x ((p ++ A ++ x :: q).getD t 0) < 0 := ⟨_, rfl⟩
  have HLO := Lib.hid hlow; have HHI := Lib.hid hhigh; clear hlow hhigh
  obtain ⟨cells, hcells⟩ : ∃ cells : List Value, cells = (p ++ A ++ x :: q).map (valInt z) ++ rest := ⟨_, rfl⟩
  have HCE := Lib.hid hcells; rw [← hcells] at hB; clear hcells
  go_loopw [14, 15] (Search a m low high (fun k => k = g) w0 g cells 3) (fun i j _ => (intOf j).toNat - (intOf i).toNat)
  case atStart => exact ⟨a, m, Nat.le_refl _, by omega, Nat.le_refl _, rfl, rfl, .inl rfl, .inl rfl, hk0, hB⟩
  case round =>
    obtain ⟨i, j, hi, hij, hj, rfl, rfl, hlo, hhi, hkp, hb⟩ := hrel
    have HLi := Lib.hid hlo; have HHj := Lib.hid hhi; clear hlo hhi
    have hb' := hb
    rw [HCE.out] at hb'
    by_cases hlt : i < j
    · have c1 := hb'.at ((i + j) / 2) (by have := HN.out; omega)
      have c2 := hb'.at m (by have := HN.out; omega)
      clear hb'
      have e2 : (p ++ A ++ x :: q).getD m 0 = x := getD_mid (by have := EA.out; have := EMM.out; simp; omega)
      rw [e2] at c2
      have hy : (p ++ A ++ x :: q).getD ((i + j) / 2) 0 < N := HNs.out _ (by
        have h : (i + j) / 2 < (p ++ A ++ x :: q).length := by have := HN.out; omega
        exact getD_mem h)
      have hx : x < N := HNs.out x (by simp)
      generalize hyy : (p ++ A ++ x :: q).getD ((i + j) / 2) 0 = y at c1 hy
      have HY := Lib.hid hyy; clear hyy
      have hcall := fun W hW => HC.out W hW x y hx hy
      have HCall := Lib.hid hcall; clear hcall e2
      unfold valInt at c1 c2
      obtain ⟨k1, k2, k3, k4⟩ := idx_half (i := i) (j := j) (n := n) (by omega) hm
      have hmn : m < n := by omega
      generalize hcc : c x y = cc at HCall
      have HCC := Lib.hid hcc; clear hcc
      by_cases hneg : cc < 0
      · go_wp2
        go_still_tail 9, (by kernel_rfl)
        go_wp2_with fail
        refine (HCall.out _ hkp.drew).mono ?_
        rintro e w1 ⟨rfl, hk2⟩
        have hkp2 : Kp (fun k => k = g) w0 w1 := hkp.drew.ext hk2
        have hb2 := hb.drew.ext hk2
        clear hk2 c1 c2
        go_wp2
        clear k1 k2 k3 k4
        go_roundw
        case rel =>
          refine ⟨i, (i + j) / 2, hi, by omega, by omega, rfl, by first | rfl | (congr 1; done) | (congr 1; omega), HLi.out, .inr ?_, hkp2, hb2⟩
          rw [HHI.out]; dsimp only; rw [HY.out, HCC.out]; omega
        case measure => simp [intOf]; omega
      · have hd : decide (cc < 0) = false := by simp; omega
        go_wp2
        go_still_tail 9, (by kernel_rfl)
        go_wp2_with fail
        refine (HCall.out _ hkp.drew).mono ?_
        rintro e w1 ⟨rfl, hk2⟩
        have hkp2 : Kp (fun k => k = g) w0 w1 := hkp.drew.ext hk2
        have hb2 := hb.drew.ext hk2
        clear hk2 c1 c2
        go_wp2
        clear k1 k2 k3 k4
        go_roundw
        case rel =>
          refine ⟨(i + j) / 2 + 1, j, by omega, by omega, hj, by first | rfl | (congr 1; done) | (congr 1; omega), rfl, .inr ?_, HHj.out, hkp2, hb2⟩
          rw [HLO.out]; dsimp only; rw [Nat.add_sub_cancel, HY.out, HCC.out]; omega
        case measure => simp [intOf]; omega
    · obtain rfl : i = j := by omega
      have HL1 := HLi.out; have HH1 := HHj.out
      rw [HLO.out] at HL1; rw [HHI.out] at HH1
      have key := part_above L hs (x := x) (i := i - a) (by have := EMM.out; omega) (by
        rcases HL1 with h | h
        · left; omega
        · by_cases e : i = a
          · left; omega
          · right
            try dsimp only at h
            rw [getD_in (by have := EA.out; omega) (by have := EA.out; have := EMM.out; omega)] at h
            rw [show i - a - 1 = i - 1 - p.length by have := EA.out; omega]
            omega) (by
        rcases HH1 with h | h
        · left; have := EMM.out; omega
        · by_cases e : i = m
          · left; have := EMM.out; omega
          · right
            try dsimp only at h
            rw [getD_in (by have := EA.out; omega) (by have := EA.out; have := EMM.out; omega)] at h
            rw [show i - a = i - p.length by have := EA.out; omega]
            exact h)
      obtain ⟨A1, A2, eA, lA, hA1, hA22⟩ := key
      have hmo := merge_last L (eA ▸ hs) (eA ▸ hlr) hA1 hA22
      have HM := Lib.hid hmo
      have EAA := Lib.hid eA
      have LA := Lib.hid lA
      clear hmo eA lA hA1 hA22 HL1 HH1
      obtain ⟨wo, rfl⟩ : ∃ wo : World, wo = wr := ⟨_, rfl⟩
      go_wp2
      obtain ⟨cl, hcl⟩ : ∃ cl : List Nat → List Nat → List Value, cl = fun U V => (p ++ A1 ++ U ++ x :: V ++ q).map (valInt z) ++ rest := ⟨_, rfl⟩
      have HCL := Lib.hid hcl; clear hcl
      go_loopw [17] (Sinking i m A2 w0 g cl 3) (fun k _ => (intOf k).toNat)
      case atStart =>
        exact ⟨m, A2, [], by omega, Nat.le_refl _, rfl, by simp, by have := EAA.out; have h2 := congrArg List.length this; have := LA.out; have := EMM.out; simp at h2; omega, hkp, by rw [HCL.out]; exact hb'.congrL (by rw [EAA.out]; simp)⟩
      case round =>
        obtain ⟨k, U, V, hik, hkm, rfl, hU1, hU2, hkp1, hb1⟩ := hrel
        rw [HCL.out] at hb1
        have HU := Lib.hid (And.intro hU1 hU2); clear hU1 hU2
        have HB1 := Lib.hid hb1; clear hb1
        by_cases hlt2 : i < k
        · obtain ⟨k, rfl⟩ : ∃ k', k = k' + 1 := ⟨k - 1, by omega⟩
          have key : ∃ y U', U = U' ++ [y] := by
            rcases List.eq_nil_or_concat U with rfl | ⟨l, y, rfl⟩
            · exfalso; have h1 := HU.out.2; simp at h1; omega
            · exact ⟨y, l, by simp⟩
          obtain ⟨y, U', rfl⟩ := key
          obtain ⟨s1, s2, c1, c2⟩ := swapCells (f := valInt z) (rest := rest) (u := p ++ A1 ++ U') (v := []) (t := V ++ q) (x := y) (y := x) (i := k) (j := k + 1) (HB1.out.congrL (by simp)) (by have := EA.out; have := HU.out.2; have := LA.out; simp at *; omega) (by have := EA.out; have := HU.out.2; have := LA.out; simp at *; omega)
          have f1 := HB1.out.free k
          have f2 := HB1.out.free (k + 1)
          have S1H := Lib.hid s1; have S2H := Lib.hid s2
          clear s1 s2
          unfold valInt at c1 c2
          obtain ⟨k1, k2, k3, k4, k5, k6, k7⟩ := idx_pred (k := k) (n := n) (by omega) hm
          go_wp2
          go_region
          clear k1 k2 k3 k4 k5 k6 k7
          go_wp2
          go_roundw
          case rel =>
            refine ⟨k, U', y :: V, by omega, by omega, by go_num, by simpa using HU.out.1, by have := HU.out.2; simp at this; omega, ?_, ?_⟩
            · exact ((hkp1.setCell (fun _ => rfl) _).setCell (fun _ => rfl) _).drew
            · rw [HCL.out]; first | exact S1H.out.drew.congrL (by simp) | exact S2H.out.drew.congrL (by simp)
          case measure => first | (simp [intOf]; done) | (simp [intOf]; omega)
        · go_wp2
          go_end0
          have key : U = [] := by
            have h1 := HU.out.2
            exact List.eq_nil_of_length_eq_zero (by omega)
          subst key
          refine RetF.mk hkp1 ⟨rfl, A1 ++ x :: A2, by rw [EAA.out]; exact HM.out.1, HM.out.2, HB1.out.congrL ?_⟩
          have h1 := HU.out.1
          simp at h1
          rw [h1]; simp
end Go.Proofs.YtfkhelihepbehaaGreat

/- slices.symMergeCmpFunc at int. -/
namespace Go.Proofs.YtfkhelihepbehaaGreat
open Go.RowKit
set_option linter.unusedVariables false

set_option maxRecDepth 100000 in
set_option maxHeartbeats 2000000 in
theorem symMergeInt_one (z : Nat → Int) (g n cap N : Nat) (rest : List Value) (f : FuncId) (first captured : Array Value) (c : Nat → Nat → Int) (L : CmpLaw c) (w0 w : World)
    (hcmp : CmpOn Tryz.prog f first captured g N w0 (valInt z) c) (hm : n ≤ 4611686018427387904) (hk0 : Kp (fun k => k = g) w0 w) (p : List Nat) (x : Nat) (B q : List Nat) (hBne : B ≠ []) (hN : ∀ i ∈ p ++ x :: B ++ q, i < N) (hs : Sorted c B) (hlr : ∀ v ∈ B, x < v)
    (hn : (p ++ x :: B ++ q).length = n) (hB : Blk w g ((p ++ x :: B ++ q).map (valInt z) ++ rest) 3) (a m b : Nat) (ea : a = p.length) (em : m = a + 1) (eb : b = m + B.length) :
    Calls Tryz.prog 159 #[.slice (some ⟨g, 0, none⟩) n cap, .int .i64 a, .int .i64 m, .int .i64 b, .func (Fn.func f) first captured] w
      (RetF (fun k => k = g) w0 fun w' v => v = .tuple #[] ∧ ∃ C, C.Perm (x :: B) ∧ Sorted c C ∧ Blk w' g ((p ++ C ++ q).map (valInt z) ++ rest) 3) := by
  have b1 : m < b := by have := List.length_pos_iff.2 hBne; omega
  have b2 : b ≤ n := by simp at hn; omega
  have HN := Lib.hid hn; clear hn
  have EA := Lib.hid ea; clear ea
  have EB := Lib.hid eb; clear eb
  have HNs := Lib.hid hN; clear hN
  have hent := hcmp.1
  have HC := Lib.hid hcmp.2; clear hcmp
  have b3 : a < m := by omega
  have t1 : ((m : Int) - a == 1) = true := by simp; omega
  have EMM := Lib.hid em; clear em
  go_enter Tryz.func159, Tryz.ntmps159
  go_wp2
  obtain ⟨low, hlow⟩ : ∃ low : Nat → Prop, low = fun t => c ((p ++ x :: B ++ q).getD t 0) x < 0 := ⟨_, rfl⟩
  obtain ⟨high, hhigh⟩ : ∃ high : Nat → Prop, high = fun t => ¬ c ((p ++ x :: B ++ q).getD t 0) x < 0 := ⟨_, rfl⟩
  have HLO := Lib.hid hlow; have HHI := Lib.hid hhigh; clear hlow hhigh
  obtain ⟨cells, hcells⟩ : ∃ cells : List Value, cells = (p ++ x :: B ++ q).map (valInt z) ++ rest := ⟨_, rfl⟩
  have HCE := Lib.hid hcells; rw [← hcells] at hB; clear hcells
  go_loopw [10, 11] (Search m b low high (fun k => k = g) w0 g cells 3) (fun i j _ => (intOf j).toNat - (intOf i).toNat)
  case atStart => exact ⟨m, b, Nat.le_refl _, by omega, Nat.le_refl _, rfl, rfl, .inl rfl, .inl rfl, hk0, hB⟩
  case round =>
    obtain ⟨i, j, hi, hij, hj, rfl, rfl, hlo, hhi, hkp, hb⟩ := hrel
    have HLi := Lib.hid hlo; have HHj := Lib.hid hhi; clear hlo hhi
    have hb' := hb
    rw [HCE.out] at hb'
    by_cases hlt : i < j
    · have c1 := hb'.at ((i + j) / 2) (by have := HN.out; omega)
      have c2 := hb'.at a (by have := HN.out; omega)
      clear hb'
      have e2 : (p ++ x :: B ++ q).getD a 0 = x := by rw [List.append_assoc]; exact getD_mid EA.out
      rw [e2] at c2
      have hy : (p ++ x :: B ++ q).getD ((i + j) / 2) 0 < N := HNs.out _ (by
        have h : (i + j) / 2 < (p ++ x :: B ++ q).length := by have := HN.out; omega
        exact getD_mem h)
      have hx : x < N := HNs.out x (by simp)
      generalize hyy : (p ++ x :: B ++ q).getD ((i + j) / 2) 0 = y at c1 hy
      have HY := Lib.hid hyy; clear hyy
      have hcall := fun W hW => HC.out W hW y x hy hx
      have HCall := Lib.hid hcall; clear hcall e2
      unfold valInt at c1 c2
      obtain ⟨k1, k2, k3, k4⟩ := idx_half (i := i) (j := j) (n := n) (by omega) hm
      have han : a < n := by omega
      generalize hcc : c y x = cc at HCall
      have HCC := Lib.hid hcc; clear hcc
      by_cases hneg : cc < 0
      all_goals
        go_wp2
        go_still_tail 9, (by kernel_rfl)
        go_wp2_with fail
        refine (HCall.out _ hkp.drew).mono ?_
        rintro e w1 ⟨rfl, hk2⟩
        have hkp2 : Kp (fun k => k = g) w0 w1 := hkp.drew.ext hk2
        have hb2 := hb.drew.ext hk2
        clear hk2 c1 c2
        go_wp2
        clear k1 k2 k3 k4
        go_roundw
      case rel =>
        refine ⟨(i + j) / 2 + 1, j, by omega, by omega, hj, by first | rfl | (congr 1; done) | (congr 1; omega), rfl, .inr ?_, HHj.out, hkp2, hb2⟩
        rw [HLO.out]; dsimp only; rw [Nat.add_sub_cancel, HY.out, HCC.out]; omega
      case measure => simp [intOf]; omega
      case rel =>
        refine ⟨i, (i + j) / 2, hi, by omega, by omega, rfl, by first | rfl | (congr 1; done) | (congr 1; omega), HLi.out, .inr ?_, hkp2, hb2⟩
        rw [HHI.out]; dsimp only; rw [HY.out, HCC.out]; omega
      case measure => simp [intOf]; omega
    · obtain rfl : i = j := by omega
      have HL1 := HLi.out; have HH1 := HHj.out
      rw [HLO.out] at HL1; rw [HHI.out] at HH1
      have key := part_below L hs (x := x) (i := i - m) (by have := EB.out; omega) (by
        rcases HL1 with h | h
        · left; omega
        · by_cases e : i = m
          · left; omega
          · right
            rw [show p ++ x :: B ++ q = (p ++ [x]) ++ B ++ q by simp, getD_in (by have := EA.out; have := EMM.out; simp; omega) (by have := EA.out; have := EB.out; have := EMM.out; simp; omega)] at h
            rw [show i - m - 1 = i - 1 - (p ++ [x]).length by have := EA.out; have := EMM.out; simp; omega]
            exact h) (by
        rcases HH1 with h | h
        · left; have := EB.out; omega
        · by_cases e : i = b
          · left; have := EB.out; omega
          · right
            rw [show p ++ x :: B ++ q = (p ++ [x]) ++ B ++ q by simp, getD_in (by have := EA.out; have := EMM.out; simp; omega) (by have := EA.out; have := EB.out; have := EMM.out; simp; omega)] at h
            rw [show i - m = i - (p ++ [x]).length by have := EA.out; have := EMM.out; simp; omega]
            exact h)
      obtain ⟨B1, B2, eB, lB, hB1, hB2⟩ := key
      have hmo := merge_one L (eB ▸ hs) (eB ▸ hlr) hB1 hB2
      have HM := Lib.hid hmo
      have EBB := Lib.hid eB
      have LB := Lib.hid lB
      clear hmo eB lB hB1 hB2 HL1 HH1
      obtain ⟨wo, rfl⟩ : ∃ wo : World, wo = wr := ⟨_, rfl⟩
      go_wp2
      obtain ⟨cl, hcl⟩ : ∃ cl : List Nat → List Nat → List Value, cl = fun U V => (p ++ U ++ x :: V ++ B2 ++ q).map (valInt z) ++ rest := ⟨_, rfl⟩
      have HCL := Lib.hid hcl; clear hcl
      go_loopw [13] (Sinking a (i - 1) B1 w0 g cl 3) (fun k _ => i - (intOf k).toNat)
      case atStart => exact ⟨a, [], B1, Nat.le_refl _, by omega, rfl, rfl, rfl, hkp, by rw [HCL.out]; exact hb'.congrL (by rw [EBB.out]; simp)⟩
      case round =>
        obtain ⟨k, U, V, hak, hki, rfl, hU1, hU2, hkp1, hb1⟩ := hrel
        rw [HCL.out] at hb1
        have HU := Lib.hid (And.intro hU1 hU2); clear hU1 hU2
        have HB1 := Lib.hid hb1; clear hb1
        by_cases hlt2 : k + 1 < i
        · have key : ∃ y V', V = y :: V' := by
            cases V with
            | nil => exfalso; have h1 := HU.out; have h2 := LB.out; have h3 := EMM.out; simp at h1; obtain ⟨rfl, h1⟩ := h1; omega
            | cons y V' => exact ⟨y, V', rfl⟩
          obtain ⟨y, V', rfl⟩ := key
          obtain ⟨s1, s2, c1, c2⟩ := swapCells (f := valInt z) (rest := rest) (u := p ++ U) (v := []) (t := V' ++ B2 ++ q) (x := x) (y := y) (i := k) (j := k + 1) (HB1.out.congrL (by simp)) (by have := EA.out; have := HU.out.2; simp; omega) (by have := EA.out; have := HU.out.2; simp; omega)
          have f1 := HB1.out.free k
          have f2 := HB1.out.free (k + 1)
          have S1H := Lib.hid s1; have S2H := Lib.hid s2
          clear s1 s2
          unfold valInt at c1 c2
          obtain ⟨k1, k2, k3, k4, k5, k6, k7⟩ := idx_pred (k := k) (n := n) (by omega) hm
          go_wp2
          go_region
          clear k1 k2 k3 k4 k5 k6 k7
          go_wp2
          go_roundw
          case rel =>
            refine ⟨k + 1, U ++ [y], V', by omega, by omega, by go_num, by simpa using HU.out.1, by have := HU.out.2; simp; omega, ?_, ?_⟩
            · exact ((hkp1.setCell (fun _ => rfl) _).setCell (fun _ => rfl) _).drew
            · rw [HCL.out]; first | exact S1H.out.drew.congrL (by simp) | exact S2H.out.drew.congrL (by simp)
          case measure => simp [intOf]; omega
        · go_wp2
          go_end0
          have key : V = [] := by
            have h1 := HU.out; have h2 := LB.out; have h4 := EMM.out
            have h3 := congrArg List.length h1.1
            simp at h3
            exact List.eq_nil_of_length_eq_zero (by omega)
          subst key
          refine RetF.mk hkp1 ⟨rfl, B1 ++ x :: B2, by rw [EBB.out]; exact HM.out.1, HM.out.2, HB1.out.congrL ?_⟩
          have h1 := HU.out.1
          simp at h1
          rw [h1]; simp
end Go.Proofs.YtfkhelihepbehaaGreat

/- slices.symMergeCmpFunc at int, the great case. -/
namespace Go.Proofs.YtfkhelihepbehaaGreat
open Go.RowKit
set_option linter.unusedVariables false

/-- The search of the merge's cut, between two rounds. -/
def CutSearchInt (c : Nat → Nat → Int) (D : List Nat) (P lo hi : Nat) (w0 : World) (g : Nat) (cells : List Value) (e : TypeId) (iv jv : Value) (w : World) : Prop :=
  Search lo hi (fun t => ¬ c (D.getD (P - t) 0) (D.getD t 0) < 0) (fun t => c (D.getD (P - t) 0) (D.getD t 0) < 0) (fun k => k = g) w0 g cells e iv jv w
/-- What a row's block holds, the rest as it was. -/
def RowIsInt (w0 : World) (g : Nat) (e : TypeId) (cells : List Value) (w : World) : Prop := Kp (fun k => k = g) w0 w ∧ Blk w g cells e

/-- A stretch of the row has been put in its order. -/
def PartIsInt (c : Nat → Nat → Int) (w0 : World) (g : Nat) (e : TypeId) (S : List Nat) (cells : List Nat → List Value) (w : World) : Prop := ∃ C, C.Perm S ∧ Sorted c C ∧ RowIsInt w0 g e (cells C) w

/-- What the merge of two sorted neighbours does. -/
def SymOKInt (P : Program) (z : Nat → Int) (g n cap N : Nat) (rest : List Value) (f : FuncId) (first captured : Array Value) (c : Nat → Nat → Int) (w0 : World) (k : Nat) : Prop :=
  ∀ (w : World) (p A B q : List Nat), A.length + B.length ≤ k → A ≠ [] → B ≠ [] → Kp (fun k => k = g) w0 w → (∀ i ∈ p ++ A ++ B ++ q, i < N) → Sorted c A → Sorted c B → (∀ u ∈ A, ∀ v ∈ B, u < v) →
    (p ++ A ++ B ++ q).length = n → Blk w g ((p ++ A ++ B ++ q).map (valInt z) ++ rest) 3 → ∀ a m b : Nat, a = p.length → m = p.length + A.length → b = p.length + A.length + B.length →
    Calls P 159 #[.slice (some ⟨g, 0, none⟩) n cap, .int .i64 a, .int .i64 m, .int .i64 b, .func (Fn.func f) first captured] w
      (RetF (fun k => k = g) w0 fun w' v => v = .tuple #[] ∧ ∃ C, C.Perm (A ++ B) ∧ Sorted c C ∧ Blk w' g ((p ++ C ++ q).map (valInt z) ++ rest) 3)

set_option maxRecDepth 100000 in
set_option maxHeartbeats 4000000 in
theorem symMergeInt_great (z : Nat → Int) (g n cap N : Nat) (rest : List Value) (f : FuncId) (first captured : Array Value) (c : Nat → Nat → Int) (L : CmpLaw c) (w0 w : World)
    (hcmp : CmpOn Tryz.prog f first captured g N w0 (valInt z) c) (hm : n ≤ 4611686018427387904) (hk0 : Kp (fun k => k = g) w0 w) (p A B q : List Nat) (hA2 : 2 ≤ A.length) (hB2 : 2 ≤ B.length)
    (ih : SymOKInt Tryz.prog z g n cap N rest f first captured c w0 (A.length + B.length - 1)) (hN : ∀ i ∈ p ++ A ++ B ++ q, i < N) (hsA : Sorted c A) (hsB : Sorted c B) (hlr : ∀ u ∈ A, ∀ v ∈ B, u < v)
    (hn : (p ++ A ++ B ++ q).length = n) (hB : Blk w g ((p ++ A ++ B ++ q).map (valInt z) ++ rest) 3) (a m b : Nat) (ea : a = p.length) (em : m = a + A.length) (eb : b = m + B.length) :
    Calls Tryz.prog 159 #[.slice (some ⟨g, 0, none⟩) n cap, .int .i64 a, .int .i64 m, .int .i64 b, .func (Fn.func f) first captured] w
      (RetF (fun k => k = g) w0 fun w' v => v = .tuple #[] ∧ ∃ C, C.Perm (A ++ B) ∧ Sorted c C ∧ Blk w' g ((p ++ C ++ q).map (valInt z) ++ rest) 3) := by
  have b1 : a + 1 < m := by omega
  have b2 : b ≤ n := by simp at hn; omega
  have b3 : m + 1 < b := by omega
  obtain ⟨mid, emid⟩ : ∃ mid, mid = (a + b) / 2 := ⟨_, rfl⟩
  obtain ⟨lo, hi, hc⟩ : ∃ lo hi, (mid < m ∧ lo = mid + m - b ∧ hi = mid) ∨ (m ≤ mid ∧ lo = a ∧ hi = m) := by
    by_cases h : mid < m
    · exact ⟨_, _, .inl ⟨h, rfl, rfl⟩⟩
    · exact ⟨_, _, .inr ⟨by omega, rfl, rfl⟩⟩
  have rmid : ((a : Int) + b) / 2 = (mid : Int) := by omega
  have hmb : mid < b := by omega
  have ham : a < mid := by omega
  have hlh : lo ≤ hi ∧ hi ≤ m ∧ a ≤ lo ∧ hi ≤ mid ∧ mid + m ≤ lo + b := by omega
  obtain ⟨P, eP⟩ : ∃ P, P + 1 = mid + m := ⟨mid + m - 1, by omega⟩
  have rP : (mid : Int) + m - 1 = (P : Int) := by omega
  have t1 : ((m : Int) - a == 1) = false := by simp; omega
  have t2 : ((b : Int) - m == 1) = false := by simp; omega
  have HN := Lib.hid hn; clear hn
  have EA := Lib.hid ea; clear ea
  have EM := Lib.hid em; clear em
  have EB := Lib.hid eb; clear eb
  have HNs := Lib.hid hN; clear hN
  have hent := hcmp.1
  have HC := Lib.hid hcmp.2; clear hcmp
  have HCC0 := Lib.hid hc
  have EMID := Lib.hid emid; clear emid
  have EP := Lib.hid eP; clear eP
  have IH := Lib.hid ih; clear ih
  go_enter Tryz.func159, Tryz.ntmps159
  go_upto_if 140 with (fail)
  go_cut [20, 21] (fun s r wx => s = .int .i64 lo ∧ r = .int .i64 hi ∧ w = wx)
  case first =>
    rcases hc with ⟨h1, h2, h3⟩ | ⟨h1, h2, h3⟩
    · have r1 : (mid : Int) + m - b = (lo : Int) := by omega
      have E1 := Lib.hid h2; have E2 := Lib.hid h3; clear h2 h3
      go_wp2_with fail
      go_meet
      exact ⟨rfl, by rw [E2.out], rfl⟩
    · have E1 := Lib.hid h2; have E2 := Lib.hid h3; clear h2 h3
      go_wp2_with fail
      go_meet
      exact ⟨by rw [E1.out], by rw [E2.out], rfl⟩
  case rest =>
    obtain ⟨rfl, rfl, rfl⟩ := hcut
    clear hc
    go_wp2
    obtain ⟨cells, hcells⟩ : ∃ cells : List Value, cells = (p ++ A ++ B ++ q).map (valInt z) ++ rest := ⟨_, rfl⟩
    have HCE := Lib.hid hcells; rw [← hcells] at hB; clear hcells
    obtain ⟨D, hD⟩ : ∃ D : List Nat, D = p ++ A ++ B ++ q := ⟨_, rfl⟩
    have HD := Lib.hid hD; clear hD
    go_loopw [20, 21] (CutSearchInt c D P lo hi w0 g cells 3) (fun i j _ => (intOf j).toNat - (intOf i).toNat)
    case atStart => exact ⟨lo, hi, Nat.le_refl _, by omega, Nat.le_refl _, rfl, rfl, .inl rfl, .inl rfl, hk0, hB⟩
    case round =>
      obtain ⟨i, j, hi1, hij, hj, rfl, rfl, hlo, hhi, hkp, hb⟩ := hrel
      have HLi := Lib.hid hlo; have HHj := Lib.hid hhi; clear hlo hhi
      have HB0 := Lib.hid hb
      by_cases hlt : i < j
      · obtain ⟨t, et⟩ : ∃ t, t = (i + j) / 2 := ⟨_, rfl⟩
        have ht1 : i ≤ t := by omega
        have ht2 : t < j := by omega
        have rt : ((i : Int) + j) / 2 = (t : Int) := by omega
        obtain ⟨d, ed⟩ : ∃ d, d + t = P := ⟨P - t, by have := EP.out; omega⟩
        have hd1 : m ≤ d ∧ d < b := by have := EP.out; omega
        have rd : (P : Int) - t = (d : Int) := by omega
        have rw1 : IntKind.i64.wrap ((P : Int) - t) = (d : Int) := by rw [rd]; exact IntWalk.i64_in _ (by omega)
        have rw2 : IntKind.i64.wrap (d : Int) = (d : Int) := IntWalk.i64_in _ (by omega)
        have htn : t < n := by omega
        have hdn : d < n := by omega
        clear et
        have ED := Lib.hid ed; clear ed
        have hb' := hb
        rw [HCE.out] at hb'
        have c1 := hb'.at t (by have := HN.out; omega)
        have c2 := hb'.at d (by have := HN.out; omega)
        clear hb'
        rw [← HD.out] at c1 c2
        have hx : D.getD t 0 < N := HNs.out _ (by rw [← HD.out]; exact getD_mem (by have := HN.out; rw [HD.out]; omega))
        have hy : D.getD d 0 < N := HNs.out _ (by rw [← HD.out]; exact getD_mem (by have := HN.out; rw [HD.out]; omega))
        generalize hxx : D.getD t 0 = x at c1 hx
        generalize hyy : D.getD d 0 = y at c2 hy
        have HX := Lib.hid hxx; have HY := Lib.hid hyy; clear hxx hyy
        have hcall := fun W hW => HC.out W hW y x hy hx
        have HCall := Lib.hid hcall; clear hcall
        unfold valInt at c1 c2
        generalize hcc : c y x = cc at HCall
        have HCC := Lib.hid hcc; clear hcc
        by_cases hneg : cc < 0
        · have hdc : decide (cc < 0) = true := by simpa using hneg
          go_wp2
          go_still_tail 11, (by kernel_rfl)
          go_wp2_with fail
          refine (HCall.out _ hkp.drew).mono ?_
          rintro e w1 ⟨rfl, hk2⟩
          have hkp2 : Kp (fun k => k = g) w0 w1 := hkp.drew.ext hk2
          have hb2 := hb.drew.ext hk2
          clear hk2 c1 c2 rw1 rw2
          go_wp2
          go_roundw
          case rel =>
            refine ⟨i, t, hi1, by omega, by omega, rfl, rfl, HLi.out.imp id (fun h => by dsimp only; omega), .inr ?_, hkp2, hb2⟩
            dsimp only
            rw [show P - t = d by have := ED.out; omega, HX.out, HY.out, HCC.out]; omega
          case measure => simp [intOf]; omega
        · have hdc : decide (cc < 0) = false := by simp; omega
          go_wp2
          go_still_tail 11, (by kernel_rfl)
          go_wp2_with fail
          refine (HCall.out _ hkp.drew).mono ?_
          rintro e w1 ⟨rfl, hk2⟩
          have hkp2 : Kp (fun k => k = g) w0 w1 := hkp.drew.ext hk2
          have hb2 := hb.drew.ext hk2
          clear hk2 c1 c2 rw1 rw2
          go_wp2
          go_roundw
          case rel =>
            refine ⟨t + 1, j, by omega, by omega, hj, by first | rfl | (congr 1; done) | (congr 1; omega), rfl, .inr ?_, HHj.out, hkp2, hb2⟩
            dsimp only
            rw [Nat.add_sub_cancel, show P - t = d by have := ED.out; omega, HX.out, HY.out, HCC.out]; omega
          case measure => simp [intOf]; omega
      · obtain rfl : i = j := by omega
        have h3 := HLi.out; have h4 := HHj.out
        rw [HD.out] at h3 h4
        rw [show P = mid + m - 1 by have := EP.out; omega] at h3 h4
        obtain ⟨A1, A2, B1, B2, eA, eB, lA, lB, hAh⟩ := merge_cut L EA.out EM.out EB.out EMID.out hsA hsB hlr (by omega) (by omega) HCC0.out hi1 hj h3 h4
        clear h3 h4
        obtain ⟨e, ee⟩ : ∃ e, e + i = mid + m := ⟨mid + m - i, by omega⟩
        have re : (mid : Int) + m - i = (e : Int) := by omega
        have hle : m ≤ e ∧ e ≤ b := by omega
        have HL := Lib.hid (And.intro eA (And.intro eB (And.intro lA (And.intro (show m + B1.length = e by omega) ee))))
        have HAh := Lib.hid hAh
        clear eA eB lA lB hAh ee
        have hsb : i ≤ m := by omega
        obtain ⟨wo, rfl⟩ : ∃ wo : World, wo = wr := ⟨_, rfl⟩
        have hb0 := HB0.out
        rw [HCE.out, HL.out.1, HL.out.2.1] at hb0
        have HB1 := Lib.hid hb0; clear hb0 hb
        have HNL : (p ++ (A1 ++ A2) ++ (B1 ++ B2) ++ q).length = n := by rw [← HL.out.1, ← HL.out.2.1]; exact HN.out
        have HNN := Lib.hid HNL; clear HNL
        have HNsL : ∀ x ∈ p ++ A1 ++ B1 ++ A2 ++ B2 ++ q, x < N := fun x hx => HNs.out x (by rw [HL.out.1, HL.out.2.1]; simp at hx ⊢; rcases hx with h | h | h | h | h | h <;> simp [h])
        have HNS := Lib.hid HNsL; clear HNsL
        have hlens : a + A1.length = i ∧ i + A2.length = m ∧ m + B1.length = e ∧ e + B2.length = b ∧ e + i = mid + m := by
          have h := HL.out; have h1 := EM.out; have h2 := EB.out
          have h3 := congrArg List.length h.1; have h4 := congrArg List.length h.2.1
          simp at h3 h4; omega
        have HLE := Lib.hid hlens
        by_cases h1 : i < m <;> by_cases h2 : m < e <;> by_cases h3 : a < i <;> by_cases h4 : e < b <;> try (exfalso; omega)
        all_goals
          have h5 : i < mid ∨ mid ≤ i := by omega
          have h6 : mid < e ∨ e ≤ mid := by omega
          clear hlens
          rcases h5 with h5 | h5 <;> rcases h6 with h6 | h6 <;> try (exfalso; have := HLE.out; omega)
        all_goals
          go_wp2_with fail
          first
            | (go_at_call 176
               refine (rotateInt_any z g n cap rest _ w0 _ hkp (p ++ A1) A2 B1 (B2 ++ q) (by rintro rfl; have := HLE.out; simp at this; omega) (by rintro rfl; have := HLE.out; simp at this; omega) (by have := HNN.out; simpa using this) (HB1.out.congrL (by simp)) hm _ _ _ (by have := HLE.out; have := EA.out; simp; omega) (by have := HLE.out; have := EA.out; simp; omega) (by have := HLE.out; have := EA.out; simp; omega)).mono ?_
               rintro e1 w1 ⟨v, rfl, hk1, rfl, hb1⟩
               have hb1' : Blk w1 g ((p ++ A1 ++ B1 ++ A2 ++ B2 ++ q).map (valInt z) ++ rest) 3 := hb1.congrL (by simp)
               have HB2 := Lib.hid hb1'
               clear hb1 hb1'
               go_wp2_with fail)
            | (obtain ⟨w1, rfl⟩ : ∃ w1 : World, w1 = wo := ⟨_, rfl⟩
               have hk1 := hkp
               have hb1' : Blk w1 g ((p ++ A1 ++ B1 ++ A2 ++ B2 ++ q).map (valInt z) ++ rest) 3 := by
                 have h7 : A2 = [] ∨ B1 = [] := by
                   have := HLE.out
                   by_cases h8 : A2 = []
                   · exact .inl h8
                   · right
                     have := List.length_pos_iff.2 h8
                     exact List.eq_nil_of_length_eq_zero (by omega)
                 rcases h7 with rfl | rfl
                 · exact HB1.out.congrL (by simp)
                 · exact HB1.out.congrL (by simp)
               have HB2 := Lib.hid hb1'
               clear hb1')
          first
            | (go_at_call_of 159 (Value.int IntKind.i64 (a : Int))
               refine (IH.out w1 p A1 B1 (A2 ++ B2 ++ q) (by have := HLE.out; have := HL.out; rw [this.1, this.2.1]; simp; omega) (by rintro rfl; have := HLE.out; simp at this; omega) (by rintro rfl; have := HLE.out; simp at this; omega) hk1 (fun x hx => HNS.out x (by simpa using hx)) (Sorted.append.1 (HL.out.1 ▸ hsA)).1 (Sorted.append.1 (HL.out.2.1 ▸ hsB)).1 (fun u hu v hv => hlr u (by rw [HL.out.1]; simp [hu]) v (by rw [HL.out.2.1]; simp [hv])) (by have := HNN.out; simp at this ⊢; omega) (HB2.out.congrL (by simp)) _ _ _ (by have := EA.out; omega) (by have := HLE.out; have := EA.out; omega) (by have := HLE.out; have := EA.out; omega)).mono ?_
               rintro e1 w2 ⟨v, rfl, hk2, rfl, C1, hp1, hs1, hb2⟩
               have HC1 := Lib.hid (And.intro hp1 (And.intro hs1 hb2))
               clear hp1 hs1 hb2
               go_wp2_with fail)
            | (obtain ⟨w2, rfl⟩ : ∃ w2 : World, w2 = w1 := ⟨_, rfl⟩
               have hk2 := hk1
               have HC1 : Hid (∃ C1, C1.Perm (A1 ++ B1) ∧ Sorted c C1 ∧ Blk w2 g ((p ++ C1 ++ (A2 ++ B2 ++ q)).map (valInt z) ++ rest) 3) := by
                 refine ⟨A1 ++ B1, List.Perm.refl _, ?_, HB2.out.congrL (by simp)⟩
                 have h7 : A1 = [] ∨ B1 = [] := by
                   have := HLE.out
                   by_cases h8 : A1 = []
                   · exact .inl h8
                   · right
                     have := List.length_pos_iff.2 h8
                     exact List.eq_nil_of_length_eq_zero (by omega)
                 rcases h7 with h7 | h7
                 · rw [h7]; exact (Sorted.append.1 (HL.out.2.1 ▸ hsB)).1
                 · rw [h7, List.append_nil]; exact (Sorted.append.1 (HL.out.1 ▸ hsA)).1
               obtain ⟨C1, HC1⟩ := HC1)
          have HC1' : Hid (C1.Perm (A1 ++ B1) ∧ Sorted c C1 ∧ Blk w2 g ((p ++ C1 ++ (A2 ++ B2 ++ q)).map (valInt z) ++ rest) 3) := HC1
          have hl1 : C1.length = A1.length + B1.length := by have := HC1'.out.1.length_eq; simpa using this
          have HL1 := Lib.hid hl1; clear hl1 HC1
          first
            | (go_at_call_of 159 (Value.int IntKind.i64 (b : Int))
               refine (IH.out w2 (p ++ C1) A2 B2 q (by have := HLE.out; have := HL.out; rw [this.1, this.2.1]; simp; omega) (by rintro rfl; have := HLE.out; simp at this; omega) (by rintro rfl; have := HLE.out; simp at this; omega) hk2 (fun x hx => HNS.out x (by
                   simp at hx ⊢
                   rcases hx with h | h | h | h | h
                   · simp [h]
                   · have := HC1'.out.1.subset h; simp at this; rcases this with h | h <;> simp [h]
                   · simp [h]
                   · simp [h]
                   · simp [h])) (Sorted.append.1 (HL.out.1 ▸ hsA)).2.1 (Sorted.append.1 (HL.out.2.1 ▸ hsB)).2.1 (fun u hu v hv => hlr u (by rw [HL.out.1]; simp [hu]) v (by rw [HL.out.2.1]; simp [hv])) (by have := HNN.out; have := HL1.out; simp at *; omega) (HC1'.out.2.2.congrL (by simp)) _ _ _ (by have := HLE.out; have := EA.out; have := HL1.out; simp; omega) (by have := HLE.out; have := EA.out; have := HL1.out; simp; omega) (by have := HLE.out; have := EA.out; have := HL1.out; simp; omega)).mono ?_
               rintro e1 w3 ⟨v, rfl, hk3, rfl, C2, hp2, hs2, hb3⟩
               have HC2 := Lib.hid (And.intro hp2 (And.intro hs2 hb3))
               clear hp2 hs2 hb3
               go_wp2_with fail)
            | (obtain ⟨w3, rfl⟩ : ∃ w3 : World, w3 = w2 := ⟨_, rfl⟩
               have hk3 := hk2
               have HC2 : Hid (∃ C2, C2.Perm (A2 ++ B2) ∧ Sorted c C2 ∧ Blk w3 g ((p ++ C1 ++ C2 ++ q).map (valInt z) ++ rest) 3) := by
                 refine ⟨A2 ++ B2, List.Perm.refl _, ?_, HC1'.out.2.2.congrL (by simp)⟩
                 have h7 : A2 = [] ∨ B2 = [] := by
                   have := HLE.out
                   by_cases h8 : A2 = []
                   · exact .inl h8
                   · right
                     have := List.length_pos_iff.2 h8
                     exact List.eq_nil_of_length_eq_zero (by omega)
                 rcases h7 with h7 | h7
                 · rw [h7]; exact (Sorted.append.1 (HL.out.2.1 ▸ hsB)).2.1
                 · rw [h7, List.append_nil]; exact (Sorted.append.1 (HL.out.1 ▸ hsA)).2.1
               obtain ⟨C2, HC2⟩ := HC2)
          have HC2' : Hid (C2.Perm (A2 ++ B2) ∧ Sorted c C2 ∧ Blk w3 g ((p ++ C1 ++ C2 ++ q).map (valInt z) ++ rest) 3) := HC2
          go_end0
          have hmb := merge_both HAh.out HC1'.out.1 HC1'.out.2.1 HC2'.out.1 HC2'.out.2.1
          refine RetF.mk hk3 ⟨rfl, C1 ++ C2, by rw [HL.out.1, HL.out.2.1]; exact hmb.1, hmb.2, HC2'.out.2.2.congrL (by simp)⟩
end Go.Proofs.YtfkhelihepbehaaGreat

/- slices.stableCmpFunc and slices.SortStableFunc at int. -/
namespace Go.Proofs.YtfkhelihepbehaaGreat
open Go.RowKit
set_option linter.unusedVariables false

theorem symMergeInt_any (z : Nat → Int) (g n cap N : Nat) (rest : List Value) (f : FuncId) (first captured : Array Value) (c : Nat → Nat → Int) (L : CmpLaw c) (w0 : World)
    (hcmp : CmpOn Tryz.prog f first captured g N w0 (valInt z) c) (hm : n ≤ 4611686018427387904) : ∀ k, SymOKInt Tryz.prog z g n cap N rest f first captured c w0 k := by
  intro k
  induction k with
  | zero => intro w p A B q hk hA; have := List.length_pos_iff.2 hA; omega
  | succ k ih =>
    intro w p A B q hk hA hB hkp hN hsA hsB hlr hn hb a m b ea em eb
    have lA := List.length_pos_iff.2 hA
    have lB := List.length_pos_iff.2 hB
    by_cases h1 : A.length = 1
    · obtain ⟨x, rfl⟩ := List.length_eq_one_iff.1 h1
      refine (symMergeInt_one z g n cap N rest f first captured c L w0 w hcmp hm hkp p x B q hB (fun i hi => hN i (by simpa using hi)) hsB (fun v hv => hlr x (by simp) v hv) (by simpa using hn) (hb.congrL (by simp)) a m b ea (by simp at em; omega) (by simp at em eb; omega)).mono ?_
      rintro e w' ⟨v, rfl, h, hv, C, hp, hs, hb'⟩
      exact ⟨v, rfl, h, hv, C, by simpa using hp, hs, hb'⟩
    · by_cases h2 : B.length = 1
      · obtain ⟨x, rfl⟩ := List.length_eq_one_iff.1 h2
        refine (symMergeInt_last z g n cap N rest f first captured c L w0 w hcmp hm hkp p A x q (by omega) (fun i hi => hN i (by simpa using hi)) hsA (fun v hv => hlr v hv x (by simp)) (by simpa using hn) (hb.congrL (by simp)) a m b ea (by omega) (by simp at eb; omega)).mono ?_
        rintro e w' ⟨v, rfl, h, hv, C, hp, hs, hb'⟩
        exact ⟨v, rfl, h, hv, C, hp, hs, hb'⟩
      · refine (symMergeInt_great z g n cap N rest f first captured c L w0 w hcmp hm hkp p A B q (by omega) (by omega) (fun w p' A' B' q' h => ih w p' A' B' q' (by omega)) hN hsA hsB hlr hn hb a m b ea (by omega) (by omega)).mono ?_
        rintro e w' ⟨v, rfl, h, hv, C, hp, hs, hb'⟩
        exact ⟨v, rfl, h, hv, C, hp, hs, hb'⟩

theorem symMergeInt_int (z : Nat → Int) (g n cap N : Nat) (rest : List Value) (f : FuncId) (first captured : Array Value) (c : Nat → Nat → Int) (L : CmpLaw c) (w0 : World)
    (hcmp : CmpOn Tryz.prog f first captured g N w0 (valInt z) c) (hm : n ≤ 4611686018427387904) (w : World) (p A B q : List Nat) (hA : A ≠ []) (hB : B ≠ []) (hkp : Kp (fun k => k = g) w0 w) (hN : ∀ i ∈ p ++ A ++ B ++ q, i < N) (hsA : Sorted c A) (hsB : Sorted c B) (hlr : ∀ u ∈ A, ∀ v ∈ B, u < v)
    (hn : (p ++ A ++ B ++ q).length = n) (hb : Blk w g ((p ++ A ++ B ++ q).map (valInt z) ++ rest) 3) (a m b : Int) (ea : a = (p.length : Nat)) (em : m = ((p.length + A.length : Nat) : Int)) (eb : b = ((p.length + A.length + B.length : Nat) : Int)) :
    Calls Tryz.prog 159 #[.slice (some ⟨g, 0, none⟩) n cap, .int .i64 a, .int .i64 m, .int .i64 b, .func (Fn.func f) first captured] w
      (RetF (fun k => k = g) w0 fun w' v => v = .tuple #[] ∧ ∃ C, C.Perm (A ++ B) ∧ Sorted c C ∧ Blk w' g ((p ++ C ++ q).map (valInt z) ++ rest) 3) := by
  subst ea em eb
  exact symMergeInt_any z g n cap N rest f first captured c L w0 hcmp hm _ w p A B q (Nat.le_refl _) hA hB hkp hN hsA hsB hlr hn hb _ _ _ rfl rfl rfl

set_option maxRecDepth 100000 in
set_option maxHeartbeats 8000000 in
theorem stableCmpInt_any (z : Nat → Int) (g n cap : Nat) (rest : List Value) (f : FuncId) (first captured : Array Value) (c : Nat → Nat → Int) (L : CmpLaw c) (w : World)
    (hcmp : CmpOn Tryz.prog f first captured g n w (valInt z) c) (hm : n ≤ 1152921504606846976) (hB : Blk w g ((List.range n).map (valInt z) ++ rest) 3) :
    Calls Tryz.prog 131 #[.slice (some ⟨g, 0, none⟩) n cap, .int .i64 n, .func (Fn.func f) first captured] w
      (RetF (fun k => k = g) w fun w' v => v = .tuple #[] ∧ ∃ C, C.Perm (List.range n) ∧ Sorted c C ∧ Blk w' g (C.map (valInt z) ++ rest) 3) := by
  have hm' : n ≤ 4611686018427387904 := by omega
  have HCm := Lib.hid hcmp; clear hcmp
  have HBr : Blk w g ((List.range' 0 n).map (valInt z) ++ rest) 3 := by rw [← List.range_eq_range']; exact hB
  have HBr' := Lib.hid HBr; clear HBr hB
  go_enter Tryz.func131, Tryz.ntmps131
  go_wp2
  go_loopw [7, 8] (Stable1 c n w g (valInt z) rest 3) (fun a _ _ => n - (intOf a).toNat)
  case atStart => exact ⟨[], by simp, trivial, by simp, rfl, rfl, Kp.refl _, by simpa using HBr'.out⟩
  case round =>
    obtain ⟨dn, hd, hgood, hle, rfl, rfl, hkp, hb⟩ := hrel
    generalize hda : dn.flatten.length = a at *
    have HDA := Lib.hid hda; clear hda
    have HD := Lib.hid (And.intro hd hgood); clear hd hgood
    have HB1 := Lib.hid hb; clear hb
    by_cases hlt : a + 20 ≤ n
    · go_wp2_with fail
      refine (insSortInt_any z g n cap n rest f first captured c L w wr HCm.out hkp dn.flatten (List.range' a 20) (List.range' (a + 20) (n - (a + 20))) (fun i hi => by rw [List.mem_range'_1] at hi; omega) List.pairwise_lt_range' (by have := HDA.out; simp only [List.length_append, List.length_cons, List.length_nil, List.length_range', List.flatten_append, List.flatten_cons, List.flatten_nil, List.append_nil, List.nil_append]; omega) (HB1.out.congrL (by
          have e : List.range' a 20 ++ List.range' (a + 20) (n - (a + 20)) = List.range' a (n - a) := by rw [List.range'_append_1]; congr 1; omega
          rw [List.append_assoc, e])) hm' _ _ HDA.out.symm (by have := HDA.out; simp only [List.length_append, List.length_cons, List.length_nil, List.length_range', List.flatten_append, List.flatten_cons, List.flatten_nil, List.append_nil, List.nil_append]; omega)).mono ?_
      rintro e w1 ⟨v, rfl, hk1, rfl, C, hp, hs, hb1⟩
      have HC1 := Lib.hid (And.intro hp (And.intro hs hb1)); clear hp hs hb1
      go_wp2
      go_roundw
      case rel =>
        obtain ⟨hp, hs, hb1⟩ := HC1.out
        have hl : C.length = 20 := by have := hp.length_eq; simpa using this
        have hfl : (dn ++ [C]).flatten.length = a + 20 := by have := HDA.out; simp only [List.length_append, List.length_cons, List.length_nil, List.length_range', List.flatten_append, List.flatten_cons, List.flatten_nil, List.append_nil, List.nil_append]; omega
        refine ⟨dn ++ [C], ?_, Good.append.2 ⟨HD.out.2, ?_⟩, by omega, by rw [hfl]; go_num, by rw [hfl]; go_num, hk1, ?_⟩
        · intro A hA
          rcases List.mem_append.1 hA with hA | hA
          · exact HD.out.1 A hA
          · simp at hA; subst hA; exact hl
        · have := HDA.out; simp only [List.length_flatten] at this
          refine ⟨?_, hs, trivial⟩
          rw [hl, Nat.zero_add, HDA.out]; exact hp
        · rw [hfl]; exact hb1.congrL (by simp)
      case measure => simp [intOf]; omega
    · have hN : n - a < 20 := by omega
      go_wp2_with fail
      refine (insSortInt_any z g n cap n rest f first captured c L w wr HCm.out hkp dn.flatten (List.range' a (n - a)) [] (fun i hi => by rw [List.mem_range'_1] at hi; omega) List.pairwise_lt_range' (by have := HDA.out; simp only [List.length_append, List.length_cons, List.length_nil, List.length_range', List.flatten_append, List.flatten_cons, List.flatten_nil, List.append_nil, List.nil_append]; omega) (HB1.out.congrL (by simp)) hm' _ _ HDA.out.symm (by have := HDA.out; simp only [List.length_append, List.length_cons, List.length_nil, List.length_range', List.flatten_append, List.flatten_cons, List.flatten_nil, List.append_nil, List.nil_append]; omega)).mono ?_
      rintro e w1 ⟨v, rfl, hk1, rfl, C, hp, hs, hb1⟩
      have key : ∃ Cs, Full 20 Cs ∧ Good c 0 Cs ∧ Cs.flatten = dn.flatten ++ C := by
        have hl : C.length = n - a := by have := hp.length_eq; simpa using this
        by_cases h0 : C.length = 0
        · obtain rfl := List.eq_nil_of_length_eq_zero h0
          exact ⟨dn, Full.all' (by decide) HD.out.1, HD.out.2, by simp⟩
        · refine ⟨dn ++ [C], Full.all HD.out.1 (by omega) (by omega), Good.append.2 ⟨HD.out.2, ?_, hs, trivial⟩, by simp⟩
          rw [hl, Nat.zero_add, HDA.out]; exact hp
      obtain ⟨Cs, hf, hg2, he⟩ := key
      have hl : Cs.flatten.length = n := by
        rw [he]
        have h1 := hp.length_eq
        have := HDA.out
        simp only [List.length_range'] at h1
        simp only [List.length_append, List.length_cons, List.length_nil, List.length_range', List.flatten_append, List.flatten_cons, List.flatten_nil, List.append_nil, List.nil_append]; omega
      have hb2 : Blk w1 g (Cs.flatten.map (valInt z) ++ rest) 3 := by rw [he]; exact hb1.congrL (by simp)
      have HS := Lib.hid (And.intro hf (And.intro hg2 (And.intro hl hb2)))
      clear hp hs hb1 hf hg2 he hl hb2
      go_wp2
      go_loopw [6, 7, 8] (fun sv _ _ wx => Stable2 c n w g (valInt z) rest 3 sv wx) (fun s _ _ _ => n - (intOf s).toNat)
      case atStart =>
        obtain ⟨h1, h2, h3, h4⟩ := HS.out
        exact ⟨20, Cs, by decide, rfl, h1, h2, h3, by omega, hk1, h4⟩
      case round =>
        obtain ⟨bs, Cs2, hbs, rfl, hf, hg2, hl, hle2, hkp2, hb2⟩ := hrel
        have HF := Lib.hid (And.intro hf (And.intro hg2 (And.intro hl hb2)))
        clear hf hg2 hl hb2
        by_cases hlt2 : bs < n
        · obtain ⟨wo, rfl⟩ : ∃ wo : World, wo = wr := ⟨_, rfl⟩
          go_wp2
          go_loopw [7, 8] (Stable3 c n bs w g (valInt z) rest 3) (fun a _ _ => n - (intOf a).toNat)
          case atStart =>
            obtain ⟨h1, h2, h3, h4⟩ := HF.out
            exact ⟨[], Cs2, by simp, h1, h2, h3, rfl, by simp, hkp2, h4⟩
          case round =>
            obtain ⟨dn2, td, hd2, hft, hg3, hl3, rfl, rfl, hkp3, hb3⟩ := hrel
            have hle3 : dn2.flatten.length + td.flatten.length = n := by simpa only [List.flatten_append, List.length_append] using hl3
            generalize hda2 : dn2.flatten.length = a2 at *
            have HDA2 := Lib.hid hda2; clear hda2
            have HG := Lib.hid (And.intro hd2 (And.intro hft (And.intro hg3 (And.intro hl3 (And.intro hle3 hb3)))))
            clear hd2 hft hg3 hl3 hb3
            have ha2n : a2 ≤ n := by omega
            clear hle3
            by_cases hlt3 : a2 + 2 * bs ≤ n
            · obtain ⟨A, B, r, rfl, lA, lB, hfr⟩ := Full.two hbs HG.out.2.1 (by have := HG.out.2.2.2.2.1; omega)
              obtain ⟨q1, q2, q3, q4, q5, q6⟩ := HG.out
              have hgd := Good.append.1 q3
              obtain ⟨g1, g2, g4, g5, g6⟩ := hgd.2
              rw [HDA2.out, lA, Nat.zero_add] at g1
              rw [HDA2.out, lA, lB, Nat.zero_add] at g4
              rw [HDA2.out, lA, lB, Nat.zero_add] at g6
              have HQ := Lib.hid (And.intro q1 (And.intro q4 (And.intro q6 (And.intro hgd.1 (And.intro g1 (And.intro g2 (And.intro g4 (And.intro g5 (And.intro g6 (And.intro lA (And.intro lB hfr)))))))))))
              clear q1 q2 q3 q4 q5 q6 hgd g1 g2 g4 g5 g6 lA lB hfr
              go_wp2_with fail
              have lens : dn2.flatten.length = a2 ∧ A.length = bs ∧ B.length = bs ∧ a2 + (bs + (bs + r.flatten.length)) = n := by
                obtain ⟨q1, q4, q6, gd, g1, g2, g4, g5, g6, lA, lB, hfr⟩ := HQ.out
                have h := HDA2.out
                simp only [List.flatten_append, List.flatten_cons, List.length_append, lA, lB, h] at q4
                exact ⟨h, lA, lB, q4⟩
              have HLL := Lib.hid lens; clear lens
              have mem : ∀ i ∈ (dn2 ++ A :: B :: r).flatten, i < n := by
                obtain ⟨q1, q4, q6, gd, g1, g2, g4, g5, g6, lA, lB, hfr⟩ := HQ.out
                intro i hi
                have hall : Good c 0 (dn2 ++ A :: B :: r) := Good.append.2 ⟨gd, by rw [HDA2.out, lA, Nat.zero_add]; exact g1, g2, by rw [HDA2.out, lA, lB, Nat.zero_add]; exact g4, g5, by rw [HDA2.out, lA, lB, Nat.zero_add]; exact g6⟩
                have := Good.mem hall hi
                omega
              have HME := Lib.hid mem; clear mem
              refine (symMergeInt_int z g n cap n rest f first captured c L w HCm.out hm' wr dn2.flatten A B r.flatten (by have := HLL.out; rintro rfl; first | (simp at this; done) | (simp at this; omega)) (by have := HLL.out; rintro rfl; first | (simp at this; done) | (simp at this; omega)) hkp3 (fun i hi => HME.out i (by simpa using hi)) HQ.out.2.2.2.2.2.1 HQ.out.2.2.2.2.2.2.2.1 ?hLR (by have := HLL.out; simp only [List.length_append, List.length_cons, List.length_nil, List.length_range', List.flatten_append, List.flatten_cons, List.flatten_nil, List.append_nil, List.nil_append]; omega) (HQ.out.2.2.1.congrL (by simp)) _ _ _ (by rw [HDA2.out]) (by have := HLL.out; omega) (by have := HLL.out; omega)).mono ?_
              case hLR =>
                intro u hu v hv
                have h1 := range'_mem_lt HQ.out.2.2.2.2.1 hu
                have h2 := range'_mem_lt HQ.out.2.2.2.2.2.2.1 hv
                omega
              rintro e w1 ⟨v, rfl, hk1, rfl, C, hp, hs, hb1⟩
              have HC1 := Lib.hid (And.intro hp (And.intro hs hb1)); clear hp hs hb1
              go_wp2
              go_roundw
              case rel =>
                obtain ⟨q1, q4, q6, gd, g1, g2, g4, g5, g6, lA, lB, hfr⟩ := HQ.out
                obtain ⟨hp, hs, hb1⟩ := HC1.out
                obtain ⟨e1, e2, e3, e4⟩ := HLL.out
                have lC : C.length = 2 * bs := by have := hp.length_eq; simp only [List.length_append] at this; omega
                have pC := merge_range g1 g4 hp
                refine ⟨dn2 ++ [C], r, ?_, hfr, ?_, ?_, ?_, ?_, hk1, hb1.congrL (by simp)⟩
                · intro X hX
                  rcases List.mem_append.1 hX with hX | hX
                  · exact q1 X hX
                  · simp at hX; subst hX; exact lC
                · refine Good.append.2 ⟨Good.append.2 ⟨gd, ?_, hs, trivial⟩, ?_⟩
                  · rw [e1, lC, Nat.zero_add, show 2 * bs = bs + bs by omega]; exact pC
                  · rw [show 0 + (dn2 ++ [C]).flatten.length = a2 + bs + bs by simp only [List.length_append, List.length_cons, List.length_nil, List.length_range', List.flatten_append, List.flatten_cons, List.flatten_nil, List.append_nil, List.nil_append]; omega]; exact g6
                · simp only [List.length_append, List.length_cons, List.length_nil, List.length_range', List.flatten_append, List.flatten_cons, List.flatten_nil, List.append_nil, List.nil_append]; omega
                · rw [show (dn2 ++ [C]).flatten.length = a2 + 2 * bs by simp only [List.length_append, List.length_cons, List.length_nil, List.length_range', List.flatten_append, List.flatten_cons, List.flatten_nil, List.append_nil, List.nil_append]; omega]; go_num
                · rw [show (dn2 ++ [C]).flatten.length = a2 + 2 * bs by simp only [List.length_append, List.length_cons, List.length_nil, List.length_range', List.flatten_append, List.flatten_cons, List.flatten_nil, List.append_nil, List.nil_append]; omega]; go_num
              case measure => simp [intOf]; omega
            · have hrest := Full.rest hbs HG.out.2.1 (by have := HG.out.2.2.2.2.1; omega)
              by_cases hmn : a2 + bs < n
              · have h2 : ∃ A B, td = [A, B] ∧ A.length = bs ∧ 0 < B.length ∧ B.length < bs := by
                  have h5 := HG.out.2.2.2.2.1
                  rcases hrest with (rfl | ⟨A, rfl, h3, h4⟩) | h
                  · simp at h5; omega
                  · simp at h5; omega
                  · exact h
                obtain ⟨A, B, rfl, lA, lB, lB2⟩ := h2
                clear hrest
                obtain ⟨q1, q2, q3, q4, q5, q6⟩ := HG.out
                have hgd := Good.append.1 q3
                obtain ⟨g1, g2, g4, g5, _⟩ := hgd.2
                rw [HDA2.out, lA, Nat.zero_add] at g1
                rw [HDA2.out, lA, Nat.zero_add] at g4
                have mem : ∀ i ∈ (dn2 ++ [A, B]).flatten, i < n := fun i hi => by have := Good.mem q3 hi; omega
                have lens : dn2.flatten.length = a2 ∧ A.length = bs ∧ 0 < B.length ∧ B.length < bs ∧ a2 + (bs + B.length) = n := by
                  have h := HDA2.out
                  have q4' := q4
                  simp only [List.flatten_append, List.flatten_cons, List.flatten_nil, List.length_append, List.length_nil, lA, h] at q4'
                  exact ⟨h, lA, lB, lB2, q4'⟩
                have HQ := Lib.hid (And.intro q1 (And.intro q6 (And.intro hgd.1 (And.intro g1 (And.intro g2 (And.intro g4 (And.intro g5 mem)))))))
                have HLL := Lib.hid lens
                clear q1 q2 q3 q4 q5 q6 hgd g1 g2 g4 g5 mem lens lA lB lB2
                go_wp2_with fail
                refine (symMergeInt_int z g n cap n rest f first captured c L w HCm.out hm' wr dn2.flatten A B [] (by have := HLL.out; rintro rfl; first | (simp at this; done) | (simp at this; omega)) (by have := HLL.out; rintro rfl; first | (simp at this; done) | (simp at this; omega)) hkp3 (fun i hi => HQ.out.2.2.2.2.2.2.2 i (by simpa using hi)) HQ.out.2.2.2.2.1 HQ.out.2.2.2.2.2.2.1 ?hLR (by have := HLL.out; simp only [List.length_append, List.length_cons, List.length_nil, List.length_range', List.flatten_append, List.flatten_cons, List.flatten_nil, List.append_nil, List.nil_append]; omega) (HQ.out.2.1.congrL (by simp)) _ _ _ (by rw [HDA2.out]) (by have := HLL.out; omega) (by have := HLL.out; omega)).mono ?_
                case hLR =>
                  intro u hu v hv
                  have h1 := range'_mem_lt HQ.out.2.2.2.1 hu
                  have h2 := range'_mem_lt HQ.out.2.2.2.2.2.1 hv
                  omega
                rintro e w1 ⟨v, rfl, hk1, rfl, C, hp, hs, hb1⟩
                have HC1 := Lib.hid (And.intro hp (And.intro hs hb1)); clear hp hs hb1
                go_wp2
                go_roundw
                case rel =>
                  obtain ⟨q1, q6, gd, g1, g2, g4, g5, _⟩ := HQ.out
                  obtain ⟨hp, hs, hb1⟩ := HC1.out
                  obtain ⟨e1, e2, e3, e4, e5⟩ := HLL.out
                  have lC : C.length = bs + B.length := by have := hp.length_eq; simp only [List.length_append] at this; omega
                  have pC := merge_range g1 g4 hp
                  refine ⟨2 * bs, dn2 ++ [C], by omega, by go_num, Full.all q1 (by omega) (by omega), Good.append.2 ⟨gd, ?_, hs, trivial⟩, by simp only [List.length_append, List.length_cons, List.length_nil, List.length_range', List.flatten_append, List.flatten_cons, List.flatten_nil, List.append_nil, List.nil_append]; omega, by omega, hk1, hb1.congrL (by simp)⟩
                  rw [e1, lC, Nat.zero_add]; exact pC
                case measure => simp [intOf]; omega
              · have h2 : td = [] ∨ ∃ A, td = [A] ∧ 0 < A.length ∧ A.length ≤ bs := by
                  have h5 := HG.out.2.2.2.2.1
                  rcases hrest with h | ⟨A, B, rfl, h3, h4, h6⟩
                  · exact h
                  · simp at h5; omega
                have HTD := Lib.hid h2
                clear hrest h2
                go_wp2
                go_roundw
                case rel =>
                  obtain ⟨q1, q2, q3, q4, q5, q6⟩ := HG.out
                  refine ⟨2 * bs, dn2 ++ td, by omega, by go_num, ?_, q3, q4, by omega, hkp3, q6⟩
                  rcases HTD.out with rfl | ⟨A, rfl, h3, h4⟩
                  · rw [List.append_nil]; exact Full.all' (by omega) q1
                  · exact Full.all q1 h3 (by omega)
                case measure => simp [intOf]; omega
        · go_wp2
          go_end0
          obtain ⟨h1, h2, h3, h4⟩ := HF.out
          refine RetF.mk hkp2 ⟨rfl, ?_⟩
          rcases Full.one hbs h1 h3 (by omega) with rfl | ⟨A, rfl⟩
          · simp at h3; subst h3
            exact ⟨[], by simp, Sorted.nil, by simpa using h4⟩
          · simp at h3
            obtain ⟨q1, q2, _⟩ := h2
            refine ⟨A, by rw [List.range_eq_range', ← h3]; exact q1, q2, by simpa using h4⟩
theorem sortStableInt_any (z : Nat → Int) (g n cap : Nat) (rest : List Value) (f : FuncId) (first captured : Array Value) (c : Nat → Nat → Int) (L : CmpLaw c) (w : World)
    (hcmp : CmpOn Tryz.prog f first captured g n w (valInt z) c) (hm : n ≤ 1152921504606846976) (hB : Blk w g ((List.range n).map (valInt z) ++ rest) 3) :
    Calls Tryz.prog 90 #[.slice (some ⟨g, 0, none⟩) n cap, .func (Fn.func f) first captured] w
      (RetF (fun k => k = g) w fun w' v => v = .tuple #[] ∧ ∃ C, C.Perm (List.range n) ∧ Sorted c C ∧ Blk w' g (C.map (valInt z) ++ rest) 3) := by
  go_enter Tryz.func90, Tryz.ntmps90
  go_wp2_with fail
  refine (stableCmpInt_any z g n cap rest f first captured c L w hcmp hm hB).mono ?_
  rintro e w1 ⟨v, rfl, hk, rfl, hC⟩
  have HC := Lib.hid hC; clear hC
  go_wp2
  go_end0
  exact RetF.mk hk ⟨rfl, HC.out⟩

/-- An empty slice, wherever it leads. -/
theorem insSortInt_nil (ao : Option Addr) (cap : Nat) (fv : Value) (w : World) :
    Calls Tryz.prog 158 #[.slice ao 0 cap, .int .i64 0, .int .i64 0, fv] w (Ret (.tuple #[]) w) := by
  go_enter Tryz.func158, Tryz.ntmps158
  go_wp2
  go_loop [8] (fun i => i = .int .i64 1) (fun _ => 0)
  case atStart => rfl
  case round =>
    subst hrel
    go_wp2
    go_end0
    exact Ret.mk rfl

theorem stableCmpInt_nil (ao : Option Addr) (cap : Nat) (fv : Value) (w : World) :
    Calls Tryz.prog 131 #[.slice ao 0 cap, .int .i64 0, fv] w (Ret (.tuple #[]) w) := by
  go_enter Tryz.func131, Tryz.ntmps131
  go_wp2
  go_loop [7, 8] (fun a b => a = .int .i64 0 ∧ b = .int .i64 20) (fun _ _ => 0)
  case atStart => exact ⟨rfl, rfl⟩
  case round =>
    obtain ⟨rfl, rfl⟩ := hrel
    go_wp2_with (go_at_call 158; (with_reducible refine (insSortInt_nil _ _ _ _).mono ?_); rintro e w' ⟨rfl, rfl⟩)
    go_loop [6] (fun s => s = .int .i64 20) (fun _ => 0)
    case atStart => rfl
    case round =>
      subst hrel
      go_wp2
      go_end0
      exact Ret.mk rfl

theorem sortStableInt_nil (ao : Option Addr) (cap : Nat) (fv : Value) (w : World) :
    Calls Tryz.prog 90 #[.slice ao 0 cap, fv] w (Ret (.tuple #[]) w) := by
  go_enter Tryz.func90, Tryz.ntmps90
  go_wp2_with (go_at_call 131; (with_reducible refine (stableCmpInt_nil _ _ _ _).mono ?_); rintro e w' ⟨rfl, rfl⟩)
  go_end0
  exact Ret.mk rfl
end Go.Proofs.YtfkhelihepbehaaGreat
