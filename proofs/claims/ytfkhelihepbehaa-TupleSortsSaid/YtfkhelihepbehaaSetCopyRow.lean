/- tuple.Set at []string: Copy, At, under: what makes sets out of sets. -/
import Derived.Test.YtfkhelihepbehaaSetOpsRow
import Derived.Deep.RegionHeld3
import Derived.Deep.RegionWith
namespace Go.Proofs.Ytfkhelihepbehaa
open Go.RowKit
set_option linter.unusedVariables false

/-- A set that a pointer names; nil: no items. -/
def PtrSetRow (P : Program) (S : Nat → Prop) (w : World) (v : Value) (zs : List (Option Addr × Nat × Nat)) : Prop :=
  (v = .pointer none ∧ zs = []) ∨ ∃ b ov iv tail te D c, v = .pointer (some ⟨b, 0, none⟩) ∧ SetAtRow P S w b ov iv tail te D c zs
theorem PtrSetRow.ext {P : Program} {S : Nat → Prop} {w w' : World} {v : Value} {zs : List (Option Addr × Nat × Nat)} (h : PtrSetRow P S w v zs) (hk : Ext w w') : PtrSetRow P S w' v zs := by
  rcases h with h | ⟨b, ov, iv, tail, te, D, c, h1, h2⟩
  · exact .inl h
  · exact .inr ⟨b, ov, iv, tail, te, D, c, h1, h2.ext hk⟩
theorem PtrSetRow.len {P : Program} {S : Nat → Prop} {w : World} {v : Value} {zs : List (Option Addr × Nat × Nat)} (h : PtrSetRow P S w v zs) : zs.length ≤ 1048576 * 1048576 := by
  rcases h with ⟨_, rfl⟩ | ⟨b, ov, iv, tail, te, D, c, h1, h2⟩
  · simp
  · exact h2.len

theorem setItemsRow_ptr {S : Nat → Prop} {w : World} {v : Value} {zs : List (Option Addr × Nat × Nat)} (h : PtrSetRow Try.prog S w v zs) :
    Calls Try.prog 135 #[v] w (RetN w fun w' r => Row w' 22 1 r zs.length (zs.map fun x => (Value.slice (x).1 (x).2.1 (x).2.2)) (New w)) := by
  rcases h with ⟨rfl, rfl⟩ | ⟨b, ov, iv, tail, te, D, c, rfl, h2⟩
  · refine (setItemsRow_nil w).mono ?_
    rintro e w' ⟨rfl, rfl⟩
    exact RetN.mk (Kp.refl _) (Row.nil _ _ _ _)
  · exact setItemsRow_any h2

theorem OrdVRow.form {P : Program} {S : Nat → Prop} {w0 : World} {ov : Value} {D : Option Addr × Nat × Nat → Prop} {c : Option Addr × Nat × Nat → Option Addr × Nat × Nat → Int} (h : OrdVRow P S w0 ov D c) : ov = .nilFunc ∨ ∃ f first cap, ov = .func f first cap := by
  rcases h with ⟨h, _⟩ | ⟨f, first, cap, h, _⟩
  · exact .inl h
  · exact .inr ⟨_, _, _, h⟩

theorem setAtRow_new {P : Program} {S : Nat → Prop} {w w1 : World} {ov iv : Value} {D : Option Addr × Nat × Nat → Prop} {c : Option Addr × Nat × Nat → Option Addr × Nat × Nat → Int} {zs : List (Option Addr × Nat × Nat)} {M : Nat → Prop} (ho : OrdVRow P S w ov D c) (hS : ∀ k, S k → k < w.heap.size) (hex : Ext w w1)
    (hr : Row w1 22 1 iv zs.length (zs.map fun x => (Value.slice (x).1 (x).2.1 (x).2.2)) M) (hD : ∀ x ∈ zs, D x) (hl : zs.length ≤ 1048576 * 1048576) (te : TypeId) (hM : ∀ k, M k → w.heap.size ≤ k := by exact fun k h => h) :
    SetAtRow P S (w1.alloc (.cells #[ov, iv] te)) w1.heap.size ov iv [] te D c zs := by
  refine ⟨Blk.new w1 [ov, iv] te, (hr.own).alloc _, fun h => by have := hr.lt _ h; omega, fun k h => Nat.lt_of_lt_of_le (hS k h) (hex.alloc _).size, fun k h hs => ?_, ho.same ((hex.alloc _).same hS fun _ _ => id), hD, hl⟩
  have h1 := hS k hs
  have h2 := hex.size
  rcases h with h | h
  · omega
  · have := hM k (hr.block k h); omega

section
variable {S : Nat → Prop} {w : World} {b : Nat} {ov iv : Value} {tail : List Value} {te : TypeId} {D : Option Addr × Nat × Nat → Prop} {c : Option Addr × Nat × Nat → Option Addr × Nat × Nat → Int} {zs : List (Option Addr × Nat × Nat)}

set_option maxRecDepth 100000 in
set_option maxHeartbeats 2000000 in
theorem setCopyRow_any (h : SetAtRow Try.prog S w b ov iv tail te D c zs) :
    Calls Try.prog 114 #[.pointer (some ⟨b, 0, none⟩)] w
      (RetN w fun w' v => ∃ b' iv', v = .pointer (some ⟨b', 0, none⟩) ∧ w.heap.size ≤ b' ∧ (∀ k, iv'.ownBlock = some k → w.heap.size ≤ k) ∧ SetAtRow Try.prog S w' b' ov iv' [] 66 D c zs) := by
  obtain ⟨c1, c2⟩ := h.cells
  obtain ⟨ao, cap, rfl, hc, _⟩ := h.row.shape
  have hform := h.ord.form
  have hl := h.len
  have HC := Lib.hid hc; clear hc
  have HH := Lib.hid h; clear h
  rcases hform with rfl | ⟨f1, first1, cap1, rfl⟩
  · go_enter Try.func114, Try.ntmps114
    go_wp2
    go_region_held3 (fun w' => w'.cell? ⟨b, 0, none⟩ = some .nilFunc ∧ w'.cell? ⟨b, 1, none⟩ = some (.slice ao zs.length cap)) (first | exact ⟨by assumption, by assumption⟩ | go_keep)
      (first | (go_at_call 139; refine (cloneRow_any (zs.map fun x => (Value.slice (x).1 (x).2.1 (x).2.2)) ao cap _ zs.length (by simp) (HC.out.drewN 1) (by intro u hu; obtain ⟨x, _, rfl⟩ := List.mem_map.1 hu; rfl) (by omega)).mono ?_; rintro e w1 ⟨v, rfl, hk, hr⟩; obtain ⟨ao1, cap2, ev, _, _⟩ := hr.shape; subst ev; have d1 := hk.cell c1 id; have d2 := hk.cell c2 id))
    go_wp2
    go_ret
    have hex : Ext w w1 := (Kp.refl w).drew.trans hk
    exact RetN.mk (hex.alloc _) ⟨w1.heap.size, .slice ao1 zs.length cap2, rfl, hex.size, (fun k hk' => hr.block k hk'), setAtRow_new HH.out.ord HH.out.inS hex hr HH.out.all hl _⟩
  · go_enter Try.func114, Try.ntmps114
    go_wp2
    go_region_held3 (fun w' => w'.cell? ⟨b, 0, none⟩ = some (.func f1 first1 cap1) ∧ w'.cell? ⟨b, 1, none⟩ = some (.slice ao zs.length cap)) (first | exact ⟨by assumption, by assumption⟩ | go_keep)
      (first | (go_at_call 139; refine (cloneRow_any (zs.map fun x => (Value.slice (x).1 (x).2.1 (x).2.2)) ao cap _ zs.length (by simp) (HC.out.drewN 1) (by intro u hu; obtain ⟨x, _, rfl⟩ := List.mem_map.1 hu; rfl) (by omega)).mono ?_; rintro e w1 ⟨v, rfl, hk, hr⟩; obtain ⟨ao1, cap2, ev, _, _⟩ := hr.shape; subst ev; have d1 := hk.cell c1 id; have d2 := hk.cell c2 id))
    go_wp2
    go_ret
    have hex : Ext w w1 := (Kp.refl w).drew.trans hk
    exact RetN.mk (hex.alloc _) ⟨w1.heap.size, .slice ao1 zs.length cap2, rfl, hex.size, (fun k hk' => hr.block k hk'), setAtRow_new HH.out.ord HH.out.inS hex hr HH.out.all hl _⟩

set_option maxRecDepth 100000 in
set_option maxHeartbeats 2000000 in
theorem setUnderRow_any (O : OrdLaw c) {vo : Value} {zs2 : List (Option Addr × Nat × Nat)} (h : SetAtRow Try.prog S w b ov iv tail te D c zs) (h2 : PtrSetRow Try.prog S w vo zs2) (hD : ∀ x ∈ zs2, D x) :
    Calls Try.prog 136 #[.pointer (some ⟨b, 0, none⟩), vo] w
      (RetN w fun w' v => ∃ b' iv', v = .pointer (some ⟨b', 0, none⟩) ∧ w.heap.size ≤ b' ∧ (∀ k, iv'.ownBlock = some k → w.heap.size ≤ k) ∧ SetAtRow Try.prog S w' b' ov iv' [] 66 D c (newS c zs2)) := by
  obtain ⟨c1, c2⟩ := h.cells
  have hl := h2.len
  have HH := Lib.hid h; clear h
  have H2 := Lib.hid h2; clear h2
  go_enter Try.func136, Try.ntmps136
  go_wp2
  go_region_held3 (fun w' => w'.cell? ⟨b, 0, none⟩ = some ov) (first | assumption | go_keep)
    (first
      | (go_at_call 135; refine (setItemsRow_ptr (H2.out.ext (Kp.refl w).drew)).mono ?_; rintro e w1 ⟨v, rfl, hk, hr⟩; obtain ⟨ao1, cap2, ev, hcc, _⟩ := hr.shape; subst ev; have d1 := hk.cell c1 id; have hex : Ext w w1 := (Kp.refl w).drew.trans hk)
      | (go_at_call 133; refine (newSetRow_any S _ ov ao1 zs2.length cap2 D c O zs2 rfl hcc (fun k hk => Nat.lt_of_lt_of_le (HH.out.inS k hk) hex.size) (HH.out.ord.same (hex.same HH.out.inS fun _ _ => id)) hD hl).mono ?_; rintro e w2 ⟨v2, rfl, hk2, b', iv', rfl, hb', hiv', hset⟩; have d2 := hk2.cell d1 id))
  go_wp2
  go_ret
  exact RetN.mk (hex.trans hk2) ⟨b', iv', rfl, Nat.le_trans hex.size hb', fun k h => Nat.le_trans hex.size (hiv' k h), hset⟩
end
end Go.Proofs.Ytfkhelihepbehaa
