/- Texts joined for a claim (SetOpsRow, SetCopyRow, SetPickRow, SetMeetRow, SetAtRow, IterRow, IterVRow, BinStr, IndexStr, GenStr, RowSet, RowQ, RowQ2, RowQ3, RowOwn, RowAll). -/
import Derived.Test.YtfkhelihepbehaaRo2
import Derived.Deep.RegionHeld3
import Derived.Deep.RegionWith
import Derived.Test.YtfkhelihepbehaaProg
import Derived.Laws.EntriesVeiled
/- tuple.Set at []string: Has, Below, At, Add, Drop, Copy. -/
namespace Go.Proofs.Ytfkhelihepbehaa
open Go.RowKit
set_option linter.unusedVariables false

section
variable {S : Nat → Prop} {w : World} {b : Nat} {ov iv : Value} {tail : List Value} {te : TypeId} {D : Option Addr × Nat × Nat → Prop} {c : Option Addr × Nat × Nat → Option Addr × Nat × Nat → Int} {zs : List (Option Addr × Nat × Nat)}

theorem setHasRow_nil (x : Value) (w : World) : Calls Try.prog 108 #[.pointer none, x] w (Ret (.bool false) w) := by
  go_enter Try.func108, Try.ntmps108
  go_wp2
  go_ret
  exact Ret.mk rfl
set_option maxRecDepth 100000 in
theorem setHasRow_any (O : OrdLaw c) (x : Option Addr × Nat × Nat) (hx : D x) (hs : Strict c zs) (h : SetAtRow Try.prog S w b ov iv tail te D c zs) :
    Calls Try.prog 108 #[.pointer (some ⟨b, 0, none⟩), (Value.slice (x).1 (x).2.1 (x).2.2)] w (RetF (fun _ => False) w fun w' v => v = .bool (isIn c zs x)) := by
  have HF := Lib.hid (setFindRow_any O x hx hs h); clear h
  go_enter Try.func108, Try.ntmps108
  go_wp2_with fail
  refine HF.out.mono ?_
  rintro e w1 ⟨v, rfl, hk, rfl⟩
  have HK := Lib.hid hk; clear hk
  go_wp2
  go_ret
  exact RetF.mk HK.out rfl
theorem setBelowRow_nil (x : Value) (w : World) : Calls Try.prog 109 #[.pointer none, x] w (Ret (.int .i64 0) w) := by
  go_enter Try.func109, Try.ntmps109
  go_wp2
  go_ret
  exact Ret.mk rfl
set_option maxRecDepth 100000 in
theorem setBelowRow_any (O : OrdLaw c) (x : Option Addr × Nat × Nat) (hx : D x) (hs : Strict c zs) (h : SetAtRow Try.prog S w b ov iv tail te D c zs) :
    Calls Try.prog 109 #[.pointer (some ⟨b, 0, none⟩), (Value.slice (x).1 (x).2.1 (x).2.2)] w (RetF (fun _ => False) w fun w' v => v = .int .i64 (below c zs x : Nat)) := by
  have HF := Lib.hid (setFindRow_any O x hx hs h); clear h
  go_enter Try.func109, Try.ntmps109
  go_wp2_with fail
  refine HF.out.mono ?_
  rintro e w1 ⟨v, rfl, hk, rfl⟩
  have HK := Lib.hid hk; clear hk
  go_wp2
  go_ret
  exact RetF.mk HK.out rfl
theorem setCopyRow_nil (w : World) : Calls Try.prog 114 #[.pointer none] w (Ret (.pointer none) w) := by
  go_enter Try.func114, Try.ntmps114
  go_wp2
  go_ret
  exact Ret.mk rfl
theorem setAddRow_nil (x : Value) (w : World) : Calls Try.prog 102 #[.pointer none, x] w (Ret (.bool false) w) := by
  go_enter Try.func102, Try.ntmps102
  go_wp2
  go_ret
  exact Ret.mk rfl
set_option maxRecDepth 100000 in
set_option maxHeartbeats 1000000 in
theorem setAddRow_any (O : OrdLaw c) (x : Option Addr × Nat × Nat) (hx : D x) (hs : Strict c zs) (h : SetAtRow Try.prog S w b ov iv tail te D c zs) (hl : zs.length + 1 ≤ 1048576 * 1048576) :
    Calls Try.prog 102 #[.pointer (some ⟨b, 0, none⟩), (Value.slice (x).1 (x).2.1 (x).2.2)] w
      (RetF (Owns b iv) w fun w' v => v = .bool (!isIn c zs x) ∧ ∃ iv', SetAtRow Try.prog S w' b ov iv' tail te D c (addS c zs x) ∧ ∀ k, iv'.ownBlock = some k → iv.ownBlock = some k ∨ w.heap.size ≤ k) := by
  have HF := Lib.hid (setFindRow_any O x hx hs h)
  have HH := Lib.hid h; clear h
  go_enter Try.func102, Try.ntmps102
  go_wp2_with fail
  refine HF.out.mono ?_
  rintro e w1 ⟨v, rfl, hk, rfl⟩
  have h1 := HH.out.ext hk
  have HK := Lib.hid hk; clear hk
  cases hin : isIn c zs x
  · obtain ⟨c1, c2⟩ := h1.cells
    have H1 := Lib.hid h1; clear h1
    go_wp2_with fail
    have hb := below_le (c := c) zs x
    have hbw : b < w1.heap.size := H1.out.blk.lt
    refine (insertRow_any (zs.map fun x => (Value.slice (x).1 (x).2.1 (x).2.2)) iv _ zs.length (below c zs x) ((Value.slice (x).1 (x).2.1 (x).2.2)) w1.heap.size 22 _ (by simp) (H1.out.row.alloc _) hb rfl (by intro u hu; obtain ⟨y, _, rfl⟩ := List.mem_map.1 hu; rfl) (Blk.new w1 [(Value.slice (x).1 (x).2.1 (x).2.2)] 22) (fun e => by
        have := H1.out.row
        obtain ⟨q1, ⟨q2, _⟩ | ⟨g, cap, rest, q2, _, q3, _⟩⟩ := this
        · rw [q2] at e; cases e
        · rw [q2] at e; have e' : g = w1.heap.size := Option.some.inj e
          have := q3.lt; omega) (by omega)).mono ?_
    rintro e w2 ⟨iv', rfl, hk2, hr⟩
    obtain ⟨ao', cap', eiv, _, _⟩ := hr.shape
    subst eiv
    have hk02 := ((Kp.refl (F := fun k => iv.ownBlock = some k) w1).alloc (.cells #[(Value.slice (x).1 (x).2.1 (x).2.2)] 22)).trans hk2
    have hB2 := H1.out.blk.kp hk02 H1.out.apart
    have f1 := hB2.free 1
    have d1 : w2.cell? ⟨b, 1, none⟩ = some iv := by rw [hB2.cell']; rfl
    have HR := Lib.hid (And.intro hk02 (And.intro hB2 hr))
    clear hk02 hB2 hr hk2 c1 c2
    go_wp2
    go_ret
    obtain ⟨hk02, hB2, hr⟩ := HR.out
    have h1 := H1.out
    have hz : addS c zs x = zs.take (below c zs x) ++ x :: zs.drop (below c zs x) := by unfold addS; rw [hin]; rfl
    have hlz : (addS c zs x).length = zs.length + 1 := by rw [addS_len, hin]; rfl
    have hown : ∀ k, (Value.slice ao' (zs.length + 1) cap').ownBlock = some k → iv.ownBlock = some k ∨ w.heap.size ≤ k := fun k hk => by
      rcases hr.block k hk with hh | hh
      · exact .inl hh
      · have := HK.out.size; simp only [alloc_size] at hh; exact .inr (by omega)
    have hownb : (Value.slice ao' (zs.length + 1) cap').ownBlock ≠ some b := fun hk => by
      rcases hr.block b hk with hh | hh
      · exact h1.apart hh
      · simp only [alloc_size] at hh; omega
    have hK : Kp (Owns b iv) w w2 := ((Ext.kp HK.out).trans (hk02.mono fun k _ hk => .inr hk))
    refine RetF.mk (hK.setCell (fun _ => .inl rfl) _) ⟨by rw [hin]; rfl, .slice ao' (zs.length + 1) cap', ?_, hown⟩
    refine setAtRow_store hB2 (M := fun _ => True) ?_ hownb (fun k hk => Nat.lt_of_lt_of_le (h1.inS k hk) hk02.size) (fun k hk hS => ?_) (h1.ord.same (hk02.same h1.inS fun k hk hk' => h1.notS k (.inr hk') hk)) (fun y hy => ?_) (by rw [hlz]; exact hl)
    · rw [hlz, hz]
      have := hr.mono (M' := fun _ => True) fun _ _ => trivial
      simpa using this
    · rcases hk with hk | hk
      · exact h1.notS k (.inl hk) hS
      · rcases hr.block k hk with hh | hh
        · exact h1.notS k (.inr hh) hS
        · have := h1.inS k hS; simp only [alloc_size] at hh; omega
    · rcases mem_addS.1 hy with hy | ⟨rfl, _⟩
      · exact h1.all y hy
      · exact hx
  · have H1 := Lib.hid h1; clear h1
    go_wp2
    go_ret
    have hz : addS c zs x = zs := by unfold addS; rw [hin]; rfl
    refine RetF.mk (Ext.kp HK.out) ⟨by rw [hin]; rfl, iv, ?_, fun k hk => .inl hk⟩
    rw [hz]; exact H1.out
theorem setDropRow_nil (x : Value) (w : World) : Calls Try.prog 107 #[.pointer none, x] w (Ret (.bool false) w) := by
  go_enter Try.func107, Try.ntmps107
  go_wp2
  go_ret
  exact Ret.mk rfl
set_option maxRecDepth 100000 in
set_option maxHeartbeats 1000000 in
theorem setDropRow_any (O : OrdLaw c) (x : Option Addr × Nat × Nat) (hx : D x) (hs : Strict c zs) (h : SetAtRow Try.prog S w b ov iv tail te D c zs) :
    Calls Try.prog 107 #[.pointer (some ⟨b, 0, none⟩), (Value.slice (x).1 (x).2.1 (x).2.2)] w
      (RetF (Owns b iv) w fun w' v => v = .bool (isIn c zs x) ∧ ∃ iv', SetAtRow Try.prog S w' b ov iv' tail te D c (dropS c zs x) ∧ iv'.ownBlock = iv.ownBlock) := by
  have HF := Lib.hid (setFindRow_any O x hx hs h)
  have HH := Lib.hid h; clear h
  go_enter Try.func107, Try.ntmps107
  go_wp2_with fail
  refine HF.out.mono ?_
  rintro e w1 ⟨v, rfl, hk, rfl⟩
  have h1 := HH.out.ext hk
  have HK := Lib.hid hk; clear hk
  cases hin : isIn c zs x
  · have H1 := Lib.hid h1; clear h1
    go_wp2
    go_ret
    have hz : dropS c zs x = zs := by unfold dropS; rw [hin]; rfl
    refine RetF.mk (Ext.kp HK.out) ⟨by rw [hin]; rfl, iv, ?_, rfl⟩
    rw [hz]; exact H1.out
  · obtain ⟨c1, c2⟩ := h1.cells
    have H1 := Lib.hid h1; clear h1
    have hb : below c zs x < zs.length := by
      obtain ⟨y, hy, _⟩ := (hs.there O x).1 hin
      exact (List.getElem?_eq_some_iff.1 hy).1
    have hlen := H1.out.len
    have hw1 : IntKind.i64.wrap (((below c zs x : Nat) : Int) + 1) = ((below c zs x : Nat) : Int) + 1 := IntWalk.i64_in _ (by omega)
    go_wp2_with fail
    refine (deleteRow_any (zs.map fun x => (Value.slice (x).1 (x).2.1 (x).2.2)) iv _ zs.length (below c zs x) w1 (by simp) H1.out.row hb (by intro u hu; obtain ⟨y, _, rfl⟩ := List.mem_map.1 hu; rfl) (by omega)).mono ?_
    rintro e w2 ⟨iv', rfl, hk2, hov, hr⟩
    obtain ⟨ao', cap', eiv, _, _⟩ := hr.shape
    subst eiv
    have hB2 := H1.out.blk.kp hk2 H1.out.apart
    have f1 := hB2.free 1
    have d1 : w2.cell? ⟨b, 1, none⟩ = some iv := by rw [hB2.cell']; rfl
    have HR := Lib.hid (And.intro hk2 (And.intro hB2 (And.intro hov hr)))
    clear hB2 hr hk2 hov c1 c2
    go_wp2
    go_ret
    obtain ⟨hk2, hB2, hov, hr⟩ := HR.out
    have h1 := H1.out
    have hz : dropS c zs x = zs.take (below c zs x) ++ zs.drop (below c zs x + 1) := by unfold dropS; rw [hin]; rfl
    have hlz : (dropS c zs x).length = zs.length - 1 := by rw [hz]; simp; omega
    have hK : Kp (Owns b iv) w w2 := (Ext.kp HK.out).trans (hk2.mono fun k _ hk => .inr hk)
    refine RetF.mk (hK.setCell (fun _ => .inl rfl) _) ⟨by rw [hin]; rfl, .slice ao' (zs.length - 1) cap', ?_, hov⟩
    refine setAtRow_store hB2 (M := fun _ => True) ?_ (by rw [hov]; exact h1.apart) (fun k hk => Nat.lt_of_lt_of_le (h1.inS k hk) hk2.size) (fun k hk hS => ?_) (h1.ord.same (hk2.same h1.inS fun k hk hk' => h1.notS k (.inr hk') hk)) (fun y hy => ?_) (by rw [hlz]; omega)
    · rw [hlz, hz]
      have := hr.mono (M' := fun _ => True) fun _ _ => trivial
      simpa using this
    · rcases hk with hk | hk
      · exact h1.notS k (.inl hk) hS
      · rw [hov] at hk; exact h1.notS k (.inr hk) hS
    · rw [hz] at hy
      rcases List.mem_append.1 hy with hy | hy
      · exact h1.all y (List.mem_of_mem_take hy)
      · exact h1.all y (List.mem_of_mem_drop hy)
end
end Go.Proofs.Ytfkhelihepbehaa

/- tuple.Set at []string: Copy, At, under: what makes sets out of sets. -/
namespace Go.Proofs.Ytfkhelihepbehaa
open Go.RowKit
set_option linter.unusedVariables false

/-- A set that a pointer names; nil: no items. -/
def PtrSetRow (P : Program) (S : Nat → Prop) (w : World) (v : Value) (zs : List (Option Addr × Nat × Nat)) : Prop :=
  (v = .pointer none ∧ zs = []) ∨ ∃ b ov iv tail te D c, v = .pointer (some ⟨b, 0, none⟩) ∧ SetAtRow P S w b ov iv tail te D c zs
theorem PtrSetRow.ext {P : Program} {S : Nat → Prop} {w w' : World} {v : Value} {zs : List (Option Addr × Nat × Nat)} (h : PtrSetRow P S w v zs) (hk : Ext w w') : PtrSetRow P S w' v zs := by
  rcases h with h | ⟨b, ov, iv, tail, te, D, c, h1, h2⟩
  · exact .inl h
  · exact .inr ⟨b, ov, iv, tail, te, D, c, h1, h2.ext hk⟩
theorem PtrSetRow.len {P : Program} {S : Nat → Prop} {w : World} {v : Value} {zs : List (Option Addr × Nat × Nat)} (h : PtrSetRow P S w v zs) : zs.length ≤ 1048576 * 1048576 := by
  rcases h with ⟨_, rfl⟩ | ⟨b, ov, iv, tail, te, D, c, h1, h2⟩
  · simp
  · exact h2.len

theorem setItemsRow_ptr {S : Nat → Prop} {w : World} {v : Value} {zs : List (Option Addr × Nat × Nat)} (h : PtrSetRow Try.prog S w v zs) :
    Calls Try.prog 135 #[v] w (RetN w fun w' r => Row w' 22 1 r zs.length (zs.map fun x => (Value.slice (x).1 (x).2.1 (x).2.2)) (New w)) := by
  rcases h with ⟨rfl, rfl⟩ | ⟨b, ov, iv, tail, te, D, c, rfl, h2⟩
  · refine (setItemsRow_nil w).mono ?_
    rintro e w' ⟨rfl, rfl⟩
    exact RetN.mk (Kp.refl _) (Row.nil _ _ _ _)
  · exact setItemsRow_any h2

theorem OrdVRow.form {P : Program} {S : Nat → Prop} {w0 : World} {ov : Value} {D : Option Addr × Nat × Nat → Prop} {c : Option Addr × Nat × Nat → Option Addr × Nat × Nat → Int} (h : OrdVRow P S w0 ov D c) : ov = .nilFunc ∨ ∃ f first cap, ov = .func f first cap := by
  rcases h with ⟨h, _⟩ | ⟨f, first, cap, h, _⟩
  · exact .inl h
  · exact .inr ⟨_, _, _, h⟩

theorem setAtRow_new {P : Program} {S : Nat → Prop} {w w1 : World} {ov iv : Value} {D : Option Addr × Nat × Nat → Prop} {c : Option Addr × Nat × Nat → Option Addr × Nat × Nat → Int} {zs : List (Option Addr × Nat × Nat)} {M : Nat → Prop} (ho : OrdVRow P S w ov D c) (hS : ∀ k, S k → k < w.heap.size) (hex : Ext w w1)
    (hr : Row w1 22 1 iv zs.length (zs.map fun x => (Value.slice (x).1 (x).2.1 (x).2.2)) M) (hD : ∀ x ∈ zs, D x) (hl : zs.length ≤ 1048576 * 1048576) (te : TypeId) (hM : ∀ k, M k → w.heap.size ≤ k := by exact fun k h => h) :
    SetAtRow P S (w1.alloc (.cells #[ov, iv] te)) w1.heap.size ov iv [] te D c zs := by
  refine ⟨Blk.new w1 [ov, iv] te, (hr.own).alloc _, fun h => by have := hr.lt _ h; omega, fun k h => Nat.lt_of_lt_of_le (hS k h) (hex.alloc _).size, fun k h hs => ?_, ho.same ((hex.alloc _).same hS fun _ _ => id), hD, hl⟩
  have h1 := hS k hs
  have h2 := hex.size
  rcases h with h | h
  · omega
  · have := hM k (hr.block k h); omega

section
variable {S : Nat → Prop} {w : World} {b : Nat} {ov iv : Value} {tail : List Value} {te : TypeId} {D : Option Addr × Nat × Nat → Prop} {c : Option Addr × Nat × Nat → Option Addr × Nat × Nat → Int} {zs : List (Option Addr × Nat × Nat)}

set_option maxRecDepth 100000 in
set_option maxHeartbeats 2000000 in
theorem setCopyRow_any (h : SetAtRow Try.prog S w b ov iv tail te D c zs) :
    Calls Try.prog 114 #[.pointer (some ⟨b, 0, none⟩)] w
      (RetN w fun w' v => ∃ b' iv', v = .pointer (some ⟨b', 0, none⟩) ∧ w.heap.size ≤ b' ∧ (∀ k, iv'.ownBlock = some k → w.heap.size ≤ k) ∧ SetAtRow Try.prog S w' b' ov iv' [] 66 D c zs) := by
  obtain ⟨c1, c2⟩ := h.cells
  obtain ⟨ao, cap, rfl, hc, _⟩ := h.row.shape
  have hform := h.ord.form
  have hl := h.len
  have HC := Lib.hid hc; clear hc
  have HH := Lib.hid h; clear h
  rcases hform with rfl | ⟨f1, first1, cap1, rfl⟩
  · go_enter Try.func114, Try.ntmps114
    go_wp2
    go_region_held3 (fun w' => w'.cell? ⟨b, 0, none⟩ = some .nilFunc ∧ w'.cell? ⟨b, 1, none⟩ = some (.slice ao zs.length cap)) (first | exact ⟨by assumption, by assumption⟩ | go_keep)
      (first | (go_at_call 139; refine (cloneRow_any (zs.map fun x => (Value.slice (x).1 (x).2.1 (x).2.2)) ao cap _ zs.length (by simp) (HC.out.drewN 1) (by intro u hu; obtain ⟨x, _, rfl⟩ := List.mem_map.1 hu; rfl) (by omega)).mono ?_; rintro e w1 ⟨v, rfl, hk, hr⟩; obtain ⟨ao1, cap2, ev, _, _⟩ := hr.shape; subst ev; have d1 := hk.cell c1 id; have d2 := hk.cell c2 id))
    go_wp2
    go_ret
    have hex : Ext w w1 := (Kp.refl w).drew.trans hk
    exact RetN.mk (hex.alloc _) ⟨w1.heap.size, .slice ao1 zs.length cap2, rfl, hex.size, (fun k hk' => hr.block k hk'), setAtRow_new HH.out.ord HH.out.inS hex hr HH.out.all hl _⟩
  · go_enter Try.func114, Try.ntmps114
    go_wp2
    go_region_held3 (fun w' => w'.cell? ⟨b, 0, none⟩ = some (.func f1 first1 cap1) ∧ w'.cell? ⟨b, 1, none⟩ = some (.slice ao zs.length cap)) (first | exact ⟨by assumption, by assumption⟩ | go_keep)
      (first | (go_at_call 139; refine (cloneRow_any (zs.map fun x => (Value.slice (x).1 (x).2.1 (x).2.2)) ao cap _ zs.length (by simp) (HC.out.drewN 1) (by intro u hu; obtain ⟨x, _, rfl⟩ := List.mem_map.1 hu; rfl) (by omega)).mono ?_; rintro e w1 ⟨v, rfl, hk, hr⟩; obtain ⟨ao1, cap2, ev, _, _⟩ := hr.shape; subst ev; have d1 := hk.cell c1 id; have d2 := hk.cell c2 id))
    go_wp2
    go_ret
    have hex : Ext w w1 := (Kp.refl w).drew.trans hk
    exact RetN.mk (hex.alloc _) ⟨w1.heap.size, .slice ao1 zs.length cap2, rfl, hex.size, (fun k hk' => hr.block k hk'), setAtRow_new HH.out.ord HH.out.inS hex hr HH.out.all hl _⟩

set_option maxRecDepth 100000 in
set_option maxHeartbeats 2000000 in
theorem setUnderRow_any (O : OrdLaw c) {vo : Value} {zs2 : List (Option Addr × Nat × Nat)} (h : SetAtRow Try.prog S w b ov iv tail te D c zs) (h2 : PtrSetRow Try.prog S w vo zs2) (hD : ∀ x ∈ zs2, D x) :
    Calls Try.prog 136 #[.pointer (some ⟨b, 0, none⟩), vo] w
      (RetN w fun w' v => ∃ b' iv', v = .pointer (some ⟨b', 0, none⟩) ∧ w.heap.size ≤ b' ∧ (∀ k, iv'.ownBlock = some k → w.heap.size ≤ k) ∧ SetAtRow Try.prog S w' b' ov iv' [] 66 D c (newS c zs2)) := by
  obtain ⟨c1, c2⟩ := h.cells
  have hl := h2.len
  have HH := Lib.hid h; clear h
  have H2 := Lib.hid h2; clear h2
  go_enter Try.func136, Try.ntmps136
  go_wp2
  go_region_held3 (fun w' => w'.cell? ⟨b, 0, none⟩ = some ov) (first | assumption | go_keep)
    (first
      | (go_at_call 135; refine (setItemsRow_ptr (H2.out.ext (Kp.refl w).drew)).mono ?_; rintro e w1 ⟨v, rfl, hk, hr⟩; obtain ⟨ao1, cap2, ev, hcc, _⟩ := hr.shape; subst ev; have d1 := hk.cell c1 id; have hex : Ext w w1 := (Kp.refl w).drew.trans hk)
      | (go_at_call 133; refine (newSetRow_any S _ ov ao1 zs2.length cap2 D c O zs2 rfl hcc (fun k hk => Nat.lt_of_lt_of_le (HH.out.inS k hk) hex.size) (HH.out.ord.same (hex.same HH.out.inS fun _ _ => id)) hD hl).mono ?_; rintro e w2 ⟨v2, rfl, hk2, b', iv', rfl, hb', hiv', hset⟩; have d2 := hk2.cell d1 id))
  go_wp2
  go_ret
  exact RetN.mk (hex.trans hk2) ⟨b', iv', rfl, Nat.le_trans hex.size hb', fun k h => Nat.le_trans hex.size (hiv' k h), hset⟩
end
end Go.Proofs.Ytfkhelihepbehaa

/- tuple.Set at []string: pick, Minus, Meet, Same. -/
namespace Go.Proofs.Ytfkhelihepbehaa
open Go.RowKit
set_option linter.unusedVariables false

/-- A test that pick may ask: of any of zs, in every world in which all old blocks are as they were. -/
def TestOnRow (P : Program) (f : FuncId) (first captured : Array Value) (w0 : World) (zs : List (Option Addr × Nat × Nat)) (p : Option Addr × Nat × Nat → Bool) : Prop :=
  (∀ args w, (callFunc f args).run P w = .ok (Next.enter f args) w) ∧ ∀ w, Ext w0 w → ∀ x ∈ zs, Calls P f (first.push ((Value.slice (x).1 (x).2.1 (x).2.2)) ++ captured) w fun e w' => e = .returned (.bool (p x)) ∧ Ext w w'

/-- Between two rounds of pick. -/
def PickAtRow (n : Nat) (w0 : World) (b : Nat) (ov : Value) (te : TypeId) (p : Option Addr × Nat × Nat → Bool) (zs : List (Option Addr × Nat × Nat)) (kv : Value) (w : World) : Prop :=
  ∃ i : Nat, i ≤ n ∧ kv = .int .i64 i ∧ Ext w0 w ∧ ∃ rv, Blk w b [ov, rv] te ∧ Row w 22 1 rv ((zs.take i).filter p).length (((zs.take i).filter p).map fun x => (Value.slice (x).1 (x).2.1 (x).2.2)) (fun g => w0.heap.size ≤ g ∧ g ≠ b)

section
variable {S : Nat → Prop} {w : World} {b : Nat} {ov iv : Value} {tail : List Value} {te : TypeId} {D : Option Addr × Nat × Nat → Prop} {c : Option Addr × Nat × Nat → Option Addr × Nat × Nat → Int} {zs : List (Option Addr × Nat × Nat)}

set_option maxRecDepth 100000 in
set_option maxHeartbeats 4000000 in
theorem setPickRow_any (h : SetAtRow Try.prog S w b ov iv tail te D c zs) (f : FuncId) (first captured : Array Value) (p : Option Addr × Nat × Nat → Bool) (hp : TestOnRow Try.prog f first captured w zs p) :
    Calls Try.prog 137 #[.pointer (some ⟨b, 0, none⟩), .func (Fn.func f) first captured] w
      (RetN w fun w' v => ∃ b' iv', v = .pointer (some ⟨b', 0, none⟩) ∧ w.heap.size ≤ b' ∧ (∀ k, iv'.ownBlock = some k → w.heap.size ≤ k) ∧ SetAtRow Try.prog S w' b' ov iv' [] 66 D c (zs.filter p)) := by
  obtain ⟨c1, c2⟩ := h.cells
  obtain ⟨ao, cap, rfl, hc, hcap⟩ := h.row.shape
  have hform := h.ord.form
  have hl := h.len
  obtain ⟨n, en⟩ : ∃ n, n = zs.length := ⟨_, rfl⟩
  rw [← en] at c2 hl hcap
  have hent := hp.1
  have HP := Lib.hid hp.2; clear hp
  have HC := Lib.hid hc; clear hc
  have EN := Lib.hid en
  have HH := Lib.hid h; clear h
  have hb0 : b < w.heap.size := HH.out.blk.lt
  clear en
  rcases hform with rfl | ⟨f1, first1, cap1, rfl⟩
  · go_enter Try.func137, Try.ntmps137
    go_wp2
    obtain ⟨b', eb⟩ : ∃ b', b' = w.heap.size := ⟨_, rfl⟩
    rw [← eb]
    have hbw : w.heap.size ≤ b' := by omega
    have EB := Lib.hid eb; clear eb
    go_loopw [19] (PickAtRow n w b' .nilFunc 66 p zs) (fun k _ => n - (intOf k).toNat)
    case atStart => exact ⟨0, Nat.zero_le _, rfl, (Kp.refl w).alloc _, .slice none 0 0, by rw [EB.out]; exact Blk.new w [_, _] _, by simpa using Row.nil _ _ _ _⟩
    case round =>
      obtain ⟨i, hi, rfl, hex, rv, hB, hr⟩ := hrel
      by_cases hlt : i < n
      · obtain ⟨x, ex⟩ : ∃ x, x = zs[i]'(by have := EN.out; omega) := ⟨_, rfl⟩
        have hx : zs[i]? = some x := by rw [ex]; exact List.getElem?_eq_getElem _
        have hmem : x ∈ zs := List.mem_of_getElem? hx
        obtain ⟨g1, o1, eao, c3⟩ := (HC.out.ext hex) i ((Value.slice (x).1 (x).2.1 (x).2.2)) (by rw [List.getElem?_map, hx]; rfl)
        subst eao
        have hstep := pick_step p zs i x hx
        have HX := Lib.hid (And.intro hx hstep); clear hx hstep ex
        obtain ⟨ao2, cap2, erv, _, _⟩ := hr.shape
        subst erv
        have hcall := HP.out _ hex x hmem
        cases hpx : p x
        · rw [hpx] at hcall
          have HPX := Lib.hid hpx; clear hpx
          have HB := Lib.hid (And.intro hB hr); clear hB hr
          go_wp2_with fail
          refine hcall.mono ?_
          clear hcall
          rintro e w1 ⟨rfl, hk1⟩
          have hex1 := hex.trans hk1
          have HB1 := Lib.hid (And.intro (HB.out.1.ext hk1) (HB.out.2.ext hk1))
          clear hk1 c3
          go_wp2
          go_roundw
          case rel =>
            refine ⟨i + 1, by omega, by first | rfl | (congr 1; done) | (congr 1; omega), hex1, _, HB1.out.1, ?_⟩
            rw [HX.out.2, HPX.out]
            simpa using HB1.out.2
          case measure => simp [intOf]; omega
        · rw [hpx] at hcall
          have HPX := Lib.hid hpx; clear hpx
          have HB := Lib.hid (And.intro hB hr); clear hB hr
          go_wp2_with fail
          refine hcall.mono ?_
          clear hcall
          rintro e w1 ⟨rfl, hk1⟩
          have hex1 := hex.trans hk1
          have hB1 := HB.out.1.ext hk1
          have hr1 := HB.out.2.ext hk1
          have d1 : w1.cell? ⟨b', 1, none⟩ = some (.slice ao2 ((zs.take i).filter p).length cap2) := by rw [hB1.cell']; rfl
          have hbl : b' < w1.heap.size := hB1.lt
          have hfl := List.length_filter_le p (zs.take i)
          have htl : (zs.take i).length ≤ n := by have := EN.out; simp; omega
          have HB1 := Lib.hid (And.intro hB1 hr1)
          clear hB1 hr1 hk1 c3
          go_wp2_with (first | (at_builtin; refine Halted.out ?_))
          refine Halted.mk (wp_app elemRow rfl _ _ rfl (F := fun _ => False) (w0 := w) (hex1.alloc (.cells #[(Value.slice (x).1 (x).2.1 (x).2.2)] 22)) (M := fun g => w.heap.size ≤ g ∧ g ≠ b') (fun g h h' => by omega) (fun g h => by rw [alloc_size] at h; have := hex1.size; exact ⟨by omega, by omega⟩) rfl (HB1.out.2.alloc _) rfl rfl (CellsAt.one w1 ((Value.slice (x).1 (x).2.1 (x).2.2)) 22) (by simp; rfl) (by omega) (by unfold maxLen; omega) ?_)
          intro v1 w2 hr2 hk2 hk3 _
          obtain ⟨ao3, cap3, ev1, _, _⟩ := hr2.shape
          subst ev1
          have hB2 : Blk w2 b' [_, .slice ao2 ((zs.take i).filter p).length cap2] 66 := (HB1.out.1.alloc _).kp hk3 (fun e => (HB1.out.2.block _ e).2 rfl)
          have d2 : w2.cell? ⟨b', 1, none⟩ = some (.slice ao2 ((zs.take i).filter p).length cap2) := by rw [hB2.cell']; rfl
          have f2 := hB2.free 1
          have HB2 := Lib.hid (And.intro hB2 hr2)
          clear hB2 hr2 hk3 d1
          go_wp2
          go_roundw
          case rel =>
            obtain ⟨hB2, hr2⟩ := HB2.out
            refine ⟨i + 1, by omega, by first | rfl | (congr 1; done) | (congr 1; omega), hk2.setCell (fun h => by exfalso; simp only at h; omega) _, _, hB2.set 1 _, ?_⟩
            rw [HX.out.2, HPX.out]
            have hr3 := hr2.kp (Kp.setCell (F := fun k => k = b') (Kp.refl w2) (p := ⟨b', 1, none⟩) (fun _ => rfl) (.slice ao3 (((zs.take i).filter p).length + 1) cap3)) (fun g h => h.2)
            simpa using hr3
          case measure => simp [intOf]; omega
      · go_wp2
        go_ret
        have hi' : zs.take i = zs := List.take_of_length_le (by have := EN.out; omega)
        rw [hi'] at hr
        have hle := List.length_filter_le p zs
        refine RetN.mk hex ⟨b', rv, rfl, by omega, (fun k hk => (hr.block k hk).1), hB, hr.own, (fun e => (hr.block _ e).2 rfl), (fun k h => Nat.lt_of_lt_of_le (HH.out.inS k h) hex.size), (fun k h hs => ?_), HH.out.ord.same (hex.same HH.out.inS fun _ _ => id), (fun x hx => HH.out.all x (List.mem_filter.1 hx).1), by have := EN.out; omega⟩
        have h1 := HH.out.inS k hs
        rcases h with h | h
        · omega
        · have := (hr.block k h).1; omega
  · go_enter Try.func137, Try.ntmps137
    go_wp2
    obtain ⟨b', eb⟩ : ∃ b', b' = w.heap.size := ⟨_, rfl⟩
    rw [← eb]
    have hbw : w.heap.size ≤ b' := by omega
    have EB := Lib.hid eb; clear eb
    go_loopw [19] (PickAtRow n w b' (.func f1 first1 cap1) 66 p zs) (fun k _ => n - (intOf k).toNat)
    case atStart => exact ⟨0, Nat.zero_le _, rfl, (Kp.refl w).alloc _, .slice none 0 0, by rw [EB.out]; exact Blk.new w [_, _] _, by simpa using Row.nil _ _ _ _⟩
    case round =>
      obtain ⟨i, hi, rfl, hex, rv, hB, hr⟩ := hrel
      by_cases hlt : i < n
      · obtain ⟨x, ex⟩ : ∃ x, x = zs[i]'(by have := EN.out; omega) := ⟨_, rfl⟩
        have hx : zs[i]? = some x := by rw [ex]; exact List.getElem?_eq_getElem _
        have hmem : x ∈ zs := List.mem_of_getElem? hx
        obtain ⟨g1, o1, eao, c3⟩ := (HC.out.ext hex) i ((Value.slice (x).1 (x).2.1 (x).2.2)) (by rw [List.getElem?_map, hx]; rfl)
        subst eao
        have hstep := pick_step p zs i x hx
        have HX := Lib.hid (And.intro hx hstep); clear hx hstep ex
        obtain ⟨ao2, cap2, erv, _, _⟩ := hr.shape
        subst erv
        have hcall := HP.out _ hex x hmem
        cases hpx : p x
        · rw [hpx] at hcall
          have HPX := Lib.hid hpx; clear hpx
          have HB := Lib.hid (And.intro hB hr); clear hB hr
          go_wp2_with fail
          refine hcall.mono ?_
          clear hcall
          rintro e w1 ⟨rfl, hk1⟩
          have hex1 := hex.trans hk1
          have HB1 := Lib.hid (And.intro (HB.out.1.ext hk1) (HB.out.2.ext hk1))
          clear hk1 c3
          go_wp2
          go_roundw
          case rel =>
            refine ⟨i + 1, by omega, by first | rfl | (congr 1; done) | (congr 1; omega), hex1, _, HB1.out.1, ?_⟩
            rw [HX.out.2, HPX.out]
            simpa using HB1.out.2
          case measure => simp [intOf]; omega
        · rw [hpx] at hcall
          have HPX := Lib.hid hpx; clear hpx
          have HB := Lib.hid (And.intro hB hr); clear hB hr
          go_wp2_with fail
          refine hcall.mono ?_
          clear hcall
          rintro e w1 ⟨rfl, hk1⟩
          have hex1 := hex.trans hk1
          have hB1 := HB.out.1.ext hk1
          have hr1 := HB.out.2.ext hk1
          have d1 : w1.cell? ⟨b', 1, none⟩ = some (.slice ao2 ((zs.take i).filter p).length cap2) := by rw [hB1.cell']; rfl
          have hbl : b' < w1.heap.size := hB1.lt
          have hfl := List.length_filter_le p (zs.take i)
          have htl : (zs.take i).length ≤ n := by have := EN.out; simp; omega
          have HB1 := Lib.hid (And.intro hB1 hr1)
          clear hB1 hr1 hk1 c3
          go_wp2_with (first | (at_builtin; refine Halted.out ?_))
          refine Halted.mk (wp_app elemRow rfl _ _ rfl (F := fun _ => False) (w0 := w) (hex1.alloc (.cells #[(Value.slice (x).1 (x).2.1 (x).2.2)] 22)) (M := fun g => w.heap.size ≤ g ∧ g ≠ b') (fun g h h' => by omega) (fun g h => by rw [alloc_size] at h; have := hex1.size; exact ⟨by omega, by omega⟩) rfl (HB1.out.2.alloc _) rfl rfl (CellsAt.one w1 ((Value.slice (x).1 (x).2.1 (x).2.2)) 22) (by simp; rfl) (by omega) (by unfold maxLen; omega) ?_)
          intro v1 w2 hr2 hk2 hk3 _
          obtain ⟨ao3, cap3, ev1, _, _⟩ := hr2.shape
          subst ev1
          have hB2 : Blk w2 b' [_, .slice ao2 ((zs.take i).filter p).length cap2] 66 := (HB1.out.1.alloc _).kp hk3 (fun e => (HB1.out.2.block _ e).2 rfl)
          have d2 : w2.cell? ⟨b', 1, none⟩ = some (.slice ao2 ((zs.take i).filter p).length cap2) := by rw [hB2.cell']; rfl
          have f2 := hB2.free 1
          have HB2 := Lib.hid (And.intro hB2 hr2)
          clear hB2 hr2 hk3 d1
          go_wp2
          go_roundw
          case rel =>
            obtain ⟨hB2, hr2⟩ := HB2.out
            refine ⟨i + 1, by omega, by first | rfl | (congr 1; done) | (congr 1; omega), hk2.setCell (fun h => by exfalso; simp only at h; omega) _, _, hB2.set 1 _, ?_⟩
            rw [HX.out.2, HPX.out]
            have hr3 := hr2.kp (Kp.setCell (F := fun k => k = b') (Kp.refl w2) (p := ⟨b', 1, none⟩) (fun _ => rfl) (.slice ao3 (((zs.take i).filter p).length + 1) cap3)) (fun g h => h.2)
            simpa using hr3
          case measure => simp [intOf]; omega
      · go_wp2
        go_ret
        have hi' : zs.take i = zs := List.take_of_length_le (by have := EN.out; omega)
        rw [hi'] at hr
        have hle := List.length_filter_le p zs
        refine RetN.mk hex ⟨b', rv, rfl, by omega, (fun k hk => (hr.block k hk).1), hB, hr.own, (fun e => (hr.block _ e).2 rfl), (fun k h => Nat.lt_of_lt_of_le (HH.out.inS k h) hex.size), (fun k h hs => ?_), HH.out.ord.same (hex.same HH.out.inS fun _ _ => id), (fun x hx => HH.out.all x (List.mem_filter.1 hx).1), by have := EN.out; omega⟩
        have h1 := HH.out.inS k hs
        rcases h with h | h
        · omega
        · have := (hr.block k h).1; omega
end
end Go.Proofs.Ytfkhelihepbehaa

/- tuple.Set at []string: Minus, Meet, Same, Union. -/
namespace Go.Proofs.Ytfkhelihepbehaa
open Go.RowKit
set_option linter.unusedVariables false

section
variable {S : Nat → Prop} {w : World} {b : Nat} {ov iv : Value} {tail : List Value} {te : TypeId} {D : Option Addr × Nat × Nat → Prop} {c : Option Addr × Nat × Nat → Option Addr × Nat × Nat → Int} {zs : List (Option Addr × Nat × Nat)}

set_option maxRecDepth 100000 in
theorem setMinusFnRow_any (O : OrdLaw c) (bu : Nat) (eu : TypeId) (x : Option Addr × Nat × Nat) (hx : D x) (hs : Strict c zs) (h : SetAtRow Try.prog S w b ov iv tail te D c zs) (hB : Blk w bu [.pointer (some ⟨b, 0, none⟩)] eu) :
    Calls Try.prog 138 #[(Value.slice (x).1 (x).2.1 (x).2.2), .pointer (some ⟨bu, 0, none⟩)] w (fun e w' => e = .returned (.bool (!isIn c zs x)) ∧ Ext w w') := by
  have HF := Lib.hid (setHasRow_any O x hx hs h); clear h
  have c1 : w.cell? ⟨bu, 0, none⟩ = some (.pointer (some ⟨b, 0, none⟩)) := by rw [hB.cell']; rfl
  clear hB
  go_enter Try.func138, Try.ntmps138
  go_wp2_with fail
  refine HF.out.mono ?_
  rintro e w1 ⟨v, rfl, hk, rfl⟩
  have HK := Lib.hid hk; clear hk
  go_wp2
  go_ret
  exact ⟨rfl, HK.out⟩
theorem setMinusRow_nil (v : Value) (w : World) : Calls Try.prog 112 #[.pointer none, v] w (Ret (.pointer none) w) := by
  go_enter Try.func112, Try.ntmps112
  go_wp2
  go_ret
  exact Ret.mk rfl
set_option maxRecDepth 100000 in
set_option maxHeartbeats 2000000 in
theorem setMinusRow_any (O : OrdLaw c) {vo : Value} {zs2 : List (Option Addr × Nat × Nat)} (h : SetAtRow Try.prog S w b ov iv tail te D c zs) (h2 : PtrSetRow Try.prog S w vo zs2) (hD : ∀ x ∈ zs2, D x) :
    Calls Try.prog 112 #[.pointer (some ⟨b, 0, none⟩), vo] w
      (RetN w fun w' v => ∃ b' iv', v = .pointer (some ⟨b', 0, none⟩) ∧ w.heap.size ≤ b' ∧ (∀ k, iv'.ownBlock = some k → w.heap.size ≤ k) ∧ SetAtRow Try.prog S w' b' ov iv' [] 66 D c (zs.filter fun x => !isIn c (newS c zs2) x)) := by
  have HU := Lib.hid (setUnderRow_any O h h2 hD)
  have HH := Lib.hid h; clear h h2
  go_enter Try.func112, Try.ntmps112
  go_wp2_with fail
  refine HU.out.mono ?_
  rintro e w1 ⟨v, rfl, hk, b1, iv1, rfl, hb1, hiv1, hset⟩
  have HS := Lib.hid (And.intro hk hset); clear hk hset
  go_wp2_with fail
  have hent : ∀ args w, (callFunc 138 args).run Try.prog w = .ok (.enter 138 args) w := enters_of Try.func138 (by kernel_rfl) rfl
  have hex := HS.out.1.alloc (.cells #[.pointer (some ⟨b1, 0, none⟩)] 131)
  have hsz := HS.out.1.size
  have hBu := Blk.new w1 [.pointer (some ⟨b1, 0, none⟩)] 131
  have hset2 := HS.out.2.ext ((Kp.refl (F := fun _ => False) w1).alloc (.cells #[.pointer (some ⟨b1, 0, none⟩)] 131))
  refine (setPickRow_any (HH.out.ext hex) 138 #[] #[.pointer (some ⟨w1.heap.size, 0, none⟩)] _ ⟨hent, fun w' hw x hx => setMinusFnRow_any O w1.heap.size _ x (HH.out.all x hx) (Strict.new O zs2) (hset2.ext hw) (hBu.ext hw)⟩).mono ?_
  rintro e w2 ⟨v, rfl, hk2, b2, iv2, rfl, hb2, hiv2, hset3⟩
  have HR := Lib.hid hset3; clear hset3 hBu hset2
  go_wp2
  go_ret
  rw [alloc_size] at hb2 hiv2
  exact RetN.mk (hex.trans hk2) ⟨b2, iv2, rfl, by omega, fun k hk => by have := hiv2 k hk; omega, HR.out⟩
theorem setMeetRow_nil (v : Value) (w : World) : Calls Try.prog 113 #[.pointer none, v] w (Ret (.pointer none) w) := by
  go_enter Try.func113, Try.ntmps113
  go_wp2
  go_ret
  exact Ret.mk rfl
set_option maxRecDepth 100000 in
set_option maxHeartbeats 2000000 in
theorem setMeetRow_any (O : OrdLaw c) {vo : Value} {zs2 : List (Option Addr × Nat × Nat)} (h : SetAtRow Try.prog S w b ov iv tail te D c zs) (h2 : PtrSetRow Try.prog S w vo zs2) (hD : ∀ x ∈ zs2, D x) :
    Calls Try.prog 113 #[.pointer (some ⟨b, 0, none⟩), vo] w
      (RetN w fun w' v => ∃ b' iv', v = .pointer (some ⟨b', 0, none⟩) ∧ w.heap.size ≤ b' ∧ (∀ k, iv'.ownBlock = some k → w.heap.size ≤ k) ∧ SetAtRow Try.prog S w' b' ov iv' [] 66 D c (zs.filter fun x => isIn c (newS c zs2) x)) := by
  have HU := Lib.hid (setUnderRow_any O h h2 hD)
  have HH := Lib.hid h; clear h h2
  go_enter Try.func113, Try.ntmps113
  go_wp2_with fail
  refine HU.out.mono ?_
  rintro e w1 ⟨v, rfl, hk, b1, iv1, rfl, hb1, hiv1, hset⟩
  have HS := Lib.hid (And.intro hk hset); clear hk hset
  go_wp2_with fail
  have hent : ∀ args w, (callFunc 108 args).run Try.prog w = .ok (.enter 108 args) w := enters_of Try.func108 (by kernel_rfl) rfl
  have hsz := HS.out.1.size
  refine (setPickRow_any (HH.out.ext HS.out.1) 108 #[.pointer (some ⟨b1, 0, none⟩)] #[] _ ⟨hent, fun w' hw x hx => (setHasRow_any O x (HH.out.all x hx) (Strict.new O zs2) (HS.out.2.ext hw)).mono (by rintro e w2 ⟨v, rfl, hk, rfl⟩; exact ⟨rfl, hk⟩)⟩).mono ?_
  rintro e w2 ⟨v, rfl, hk2, b2, iv2, rfl, hb2, hiv2, hset3⟩
  have HR := Lib.hid hset3; clear hset3
  go_wp2
  go_ret
  exact RetN.mk (HS.out.1.trans hk2) ⟨b2, iv2, rfl, by omega, fun k hk => by have := hiv2 k hk; omega, HR.out⟩
theorem setLenRow_ptr {v : Value} (h : PtrSetRow Try.prog S w v zs) : Calls Try.prog 116 #[v] w (Ret (.int .i64 (zs.length : Nat)) w) := by
  rcases h with ⟨rfl, rfl⟩ | ⟨b, ov, iv, tail, te, D, c, rfl, h2⟩
  · exact setLenRow_nil w
  · exact setLenRow_any h2
theorem setSameRow_nil {v : Value} (h : PtrSetRow Try.prog S w v zs) : Calls Try.prog 119 #[.pointer none, v] w (Ret (.bool (decide (zs.length = 0))) w) := by
  have HL := Lib.hid (setLenRow_ptr h); clear h
  have key : ((zs.length : Int) == 0) = decide (zs.length = 0) := by
    rw [Bool.eq_iff_iff]; simp
  have HK := Lib.hid key; clear key
  go_enter Try.func119, Try.ntmps119
  go_wp2_with fail
  refine HL.out.mono ?_
  rintro e w' ⟨rfl, rfl⟩
  go_wp2
  go_ret
  exact Ret.mk (congrArg Value.bool HK.out.symm)
set_option maxRecDepth 100000 in
set_option maxHeartbeats 2000000 in
theorem setSameRow_any {vo : Value} {zs2 : List (Option Addr × Nat × Nat)} (h : SetAtRow Try.prog S w b ov iv tail te D c zs) (h2 : PtrSetRow Try.prog S w vo zs2) (hD : ∀ x ∈ zs2, D x) :
    Calls Try.prog 119 #[.pointer (some ⟨b, 0, none⟩), vo] w
      (RetF (fun _ => False) w fun w' v => ∃ r : Bool, v = .bool r ∧ (r = true ↔ zs.length = zs2.length ∧ ∀ (i : Nat) x y, zs[i]? = some x → zs2[i]? = some y → c x y = 0)) := by
  obtain ⟨c1, c2⟩ := h.cells
  obtain ⟨ao, cap, rfl, hc, _⟩ := h.row.shape
  have hl := h.len
  have hl2 := h2.len
  have hent : ∀ args w, (callFunc 142 args).run Try.prog w = .ok (.enter 142 args) w := enters_of Try.func142 (by kernel_rfl) rfl
  have HE := Lib.hid hent; clear hent
  have HC := Lib.hid hc; clear hc
  have HH := Lib.hid h; clear h
  have H2 := Lib.hid h2; clear h2
  have heq : ∀ w1, Ext w w1 → EqEachRow Try.prog 142 #[.pointer (some ⟨b, 0, none⟩)] #[] w1 (zs.map fun x => (Value.slice (x).1 (x).2.1 (x).2.2)) (zs2.map fun x => (Value.slice (x).1 (x).2.1 (x).2.2)) (fun i => decide (c (zs.getD i default) (zs2.getD i default) = 0)) := by
    intro w1 h1
    refine ⟨HE.out, fun w2 hw2 i u v hu hv => ?_⟩
    rw [List.getElem?_map] at hu hv
    cases hx : zs[i]? with
    | none => rw [hx] at hu; cases hu
    | some x =>
      cases hy : zs2[i]? with
      | none => rw [hy] at hv; cases hv
      | some y =>
        rw [hx] at hu; rw [hy] at hv
        have eu : u = (Value.slice (x).1 (x).2.1 (x).2.2) := by have := Option.some.inj hu; exact this.symm
        have ev : v = (Value.slice (y).1 (y).2.1 (y).2.2) := by have := Option.some.inj hv; exact this.symm
        subst eu ev
        have hh := HH.out.ext (h1.trans hw2)
        have e1 : zs.getD i default = x := by simp [List.getD, hx]
        have e2 : zs2.getD i default = y := by simp [List.getD, hy]
        simp only [e1, e2]
        exact setAlikeRow_any S w2 b ov _ te D c x y (HH.out.all x (List.mem_of_getElem? hx)) (hD y (List.mem_of_getElem? hy)) hh.blk hh.inS hh.ord
  have HEQ := Lib.hid heq; clear heq
  go_enter Try.func119, Try.ntmps119
  go_wp2
  go_region_held3 (fun w' => w'.cell? ⟨b, 1, none⟩ = some (.slice ao zs.length cap)) (first | assumption | go_keep)
    (first
      | (go_at_call 135; refine (setItemsRow_ptr (H2.out.ext (Kp.refl w).drew)).mono ?_; rintro e w1 ⟨v, rfl, hk, hr⟩; obtain ⟨ao1, cap2, ev, hcc, _⟩ := hr.shape; subst ev; have d1 := hk.cell c2 id; have hex : Ext w w1 := (Kp.refl w).drew.trans hk)
      | (go_at_call 141; refine (equalFuncRow_any (zs.map fun x => (Value.slice (x).1 (x).2.1 (x).2.2)) (zs2.map fun x => (Value.slice (x).1 (x).2.1 (x).2.2)) ao ao1 cap cap2 _ _ _ _ _ zs.length zs2.length (by simp) (by simp) (HC.out.ext hex) hcc (HEQ.out _ hex) (by omega) (by omega)).mono ?_; rintro e w2 ⟨v2, rfl, hk2, r, rfl, hr2⟩; have d2 := hk2.cell d1 id))
  all_goals
    go_wp2
    go_ret
    refine RetF.mk (hex.trans hk2) ⟨r, rfl, ?_⟩
    rw [hr2]
    refine and_congr_right fun hlen => ⟨fun H i x y hx hy => ?_, fun H i hi => ?_⟩
    · have hi := (List.getElem?_eq_some_iff.1 hx).1
      have := of_decide_eq_true (H i hi)
      rw [show zs.getD i default = x by simp [List.getD, hx], show zs2.getD i default = y by simp [List.getD, hy]] at this
      exact this
    · have g1 : zs[i]? = some (zs[i]'hi) := List.getElem?_eq_getElem _
      have g2 : zs2[i]? = some (zs2[i]'(by omega)) := List.getElem?_eq_getElem _
      have := H i _ _ g1 g2
      rw [show zs.getD i default = zs[i] by simp [List.getD, g1], show zs2.getD i default = zs2[i]'(by omega) by simp [List.getD, g2]]
      exact decide_eq_true this
theorem setUnionRow_nil (v : Value) (w : World) : Calls Try.prog 111 #[.pointer none, v] w (Ret (.pointer none) w) := by
  go_enter Try.func111, Try.ntmps111
  go_wp2
  go_ret
  exact Ret.mk rfl
set_option maxRecDepth 100000 in
set_option maxHeartbeats 2000000 in
theorem setUnionRow_any (O : OrdLaw c) {vo : Value} {zs2 : List (Option Addr × Nat × Nat)} (h : SetAtRow Try.prog S w b ov iv tail te D c zs) (h2 : PtrSetRow Try.prog S w vo zs2) (hD : ∀ x ∈ zs2, D x) (hll : zs.length + zs2.length ≤ 1048576 * 1048576) :
    Calls Try.prog 111 #[.pointer (some ⟨b, 0, none⟩), vo] w
      (RetN w fun w' v => ∃ b' iv', v = .pointer (some ⟨b', 0, none⟩) ∧ w.heap.size ≤ b' ∧ (∀ k, iv'.ownBlock = some k → w.heap.size ≤ k) ∧ SetAtRow Try.prog S w' b' ov iv' [] 66 D c (newS c (zs ++ zs2))) := by
  obtain ⟨c1, c2⟩ := h.cells
  obtain ⟨ao, cap, rfl, hc, _⟩ := h.row.shape
  have HC := Lib.hid hc; clear hc
  have HH := Lib.hid h; clear h
  have H2 := Lib.hid h2; clear h2
  have one : ∀ (l : List (Option Addr × Nat × Nat)), ∀ u ∈ l.map (fun x => (Value.slice (x).1 (x).2.1 (x).2.2)), u.oneCell' = true := by intro l u hu; obtain ⟨x, _, rfl⟩ := List.mem_map.1 hu; rfl
  have ONE := Lib.hid one; clear one
  have conc : ∀ (w1 : World) (ao1 : Option Addr) (cap2 : Nat), Ext w w1 → CellsAt w1 ao1 (zs2.map fun x => (Value.slice (x).1 (x).2.1 (x).2.2)) →
      Calls Try.prog 134 #[.slice (some ⟨w1.heap.size, 0, none⟩) 2 2] (w1.alloc (.cells #[.slice ao zs.length cap, .slice ao1 zs2.length cap2] 64))
        (RetN (w1.alloc (.cells #[.slice ao zs.length cap, .slice ao1 zs2.length cap2] 64)) fun w' v => ∃ ao3 cap3, v = .slice ao3 (zs.length + zs2.length) cap3 ∧ CellsAt w' ao3 ((zs ++ zs2).map fun x => (Value.slice (x).1 (x).2.1 (x).2.2))) := by
    intro w1 ao1 cap2 h1 hc1
    have hcs : CellsAt (w1.alloc (.cells #[.slice ao zs.length cap, .slice ao1 zs2.length cap2] 64)) (some ⟨w1.heap.size, 0, none⟩) (partsRow [(ao, cap, zs.map fun x => (Value.slice (x).1 (x).2.1 (x).2.2)), (ao1, cap2, zs2.map fun x => (Value.slice (x).1 (x).2.1 (x).2.2))]) := by
      have := CellsAt.two w1 (.slice ao zs.length cap) (.slice ao1 zs2.length cap2) 64
      simpa [partsRow] using this
    have ht : totalRow [(ao, cap, zs.map fun x => (Value.slice (x).1 (x).2.1 (x).2.2)), (ao1, cap2, zs2.map fun x => (Value.slice (x).1 (x).2.1 (x).2.2))] = zs.length + zs2.length := by simp [totalRow]
    refine (concatRow_any [(ao, cap, zs.map fun x => (Value.slice (x).1 (x).2.1 (x).2.2)), (ao1, cap2, zs2.map fun x => (Value.slice (x).1 (x).2.1 (x).2.2))] _ 2 _ 2 rfl hcs ?_ (by rw [ht]; omega) (by omega)).mono ?_
    · intro q hq
      rcases List.mem_cons.1 hq with rfl | hq
      · exact ⟨(HC.out.ext h1).alloc _, ONE.out zs⟩
      · rcases List.mem_cons.1 hq with rfl | hq
        · exact ⟨hc1.alloc _, ONE.out zs2⟩
        · cases hq
    · rintro e w2 ⟨v, rfl, hk, hr⟩
      obtain ⟨ao3, cap3, ev, hcc, _⟩ := hr.shape
      refine RetN.mk hk ⟨ao3, cap3, by rw [ev, ht], ?_⟩
      simpa using hcc
  have HCONC := Lib.hid conc; clear conc
  go_enter Try.func111, Try.ntmps111
  go_wp2
  go_region_held3 (fun w' => w'.cell? ⟨b, 0, none⟩ = some ov ∧ w'.cell? ⟨b, 1, none⟩ = some (.slice ao zs.length cap)) (first | exact ⟨by assumption, by assumption⟩ | go_keep)
    (first
      | (go_at_call 135; refine (setItemsRow_ptr (H2.out.ext (Kp.refl w).drew)).mono ?_; rintro e w1 ⟨v, rfl, hk, hr⟩; obtain ⟨ao1, cap2, ev, hcc, _⟩ := hr.shape; subst ev; have d1 := hk.cell c1 id; have d2 := hk.cell c2 id; have hex : Ext w w1 := (Kp.refl w).drew.trans hk)
      | (go_at_call 134; refine (HCONC.out w1 ao1 cap2 hex hcc).mono ?_; rintro e w2 ⟨v2, rfl, hk2, ao3, cap3, rfl, hcc3⟩; have hex2 := (hex.alloc (.cells #[.slice ao zs.length cap, .slice ao1 zs2.length cap2] 64)).trans hk2; have e1 := hex2.cell c1 id; have e2 := hex2.cell c2 id)
      | (go_at_call 133; refine (newSetRow_any S _ ov ao3 (zs.length + zs2.length) cap3 D c O (zs ++ zs2) (by simp) hcc3 (fun k hk => Nat.lt_of_lt_of_le (HH.out.inS k hk) hex2.size) (HH.out.ord.same (hex2.same HH.out.inS fun _ _ => id)) (by intro x hx; rcases List.mem_append.1 hx with hx | hx; exact HH.out.all x hx; exact hD x hx) hll).mono ?_; rintro e w3 ⟨v3, rfl, hk3, b', iv', rfl, hb', hiv', hset⟩; have g1 := hk3.cell e1 id; have g2 := hk3.cell e2 id))
  all_goals
    go_wp2
    go_ret
    exact RetN.mk (hex2.trans hk3) ⟨b', iv', rfl, Nat.le_trans hex2.size hb', fun k h => Nat.le_trans hex2.size (hiv' k h), hset⟩
end
end Go.Proofs.Ytfkhelihepbehaa

/- tuple.Set at []string: At, Each. -/
namespace Go.Proofs.Ytfkhelihepbehaa
open Go.RowKit
set_option linter.unusedVariables false

section
variable {S : Nat → Prop} {w : World} {b : Nat} {ov iv : Value} {tail : List Value} {te : TypeId} {D : Option Addr × Nat × Nat → Prop} {c : Option Addr × Nat × Nat → Option Addr × Nat × Nat → Int} {zs : List (Option Addr × Nat × Nat)}

set_option maxRecDepth 100000 in
theorem setAtRow_in (h : SetAtRow Try.prog S w b ov iv tail te D c zs) (k : Nat) (x : Option Addr × Nat × Nat) (hx : zs[k]? = some x) :
    Calls Try.prog 117 #[.pointer (some ⟨b, 0, none⟩), .int .i64 k] w (Ret (.tuple #[(Value.slice (x).1 (x).2.1 (x).2.2), .bool true]) w) := by
  obtain ⟨c1, c2⟩ := h.cells
  obtain ⟨ao, cap, rfl, hc, hcap⟩ := h.row.shape
  have HL := Lib.hid (setLenRow_any h)
  have hl := h.len
  have hk := (List.getElem?_eq_some_iff.1 hx).1
  obtain ⟨g, o, eao, c3⟩ := hc k ((Value.slice (x).1 (x).2.1 (x).2.2)) (by rw [List.getElem?_map, hx]; rfl)
  subst eao
  clear h hc
  have t1 : decide ((k : Int) < 0) = false := by simp
  have t2 : decide ((k : Int) ≥ (zs.length : Int)) = false := by simp; omega
  have t3 : decide ((zs.length : Int) ≤ (k : Int)) = false := by simp; omega
  have t4 : (k : Int) < (zs.length : Int) := by omega
  go_enter Try.func117, Try.ntmps117
  go_wp2_with fail
  refine HL.out.mono ?_
  rintro e w' ⟨rfl, rfl⟩
  go_wp2
  go_ret2
  exact Ret.mk rfl
set_option maxRecDepth 100000 in
theorem setAtRow_out {v : Value} (h : PtrSetRow Try.prog S w v zs) (i : Int) (hi : i < 0 ∨ zs.length ≤ i) :
    Calls Try.prog 117 #[v, .int .i64 i] w (Ret (.tuple #[.slice none 0 0, .bool false]) w) := by
  have HL := Lib.hid (setLenRow_ptr h); clear h
  by_cases h0 : i < 0
  · have t1 : decide (i < 0) = true := by simp [h0]
    go_enter Try.func117, Try.ntmps117
    go_wp2
    go_ret2
    exact Ret.mk rfl
  · have t1 : decide (i < 0) = false := by simp; omega
    have t2 : decide (i ≥ (zs.length : Int)) = true := by simp; omega
    have t3 : decide ((zs.length : Int) ≤ i) = true := by simp; omega
    go_enter Try.func117, Try.ntmps117
    go_wp2_with fail
    refine HL.out.mono ?_
    rintro e w' ⟨rfl, rfl⟩
    go_wp2
    go_ret2
    exact Ret.mk rfl
end
end Go.Proofs.Ytfkhelihepbehaa

/- slices.Values at [][]string: the iterator keeps its contract; tuple.Set's Each. -/
namespace Go.Proofs.Ytfkhelihepbehaa
open Go.RowKit Go.Shelf
set_option linter.unusedVariables false
attribute [local go_sem] Oper.semAt_some

set_option maxRecDepth 100000 in
set_option maxHeartbeats 2000000 in
theorem values1Row_in (F : Fence) (n : Nat) (h7 : F.fn 140) (hro : F.round = none) (hn : 1 ≤ n) (S : Nat → Prop) (l Bs : Nat) (ao : Option Addr) (m cap : Nat) (zs : List (Option Addr × Nat × Nat)) (hm : m = zs.length) (hreach : m ≤ 1048576 * 1048576) (J Jx : List (Option Addr × Nat × Nat) → World → Prop)
    (hY : ∀ pre x W, J pre W → pre.length < zs.length → YieldAt F (n - 1) Try.prog l #[(Value.slice (x).1 (x).2.1 (x).2.2)] W fun e W' =>
      (e = .returned (.bool true) ∧ J (pre ++ [x]) W' ∧ SameOn S W W') ∨ (e = .returned (.bool false) ∧ Jx (pre ++ [x]) W'))
    (W : World) (hSB : S Bs) (hSa : ∀ a, ao = some a → S a.block) (hBs : W.cell? ⟨Bs, 0, none⟩ = some (.slice ao m cap)) (hc : CellsAt W ao (zs.map fun x => (Value.slice (x).1 (x).2.1 (x).2.2))) (h0 : J [] W) :
    CallsIn F n Try.prog 140 #[.func (.yield l) #[] #[], .pointer (some ⟨Bs, 0, none⟩)] W fun e W' => (∃ v, e = .returned v) ∧
      ((∃ ys, ys = zs ∧ J ys W') ∨ (∃ pre, pre <+: zs ∧ Jx pre W')) := by
  have HC := Lib.hid hc; have HM := Lib.hid hm; clear hc hm
  refine callsIn_of_wp Try.func140 rfl h7 ?_ hro
  simp only [Try.ntmps140, List.size_toArray, List.length_cons, List.length_nil, Nat.reduceAdd, Nat.reduceSub, Array.replicate_succ, Array.replicate_zero, List.push_toArray, List.append_toArray, List.nil_append, List.cons_append]
  gi_wp2
  gi_loopw [7] (fun i wr => ∃ k : Nat, k ≤ m ∧ i = .int .i64 k ∧ J (zs.take k) wr ∧ SameOn S W wr)
    (fun i _ => m - (intOf i).toNat)
  case atStart => exact ⟨0, Nat.zero_le _, rfl, h0, SameOn.refl _ _⟩
  case round =>
    obtain ⟨k, hk, rfl, hJs, hnx⟩ := hrel
    by_cases hlt : k < m
    · have hkl : k < zs.length := by rw [← HM.out]; exact hlt
      obtain ⟨x, hx⟩ : ∃ x, zs[k]? = some x := ⟨_, List.getElem?_eq_getElem hkl⟩
      obtain ⟨g, o, eao, c3⟩ := HC.out k ((Value.slice (x).1 (x).2.1 (x).2.2)) (by rw [List.getElem?_map, hx]; rfl)
      have c3' := (hnx.cell (o := o + k) (hSa _ eao)).trans c3
      have et : zs.take (k + 1) = zs.take k ++ [x] := by rw [List.take_add_one, hx]; rfl
      have ET := Lib.hid et
      have hy0 := hY _ x wr hJs (by rw [List.length_take]; omega)
      have HX := Lib.hid (And.intro hx hkl)
      clear hx hkl et c3
      subst eao
      obtain ⟨fn, tmps, assign, body, hy, hR⟩ := hy0
      gi_wp2
      refine hR.mono ?_
      rintro e W3 (⟨rfl, hJ3, hk3⟩ | ⟨rfl, hJx3⟩)
      · gi_wp2
        go_roundw
        case rel => exact ⟨k + 1, by omega, by simp, by rw [ET.out]; exact hJ3, hnx.trans hk3⟩
        case measure => first | (simp [intOf]; done) | (simp [intOf]; omega)
      · gi_wp2
        refine bodyPost_ret (results_none rfl _ _ _) rfl ?_
        exact ⟨⟨_, rfl⟩, .inr ⟨_, by rw [← ET.out]; exact List.take_prefix _ _, hJx3⟩⟩
    · obtain rfl : k = m := by omega
      gi_wp2
      go_end0
      exact ⟨⟨_, rfl⟩, .inl ⟨_, by rw [HM.out, List.take_length], hJs⟩⟩

set_option maxHeartbeats 1000000 in
theorem valuesRow_any (ao : Option Addr) (len cap : Nat) (w : World) :
    Calls Try.prog 118 #[.slice ao len cap] w (RetN w fun w' v => v = .func (.func 140) #[] #[.pointer (some ⟨w.heap.size, 0, none⟩)] ∧ w' = w.alloc (.cells #[.slice ao len cap] 64)) := by
  go_enter Try.func118, Try.ntmps118
  go_wp2
  go_ret
  exact RetN.mk ((Kp.refl w).alloc _) ⟨rfl, rfl⟩

/-- An iterator over these items: a box that holds a slice of them, both since M. -/
def IterRow (w : World) (v : Value) (zs : List (Option Addr × Nat × Nat)) (lo : Nat) : Prop :=
  ∃ Bs ao cap, v = .func (.func 140) #[] #[.pointer (some ⟨Bs, 0, none⟩)] ∧ lo ≤ Bs ∧ (∀ a, ao = some a → lo ≤ a.block ∧ a.block < w.heap.size) ∧ w.cell? ⟨Bs, 0, none⟩ = some (.slice ao zs.length cap) ∧ CellsAt w ao (zs.map fun x => (Value.slice (x).1 (x).2.1 (x).2.2)) ∧ zs.length ≤ 1048576 * 1048576
theorem IterRow.ext {w w' : World} {v : Value} {zs : List (Option Addr × Nat × Nat)} {lo : Nat} (h : IterRow w v zs lo) (hk : Ext w w') : IterRow w' v zs lo := by
  obtain ⟨Bs, ao, cap, h1, h2, h3, h4, h5, h6⟩ := h
  exact ⟨Bs, ao, cap, h1, h2, fun a e => ⟨(h3 a e).1, Nat.lt_of_lt_of_le (h3 a e).2 hk.size⟩, hk.cell h4 id, h5.ext hk, h6⟩

theorem IterRow.kp {F : Nat → Prop} {w w' : World} {v : Value} {zs : List (Option Addr × Nat × Nat)} {lo : Nat} (h : IterRow w v zs lo) (hk : Kp F w w') (hF : ∀ g, F g → g < lo) : IterRow w' v zs lo := by
  obtain ⟨Bs, ao, cap, h1, h2, h3, h4, h5, h6⟩ := h
  have off : ∀ g, lo ≤ g → ¬ F g := fun g hg hf => by have := hF g hf; omega
  exact ⟨Bs, ao, cap, h1, h2, fun a e => ⟨(h3 a e).1, Nat.lt_of_lt_of_le (h3 a e).2 hk.size⟩, hk.cell h4 (off _ h2), h5.kp hk (fun a e => off _ (h3 a e).1), h6⟩

/-- The iterator keeps its contract: all the items, in order; or a beginning of them. -/
theorem IterRow.stops {w : World} {v : Value} {zs : List (Option Addr × Nat × Nat)} {lo : Nat} (h : IterRow w v zs lo) (F : Fence) (n : Nat) (h7 : F.fn 140) (hro : F.round = none) (hn : 1 ≤ n) :
    ∃ Bs, v = .func (.func 140) #[] #[.pointer (some ⟨Bs, 0, none⟩)] ∧ SeqStopsK F n Try.prog 140 #[.pointer (some ⟨Bs, 0, none⟩)] (fun x => #[(Value.slice (x).1 (x).2.1 (x).2.2)]) (SameOn fun k => lo ≤ k ∧ k < w.heap.size) (fun ys => ys = zs) (fun pre => pre <+: zs) zs.length w := by
  obtain ⟨Bs, ao, cap, h1, h2, h3, h4, h5, h6⟩ := h
  refine ⟨Bs, h1, fun l J Jx W hW _ _ hY h0 => ?_⟩
  have hb := World.block_lt_of_cell? _ _ h4
  exact values1Row_in F n h7 hro hn _ l Bs ao zs.length cap zs rfl h6 J Jx hY W ⟨h2, hb⟩ (fun a e => h3 a e) ((Kp.of_below hW).cell h4 id) (h5.ext (Kp.of_below hW)) h0

set_option maxRecDepth 100000 in
set_option maxHeartbeats 1000000 in
theorem setEachRow_ptr {S : Nat → Prop} {w : World} {v : Value} {zs : List (Option Addr × Nat × Nat)} (h : PtrSetRow Try.prog S w v zs) :
    Calls Try.prog 115 #[v] w (RetN w fun w' r => IterRow w' r zs w.heap.size) := by
  have hl := h.len
  have HI := Lib.hid (setItemsRow_ptr h); clear h
  go_enter Try.func115, Try.ntmps115
  go_wp2_with fail
  refine HI.out.mono ?_
  rintro e w1 ⟨v1, rfl, hk, hr⟩
  have hb1 := hr.block
  have hlt := hr.lt
  obtain ⟨ao, cap, ev, hc, _⟩ := hr.shape
  subst ev
  have HK := Lib.hid (And.intro hk hc); clear hk hr hc
  go_wp2_with fail
  refine (valuesRow_any ao zs.length cap w1).mono ?_
  rintro e w2 ⟨v2, rfl, hk2, rfl, ew⟩
  have HK2 := Lib.hid (And.intro hk2 ew); clear hk2 ew
  go_wp2
  go_ret
  have hsz := HK.out.1.size
  refine RetN.mk (HK.out.1.trans HK2.out.1) ⟨w1.heap.size, ao, cap, rfl, hsz, fun a e => ?_, ?_, HK.out.2.ext HK2.out.1, hl⟩
  · subst e
    have h1 := hb1 a.block rfl
    have h2 := hlt a.block rfl
    exact ⟨h1, Nat.lt_of_lt_of_le h2 HK2.out.1.size⟩
  · rw [HK2.out.2]; exact (Blk.new w1 [Value.slice ao zs.length cap] 64).cell' 0
end Go.Proofs.Ytfkhelihepbehaa

/- slices.Values at [][]string, for elements of any type that stand for values: the iterator keeps its contract. -/
namespace Go.Proofs.Ytfkhelihepbehaa
open Go.RowKit Go.Shelf
set_option linter.unusedVariables false
attribute [local go_sem] Oper.semAt_some

set_option maxRecDepth 100000 in
set_option maxHeartbeats 2000000 in
theorem values1VRow_in {α : Type} (f : α → Value) (F : Fence) (n : Nat) (h7 : F.fn 140) (hro : F.round = none) (hn : 1 ≤ n) (S : Nat → Prop) (l Bs : Nat) (ao : Option Addr) (m cap : Nat) (zs : List α) (hm : m = zs.length) (hreach : m ≤ 1048576 * 1048576) (J Jx : List α → World → Prop)
    (hY : ∀ pre x W, J pre W → pre.length < zs.length → YieldAt F (n - 1) Try.prog l #[f x] W fun e W' =>
      (e = .returned (.bool true) ∧ J (pre ++ [x]) W' ∧ SameOn S W W') ∨ (e = .returned (.bool false) ∧ Jx (pre ++ [x]) W'))
    (W : World) (hSB : S Bs) (hSa : ∀ a, ao = some a → S a.block) (hBs : W.cell? ⟨Bs, 0, none⟩ = some (.slice ao m cap)) (hc : CellsAt W ao (zs.map fun x => f x)) (h0 : J [] W) :
    CallsIn F n Try.prog 140 #[.func (.yield l) #[] #[], .pointer (some ⟨Bs, 0, none⟩)] W fun e W' => (∃ v, e = .returned v) ∧
      ((∃ ys, ys = zs ∧ J ys W') ∨ (∃ pre, pre <+: zs ∧ Jx pre W')) := by
  have HC := Lib.hid hc; have HM := Lib.hid hm; clear hc hm
  refine callsIn_of_wp Try.func140 rfl h7 ?_ hro
  simp only [Try.ntmps140, List.size_toArray, List.length_cons, List.length_nil, Nat.reduceAdd, Nat.reduceSub, Array.replicate_succ, Array.replicate_zero, List.push_toArray, List.append_toArray, List.nil_append, List.cons_append]
  gi_wp2
  gi_loopw [7] (fun i wr => ∃ k : Nat, k ≤ m ∧ i = .int .i64 k ∧ J (zs.take k) wr ∧ SameOn S W wr)
    (fun i _ => m - (intOf i).toNat)
  case atStart => exact ⟨0, Nat.zero_le _, rfl, h0, SameOn.refl _ _⟩
  case round =>
    obtain ⟨k, hk, rfl, hJs, hnx⟩ := hrel
    by_cases hlt : k < m
    · have hkl : k < zs.length := by rw [← HM.out]; exact hlt
      obtain ⟨x, hx⟩ : ∃ x, zs[k]? = some x := ⟨_, List.getElem?_eq_getElem hkl⟩
      obtain ⟨g, o, eao, c3⟩ := HC.out k (f x) (by rw [List.getElem?_map, hx]; rfl)
      have c3' := (hnx.cell (o := o + k) (hSa _ eao)).trans c3
      have et : zs.take (k + 1) = zs.take k ++ [x] := by rw [List.take_add_one, hx]; rfl
      have ET := Lib.hid et
      have hy0 := hY _ x wr hJs (by rw [List.length_take]; omega)
      have HX := Lib.hid (And.intro hx hkl)
      clear hx hkl et c3
      subst eao
      obtain ⟨fn, tmps, assign, body, hy, hR⟩ := hy0
      gi_wp2
      refine hR.mono ?_
      rintro e W3 (⟨rfl, hJ3, hk3⟩ | ⟨rfl, hJx3⟩)
      · gi_wp2
        go_roundw
        case rel => exact ⟨k + 1, by omega, by simp, by rw [ET.out]; exact hJ3, hnx.trans hk3⟩
        case measure => first | (simp [intOf]; done) | (simp [intOf]; omega)
      · gi_wp2
        refine bodyPost_ret (results_none rfl _ _ _) rfl ?_
        exact ⟨⟨_, rfl⟩, .inr ⟨_, by rw [← ET.out]; exact List.take_prefix _ _, hJx3⟩⟩
    · obtain rfl : k = m := by omega
      gi_wp2
      go_end0
      exact ⟨⟨_, rfl⟩, .inl ⟨_, by rw [HM.out, List.take_length], hJs⟩⟩

/-- An iterator over these items: a box that holds a slice of them, both since M. -/
def IterVRow (w : World) (v : Value) {α : Type} (f : α → Value) (zs : List α) (lo : Nat) : Prop :=
  ∃ Bs ao cap, v = .func (.func 140) #[] #[.pointer (some ⟨Bs, 0, none⟩)] ∧ lo ≤ Bs ∧ (∀ a, ao = some a → lo ≤ a.block ∧ a.block < w.heap.size) ∧ w.cell? ⟨Bs, 0, none⟩ = some (.slice ao zs.length cap) ∧ CellsAt w ao (zs.map fun x => f x) ∧ zs.length ≤ 1048576 * 1048576
theorem IterVRow.ext {w w' : World} {v : Value} {α : Type} {f : α → Value} {zs : List α} {lo : Nat} (h : IterVRow w v f zs lo) (hk : Ext w w') : IterVRow w' v f zs lo := by
  obtain ⟨Bs, ao, cap, h1, h2, h3, h4, h5, h6⟩ := h
  exact ⟨Bs, ao, cap, h1, h2, fun a e => ⟨(h3 a e).1, Nat.lt_of_lt_of_le (h3 a e).2 hk.size⟩, hk.cell h4 id, h5.ext hk, h6⟩

theorem IterVRow.kp {F : Nat → Prop} {w w' : World} {v : Value} {α : Type} {f : α → Value} {zs : List α} {lo : Nat} (h : IterVRow w v f zs lo) (hk : Kp F w w') (hF : ∀ g, F g → g < lo) : IterVRow w' v f zs lo := by
  obtain ⟨Bs, ao, cap, h1, h2, h3, h4, h5, h6⟩ := h
  have off : ∀ g, lo ≤ g → ¬ F g := fun g hg hf => by have := hF g hf; omega
  exact ⟨Bs, ao, cap, h1, h2, fun a e => ⟨(h3 a e).1, Nat.lt_of_lt_of_le (h3 a e).2 hk.size⟩, hk.cell h4 (off _ h2), h5.kp hk (fun a e => off _ (h3 a e).1), h6⟩

/-- The iterator keeps its contract: all the items, in order; or a beginning of them. -/
theorem IterVRow.stops {w : World} {v : Value} {α : Type} {f : α → Value} {zs : List α} {lo : Nat} (h : IterVRow w v f zs lo) (F : Fence) (n : Nat) (h7 : F.fn 140) (hro : F.round = none) (hn : 1 ≤ n) :
    ∃ Bs, v = .func (.func 140) #[] #[.pointer (some ⟨Bs, 0, none⟩)] ∧ SeqStopsK F n Try.prog 140 #[.pointer (some ⟨Bs, 0, none⟩)] (fun x => #[f x]) (SameOn fun k => lo ≤ k ∧ k < w.heap.size) (fun ys => ys = zs) (fun pre => pre <+: zs) zs.length w := by
  obtain ⟨Bs, ao, cap, h1, h2, h3, h4, h5, h6⟩ := h
  refine ⟨Bs, h1, fun l J Jx W hW _ _ hY h0 => ?_⟩
  have hb := World.block_lt_of_cell? _ _ h4
  exact values1VRow_in f F n h7 hro hn _ l Bs ao zs.length cap zs rfl h6 J Jx hY W ⟨h2, hb⟩ (fun a e => h3 a e) ((Kp.of_below hW).cell h4 id) (h5.ext (Kp.of_below hW)) h0

/-- The same items, each with what is known of it. -/
theorem IterRow.sub {w : World} {v : Value} {zs : List (Option Addr × Nat × Nat)} {lo : Nat} (h : IterRow w v zs lo) : IterVRow w v (fun x : { x // x ∈ zs } => (Value.slice (x.1).1 (x.1).2.1 (x.1).2.2)) zs.attach lo := by
  obtain ⟨Bs, ao, cap, h1, h2, h3, h4, h5, h6⟩ := h
  refine ⟨Bs, ao, cap, h1, h2, h3, by rw [List.length_attach]; exact h4, ?_, by rw [List.length_attach]; exact h6⟩
  have e : (zs.attach.map fun x : { x // x ∈ zs } => (Value.slice (x.1).1 (x.1).2.1 (x.1).2.2)) = zs.map fun x => (Value.slice (x).1 (x).2.1 (x).2.2) := by
    have h : (zs.attach.map fun x : { x // x ∈ zs } => (Value.slice (x.1).1 (x.1).2.1 (x.1).2.2)) = (zs.attach.map Subtype.val).map fun x => (Value.slice (x).1 (x).2.1 (x).2.2) := by rw [List.map_map]; rfl
    rw [h, List.attach_map_subtype_val]
  rw [e]; exact h5
end Go.Proofs.Ytfkhelihepbehaa

/- slices.BinarySearchFunc at string, slices.Clone, slices.EqualFunc. -/
namespace Go.Proofs.Ytfkhelihepbehaa
open Go.RowKit
set_option linter.unusedVariables false

theorem elemStr : ElemT Try.prog 22 9 1 16 (.string ⟨#[]⟩) := ⟨by kernel_rfl, by kernel_rfl, rfl, by decide⟩

end Go.Proofs.Ytfkhelihepbehaa

/- slices.IndexFunc, ContainsFunc at string. -/
namespace Go.Proofs.Ytfkhelihepbehaa
open Go.RowKit
set_option linter.unusedVariables false

/-- A function that tells of each element. -/
def TellEachStr (P : Program) (f : FuncId) (first captured : Array Value) (w0 : World) (vs : List Value) (q : Nat → Bool) : Prop :=
  (∀ args w, (callFunc f args).run P w = .ok (Next.enter f args) w) ∧ ∀ w, Ext w0 w → ∀ i u, vs[i]? = some u → Calls P f (first.push u ++ captured) w fun e w' => e = .returned (.bool (q i)) ∧ Ext w w'
/-- Between two rounds: none so far. -/
def NoneAtStr (n : Nat) (q : Nat → Bool) (w0 : World) (iv : Value) (w : World) : Prop :=
  ∃ i : Nat, i ≤ n ∧ iv = .int .i64 i ∧ (∀ j, j < i → q j = false) ∧ Ext w0 w
/-- The first place at which it holds; none: -1. -/
def FirstIsStr (n : Nat) (q : Nat → Bool) (v : Value) : Prop := (∃ i : Nat, i < n ∧ v = .int .i64 i ∧ q i = true ∧ ∀ j, j < i → q j = false) ∨ (v = .int .i64 (-1) ∧ ∀ j, j < n → q j = false)

set_option maxRecDepth 100000 in
set_option maxHeartbeats 2000000 in
theorem indexFuncStr_any (vs : List Value) (ao : Option Addr) (c : Nat) (f : FuncId) (first captured : Array Value) (q : Nat → Bool) (w : World) (n : Nat) (hn : n = vs.length)
    (ha : CellsAt w ao vs) (hcmp : TellEachStr Try.prog f first captured w vs q) (hbig : n ≤ 4611686018427387904) :
    Calls Try.prog 145 #[.slice ao n c, .func (Fn.func f) first captured] w (RetN w fun w' v => FirstIsStr n q v) := by
  have hent := hcmp.1
  have HC := Lib.hid hcmp.2; clear hcmp
  have HA := Lib.hid ha; clear ha
  have HN := Lib.hid hn; clear hn
  go_enter Try.func145, Try.ntmps145
  go_wp2
  go_loopw [8] (NoneAtStr n q w) (fun i _ => n - (intOf i).toNat)
  case atStart => exact ⟨0, Nat.zero_le _, rfl, by simp, Kp.refl _⟩
  case round =>
    obtain ⟨i, hi, rfl, hq, hkp⟩ := hrel
    have HQ := Lib.hid hq; clear hq
    by_cases hlt : i < n
    · have g1 : vs[i]? = some (vs[i]'(by have := HN.out; omega)) := List.getElem?_eq_getElem _
      obtain ⟨b1, o1, eao, c1⟩ := (HA.out.ext hkp) i _ g1
      have hcall := fun W hW => HC.out W hW i _ g1
      have HCall := Lib.hid hcall; clear hcall
      clear g1
      generalize vs[i]'(by have := HN.out; omega) = u at *
      subst eao
      cases hqi : q i
      · rw [hqi] at HCall
        have HI := Lib.hid hqi; clear hqi
        go_wp2_with fail
        refine (HCall.out _ hkp).mono ?_
        rintro e w1 ⟨rfl, hk2⟩
        have hkp2 := hkp.ext hk2
        clear hk2 c1
        go_wp2
        go_roundw
        case rel =>
          refine ⟨i + 1, by omega, by first | rfl | (congr 1; done) | (congr 1; omega), fun j hj => ?_, hkp2⟩
          by_cases e : j = i
          · subst e; exact HI.out
          · exact HQ.out j (by omega)
        case measure => first | (simp [intOf]; done) | (simp [intOf]; omega)
      · rw [hqi] at HCall
        have HI := Lib.hid hqi; clear hqi
        go_wp2_with fail
        refine (HCall.out _ hkp).mono ?_
        rintro e w1 ⟨rfl, hk2⟩
        have hkp2 := hkp.ext hk2
        clear hk2 c1
        go_wp2
        go_ret
        exact RetN.mk hkp2 (.inl ⟨i, hlt, rfl, HI.out, HQ.out⟩)
    · have e : n = i := by omega
      subst e
      clear hlt hi
      go_wp2
      go_ret
      exact RetN.mk hkp (.inr ⟨rfl, HQ.out⟩)

theorem containsFuncStr_any (vs : List Value) (ao : Option Addr) (c : Nat) (f : FuncId) (first captured : Array Value) (q : Nat → Bool) (w : World) (n : Nat) (hn : n = vs.length)
    (ha : CellsAt w ao vs) (hcmp : TellEachStr Try.prog f first captured w vs q) (hbig : n ≤ 4611686018427387904) :
    Calls Try.prog 128 #[.slice ao n c, .func (Fn.func f) first captured] w (RetN w fun w' v => v = .bool ((List.range n).any q)) := by
  have HI := Lib.hid (indexFuncStr_any vs ao c f first captured q w n hn ha hcmp hbig); clear ha hcmp hn
  go_enter Try.func128, Try.ntmps128
  go_wp2_with fail
  refine HI.out.mono ?_
  rintro e w1 ⟨v, rfl, hk, ⟨i, hi, rfl, hq, _⟩ | ⟨rfl, hq⟩⟩
  · have t : (List.range n).any q = true := List.any_eq_true.2 ⟨i, List.mem_range.2 hi, hq⟩
    have HK := Lib.hid (And.intro hk t); clear hk hq t
    go_wp2
    go_ret
    exact RetN.mk HK.out.1 (by rw [HK.out.2]; first | rfl | simp)
  · have t : (List.range n).any q = false := by
      rw [List.any_eq_false]
      intro i hi
      simp [hq i (List.mem_range.1 hi)]
    have HK := Lib.hid (And.intro hk t); clear hk hq t
    go_wp2
    go_ret
    exact RetN.mk HK.out.1 (by rw [HK.out.2]; first | rfl | simp)
end Go.Proofs.Ytfkhelihepbehaa

/- slices.Clone, EqualFunc, Grow, Concat at string. -/
namespace Go.Proofs.Ytfkhelihepbehaa
open Go.RowKit
set_option linter.unusedVariables false

theorem cloneStr_any (vs : List Value) (ao : Option Addr) (cap : Nat) (w : World) (n : Nat) (hn : n = vs.length) (hc : CellsAt w ao vs) (h1 : ∀ u ∈ vs, u.oneCell' = true) (hm : n * 16 ≤ 140737488355328) :
    Calls Try.prog 103 #[.slice ao n cap] w (RetN w fun w' v => Row w' 9 1 v n vs (New w)) := by
  have hq : ∀ w : World, (binOp .eql 22 (.slice ao n cap) (.slice none 0 0)).run Try.prog w = .ok (.bool ao.isNone) w := fun w => Lib.run_eql_slice_nil w _ _ _ _ _ _ _ Try.underlying22
  have HNN := Lib.hid hn; clear hn
  have hl : n ≤ maxLen := by unfold maxLen; omega
  cases ao with
  | none =>
    have hv : vs = [] := by
      cases vs with
      | nil => rfl
      | cons x vs => obtain ⟨b, o, h, _⟩ := hc.off (by simp); cases h
    subst hv
    have h0 : n = 0 := HNN.out
    subst h0
    go_enter Try.func103, Try.ntmps103
    go_wp2
    go_ret
    exact RetN.mk (Kp.refl _) (Row.nil _ _ _ _)
  | some a =>
    go_enter Try.func103, Try.ntmps103
    go_wp2_with (first | (at_builtin; refine Halted.out ?_))
    refine Halted.mk (wp_appN elemStr rfl _ _ rfl ((Kp.refl (F := fun _ => False) w).alloc _) rfl (Row.empty w 9 1 (New w) (Nat.le_refl _)) rfl (hc.alloc _) (by rw [HNN.out, Nat.mul_one]) h1 (by omega) (by omega) ?_)
    intro v1 w1 hr1 hk1 _ _
    have HR := Lib.hid hr1; clear hr1
    go_wp2
    go_ret
    exact RetN.mk hk1 (by simpa using HR.out)



end Go.Proofs.Ytfkhelihepbehaa

/- tuple.Rows: rows of texts in a set: what a row reads as, their order, set, Len, NewRows, named, texts. -/
namespace Go.Proofs.Ytfkhelihepbehaa
open Go.RowKit
set_option linter.unusedVariables false

/-- A row, as an element of a slice: address, length, capacity. -/
abbrev RowZ := Option Addr × Nat × Nat
/-- It reads as these texts. -/
def ReadsAs (w : World) (x : RowZ) (ss : List ByteArray) : Prop := x.2.1 = ss.length ∧ CellsAt w x.1 (strs ss)
theorem ReadsAs.unique {w : World} {x : RowZ} {a b : List ByteArray} (h : ReadsAs w x a) (h' : ReadsAs w x b) : a = b := by
  obtain ⟨h1, h2⟩ := h
  obtain ⟨h3, h4⟩ := h'
  refine List.ext_getElem (by omega) fun i hi hj => ?_
  obtain ⟨b1, o1, e1, c1⟩ := h2.str hi
  obtain ⟨b2, o2, e2, c2⟩ := h4.str hj
  rw [e1] at e2
  cases e2
  rw [c1] at c2
  simpa using c2
theorem con_ex (w : World) : ∃ con : RowZ → List ByteArray, ∀ x ss, ReadsAs w x ss → con x = ss := by
  have h : ∀ x : RowZ, ∃ l : List ByteArray, ∀ ss, ReadsAs w x ss → l = ss := fun x => by
    by_cases hx : ∃ ss, ReadsAs w x ss
    · obtain ⟨ss, hs⟩ := hx
      exact ⟨ss, fun ss' hs' => hs.unique hs'⟩
    · exact ⟨[], fun ss hs => absurd ⟨ss, hs⟩ hx⟩
  exact ⟨fun x => Classical.choose (h x), fun x => Classical.choose_spec (h x)⟩

/-- A row that is read from the pool S, and no longer than a row may be. -/
def RowD (S : Nat → Prop) (w : World) (x : RowZ) : Prop := ∃ ss, ReadsAs w x ss ∧ ss.length ≤ 8796093021952 ∧ ∀ a, x.1 = some a → S a.block
theorem ReadsAs.same {S : Nat → Prop} {w w' : World} {x : RowZ} {ss : List ByteArray} (h : ReadsAs w x ss) (hs : Same S w w') (ha : ∀ a, x.1 = some a → S a.block) : ReadsAs w' x ss := by
  refine ⟨h.1, fun i u hu => ?_⟩
  obtain ⟨b, o, e, c⟩ := h.2 i u hu
  refine ⟨b, o, e, ?_⟩
  rw [World.cell?_of_block (w := w) (hs b (ha _ e)).2]; exact c
theorem RowD.same {S : Nat → Prop} {w w' : World} {x : RowZ} (h : RowD S w x) (hs : Same S w w') : RowD S w' x := by
  obtain ⟨ss, h1, h2, h3⟩ := h
  exact ⟨ss, h1.same hs h3, h2, h3⟩

theorem cmpRow_law {α : Type} (f : α → List ByteArray) : OrdLaw (fun x y => cmpRow (f x) (f y)) :=
  ⟨fun x y => by have := cmpRow_swap (f x) (f y); omega, fun x y z h h' => cmpRow_trans h h'⟩

/-- Rows' order, as a set's. -/
theorem rows_ord {S : Nat → Prop} {w : World} {con : RowZ → List ByteArray} (hc : ∀ x ss, ReadsAs w x ss → con x = ss) :
    OrdVRow Try.prog S w (.func (Fn.func 8) #[] #[]) (RowD S w) (fun x y => cmpRow (con x) (con y)) := by
  refine .inr ⟨_, _, _, rfl, enters_of Try.func8 (by kernel_rfl) rfl, fun w' hw x y hx hy => ?_⟩
  obtain ⟨xs, hx1, hx2, hx3⟩ := hx
  obtain ⟨ys, hy1, hy2, hy3⟩ := hy
  have ex := hc x xs hx1
  have ey := hc y ys hy1
  have hx' := hx1.same hw hx3
  have hy' := hy1.same hw hy3
  obtain ⟨ax, nx, cx⟩ := x
  obtain ⟨ay, ny, cy⟩ := y
  obtain ⟨h1, h2⟩ := hx'
  obtain ⟨h3, h4⟩ := hy'
  simp only at h1 h2 h3 h4
  subst h1 h3
  simp only [ex, ey]
  refine (tupleCompare_any xs ys ax ay cx cy w' h2 h4 (by unfold maxLen; omega) (by unfold maxLen; omega)).mono ?_
  rintro e w2 ⟨rfl, rfl⟩
  exact ⟨rfl, Kp.refl w'⟩

/-- Rows in memory: their arity, their texts in order; the pool S holds the rows themselves. -/
def RowsAt (S : Nat → Prop) (w : World) (b : Nat) (iv : Value) (arity : Nat) (LL : List (List ByteArray)) : Prop :=
  ∃ con zs, (∀ x ss, ReadsAs w x ss → con x = ss) ∧ SetAtRow Try.prog S w b (.func (Fn.func 8) #[] #[]) iv [.int .i64 arity] 68 (RowD S w) (fun x y => cmpRow (con x) (con y)) zs ∧ zs.map con = LL

theorem named_any (s : ByteArray) (w : World) : Calls Try.prog 98 #[.string s] w (Ret (.bool (decide (1 ≤ s.size ∧ s.size ≤ 4096))) w) := by
  by_cases h1 : 1 ≤ s.size
  · have q1 : (1 : Int) ≤ (s.size : Int) := by omega
    by_cases h2 : s.size ≤ 4096
    · have q2 : (s.size : Int) ≤ 4096 := by omega
      have H := Lib.hid (And.intro h1 h2)
      go_enter Try.func98, Try.ntmps98
      go_wp2
      go_ret
      exact Ret.mk (by simp [H.out.1, H.out.2])
    · have q2 : ¬ (s.size : Int) ≤ 4096 := by omega
      have H := Lib.hid h2
      go_enter Try.func98, Try.ntmps98
      go_wp2
      go_ret
      exact Ret.mk (by simp [H.out])
  · have q1 : ¬ (1 : Int) ≤ (s.size : Int) := by omega
    have H := Lib.hid h1
    go_enter Try.func98, Try.ntmps98
    go_wp2
    go_ret
    exact Ret.mk (by simp [H.out])
theorem textsFn_any (s : ByteArray) (w : World) : Calls Try.prog 129 #[.string s] w (Ret (.bool (decide (4096 < s.size))) w) := by
  by_cases h : 4096 < s.size
  · have q : (4096 : Int) < (s.size : Int) := by omega
    have H := Lib.hid h
    go_enter Try.func129, Try.ntmps129
    go_wp2
    go_ret
    exact Ret.mk (by simp [H.out])
  · have q : ¬ (4096 : Int) < (s.size : Int) := by omega
    have H := Lib.hid h
    go_enter Try.func129, Try.ntmps129
    go_wp2
    go_ret
    exact Ret.mk (by simp [H.out])
/-- May these be a row's? -/
def textsC (ss : List ByteArray) : Bool := ss.all fun s => decide (s.size ≤ 4096)
theorem texts_any (ss : List ByteArray) (ao : Option Addr) (n c : Nat) (w : World) (hn : n = ss.length) (hc : CellsAt w ao (strs ss)) (hl : n ≤ 4611686018427387904) :
    Calls Try.prog 99 #[.slice ao n c] w (RetN w fun w' v => v = .bool (textsC ss)) := by
  have hent : ∀ args w, (callFunc 129 args).run Try.prog w = .ok (.enter 129 args) w := enters_of Try.func129 (by kernel_rfl) rfl
  have hi := containsFuncStr_any (strs ss) ao c 129 #[] #[] (fun i => decide (4096 < (ss[i]?.getD ⟨#[]⟩).size)) w n (by simp [strs, hn]) hc ⟨hent, fun w' _ i u hu => by
    rw [strs, List.getElem?_map] at hu
    cases hs : ss[i]? with
    | none => rw [hs] at hu; cases hu
    | some s =>
      rw [hs] at hu
      cases hu
      refine (textsFn_any s w').mono ?_
      rintro e w2 ⟨rfl, rfl⟩
      exact ⟨by simp [hs], Kp.refl _⟩⟩ hl
  have key : (!(List.range n).any fun i => decide (4096 < (ss[i]?.getD ⟨#[]⟩).size)) = textsC ss := by
    rw [Bool.eq_iff_iff]
    simp only [Bool.not_eq_true', List.any_eq_false, List.mem_range, decide_eq_true_eq, textsC, List.all_eq_true]
    constructor
    · intro h s hs
      obtain ⟨i, hi, rfl⟩ := List.mem_iff_getElem.1 hs
      have := h i (by omega)
      simp only [List.getElem?_eq_getElem hi, Option.getD_some] at this
      omega
    · intro h i hi
      have hi' : i < ss.length := by omega
      have := h ss[i] (List.getElem_mem _)
      simp only [List.getElem?_eq_getElem hi', Option.getD_some]
      omega
  have HI := Lib.hid (And.intro hi key); clear hi key hent hc hn
  go_enter Try.func99, Try.ntmps99
  go_wp2_with fail
  refine HI.out.1.mono ?_
  rintro e w1 ⟨v, rfl, hk, rfl⟩
  have HK := Lib.hid hk; clear hk
  go_wp2
  go_ret
  exact RetN.mk HK.out (by rw [← HI.out.2]; rfl)
end Go.Proofs.Ytfkhelihepbehaa

namespace Go.Proofs.Ytfkhelihepbehaa
open Go.RowKit
set_option linter.unusedVariables false

section
variable {S S' : Nat → Prop} {w w' : World} {b : Nat} {iv : Value} {arity : Nat} {LL : List (List ByteArray)}

theorem RowsAt.move {F : Nat → Prop} (h : RowsAt S w b iv arity LL) (hk : Kp F w w') (hF : ∀ k, F k → ¬ Owns b iv k) (hS : ∀ k, F k → ¬ S k) (hsub : ∀ k, S k → S' k) (hin : ∀ k, S' k → k < w'.heap.size) (hno : ∀ k, Owns b iv k → ¬ S' k) :
    RowsAt S' w' b iv arity LL := by
  obtain ⟨con, zs, hc, hs, hl⟩ := h
  obtain ⟨con', hc'⟩ := con_ex w'
  have hs' := hs.kp hk hF hS
  have hsame : Same S w w' := hk.same hs.inS fun k h1 h2 => hS k h2 h1
  have all : ∀ z ∈ zs, RowD S' w' z ∧ con' z = con z := fun z hz => by
    obtain ⟨ss, h1, h2, h3⟩ := hs.all z hz
    have h1' := h1.same hsame h3
    exact ⟨⟨ss, h1', h2, fun a e => hsub _ (h3 a e)⟩, by rw [hc' z ss h1', hc z ss h1]⟩
  refine ⟨con', zs, hc', ⟨hs'.blk, hs'.row, hs'.apart, hin, hno, rows_ord hc', fun z hz => (all z hz).1, hs.len⟩, ?_⟩
  rw [← hl]
  exact List.map_congr_left fun z hz => (all z hz).2
theorem RowsAt.ext (h : RowsAt S w b iv arity LL) (hk : Ext w w') : RowsAt S w' b iv arity LL := by
  have hb := h
  obtain ⟨con, zs, hc, hs, hl⟩ := hb
  exact h.move hk (fun _ x => x.elim) (fun _ x => x.elim) (fun _ h => h) (fun k hk' => Nat.lt_of_lt_of_le (hs.inS k hk') hk.size) hs.notS
theorem RowsAt.blk (h : RowsAt S w b iv arity LL) : Blk w b [.func (Fn.func 8) #[] #[], iv, .int .i64 arity] 68 := by
  obtain ⟨con, zs, hc, hs, hl⟩ := h
  exact hs.blk

theorem rowsSet_nil (w : World) : Calls Try.prog 101 #[.pointer none] w (Ret (.pointer none) w) := by
  go_enter Try.func101, Try.ntmps101
  go_wp2
  go_ret
  exact Ret.mk rfl
theorem rowsSet_any (h : RowsAt S w b iv arity LL) : Calls Try.prog 101 #[.pointer (some ⟨b, 0, none⟩)] w (Ret (.pointer (some ⟨b, 0, none⟩)) w) := by
  have c0 : w.cell? ⟨b, 0, none⟩ = some (.func (Fn.func 8) #[] #[]) := by rw [h.blk.cell']; rfl
  have hq : ∀ w : World, (binOp .eql 24 (.func (Fn.func 8) #[] #[]) .nilFunc).run Try.prog w = .ok (.bool false) w := fun _ => by kernel_rfl
  clear h
  go_enter Try.func101, Try.ntmps101
  go_wp2
  go_ret
  exact Ret.mk rfl
theorem rowsLen_nil (w : World) : Calls Try.prog 76 #[.pointer none] w (Ret (.int .i64 0) w) := by
  go_enter Try.func76, Try.ntmps76
  go_wp2_with fail
  refine (rowsSet_nil w).mono ?_
  rintro e w' ⟨rfl, rfl⟩
  go_wp2_with fail
  refine (setLenRow_nil w).mono ?_
  rintro e w' ⟨rfl, rfl⟩
  go_wp2
  go_ret
  exact Ret.mk rfl
theorem rowsLen_any (h : RowsAt S w b iv arity LL) : Calls Try.prog 76 #[.pointer (some ⟨b, 0, none⟩)] w (Ret (.int .i64 (LL.length : Nat)) w) := by
  have H := Lib.hid h
  obtain ⟨con, zs, hc, hs, hl⟩ := h
  have HS := Lib.hid hs
  have HL := Lib.hid (show zs.length = LL.length by rw [← hl]; simp)
  clear hs hc hl
  go_enter Try.func76, Try.ntmps76
  go_wp2_with fail
  refine (rowsSet_any H.out).mono ?_
  rintro e w' ⟨rfl, rfl⟩
  go_wp2_with fail
  refine (setLenRow_any HS.out).mono ?_
  rintro e w' ⟨rfl, rfl⟩
  go_wp2
  go_ret
  exact Ret.mk (by rw [← HL.out]; rfl)

theorem rowsAt_new (S : Nat → Prop) (w : World) (a : Nat) (hS : ∀ k, S k → k < w.heap.size) :
    RowsAt S (w.alloc (.cells #[.func (Fn.func 8) #[] #[], .slice none 0 0, .int .i64 a] 68)) w.heap.size (.slice none 0 0) a [] := by
  obtain ⟨con, hc⟩ := con_ex (w.alloc (.cells #[.func (Fn.func 8) #[] #[], .slice none 0 0, .int .i64 a] 68))
  refine ⟨con, [], hc, ⟨Blk.new w [.func (Fn.func 8) #[] #[], .slice none 0 0, .int .i64 a] 68, Row.nil _ _ _ _, by simp [Value.ownBlock], fun k hk => by rw [alloc_size]; have := hS k hk; omega, fun k ho hs => ?_, rows_ord hc, by simp, by simp⟩, rfl⟩
  rcases ho with rfl | ho
  · have := hS _ hs; omega
  · cases ho
theorem newRows_any (S : Nat → Prop) (w : World) (a : Nat) (ha : a ≤ 64) (hS : ∀ k, S k → k < w.heap.size) :
    Calls Try.prog 21 #[.int .i64 a] w (RetN w fun w' v => v = .tuple #[.pointer (some ⟨w.heap.size, 0, none⟩), .int .i64 0] ∧ RowsAt S w' w.heap.size (.slice none 0 0) a []) := by
  have HR := Lib.hid (rowsAt_new S w a hS)
  have q1 : ¬ (a : Int) < 0 := by omega
  have q2 : ¬ (64 : Int) < (a : Int) := by omega
  clear hS
  go_enter Try.func21, Try.ntmps21
  go_wp2
  go_ret2
  exact RetN.mk ((Kp.refl w).alloc _) ⟨rfl, HR.out⟩
end
end Go.Proofs.Ytfkhelihepbehaa

namespace Go.Proofs.Ytfkhelihepbehaa
open Go.RowKit
set_option linter.unusedVariables false

/-- A row that is handed in: where it lies, what it reads as. -/
def RowIn (w : World) (x : RowZ) (ss : List ByteArray) : Prop := ReadsAs w x ss ∧ ss.length ≤ 8796093021952 ∧ ∀ a, x.1 = some a → a.block < w.heap.size
/-- It lies off these blocks. -/
def RowOff (x : RowZ) (F : Nat → Prop) : Prop := ∀ a, x.1 = some a → ¬ F a.block
/-- The pool with a row's block. -/
def poolOf (S : Nat → Prop) (x : RowZ) : Nat → Prop := fun k => S k ∨ ∃ a, x.1 = some a ∧ a.block = k

section
variable {S : Nat → Prop} {w w' : World} {b : Nat} {iv : Value} {arity : Nat} {LL : List (List ByteArray)}
theorem RowsAt.inS (h : RowsAt S w b iv arity LL) : ∀ k, S k → k < w.heap.size := by
  obtain ⟨con, zs, hc, hs, hl⟩ := h
  exact hs.inS
theorem RowsAt.notS (h : RowsAt S w b iv arity LL) : ∀ k, Owns b iv k → ¬ S k := by
  obtain ⟨con, zs, hc, hs, hl⟩ := h
  exact hs.notS
/-- A row's block goes to the pool. -/
theorem RowsAt.pool (h : RowsAt S w b iv arity LL) {x : RowZ} {ss : List ByteArray} (hx : RowIn w x ss) (ho : RowOff x (Owns b iv)) : RowsAt (poolOf S x) w b iv arity LL := by
  refine h.move (F := fun _ => False) (Kp.refl w) (fun _ x => x.elim) (fun _ x => x.elim) (fun k hk => .inl hk) (fun k hk => ?_) (fun k hk hs => ?_)
  · rcases hk with hk | ⟨a, e, rfl⟩
    · exact h.inS k hk
    · exact hx.2.2 a e
  · rcases hs with hs | ⟨a, e, rfl⟩
    · exact h.notS k hk hs
    · exact ho a e hk
/-- The set behind the rows, and a row held against it. -/
theorem RowsAt.open (h : RowsAt S w b iv arity LL) (hst : Strict cmpRow LL) {x : RowZ} {ss : List ByteArray} (hx : RowIn w x ss) (ho : RowOff x (Owns b iv)) :
    ∃ con zs, (∀ x ss, ReadsAs w x ss → con x = ss) ∧ SetAtRow Try.prog (poolOf S x) w b (.func (Fn.func 8) #[] #[]) iv [.int .i64 arity] 68 (RowD (poolOf S x) w) (fun x y => cmpRow (con x) (con y)) zs ∧ zs.map con = LL ∧
      RowD (poolOf S x) w x ∧ con x = ss ∧ Strict (fun x y => cmpRow (con x) (con y)) zs ∧ isIn (fun x y => cmpRow (con x) (con y)) zs x = isIn cmpRow LL ss ∧ below (fun x y => cmpRow (con x) (con y)) zs x = below cmpRow LL ss := by
  obtain ⟨con, zs, hc, hs, hl⟩ := h.pool hx ho
  have ex := hc x ss hx.1
  refine ⟨con, zs, hc, hs, hl, ⟨ss, hx.1, hx.2.1, fun a e => .inr ⟨a, e, rfl⟩⟩, ex, ?_, ?_, ?_⟩
  · rw [← hl] at hst
    exact List.pairwise_map.1 hst
  · rw [← hl, ← ex]; simp [isIn, List.any_map, Function.comp_def]
  · rw [← hl, ← ex]; simp [below, List.filter_map, Function.comp_def]

theorem rowsHas_any (h : RowsAt S w b iv arity LL) (hst : Strict cmpRow LL) {x : RowZ} {ss : List ByteArray} (hx : RowIn w x ss) (ho : RowOff x (Owns b iv)) :
    Calls Try.prog 65 #[.pointer (some ⟨b, 0, none⟩), .slice x.1 x.2.1 x.2.2] w (RetN w fun w' v => v = .bool (isIn cmpRow LL ss)) := by
  have H := Lib.hid h
  obtain ⟨con, zs, hc, hs, hl, hd, ex, hz, e1, e2⟩ := h.open hst hx ho
  have HF := Lib.hid (setHasRow_any (cmpRow_law con) x hd hz hs)
  rw [e1] at HF
  clear h hst hx ho hc hs hl hd ex hz e1 e2
  go_enter Try.func65, Try.ntmps65
  go_wp2_with fail
  refine (rowsSet_any H.out).mono ?_
  rintro e w' ⟨rfl, rfl⟩
  go_wp2_with fail
  refine HF.out.mono ?_
  rintro e w1 ⟨v, rfl, hk, rfl⟩
  have HK := Lib.hid hk; clear hk
  go_wp2
  go_ret
  exact RetN.mk HK.out rfl

theorem RowsAt.of_set {S' : Nat → Prop} {w1 w2 : World} {con : RowZ → List ByteArray} {zs : List RowZ} (hc : ∀ x ss, ReadsAs w1 x ss → con x = ss) (hsame : Same S' w1 w2)
    (h : SetAtRow Try.prog S' w2 b (.func (Fn.func 8) #[] #[]) iv [.int .i64 arity] 68 (RowD S' w1) (fun x y => cmpRow (con x) (con y)) zs) : RowsAt S' w2 b iv arity (zs.map con) := by
  obtain ⟨con', hc'⟩ := con_ex w2
  have all : ∀ z ∈ zs, RowD S' w2 z ∧ con' z = con z := fun z hz => by
    have hd := h.all z hz
    obtain ⟨ss, h1, h2, h3⟩ := hd
    have h1' := h1.same hsame h3
    exact ⟨⟨ss, h1', h2, h3⟩, by rw [hc' z ss h1', hc z ss h1]⟩
  exact ⟨con', zs, hc', ⟨h.blk, h.row, h.apart, h.inS, h.notS, rows_ord hc', fun z hz => (all z hz).1, h.len⟩, List.map_congr_left fun z hz => (all z hz).2⟩

/-- What Add answers. -/
def rowsAddR (arity : Nat) (LL : List (List ByteArray)) (ss : List ByteArray) : Bool × Nat :=
  if ss.length ≠ arity then (false, 30) else if textsC ss = false then (false, 31) else if 65536 ≤ LL.length ∧ isIn cmpRow LL ss = false then (false, 4) else (!isIn cmpRow LL ss, 0)
/-- What is there behind it. -/
def rowsAddL (arity : Nat) (LL : List (List ByteArray)) (ss : List ByteArray) : List (List ByteArray) := if (rowsAddR arity LL ss).2 = 0 then addS cmpRow LL ss else LL

/-- Add's last lines: the row's clone goes to the set. -/
theorem rowsPut (h : RowsAt S w b iv arity LL) (hst : Strict cmpRow LL) {ao : Option Addr} {n cap : Nat} {ss : List ByteArray} {w1 : World} (hk : Ext w w1) (hr : Row w1 9 1 (.slice ao n cap) n (strs ss) (New w)) (hn : n = ss.length) (hl : n ≤ 8796093021952) (hLL : LL.length + 1 ≤ 1048576 * 1048576) :
    Calls Try.prog 102 #[.pointer (some ⟨b, 0, none⟩), .slice ao n cap] w1 (RetF (Owns b iv) w1 fun w' v => v = .bool (!isIn cmpRow LL ss) ∧
      ∃ iv', RowsAt (poolOf S (ao, n, cap)) w' b iv' arity (addS cmpRow LL ss) ∧ ∀ k, iv'.ownBlock = some k → iv.ownBlock = some k ∨ w1.heap.size ≤ k) := by
  have hx : RowIn w1 (ao, n, cap) ss := by
    obtain ⟨ao', cap', e, hc, _⟩ := hr.shape
    cases e
    refine ⟨⟨hn, hc⟩, by omega, fun a e => ?_⟩
    have e' : ao = some a := e
    subst e'
    exact hr.lt a.block rfl
  have ho : RowOff (ao, n, cap) (Owns b iv) := fun a e ho => by
    have e' : ao = some a := e
    subst e'
    have h1 : w.heap.size ≤ a.block := hr.block a.block rfl
    have h2 : a.block < w.heap.size := by
      obtain ⟨con, zs, hc, hs, hl⟩ := h
      rcases ho with ho | ho
      · rw [ho]; exact hs.blk.lt
      · exact hs.row.lt _ ho
    omega
  obtain ⟨con, zs, hc, hs, hlz, hd, ex, hz, e1, e2⟩ := (h.ext hk).open hst hx ho
  have hzl : zs.length = LL.length := by rw [← hlz]; simp
  refine (setAddRow_any (cmpRow_law con) (ao, n, cap) hd hz hs (by omega)).mono ?_
  rintro e w2 ⟨v, rfl, hk2, rfl, iv', hs2, hiv⟩
  refine RetF.mk hk2 ⟨by rw [e1], iv', ?_, hiv⟩
  have hsame : Same (poolOf S (ao, n, cap)) w1 w2 := hk2.same hs.inS fun k h1 h2 => hs.notS k h2 h1
  have := RowsAt.of_set hc hsame hs2
  rwa [← addS_map con zs (ao, n, cap), hlz, ex] at this
end
end Go.Proofs.Ytfkhelihepbehaa

namespace Go.Proofs.Ytfkhelihepbehaa
open Go.RowKit
set_option linter.unusedVariables false

section
variable {S : Nat → Prop} {w w' : World} {b : Nat} {iv : Value} {arity : Nat} {LL : List (List ByteArray)}
/-- What Add leaves. -/
def RowsAdded (S : Nat → Prop) (w : World) (b : Nat) (iv : Value) (arity : Nat) (LL : List (List ByteArray)) (ss : List ByteArray) (w' : World) (v : Value) : Prop :=
  v = .tuple #[.bool (rowsAddR arity LL ss).1, .int .i64 ((rowsAddR arity LL ss).2 : Nat)] ∧
    ∃ S' iv', (∀ k, S k → S' k) ∧ (∀ k, S' k → S k ∨ w.heap.size ≤ k) ∧ RowsAt S' w' b iv' arity (rowsAddL arity LL ss) ∧ ∀ k, iv'.ownBlock = some k → iv.ownBlock = some k ∨ w.heap.size ≤ k
theorem RowsAdded.same (h : RowsAt S w b iv arity LL) {ss : List ByteArray} {w1 : World} (hk : Ext w w1) {v : Value} (hv : v = .tuple #[.bool (rowsAddR arity LL ss).1, .int .i64 ((rowsAddR arity LL ss).2 : Nat)]) (h0 : rowsAddL arity LL ss = LL) : RowsAdded S w b iv arity LL ss w1 v :=
  ⟨hv, S, iv, fun _ h => h, fun _ h => .inl h, by rw [h0]; exact h.ext hk, fun _ h => .inl h⟩

set_option maxRecDepth 100000 in
set_option maxHeartbeats 2000000 in
theorem rowsAdd_any (h : RowsAt S w b iv arity LL) (hst : Strict cmpRow LL) {ao : Option Addr} {n cap : Nat} {ss : List ByteArray} (hx : RowIn w (ao, n, cap) ss) (ho : RowOff (ao, n, cap) (Owns b iv)) (hLL : LL.length + 1 ≤ 1048576 * 1048576) :
    Calls Try.prog 61 #[.pointer (some ⟨b, 0, none⟩), .slice ao n cap] w (RetF (Owns b iv) w (RowsAdded S w b iv arity LL ss)) := by
  have hn : n = ss.length := hx.1.1
  have hcs : CellsAt w ao (strs ss) := hx.1.2
  have hl : ss.length ≤ 8796093021952 := hx.2.1
  have c2 : w.cell? ⟨b, 2, none⟩ = some (.int .i64 arity) := by rw [h.blk.cell']; rfl
  have HT := Lib.hid (texts_any ss ao n cap w hn hcs (by omega))
  have HH := Lib.hid (fun w1 (hw : Ext w w1) => rowsHas_any (h.ext hw) hst (x := (ao, n, cap)) (ss := ss) ⟨⟨hn, hcs.ext hw⟩, hl, fun a e => Nat.lt_of_lt_of_le (hx.2.2 a e) hw.size⟩ ho)
  have HLN := Lib.hid (fun w1 (hw : Ext w w1) => rowsLen_any (h.ext hw))
  have HS := Lib.hid (fun w1 (hw : Ext w w1) => rowsSet_any (h.ext hw))
  have HCL := Lib.hid (fun w1 (hw : Ext w w1) => cloneStr_any (strs ss) ao cap w1 n (by simp [strs, hn]) (hcs.ext hw) (strs_one ss) (by omega))
  have HP := Lib.hid (fun w0 w1 ao1 cap1 (hw : Ext w w0) (hk : Ext w0 w1) hr => rowsPut (w := w0) (w1 := w1) (ao := ao1) (n := n) (cap := cap1) (h.ext hw) hst hk hr hn (by omega) hLL)
  have H := Lib.hid h
  have HN := Lib.hid hn
  clear h hst hx ho hcs hn
  obtain ⟨m, em⟩ : ∃ m, m = LL.length := ⟨_, rfl⟩
  rw [← em] at HLN hLL
  have EM := Lib.hid em; clear em hLL
  by_cases h1 : n = arity
  · have q1 : ((n : Int) != (arity : Int)) = false := by simp [h1]
    have H1 := Lib.hid h1; clear h1
    cases ht : textsC ss with
    | false =>
      have HTX := Lib.hid ht
      rw [ht] at HT; clear ht
      go_enter Try.func61, Try.ntmps61
      go_wp2_with fail
      refine HT.out.mono ?_
      rintro e w1 ⟨v, rfl, hk, rfl⟩
      have HK := Lib.hid hk; clear hk
      go_wp2
      go_ret2
      have e0 : rowsAddR arity LL ss = (false, 31) := by unfold rowsAddR; rw [if_neg (by rw [← HN.out, H1.out]; simp), if_pos HTX.out]
      exact RetF.mk (Ext.kp HK.out) (RowsAdded.same H.out HK.out (by rw [e0]; rfl) (by unfold rowsAddL; rw [e0]; rfl))
    | true =>
      have HTX := Lib.hid ht
      rw [ht] at HT; clear ht
      by_cases hf : 65536 ≤ m
      · have q2 : decide ((65536 : Int) ≤ (m : Int)) = true := by rw [decide_eq_true_iff]; omega
        have HF := Lib.hid hf; clear hf
        cases hi : isIn cmpRow LL ss with
        | false =>
          have HI := Lib.hid hi
          rw [hi] at HH; clear hi
          go_enter Try.func61, Try.ntmps61
          go_wp2_with fail
          refine HT.out.mono ?_
          rintro e w0 ⟨v, rfl, hk0, rfl⟩
          go_wp2_with fail
          refine (HLN.out w0 hk0).mono ?_
          rintro e w' ⟨rfl, rfl⟩
          go_wp2_with fail
          refine (HH.out w0 hk0).mono ?_
          rintro e w1 ⟨v, rfl, hk01, rfl⟩
          have hk1 := hk0.trans hk01
          clear hk0 hk01
          have HK := Lib.hid hk1; clear hk1
          go_wp2
          go_ret2
          have e0 : rowsAddR arity LL ss = (false, 4) := by unfold rowsAddR; rw [if_neg (by rw [← HN.out, H1.out]; simp), if_neg (by rw [HTX.out]; simp), if_pos ⟨EM.out ▸ HF.out, HI.out⟩]
          exact RetF.mk (Ext.kp HK.out) (RowsAdded.same H.out HK.out (by rw [e0]; rfl) (by unfold rowsAddL; rw [e0]; rfl))
        | true =>
          have HI := Lib.hid hi
          rw [hi] at HH; clear hi
          go_enter Try.func61, Try.ntmps61
          go_wp2_with fail
          refine HT.out.mono ?_
          rintro e w0 ⟨v, rfl, hk0, rfl⟩
          go_wp2_with fail
          refine (HLN.out w0 hk0).mono ?_
          rintro e w' ⟨rfl, rfl⟩
          go_wp2_with fail
          refine (HH.out w0 hk0).mono ?_
          rintro e w1 ⟨v, rfl, hk01, rfl⟩
          have hk1 := hk0.trans hk01
          clear hk0 hk01
          go_wp2_with fail
          refine (HS.out w1 hk1).mono ?_
          rintro e w' ⟨rfl, rfl⟩
          go_wp2_with fail
          refine (HCL.out w1 hk1).mono ?_
          rintro e w2 ⟨v, rfl, hk2, hr2⟩
          obtain ⟨ao2, cap2, ev, _, _⟩ := hr2.shape
          subst ev
          go_wp2_with fail
          refine (HP.out w1 w2 ao2 cap2 hk1 hk2 hr2).mono ?_
          rintro e w3 ⟨v, rfl, hk3, rfl, iv', hrows, hiv⟩
          have HR := Lib.hid (And.intro hk3 (And.intro hrows hiv))
          have hb2 := hr2.block
          clear hk3 hrows hiv hr2
          go_wp2
          go_ret2
          have e0 : rowsAddR arity LL ss = (!isIn cmpRow LL ss, 0) := by unfold rowsAddR; rw [if_neg (by rw [← HN.out, H1.out]; simp), if_neg (by rw [HTX.out]; simp), if_neg (fun h => by rw [HI.out] at h; cases h.2)]
          have z1 := hk1.size
          have z2 := hk2.size
          refine RetF.mk ((Ext.kp (hk1.trans hk2)).trans HR.out.1) ⟨by rw [e0]; rfl, poolOf S (ao2, n, cap2), iv', fun k h => .inl h, fun k h => ?_, by unfold rowsAddL; rw [e0]; exact HR.out.2.1, fun k h => (HR.out.2.2 k h).imp id (fun h => by omega)⟩
          rcases h with h | ⟨a, e, rfl⟩
          · exact .inl h
          · have e' : ao2 = some a := e
            subst e'
            have := hb2 a.block rfl
            exact .inr (Nat.le_trans z1 this)
      · have q2 : decide ((65536 : Int) ≤ (m : Int)) = false := by rw [decide_eq_false_iff_not]; omega
        have HF := Lib.hid hf; clear hf
        go_enter Try.func61, Try.ntmps61
        go_wp2_with fail
        refine HT.out.mono ?_
        rintro e w1 ⟨v, rfl, hk1, rfl⟩
        go_wp2_with fail
        refine (HLN.out w1 hk1).mono ?_
        rintro e w' ⟨rfl, rfl⟩
        go_wp2_with fail
        refine (HS.out w1 hk1).mono ?_
        rintro e w' ⟨rfl, rfl⟩
        go_wp2_with fail
        refine (HCL.out w1 hk1).mono ?_
        rintro e w2 ⟨v, rfl, hk2, hr2⟩
        obtain ⟨ao2, cap2, ev, _, _⟩ := hr2.shape
        subst ev
        go_wp2_with fail
        refine (HP.out w1 w2 ao2 cap2 hk1 hk2 hr2).mono ?_
        rintro e w3 ⟨v, rfl, hk3, rfl, iv', hrows, hiv⟩
        have HR := Lib.hid (And.intro hk3 (And.intro hrows hiv))
        have hb2 := hr2.block
        clear hk3 hrows hiv hr2
        go_wp2
        go_ret2
        have e0 : rowsAddR arity LL ss = (!isIn cmpRow LL ss, 0) := by unfold rowsAddR; rw [if_neg (by rw [← HN.out, H1.out]; simp), if_neg (by rw [HTX.out]; simp), if_neg (fun h => HF.out (EM.out ▸ h.1))]
        have z1 := hk1.size
        have z2 := hk2.size
        refine RetF.mk ((Ext.kp (hk1.trans hk2)).trans HR.out.1) ⟨by rw [e0]; rfl, poolOf S (ao2, n, cap2), iv', fun k h => .inl h, fun k h => ?_, by unfold rowsAddL; rw [e0]; exact HR.out.2.1, fun k h => (HR.out.2.2 k h).imp id (fun h => by omega)⟩
        rcases h with h | ⟨a, e, rfl⟩
        · exact .inl h
        · have e' : ao2 = some a := e
          subst e'
          have := hb2 a.block rfl
          exact .inr (Nat.le_trans z1 this)
  · have q1 : ((n : Int) != (arity : Int)) = true := by rw [bne_iff_ne]; omega
    have H1 := Lib.hid h1; clear h1
    go_enter Try.func61, Try.ntmps61
    go_wp2
    go_ret2
    have e0 : rowsAddR arity LL ss = (false, 30) := by unfold rowsAddR; rw [if_pos (by rw [← HN.out]; exact H1.out)]
    exact RetF.mk (Kp.refl _) (RowsAdded.same H.out (Kp.refl _) (by rw [e0]; rfl) (by unfold rowsAddL; rw [e0]; rfl))
end
end Go.Proofs.Ytfkhelihepbehaa

/- tuple.Rows whose order may still be nil (a zero value): set lays it; Len, Has, Below, At, Arity, Drop. -/
namespace Go.Proofs.Ytfkhelihepbehaa
open Go.RowKit
set_option linter.unusedVariables false

/-- Rows in memory; where z, they may be a zero value still. -/
def RowsQ (z : Prop) (S : Nat → Prop) (w : World) (b : Nat) (iv : Value) (arity : Nat) (LL : List (List ByteArray)) : Prop :=
  RowsAt S w b iv arity LL ∨ (z ∧ iv = .slice none 0 0 ∧ LL = [] ∧ Blk w b [.nilFunc, .slice none 0 0, .int .i64 arity] 68 ∧ (∀ k, S k → k < w.heap.size) ∧ ¬ S b)
/-- What turns when the order is laid. -/
abbrev FQ (z : Prop) (b : Nat) : Nat → Prop := fun k => z ∧ k = b
theorem FQ.owns {z : Prop} {b : Nat} {iv : Value} : ∀ k, FQ z b k → Owns b iv k := fun k h => .inl h.2
theorem Kp.fq {b : Nat} {w w' : World} (h : Kp (FQ False b) w w') : Ext w w' := h.mono fun _ _ h => h.1

section
variable {z : Prop} {S : Nat → Prop} {w w' : World} {b : Nat} {iv : Value} {arity : Nat} {LL : List (List ByteArray)}
theorem RowsAt.q (h : RowsAt S w b iv arity LL) : RowsQ z S w b iv arity LL := .inl h
theorem RowsQ.kp {F : Nat → Prop} (h : RowsQ z S w b iv arity LL) (hk : Kp F w w') (hF : ∀ k, F k → ¬ Owns b iv k) (hS : ∀ k, F k → ¬ S k) : RowsQ z S w' b iv arity LL := by
  rcases h with h | ⟨hz, e, el, hB, h1, h2⟩
  · exact .inl (h.move hk hF hS (fun _ h => h) (fun k hk' => Nat.lt_of_lt_of_le (h.inS k hk') hk.size) h.notS)
  · exact .inr ⟨hz, e, el, hB.kp hk (fun hf => hF _ hf (.inl rfl)), fun k hk' => Nat.lt_of_lt_of_le (h1 k hk') hk.size, h2⟩
theorem RowsQ.ext (h : RowsQ z S w b iv arity LL) (hk : Ext w w') : RowsQ z S w' b iv arity LL := h.kp hk (fun _ x => x.elim) (fun _ x => x.elim)
theorem RowsQ.blk' (h : RowsQ z S w b iv arity LL) : ∃ ov, Blk w b [ov, iv, .int .i64 arity] 68 := by
  rcases h with h | ⟨_, e, _, hB, _⟩
  · exact ⟨_, h.blk⟩
  · exact ⟨_, by rw [e]; exact hB⟩
theorem RowsQ.lt (h : RowsQ z S w b iv arity LL) : b < w.heap.size := by obtain ⟨ov, h⟩ := h.blk'; exact h.lt
theorem RowsQ.ar (h : RowsQ z S w b iv arity LL) : w.cell? ⟨b, 2, none⟩ = some (.int .i64 arity) := by obtain ⟨ov, h⟩ := h.blk'; rw [h.cell']; rfl
theorem RowsQ.inS (h : RowsQ z S w b iv arity LL) : ∀ k, S k → k < w.heap.size := by
  rcases h with h | ⟨_, _, _, _, h, _⟩
  · exact h.inS
  · exact h
theorem RowsQ.notS (h : RowsQ z S w b iv arity LL) : ∀ k, Owns b iv k → ¬ S k := by
  rcases h with h | ⟨_, rfl, _, _, _, h⟩
  · exact h.notS
  · intro k hk hs
    rcases hk with rfl | hk
    · exact h hs
    · cases hk

theorem rowsSet_q (h : RowsQ z S w b iv arity LL) :
    Calls Try.prog 101 #[.pointer (some ⟨b, 0, none⟩)] w (RetF (FQ z b) w fun w' v => v = .pointer (some ⟨b, 0, none⟩) ∧ RowsAt S w' b iv arity LL) := by
  rcases h with h | ⟨hz, rfl, rfl, hB, h1, h2⟩
  · refine (rowsSet_any h).mono ?_
    rintro e w' ⟨rfl, rfl⟩
    exact RetF.mk (Kp.refl _) ⟨rfl, h⟩
  · have c0 : w.cell? ⟨b, 0, none⟩ = some .nilFunc := by rw [hB.cell']; rfl
    have f0 := hB.free 0
    have hq : ∀ w : World, (binOp .eql 24 .nilFunc .nilFunc).run Try.prog w = .ok (.bool true) w := fun _ => by kernel_rfl
    have HB := Lib.hid (And.intro hB (And.intro h1 h2))
    have HZ := Lib.hid hz
    clear hB h1 h2 hz
    go_enter Try.func101, Try.ntmps101
    go_wp2
    go_ret
    obtain ⟨hB, h1, h2⟩ := HB.out
    have hset := hB.set 0 (.func (Fn.func 8) #[] #[])
    have hk : Kp (FQ z b) w (w.setCell ⟨b, 0, none⟩ (.func (Fn.func 8) #[] #[])) := Kp.setCell (Kp.refl w) (fun _ => ⟨HZ.out, rfl⟩) _
    obtain ⟨con, hc⟩ := con_ex (w.setCell ⟨b, 0, none⟩ (.func (Fn.func 8) #[] #[]))
    refine RetF.mk hk ⟨rfl, con, [], hc, ⟨hset, Row.nil _ _ _ _, by simp [Value.ownBlock], fun k hk' => Nat.lt_of_lt_of_le (h1 k hk') hk.size, fun k ho hs => ?_, rows_ord hc, by simp, by simp⟩, rfl⟩
    rcases ho with rfl | ho
    · exact h2 hs
    · cases ho

theorem rowsLen_q (h : RowsQ z S w b iv arity LL) : Calls Try.prog 76 #[.pointer (some ⟨b, 0, none⟩)] w (RetF (FQ z b) w fun w' v => v = .int .i64 (LL.length : Nat) ∧ RowsAt S w' b iv arity LL) := by
  have HS := Lib.hid (rowsSet_q h); clear h
  go_enter Try.func76, Try.ntmps76
  go_wp2_with fail
  refine HS.out.mono ?_
  rintro e w1 ⟨v, rfl, hk, rfl, h1⟩
  have HK := Lib.hid (And.intro hk h1)
  obtain ⟨con, zs, hc, hs, hl⟩ := h1
  have HS1 := Lib.hid hs
  have HL := Lib.hid (show zs.length = LL.length by rw [← hl]; simp)
  clear hk hs hc hl
  go_wp2_with fail
  refine (setLenRow_any HS1.out).mono ?_
  rintro e w' ⟨rfl, rfl⟩
  go_wp2
  go_ret
  exact RetF.mk HK.out.1 ⟨by rw [← HL.out]; rfl, HK.out.2⟩
/-- A row that lies off what may turn. -/
theorem RowIn.kp {F : Nat → Prop} {x : RowZ} {ss : List ByteArray} (h : RowIn w x ss) (hk : Kp F w w') (ho : RowOff x F) : RowIn w' x ss :=
  ⟨⟨h.1.1, h.1.2.kp hk ho⟩, h.2.1, fun a e => Nat.lt_of_lt_of_le (h.2.2 a e) hk.size⟩

theorem rowsHas_q (h : RowsQ z S w b iv arity LL) (hst : Strict cmpRow LL) {x : RowZ} {ss : List ByteArray} (hx : RowIn w x ss) (ho : RowOff x (Owns b iv)) :
    Calls Try.prog 65 #[.pointer (some ⟨b, 0, none⟩), .slice x.1 x.2.1 x.2.2] w (RetF (FQ z b) w fun w' v => v = .bool (isIn cmpRow LL ss) ∧ RowsAt S w' b iv arity LL) := by
  have HS := Lib.hid (rowsSet_q h); clear h
  have HX := Lib.hid (And.intro hst (And.intro hx ho)); clear hst hx ho
  go_enter Try.func65, Try.ntmps65
  go_wp2_with fail
  refine HS.out.mono ?_
  rintro e w1 ⟨v, rfl, hk, rfl, h1⟩
  have hx1 := HX.out.2.1.kp hk (fun a e hf => HX.out.2.2 a e (.inl hf.2))
  obtain ⟨con, zs, hc, hs, hl, hd, ex, hz, e1, e2⟩ := h1.open HX.out.1 hx1 HX.out.2.2
  have HF := Lib.hid (setHasRow_any (cmpRow_law con) x hd hz hs)
  rw [e1] at HF
  have HK := Lib.hid (And.intro hk h1)
  clear hc hs hl hd ex hz e1 e2 hk h1 hx1
  go_wp2_with fail
  refine HF.out.mono ?_
  rintro e w2 ⟨v, rfl, hk2, rfl⟩
  have HK2 := Lib.hid hk2; clear hk2
  go_wp2
  go_ret
  exact RetF.mk (HK.out.1.ext HK2.out) ⟨rfl, HK.out.2.ext HK2.out⟩
theorem rowsBelow_nil (v : Value) (w : World) : Calls Try.prog 68 #[.pointer none, v] w (Ret (.int .i64 0) w) := by
  go_enter Try.func68, Try.ntmps68
  go_wp2_with fail
  refine (rowsSet_nil w).mono ?_
  rintro e w' ⟨rfl, rfl⟩
  go_wp2_with fail
  refine (setBelowRow_nil v w).mono ?_
  rintro e w' ⟨rfl, rfl⟩
  go_wp2
  go_ret
  exact Ret.mk rfl
theorem rowsBelow_q (h : RowsQ z S w b iv arity LL) (hst : Strict cmpRow LL) {x : RowZ} {ss : List ByteArray} (hx : RowIn w x ss) (ho : RowOff x (Owns b iv)) :
    Calls Try.prog 68 #[.pointer (some ⟨b, 0, none⟩), .slice x.1 x.2.1 x.2.2] w (RetF (FQ z b) w fun w' v => v = .int .i64 (below cmpRow LL ss : Nat) ∧ RowsAt S w' b iv arity LL) := by
  have HS := Lib.hid (rowsSet_q h); clear h
  have HX := Lib.hid (And.intro hst (And.intro hx ho)); clear hst hx ho
  go_enter Try.func68, Try.ntmps68
  go_wp2_with fail
  refine HS.out.mono ?_
  rintro e w1 ⟨v, rfl, hk, rfl, h1⟩
  have hx1 := HX.out.2.1.kp hk (fun a e hf => HX.out.2.2 a e (.inl hf.2))
  obtain ⟨con, zs, hc, hs, hl, hd, ex, hz, e1, e2⟩ := h1.open HX.out.1 hx1 HX.out.2.2
  have HF := Lib.hid (setBelowRow_any (cmpRow_law con) x hd hz hs)
  rw [e2] at HF
  have HK := Lib.hid (And.intro hk h1)
  clear hc hs hl hd ex hz e1 e2 hk h1 hx1
  go_wp2_with fail
  refine HF.out.mono ?_
  rintro e w2 ⟨v, rfl, hk2, rfl⟩
  have HK2 := Lib.hid hk2; clear hk2
  go_wp2
  go_ret
  exact RetF.mk (HK.out.1.ext HK2.out) ⟨rfl, HK.out.2.ext HK2.out⟩
theorem rowsHas_nil (v : Value) (w : World) : Calls Try.prog 65 #[.pointer none, v] w (Ret (.bool false) w) := by
  go_enter Try.func65, Try.ntmps65
  go_wp2_with fail
  refine (rowsSet_nil w).mono ?_
  rintro e w' ⟨rfl, rfl⟩
  go_wp2_with fail
  refine (setHasRow_nil v w).mono ?_
  rintro e w' ⟨rfl, rfl⟩
  go_wp2
  go_ret
  exact Ret.mk rfl
theorem rowsArity_nil (w : World) : Calls Try.prog 77 #[.pointer none] w (Ret (.int .i64 0) w) := by
  go_enter Try.func77, Try.ntmps77
  go_wp2
  go_ret
  exact Ret.mk rfl
theorem rowsArity_q (h : RowsQ z S w b iv arity LL) : Calls Try.prog 77 #[.pointer (some ⟨b, 0, none⟩)] w (Ret (.int .i64 arity) w) := by
  have c2 := h.ar
  clear h
  go_enter Try.func77, Try.ntmps77
  go_wp2
  go_ret
  exact Ret.mk rfl

/-- What Drop answers, and leaves. -/
def rowsDropR (arity : Nat) (LL : List (List ByteArray)) (ss : List ByteArray) : Bool × Nat := if ss.length ≠ arity then (false, 30) else (isIn cmpRow LL ss, 0)
def rowsDropL (arity : Nat) (LL : List (List ByteArray)) (ss : List ByteArray) : List (List ByteArray) := if ss.length ≠ arity then LL else dropS cmpRow LL ss
theorem rowsDrop_nil (v : Value) (w : World) : Calls Try.prog 63 #[.pointer none, v] w (Ret (.tuple #[.bool false, .int .i64 1]) w) := by
  go_enter Try.func63, Try.ntmps63
  go_wp2
  go_ret2
  exact Ret.mk rfl
theorem dropS_map {α β : Type} {c : α → α → Int} (f : β → α) (L : List β) (i : β) : dropS c (L.map f) (f i) = (dropS (fun i j => c (f i) (f j)) L i).map f := by
  have e1 : isIn c (L.map f) (f i) = isIn (fun i j => c (f i) (f j)) L i := by simp [isIn, List.any_map, Function.comp_def]
  have e2 : below c (L.map f) (f i) = below (fun i j => c (f i) (f j)) L i := by simp [below, List.filter_map, Function.comp_def]
  unfold dropS
  rw [e1, e2]
  split <;> simp
set_option maxRecDepth 100000 in
theorem rowsDrop_q (h : RowsQ z S w b iv arity LL) (hst : Strict cmpRow LL) {ao : Option Addr} {n cap : Nat} {ss : List ByteArray} (hx : RowIn w (ao, n, cap) ss) (ho : RowOff (ao, n, cap) (Owns b iv)) :
    Calls Try.prog 63 #[.pointer (some ⟨b, 0, none⟩), .slice ao n cap] w (RetF (Owns b iv) w fun w' v => v = .tuple #[.bool (rowsDropR arity LL ss).1, .int .i64 ((rowsDropR arity LL ss).2 : Nat)] ∧
      ∃ S' iv', (∀ k, S' k → S k ∨ ∃ a, ao = some a ∧ a.block = k) ∧ RowsQ z S' w' b iv' arity (rowsDropL arity LL ss) ∧ iv'.ownBlock = iv.ownBlock) := by
  have hn : n = ss.length := hx.1.1
  have c2 := h.ar
  by_cases h1 : n = arity
  · have q1 : ((n : Int) != (arity : Int)) = false := by simp [h1]
    have HS := Lib.hid (rowsSet_q h); clear h
    have HX := Lib.hid (And.intro hst (And.intro hx ho)); clear hst hx ho
    have HN := Lib.hid (show ss.length = arity by omega)
    clear hn h1
    go_enter Try.func63, Try.ntmps63
    go_wp2_with fail
    refine HS.out.mono ?_
    rintro e w1 ⟨v, rfl, hk, rfl, h1⟩
    have hx1 := HX.out.2.1.kp hk (fun a e hf => HX.out.2.2 a e (.inl hf.2))
    obtain ⟨con, zs, hc, hs, hl, hd, ex, hz, e1, e2⟩ := h1.open HX.out.1 hx1 HX.out.2.2
    have HF := Lib.hid (setDropRow_any (cmpRow_law con) (ao, n, cap) hd hz hs)
    rw [e1] at HF
    have HC := Lib.hid (And.intro hc (And.intro hl (And.intro ex hs)))
    have HK := Lib.hid (And.intro hk h1)
    clear hc hs hl hd ex hz e1 e2 hk h1 hx1 q1 c2
    go_wp2_with fail
    refine HF.out.mono ?_
    rintro e w2 ⟨v, rfl, hk2, rfl, iv', hs2, hiv⟩
    have HK2 := Lib.hid (And.intro hk2 (And.intro hs2 hiv)); clear hk2 hs2 hiv
    go_wp2
    go_ret2
    obtain ⟨hc, hl, ex, hs⟩ := HC.out
    have hsame : Same (poolOf S (ao, n, cap)) w1 w2 := HK2.out.1.same hs.inS fun k h1 h2 => hs.notS k h2 h1
    have hrows := RowsAt.of_set hc hsame HK2.out.2.1
    rw [← dropS_map con zs (ao, n, cap), hl, ex] at hrows
    refine RetF.mk ((HK.out.1.mono fun k _ h => FQ.owns k h).trans HK2.out.1) ⟨?_, poolOf S (ao, n, cap), iv', fun k h => h, .inl ?_, HK2.out.2.2⟩
    · unfold rowsDropR; rw [if_neg (by rw [HN.out]; simp)]; rfl
    · unfold rowsDropL; rw [if_neg (by rw [HN.out]; simp)]; exact hrows
  · have q1 : ((n : Int) != (arity : Int)) = true := by rw [bne_iff_ne]; omega
    have H := Lib.hid h; clear h
    have HN := Lib.hid (show ss.length ≠ arity by omega)
    clear hst hx ho hn h1
    go_enter Try.func63, Try.ntmps63
    go_wp2
    go_ret2
    refine RetF.mk (Kp.refl _) ⟨?_, S, iv, fun k h => .inl h, ?_, rfl⟩
    · unfold rowsDropR; rw [if_pos HN.out]; rfl
    · unfold rowsDropL; rw [if_pos HN.out]; exact H.out
end
end Go.Proofs.Ytfkhelihepbehaa

/- tuple.Rows whose order may still be nil: Add. -/
namespace Go.Proofs.Ytfkhelihepbehaa
open Go.RowKit
set_option linter.unusedVariables false

section
variable {z : Prop} {S : Nat → Prop} {w w' : World} {b : Nat} {iv : Value} {arity : Nat} {LL : List (List ByteArray)}
/-- What Add leaves. -/
def RowsAddedQ (z : Prop) (S : Nat → Prop) (w : World) (b : Nat) (iv : Value) (arity : Nat) (LL : List (List ByteArray)) (ss : List ByteArray) (w' : World) (v : Value) : Prop :=
  v = .tuple #[.bool (rowsAddR arity LL ss).1, .int .i64 ((rowsAddR arity LL ss).2 : Nat)] ∧
    ∃ S' iv', (∀ k, S k → S' k) ∧ (∀ k, S' k → S k ∨ w.heap.size ≤ k) ∧ RowsQ z S' w' b iv' arity (rowsAddL arity LL ss) ∧ ∀ k, iv'.ownBlock = some k → iv.ownBlock = some k ∨ w.heap.size ≤ k
theorem RowsAddedQ.same (h : RowsQ z S w b iv arity LL) {ss : List ByteArray} {w1 : World} (hk : Ext w w1) {v : Value} (hv : v = .tuple #[.bool (rowsAddR arity LL ss).1, .int .i64 ((rowsAddR arity LL ss).2 : Nat)]) (h0 : rowsAddL arity LL ss = LL) : RowsAddedQ z S w b iv arity LL ss w1 v :=
  ⟨hv, S, iv, fun _ h => h, fun _ h => .inl h, by rw [h0]; exact h.ext hk, fun _ h => .inl h⟩
theorem rowsAdd_nil (v : Value) (w : World) : Calls Try.prog 61 #[.pointer none, v] w (Ret (.tuple #[.bool false, .int .i64 1]) w) := by
  go_enter Try.func61, Try.ntmps61
  go_wp2
  go_ret2
  exact Ret.mk rfl

set_option maxRecDepth 100000 in
set_option maxHeartbeats 2000000 in
theorem rowsAdd_q (h : RowsQ z S w b iv arity LL) (hst : Strict cmpRow LL) {ao : Option Addr} {n cap : Nat} {ss : List ByteArray} (hx : RowIn w (ao, n, cap) ss) (ho : RowOff (ao, n, cap) (Owns b iv)) (hLL : LL.length + 1 ≤ 1048576 * 1048576) :
    Calls Try.prog 61 #[.pointer (some ⟨b, 0, none⟩), .slice ao n cap] w (RetF (Owns b iv) w (RowsAddedQ z S w b iv arity LL ss)) := by
  rcases h with h | h0
  · refine (rowsAdd_any h hst hx ho hLL).mono ?_
    rintro e w' ⟨v, rfl, hk, e1, S', iv', h1, h2, h3, h4⟩
    exact RetF.mk hk ⟨e1, S', iv', h1, h2, .inl h3, h4⟩
  have eLL : LL = [] := h0.2.2.1
  have h : RowsQ z S w b iv arity LL := .inr h0
  clear h0
  subst eLL
  have hn : n = ss.length := hx.1.1
  have hcs : CellsAt w ao (strs ss) := hx.1.2
  have hl : ss.length ≤ 8796093021952 := hx.2.1
  have c2 : w.cell? ⟨b, 2, none⟩ = some (.int .i64 arity) := h.ar
  have HT := Lib.hid (texts_any ss ao n cap w hn hcs (by omega))
  have HLN := Lib.hid (fun w1 (hw : Ext w w1) => rowsLen_q (h.ext hw))
  have hob : RowOff (ao, n, cap) (FQ z b) := fun a e hf => ho a e (.inl hf.2)
  have HCL := Lib.hid (fun w1 (hw : Kp (FQ z b) w w1) => cloneStr_any (strs ss) ao cap w1 n (by simp [strs, hn]) (hcs.kp hw hob) (strs_one ss) (by omega))
  have HP := Lib.hid (fun w0 w1 ao1 cap1 (h0 : RowsAt S w0 b iv arity []) (hk : Ext w0 w1) hr => rowsPut (w := w0) (w1 := w1) (ao := ao1) (n := n) (cap := cap1) h0 hst hk hr hn (by omega) hLL)
  have H := Lib.hid h
  have HN := Lib.hid hn
  clear h hst hx ho hcs hn hLL hob
  by_cases h1 : n = arity
  · have q1 : ((n : Int) != (arity : Int)) = false := by simp [h1]
    have H1 := Lib.hid h1; clear h1
    cases ht : textsC ss with
    | false =>
      have HTX := Lib.hid ht
      rw [ht] at HT; clear ht
      go_enter Try.func61, Try.ntmps61
      go_wp2_with fail
      refine HT.out.mono ?_
      rintro e w1 ⟨v, rfl, hk, rfl⟩
      have HK := Lib.hid hk; clear hk
      go_wp2
      go_ret2
      have e0 : rowsAddR arity [] ss = (false, 31) := by unfold rowsAddR; rw [if_neg (by rw [← HN.out, H1.out]; simp), if_pos HTX.out]
      exact RetF.mk (Ext.kp HK.out) (RowsAddedQ.same H.out HK.out (by rw [e0]; rfl) (by unfold rowsAddL; rw [e0]; rfl))
    | true =>
      have HTX := Lib.hid ht
      rw [ht] at HT; clear ht
      go_enter Try.func61, Try.ntmps61
      go_wp2_with fail
      refine HT.out.mono ?_
      rintro e w0 ⟨v, rfl, hk0, rfl⟩
      have HK0 := Lib.hid hk0; clear hk0
      go_wp2_with fail
      refine (HLN.out w0 HK0.out).mono ?_
      rintro e w1 ⟨v, rfl, hk1, rfl, hr1⟩
      have HK1 := Lib.hid (And.intro hk1 hr1); clear hk1 hr1
      go_wp2_with fail
      refine (rowsSet_any HK1.out.2).mono ?_
      rintro e w' ⟨rfl, rfl⟩
      go_wp2_with fail
      refine (HCL.out w1 ((Ext.kp HK0.out).trans HK1.out.1)).mono ?_
      rintro e w2 ⟨v, rfl, hk2, hr2⟩
      obtain ⟨ao2, cap2, ev, _, _⟩ := hr2.shape
      subst ev
      go_wp2_with fail
      refine (HP.out w1 w2 ao2 cap2 HK1.out.2 hk2 hr2).mono ?_
      rintro e w3 ⟨v, rfl, hk3, rfl, iv', hrows, hiv⟩
      have HR := Lib.hid (And.intro hk3 (And.intro hrows hiv))
      have HB := Lib.hid (And.intro hk2 hr2.block)
      clear hk3 hrows hiv hr2 hk2
      go_wp2
      go_ret2
      have e0 : rowsAddR arity [] ss = (!isIn cmpRow [] ss, 0) := by unfold rowsAddR; rw [if_neg (by rw [← HN.out, H1.out]; simp), if_neg (by rw [HTX.out]; simp), if_neg (fun h => by simp at h)]
      have z0 := HK0.out.size
      have z1 := HK1.out.1.size
      have z2 := HB.out.1.size
      refine RetF.mk ((((Ext.kp HK0.out).trans (HK1.out.1.mono fun k _ h => FQ.owns k h)).trans (Ext.kp HB.out.1)).trans HR.out.1) ⟨by rw [e0]; rfl, poolOf S (ao2, n, cap2), iv', fun k h => .inl h, fun k h => ?_, .inl (by unfold rowsAddL; rw [e0]; exact HR.out.2.1), fun k h => (HR.out.2.2 k h).imp id (fun h => by omega)⟩
      rcases h with h | ⟨a, e, rfl⟩
      · exact .inl h
      · have e' : ao2 = some a := e
        subst e'
        have := HB.out.2 a.block rfl
        exact .inr (by unfold New at this; omega)
  · have q1 : ((n : Int) != (arity : Int)) = true := by rw [bne_iff_ne]; omega
    have HN1 := Lib.hid (show ss.length ≠ arity by have := HN.out; omega)
    clear h1
    go_enter Try.func61, Try.ntmps61
    go_wp2
    go_ret2
    have e0 : rowsAddR arity [] ss = (false, 30) := by unfold rowsAddR; rw [if_pos HN1.out]
    exact RetF.mk (Kp.refl _) (RowsAddedQ.same H.out (Kp.refl _) (by rw [e0]; rfl) (by unfold rowsAddL; rw [e0]; rfl))
end
end Go.Proofs.Ytfkhelihepbehaa

/- tuple.Rows whose order may still be nil: At. -/
namespace Go.Proofs.Ytfkhelihepbehaa
open Go.RowKit
set_option linter.unusedVariables false

section
variable {z : Prop} {S : Nat → Prop} {w w' : World} {b : Nat} {iv : Value} {arity : Nat} {LL : List (List ByteArray)}

/-- A row of one's own. -/
def OwnRow (w0 w : World) (v : Value) (ss : List ByteArray) : Prop := Row w 9 1 v ss.length (strs ss) (New w0)

theorem OwnRow.mono {w0 w1 w : World} {v : Value} {ss : List ByteArray} (h : OwnRow w1 w v ss) (hs : w0.heap.size ≤ w1.heap.size) : OwnRow w0 w v ss := by
  exact Row.mono (M := New w1) h fun g hg => Nat.le_trans hs hg
theorem rowsAt_nil (i : Int) (w : World) : Calls Try.prog 80 #[.pointer none, .int .i64 i] w (RetN w fun w' v => ∃ r, v = .tuple #[r, .bool false] ∧ OwnRow w w' r []) := by
  have HA := Lib.hid (setAtRow_out (S := fun _ => False) (w := w) (v := .pointer none) (zs := []) (.inl ⟨rfl, rfl⟩) i (by simp; omega))
  go_enter Try.func80, Try.ntmps80
  go_wp2_with fail
  refine (rowsSet_nil w).mono ?_
  rintro e w' ⟨rfl, rfl⟩
  go_wp2_with fail
  refine HA.out.mono ?_
  rintro e w' ⟨rfl, rfl⟩
  go_wp2_with fail
  refine (cloneStr_any [] none 0 w 0 rfl (fun i u h => by simp at h) (by simp) (by omega)).mono ?_
  rintro e w2 ⟨v, rfl, hk2, hr2⟩
  obtain ⟨ao2, cap2, ev, _, _⟩ := hr2.shape
  subst ev
  have HR := Lib.hid (And.intro hk2 hr2); clear hk2 hr2
  go_wp2
  go_ret2
  exact RetN.mk HR.out.1 ⟨_, rfl, HR.out.2⟩

set_option maxRecDepth 100000 in
theorem rowsAt_out (h : RowsQ z S w b iv arity LL) (i : Int) (hi : i < 0 ∨ LL.length ≤ i) :
    Calls Try.prog 80 #[.pointer (some ⟨b, 0, none⟩), .int .i64 i] w (RetF (FQ z b) w fun w' v => ∃ r, v = .tuple #[r, .bool false] ∧ RowsAt S w' b iv arity LL ∧ OwnRow w w' r []) := by
  have HS := Lib.hid (rowsSet_q h); clear h
  go_enter Try.func80, Try.ntmps80
  go_wp2_with fail
  refine HS.out.mono ?_
  rintro e w1 ⟨v, rfl, hk, rfl, h1⟩
  have HK := Lib.hid (And.intro hk h1)
  obtain ⟨con, zs, hc, hs, hl⟩ := h1
  have HA := Lib.hid (setAtRow_out (v := .pointer (some ⟨b, 0, none⟩)) (.inr ⟨_, _, _, _, _, _, _, rfl, hs⟩) i (by rw [← hl] at hi; simpa using hi))
  clear hk hs hc hl hi
  go_wp2_with fail
  refine HA.out.mono ?_
  rintro e w' ⟨rfl, rfl⟩
  go_wp2_with fail
  refine (cloneStr_any [] none 0 w1 0 rfl (fun i u h => by simp at h) (by simp) (by omega)).mono ?_
  rintro e w2 ⟨v, rfl, hk2, hr2⟩
  obtain ⟨ao2, cap2, ev, _, _⟩ := hr2.shape
  subst ev
  have HR := Lib.hid (And.intro hk2 hr2); clear hk2 hr2
  go_wp2
  go_ret2
  exact RetF.mk (HK.out.1.trans (Ext.kp HR.out.1)) ⟨_, rfl, HK.out.2.ext HR.out.1, OwnRow.mono HR.out.2 HK.out.1.size⟩

set_option maxRecDepth 100000 in
theorem rowsAt_in (h : RowsQ z S w b iv arity LL) (k : Nat) (ss : List ByteArray) (hx : LL[k]? = some ss) :
    Calls Try.prog 80 #[.pointer (some ⟨b, 0, none⟩), .int .i64 k] w (RetF (FQ z b) w fun w' v => ∃ r, v = .tuple #[r, .bool true] ∧ RowsAt S w' b iv arity LL ∧ OwnRow w w' r ss) := by
  have HS := Lib.hid (rowsSet_q h); clear h
  go_enter Try.func80, Try.ntmps80
  go_wp2_with fail
  refine HS.out.mono ?_
  rintro e w1 ⟨v, rfl, hk, rfl, h1⟩
  have HK := Lib.hid (And.intro hk h1)
  obtain ⟨con, zs, hc, hs, hl⟩ := h1
  obtain ⟨x, hz, ex⟩ : ∃ x, zs[k]? = some x ∧ con x = ss := by
    rw [← hl, List.getElem?_map] at hx
    cases hy : zs[k]? with
    | none => rw [hy] at hx; cases hx
    | some x => rw [hy] at hx; cases hx; exact ⟨x, rfl, rfl⟩
  obtain ⟨sd, hr, hsl, _⟩ := hs.all x (List.mem_of_getElem? hz)
  have esd : sd = ss := by rw [← ex, hc x sd hr]
  subst esd
  obtain ⟨ao, n, cap⟩ := x
  have HA := Lib.hid (setAtRow_in hs k (ao, n, cap) hz)
  have hn : n = sd.length := hr.1
  have HCL := Lib.hid (cloneStr_any (strs sd) ao cap w1 n (by simp [strs, hn]) hr.2 (strs_one sd) (by omega))
  have HN := Lib.hid hn
  clear hk hs hc hl hr hn hz hx ex hsl
  go_wp2_with fail
  refine HA.out.mono ?_
  rintro e w' ⟨rfl, rfl⟩
  go_wp2_with fail
  refine HCL.out.mono ?_
  rintro e w2 ⟨v, rfl, hk2, hr2⟩
  obtain ⟨ao2, cap2, ev, _, _⟩ := hr2.shape
  subst ev
  have HR := Lib.hid (And.intro hk2 hr2); clear hk2 hr2
  go_wp2
  go_ret2
  refine RetF.mk (HK.out.1.trans (Ext.kp HR.out.1)) ⟨_, rfl, HK.out.2.ext HR.out.1, ?_⟩
  have := HR.out.2
  rw [HN.out] at this
  rw [HN.out]
  exact OwnRow.mono this HK.out.1.size
end
end Go.Proofs.Ytfkhelihepbehaa

/- Lists of rows in memory: such as can be read; such as are one's own. -/
namespace Go.Proofs.Ytfkhelihepbehaa
open Go.RowKit
set_option linter.unusedVariables false

/-- A row in memory, and its texts. -/
abbrev RowP := RowZ × List ByteArray
/-- The rows' values. -/
def rowVs (ps : List RowP) : List Value := ps.map fun p => .slice p.1.1 p.1.2.1 p.1.2.2
theorem rowVs_len (ps : List RowP) : (rowVs ps).length = ps.length := by simp [rowVs]
theorem rowVs_one (ps : List RowP) : ∀ u ∈ rowVs ps, u.oneCell' = true := by intro u hu; obtain ⟨x, _, rfl⟩ := List.mem_map.1 hu; rfl
theorem rowVs_get (ps : List RowP) (k : Nat) (p : RowP) (h : ps[k]? = some p) : (rowVs ps)[k]? = some (.slice p.1.1 p.1.2.1 p.1.2.2) := by simp [rowVs, h]
theorem rowVs_append (ps qs : List RowP) : rowVs (ps ++ qs) = rowVs ps ++ rowVs qs := by simp [rowVs]

/-- Rows that lie from an address on, in blocks of S, their texts too. -/
def RowsIn (S : Nat → Prop) (w : World) (ao : Option Addr) (LL : List (List ByteArray)) : Prop :=
  ∃ ps : List RowP, LL = ps.map Prod.snd ∧ CellsAt w ao (rowVs ps) ∧ (∀ a, ao = some a → S a.block) ∧
    ∀ p ∈ ps, ReadsAs w p.1 p.2 ∧ p.2.length ≤ 8796093021952 ∧ ∀ a, p.1.1 = some a → S a.block
/-- Rows of one's own: all blocks since lo, no block of two rows. -/
def OwnRows (lo : Nat) (w : World) (v : Value) (LL : List (List ByteArray)) : Prop :=
  ∃ ps : List RowP, LL = ps.map Prod.snd ∧ Row w 22 1 v ps.length (rowVs ps) (fun g => lo ≤ g) ∧
    (∀ p ∈ ps, Row w 9 1 (.slice p.1.1 p.1.2.1 p.1.2.2) p.2.length (strs p.2) (fun g => lo ≤ g) ∧ p.2.length ≤ 8796093021952) ∧
    ps.Pairwise fun p q => ∀ g, (Value.slice p.1.1 p.1.2.1 p.1.2.2).ownBlock = some g → (Value.slice q.1.1 q.1.2.1 q.1.2.2).ownBlock ≠ some g

section
variable {S S' : Nat → Prop} {w w' : World} {ao : Option Addr} {LL : List (List ByteArray)} {v : Value} {lo : Nat}
theorem RowsIn.nil (S : Nat → Prop) (w : World) : RowsIn S w none [] := ⟨[], rfl, CellsAt.nil _ _, fun a e => (by cases e), by simp⟩
theorem RowsIn.kp {F : Nat → Prop} (h : RowsIn S w ao LL) (hk : Kp F w w') (hF : ∀ k, F k → ¬ S k) : RowsIn S w' ao LL := by
  obtain ⟨ps, h1, h2, h3, h4⟩ := h
  exact ⟨ps, h1, h2.kp hk (fun a e hf => hF _ hf (h3 a e)), h3, fun p hp => ⟨⟨(h4 p hp).1.1, (h4 p hp).1.2.kp hk (fun a e hf => hF _ hf ((h4 p hp).2.2 a e))⟩, (h4 p hp).2⟩⟩
theorem RowsIn.ext (h : RowsIn S w ao LL) (hk : Ext w w') : RowsIn S w' ao LL := h.kp hk fun _ x => x.elim
theorem RowsIn.mono (h : RowsIn S w ao LL) (hs : ∀ k, S k → S' k) : RowsIn S' w ao LL := by
  obtain ⟨ps, h1, h2, h3, h4⟩ := h
  exact ⟨ps, h1, h2, fun a e => hs _ (h3 a e), fun p hp => ⟨(h4 p hp).1, (h4 p hp).2.1, fun a e => hs _ ((h4 p hp).2.2 a e)⟩⟩
/-- One of the rows. -/
theorem RowsIn.get (h : RowsIn S w ao LL) {k : Nat} {ss : List ByteArray} (hk : LL[k]? = some ss) :
    ∃ g o x cap, ao = some ⟨g, o, none⟩ ∧ w.cell? ⟨g, o + k, none⟩ = some (.slice x ss.length cap) ∧ CellsAt w x (strs ss) ∧ ss.length ≤ 8796093021952 ∧ ∀ a, x = some a → S a.block := by
  obtain ⟨ps, rfl, h2, h3, h4⟩ := h
  rw [List.getElem?_map] at hk
  cases hp : ps[k]? with
  | none => rw [hp] at hk; cases hk
  | some p =>
    rw [hp] at hk; cases hk
    obtain ⟨g, o, e, c⟩ := h2 k _ (rowVs_get ps k p hp)
    obtain ⟨⟨h5, h6⟩, h7, h8⟩ := h4 p (List.mem_of_getElem? hp)
    exact ⟨g, o, p.1.1, p.1.2.2, e, by rw [c, h5], h6, h7, h8⟩
/-- As a value's cells. -/
theorem RowsIn.lens (h : RowsIn S w ao LL) : ∀ ss ∈ LL, ss.length ≤ 8796093021952 := by
  obtain ⟨ps, rfl, h2, h3, h4⟩ := h
  intro ss hs
  obtain ⟨p, hp, rfl⟩ := List.mem_map.1 hs
  exact (h4 p hp).2.1

theorem Row.has {e : TypeId} {k : Nat} {n : Nat} {xs : List Value} {M : Nat → Prop} (h : Row w e k v n xs M) {g : Nat} (hg : v.ownBlock = some g) : ∃ cs, Blk w g cs e ∧ n * k ≤ cs.length ∧ M g := by
  obtain ⟨h1, ⟨rfl, rfl⟩ | ⟨g', cap, rest, rfl, b, c, d, e, f⟩⟩ := h
  · cases hg
  · cases hg
    exact ⟨_, c, by simp at d ⊢; omega, b⟩
theorem Row.sort_ne {e e' : TypeId} {k k' : Nat} {n n' : Nat} {xs xs' : List Value} {M M' : Nat → Prop} {v' : Value} (h : Row w e k v n xs M) (h' : Row w e' k' v' n' xs' M') (he : e ≠ e') {g : Nat} (hg : v.ownBlock = some g) : v'.ownBlock ≠ some g := by
  intro hg'
  obtain ⟨cs, hb, _⟩ := h.has hg
  obtain ⟨cs', hb', _⟩ := h'.has hg'
  unfold Blk at hb hb'
  rw [hb] at hb'
  simp only [Option.some.injEq, Obj.cells.injEq] at hb'
  exact he hb'.2.1

theorem OwnRows.nil (lo : Nat) (w : World) : OwnRows lo w (.slice none 0 0) [] := ⟨[], rfl, Row.nil _ _ _ _, by simp, List.Pairwise.nil⟩
theorem OwnRows.kp {F : Nat → Prop} (h : OwnRows lo w v LL) (hk : Kp F w w') (hF : ∀ g, lo ≤ g → ¬ F g) : OwnRows lo w' v LL := by
  obtain ⟨ps, h1, h2, h3, h4⟩ := h
  exact ⟨ps, h1, h2.kp hk hF, fun p hp => ⟨(h3 p hp).1.kp hk hF, (h3 p hp).2⟩, h4⟩
theorem OwnRows.ext (h : OwnRows lo w v LL) (hk : Ext w w') : OwnRows lo w' v LL := h.kp hk fun _ _ => id
theorem OwnRows.mono {lo' : Nat} (h : OwnRows lo w v LL) (hl : lo' ≤ lo) : OwnRows lo' w v LL := by
  obtain ⟨ps, h1, h2, h3, h4⟩ := h
  exact ⟨ps, h1, Row.mono h2 fun g hg => Nat.le_trans hl hg, fun p hp => ⟨Row.mono (h3 p hp).1 fun g hg => Nat.le_trans hl hg, (h3 p hp).2⟩, h4⟩
theorem Row.readsAs {e : TypeId} {x : RowZ} {ss : List ByteArray} {M : Nat → Prop} (h : Row w e 1 (.slice x.1 x.2.1 x.2.2) ss.length (strs ss) M) : ReadsAs w x ss ∧ ∀ a, x.1 = some a → M a.block ∧ a.block < w.heap.size := by
  have hb := h.block
  have hl := h.lt
  obtain ⟨ao, cap, e, hc, _⟩ := h.shape
  obtain ⟨x1, x2, x3⟩ := x
  simp only [Value.slice.injEq] at e
  obtain ⟨rfl, e2, rfl⟩ := e
  refine ⟨⟨e2, hc⟩, fun a ea => ?_⟩
  simp only at ea
  subst ea
  exact ⟨hb a.block rfl, hl a.block rfl⟩
theorem OwnRows.shape (h : OwnRows lo w v LL) : ∃ ao cap, v = .slice ao LL.length cap ∧ RowsIn (fun g => lo ≤ g ∧ g < w.heap.size) w ao LL := by
  obtain ⟨ps, rfl, h2, h3, h4⟩ := h
  have hb := h2.block
  have hl := h2.lt
  obtain ⟨ao, cap, rfl, hc, _⟩ := h2.shape
  refine ⟨ao, cap, by simp, ps, rfl, hc, fun a e => ?_, fun p hp => ?_⟩
  · subst e; exact ⟨hb a.block rfl, hl a.block rfl⟩
  · obtain ⟨h5, h6⟩ := h3 p hp
    exact ⟨h5.readsAs.1, h6, fun a e => h5.readsAs.2 a e⟩
theorem OwnRows.lt (h : OwnRows lo w v LL) : ∀ g, v.ownBlock = some g → lo ≤ g ∧ g < w.heap.size := by
  obtain ⟨ps, rfl, h2, h3, h4⟩ := h
  exact fun g hg => ⟨h2.block g hg, h2.lt g hg⟩
/-- One more row behind them. -/
theorem OwnRows.push {ps : List RowP} (h2 : Row w 22 1 v ps.length (rowVs ps) (fun g => lo ≤ g))
    (h3 : ∀ p ∈ ps, Row w 9 1 (.slice p.1.1 p.1.2.1 p.1.2.2) p.2.length (strs p.2) (fun g => lo ≤ g) ∧ p.2.length ≤ 8796093021952)
    (h4 : ps.Pairwise fun p q => ∀ g, (Value.slice p.1.1 p.1.2.1 p.1.2.2).ownBlock = some g → (Value.slice q.1.1 q.1.2.1 q.1.2.2).ownBlock ≠ some g)
    {B : Nat} (hB : ∀ p ∈ ps, ∀ g, (Value.slice p.1.1 p.1.2.1 p.1.2.2).ownBlock = some g → g < B) (hlo : lo ≤ B) {x : RowZ} {ss : List ByteArray} (hx : Row w 9 1 (.slice x.1 x.2.1 x.2.2) ss.length (strs ss) (fun g => B ≤ g)) (hss : ss.length ≤ 8796093021952)
    {v' : Value} (hr : Row w' 22 1 v' (ps.length + 1) (rowVs ps ++ [.slice x.1 x.2.1 x.2.2]) (fun g => lo ≤ g)) (hk : Kp (fun g => v.ownBlock = some g) w w') : OwnRows lo w' v' (ps.map Prod.snd ++ [ss]) := by
  have hne : 9 ≠ 22 := by decide
  refine ⟨ps ++ [(x, ss)], by simp, ?_, fun p hp => ?_, ?_⟩
  · rw [rowVs_append]; simpa [rowVs] using hr
  · rcases List.mem_append.1 hp with hp | hp
    · exact ⟨(h3 p hp).1.kp' hk fun g hg _ hf => (h3 p hp).1.sort_ne h2 hne hg hf, (h3 p hp).2⟩
    · obtain rfl := List.mem_singleton.1 hp
      exact ⟨Row.mono (hx.kp' hk fun g hg _ hf => hx.sort_ne h2 hne hg hf) fun g hg => Nat.le_trans hlo hg, hss⟩
  · refine List.pairwise_append.2 ⟨h4, List.pairwise_singleton _ _, fun p hp q hq g hg hg' => ?_⟩
    obtain rfl := List.mem_singleton.1 hq
    have h1 := hB p hp g hg
    have h2 : B ≤ g := hx.block g hg'
    omega
end
end Go.Proofs.Ytfkhelihepbehaa

/- tuple.Rows: All: the rows, each in memory of its own. -/
namespace Go.Proofs.Ytfkhelihepbehaa
open Go.RowKit Go.Shelf
set_option linter.unusedVariables false
attribute [local go_sem] Oper.semAt_some

/-- What has been gathered between two rounds: a box with rows of its own. -/
def GotRows {α : Type} (f : α → List ByteArray) (m : Nat) (w0 : World) (b : Nat) (pre : List α) (W : World) : Prop :=
  pre.length ≤ m ∧ Kp (fun g => g = b) w0 W ∧ ∃ v, Blk W b [v] 64 ∧ OwnRows w0.heap.size W v (pre.map f)
theorem OwnRows.grown {lo : Nat} {W W' : World} {v : Value} {LL : List (List ByteArray)} {row : Option Nat} (h : OwnRows lo W v LL) (hg : W.grownBy W' row) (hr : ∀ r, row = some r → ∃ o : Obj, W.heap[r]? = some o ∧ o.isCells = false) : OwnRows lo W' v LL := by
  obtain ⟨ps, h1, h2, h3, h4⟩ := h
  exact ⟨ps, h1, h2.grown hg hr, fun p hp => ⟨(h3 p hp).1.grown hg hr, (h3 p hp).2⟩, h4⟩
theorem OwnRows.kpc {F : Nat → Prop} {lo : Nat} {w w' : World} {v : Value} {LL : List (List ByteArray)} (h : OwnRows lo w v LL) (hk : Kp F w w') (hF : ∀ g, F g → ¬ ∃ o : Obj, w.heap[g]? = some o ∧ o.isCells = true) : OwnRows lo w' v LL := by
  obtain ⟨ps, h1, h2, h3, h4⟩ := h
  have key : ∀ {e : TypeId} {k n : Nat} {v : Value} {xs : List Value} {M : Nat → Prop}, Row w e k v n xs M → Row w' e k v n xs M := fun h => h.kp' hk fun g hg _ hf => by
    obtain ⟨cs, hb, _⟩ := h.has hg
    exact hF g hf ⟨_, hb, rfl⟩
  exact ⟨ps, h1, key h2, fun p hp => ⟨key (h3 p hp).1, (h3 p hp).2⟩, h4⟩
theorem GotRows.own {α : Type} {f : α → List ByteArray} {m : Nat} {w0 : World} {b B : Nat} (hB : w0.heap.size ≤ B) : OwnFrom B (GotRows f m w0 b) := fun pre W W' row hs hg hr => by
  obtain ⟨h1, h2, v, h3, h4⟩ := hs
  refine ⟨h1, h2.grown hg fun k e hk => ?_, v, h3.grown hg fun r e => (hr r e).2, h4.grown hg fun r e => (hr r e).2⟩
  have := (hr k e).1
  omega

theorem KeepsOthers.of_ext {W W' : World} (h : Ext W W') : KeepsOthers W W' := ⟨h.size, fun k o hk _ => (h.block k (lt_of_block hk) id).trans hk⟩
/-- A row more, that was copied: the append and the store of a round. -/
theorem gotRows_app {α : Type} {f : α → List ByteArray} {m : Nat} {w0 X X1 : World} {B : Nat} {ao : Option Addr} {n cap : Nat} {pre : List α} {x : RowZ} {ss : List ByteArray} (hm : pre.length ≤ m ∧ m ≤ 1048576 * 1048576) (hpk : Kp (fun g => g = B) w0 X) (hBlt : B < w0.heap.size)
    (hB : Blk X B [.slice ao n cap] 64) (hr : OwnRows w0.heap.size X (.slice ao n cap) (pre.map f)) (hk : Ext X X1) (hx : Row X1 9 1 (.slice x.1 x.2.1 x.2.2) ss.length (strs ss) (New X)) (hss : ss.length ≤ 8796093021952) :
    ∃ ao3 n3 cap3 w3, (Builtin.append_ #[64, 64] 64 #[.slice ao n cap, .slice (some ⟨X1.heap.size, 0, none⟩) 1 1]).run Try.prog (X1.alloc (.cells #[.slice x.1 x.2.1 x.2.2] 22)) = .ok (.slice ao3 n3 cap3) w3 ∧
      w3.cell? ⟨B, 0, none⟩ = some (.slice ao n cap) ∧ w3.frozen? ⟨B, 0, none⟩ = false ∧ ∀ y, f y = ss → KeepsOthers X (w3.setCell ⟨B, 0, none⟩ (.slice ao3 n3 cap3)) ∧ Kp (fun g => g = B ∨ w0.heap.size ≤ g) X (w3.setCell ⟨B, 0, none⟩ (.slice ao3 n3 cap3)) ∧
        Kp (fun g => g = B) w0 (w3.setCell ⟨B, 0, none⟩ (.slice ao3 n3 cap3)) ∧ ∃ v, Blk (w3.setCell ⟨B, 0, none⟩ (.slice ao3 n3 cap3)) B [v] 64 ∧ OwnRows w0.heap.size (w3.setCell ⟨B, 0, none⟩ (.slice ao3 n3 cap3)) v ((pre ++ [y]).map f) := by
  obtain ⟨ps, e1, h2, h3, h4⟩ := hr
  have hlen : ps.length = pre.length := by have := congrArg List.length e1; simpa using this.symm
  obtain ⟨w2, ew2⟩ : ∃ w2, X1.alloc (.cells #[.slice x.1 x.2.1 x.2.2] 22) = w2 := ⟨_, rfl⟩
  have hk2 : Ext X w2 := by rw [← ew2]; exact hk.alloc _
  have hx2 : Row w2 9 1 (.slice x.1 x.2.1 x.2.2) ss.length (strs ss) (New X) := by rw [← ew2]; exact hx.alloc _
  have hsrc : CellsAt w2 (some ⟨X1.heap.size, 0, none⟩) [.slice x.1 x.2.1 x.2.2] := by rw [← ew2]; exact CellsAt.one X1 _ _
  have h2' := h2.ext hk2
  obtain ⟨v3, w3, hrun, hr3, hk3, _⟩ := run_app (P := Try.prog) elemRow 64 h2' (m := 1) (c := 1) rfl hsrc (by simp; rfl) (by omega) (by unfold maxLen; omega)
  obtain ⟨ao3, cap3, ev, _, _⟩ := hr3.shape
  subst ev
  have hBne : (Value.slice ao n cap).ownBlock ≠ some B := fun e => by have := h2.block B e; omega
  have hB3 : Blk w3 B [.slice ao n cap] 64 := (hB.ext hk2).kp hk3 hBne
  have hsz0 := hpk.size
  refine ⟨ao3, _, cap3, w3, by rw [ew2]; exact hrun, by rw [hB3.cell']; rfl, hB3.free 0, fun y hy => ?_⟩
  have hko : KeepsOthers w2 w3 := ⟨hk3.size, fun k o hk' ho => (hk3.block k (lt_of_block hk') (fun hg => by
    obtain ⟨cs, hb, _⟩ := h2'.has hg
    unfold Blk at hb
    rw [hb] at hk'; cases hk'; cases ho)).trans hk'⟩
  have kX : Kp (fun g => g = B ∨ w0.heap.size ≤ g) X w3 := (Ext.kp hk2).trans (hk3.mono fun g _ hg => .inr (h2.block g hg))
  have k0 : Kp (fun g => g = B) w0 w3 := hpk.trans' kX fun i hi hg => by rcases hg with hg | hg; exact hg; omega
  refine ⟨((KeepsOthers.of_ext hk2).trans hko).trans (KeepsOthers.setCell _ _ _), kX.setCell (fun _ => .inl rfl) _, k0.setCell (fun _ => rfl) _, _, hB3.set 0 _, ?_⟩
  have hown : OwnRows w0.heap.size w3 (.slice ao3 (ps.length + 1) cap3) (ps.map Prod.snd ++ [ss]) :=
    OwnRows.push h2' (fun p hp => ⟨(h3 p hp).1.ext hk2, (h3 p hp).2⟩) h4 (B := X.heap.size) (fun p hp g hg => (h3 p hp).1.lt g hg) hsz0 hx2 hss
      (hr3.mono fun g hg => by rcases hg with hg | hg; exact h2.block g hg; exact Nat.le_trans hsz0 (Nat.le_trans hk2.size hg)) hk3
  rw [List.map_append, List.map_singleton, hy, e1]
  exact hown.kp (Kp.setCell (F := fun g => g = B) (Kp.refl _) (fun _ => rfl) _) fun g hg e => by omega

/-- An append in a region, inside a fence. -/
theorem stepIn_app {F : Fence} {n : Nat} {P : Program} {o : Oper} {a : Act} {w w' : World} {K : Act → World → Prop} {Q : Exit → Act → World → Prop} {b : Bool} {p : Prop} [Decidable (b = true)] (s x : Operand) {t : TypeId} {v vx v' : Value}
    (ho : o.op = .call { callee := .builtin .append, args := #[s, x], argTypes := #[t, t] }) (hs : a.eval s = v) (hx : a.eval x = vx) (hb : b = true) (hrun : (Builtin.append_ #[t, t] o.type #[v, vx]).run P w = .ok v' w') (hK : K (a.put o.dst v') w') : if b = true then Oper.wpIn F n P o a w K Q else p := by
  rw [if_pos hb]
  unfold Oper.wpIn
  refine ⟨by simp [Oper.about, ho, resolve, Target.leads, Sem.run_pure], ?_⟩
  rw [Oper.semAt_plain F _ _ (by rw [ho]; intro c hc'; cases hc')]
  simp only [execOp, ho, resolve, invoke, builtin, Sem.run_bind, Sem.run_pure, Result.andThen_ok, List.map_toArray, List.map_cons, List.map_nil, hs, hx, hrun]
  exact hK
theorem rowsAll_ret {F : Nat → Prop} {w W : World} {P : World → Value → Prop} {tmps : Array Value} {ds : List Deferred} {lo : Nat} (hm : Marks lo W ds) (hk : Kp F w W) (hlo : w.heap.size ≤ lo) {v : Value} (ht : tmps.getD 2 undef = v)
    (hP : ∀ w', Kp (fun k => lo ≤ k ∧ ¬ ∃ o : Obj, W.heap[k]? = some o ∧ o.isCells = true) W w' → P w' v) :
    bodyPostM Fence.wide 4 Try.prog Try.f75 (RetF F w P) .ret { tmps := tmps, defers := ds } W := by
  refine leaves_marks hm fun w' e1 e2 e3 e4 e5 e6 => ?_
  have kx : Kp (fun k => lo ≤ k ∧ ¬ ∃ o : Obj, W.heap[k]? = some o ∧ o.isCells = true) W w' := ⟨e1, e2, e3, by omega, fun k hk hf => by
    by_cases h : lo ≤ k
    · by_cases h2 : ∃ o : Obj, W.heap[k]? = some o ∧ o.isCells = true
      · obtain ⟨o, h2, h3⟩ := h2
        rw [h2]; exact e6 k o h2 h3
      · exact absurd ⟨h, h2⟩ hf
    · exact e5 k (by omega)⟩
  refine ⟨v, ?_, RetF.mk (hk.trans' kx fun i hi h => absurd h.1 (by omega)) (hP w' kx)⟩
  have ht' : tmps[2]?.getD undef = v := by simpa using ht
  simp [results, Try.f75, go_sem, ht']

section
variable {z : Prop} {S : Nat → Prop} {w w' : World} {b : Nat} {iv : Value} {arity : Nat} {LL : List (List ByteArray)}
theorem RowsQ.ownLt (h : RowsQ z S w b iv arity LL) : ∀ k, Owns b iv k → k < w.heap.size := by
  rcases h with ⟨con, zs, hc, hs, hl⟩ | ⟨hz, rfl, rfl, hB, h1, h2⟩
  · rintro k (rfl | hk)
    · exact hs.blk.lt
    · exact hs.row.lt k hk
  · rintro k (rfl | hk)
    · exact hB.lt
    · cases hk
/-- What set answers, in whatever world: a set whose rows can be read. -/
def SetTells (w : World) (F : Nat → Prop) (R : World → Prop) (LL : List (List ByteArray)) (rv : Value) : Prop :=
  ∀ W, Ext w W → Calls Try.prog 101 #[rv] W (RetF F W fun w' v => R w' ∧ ∃ S con, ∃ zs : List RowZ, PtrSetRow Try.prog S w' v zs ∧ (∀ k, S k → k < w.heap.size) ∧ zs.map con = LL ∧
    ∀ x ∈ zs, ∃ ss, ReadsAs w' x ss ∧ ss.length ≤ 8796093021952 ∧ (∀ a, x.1 = some a → S a.block) ∧ con x = ss)

set_option maxRecDepth 100000 in
set_option maxHeartbeats 2000000 in
theorem rowsAll_of {F : Nat → Prop} {R : World → Prop} {rv : Value} (hset : SetTells w F R LL rv) (hF : ∀ k, F k → k < w.heap.size) (hR : ∀ {W W' : World}, R W → Kp (fun g => w.heap.size ≤ g) W W' → R W') :
    Calls Try.prog 75 #[rv] w (RetF F w fun w' v => R w' ∧ OwnRows w.heap.size w' v LL) := by
  refine callsIn_wide.1 (callsIn_of_wp_marks (n := 4) Try.func75 rfl trivial ?_ rfl)
  refine wpIn_wide.2 ?_
  obtain ⟨Q, eQ⟩ : ∃ Q, Q = bodyPostM Fence.wide 4 Try.prog Try.f75 (RetF F w fun w' v => R w' ∧ OwnRows w.heap.size w' v LL) := ⟨_, rfl⟩
  rw [← eQ]
  have EQ := Lib.hid eQ; clear eQ
  have H := Lib.hid hset
  have HR := Lib.hid (And.intro hF (@hR)); clear hset hF hR
  simp only [Try.ntmps75, List.size_toArray, List.length_cons, List.length_nil, Nat.reduceAdd, Nat.reduceSub, Array.replicate_succ, Array.replicate_zero, List.push_toArray, List.append_toArray, List.nil_append, List.cons_append]
  go_wp2_with fail
  have x0 : Ext w (w.alloc (.cells #[.slice none 0 0] 64)) := (Kp.refl w).alloc _
  have b0 : Blk (w.alloc (.cells #[.slice none 0 0] 64)) w.heap.size [.slice none 0 0] 64 := Blk.new w [_] _
  refine (H.out _ x0).mono ?_
  rintro e w1 ⟨v1, rfl, hk1, hR1, S, con, zs, hp, hSw, hl, hall⟩
  have k01 : Kp F w w1 := (Ext.kp x0).trans hk1
  have b1 := b0.kp hk1 (fun e => by have := HR.out.1 _ e; omega)
  have HK1 := Lib.hid (And.intro k01 hR1)
  have hlen := hp.len
  have HS := Lib.hid (And.intro hall hl)
  have HE := Lib.hid (setEachRow_ptr hp)
  have B1 := Lib.hid b1
  have hsz1 := b1.lt
  clear hall hp hl b0 b1 hk1 k01 x0 H hR1
  go_wp2_with fail
  refine HE.out.mono ?_
  rintro e w2 ⟨v2, rfl, hk2, hit⟩
  obtain ⟨Bs, hv2, hseq⟩ := hit.sub.stops Fence.wide 3 trivial rfl (by omega)
  subst hv2
  have HQ := Lib.hid hseq; clear hseq hit
  have B2 := Lib.hid (B1.out.ext hk2)
  have HK2 := Lib.hid hk2
  have hsz2 := hk2.size
  have hn0 : zs.attach.length = zs.length := List.length_attach
  have HSW := Lib.hid hSw
  clear hk2 HE B1 hSw
  go_wp2_with fail
  refine' wpIn_wide.1 (wpIn_rangeFunc_ownG (F := Fence.wide) (n := 4) (w0 := w2) rfl (by omega) (gf := 140) (lb := #[.pointer (some ⟨Bs, 0, none⟩)]) rfl trivial (enters_of Try.func140 (by kernel_rfl) rfl)
    HQ.out SameOn.trans (SameOn.put (fun k h => h.2)) (Kp.refl w2).below (fun _ => rfl) (GotRows (fun x => con x.1) zs.length w2 w.heap.size) (fun _ _ _ => False) (GotRows.own (Nat.le_refl _)) (fun _ _ _ _ _ h _ _ => h) ⟨by simp, Kp.refl _, _, B2.out, OwnRows.nil _ _⟩ _ ?assign ?body ?done ?stop)
  case assign =>
    intro l x W K hK
    gi_wp2
    exact hK
  case body =>
    rintro l pre x X ⟨hpl, hpk, v, hB, hr⟩ hlen'
    obtain ⟨xv, xm⟩ := x
    obtain ⟨ao1, n1, cap1, ev, _⟩ : ∃ ao n cap, v = .slice ao n cap ∧ True := by obtain ⟨ao, cap, e, _⟩ := hr.shape; exact ⟨_, _, _, e, trivial⟩
    subst ev
    have HPL := Lib.hid (And.intro hpl hlen)
    obtain ⟨ss, hrd, hss, hxS, hcx⟩ := HS.out.1 xv xm
    have hrd2 : ReadsAs X xv ss := ⟨hrd.1, (hrd.2.ext HK2.out).kp hpk (fun a e hf => by have := HSW.out _ (hxS a e); omega)⟩
    clear hrd hxS
    obtain ⟨ao, n, cap⟩ := xv
    obtain ⟨hn, hcs⟩ := hrd2
    simp only at hn hcs
    have hmix : Try.prog.follows .mixedOrders = true := by kernel_rfl
    have HCL := Lib.hid (cloneStr_any (strs ss) ao cap X.drew n (by simp [strs, hn]) (hcs.ext (Kp.refl X).drew) (strs_one ss) (by omega))
    have hc0 := hB.cell 0 (by simp)
    have hf0 := hB.free 0
    simp only [List.getElem_cons_zero] at hc0
    have HB := Lib.hid (And.intro hB hr)
    have HCX := Lib.hid (And.intro hcx hn)
    clear hB hr hcx hn hcs
    gi_wp2
    refine wpIn_region_any (by kernel_rfl) ?_
    change wpAnyIn _ _ _ _ _ _ _ _ _ (World.drew _)
    refine wpAnyIn_ready (rs := [0, 1]) (by kernel_rfl) (by simp) (AllReadyIn.cons rfl (fun K hK => ?_) (AllReadyIn.cons rfl (fun K hK => ?_) AllReadyIn.nil))
    · go_simp
      refine hK _ _ ?_
      clear hK K
      refine wpAnyIn_ready (rs := [1]) (by kernel_rfl) (by simp) (AllReadyIn.cons rfl (fun K hK => ?_) AllReadyIn.nil)
      go_simp
      refine hK _ _ ?_
      clear hK K
      refine wpAnyIn_ready (rs := [2]) (by kernel_rfl) (by simp) (AllReadyIn.cons rfl (fun K hK => ?_) AllReadyIn.nil)
      go_simp
      refine And.intro trivial ?_
      refine (CallsIn.inRound l (callsIn_wide.2 HCL.out)).mono ?_
      rintro e X1 ⟨v1, rfl, hk1, hr1⟩
      obtain ⟨ao2, cap2, ev, _, _⟩ := hr1.shape
      subst ev
      rw [HCX.out.2] at hr1
      obtain ⟨ao3, n3, cap3, w3, hrunA, d1, d2, HFIN⟩ := gotRows_app (x := (ao2, ss.length, cap2)) HPL.out hpk (by omega) HB.out.1 HB.out.2 ((Kp.refl X).drew.trans hk1) hr1 hss
      rw [← HCX.out.2] at hrunA
      have HFI := Lib.hid HFIN
      clear HFIN hr1
      have e0 := hk1.cell (w := X.drew) hc0 id
      have e1 := (hk1.alloc (.cells #[.slice ao2 n cap2] 22)).cell (w := X.drew) hc0 id
      change K _ _
      refine hK _ _ ?_
      clear hK K
      refine wpAnyIn_ready (rs := [3]) (by kernel_rfl) (by simp) (AllReadyIn.cons rfl (fun K hK => ?_) AllReadyIn.nil)
      go_simp
      refine hK _ _ ?_
      clear hK K
      refine wpAnyIn_ready (rs := [4]) (by kernel_rfl) (by simp) (AllReadyIn.cons rfl (fun K hK => ?_) AllReadyIn.nil)
      refine stepIn_app (.tmp 9) (.tmp 12) rfl rfl rfl rfl hrunA ?_
      refine hK _ _ ?_
      clear hK K
      refine wpAnyIn_ready (rs := [5]) (by kernel_rfl) (by simp) (AllReadyIn.cons rfl (fun K hK => ?_) AllReadyIn.nil)
      go_simp
      refine hK _ _ ?_
      clear hK K
      refine wpAnyIn_done (by kernel_rfl) ?_ _
      obtain ⟨q1, q2, q3, q4⟩ := HFI.out ⟨(ao, n, cap), xm⟩ HCX.out.1
      refine And.intro (q1.from _) (And.intro (SameOn.of_kp q2 (fun k h => Nat.lt_of_lt_of_le h.2 hpk.size) (fun k h h' => by omega)) ⟨by rw [List.length_append]; simp; omega, q3, q4⟩)
    · go_simp
      refine hK _ _ ?_
      clear hK K
      refine wpAnyIn_ready (rs := [0, 2]) (by kernel_rfl) (by simp) (AllReadyIn.cons rfl (fun K hK => ?_) (AllReadyIn.cons rfl (fun K hK => ?_) AllReadyIn.nil))
      · go_simp
        refine hK _ _ ?_
        clear hK K
        refine wpAnyIn_ready (rs := [2]) (by kernel_rfl) (by simp) (AllReadyIn.cons rfl (fun K hK => ?_) AllReadyIn.nil)
        go_simp
        refine And.intro trivial ?_
        refine (CallsIn.inRound l (callsIn_wide.2 HCL.out)).mono ?_
        rintro e X1 ⟨v1, rfl, hk1, hr1⟩
        obtain ⟨ao2, cap2, ev, _, _⟩ := hr1.shape
        subst ev
        rw [HCX.out.2] at hr1
        obtain ⟨ao3, n3, cap3, w3, hrunA, d1, d2, HFIN⟩ := gotRows_app (x := (ao2, ss.length, cap2)) HPL.out hpk (by omega) HB.out.1 HB.out.2 ((Kp.refl X).drew.trans hk1) hr1 hss
        rw [← HCX.out.2] at hrunA
        have HFI := Lib.hid HFIN
        clear HFIN hr1
        have e0 := hk1.cell (w := X.drew) hc0 id
        have e1 := (hk1.alloc (.cells #[.slice ao2 n cap2] 22)).cell (w := X.drew) hc0 id
        change K _ _
        refine hK _ _ ?_
        clear hK K
        refine wpAnyIn_ready (rs := [3]) (by kernel_rfl) (by simp) (AllReadyIn.cons rfl (fun K hK => ?_) AllReadyIn.nil)
        go_simp
        refine hK _ _ ?_
        clear hK K
        refine wpAnyIn_ready (rs := [4]) (by kernel_rfl) (by simp) (AllReadyIn.cons rfl (fun K hK => ?_) AllReadyIn.nil)
        refine stepIn_app (.tmp 9) (.tmp 12) rfl rfl rfl rfl hrunA ?_
        refine hK _ _ ?_
        clear hK K
        refine wpAnyIn_ready (rs := [5]) (by kernel_rfl) (by simp) (AllReadyIn.cons rfl (fun K hK => ?_) AllReadyIn.nil)
        go_simp
        refine hK _ _ ?_
        clear hK K
        refine wpAnyIn_done (by kernel_rfl) ?_ _
        obtain ⟨q1, q2, q3, q4⟩ := HFI.out ⟨(ao, n, cap), xm⟩ HCX.out.1
        refine And.intro (q1.from _) (And.intro (SameOn.of_kp q2 (fun k h => Nat.lt_of_lt_of_le h.2 hpk.size) (fun k h h' => by omega)) ⟨by rw [List.length_append]; simp; omega, q3, q4⟩)
      · go_simp
        refine And.intro trivial ?_
        refine (CallsIn.inRound l (callsIn_wide.2 HCL.out)).mono ?_
        rintro e X1 ⟨v1, rfl, hk1, hr1⟩
        obtain ⟨ao2, cap2, ev, _, _⟩ := hr1.shape
        subst ev
        rw [HCX.out.2] at hr1
        obtain ⟨ao3, n3, cap3, w3, hrunA, d1, d2, HFIN⟩ := gotRows_app (x := (ao2, ss.length, cap2)) HPL.out hpk (by omega) HB.out.1 HB.out.2 ((Kp.refl X).drew.trans hk1) hr1 hss
        rw [← HCX.out.2] at hrunA
        have HFI := Lib.hid HFIN
        clear HFIN hr1
        have e0 := hk1.cell (w := X.drew) hc0 id
        have e1 := (hk1.alloc (.cells #[.slice ao2 n cap2] 22)).cell (w := X.drew) hc0 id
        change K _ _
        refine hK _ _ ?_
        clear hK K
        refine wpAnyIn_ready (rs := [0, 3]) (by kernel_rfl) (by simp) (AllReadyIn.cons rfl (fun K hK => ?_) (AllReadyIn.cons rfl (fun K hK => ?_) AllReadyIn.nil))
        · go_simp
          refine hK _ _ ?_
          clear hK K
          refine wpAnyIn_ready (rs := [3]) (by kernel_rfl) (by simp) (AllReadyIn.cons rfl (fun K hK => ?_) AllReadyIn.nil)
          go_simp
          refine hK _ _ ?_
          clear hK K
          refine wpAnyIn_ready (rs := [4]) (by kernel_rfl) (by simp) (AllReadyIn.cons rfl (fun K hK => ?_) AllReadyIn.nil)
          refine stepIn_app (.tmp 9) (.tmp 12) rfl rfl rfl rfl hrunA ?_
          refine hK _ _ ?_
          clear hK K
          refine wpAnyIn_ready (rs := [5]) (by kernel_rfl) (by simp) (AllReadyIn.cons rfl (fun K hK => ?_) AllReadyIn.nil)
          go_simp
          refine hK _ _ ?_
          clear hK K
          refine wpAnyIn_done (by kernel_rfl) ?_ _
          obtain ⟨q1, q2, q3, q4⟩ := HFI.out ⟨(ao, n, cap), xm⟩ HCX.out.1
          refine And.intro (q1.from _) (And.intro (SameOn.of_kp q2 (fun k h => Nat.lt_of_lt_of_le h.2 hpk.size) (fun k h h' => by omega)) ⟨by rw [List.length_append]; simp; omega, q3, q4⟩)
        · go_simp
          refine hK _ _ ?_
          clear hK K
          refine wpAnyIn_ready (rs := [0]) (by kernel_rfl) (by simp) (AllReadyIn.cons rfl (fun K hK => ?_) AllReadyIn.nil)
          go_simp
          refine hK _ _ ?_
          clear hK K
          refine wpAnyIn_ready (rs := [4]) (by kernel_rfl) (by simp) (AllReadyIn.cons rfl (fun K hK => ?_) AllReadyIn.nil)
          refine stepIn_app (.tmp 9) (.tmp 12) rfl rfl rfl rfl hrunA ?_
          refine hK _ _ ?_
          clear hK K
          refine wpAnyIn_ready (rs := [5]) (by kernel_rfl) (by simp) (AllReadyIn.cons rfl (fun K hK => ?_) AllReadyIn.nil)
          go_simp
          refine hK _ _ ?_
          clear hK K
          refine wpAnyIn_done (by kernel_rfl) ?_ _
          obtain ⟨q1, q2, q3, q4⟩ := HFI.out ⟨(ao, n, cap), xm⟩ HCX.out.1
          refine And.intro (q1.from _) (And.intro (SameOn.of_kp q2 (fun k h => Nat.lt_of_lt_of_le h.2 hpk.size) (fun k h h' => by omega)) ⟨by rw [List.length_append]; simp; omega, q3, q4⟩)
  case stop =>
    rintro D c pre W _ _ h _
    exact h.elim
  case done =>
    rintro D ys W2 hD hys ⟨hl2, hkd, v, hBd, hrd⟩ hd
    subst hys
    have kw : Kp F w W2 := (HK1.out.1.ext HK2.out).trans' hkd fun k hk e => by omega
    have hra : R W2 := HR.out.2 HK1.out.2 ((Ext.kp HK2.out).trans (hkd.mono fun g _ e => by omega))
    have hown : OwnRows w.heap.size W2 v LL := by
      have e : zs.attach.map (fun x => con x.1) = LL := by
        rw [← HS.out.2]
        have h : (zs.attach.map fun x : { x // x ∈ zs } => con x.1) = (zs.attach.map Subtype.val).map con := by rw [List.map_map]; rfl
        rw [h, List.attach_map_subtype_val]
      rw [e] at hrd
      exact hrd.mono (by omega)
    have hmk := (Marks.nil w2.heap.size w2).push (w' := W2) (D := D) (fun k o h ho => (hkd.block k (lt_of_block h) (fun e => by
      subst e; have hb := B2.out; unfold Blk at hb; rw [hb] at h; cases h; cases ho)).trans h) hD hD hd
    obtain ⟨ao4, cap4, ev, _⟩ := hown.shape
    subst ev
    have c0 := hBd.cell 0 (by simp)
    simp only [List.getElem_cons_zero] at c0
    have HF := Lib.hid (And.intro kw (And.intro hra (And.intro hown hmk)))
    clear kw hra hown hmk hrd hBd hkd hd
    go_wp2
    rw [EQ.out]
    obtain ⟨kw, hra, hown, hmk⟩ := HF.out
    refine rowsAll_ret hmk kw (by omega) rfl fun w' kx => ⟨HR.out.2 hra (kx.mono fun g _ h => by omega), hown.kpc kx fun g h => h.2⟩
theorem RowsAt.tells (h : RowsAt S w b iv arity LL) : ∃ con, ∃ zs : List RowZ, PtrSetRow Try.prog S w (.pointer (some ⟨b, 0, none⟩)) zs ∧ zs.map con = LL ∧
    ∀ x ∈ zs, ∃ ss, ReadsAs w x ss ∧ ss.length ≤ 8796093021952 ∧ (∀ a, x.1 = some a → S a.block) ∧ con x = ss := by
  obtain ⟨con, zs, hc, hs, hl⟩ := h
  refine ⟨con, zs, .inr ⟨_, _, _, _, _, _, _, rfl, hs⟩, hl, fun x hx => ?_⟩
  obtain ⟨ss, h1, h2, h3⟩ := hs.all x hx
  exact ⟨ss, h1, h2, h3, hc x ss h1⟩
theorem rowsAll_q (h : RowsQ z S w b iv arity LL) :
    Calls Try.prog 75 #[.pointer (some ⟨b, 0, none⟩)] w (RetF (FQ z b) w fun w' v => RowsAt S w' b iv arity LL ∧ OwnRows w.heap.size w' v LL) := by
  refine rowsAll_of (R := fun W => RowsAt S W b iv arity LL) (fun W hW => ?_) (fun k hk => by rw [hk.2]; exact h.lt) (fun {W W'} hr hk => ?_)
  · refine (rowsSet_q (h.ext hW)).mono ?_
    rintro e w1 ⟨v, rfl, hk, rfl, h1⟩
    obtain ⟨con, zs, hp, hl, hall⟩ := h1.tells
    exact RetF.mk hk ⟨h1, S, con, zs, hp, h.inS, hl, hall⟩
  · exact hr.move hk (fun k hg ho => by have := h.ownLt k ho; omega) (fun k hg hS => by have := h.inS k hS; omega) (fun _ h => h) (fun k hS => Nat.lt_of_lt_of_le (hr.inS k hS) hk.size) hr.notS
theorem rowsAll_nil (w : World) : Calls Try.prog 75 #[.pointer none] w (RetN w fun w' v => OwnRows w.heap.size w' v []) := by
  refine (rowsAll_of (w := w) (F := fun _ => False) (R := fun _ => True) (LL := []) (fun W hW => ?_) (fun k hk => hk.elim) (fun _ _ => trivial)).mono ?_
  · refine (rowsSet_nil W).mono ?_
    rintro e w1 ⟨rfl, rfl⟩
    exact RetF.mk (Kp.refl _) ⟨trivial, fun _ => False, fun _ => [], [], .inl ⟨rfl, rfl⟩, fun k hk => hk.elim, rfl, by simp⟩
  · rintro e w' ⟨v, rfl, hk, _, h⟩
    exact RetN.mk hk h
end
end Go.Proofs.Ytfkhelihepbehaa
