/- tuple.Set at []string: pick, Minus, Meet, Same. -/
import Derived.Test.YtfkhelihepbehaaSetCopyRow
namespace Go.Proofs.Ytfkhelihepbehaa
open Go.RowKit
set_option linter.unusedVariables false

/-- A test that pick may ask: of any of zs, in every world in which all old blocks are as they were. -/
def TestOnRow (P : Program) (f : FuncId) (first captured : Array Value) (w0 : World) (zs : List (Option Addr × Nat × Nat)) (p : Option Addr × Nat × Nat → Bool) : Prop :=
  (∀ args w, (callFunc f args).run P w = .ok (Next.enter f args) w) ∧ ∀ w, Ext w0 w → ∀ x ∈ zs, Calls P f (first.push ((Value.slice (x).1 (x).2.1 (x).2.2)) ++ captured) w fun e w' => e = .returned (.bool (p x)) ∧ Ext w w'

/-- Between two rounds of pick. -/
def PickAtRow (n : Nat) (w0 : World) (b : Nat) (ov : Value) (te : TypeId) (p : Option Addr × Nat × Nat → Bool) (zs : List (Option Addr × Nat × Nat)) (kv : Value) (w : World) : Prop :=
  ∃ i : Nat, i ≤ n ∧ kv = .int .i64 i ∧ Ext w0 w ∧ ∃ rv, Blk w b [ov, rv] te ∧ Row w 22 1 rv ((zs.take i).filter p).length (((zs.take i).filter p).map fun x => (Value.slice (x).1 (x).2.1 (x).2.2)) (fun g => w0.heap.size ≤ g ∧ g ≠ b)

section
variable {S : Nat → Prop} {w : World} {b : Nat} {ov iv : Value} {tail : List Value} {te : TypeId} {D : Option Addr × Nat × Nat → Prop} {c : Option Addr × Nat × Nat → Option Addr × Nat × Nat → Int} {zs : List (Option Addr × Nat × Nat)}

set_option maxRecDepth 100000 in
set_option maxHeartbeats 4000000 in
theorem setPickRow_any (h : SetAtRow Try.prog S w b ov iv tail te D c zs) (f : FuncId) (first captured : Array Value) (p : Option Addr × Nat × Nat → Bool) (hp : TestOnRow Try.prog f first captured w zs p) :
    Calls Try.prog 137 #[.pointer (some ⟨b, 0, none⟩), .func (Fn.func f) first captured] w
      (RetN w fun w' v => ∃ b' iv', v = .pointer (some ⟨b', 0, none⟩) ∧ w.heap.size ≤ b' ∧ (∀ k, iv'.ownBlock = some k → w.heap.size ≤ k) ∧ SetAtRow Try.prog S w' b' ov iv' [] 66 D c (zs.filter p)) := by
  obtain ⟨c1, c2⟩ := h.cells
  obtain ⟨ao, cap, rfl, hc, hcap⟩ := h.row.shape
  have hform := h.ord.form
  have hl := h.len
  obtain ⟨n, en⟩ : ∃ n, n = zs.length := ⟨_, rfl⟩
  rw [← en] at c2 hl hcap
  have hent := hp.1
  have HP := Lib.hid hp.2; clear hp
  have HC := Lib.hid hc; clear hc
  have EN := Lib.hid en
  have HH := Lib.hid h; clear h
  have hb0 : b < w.heap.size := HH.out.blk.lt
  clear en
  rcases hform with rfl | ⟨f1, first1, cap1, rfl⟩
  · go_enter Try.func137, Try.ntmps137
    go_wp2
    obtain ⟨b', eb⟩ : ∃ b', b' = w.heap.size := ⟨_, rfl⟩
    rw [← eb]
    have hbw : w.heap.size ≤ b' := by omega
    have EB := Lib.hid eb; clear eb
    go_loopw [19] (PickAtRow n w b' .nilFunc 66 p zs) (fun k _ => n - (intOf k).toNat)
    case atStart => exact ⟨0, Nat.zero_le _, rfl, (Kp.refl w).alloc _, .slice none 0 0, by rw [EB.out]; exact Blk.new w [_, _] _, by simpa using Row.nil _ _ _ _⟩
    case round =>
      obtain ⟨i, hi, rfl, hex, rv, hB, hr⟩ := hrel
      by_cases hlt : i < n
      · obtain ⟨x, ex⟩ : ∃ x, x = zs[i]'(by have := EN.out; omega) := ⟨_, rfl⟩
        have hx : zs[i]? = some x := by rw [ex]; exact List.getElem?_eq_getElem _
        have hmem : x ∈ zs := List.mem_of_getElem? hx
        obtain ⟨g1, o1, eao, c3⟩ := (HC.out.ext hex) i ((Value.slice (x).1 (x).2.1 (x).2.2)) (by rw [List.getElem?_map, hx]; rfl)
        subst eao
        have hstep := pick_step p zs i x hx
        have HX := Lib.hid (And.intro hx hstep); clear hx hstep ex
        obtain ⟨ao2, cap2, erv, _, _⟩ := hr.shape
        subst erv
        have hcall := HP.out _ hex x hmem
        cases hpx : p x
        · rw [hpx] at hcall
          have HPX := Lib.hid hpx; clear hpx
          have HB := Lib.hid (And.intro hB hr); clear hB hr
          go_wp2_with fail
          refine hcall.mono ?_
          clear hcall
          rintro e w1 ⟨rfl, hk1⟩
          have hex1 := hex.trans hk1
          have HB1 := Lib.hid (And.intro (HB.out.1.ext hk1) (HB.out.2.ext hk1))
          clear hk1 c3
          go_wp2
          go_roundw
          case rel =>
            refine ⟨i + 1, by omega, by first | rfl | (congr 1; done) | (congr 1; omega), hex1, _, HB1.out.1, ?_⟩
            rw [HX.out.2, HPX.out]
            simpa using HB1.out.2
          case measure => simp [intOf]; omega
        · rw [hpx] at hcall
          have HPX := Lib.hid hpx; clear hpx
          have HB := Lib.hid (And.intro hB hr); clear hB hr
          go_wp2_with fail
          refine hcall.mono ?_
          clear hcall
          rintro e w1 ⟨rfl, hk1⟩
          have hex1 := hex.trans hk1
          have hB1 := HB.out.1.ext hk1
          have hr1 := HB.out.2.ext hk1
          have d1 : w1.cell? ⟨b', 1, none⟩ = some (.slice ao2 ((zs.take i).filter p).length cap2) := by rw [hB1.cell']; rfl
          have hbl : b' < w1.heap.size := hB1.lt
          have hfl := List.length_filter_le p (zs.take i)
          have htl : (zs.take i).length ≤ n := by have := EN.out; simp; omega
          have HB1 := Lib.hid (And.intro hB1 hr1)
          clear hB1 hr1 hk1 c3
          go_wp2_with (first | (at_builtin; refine Halted.out ?_))
          refine Halted.mk (wp_app elemRow rfl _ _ rfl (F := fun _ => False) (w0 := w) (hex1.alloc (.cells #[(Value.slice (x).1 (x).2.1 (x).2.2)] 22)) (M := fun g => w.heap.size ≤ g ∧ g ≠ b') (fun g h h' => by omega) (fun g h => by rw [alloc_size] at h; have := hex1.size; exact ⟨by omega, by omega⟩) rfl (HB1.out.2.alloc _) rfl rfl (CellsAt.one w1 ((Value.slice (x).1 (x).2.1 (x).2.2)) 22) (by simp; rfl) (by omega) (by unfold maxLen; omega) ?_)
          intro v1 w2 hr2 hk2 hk3 _
          obtain ⟨ao3, cap3, ev1, _, _⟩ := hr2.shape
          subst ev1
          have hB2 : Blk w2 b' [_, .slice ao2 ((zs.take i).filter p).length cap2] 66 := (HB1.out.1.alloc _).kp hk3 (fun e => (HB1.out.2.block _ e).2 rfl)
          have d2 : w2.cell? ⟨b', 1, none⟩ = some (.slice ao2 ((zs.take i).filter p).length cap2) := by rw [hB2.cell']; rfl
          have f2 := hB2.free 1
          have HB2 := Lib.hid (And.intro hB2 hr2)
          clear hB2 hr2 hk3 d1
          go_wp2
          go_roundw
          case rel =>
            obtain ⟨hB2, hr2⟩ := HB2.out
            refine ⟨i + 1, by omega, by first | rfl | (congr 1; done) | (congr 1; omega), hk2.setCell (fun h => by exfalso; simp only at h; omega) _, _, hB2.set 1 _, ?_⟩
            rw [HX.out.2, HPX.out]
            have hr3 := hr2.kp (Kp.setCell (F := fun k => k = b') (Kp.refl w2) (p := ⟨b', 1, none⟩) (fun _ => rfl) (.slice ao3 (((zs.take i).filter p).length + 1) cap3)) (fun g h => h.2)
            simpa using hr3
          case measure => simp [intOf]; omega
      · go_wp2
        go_ret
        have hi' : zs.take i = zs := List.take_of_length_le (by have := EN.out; omega)
        rw [hi'] at hr
        have hle := List.length_filter_le p zs
        refine RetN.mk hex ⟨b', rv, rfl, by omega, (fun k hk => (hr.block k hk).1), hB, hr.own, (fun e => (hr.block _ e).2 rfl), (fun k h => Nat.lt_of_lt_of_le (HH.out.inS k h) hex.size), (fun k h hs => ?_), HH.out.ord.same (hex.same HH.out.inS fun _ _ => id), (fun x hx => HH.out.all x (List.mem_filter.1 hx).1), by have := EN.out; omega⟩
        have h1 := HH.out.inS k hs
        rcases h with h | h
        · omega
        · have := (hr.block k h).1; omega
  · go_enter Try.func137, Try.ntmps137
    go_wp2
    obtain ⟨b', eb⟩ : ∃ b', b' = w.heap.size := ⟨_, rfl⟩
    rw [← eb]
    have hbw : w.heap.size ≤ b' := by omega
    have EB := Lib.hid eb; clear eb
    go_loopw [19] (PickAtRow n w b' (.func f1 first1 cap1) 66 p zs) (fun k _ => n - (intOf k).toNat)
    case atStart => exact ⟨0, Nat.zero_le _, rfl, (Kp.refl w).alloc _, .slice none 0 0, by rw [EB.out]; exact Blk.new w [_, _] _, by simpa using Row.nil _ _ _ _⟩
    case round =>
      obtain ⟨i, hi, rfl, hex, rv, hB, hr⟩ := hrel
      by_cases hlt : i < n
      · obtain ⟨x, ex⟩ : ∃ x, x = zs[i]'(by have := EN.out; omega) := ⟨_, rfl⟩
        have hx : zs[i]? = some x := by rw [ex]; exact List.getElem?_eq_getElem _
        have hmem : x ∈ zs := List.mem_of_getElem? hx
        obtain ⟨g1, o1, eao, c3⟩ := (HC.out.ext hex) i ((Value.slice (x).1 (x).2.1 (x).2.2)) (by rw [List.getElem?_map, hx]; rfl)
        subst eao
        have hstep := pick_step p zs i x hx
        have HX := Lib.hid (And.intro hx hstep); clear hx hstep ex
        obtain ⟨ao2, cap2, erv, _, _⟩ := hr.shape
        subst erv
        have hcall := HP.out _ hex x hmem
        cases hpx : p x
        · rw [hpx] at hcall
          have HPX := Lib.hid hpx; clear hpx
          have HB := Lib.hid (And.intro hB hr); clear hB hr
          go_wp2_with fail
          refine hcall.mono ?_
          clear hcall
          rintro e w1 ⟨rfl, hk1⟩
          have hex1 := hex.trans hk1
          have HB1 := Lib.hid (And.intro (HB.out.1.ext hk1) (HB.out.2.ext hk1))
          clear hk1 c3
          go_wp2
          go_roundw
          case rel =>
            refine ⟨i + 1, by omega, by first | rfl | (congr 1; done) | (congr 1; omega), hex1, _, HB1.out.1, ?_⟩
            rw [HX.out.2, HPX.out]
            simpa using HB1.out.2
          case measure => simp [intOf]; omega
        · rw [hpx] at hcall
          have HPX := Lib.hid hpx; clear hpx
          have HB := Lib.hid (And.intro hB hr); clear hB hr
          go_wp2_with fail
          refine hcall.mono ?_
          clear hcall
          rintro e w1 ⟨rfl, hk1⟩
          have hex1 := hex.trans hk1
          have hB1 := HB.out.1.ext hk1
          have hr1 := HB.out.2.ext hk1
          have d1 : w1.cell? ⟨b', 1, none⟩ = some (.slice ao2 ((zs.take i).filter p).length cap2) := by rw [hB1.cell']; rfl
          have hbl : b' < w1.heap.size := hB1.lt
          have hfl := List.length_filter_le p (zs.take i)
          have htl : (zs.take i).length ≤ n := by have := EN.out; simp; omega
          have HB1 := Lib.hid (And.intro hB1 hr1)
          clear hB1 hr1 hk1 c3
          go_wp2_with (first | (at_builtin; refine Halted.out ?_))
          refine Halted.mk (wp_app elemRow rfl _ _ rfl (F := fun _ => False) (w0 := w) (hex1.alloc (.cells #[(Value.slice (x).1 (x).2.1 (x).2.2)] 22)) (M := fun g => w.heap.size ≤ g ∧ g ≠ b') (fun g h h' => by omega) (fun g h => by rw [alloc_size] at h; have := hex1.size; exact ⟨by omega, by omega⟩) rfl (HB1.out.2.alloc _) rfl rfl (CellsAt.one w1 ((Value.slice (x).1 (x).2.1 (x).2.2)) 22) (by simp; rfl) (by omega) (by unfold maxLen; omega) ?_)
          intro v1 w2 hr2 hk2 hk3 _
          obtain ⟨ao3, cap3, ev1, _, _⟩ := hr2.shape
          subst ev1
          have hB2 : Blk w2 b' [_, .slice ao2 ((zs.take i).filter p).length cap2] 66 := (HB1.out.1.alloc _).kp hk3 (fun e => (HB1.out.2.block _ e).2 rfl)
          have d2 : w2.cell? ⟨b', 1, none⟩ = some (.slice ao2 ((zs.take i).filter p).length cap2) := by rw [hB2.cell']; rfl
          have f2 := hB2.free 1
          have HB2 := Lib.hid (And.intro hB2 hr2)
          clear hB2 hr2 hk3 d1
          go_wp2
          go_roundw
          case rel =>
            obtain ⟨hB2, hr2⟩ := HB2.out
            refine ⟨i + 1, by omega, by first | rfl | (congr 1; done) | (congr 1; omega), hk2.setCell (fun h => by exfalso; simp only at h; omega) _, _, hB2.set 1 _, ?_⟩
            rw [HX.out.2, HPX.out]
            have hr3 := hr2.kp (Kp.setCell (F := fun k => k = b') (Kp.refl w2) (p := ⟨b', 1, none⟩) (fun _ => rfl) (.slice ao3 (((zs.take i).filter p).length + 1) cap3)) (fun g h => h.2)
            simpa using hr3
          case measure => simp [intOf]; omega
      · go_wp2
        go_ret
        have hi' : zs.take i = zs := List.take_of_length_le (by have := EN.out; omega)
        rw [hi'] at hr
        have hle := List.length_filter_le p zs
        refine RetN.mk hex ⟨b', rv, rfl, by omega, (fun k hk => (hr.block k hk).1), hB, hr.own, (fun e => (hr.block _ e).2 rfl), (fun k h => Nat.lt_of_lt_of_le (HH.out.inS k h) hex.size), (fun k h hs => ?_), HH.out.ord.same (hex.same HH.out.inS fun _ _ => id), (fun x hx => HH.out.all x (List.mem_filter.1 hx).1), by have := EN.out; omega⟩
        have h1 := HH.out.inS k hs
        rcases h with h | h
        · omega
        · have := (hr.block k h).1; omega
end
end Go.Proofs.Ytfkhelihepbehaa
