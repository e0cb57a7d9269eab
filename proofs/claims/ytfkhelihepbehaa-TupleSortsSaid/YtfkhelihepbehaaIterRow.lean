/- slices.Values at [][]string: the iterator keeps its contract; tuple.Set's Each. -/
import Derived.Test.YtfkhelihepbehaaMarks
import Derived.Test.YtfkhelihepbehaaSetAtRow
namespace Go.Proofs.Ytfkhelihepbehaa
open Go.RowKit Go.Shelf
set_option linter.unusedVariables false
attribute [local go_sem] Oper.semAt_some

set_option maxRecDepth 100000 in
set_option maxHeartbeats 2000000 in
theorem values1Row_in (F : Fence) (n : Nat) (h7 : F.fn 140) (hro : F.round = none) (hn : 1 ≤ n) (S : Nat → Prop) (l Bs : Nat) (ao : Option Addr) (m cap : Nat) (zs : List (Option Addr × Nat × Nat)) (hm : m = zs.length) (hreach : m ≤ 1048576 * 1048576) (J Jx : List (Option Addr × Nat × Nat) → World → Prop)
    (hY : ∀ pre x W, J pre W → pre.length < zs.length → YieldAt F (n - 1) Try.prog l #[(Value.slice (x).1 (x).2.1 (x).2.2)] W fun e W' =>
      (e = .returned (.bool true) ∧ J (pre ++ [x]) W' ∧ SameOn S W W') ∨ (e = .returned (.bool false) ∧ Jx (pre ++ [x]) W'))
    (W : World) (hSB : S Bs) (hSa : ∀ a, ao = some a → S a.block) (hBs : W.cell? ⟨Bs, 0, none⟩ = some (.slice ao m cap)) (hc : CellsAt W ao (zs.map fun x => (Value.slice (x).1 (x).2.1 (x).2.2))) (h0 : J [] W) :
    CallsIn F n Try.prog 140 #[.func (.yield l) #[] #[], .pointer (some ⟨Bs, 0, none⟩)] W fun e W' => (∃ v, e = .returned v) ∧
      ((∃ ys, ys = zs ∧ J ys W') ∨ (∃ pre, pre <+: zs ∧ Jx pre W')) := by
  have HC := Lib.hid hc; have HM := Lib.hid hm; clear hc hm
  refine callsIn_of_wp Try.func140 rfl h7 ?_ hro
  simp only [Try.ntmps140, List.size_toArray, List.length_cons, List.length_nil, Nat.reduceAdd, Nat.reduceSub, Array.replicate_succ, Array.replicate_zero, List.push_toArray, List.append_toArray, List.nil_append, List.cons_append]
  gi_wp2
  gi_loopw [7] (fun i wr => ∃ k : Nat, k ≤ m ∧ i = .int .i64 k ∧ J (zs.take k) wr ∧ SameOn S W wr)
    (fun i _ => m - (intOf i).toNat)
  case atStart => exact ⟨0, Nat.zero_le _, rfl, h0, SameOn.refl _ _⟩
  case round =>
    obtain ⟨k, hk, rfl, hJs, hnx⟩ := hrel
    by_cases hlt : k < m
    · have hkl : k < zs.length := by rw [← HM.out]; exact hlt
      obtain ⟨x, hx⟩ : ∃ x, zs[k]? = some x := ⟨_, List.getElem?_eq_getElem hkl⟩
      obtain ⟨g, o, eao, c3⟩ := HC.out k ((Value.slice (x).1 (x).2.1 (x).2.2)) (by rw [List.getElem?_map, hx]; rfl)
      have c3' := (hnx.cell (o := o + k) (hSa _ eao)).trans c3
      have et : zs.take (k + 1) = zs.take k ++ [x] := by rw [List.take_add_one, hx]; rfl
      have ET := Lib.hid et
      have hy0 := hY _ x wr hJs (by rw [List.length_take]; omega)
      have HX := Lib.hid (And.intro hx hkl)
      clear hx hkl et c3
      subst eao
      obtain ⟨fn, tmps, assign, body, hy, hR⟩ := hy0
      gi_wp2
      refine hR.mono ?_
      rintro e W3 (⟨rfl, hJ3, hk3⟩ | ⟨rfl, hJx3⟩)
      · gi_wp2
        go_roundw
        case rel => exact ⟨k + 1, by omega, by simp, by rw [ET.out]; exact hJ3, hnx.trans hk3⟩
        case measure => first | (simp [intOf]; done) | (simp [intOf]; omega)
      · gi_wp2
        refine bodyPost_ret (results_none rfl _ _ _) rfl ?_
        exact ⟨⟨_, rfl⟩, .inr ⟨_, by rw [← ET.out]; exact List.take_prefix _ _, hJx3⟩⟩
    · obtain rfl : k = m := by omega
      gi_wp2
      go_end0
      exact ⟨⟨_, rfl⟩, .inl ⟨_, by rw [HM.out, List.take_length], hJs⟩⟩

set_option maxHeartbeats 1000000 in
theorem valuesRow_any (ao : Option Addr) (len cap : Nat) (w : World) :
    Calls Try.prog 118 #[.slice ao len cap] w (RetN w fun w' v => v = .func (.func 140) #[] #[.pointer (some ⟨w.heap.size, 0, none⟩)] ∧ w' = w.alloc (.cells #[.slice ao len cap] 64)) := by
  go_enter Try.func118, Try.ntmps118
  go_wp2
  go_ret
  exact RetN.mk ((Kp.refl w).alloc _) ⟨rfl, rfl⟩

/-- An iterator over these items: a box that holds a slice of them, both since M. -/
def IterRow (w : World) (v : Value) (zs : List (Option Addr × Nat × Nat)) (lo : Nat) : Prop :=
  ∃ Bs ao cap, v = .func (.func 140) #[] #[.pointer (some ⟨Bs, 0, none⟩)] ∧ lo ≤ Bs ∧ (∀ a, ao = some a → lo ≤ a.block ∧ a.block < w.heap.size) ∧ w.cell? ⟨Bs, 0, none⟩ = some (.slice ao zs.length cap) ∧ CellsAt w ao (zs.map fun x => (Value.slice (x).1 (x).2.1 (x).2.2)) ∧ zs.length ≤ 1048576 * 1048576
theorem IterRow.ext {w w' : World} {v : Value} {zs : List (Option Addr × Nat × Nat)} {lo : Nat} (h : IterRow w v zs lo) (hk : Ext w w') : IterRow w' v zs lo := by
  obtain ⟨Bs, ao, cap, h1, h2, h3, h4, h5, h6⟩ := h
  exact ⟨Bs, ao, cap, h1, h2, fun a e => ⟨(h3 a e).1, Nat.lt_of_lt_of_le (h3 a e).2 hk.size⟩, hk.cell h4 id, h5.ext hk, h6⟩

theorem IterRow.kp {F : Nat → Prop} {w w' : World} {v : Value} {zs : List (Option Addr × Nat × Nat)} {lo : Nat} (h : IterRow w v zs lo) (hk : Kp F w w') (hF : ∀ g, F g → g < lo) : IterRow w' v zs lo := by
  obtain ⟨Bs, ao, cap, h1, h2, h3, h4, h5, h6⟩ := h
  have off : ∀ g, lo ≤ g → ¬ F g := fun g hg hf => by have := hF g hf; omega
  exact ⟨Bs, ao, cap, h1, h2, fun a e => ⟨(h3 a e).1, Nat.lt_of_lt_of_le (h3 a e).2 hk.size⟩, hk.cell h4 (off _ h2), h5.kp hk (fun a e => off _ (h3 a e).1), h6⟩

/-- The iterator keeps its contract: all the items, in order; or a beginning of them. -/
theorem IterRow.stops {w : World} {v : Value} {zs : List (Option Addr × Nat × Nat)} {lo : Nat} (h : IterRow w v zs lo) (F : Fence) (n : Nat) (h7 : F.fn 140) (hro : F.round = none) (hn : 1 ≤ n) :
    ∃ Bs, v = .func (.func 140) #[] #[.pointer (some ⟨Bs, 0, none⟩)] ∧ SeqStopsK F n Try.prog 140 #[.pointer (some ⟨Bs, 0, none⟩)] (fun x => #[(Value.slice (x).1 (x).2.1 (x).2.2)]) (SameOn fun k => lo ≤ k ∧ k < w.heap.size) (fun ys => ys = zs) (fun pre => pre <+: zs) zs.length w := by
  obtain ⟨Bs, ao, cap, h1, h2, h3, h4, h5, h6⟩ := h
  refine ⟨Bs, h1, fun l J Jx W hW _ _ hY h0 => ?_⟩
  have hb := World.block_lt_of_cell? _ _ h4
  exact values1Row_in F n h7 hro hn _ l Bs ao zs.length cap zs rfl h6 J Jx hY W ⟨h2, hb⟩ (fun a e => h3 a e) ((Kp.of_below hW).cell h4 id) (h5.ext (Kp.of_below hW)) h0

set_option maxRecDepth 100000 in
set_option maxHeartbeats 1000000 in
theorem setEachRow_ptr {S : Nat → Prop} {w : World} {v : Value} {zs : List (Option Addr × Nat × Nat)} (h : PtrSetRow Try.prog S w v zs) :
    Calls Try.prog 115 #[v] w (RetN w fun w' r => IterRow w' r zs w.heap.size) := by
  have hl := h.len
  have HI := Lib.hid (setItemsRow_ptr h); clear h
  go_enter Try.func115, Try.ntmps115
  go_wp2_with fail
  refine HI.out.mono ?_
  rintro e w1 ⟨v1, rfl, hk, hr⟩
  have hb1 := hr.block
  have hlt := hr.lt
  obtain ⟨ao, cap, ev, hc, _⟩ := hr.shape
  subst ev
  have HK := Lib.hid (And.intro hk hc); clear hk hr hc
  go_wp2_with fail
  refine (valuesRow_any ao zs.length cap w1).mono ?_
  rintro e w2 ⟨v2, rfl, hk2, rfl, ew⟩
  have HK2 := Lib.hid (And.intro hk2 ew); clear hk2 ew
  go_wp2
  go_ret
  have hsz := HK.out.1.size
  refine RetN.mk (HK.out.1.trans HK2.out.1) ⟨w1.heap.size, ao, cap, rfl, hsz, fun a e => ?_, ?_, HK.out.2.ext HK2.out.1, hl⟩
  · subst e
    have h1 := hb1 a.block rfl
    have h2 := hlt a.block rfl
    exact ⟨h1, Nat.lt_of_lt_of_le h2 HK2.out.1.size⟩
  · rw [HK2.out.2]; exact (Blk.new w1 [Value.slice ao zs.length cap] 64).cell' 0
end Go.Proofs.Ytfkhelihepbehaa
