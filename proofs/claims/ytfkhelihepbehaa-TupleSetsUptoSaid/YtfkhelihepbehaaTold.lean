/- desk.told: what a set tells is what the document's tells. -/
import Derived.Test.YtfkhelihepbehaaSmall
import Derived.Deep.RegionHeld3
import Derived.Deep.RegionWith
namespace Go.Proofs.Ytfkhelihepbehaa
open Go.RowKit Go.Shelf
set_option linter.unusedVariables false
attribute [local go_sem] Oper.semAt_some

/-- l written over so far. -/
def SpoilAt (w0 : World) (v : Value) (n : Nat) (e : TypeId) (F : Nat → Prop) (kv : Value) (w : World) : Prop :=
  ∃ i : Nat, i ≤ n ∧ kv = .int .i64 i ∧ Kp F w0 w ∧ (n = 0 ∨ ∃ g cap cs, v = .slice (some ⟨g, 0, none⟩) n cap ∧ F g ∧ Blk w g cs e ∧ n ≤ cs.length)
/-- What has been gathered between two rounds: a box with a row of its own. -/
def GotAt (m : Nat) (w0 : World) (b : Nat) (pre : List Int) (W : World) : Prop :=
  pre.length ≤ m ∧ Kp (fun g => g = b) w0 W ∧ ∃ v, Blk W b [v] 26 ∧ Row W 3 1 v pre.length (ints pre) (New w0)
theorem GotAt.own {m : Nat} {w0 : World} {b B : Nat} (hB : w0.heap.size ≤ B) : OwnFrom B (GotAt m w0 b) := fun pre W W' row hs hg hr => by
  obtain ⟨h1, h2, v, h3, h4⟩ := hs
  refine ⟨h1, h2.grown hg fun k e hk => ?_, v, h3.grown hg fun r e => (hr r e).2, h4.grown hg fun r e => (hr r e).2⟩
  have := (hr k e).1
  omega

/-- What stays as it is while told goes on behind its first lines. -/
structure TellSt (w : World) (b5 lo Bs : Nat) (ao1 : Option Addr) (n cap1 : Nat) (zs : List Int) (W : World) (ds : List Deferred) : Prop where
  ext : Ext w W
  it : IterInt W (.func (Fn.func 127) #[] #[.pointer (some ⟨Bs, 0, none⟩)]) zs lo
  b4 : Blk W w.heap.size [.bool false] 4
  b5 : Blk W b5 [.slice ao1 n cap1] 26
  row : CellsAt W ao1 (ints zs)
  marks : Marks w.heap.size W ds
/-- The loop that breaks: between two rounds; left. -/
def FirstAt (w0 : World) (pre : List Int) (W : World) : Prop := pre = [] ∧ Ext w0 W
def LeftAt (w0 : World) (zs : List Int) (c : Code) (pre : List Int) (W : World) : Prop := (c = .exit 6 ∧ Ext w0 W) ∨ (c = .ret ∧ ∃ x, pre = [x] ∧ zs[0]? ≠ some x)
theorem Ext.grown {w0 W W' : World} {row : Option Nat} {B : Nat} (h : Ext w0 W) (hB : w0.heap.size ≤ B) (hg : W.grownBy W' row) (hr : ∀ r, row = some r → B ≤ r ∧ ∃ o : Obj, W.heap[r]? = some o ∧ o.isCells = false) : Ext w0 W' :=
  Kp.grown h hg fun k e hk => by have := (hr k e).1; omega
theorem FirstAt.own {w0 : World} {B : Nat} (hB : w0.heap.size ≤ B) : OwnFrom B (FirstAt w0) := fun pre W W' row hs hg hr => ⟨hs.1, Ext.grown hs.2 hB hg hr⟩
theorem LeftAt.own {w0 : World} {zs : List Int} {c : Code} {B : Nat} (hB : w0.heap.size ≤ B) : OwnFrom B (LeftAt w0 zs c) := fun pre W W' row hs hg hr => by
  rcases hs with ⟨h1, h2⟩ | h
  · exact .inl ⟨h1, Ext.grown h2 hB hg hr⟩
  · exact .inr h

section
variable {w : World} {b5 lo Bs : Nat} {ao1 : Option Addr} {n cap1 : Nat} {zs : List Int} {W W' : World} {ds : List Deferred}
theorem TellSt.on (h : TellSt w b5 lo Bs ao1 n cap1 zs W ds) (hk : Ext W W') : TellSt w b5 lo Bs ao1 n cap1 zs W' ds :=
  ⟨h.ext.trans hk, h.it.ext hk, h.b4.ext hk, h.b5.ext hk, h.row.ext hk, h.marks.kp hk fun _ x => x.elim⟩
theorem TellSt.push (h : TellSt w b5 lo Bs ao1 n cap1 zs W ds) (hk : Ext W W') {D : Nat} (hD : W.heap.size ≤ D) (hd : W'.heap[D]? = some (.deferred (some []))) : TellSt w b5 lo Bs ao1 n cap1 zs W' ({ target := .collected D, args := #[] } :: ds) :=
  ⟨h.ext.trans hk, h.it.ext hk, h.b4.ext hk, h.b5.ext hk, h.row.ext hk, h.marks.push (fun k o hk' _ => (hk.block k (lt_of_block hk') id).trans hk') hD (Nat.le_trans h.ext.size hD) hd⟩
end

theorem told_ret {w W : World} {tmps : Array Value} {ds : List Deferred} {b : Nat} {e : TypeId} (hm : Marks w.heap.size W ds) (hx : Ext w W) (ht : tmps.getD 4 undef = .pointer (some ⟨b, 0, none⟩)) (hB : Blk W b [.bool true] e) :
    bodyPostM Fence.wide 4 Try.prog Try.f18 (RetN w fun w' v => v = .bool true) .ret { tmps := tmps, defers := ds } W := by
  refine leaves_marks hm fun w' e1 e2 e3 e4 e5 e6 => ?_
  have hB' : Blk w' b [.bool true] e := e6 b _ hB rfl
  have c : w'.cell? ⟨b, 0, none⟩ = some (.bool true) := by rw [hB'.cell']; rfl
  refine ⟨.bool true, ?_, RetN.mk ⟨e1.trans hx.os, e2.trans hx.tape, e3.trans hx.output, by rw [e4]; exact hx.size, fun k hk _ => (e5 k hk).trans (hx.block k hk id)⟩ rfl⟩
  have ht' : tmps[4]?.getD undef = .pointer (some ⟨b, 0, none⟩) := by simpa using ht
  simp [results, Try.f18, go_sem, ht', c]
theorem setAtInt_ptr {S : Nat → Prop} {w : World} {v : Value} {zs : List Int} (h : PtrSetInt Try.prog S w v zs) (k : Nat) (x : Int) (hx : zs[k]? = some x) :
    Calls Try.prog 56 #[v, .int .i64 k] w (Ret (.tuple #[.int .i64 x, .bool true]) w) := by
  rcases h with ⟨_, rfl⟩ | ⟨b, ov, iv, tail, te, D, c, rfl, h⟩
  · cases hx
  · exact setAtInt_in h k x hx

set_option maxRecDepth 100000 in
set_option maxHeartbeats 4000000 in
theorem told_any {S : Nat → Prop} {w : World} {bd : Nat} {sv mv : Value} {which : Int} {zs : List Int} (k : Nat) (hk4 : k < 4) (c1 : w.cell? ⟨bd, k, none⟩ = some sv) (c2 : w.cell? ⟨bd, 4 + k, none⟩ = some mv)
    (hs : PtrSetInt Try.prog S w sv zs) (hm : PtrRef w mv which zs) (hn : sv = .pointer none ↔ mv = .pointer none) :
    Calls Try.prog 18 #[.pointer (some ⟨bd, 0, none⟩), .int .i64 (k : Int)] w (RetN w fun w' v => v = .bool true) := by
  refine callsIn_wide.1 (callsIn_of_wp_marks (n := 4) Try.func18 rfl trivial ?_ rfl)
  refine wpIn_wide.2 ?_
  obtain ⟨Q, eQ⟩ : ∃ Q, Q = bodyPostM Fence.wide 4 Try.prog Try.f18 (RetN w fun w' v => v = .bool true) := ⟨_, rfl⟩
  rw [← eQ]
  have EQ := Lib.hid eQ; clear eQ
  obtain ⟨p, rfl⟩ : ∃ p, sv = .pointer p := by
    rcases hs with ⟨es, _⟩ | ⟨b, ov, iv, tail, te, D, c, es, _⟩
    · exact ⟨_, es⟩
    · exact ⟨_, es⟩
  obtain ⟨q, rfl⟩ : ∃ q, mv = .pointer q := by
    rcases hm with ⟨es, _⟩ | ⟨b2, lv, es, _⟩
    · exact ⟨_, es⟩
    · exact ⟨_, es⟩
  have HS := Lib.hid hs; have HM := Lib.hid hm; have HN := Lib.hid hn; clear hs hm hn
  have C1 := Lib.hid c1
  have k0 : (k : Int) < 4 := by omega
  simp only [Try.ntmps18, List.size_toArray, List.length_cons, List.length_nil, Nat.reduceAdd, Nat.reduceSub, Array.replicate_succ, Array.replicate_zero, List.push_toArray, List.append_toArray, List.nil_append, List.cons_append]
  have x0 : Ext w (w.alloc (.cells #[.bool false] 4)) := (Kp.refl w).alloc _
  have c1' := x0.cell c1 id
  have c2' := x0.cell c2 id
  go_wp2_with fail
  refine (refItems_ptr (HM.out.ext x0)).mono ?_
  rintro e w1 ⟨v1, rfl, hk1, hr1⟩
  have hw1 := hr1.lt
  obtain ⟨ao1, cap1, e1, hc1, _⟩ := hr1.shape
  subst e1
  clear hr1
  have b4 : Blk w1 w.heap.size [.bool false] 4 := (Blk.new w [.bool false] 4).ext hk1
  have x1 := x0.trans hk1
  have d1 := x1.cell c1 id
  have d2 := x1.cell c2 id
  have HX1 := Lib.hid (And.intro x1 b4)
  have hz1 := x1.size
  have hz0 : w.heap.size < w1.heap.size := b4.lt
  clear x0 c1' c2' hk1 x1 b4
  obtain ⟨w2, ew2⟩ : ∃ w2, w1.alloc (.cells #[.slice ao1 zs.length cap1] 26) = w2 := ⟨_, rfl⟩
  have x2 : Ext w1 w2 := by rw [← ew2]; exact (Kp.refl w1).alloc _
  have c5 : w2.cell? ⟨w1.heap.size, 0, none⟩ = some (.slice ao1 zs.length cap1) := by rw [← ew2]; exact (Blk.new w1 [Value.slice ao1 zs.length cap1] 26).cell' 0
  have f1 := x2.cell d1 id
  have f2 := x2.cell d2 id
  have hz2 : w1.heap.size < w2.heap.size := by rw [← ew2]; simp
  go_wp2_with fail
  refine (setItemsInt_ptr (HS.out.ext (HX1.out.1.trans x2))).mono ?_
  rintro e w3 ⟨v3, rfl, hk3, hr3⟩
  obtain ⟨ao3, cap3, e3, hc3, _⟩ := hr3.shape
  subst e3
  have HR3 := Lib.hid hr3; clear hr3
  have g1 := hk3.cell f1 id
  have g2 := hk3.cell f2 id
  have g5 := hk3.cell c5 id
  go_wp2_with fail
  refine (setEachInt_ptr (HS.out.ext ((HX1.out.1.trans x2).trans hk3))).mono ?_
  rintro e w4 ⟨v4, rfl, hk4', hit⟩
  obtain ⟨Bs, hv4, hseq⟩ := hit.stops Fence.wide 3 trivial rfl (by omega)
  subst hv4
  have HIT := Lib.hid (And.intro hit hseq); clear hit hseq
  have h1 := hk4'.cell g1 id
  have h2 := hk4'.cell g2 id
  have h5 := hk4'.cell g5 id
  have hz3 := hk3.size
  have hz4 := hk4'.size
  have hlo3 : ∀ g, (Value.slice ao3 zs.length cap3).ownBlock = some g → w2.heap.size ≤ g ∧ g < w3.heap.size := fun g hg => ⟨HR3.out.block g hg, HR3.out.lt g hg⟩
  have HC1 := Lib.hid (hc1.ext ((x2.trans hk3).trans hk4'))
  have HC3 := Lib.hid (hc3.ext hk4')
  have HX4 := Lib.hid (And.intro (((HX1.out.1.trans x2).trans hk3).trans hk4') (((HX1.out.2.ext x2).ext hk3).ext hk4'))
  have B5 := Lib.hid (show Blk w4 w1.heap.size [.slice ao1 zs.length cap1] 26 from (by rw [← ew2] at hk3; exact ((Blk.new w1 [Value.slice ao1 zs.length cap1] 26).ext hk3).ext hk4'))
  have R3 := Lib.hid (HR3.out.ext hk4')
  clear hc1 hc3 c1 c2 d1 d2 f1 f2 g1 g2 g5 c5 hk3 hk4' ew2 x2 HX1 HR3
  have hlen : zs.length ≤ maxLen := by have := HS.out.len; unfold maxLen; omega
  have hq0 : ∀ w : World, (binOp .eql 90 (.func (Fn.func 127) #[] #[.pointer (some ⟨Bs, 0, none⟩)]) .nilFunc).run Try.prog w = .ok (.bool false) w := fun _ => by kernel_rfl
  obtain ⟨r, hq1, hq2⟩ : ∃ r : Bool, (∀ w : World, (binOp .eql 30 (.pointer p) (.pointer none)).run Try.prog w = .ok (.bool r) w) ∧ ∀ w : World, (binOp .eql 32 (.pointer q) (.pointer none)).run Try.prog w = .ok (.bool r) w := by
    have hn := HN.out
    cases p with
    | none =>
      have em := hn.1 rfl
      cases em
      exact ⟨true, fun _ => by kernel_rfl, fun _ => by kernel_rfl⟩
    | some a =>
      cases q with
      | none => have := hn.2 rfl; cases this
      | some b => exact ⟨false, fun _ => by kernel_rfl, fun _ => by kernel_rfl⟩
  have t0 : (r != r) = false := by cases r <;> rfl
  go_wp2_with fail
  go_region_held3 (fun w' => w'.cell? ⟨bd, k, none⟩ = some (.pointer p) ∧ w'.cell? ⟨bd, 4 + k, none⟩ = some (.pointer q) ∧ w'.cell? ⟨w1.heap.size, 0, none⟩ = some (.slice ao1 zs.length cap1)) (first | exact ⟨by assumption, by assumption, by assumption⟩ | go_keep)
    (first
      | (go_at_call 16; refine (ints_yes zs ao3 ao1 zs.length cap3 cap1 w4.drew rfl HC3.out HC1.out hlen).mono ?_; rintro e w5 ⟨rfl, n5, rfl⟩; have i1 : (w4.drewN (1 + n5)).cell? ⟨bd, k, none⟩ = some (.pointer p) := h1; have i2 : (w4.drewN (1 + n5)).cell? ⟨bd, 4 + k, none⟩ = some (.pointer q) := h2; have i5 : (w4.drewN (1 + n5)).cell? ⟨w1.heap.size, 0, none⟩ = some (.slice ao1 zs.length cap1) := h5)
      | (go_at_call 55; refine (setLenInt_ptr (HS.out.ext (HX4.out.1.drewN _))).mono ?_; rintro e w6 ⟨rfl, rfl⟩))
  go_wp2_with fail
  have x5 : Ext w4 (w4.drewN (1 + n5)) := (Kp.refl w4).drewN _
  generalize w4.drewN (1 + n5) = w5 at x5 ⊢
  obtain ⟨n, en⟩ : ∃ n, n = zs.length := ⟨_, rfl⟩
  have EN := Lib.hid en
  rw [← en] at hlen hlo3 ⊢
  have hn40 : n ≤ 1048576 * 1048576 := by rw [en]; exact HS.out.len
  clear hlen
  have r5 : n = 0 ∨ ∃ g cap cs, Value.slice ao3 n cap3 = .slice (some ⟨g, 0, none⟩) n cap ∧ (w2.heap.size ≤ g ∧ g < w3.heap.size) ∧ Blk w5 g cs 3 ∧ n ≤ cs.length := by
    have hr := R3.out.ext x5
    rw [← en] at hr
    obtain ⟨hx, ⟨_, h0⟩ | ⟨g, cap, rest, e, _, hB, hl, hc, _⟩⟩ := hr
    · exact .inl h0
    · refine .inr ⟨g, cap, _, e, hlo3 g (by rw [e]; rfl), hB, by omega⟩
  clear en h1 h2 h5 i1 i2 i5 hq1 hq2 t0
  go_loopw [8] (SpoilAt w5 (.slice ao3 n cap3) n 3 (fun g => w2.heap.size ≤ g ∧ g < w3.heap.size)) (fun kv _ => n - (intOf kv).toNat)
  case atStart => exact ⟨0, Nat.zero_le _, rfl, Kp.refl _, r5⟩
  case round =>
    obtain ⟨i, hi, rfl, hk5, hr5⟩ := hrel
    by_cases hlt : i < n
    · obtain h0 | ⟨g, cap, cs, e, hg, hB, hcs⟩ := hr5
      · omega
      · cases e
        have c8 := hB.cell i (by omega)
        have c9 := hB.free i
        have b1 : (i : Int) < (n : Int) := by omega
        have HB := Lib.hid hB; clear hB
        go_wp2
        go_roundw
        case rel => exact ⟨i + 1, by omega, by go_num, hk5.setCell (fun _ => hg) _, .inr ⟨g, _, _, rfl, hg, HB.out.set i _, by simpa using hcs⟩⟩
        case measure => first | (simp [intOf]; done) | (simp [intOf]; omega)
    · have hin : n = i := by omega
      subst hin
      have hwr : w4.heap.size ≤ wr.heap.size := Nat.le_trans x5.size hk5.size
      have kw : Kp (fun g => w2.heap.size ≤ g ∧ g < w3.heap.size) w4 wr := (Ext.kp x5).trans hk5
      have xw : Ext w wr := HX4.out.1.trans' kw (fun k hk h => by omega)
      have st : TellSt w w1.heap.size w3.heap.size Bs ao1 n cap1 zs wr [] :=
        ⟨xw, HIT.out.1.kp kw (fun g h => h.2), HX4.out.2.kp kw (fun h => by omega), (by have := B5.out; rw [← EN.out] at this; exact this.kp kw (fun h => by omega)), HC1.out.kp kw (fun a ea h => by have := hw1 a.block (by rw [ea]; rfl); omega), Marks.nil _ _⟩
      have ST := Lib.hid st
      have AO := Lib.hid hw1
      clear kw xw st hk5 hr5 x5 r5 hw1 hlo3 HIT HX4 B5 HC1 HC3 R3 hwr
      go_wp2_with fail
      refine wp_loop_rounds 3 ?_
      rw [rounds_succ]
      go_wp2_with fail
      obtain ⟨Wa, eWa⟩ : ∃ Wa, wr.alloc (.cells #[.slice none 0 0] 26) = Wa := ⟨_, rfl⟩
      rw [eWa]
      have xa : Ext wr Wa := by rw [← eWa]; exact (Kp.refl wr).alloc _
      have hba : Blk Wa wr.heap.size [.slice none 0 0] 26 := by rw [← eWa]; exact Blk.new wr [Value.slice none 0 0] 26
      have hra : Row Wa 3 1 (.slice none 0 0) 0 (ints []) (New Wa) := Row.nil _ _ _ _
      have hsza : wr.heap.size < Wa.heap.size := hba.lt
      obtain ⟨_, e, hseq⟩ := ST.out.it.stops Fence.wide 3 trivial rfl (by omega)
      cases e
      have HQ := Lib.hid hseq; clear hseq
      refine' wpIn_wide.1 (wpIn_rangeFunc_ownG (F := Fence.wide) (n := 4) (w0 := wr) rfl (by omega) (gf := 127) (lb := #[.pointer (some ⟨Bs, 0, none⟩)]) rfl trivial (enters_of Try.func127 (by kernel_rfl) rfl)
        HQ.out SameOn.trans (SameOn.put (fun k h => Nat.lt_trans h.2 hsza)) xa.below (fun _ => rfl) (GotAt n Wa wr.heap.size) (fun _ _ _ => False) (GotAt.own (Nat.le_refl _)) (fun _ _ _ _ _ h _ _ => h) ⟨by simp, Kp.refl _, _, hba, hra⟩ _ ?assign1 ?body1 ?done1 ?stop1)
      case assign1 =>
        intro l x W K hK
        gi_wp2
        exact hK
      case body1 =>
        rintro l pre x X ⟨hpl, hpk, v, hB, hr⟩ hlen
        have hgt : ∀ g, v.ownBlock = some g → Wa.heap.size ≤ g := fun g hg => hr.block g hg
        obtain ⟨ao, cap, ev, _, _⟩ := hr.shape
        subst ev
        have hc := hB.cell 0 (by simp)
        simp only [List.getElem_cons_zero] at hc
        have hx1 : Ext X (X.alloc (.cells #[.int .i64 x] 3)) := (Kp.refl X).alloc _
        have hc1 := hx1.cell hc id
        have HB := Lib.hid hB; have HR := Lib.hid hr; clear hB hr
        gi_wp2_with (first | (gi_at_builtin; refine Halted.out ?_))
        refine Halted.mk (wpIn_app elemInt rfl _ _ rfl (F := fun g => g = wr.heap.size) (w0 := Wa) (hpk.alloc _) (M := New Wa) (fun g h1 h2 => absurd h2 (Nat.not_lt.2 h1)) (fun g h1 => Nat.le_trans hpk.size (Nat.le_trans hx1.size h1)) rfl (HR.out.alloc _) rfl (by rfl) (CellsAt.one X (.int .i64 x) 3) (by simp; rfl) (by omega) (by unfold maxLen; omega) ?_)
        rintro v' X2 hr2 hk2 hk3 hko _
        obtain ⟨ao', cap', ev, _, _⟩ := hr2.shape
        subst ev
        have hB2 : Blk X2 wr.heap.size [.slice ao pre.length cap] 26 := (HB.out.ext hx1).kp hk3 (fun h => by have := hgt _ h; omega)
        have c6 := hB2.cell 0 (by simp)
        have f6 := hB2.free 0
        simp only [List.getElem_cons_zero] at c6
        have HR2 := Lib.hid (And.intro hr2 hB2); clear hr2 hB2
        gi_wp2
        have kx : Kp (fun g => wr.heap.size ≤ g) X (X2.setCell ⟨wr.heap.size, 0, none⟩ (.slice ao' (pre.length + 1) cap')) := ((Ext.kp hx1).trans (hk3.mono fun g _ h => Nat.le_trans (Nat.le_of_lt hsza) (hgt _ h))).setCell (fun _ => Nat.le_refl _) _
        refine ⟨(((KeepsOthers.alloc _ _).trans hko).trans (KeepsOthers.setCell _ _ _)).from _, SameOn.of_kp kx (fun k h => Nat.lt_of_lt_of_le (Nat.lt_trans h.2 hsza) hpk.size) (fun k h h' => Nat.not_le.2 h.2 h'), by rw [List.length_append, EN.out]; simp; omega, hk2.setCell (fun _ => rfl) _, _, HR2.out.2.set 0 _, ?_⟩
        have kset : Kp (fun g => g = wr.heap.size) X2 (X2.setCell ⟨wr.heap.size, 0, none⟩ (.slice ao' (pre.length + 1) cap')) := Kp.setCell (F := fun g => g = wr.heap.size) (Kp.refl X2) (fun _ => rfl) _
        have hr3 := HR2.out.1.kp kset (fun g h e => by subst e; exact absurd h (Nat.not_le.2 hsza))
        exact hr3.cast (by simp) (by simp [ints])
      case stop1 =>
        rintro D c pre W _ _ h _
        exact h.elim
      rintro D ys W2 hD hys ⟨hl21, hkd, v, hBd, hrd⟩ hd
      have hys' := hys.symm; subst hys'; clear hys
      have x2 : Ext wr W2 := xa.trans' hkd (fun i hi e => by omega)
      have st := ST.out.push x2 (by omega) hd
      obtain ⟨aog, capg, ev, hcg, hcap1⟩ := hrd.shape
      subst ev
      rw [← EN.out] at hBd
      have c10 := hBd.cell 0 (by simp)
      have c5 := st.b5.cell 0 (by simp)
      simp only [List.getElem_cons_zero] at c10 c5
      have ST2 := Lib.hid st; clear st hBd hrd
      go_wp2_with fail
      refine (ints_yes zs aog ao1 n capg cap1 W2 EN.out hcg ST2.out.row (by unfold maxLen; omega)).mono ?_
      rintro e W3 ⟨rfl, n3, rfl⟩
      have st31 := ST2.out.on ((Kp.refl W2).drewN n3)
      generalize W2.drewN n3 = wr at st31 ⊢
      have ST := Lib.hid st31
      clear st31 c10 c5 hd hkd x2 hD xa hba hra hcg hsza HQ hl21 hcap1
      go_wp2_with fail
      rw [rounds_succ]
      go_wp2_with fail
      obtain ⟨Wa, eWa⟩ : ∃ Wa, wr.alloc (.cells #[.slice none 0 0] 26) = Wa := ⟨_, rfl⟩
      rw [eWa]
      have xa : Ext wr Wa := by rw [← eWa]; exact (Kp.refl wr).alloc _
      have hba : Blk Wa wr.heap.size [.slice none 0 0] 26 := by rw [← eWa]; exact Blk.new wr [Value.slice none 0 0] 26
      have hra : Row Wa 3 1 (.slice none 0 0) 0 (ints []) (New Wa) := Row.nil _ _ _ _
      have hsza : wr.heap.size < Wa.heap.size := hba.lt
      obtain ⟨_, e, hseq⟩ := ST.out.it.stops Fence.wide 3 trivial rfl (by omega)
      cases e
      have HQ := Lib.hid hseq; clear hseq
      refine' wpIn_wide.1 (wpIn_rangeFunc_ownG (F := Fence.wide) (n := 4) (w0 := wr) rfl (by omega) (gf := 127) (lb := #[.pointer (some ⟨Bs, 0, none⟩)]) rfl trivial (enters_of Try.func127 (by kernel_rfl) rfl)
        HQ.out SameOn.trans (SameOn.put (fun k h => Nat.lt_trans h.2 hsza)) xa.below (fun _ => rfl) (GotAt n Wa wr.heap.size) (fun _ _ _ => False) (GotAt.own (Nat.le_refl _)) (fun _ _ _ _ _ h _ _ => h) ⟨by simp, Kp.refl _, _, hba, hra⟩ _ ?assign2 ?body2 ?done2 ?stop2)
      case assign2 =>
        intro l x W K hK
        gi_wp2
        exact hK
      case body2 =>
        rintro l pre x X ⟨hpl, hpk, v, hB, hr⟩ hlen
        have hgt : ∀ g, v.ownBlock = some g → Wa.heap.size ≤ g := fun g hg => hr.block g hg
        obtain ⟨ao, cap, ev, _, _⟩ := hr.shape
        subst ev
        have hc := hB.cell 0 (by simp)
        simp only [List.getElem_cons_zero] at hc
        have hx1 : Ext X (X.alloc (.cells #[.int .i64 x] 3)) := (Kp.refl X).alloc _
        have hc1 := hx1.cell hc id
        have HB := Lib.hid hB; have HR := Lib.hid hr; clear hB hr
        gi_wp2_with (first | (gi_at_builtin; refine Halted.out ?_))
        refine Halted.mk (wpIn_app elemInt rfl _ _ rfl (F := fun g => g = wr.heap.size) (w0 := Wa) (hpk.alloc _) (M := New Wa) (fun g h1 h2 => absurd h2 (Nat.not_lt.2 h1)) (fun g h1 => Nat.le_trans hpk.size (Nat.le_trans hx1.size h1)) rfl (HR.out.alloc _) rfl (by rfl) (CellsAt.one X (.int .i64 x) 3) (by simp; rfl) (by omega) (by unfold maxLen; omega) ?_)
        rintro v' X2 hr2 hk2 hk3 hko _
        obtain ⟨ao', cap', ev, _, _⟩ := hr2.shape
        subst ev
        have hB2 : Blk X2 wr.heap.size [.slice ao pre.length cap] 26 := (HB.out.ext hx1).kp hk3 (fun h => by have := hgt _ h; omega)
        have c6 := hB2.cell 0 (by simp)
        have f6 := hB2.free 0
        simp only [List.getElem_cons_zero] at c6
        have HR2 := Lib.hid (And.intro hr2 hB2); clear hr2 hB2
        gi_wp2
        have kx : Kp (fun g => wr.heap.size ≤ g) X (X2.setCell ⟨wr.heap.size, 0, none⟩ (.slice ao' (pre.length + 1) cap')) := ((Ext.kp hx1).trans (hk3.mono fun g _ h => Nat.le_trans (Nat.le_of_lt hsza) (hgt _ h))).setCell (fun _ => Nat.le_refl _) _
        refine ⟨(((KeepsOthers.alloc _ _).trans hko).trans (KeepsOthers.setCell _ _ _)).from _, SameOn.of_kp kx (fun k h => Nat.lt_of_lt_of_le (Nat.lt_trans h.2 hsza) hpk.size) (fun k h h' => Nat.not_le.2 h.2 h'), by rw [List.length_append, EN.out]; simp; omega, hk2.setCell (fun _ => rfl) _, _, HR2.out.2.set 0 _, ?_⟩
        have kset : Kp (fun g => g = wr.heap.size) X2 (X2.setCell ⟨wr.heap.size, 0, none⟩ (.slice ao' (pre.length + 1) cap')) := Kp.setCell (F := fun g => g = wr.heap.size) (Kp.refl X2) (fun _ => rfl) _
        have hr3 := HR2.out.1.kp kset (fun g h e => by subst e; exact absurd h (Nat.not_le.2 hsza))
        exact hr3.cast (by simp) (by simp [ints])
      case stop2 =>
        rintro D c pre W _ _ h _
        exact h.elim
      rintro D ys W2 hD hys ⟨hl22, hkd, v, hBd, hrd⟩ hd
      have hys' := hys.symm; subst hys'; clear hys
      have x2 : Ext wr W2 := xa.trans' hkd (fun i hi e => by omega)
      have st := ST.out.push x2 (by omega) hd
      obtain ⟨aog, capg, ev, hcg, hcap2⟩ := hrd.shape
      subst ev
      rw [← EN.out] at hBd
      have c10 := hBd.cell 0 (by simp)
      have c5 := st.b5.cell 0 (by simp)
      simp only [List.getElem_cons_zero] at c10 c5
      have ST2 := Lib.hid st; clear st hBd hrd
      go_wp2_with fail
      refine (ints_yes zs aog ao1 n capg cap1 W2 EN.out hcg ST2.out.row (by unfold maxLen; omega)).mono ?_
      rintro e W3 ⟨rfl, n3, rfl⟩
      have st32 := ST2.out.on ((Kp.refl W2).drewN n3)
      generalize W2.drewN n3 = wr at st32 ⊢
      have ST := Lib.hid st32
      clear st32 c10 c5 hd hkd x2 hD xa hba hra hcg hsza HQ hl22 hcap2
      go_wp2_with fail
      rw [rounds_succ]
      go_wp2_with fail
      obtain ⟨_, e, hseq⟩ := ST.out.it.stops Fence.wide 3 trivial rfl (by omega)
      cases e
      have HQ := Lib.hid hseq; clear hseq
      refine' wpIn_wide.1 (wpIn_rangeFunc_ownG (F := Fence.wide) (n := 4) (w0 := wr) rfl (by omega) (gf := 127) (lb := #[.pointer (some ⟨Bs, 0, none⟩)]) rfl trivial (enters_of Try.func127 (by kernel_rfl) rfl)
        HQ.out SameOn.trans (SameOn.put (fun k h => h.2)) (Kp.refl wr).below (fun _ => rfl) (FirstAt wr) (LeftAt wr zs) (FirstAt.own (Nat.le_refl _)) (fun _ => LeftAt.own (Nat.le_refl _)) ⟨rfl, Kp.refl _⟩ _ ?assign ?body ?done ?stop)
      case assign =>
        intro l x W K hK
        gi_wp2
        exact hK
      case body =>
        rintro l pre x X ⟨rfl, hx⟩ hlen
        have hst := ST.out.on hx
        have c5 := hst.b5.cell 0 (by simp)
        have c4 := hst.b4.cell 0 (by simp)
        have f4 := hst.b4.free 0
        simp only [List.getElem_cons_zero] at c5 c4
        obtain ⟨z0, hz0'⟩ : ∃ z0, zs[0]? = some z0 := ⟨_, List.getElem?_eq_getElem (by simpa using hlen)⟩
        obtain ⟨g0, o0, ea, c0⟩ := hst.row 0 (.int .i64 z0) (by simp [ints, hz0'])
        simp only [Nat.add_zero] at c0
        have l0 : (0 : Int) < (n : Int) := by have := EN.out; simp at hlen; omega
        have HZ := Lib.hid hz0'; clear hz0' hst
        by_cases hxz : x = z0
        · have t0 : (x != z0) = false := by simp [hxz]
          subst ea
          gi_wp2
          exact ⟨(KeepsOthers.refl X).from _, .inl ⟨rfl, hx⟩⟩
        · have t0 : (x != z0) = true := by simp [hxz]
          subst ea
          gi_wp2
          exact ⟨(KeepsOthers.setCell _ _ _).from _, .inr ⟨rfl, x, rfl, fun e => hxz (Option.some.inj (e.symm.trans HZ.out))⟩⟩
      case' done =>
        rintro D ys W2 hD hys ⟨_, hx2⟩ hd
        clear hys
      case' stop =>
        rintro D c pre W2 hD hpre hIx hd
        obtain ⟨rfl, hx2⟩ : c = .exit 6 ∧ Ext wr W2 := by
          rcases hIx with h | ⟨_, x, rfl, hne⟩
          · exact h
          · obtain ⟨t, rfl⟩ := hpre
            exact absurd rfl hne
        clear hpre hIx
        refine wpIn_wide.2 ?_
      all_goals
        have st := ST.out.push hx2 hD hd
        have c5 := st.b5.cell 0 (by simp)
        simp only [List.getElem_cons_zero] at c5
        have d1 := st.ext.cell C1.out id
        have f4 := st.b4.free 0
        have c4 := st.b4.cell 0 (by simp)
        simp only [List.getElem_cons_zero] at c4
        have STF := Lib.hid st; clear st hd hx2 hq0 hi hlt hz0 hz1 hz2 hz3 hz4 HM HN HQ ST
        go_wp2_with fail
        go_loopw [13] (fun kv wv => ∃ i : Int, -1 ≤ i ∧ i ≤ n + 1 ∧ kv = .int .i64 i ∧ wv = W2) (fun kv _ => (n + 1 - intOf kv).toNat)
        case atStart => exact ⟨-1, by omega, by omega, rfl, rfl⟩
        case round =>
          obtain ⟨i, hi1, hi2, rfl, ew⟩ := hrel
          subst ew
          by_cases hle : i ≤ n
          · have ew1 : wrap64 (i + 1) = i + 1 := by unfold wrap64; omega
            by_cases hin : 0 ≤ i ∧ i < n
            · obtain ⟨j, rfl⟩ := Int.eq_ofNat_of_zero_le hin.1
              have hj : j < zs.length := (by rw [← EN.out]; exact Int.ofNat_lt.1 hin.2)
              obtain ⟨x, hx⟩ : ∃ x, zs[j]? = some x := ⟨_, List.getElem?_eq_getElem hj⟩
              obtain ⟨g0, o0, ea, c0⟩ := STF.out.row j (.int .i64 x) (by simp [ints, hx])
              have HX := Lib.hid hx; clear hx
              obtain ⟨q1, q2⟩ := hin
              subst ea
              go_wp2_with fail
              refine (setAtInt_ptr (HS.out.ext STF.out.ext) j x HX.out).mono ?_
              rintro e w' ⟨rfl, rfl⟩
              go_wp2
              go_roundw
              case rel => exact ⟨(j : Int) + 1, by omega, by omega, by first | rfl | (congr 1; done) | (congr 1; omega), by first | rfl | trivial⟩
              case measure => first | (simp [intOf]; done) | (simp [intOf]; omega)
            · have hI : i < 0 ∨ (zs.length : Int) ≤ i := (by
                rw [← EN.out]
                by_cases h : i < 0
                · exact .inl h
                · exact .inr (Int.not_lt.1 fun h2 => hin ⟨Int.not_lt.1 h, h2⟩))
              have HI := Lib.hid hI; clear hI
              clear hin
              go_wp2_with fail
              refine (setAtInt_out (HS.out.ext STF.out.ext) i HI.out).mono ?_
              rintro e w' ⟨rfl, rfl⟩
              by_cases h0 : 0 ≤ i
              · have h1 : (n : Int) ≤ i := (by rw [EN.out]; exact HI.out.resolve_left (Int.not_lt.2 h0))
                go_wp2
                go_roundw
                case rel => exact ⟨i + 1, by omega, by omega, by first | rfl | (congr 1; done) | (congr 1; omega), by first | rfl | trivial⟩
                case measure => first | (simp [intOf]; done) | (simp [intOf]; omega)
              · go_wp2
                go_roundw
                case rel => exact ⟨i + 1, by omega, by omega, by first | rfl | (congr 1; done) | (congr 1; omega), by first | rfl | trivial⟩
                case measure => first | (simp [intOf]; done) | (simp [intOf]; omega)
          · go_wp2
            rw [EQ.out]
            exact told_ret (STF.out.marks.others (KeepsOthers.setCell _ _ _)) (STF.out.ext.setCell (fun h => absurd h (Nat.lt_irrefl _)) _) rfl (STF.out.b4.set 0 _)
end Go.Proofs.Ytfkhelihepbehaa
