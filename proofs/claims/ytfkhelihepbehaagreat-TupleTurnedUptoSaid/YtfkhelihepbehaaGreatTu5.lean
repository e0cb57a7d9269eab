/- Texts joined for a claim (RowWith, RowSame, BaseAdd, BaseAdd2, BaseDecl, BaseFrom, Names, Names2, BaseRels). -/
import Derived.Test.YtfkhelihepbehaaGreatTu4
import Derived.Deep.RegionWith
import Derived.Shelf.SlIter.Sorted
import Derived.Shelf.SlSortCmp.NoneTotal
import Derived.StillTailTactics
/- tuple.Rows: Each, Copy, with: Union, Minus, Meet; Same. -/
namespace Go.Proofs.YtfkhelihepbehaaGreat
open Go.RowKit Go.Shelf
set_option linter.unusedVariables false

/-- An iterator over rows of one's own. -/
def EachRows (lo : Nat) (w : World) (v : Value) (LL : List (List ByteArray)) : Prop :=
  ∃ Bs iv, v = .func (.func 167) #[] #[.pointer (some ⟨Bs, 0, none⟩)] ∧ lo ≤ Bs ∧ Blk w Bs [iv] 22 ∧ OwnRows lo w iv LL ∧ LL.length ≤ 1048576 * 1048576

section
variable {z z1 z2 : Prop} {S : Nat → Prop} {w w' : World} {b b1 b2 : Nat} {iv iv1 iv2 : Value} {arity arity2 : Nat} {LL L1 L2 : List (List ByteArray)}
theorem RowsAt.len (h : RowsAt S w b iv arity LL) : LL.length ≤ 1048576 * 1048576 := by
  obtain ⟨con, zs, hc, hs, hl⟩ := h
  rw [← hl, List.length_map]; exact hs.len
theorem rowsEach_nil (w : World) : Calls Tryz.prog 127 #[.pointer none] w (RetN w fun w' v => EachRows w.heap.size w' v []) := by
  go_enter Tryz.func127, Tryz.ntmps127
  go_wp2_with fail
  refine (rowsAll_nil w).mono ?_
  rintro e w1 ⟨v, rfl, hk, h1⟩
  obtain ⟨ao, cap, ev, _⟩ := h1.shape
  subst ev
  have HK := Lib.hid (And.intro hk h1); clear hk h1
  go_wp2_with fail
  refine (valuesRow_any _ _ _ w1).mono ?_
  rintro e w2 ⟨v, rfl, hk2, rfl, ew⟩
  subst ew
  go_wp2
  go_ret
  exact RetN.mk (HK.out.1.alloc _) ⟨_, _, rfl, HK.out.1.size, Blk.new w1 [_] _, HK.out.2.ext ((Kp.refl w1).alloc _), by simp⟩
theorem rowsEach_q (h : RowsQ z S w b iv arity LL) :
    Calls Tryz.prog 127 #[.pointer (some ⟨b, 0, none⟩)] w (RetF (FQ z b) w fun w' v => RowsAt S w' b iv arity LL ∧ EachRows w.heap.size w' v LL) := by
  have H := Lib.hid (rowsAll_q h); clear h
  go_enter Tryz.func127, Tryz.ntmps127
  go_wp2_with fail
  refine H.out.mono ?_
  rintro e w1 ⟨v, rfl, hk, h1, h2⟩
  obtain ⟨ao, cap, ev, _⟩ := h2.shape
  subst ev
  have HK := Lib.hid (And.intro hk (And.intro h1 h2)); clear hk h1 h2
  go_wp2_with fail
  refine (valuesRow_any _ _ _ w1).mono ?_
  rintro e w2 ⟨v, rfl, hk2, rfl, ew⟩
  subst ew
  go_wp2
  go_ret
  obtain ⟨hk, h1, h2⟩ := HK.out
  exact RetF.mk (hk.alloc _) ⟨h1.ext ((Kp.refl w1).alloc _), _, _, rfl, hk.size, Blk.new w1 [_] _, h2.ext ((Kp.refl w1).alloc _), h1.len⟩

theorem rowsCopy_nil (w : World) : Calls Tryz.prog 122 #[.pointer none] w (Ret (.pointer none) w) := by
  go_enter Tryz.func122, Tryz.ntmps122
  go_wp2
  go_ret
  exact Ret.mk rfl
/-- A set's fields, as those of Rows. -/
theorem RowsAt.boxed {w0 : World} {con : RowZ → List ByteArray} {zs : List RowZ} {te : TypeId} (h : SetAtRow Tryz.prog S w b (.func (Fn.func 41) #[] #[]) iv [] te (RowD S w0) (fun x y => cmpRow (con x) (con y)) zs) (h0 : Ext w0 w)
    (hc : ∀ x ss, ReadsAs w0 x ss → con x = ss) (arity : Nat) : RowsAt S (w.alloc (.cells #[.func (Fn.func 41) #[] #[], iv, .int .i64 arity] 98)) w.heap.size iv arity (zs.map con) := by
  have hk : Ext w (w.alloc (.cells #[.func (Fn.func 41) #[] #[], iv, .int .i64 arity] 98)) := (Kp.refl w).alloc _
  obtain ⟨con', hc'⟩ := con_ex (w.alloc (.cells #[.func (Fn.func 41) #[] #[], iv, .int .i64 arity] 98))
  have e : ∀ x ∈ zs, con' x = con x := fun x hx => by
    obtain ⟨ss, h1, h2, h3⟩ := h.all x hx
    rw [hc x ss h1, hc' x ss ⟨h1.1, h1.2.ext (h0.trans hk)⟩]
  refine ⟨con', zs, hc', ⟨Blk.new w [_, _, _] _, h.row.ext hk, fun e => ?_, fun k hS => ?_, fun k ho hS => ?_, rows_ord hc', fun x hx => ?_, h.len⟩, List.map_congr_left e⟩
  · have := h.row.lt _ e; omega
  · have := h.inS k hS; rw [alloc_size]; omega
  · rcases ho with rfl | ho
    · have := h.inS _ hS; omega
    · exact h.notS k (.inr ho) hS
  · obtain ⟨ss, h1, h2, h3⟩ := h.all x hx
    exact ⟨ss, ⟨h1.1, h1.2.ext (h0.trans hk)⟩, h2, h3⟩
set_option maxRecDepth 100000 in
set_option maxHeartbeats 1000000 in
theorem rowsCopy_q (h : RowsQ z S w b iv arity LL) :
    Calls Tryz.prog 122 #[.pointer (some ⟨b, 0, none⟩)] w (RetF (FQ z b) w fun w' v => RowsAt S w' b iv arity LL ∧
      ∃ b' iv', v = .pointer (some ⟨b', 0, none⟩) ∧ w.heap.size ≤ b' ∧ (∀ k, iv'.ownBlock = some k → w.heap.size ≤ k) ∧ RowsAt S w' b' iv' arity LL) := by
  have c2 := h.ar
  have HS := Lib.hid (fun W (hW : Ext w W) => rowsSet_q (h.ext hW))
  clear h
  go_enter Tryz.func122, Tryz.ntmps122
  go_wp2_with fail
  go_region_with
    (first
      | (go_at_call 110; refine (HS.out _ ((Kp.refl w).drew)).mono ?_; rintro e w1 ⟨v1, rfl, hk1, rfl, h1⟩; have d2 := h1.q (z := False) |>.ar; have HK1 := Lib.hid (And.intro hk1 h1); obtain ⟨con, zs, hc, hs, hl⟩ := h1; have HC := Lib.hid (setCopyRow_any hs); have HE := Lib.hid (And.intro hc hl); clear hk1 hc hs hl)
      | (go_at_call 153; refine HC.out.mono ?_; rintro e w2 ⟨v2, rfl, hk2, b2, iv2, rfl, hb2, hi2, hs2⟩; have e2 := hk2.cell d2 id; obtain ⟨q1, q2⟩ := hs2.cells; obtain ⟨ao2, n2, cap2, ei, _⟩ : ∃ ao n cap, iv2 = .slice ao n cap ∧ True := (by obtain ⟨ao, cap, e, _⟩ := hs2.row.shape; exact ⟨_, _, _, e, trivial⟩); subst ei; have HS2 := Lib.hid (And.intro hk2 (And.intro hb2 (And.intro hi2 hs2))); clear hk2 hb2 hi2 hs2))
  all_goals
    go_wp2
    go_ret
    obtain ⟨hk1, h1⟩ := HK1.out
    obtain ⟨hk2, hb2, hi2, hs2⟩ := HS2.out
    have hz1 := hk1.size
    have hz2 := hk2.size
    have hz0 : w.heap.size ≤ w1.heap.size := hz1
    refine RetF.mk (((Kp.refl w).drew.trans hk1).ext (hk2.alloc _)) ⟨h1.ext (hk2.alloc _), _, _, rfl, by omega, fun k hk => Nat.le_trans hz0 (hi2 k hk), ?_⟩
    have := RowsAt.boxed hs2 hk2 HE.out.1 arity
    rw [HE.out.2] at this
    exact this

theorem isIn_map {α β : Type} {c : α → α → Int} (f : β → α) (L : List β) (x : β) : isIn c (L.map f) (f x) = isIn (fun i j => c (f i) (f j)) L x := by
  simp [isIn, List.any_map, Function.comp_def]
/-- What a set's function answers, as rows: res of the contents. -/
def OpTells (f : FuncId) (res : List (List ByteArray) → List (List ByteArray) → List (List ByteArray)) : Prop :=
  ∀ (S : Nat → Prop) (w : World) (b1 b2 : Nat) (iv1 iv2 : Value) (a1 a2 : Nat) (L1 L2 : List (List ByteArray)), RowsAt S w b1 iv1 a1 L1 → RowsAt S w b2 iv2 a2 L2 → L1.length + L2.length ≤ 1048576 * 1048576 →
    Calls Tryz.prog f #[.pointer (some ⟨b1, 0, none⟩), .pointer (some ⟨b2, 0, none⟩)] w (RetN w fun w' v => ∃ b' iv' con zs, v = .pointer (some ⟨b', 0, none⟩) ∧ w.heap.size ≤ b' ∧ (∀ k, iv'.ownBlock = some k → w.heap.size ≤ k) ∧
      SetAtRow Tryz.prog S w' b' (.func (Fn.func 41) #[] #[]) iv' [] 96 (RowD S w) (fun x y => cmpRow (con x) (con y)) zs ∧ (∀ x ss, ReadsAs w x ss → con x = ss) ∧ zs.map con = res L1 L2)
/-- Two Rows of one world, as raw items under one reading. -/
theorem RowsAt.two (h1 : RowsAt S w b1 iv1 arity L1) (h2 : RowsAt S w b2 iv2 arity2 L2) : ∃ con, ∃ zs zs2 : List RowZ, (∀ x ss, ReadsAs w x ss → con x = ss) ∧
    SetAtRow Tryz.prog S w b1 (.func (Fn.func 41) #[] #[]) iv1 [.int .i64 arity] 98 (RowD S w) (fun x y => cmpRow (con x) (con y)) zs ∧
    PtrSetRow Tryz.prog S w (.pointer (some ⟨b2, 0, none⟩)) zs2 ∧ (∀ x ∈ zs2, RowD S w x) ∧ zs.map con = L1 ∧ zs2.map con = L2 := by
  obtain ⟨con, zs, hc, hs, hl⟩ := h1
  obtain ⟨con2, zs2, hc2, hs2, hl2⟩ := h2
  refine ⟨con, zs, zs2, hc, hs, .inr ⟨_, _, _, _, _, _, _, rfl, hs2⟩, hs2.all, hl, ?_⟩
  rw [← hl2]
  refine List.map_congr_left fun x hx => ?_
  obtain ⟨ss, q1, q2, q3⟩ := hs2.all x hx
  rw [hc x ss q1, hc2 x ss q1]
theorem union_tells : OpTells 155 (fun L1 L2 => newS cmpRow (L1 ++ L2)) := by
  intro S w b1 b2 iv1 iv2 a1 a2 L1 L2 h1 h2 hll
  obtain ⟨con, zs, zs2, hc, hs, hp, hd, hl, hl2⟩ := h1.two h2
  refine (setUnionRow_any (cmpRow_law con) hs hp hd (by rw [← hl, ← hl2] at hll; simpa using hll)).mono ?_
  rintro e w' ⟨v, rfl, hk, b', iv', rfl, hb, hi, hs'⟩
  refine RetN.mk hk ⟨b', iv', con, _, rfl, hb, hi, hs', hc, ?_⟩
  rw [← newS_map, List.map_append, hl, hl2]
theorem rowsWith_nil1 (v f : Value) (w : World) : Calls Tryz.prog 154 #[.pointer none, v, f] w (Ret (.tuple #[.pointer none, .int .i64 1]) w) := by
  go_enter Tryz.func154, Tryz.ntmps154
  go_wp2
  go_ret2
  exact Ret.mk rfl
theorem rowsWith_nil2 (a : Addr) (f : Value) (w : World) : Calls Tryz.prog 154 #[.pointer (some a), .pointer none, f] w (Ret (.tuple #[.pointer none, .int .i64 1]) w) := by
  go_enter Tryz.func154, Tryz.ntmps154
  go_wp2
  go_ret2
  exact Ret.mk rfl
set_option maxRecDepth 100000 in
theorem rowsWith_arity (h1 : RowsQ z1 S w b1 iv1 arity L1) (h2 : RowsQ z2 S w b2 iv2 arity2 L2) (hne : arity ≠ arity2) (f : Value) : Calls Tryz.prog 154 #[.pointer (some ⟨b1, 0, none⟩), .pointer (some ⟨b2, 0, none⟩), f] w (RetD (.tuple #[.pointer none, .int .i64 30]) w) := by
  have c1 := h1.ar
  have c2 := h2.ar
  have t : ((arity : Int) != (arity2 : Int)) = true := by simp; omega
  clear h1 h2
  go_enter Tryz.func154, Tryz.ntmps154
  go_wp2
  go_region
  all_goals
    go_wp2
    go_ret2
    exact RetD.mk rfl 1

/-- What with answers, f having made L of the two. -/
def RowsWithQ (S : Nat → Prop) (w : World) (arity : Nat) (L : List (List ByteArray)) (w' : World) (v : Value) : Prop :=
  if 65536 < L.length then v = .tuple #[.pointer none, .int .i64 4]
  else ∃ b' iv', v = .tuple #[.pointer (some ⟨b', 0, none⟩), .int .i64 0] ∧ w.heap.size ≤ b' ∧ (∀ k, iv'.ownBlock = some k → w.heap.size ≤ k) ∧ RowsAt S w' b' iv' arity L
set_option maxRecDepth 100000 in
set_option maxHeartbeats 2000000 in
theorem rowsWith_q {f : FuncId} {res : List (List ByteArray) → List (List ByteArray) → List (List ByteArray)} (hf : OpTells f res) (hent : ∀ args w, (callFunc f args).run Tryz.prog w = .ok (Next.enter f args) w)
    (h1 : RowsQ z1 S w b1 iv1 arity L1) (h2 : RowsQ z2 S w b2 iv2 arity L2) (hap : ∀ k, Owns b1 iv1 k → ¬ Owns b2 iv2 k) (hll : L1.length + L2.length ≤ 1048576 * 1048576) :
    Calls Tryz.prog 154 #[.pointer (some ⟨b1, 0, none⟩), .pointer (some ⟨b2, 0, none⟩), .func (Fn.func f) #[] #[]] w
      (RetF (fun k => FQ z1 b1 k ∨ FQ z2 b2 k) w fun w' v => RowsAt S w' b1 iv1 arity L1 ∧ RowsAt S w' b2 iv2 arity L2 ∧ RowsWithQ S w arity (res L1 L2) w' v) := by
  have c1 := h1.ar
  have c2 := h2.ar
  have t : ((arity : Int) != (arity : Int)) = false := by simp
  have HS1 := Lib.hid (fun W (hW : Ext w W) => rowsSet_q (h1.ext hW))
  have HS2 := Lib.hid (fun W (hW : Kp (FQ z1 b1) w W) => rowsSet_q (h2.kp hW (fun k hk ho => hap k (FQ.owns k hk) ho) (fun k hk hS => h1.notS k (FQ.owns k hk) hS)))
  have HMV := Lib.hid (fun W W' (hr : RowsAt S W b1 iv1 arity L1) (hk : Kp (FQ z2 b2) W W') => hr.move hk (fun k hk ho => hap k ho (FQ.owns k hk)) (fun k hk hS => h2.notS k (FQ.owns k hk) hS) (fun _ h => h) (fun k hS => Nat.lt_of_lt_of_le (hr.inS k hS) hk.size) hr.notS)
  have HF := Lib.hid hf
  have HL := Lib.hid hll
  clear h1 h2 hap hll hf
  go_enter Tryz.func154, Tryz.ntmps154
  go_wp2_with fail
  go_region
  all_goals
    go_wp2_with fail
    go_region_with
      (first
        | (go_at_call 110; (with_reducible refine (HS1.out _ ?_).mono ?_); exact Kp.drewN (Kp.refl w) 2; rintro e w1 ⟨v1, rfl, hk1, rfl, hr1⟩; have d1 := (hr1.q (z := False)).ar; have HK1 := Lib.hid (And.intro ((show Kp (FQ z1 b1) w _ from Kp.drewN (Kp.refl w) 2).trans hk1) hr1); clear hk1 hr1)
        | (go_at_call 110; (with_reducible refine (HS2.out _ ?_).mono ?_); exact HK1.out.1; rintro e w2 ⟨v2, rfl, hk2, rfl, hr2⟩; have hr1' := HMV.out _ _ HK1.out.2 hk2; have e1 := (hr1'.q (z := False)).ar; have HK2 := Lib.hid (And.intro hk2 (And.intro hr1' hr2)); have HFF := Lib.hid (HF.out _ _ _ _ _ _ _ _ _ _ hr1' hr2 HL.out); clear hk2 hr1' hr2)
        | (refine HFF.out.mono ?_; rintro e w3 ⟨v3, rfl, hk3, b3, iv3, con, zs, rfl, hb3, hi3, hs3, hc3, hl3⟩; have f1 := hk3.cell e1 id; obtain ⟨q1, q2⟩ := hs3.cells; obtain ⟨ao3, n3, cap3, ei, _⟩ : ∃ ao n cap, iv3 = .slice ao n cap ∧ True := (by obtain ⟨ao, cap, e, _⟩ := hs3.row.shape; exact ⟨_, _, _, e, trivial⟩); subst ei; have HS3 := Lib.hid (And.intro hk3 (And.intro hb3 (And.intro hi3 (And.intro hs3 (And.intro hc3 hl3))))); clear hk3 hb3 hi3 hs3 hc3 hl3))
  all_goals
    obtain ⟨hk3, hb3, hi3, hs3, hc3, hl3⟩ := HS3.out
    have hbx := RowsAt.boxed hs3 hk3 hc3 arity
    rw [hl3] at hbx
    have HBX := Lib.hid hbx
    clear hk3 hb3 hi3 hs3 hc3 hl3 hbx
    go_wp2_with fail
    refine (rowsLen_any HBX.out).mono ?_
    rintro e w5 ⟨rfl, rfl⟩
    have HN := Lib.hid (rfl : (res L1 L2).length = (res L1 L2).length)
    generalize hn : (res L1 L2).length = n at HN ⊢
    have HNN := Lib.hid hn; clear hn
    by_cases h65 : 65536 < n
    · have t1 : decide ((n : Int) > 65536) = true := by simp; omega
      have t2 : decide ((65536 : Int) < (n : Int)) = true := by simp; omega
      go_wp2
      go_ret2
      obtain ⟨hk3, hb3, hi3, hs3, hc3, hl3⟩ := HS3.out
      obtain ⟨hk2, hr1, hr2⟩ := HK2.out
      have hx : Ext _ _ := hk3.alloc (.cells #[.func (Fn.func 41) #[] #[], .slice ao3 n3 cap3, .int .i64 arity] 98)
      refine RetF.mk ((((HK1.out.1.mono fun _ _ h => .inl h).trans (hk2.mono fun _ _ h => .inr h))).ext hx) ⟨hr1.ext hx, hr2.ext hx, ?_⟩
      unfold RowsWithQ
      rw [HNN.out, if_pos h65]
      rfl
    · have t1 : decide ((n : Int) > 65536) = false := by simp; omega
      have t2 : decide ((65536 : Int) < (n : Int)) = false := by simp; omega
      go_wp2
      go_ret2
      obtain ⟨hk3, hb3, hi3, hs3, hc3, hl3⟩ := HS3.out
      obtain ⟨hk2, hr1, hr2⟩ := HK2.out
      have hx : Ext _ _ := hk3.alloc (.cells #[.func (Fn.func 41) #[] #[], .slice ao3 n3 cap3, .int .i64 arity] 98)
      have hz1 := HK1.out.1.size
      have hz2 := hk2.size
      have hz3 := hk3.size
      refine RetF.mk ((((HK1.out.1.mono fun _ _ h => .inl h).trans (hk2.mono fun _ _ h => .inr h))).ext hx) ⟨hr1.ext hx, hr2.ext hx, ?_⟩
      unfold RowsWithQ
      rw [HNN.out, if_neg h65]
      exact ⟨_, _, rfl, by omega, fun k hk => by have := hi3 k hk; omega, HBX.out⟩
end
end Go.Proofs.YtfkhelihepbehaaGreat

/- tuple.Rows: Same; Union, Minus, Meet; NewRows of a bad arity. -/
namespace Go.Proofs.YtfkhelihepbehaaGreat
open Go.RowKit Go.Shelf
set_option linter.unusedVariables false

section
variable {z z1 z2 : Prop} {S : Nat → Prop} {w w' : World} {b b1 b2 : Nat} {iv iv1 iv2 : Value} {arity a1 a2 : Nat} {LL L1 L2 : List (List ByteArray)}
/-- The sets of two Rows. -/
theorem rowsSame_set (h1 : RowsAt S w b1 iv1 a1 L1) (h2 : RowsAt S w b2 iv2 a2 L2) :
    Calls Tryz.prog 112 #[.pointer (some ⟨b1, 0, none⟩), .pointer (some ⟨b2, 0, none⟩)] w (RetN w fun w' v => v = .bool (decide (L1 = L2))) := by
  obtain ⟨con, zs, zs2, hc, hs, hp, hd, hl, hl2⟩ := h1.two h2
  refine (setSameRow_any hs hp hd).mono ?_
  rintro e w' ⟨v, rfl, hk, r, rfl, hr⟩
  refine RetN.mk hk ?_
  have e : r = decide (L1 = L2) := by
    rw [Bool.eq_iff_iff, hr, decide_eq_true_iff, ← hl, ← hl2]
    constructor
    · rintro ⟨h1, h2⟩
      refine List.ext_getElem (by simpa using h1) fun i hi hj => ?_
      rw [List.length_map] at hi hj
      rw [List.getElem_map, List.getElem_map]
      exact cmpRow_zero (h2 i _ _ (List.getElem?_eq_getElem hi) (List.getElem?_eq_getElem hj))
    · intro h
      have hn := congrArg List.length h
      rw [List.length_map, List.length_map] at hn
      refine ⟨hn, fun i x y hx hy => ?_⟩
      have h3 := congrArg (fun l => l[i]?) h
      simp only [List.getElem?_map, hx, hy, Option.map_some, Option.some.injEq] at h3
      rw [h3]; exact cmpRow_self _
  rw [e]

set_option maxRecDepth 100000 in
theorem rowsSame_nil1 (v : Value) (w : World) : Calls Tryz.prog 61 #[.pointer none, v] w (RetD (.bool false) w) := by
  go_enter Tryz.func61, Tryz.ntmps61
  go_wp2
  refine wp_region_held_drew (S := fun _ => True) (by kernel_rfl) trivial (fun hHeld => ?_)
  (refine take_in (i := 0) (v := ?_) rfl ?_ ?_; rotate_left; (intro w hSw; (try dsimp only at hSw); go_simp; try with_reducible rfl)); (try simp only [Act.put, List.setIfInBounds_toArray, List.set_cons_zero, List.set_cons_succ])
  (refine take_in (i := 1) (v := ?_) rfl ?_ ?_; rotate_left; (intro w hSw; (try dsimp only at hSw); go_simp; try with_reducible rfl)); (try simp only [Act.put, List.setIfInBounds_toArray, List.set_cons_zero, List.set_cons_succ])
  (refine take_in (i := 2) (v := ?_) rfl ?_ ?_; rotate_left; (intro w hSw; (try dsimp only at hSw); go_simp; try with_reducible rfl)); (try simp only [Act.put, List.setIfInBounds_toArray, List.set_cons_zero, List.set_cons_succ])
  (first | (refine take_in (i := 3) (v := ?_) rfl ?_ ?_; rotate_left; (intro w hSw; (try dsimp only at hSw); go_simp; try with_reducible rfl)) | (refine take_out (i := 3) rfl ?_)); (try simp only [Act.put, List.setIfInBounds_toArray, List.set_cons_zero, List.set_cons_succ])
  (first | (refine take_in (i := 4) (v := ?_) rfl ?_ ?_; rotate_left; (intro w hSw; (try dsimp only at hSw); go_simp; try with_reducible rfl)) | (refine take_out (i := 4) rfl ?_)); (try simp only [Act.put, List.setIfInBounds_toArray, List.set_cons_zero, List.set_cons_succ])
  (refine take_in (i := 5) (v := ?_) rfl ?_ ?_; rotate_left; (intro w hSw; (try dsimp only at hSw); go_simp; try with_reducible rfl)); (try simp only [Act.put, List.setIfInBounds_toArray, List.set_cons_zero, List.set_cons_succ])
  (refine take_in (i := 6) (v := ?_) rfl ?_ ?_; rotate_left; (intro w hSw; (try dsimp only at hSw); go_simp; try with_reducible rfl)); (try simp only [Act.put, List.setIfInBounds_toArray, List.set_cons_zero, List.set_cons_succ])
  (first | (refine take_in (i := 7) (v := ?_) rfl ?_ ?_; rotate_left; (intro w hSw; (try dsimp only at hSw); go_simp; try with_reducible rfl)) | (refine take_out (i := 7) rfl ?_)); (try simp only [Act.put, List.setIfInBounds_toArray, List.set_cons_zero, List.set_cons_succ])
  (first | (refine take_in (i := 8) (v := ?_) rfl ?_ ?_; rotate_left; (intro w hSw; (try dsimp only at hSw); go_simp; try with_reducible rfl)) | (refine take_out (i := 8) rfl ?_)); (try simp only [Act.put, List.setIfInBounds_toArray, List.set_cons_zero, List.set_cons_succ])
  (first | (refine take_in (i := 9) (v := ?_) rfl ?_ ?_; rotate_left; (intro w hSw; (try dsimp only at hSw); go_simp; try with_reducible rfl)) | (refine take_out (i := 9) rfl ?_)); (try simp only [Act.put, List.setIfInBounds_toArray, List.set_cons_zero, List.set_cons_succ])
  (first | (refine take_in (i := 10) (v := ?_) rfl ?_ ?_; rotate_left; (intro w hSw; (try dsimp only at hSw); go_simp; try with_reducible rfl)) | (refine take_out (i := 10) rfl ?_)); (try simp only [Act.put, List.setIfInBounds_toArray, List.set_cons_zero, List.set_cons_succ])
  (first | (refine take_in (i := 11) (v := ?_) rfl ?_ ?_; rotate_left; (intro w hSw; (try dsimp only at hSw); go_simp; try with_reducible rfl)) | (refine take_out (i := 11) rfl ?_)); (try simp only [Act.put, List.setIfInBounds_toArray, List.set_cons_zero, List.set_cons_succ])
  (first | (refine take_in (i := 12) (v := ?_) rfl ?_ ?_; rotate_left; (intro w hSw; (try dsimp only at hSw); go_simp; try with_reducible rfl)) | (refine take_out (i := 12) rfl ?_)); (try simp only [Act.put, List.setIfInBounds_toArray, List.set_cons_zero, List.set_cons_succ])
  (first | (refine take_in (i := 13) (v := ?_) rfl ?_ ?_; rotate_left; (intro w hSw; (try dsimp only at hSw); go_simp; try with_reducible rfl)) | (refine take_out (i := 13) rfl ?_)); (try simp only [Act.put, List.setIfInBounds_toArray, List.set_cons_zero, List.set_cons_succ])
  (first | (refine take_in (i := 14) (v := ?_) rfl ?_ ?_; rotate_left; (intro w hSw; (try dsimp only at hSw); go_simp; try with_reducible rfl)) | (refine take_out (i := 14) rfl ?_)); (try simp only [Act.put, List.setIfInBounds_toArray, List.set_cons_zero, List.set_cons_succ])
  (first | (refine take_in (i := 15) (v := ?_) rfl ?_ ?_; rotate_left; (intro w hSw; (try dsimp only at hSw); go_simp; try with_reducible rfl)) | (refine take_out (i := 15) rfl ?_)); (try simp only [Act.put, List.setIfInBounds_toArray, List.set_cons_zero, List.set_cons_succ])
  (refine take_in (i := 16) (v := ?_) rfl ?_ ?_; rotate_left; (intro w hSw; (try dsimp only at hSw); go_simp; try with_reducible rfl)); (try simp only [Act.put, List.setIfInBounds_toArray, List.set_cons_zero, List.set_cons_succ])
  (refine take_in (i := 17) (v := ?_) rfl ?_ ?_; rotate_left; (intro w hSw; (try dsimp only at hSw); go_simp; try with_reducible rfl)); (try simp only [Act.put, List.setIfInBounds_toArray, List.set_cons_zero, List.set_cons_succ])
  (first | (refine take_in (i := 18) (v := ?_) rfl ?_ ?_; rotate_left; (intro w hSw; (try dsimp only at hSw); go_simp; try with_reducible rfl)) | (refine take_out (i := 18) rfl ?_)); (try simp only [Act.put, List.setIfInBounds_toArray, List.set_cons_zero, List.set_cons_succ])
  (first | (refine take_in (i := 20) (v := ?_) rfl ?_ ?_; rotate_left; (intro w hSw; (try dsimp only at hSw); go_simp; try with_reducible rfl)) | (refine take_out (i := 20) rfl ?_)); (try simp only [Act.put, List.setIfInBounds_toArray, List.set_cons_zero, List.set_cons_succ])
  (first | (refine take_out (i := 19) rfl ?_) | (refine take_call (i := 19) rfl (fun K hK => ?_); go_simp; (fail); go_wp2_with fail; refine hK.out _ _ ?_ (fun hHeld => ?_); (try dsimp only); (trivial); clear hK K)); (try simp only [Act.put, List.setIfInBounds_toArray, List.set_cons_zero, List.set_cons_succ])
  (first | (refine take_out (i := 21) rfl ?_) | (refine take_call (i := 21) rfl (fun K hK => ?_); go_simp; (fail); go_wp2_with fail; refine hK.out _ _ ?_ (fun hHeld => ?_); (try dsimp only); (trivial); clear hK K)); (try simp only [Act.put, List.setIfInBounds_toArray, List.set_cons_zero, List.set_cons_succ])
  (first | (refine take_out (i := 22) rfl ?_) | (refine take_call (i := 22) rfl (fun K hK => ?_); go_simp; (fail); go_wp2_with fail; refine hK.out _ _ ?_ (fun hHeld => ?_); (try dsimp only); (trivial); clear hK K)); (try simp only [Act.put, List.setIfInBounds_toArray, List.set_cons_zero, List.set_cons_succ])
  (refine take_in (i := 23) (v := ?_) rfl ?_ ?_; rotate_left; (intro w hSw; (try dsimp only at hSw); go_simp; try with_reducible rfl)); (try simp only [Act.put, List.setIfInBounds_toArray, List.set_cons_zero, List.set_cons_succ])
  (refine take_in (i := 24) (v := ?_) rfl ?_ ?_; rotate_left; (intro w hSw; (try dsimp only at hSw); go_simp; try with_reducible rfl)); (try simp only [Act.put, List.setIfInBounds_toArray, List.set_cons_zero, List.set_cons_succ])
  refine wpAnyH_done (by kernel_rfl) ?_ _
  go_wp2
  go_ret
  exact RetD.mk rfl 1
set_option maxRecDepth 100000 in
theorem rowsSame_nil2 (a : Addr) (w : World) : Calls Tryz.prog 61 #[.pointer (some a), .pointer none] w (RetD (.bool false) w) := by
  go_enter Tryz.func61, Tryz.ntmps61
  go_wp2
  refine wp_region_held_drew (S := fun _ => True) (by kernel_rfl) trivial (fun hHeld => ?_)
  (refine take_in (i := 0) (v := ?_) rfl ?_ ?_; rotate_left; (intro w hSw; (try dsimp only at hSw); go_simp; try with_reducible rfl)); (try simp only [Act.put, List.setIfInBounds_toArray, List.set_cons_zero, List.set_cons_succ])
  (refine take_in (i := 1) (v := ?_) rfl ?_ ?_; rotate_left; (intro w hSw; (try dsimp only at hSw); go_simp; try with_reducible rfl)); (try simp only [Act.put, List.setIfInBounds_toArray, List.set_cons_zero, List.set_cons_succ])
  (refine take_in (i := 2) (v := ?_) rfl ?_ ?_; rotate_left; (intro w hSw; (try dsimp only at hSw); go_simp; try with_reducible rfl)); (try simp only [Act.put, List.setIfInBounds_toArray, List.set_cons_zero, List.set_cons_succ])
  (first | (refine take_in (i := 3) (v := ?_) rfl ?_ ?_; rotate_left; (intro w hSw; (try dsimp only at hSw); go_simp; try with_reducible rfl)) | (refine take_out (i := 3) rfl ?_)); (try simp only [Act.put, List.setIfInBounds_toArray, List.set_cons_zero, List.set_cons_succ])
  (first | (refine take_in (i := 4) (v := ?_) rfl ?_ ?_; rotate_left; (intro w hSw; (try dsimp only at hSw); go_simp; try with_reducible rfl)) | (refine take_out (i := 4) rfl ?_)); (try simp only [Act.put, List.setIfInBounds_toArray, List.set_cons_zero, List.set_cons_succ])
  (refine take_in (i := 5) (v := ?_) rfl ?_ ?_; rotate_left; (intro w hSw; (try dsimp only at hSw); go_simp; try with_reducible rfl)); (try simp only [Act.put, List.setIfInBounds_toArray, List.set_cons_zero, List.set_cons_succ])
  (refine take_in (i := 6) (v := ?_) rfl ?_ ?_; rotate_left; (intro w hSw; (try dsimp only at hSw); go_simp; try with_reducible rfl)); (try simp only [Act.put, List.setIfInBounds_toArray, List.set_cons_zero, List.set_cons_succ])
  (first | (refine take_in (i := 7) (v := ?_) rfl ?_ ?_; rotate_left; (intro w hSw; (try dsimp only at hSw); go_simp; try with_reducible rfl)) | (refine take_out (i := 7) rfl ?_)); (try simp only [Act.put, List.setIfInBounds_toArray, List.set_cons_zero, List.set_cons_succ])
  (first | (refine take_in (i := 8) (v := ?_) rfl ?_ ?_; rotate_left; (intro w hSw; (try dsimp only at hSw); go_simp; try with_reducible rfl)) | (refine take_out (i := 8) rfl ?_)); (try simp only [Act.put, List.setIfInBounds_toArray, List.set_cons_zero, List.set_cons_succ])
  (first | (refine take_in (i := 9) (v := ?_) rfl ?_ ?_; rotate_left; (intro w hSw; (try dsimp only at hSw); go_simp; try with_reducible rfl)) | (refine take_out (i := 9) rfl ?_)); (try simp only [Act.put, List.setIfInBounds_toArray, List.set_cons_zero, List.set_cons_succ])
  (first | (refine take_in (i := 10) (v := ?_) rfl ?_ ?_; rotate_left; (intro w hSw; (try dsimp only at hSw); go_simp; try with_reducible rfl)) | (refine take_out (i := 10) rfl ?_)); (try simp only [Act.put, List.setIfInBounds_toArray, List.set_cons_zero, List.set_cons_succ])
  (first | (refine take_in (i := 11) (v := ?_) rfl ?_ ?_; rotate_left; (intro w hSw; (try dsimp only at hSw); go_simp; try with_reducible rfl)) | (refine take_out (i := 11) rfl ?_)); (try simp only [Act.put, List.setIfInBounds_toArray, List.set_cons_zero, List.set_cons_succ])
  (first | (refine take_in (i := 12) (v := ?_) rfl ?_ ?_; rotate_left; (intro w hSw; (try dsimp only at hSw); go_simp; try with_reducible rfl)) | (refine take_out (i := 12) rfl ?_)); (try simp only [Act.put, List.setIfInBounds_toArray, List.set_cons_zero, List.set_cons_succ])
  (first | (refine take_in (i := 13) (v := ?_) rfl ?_ ?_; rotate_left; (intro w hSw; (try dsimp only at hSw); go_simp; try with_reducible rfl)) | (refine take_out (i := 13) rfl ?_)); (try simp only [Act.put, List.setIfInBounds_toArray, List.set_cons_zero, List.set_cons_succ])
  (first | (refine take_in (i := 14) (v := ?_) rfl ?_ ?_; rotate_left; (intro w hSw; (try dsimp only at hSw); go_simp; try with_reducible rfl)) | (refine take_out (i := 14) rfl ?_)); (try simp only [Act.put, List.setIfInBounds_toArray, List.set_cons_zero, List.set_cons_succ])
  (first | (refine take_in (i := 15) (v := ?_) rfl ?_ ?_; rotate_left; (intro w hSw; (try dsimp only at hSw); go_simp; try with_reducible rfl)) | (refine take_out (i := 15) rfl ?_)); (try simp only [Act.put, List.setIfInBounds_toArray, List.set_cons_zero, List.set_cons_succ])
  (refine take_in (i := 16) (v := ?_) rfl ?_ ?_; rotate_left; (intro w hSw; (try dsimp only at hSw); go_simp; try with_reducible rfl)); (try simp only [Act.put, List.setIfInBounds_toArray, List.set_cons_zero, List.set_cons_succ])
  (refine take_in (i := 17) (v := ?_) rfl ?_ ?_; rotate_left; (intro w hSw; (try dsimp only at hSw); go_simp; try with_reducible rfl)); (try simp only [Act.put, List.setIfInBounds_toArray, List.set_cons_zero, List.set_cons_succ])
  (first | (refine take_in (i := 18) (v := ?_) rfl ?_ ?_; rotate_left; (intro w hSw; (try dsimp only at hSw); go_simp; try with_reducible rfl)) | (refine take_out (i := 18) rfl ?_)); (try simp only [Act.put, List.setIfInBounds_toArray, List.set_cons_zero, List.set_cons_succ])
  (first | (refine take_in (i := 20) (v := ?_) rfl ?_ ?_; rotate_left; (intro w hSw; (try dsimp only at hSw); go_simp; try with_reducible rfl)) | (refine take_out (i := 20) rfl ?_)); (try simp only [Act.put, List.setIfInBounds_toArray, List.set_cons_zero, List.set_cons_succ])
  (first | (refine take_out (i := 19) rfl ?_) | (refine take_call (i := 19) rfl (fun K hK => ?_); go_simp; (fail); go_wp2_with fail; refine hK.out _ _ ?_ (fun hHeld => ?_); (try dsimp only); (trivial); clear hK K)); (try simp only [Act.put, List.setIfInBounds_toArray, List.set_cons_zero, List.set_cons_succ])
  (first | (refine take_out (i := 21) rfl ?_) | (refine take_call (i := 21) rfl (fun K hK => ?_); go_simp; (fail); go_wp2_with fail; refine hK.out _ _ ?_ (fun hHeld => ?_); (try dsimp only); (trivial); clear hK K)); (try simp only [Act.put, List.setIfInBounds_toArray, List.set_cons_zero, List.set_cons_succ])
  (first | (refine take_out (i := 22) rfl ?_) | (refine take_call (i := 22) rfl (fun K hK => ?_); go_simp; (fail); go_wp2_with fail; refine hK.out _ _ ?_ (fun hHeld => ?_); (try dsimp only); (trivial); clear hK K)); (try simp only [Act.put, List.setIfInBounds_toArray, List.set_cons_zero, List.set_cons_succ])
  (refine take_in (i := 23) (v := ?_) rfl ?_ ?_; rotate_left; (intro w hSw; (try dsimp only at hSw); go_simp; try with_reducible rfl)); (try simp only [Act.put, List.setIfInBounds_toArray, List.set_cons_zero, List.set_cons_succ])
  (refine take_in (i := 24) (v := ?_) rfl ?_ ?_; rotate_left; (intro w hSw; (try dsimp only at hSw); go_simp; try with_reducible rfl)); (try simp only [Act.put, List.setIfInBounds_toArray, List.set_cons_zero, List.set_cons_succ])
  refine wpAnyH_done (by kernel_rfl) ?_ _
  go_wp2
  go_ret
  exact RetD.mk rfl 1
set_option maxRecDepth 100000 in
theorem rowsSame_arity (c1 : w.cell? ⟨b1, 2, none⟩ = some (.int .i64 a1)) (c2 : w.cell? ⟨b2, 2, none⟩ = some (.int .i64 a2)) (hne : a1 ≠ a2) :
    Calls Tryz.prog 61 #[.pointer (some ⟨b1, 0, none⟩), .pointer (some ⟨b2, 0, none⟩)] w (RetD (.bool false) w) := by
  have t : ((a1 : Int) == (a2 : Int)) = false := by simp; omega
  go_enter Tryz.func61, Tryz.ntmps61
  go_wp2
  refine wp_region_held_drew (S := fun w' => w'.cell? ⟨b1, 2, none⟩ = some (.int .i64 a1) ∧ w'.cell? ⟨b2, 2, none⟩ = some (.int .i64 a2)) (by kernel_rfl) ⟨by assumption, by assumption⟩ (fun hHeld => ?_)
  (refine take_in (i := 0) (v := ?_) rfl ?_ ?_; rotate_left; (intro w hSw; (try dsimp only at hSw); go_simp; try with_reducible rfl)); (try simp only [Act.put, List.setIfInBounds_toArray, List.set_cons_zero, List.set_cons_succ])
  (refine take_in (i := 1) (v := ?_) rfl ?_ ?_; rotate_left; (intro w hSw; (try dsimp only at hSw); go_simp; try with_reducible rfl)); (try simp only [Act.put, List.setIfInBounds_toArray, List.set_cons_zero, List.set_cons_succ])
  (refine take_in (i := 2) (v := ?_) rfl ?_ ?_; rotate_left; (intro w hSw; (try dsimp only at hSw); go_simp; try with_reducible rfl)); (try simp only [Act.put, List.setIfInBounds_toArray, List.set_cons_zero, List.set_cons_succ])
  (first | (refine take_in (i := 3) (v := ?_) rfl ?_ ?_; rotate_left; (intro w hSw; (try dsimp only at hSw); go_simp; try with_reducible rfl)) | (refine take_out (i := 3) rfl ?_)); (try simp only [Act.put, List.setIfInBounds_toArray, List.set_cons_zero, List.set_cons_succ])
  (first | (refine take_in (i := 4) (v := ?_) rfl ?_ ?_; rotate_left; (intro w hSw; (try dsimp only at hSw); go_simp; try with_reducible rfl)) | (refine take_out (i := 4) rfl ?_)); (try simp only [Act.put, List.setIfInBounds_toArray, List.set_cons_zero, List.set_cons_succ])
  (refine take_in (i := 5) (v := ?_) rfl ?_ ?_; rotate_left; (intro w hSw; (try dsimp only at hSw); go_simp; try with_reducible rfl)); (try simp only [Act.put, List.setIfInBounds_toArray, List.set_cons_zero, List.set_cons_succ])
  (refine take_in (i := 6) (v := ?_) rfl ?_ ?_; rotate_left; (intro w hSw; (try dsimp only at hSw); go_simp; try with_reducible rfl)); (try simp only [Act.put, List.setIfInBounds_toArray, List.set_cons_zero, List.set_cons_succ])
  (first | (refine take_in (i := 7) (v := ?_) rfl ?_ ?_; rotate_left; (intro w hSw; (try dsimp only at hSw); go_simp; try with_reducible rfl)) | (refine take_out (i := 7) rfl ?_)); (try simp only [Act.put, List.setIfInBounds_toArray, List.set_cons_zero, List.set_cons_succ])
  (first | (refine take_in (i := 8) (v := ?_) rfl ?_ ?_; rotate_left; (intro w hSw; (try dsimp only at hSw); go_simp; try with_reducible rfl)) | (refine take_out (i := 8) rfl ?_)); (try simp only [Act.put, List.setIfInBounds_toArray, List.set_cons_zero, List.set_cons_succ])
  (first | (refine take_in (i := 9) (v := ?_) rfl ?_ ?_; rotate_left; (intro w hSw; (try dsimp only at hSw); go_simp; try with_reducible rfl)) | (refine take_out (i := 9) rfl ?_)); (try simp only [Act.put, List.setIfInBounds_toArray, List.set_cons_zero, List.set_cons_succ])
  (first | (refine take_in (i := 10) (v := ?_) rfl ?_ ?_; rotate_left; (intro w hSw; (try dsimp only at hSw); go_simp; try with_reducible rfl)) | (refine take_out (i := 10) rfl ?_)); (try simp only [Act.put, List.setIfInBounds_toArray, List.set_cons_zero, List.set_cons_succ])
  (first | (refine take_in (i := 11) (v := ?_) rfl ?_ ?_; rotate_left; (intro w hSw; (try dsimp only at hSw); go_simp; try with_reducible rfl)) | (refine take_out (i := 11) rfl ?_)); (try simp only [Act.put, List.setIfInBounds_toArray, List.set_cons_zero, List.set_cons_succ])
  (first | (refine take_in (i := 12) (v := ?_) rfl ?_ ?_; rotate_left; (intro w hSw; (try dsimp only at hSw); go_simp; try with_reducible rfl)) | (refine take_out (i := 12) rfl ?_)); (try simp only [Act.put, List.setIfInBounds_toArray, List.set_cons_zero, List.set_cons_succ])
  (first | (refine take_in (i := 13) (v := ?_) rfl ?_ ?_; rotate_left; (intro w hSw; (try dsimp only at hSw); go_simp; try with_reducible rfl)) | (refine take_out (i := 13) rfl ?_)); (try simp only [Act.put, List.setIfInBounds_toArray, List.set_cons_zero, List.set_cons_succ])
  (first | (refine take_in (i := 14) (v := ?_) rfl ?_ ?_; rotate_left; (intro w hSw; (try dsimp only at hSw); go_simp; try with_reducible rfl)) | (refine take_out (i := 14) rfl ?_)); (try simp only [Act.put, List.setIfInBounds_toArray, List.set_cons_zero, List.set_cons_succ])
  (first | (refine take_in (i := 15) (v := ?_) rfl ?_ ?_; rotate_left; (intro w hSw; (try dsimp only at hSw); go_simp; try with_reducible rfl)) | (refine take_out (i := 15) rfl ?_)); (try simp only [Act.put, List.setIfInBounds_toArray, List.set_cons_zero, List.set_cons_succ])
  (refine take_in (i := 16) (v := ?_) rfl ?_ ?_; rotate_left; (intro w hSw; (try dsimp only at hSw); go_simp; try with_reducible rfl)); (try simp only [Act.put, List.setIfInBounds_toArray, List.set_cons_zero, List.set_cons_succ])
  (refine take_in (i := 17) (v := ?_) rfl ?_ ?_; rotate_left; (intro w hSw; (try dsimp only at hSw); go_simp; try with_reducible rfl)); (try simp only [Act.put, List.setIfInBounds_toArray, List.set_cons_zero, List.set_cons_succ])
  (first | (refine take_in (i := 18) (v := ?_) rfl ?_ ?_; rotate_left; (intro w hSw; (try dsimp only at hSw); go_simp; try with_reducible rfl)) | (refine take_out (i := 18) rfl ?_)); (try simp only [Act.put, List.setIfInBounds_toArray, List.set_cons_zero, List.set_cons_succ])
  (first | (refine take_in (i := 20) (v := ?_) rfl ?_ ?_; rotate_left; (intro w hSw; (try dsimp only at hSw); go_simp; try with_reducible rfl)) | (refine take_out (i := 20) rfl ?_)); (try simp only [Act.put, List.setIfInBounds_toArray, List.set_cons_zero, List.set_cons_succ])
  (first | (refine take_out (i := 19) rfl ?_) | (refine take_call (i := 19) rfl (fun K hK => ?_); go_simp; (fail); go_wp2_with fail; refine hK.out _ _ ?_ (fun hHeld => ?_); (try dsimp only); (exact ⟨by assumption, by assumption⟩); clear hK K)); (try simp only [Act.put, List.setIfInBounds_toArray, List.set_cons_zero, List.set_cons_succ])
  (first | (refine take_out (i := 21) rfl ?_) | (refine take_call (i := 21) rfl (fun K hK => ?_); go_simp; (fail); go_wp2_with fail; refine hK.out _ _ ?_ (fun hHeld => ?_); (try dsimp only); (exact ⟨by assumption, by assumption⟩); clear hK K)); (try simp only [Act.put, List.setIfInBounds_toArray, List.set_cons_zero, List.set_cons_succ])
  (first | (refine take_out (i := 22) rfl ?_) | (refine take_call (i := 22) rfl (fun K hK => ?_); go_simp; (fail); go_wp2_with fail; refine hK.out _ _ ?_ (fun hHeld => ?_); (try dsimp only); (exact ⟨by assumption, by assumption⟩); clear hK K)); (try simp only [Act.put, List.setIfInBounds_toArray, List.set_cons_zero, List.set_cons_succ])
  (refine take_in (i := 23) (v := ?_) rfl ?_ ?_; rotate_left; (intro w hSw; (try dsimp only at hSw); go_simp; try with_reducible rfl)); (try simp only [Act.put, List.setIfInBounds_toArray, List.set_cons_zero, List.set_cons_succ])
  (refine take_in (i := 24) (v := ?_) rfl ?_ ?_; rotate_left; (intro w hSw; (try dsimp only at hSw); go_simp; try with_reducible rfl)); (try simp only [Act.put, List.setIfInBounds_toArray, List.set_cons_zero, List.set_cons_succ])
  refine wpAnyH_done (by kernel_rfl) ?_ _
  go_wp2
  go_ret
  exact RetD.mk rfl 1
set_option maxRecDepth 100000 in
set_option maxHeartbeats 2000000 in
theorem rowsSame_gen (h1 : RowsQ z1 S w b1 iv1 a1 L1) (c2 : w.cell? ⟨b2, 2, none⟩ = some (.int .i64 a2)) (he : a1 = a2)
    (h2 : ∀ W, Kp (FQ z1 b1) w W → RowsAt S W b1 iv1 a1 L1 → RowsQ z2 S W b2 iv2 a2 L2) (h3 : ∀ W W', RowsAt S W b1 iv1 a1 L1 → Kp (FQ z2 b2) W W' → RowsAt S W' b2 iv2 a2 L2 → RowsAt S W' b1 iv1 a1 L1) :
    Calls Tryz.prog 61 #[.pointer (some ⟨b1, 0, none⟩), .pointer (some ⟨b2, 0, none⟩)] w
      (RetF (fun k => FQ z1 b1 k ∨ FQ z2 b2 k) w fun w' v => v = .bool (decide (L1 = L2)) ∧ RowsAt S w' b1 iv1 a1 L1 ∧ RowsAt S w' b2 iv2 a2 L2) := by
  have t : ((a1 : Int) == (a2 : Int)) = true := by simp [he]
  have c1 := h1.ar
  have HS1 := Lib.hid (fun W (hW : Ext w W) => rowsSet_q (h1.ext hW))
  have H2 := Lib.hid h2
  have H1 := Lib.hid h3
  clear h1 h2 h3
  go_enter Tryz.func61, Tryz.ntmps61
  go_wp2
  refine wp_region_held_drew (S := fun w' => w'.cell? ⟨b1, 2, none⟩ = some (.int .i64 a1) ∧ w'.cell? ⟨b2, 2, none⟩ = some (.int .i64 a2)) (by kernel_rfl) ⟨by assumption, by assumption⟩ (fun hHeld => ?_)
  (refine take_in (i := 0) (v := ?_) rfl ?_ ?_; rotate_left; (intro w hSw; (try dsimp only at hSw); go_simp; try with_reducible rfl)); (try simp only [Act.put, List.setIfInBounds_toArray, List.set_cons_zero, List.set_cons_succ])
  (refine take_in (i := 1) (v := ?_) rfl ?_ ?_; rotate_left; (intro w hSw; (try dsimp only at hSw); go_simp; try with_reducible rfl)); (try simp only [Act.put, List.setIfInBounds_toArray, List.set_cons_zero, List.set_cons_succ])
  (refine take_in (i := 2) (v := ?_) rfl ?_ ?_; rotate_left; (intro w hSw; (try dsimp only at hSw); go_simp; try with_reducible rfl)); (try simp only [Act.put, List.setIfInBounds_toArray, List.set_cons_zero, List.set_cons_succ])
  (first | (refine take_in (i := 3) (v := ?_) rfl ?_ ?_; rotate_left; (intro w hSw; (try dsimp only at hSw); go_simp; try with_reducible rfl)) | (refine take_out (i := 3) rfl ?_)); (try simp only [Act.put, List.setIfInBounds_toArray, List.set_cons_zero, List.set_cons_succ])
  (first | (refine take_in (i := 4) (v := ?_) rfl ?_ ?_; rotate_left; (intro w hSw; (try dsimp only at hSw); go_simp; try with_reducible rfl)) | (refine take_out (i := 4) rfl ?_)); (try simp only [Act.put, List.setIfInBounds_toArray, List.set_cons_zero, List.set_cons_succ])
  (refine take_in (i := 5) (v := ?_) rfl ?_ ?_; rotate_left; (intro w hSw; (try dsimp only at hSw); go_simp; try with_reducible rfl)); (try simp only [Act.put, List.setIfInBounds_toArray, List.set_cons_zero, List.set_cons_succ])
  (refine take_in (i := 6) (v := ?_) rfl ?_ ?_; rotate_left; (intro w hSw; (try dsimp only at hSw); go_simp; try with_reducible rfl)); (try simp only [Act.put, List.setIfInBounds_toArray, List.set_cons_zero, List.set_cons_succ])
  (first | (refine take_in (i := 7) (v := ?_) rfl ?_ ?_; rotate_left; (intro w hSw; (try dsimp only at hSw); go_simp; try with_reducible rfl)) | (refine take_out (i := 7) rfl ?_)); (try simp only [Act.put, List.setIfInBounds_toArray, List.set_cons_zero, List.set_cons_succ])
  (first | (refine take_in (i := 8) (v := ?_) rfl ?_ ?_; rotate_left; (intro w hSw; (try dsimp only at hSw); go_simp; try with_reducible rfl)) | (refine take_out (i := 8) rfl ?_)); (try simp only [Act.put, List.setIfInBounds_toArray, List.set_cons_zero, List.set_cons_succ])
  (first | (refine take_in (i := 9) (v := ?_) rfl ?_ ?_; rotate_left; (intro w hSw; (try dsimp only at hSw); go_simp; try with_reducible rfl)) | (refine take_out (i := 9) rfl ?_)); (try simp only [Act.put, List.setIfInBounds_toArray, List.set_cons_zero, List.set_cons_succ])
  (first | (refine take_in (i := 10) (v := ?_) rfl ?_ ?_; rotate_left; (intro w hSw; (try dsimp only at hSw); go_simp; try with_reducible rfl)) | (refine take_out (i := 10) rfl ?_)); (try simp only [Act.put, List.setIfInBounds_toArray, List.set_cons_zero, List.set_cons_succ])
  (first | (refine take_in (i := 11) (v := ?_) rfl ?_ ?_; rotate_left; (intro w hSw; (try dsimp only at hSw); go_simp; try with_reducible rfl)) | (refine take_out (i := 11) rfl ?_)); (try simp only [Act.put, List.setIfInBounds_toArray, List.set_cons_zero, List.set_cons_succ])
  (first | (refine take_in (i := 12) (v := ?_) rfl ?_ ?_; rotate_left; (intro w hSw; (try dsimp only at hSw); go_simp; try with_reducible rfl)) | (refine take_out (i := 12) rfl ?_)); (try simp only [Act.put, List.setIfInBounds_toArray, List.set_cons_zero, List.set_cons_succ])
  (first | (refine take_in (i := 13) (v := ?_) rfl ?_ ?_; rotate_left; (intro w hSw; (try dsimp only at hSw); go_simp; try with_reducible rfl)) | (refine take_out (i := 13) rfl ?_)); (try simp only [Act.put, List.setIfInBounds_toArray, List.set_cons_zero, List.set_cons_succ])
  (first | (refine take_in (i := 14) (v := ?_) rfl ?_ ?_; rotate_left; (intro w hSw; (try dsimp only at hSw); go_simp; try with_reducible rfl)) | (refine take_out (i := 14) rfl ?_)); (try simp only [Act.put, List.setIfInBounds_toArray, List.set_cons_zero, List.set_cons_succ])
  (first | (refine take_in (i := 15) (v := ?_) rfl ?_ ?_; rotate_left; (intro w hSw; (try dsimp only at hSw); go_simp; try with_reducible rfl)) | (refine take_out (i := 15) rfl ?_)); (try simp only [Act.put, List.setIfInBounds_toArray, List.set_cons_zero, List.set_cons_succ])
  (refine take_in (i := 16) (v := ?_) rfl ?_ ?_; rotate_left; (intro w hSw; (try dsimp only at hSw); go_simp; try with_reducible rfl)); (try simp only [Act.put, List.setIfInBounds_toArray, List.set_cons_zero, List.set_cons_succ])
  (refine take_in (i := 17) (v := ?_) rfl ?_ ?_; rotate_left; (intro w hSw; (try dsimp only at hSw); go_simp; try with_reducible rfl)); (try simp only [Act.put, List.setIfInBounds_toArray, List.set_cons_zero, List.set_cons_succ])
  (first | (refine take_in (i := 18) (v := ?_) rfl ?_ ?_; rotate_left; (intro w hSw; (try dsimp only at hSw); go_simp; try with_reducible rfl)) | (refine take_out (i := 18) rfl ?_)); (try simp only [Act.put, List.setIfInBounds_toArray, List.set_cons_zero, List.set_cons_succ])
  (first | (refine take_in (i := 20) (v := ?_) rfl ?_ ?_; rotate_left; (intro w hSw; (try dsimp only at hSw); go_simp; try with_reducible rfl)) | (refine take_out (i := 20) rfl ?_)); (try simp only [Act.put, List.setIfInBounds_toArray, List.set_cons_zero, List.set_cons_succ])
  (first | (refine take_out (i := 19) rfl ?_) | (refine take_call (i := 19) rfl (fun K hK => ?_); go_simp; ((with_reducible refine (HS1.out _ ?_).mono ?_); exact (Kp.refl w).drew; rintro e w1 ⟨v1, rfl, hk1, rfl, hr1⟩; have hk1' : Kp (FQ z1 b1) w w1 := (show Kp (FQ z1 b1) w _ from (Kp.refl w).drew).trans hk1; have hq2 := H2.out _ hk1' hr1; have d1 := (hr1.q (z := False)).ar; have d2 := hq2.ar; have HK1 := Lib.hid (And.intro hk1' hr1); have HS2 := Lib.hid (rowsSet_q hq2); clear hk1 hk1' hr1 hq2); go_wp2_with fail; refine hK.out _ _ ?_ (fun hHeld => ?_); (try dsimp only); (exact ⟨by assumption, by assumption⟩); clear hK K)); (try simp only [Act.put, List.setIfInBounds_toArray, List.set_cons_zero, List.set_cons_succ])
  (first | (refine take_out (i := 21) rfl ?_) | (refine take_call (i := 21) rfl (fun K hK => ?_); go_simp; (refine HS2.out.mono ?_; rintro e w2 ⟨v2, rfl, hk2, rfl, hr2⟩; have hr1' := H1.out _ _ HK1.out.2 hk2 hr2; have e1 := (hr1'.q (z := False)).ar; have e2 := (hr2.q (z := False)).ar; have HK2 := Lib.hid (And.intro hk2 (And.intro hr1' hr2)); have HFF := Lib.hid (rowsSame_set hr1' hr2); clear hk2 hr1' hr2); go_wp2_with fail; refine hK.out _ _ ?_ (fun hHeld => ?_); (try dsimp only); (exact ⟨by assumption, by assumption⟩); clear hK K)); (try simp only [Act.put, List.setIfInBounds_toArray, List.set_cons_zero, List.set_cons_succ])
  (first | (refine take_out (i := 22) rfl ?_) | (refine take_call (i := 22) rfl (fun K hK => ?_); go_simp; (refine HFF.out.mono ?_; rintro e w3 ⟨v3, rfl, hk3, rfl⟩; have f1 := hk3.cell e1 id; have f2 := hk3.cell e2 id; have HK3 := Lib.hid hk3; clear hk3); go_wp2_with fail; refine hK.out _ _ ?_ (fun hHeld => ?_); (try dsimp only); (exact ⟨by assumption, by assumption⟩); clear hK K)); (try simp only [Act.put, List.setIfInBounds_toArray, List.set_cons_zero, List.set_cons_succ])
  (refine take_in (i := 23) (v := ?_) rfl ?_ ?_; rotate_left; (intro w hSw; (try dsimp only at hSw); go_simp; try with_reducible rfl)); (try simp only [Act.put, List.setIfInBounds_toArray, List.set_cons_zero, List.set_cons_succ])
  (refine take_in (i := 24) (v := ?_) rfl ?_ ?_; rotate_left; (intro w hSw; (try dsimp only at hSw); go_simp; try with_reducible rfl)); (try simp only [Act.put, List.setIfInBounds_toArray, List.set_cons_zero, List.set_cons_succ])
  refine wpAnyH_done (by kernel_rfl) ?_ _
  go_wp2
  go_ret
  obtain ⟨hk2, hr1, hr2⟩ := HK2.out
  exact RetF.mk (((HK1.out.1.mono fun _ _ h => .inl h).trans (hk2.mono fun _ _ h => .inr h)).ext HK3.out) ⟨rfl, hr1.ext HK3.out, hr2.ext HK3.out⟩
theorem rowsSame_q (h1 : RowsQ z1 S w b1 iv1 arity L1) (h2 : RowsQ z2 S w b2 iv2 arity L2) (hap : ∀ k, Owns b1 iv1 k → ¬ Owns b2 iv2 k) :
    Calls Tryz.prog 61 #[.pointer (some ⟨b1, 0, none⟩), .pointer (some ⟨b2, 0, none⟩)] w
      (RetF (fun k => FQ z1 b1 k ∨ FQ z2 b2 k) w fun w' v => v = .bool (decide (L1 = L2)) ∧ RowsAt S w' b1 iv1 arity L1 ∧ RowsAt S w' b2 iv2 arity L2) :=
  rowsSame_gen h1 h2.ar rfl (fun W hk _ => h2.kp hk (fun k hk ho => hap k (FQ.owns k hk) ho) (fun k hk hS => h1.notS k (FQ.owns k hk) hS))
    (fun W W' hr hk _ => hr.move hk (fun k hk ho => hap k ho (FQ.owns k hk)) (fun k hk hS => h2.notS k (FQ.owns k hk) hS) (fun _ h => h) (fun k hS => Nat.lt_of_lt_of_le (hr.inS k hS) hk.size) hr.notS)
theorem rowsSame_self (h : RowsQ z S w b iv arity LL) :
    Calls Tryz.prog 61 #[.pointer (some ⟨b, 0, none⟩), .pointer (some ⟨b, 0, none⟩)] w (RetF (FQ z b) w fun w' v => v = .bool true ∧ RowsAt S w' b iv arity LL) := by
  refine (rowsSame_gen (z2 := z) h h.ar rfl (fun W hk hr => hr.q) (fun W W' hr hk h => h)).mono ?_
  rintro e w' ⟨v, rfl, hk, rfl, h1, _⟩
  exact RetF.mk (hk.mono fun _ _ h => by rcases h with h | h <;> exact h) ⟨by simp, h1⟩

theorem rowsUnion_nil1 (v : Value) (w : World) : Calls Tryz.prog 123 #[.pointer none, v] w (Ret (.tuple #[.pointer none, .int .i64 1]) w) := by
  go_enter Tryz.func123, Tryz.ntmps123
  go_wp2_with fail
  refine (rowsWith_nil1 _ _ w).mono ?_
  rintro e w' ⟨rfl, rfl⟩
  go_wp2
  go_ret2
  exact Ret.mk rfl
theorem rowsUnion_nil2 (a : Addr) (w : World) : Calls Tryz.prog 123 #[.pointer (some a), .pointer none] w (Ret (.tuple #[.pointer none, .int .i64 1]) w) := by
  go_enter Tryz.func123, Tryz.ntmps123
  go_wp2_with fail
  refine (rowsWith_nil2 _ _ w).mono ?_
  rintro e w' ⟨rfl, rfl⟩
  go_wp2
  go_ret2
  exact Ret.mk rfl
theorem rowsUnion_arity (h1 : RowsQ z1 S w b1 iv1 a1 L1) (h2 : RowsQ z2 S w b2 iv2 a2 L2) (hne : a1 ≠ a2) : Calls Tryz.prog 123 #[.pointer (some ⟨b1, 0, none⟩), .pointer (some ⟨b2, 0, none⟩)] w (RetD (.tuple #[.pointer none, .int .i64 30]) w) := by
  have H := Lib.hid (rowsWith_arity h1 h2 hne (.func (Fn.func 155) #[] #[])); clear h1 h2
  go_enter Tryz.func123, Tryz.ntmps123
  go_wp2_with fail
  refine H.out.mono ?_
  rintro e w' ⟨rfl, n, rfl⟩
  go_wp2
  go_ret2
  exact RetD.mk rfl n
theorem rowsUnion_q (h1 : RowsQ z1 S w b1 iv1 arity L1) (h2 : RowsQ z2 S w b2 iv2 arity L2) (hap : ∀ k, Owns b1 iv1 k → ¬ Owns b2 iv2 k) (hll : L1.length + L2.length ≤ 1048576 * 1048576) :
    Calls Tryz.prog 123 #[.pointer (some ⟨b1, 0, none⟩), .pointer (some ⟨b2, 0, none⟩)] w
      (RetF (fun k => FQ z1 b1 k ∨ FQ z2 b2 k) w fun w' v => RowsAt S w' b1 iv1 arity L1 ∧ RowsAt S w' b2 iv2 arity L2 ∧ RowsWithQ S w arity (newS cmpRow (L1 ++ L2)) w' v) := by
  have H := Lib.hid (rowsWith_q union_tells (enters_of Tryz.func155 (by kernel_rfl) rfl) h1 h2 hap hll); clear h1 h2 hap
  go_enter Tryz.func123, Tryz.ntmps123
  go_wp2_with fail
  refine H.out.mono ?_
  rintro e w1 ⟨v, rfl, hk, hr1, hr2, hq⟩
  unfold RowsWithQ at hq
  split at hq
  · subst hq
    rename_i hlt
    have HK := Lib.hid (And.intro hk (And.intro hr1 (And.intro hr2 hlt))); clear hk hr1 hr2 hlt
    go_wp2
    go_ret2
    exact RetF.mk HK.out.1 ⟨HK.out.2.1, HK.out.2.2.1, by unfold RowsWithQ; rw [if_pos HK.out.2.2.2]; rfl⟩
  · obtain ⟨b', iv', rfl, hq⟩ := hq
    rename_i hlt
    have HK := Lib.hid (And.intro hk (And.intro hr1 (And.intro hr2 (And.intro hlt hq)))); clear hk hr1 hr2 hlt hq
    go_wp2
    go_ret2
    exact RetF.mk HK.out.1 ⟨HK.out.2.1, HK.out.2.2.1, by unfold RowsWithQ; rw [if_neg HK.out.2.2.2.1]; exact ⟨_, _, rfl, HK.out.2.2.2.2⟩⟩
theorem newRows_bad (a : Int) (w : World) (ha : a < 0 ∨ 64 < a) : Calls Tryz.prog 97 #[.int .i64 a] w (Ret (.tuple #[.pointer none, .int .i64 2]) w) := by
  by_cases h0 : a < 0
  · have t1 : decide (a < 0) = true := by simp [h0]
    go_enter Tryz.func97, Tryz.ntmps97
    go_wp2
    go_ret2
    exact Ret.mk rfl
  · have h1 : 64 < a := by omega
    have t1 : decide (a < 0) = false := by simp; omega
    have t2 : decide (a > 64) = true := by simp; omega
    have t3 : decide (64 < a) = true := by simp; omega
    go_enter Tryz.func97, Tryz.ntmps97
    go_wp2
    go_ret2
    exact Ret.mk rfl
end
end Go.Proofs.YtfkhelihepbehaaGreat

/- tuple.Base: Add, at every base. -/
namespace Go.Proofs.YtfkhelihepbehaaGreat
open Go.RowKit
set_option linter.unusedVariables false

theorem addR_name {C : List CntZ} {s : ByteArray} (row : List ByteArray) (h : namedC s = false) : addR C s row = (false, 32) := if_pos h
theorem addR_long {C : List CntZ} {s : ByteArray} {row : List ByteArray} (h : namedC s = true) (hg : getC C s = none) (hl : 64 < row.length) : addR C s row = (false, 30) := by
  unfold addR
  rw [if_neg (by rw [h]; simp), if_pos (by unfold arOk; rw [hg]; exact decide_eq_false (by omega))]
theorem addR_arity {C : List CntZ} {s : ByteArray} {row : List ByteArray} {v : Nat × Rows2} (h : namedC s = true) (hg : getC C s = some v) (hl : v.1 ≠ row.length) : addR C s row = (false, 30) := by
  unfold addR
  rw [if_neg (by rw [h]; simp), if_pos (by unfold arOk; rw [hg]; exact decide_eq_false hl)]
theorem addR_text {C : List CntZ} {s : ByteArray} {row : List ByteArray} (h : namedC s = true) (hg : arOk C s row = true) (ht : textsC row = false) : addR C s row = (false, 31) := by
  unfold addR
  rw [if_neg (by rw [h]; simp), if_neg (by rw [hg]; simp), if_pos ht]
theorem addR_many {C : List CntZ} {s : ByteArray} {row : List ByteArray} (h : namedC s = true) (hg : arOk C s row = true) (ht : textsC row = true) (hm : 262144 ≤ totalC C) (hi : isIn cmpRow (rowsC C s) row = false) : addR C s row = (false, 4) := by
  unfold addR
  rw [if_neg (by rw [h]; simp), if_neg (by rw [hg]; simp), if_neg (by rw [ht]; simp), if_pos ⟨hm, hi⟩]
theorem addR_rest {C : List CntZ} {s : ByteArray} {row : List ByteArray} (h : namedC s = true) (hg : arOk C s row = true) (ht : textsC row = true) (hm : ¬ (262144 ≤ totalC C ∧ isIn cmpRow (rowsC C s) row = false)) :
    addR C s row = if 65536 ≤ (rowsC C s).length ∧ isIn cmpRow (rowsC C s) row = false then (false, 4) else (!isIn cmpRow (rowsC C s) row, 0) := by
  unfold addR
  rw [if_neg (by rw [h]; simp), if_neg (by rw [hg]; simp), if_neg (by rw [ht]; simp), if_neg hm]
theorem ar_some {C : List CntZ} {s : ByteArray} {row : List ByteArray} {v : Nat × Rows2} (hg : getC C s = some v) (h : v.1 = row.length) : arOk C s row = true := by unfold arOk; rw [hg]; exact decide_eq_true h
theorem ar_none {C : List CntZ} {s : ByteArray} {row : List ByteArray} (hg : getC C s = none) (h : row.length ≤ 64) : arOk C s row = true := by unfold arOk; rw [hg]; exact decide_eq_true h
theorem addC_not {C : List CntZ} {s : ByteArray} {row : List ByteArray} (h : (addR C s row).2 ≠ 0) : addC C s row = C := if_neg h

section
variable {S S' : Nat → Prop} {w w1 w2 w3 w4 : World} {bb r : Nat} {E : List Ent} {s : ByteArray} {ss : List ByteArray} {e : Ent} {iv' : Value}
/-- What Add leaves. -/
def BaseAdded (S : Nat → Prop) (w : World) (bb r : Nat) (E : List Ent) (s : ByteArray) (ss : List ByteArray) (w' : World) (v : Value) : Prop :=
  v = .tuple #[.bool (addR (cntE E) s ss).1, .int .i64 ((addR (cntE E) s ss).2 : Nat)] ∧ ∃ S' E', (∀ k, S k → S' k) ∧ (∀ k, S' k → S k ∨ w.heap.size ≤ k) ∧ BaseAt S' w' bb r E' ∧ cntE E' = addC (cntE E) s ss ∧ ∀ k, OwnB bb r E' k → OwnB bb r E k ∨ w.heap.size ≤ k
theorem BaseAdded.same (h : BaseAt S w bb r E) (hk : Ext w w1) {n : Nat} (hR : addR (cntE E) s ss = (false, n)) (hn : n ≠ 0) {v : Value} (hv : v = .tuple #[.bool false, .int .i64 (n : Nat)]) : BaseAdded S w bb r E s ss w1 v :=
  ⟨by rw [hv, hR], S, E, fun _ h => h, fun _ h => .inl h, h.ext hk, (addC_not (by rw [hR]; exact hn)).symm, fun _ h => .inl h⟩
theorem own_turn {pre post : List Ent} (hiv : ∀ k, iv'.ownBlock = some k → e.iv.ownBlock = some k ∨ w.heap.size ≤ k) (LL' : List (List ByteArray)) : ∀ k, OwnB bb r (pre ++ { e with iv := iv', LL := LL' } :: post) k → OwnB bb r (pre ++ e :: post) k ∨ w.heap.size ≤ k := by
  rintro k (h | h | ⟨f, hf, ho⟩)
  · exact .inl (.inl h)
  · exact .inl (.inr (.inl h))
  · rcases List.mem_append.1 hf with hf | hf
    · exact .inl (.inr (.inr ⟨f, List.mem_append_left _ hf, ho⟩))
    · rcases List.mem_cons.1 hf with rfl | hf
      · rcases ho with ho | ho
        · exact .inl (.inr (.inr ⟨e, List.mem_append_right _ List.mem_cons_self, .inl ho⟩))
        · rcases hiv k ho with h2 | h2
          · exact .inl (.inr (.inr ⟨e, List.mem_append_right _ List.mem_cons_self, .inr h2⟩))
          · exact .inr h2
      · exact .inl (.inr (.inr ⟨f, List.mem_append_right _ (List.mem_cons_of_mem _ hf), ho⟩))
theorem baseMap_own (h : BaseAt S w bb r E) (he : findE E s = some e) (hx : Ext w w2) (hk : Kp e.own w2 w3) : MapIs w3 r (entM E) := (h.map.ext hx).kp hk fun ho => (h.off e (findE_some he).1 r ho).2 rfl
theorem baseBlk_own (h : BaseAt S w bb r E) (he : findE E s = some e) (hx : Ext w w2) (hk : Kp e.own w2 w3) : Blk w3 bb [.map (some r), .int .i64 (totalC (cntE E) : Nat)] 65 := (h.blk.ext hx).kp hk fun ho => (h.off e (findE_some he).1 bb ho).1 rfl

/-- The rows were full. -/
theorem baseAdd_full {LL : List (List ByteArray)} (h : BaseAt S w bb r E) (he : findE E s = some e) (hf : namedC s = true ∧ e.ar = ss.length ∧ textsC ss = true ∧ e.LL = LL ∧ ¬ (262144 ≤ totalC (cntE E) ∧ isIn cmpRow LL ss = false)) (hx : Ext w w2) (hk : Kp e.own w2 w3) (hss : ∀ k, S k → S' k) (hsn : ∀ k, S' k → S k ∨ w2.heap.size ≤ k)
    (hr : RowsAt S' w3 e.b iv' e.ar (rowsAddL e.ar LL ss)) (hiv : ∀ k, iv'.ownBlock = some k → e.iv.ownBlock = some k ∨ w2.heap.size ≤ k) (h0 : rowsAddR e.ar LL ss = if 65536 ≤ LL.length ∧ isIn cmpRow LL ss = false then (false, 4) else (!isIn cmpRow LL ss, 0)) (h4 : 65536 ≤ LL.length ∧ isIn cmpRow LL ss = false) :
    RetF (OwnB bb r E) w (BaseAdded S w bb r E s ss) (.returned (.tuple #[.bool false, .int .i64 4])) w3 := by
  obtain ⟨f1, f2, f3, f4, f5⟩ := hf
  obtain ⟨g1, g2⟩ := findE_rows he
  have hL : rowsAddL e.ar LL ss = LL := by unfold rowsAddL; rw [h0, if_pos h4]; rfl
  rw [hL] at hr
  have hR : addR (cntE E) s ss = (false, 4) := by
    rw [addR_rest f1 (ar_some g1 f2) f3 (by rw [g2, f4]; exact f5), g2, f4, if_pos h4]
  have hC : addC (cntE E) s ss = cntE E := addC_not (by rw [hR]; decide)
  obtain ⟨pre, post, rfl⟩ := findE_split he
  have hem : e ∈ pre ++ e :: post := List.mem_append_right _ List.mem_cons_self
  have hkw : Kp e.own w w3 := (Ext.kp hx).trans hk
  have hz := hx.size
  have hs2 : ∀ k, S' k → S k ∨ w.heap.size ≤ k := fun k hk' => (hsn k hk').imp id fun q => Nat.le_trans hz q
  have hiv2 : ∀ k, iv'.ownBlock = some k → e.iv.ownBlock = some k ∨ w.heap.size ≤ k := fun k hk' => (hiv k hk').imp id fun q => Nat.le_trans hz q
  have hsame : cntE (pre ++ { e with iv := iv', LL := LL } :: post) = cntE (pre ++ e :: post) := by
    rw [← f4]; simp [cntE, Ent.cnt]
  refine RetF.mk (hkw.mono fun k _ ho => .inr (.inr ⟨e, hem, ho⟩)) ⟨by rw [hR]; rfl, S', pre ++ { e with iv := iv', LL := LL } :: post, hss, hs2, ?_, by rw [hC, hsame], own_turn hiv2 LL⟩
  exact h.turn hkw hss hs2 hr hiv2 (Kp.refl _) (baseMap_own h he hx hk) (baseBlk_own h he hx hk) (by rw [hsame]) (by rw [hsame]; exact h.ok)
/-- It was there. -/
theorem baseAdd_had {LL : List (List ByteArray)} (h : BaseAt S w bb r E) (he : findE E s = some e) (hf : namedC s = true ∧ e.ar = ss.length ∧ textsC ss = true ∧ e.LL = LL ∧ ¬ (262144 ≤ totalC (cntE E) ∧ isIn cmpRow LL ss = false)) (hx : Ext w w2) (hk : Kp e.own w2 w3) (hss : ∀ k, S k → S' k) (hsn : ∀ k, S' k → S k ∨ w2.heap.size ≤ k)
    (hr : RowsAt S' w3 e.b iv' e.ar (rowsAddL e.ar LL ss)) (hiv : ∀ k, iv'.ownBlock = some k → e.iv.ownBlock = some k ∨ w2.heap.size ≤ k) (h0 : rowsAddR e.ar LL ss = if 65536 ≤ LL.length ∧ isIn cmpRow LL ss = false then (false, 4) else (!isIn cmpRow LL ss, 0)) (hi : isIn cmpRow LL ss = true)
    (hk4 : Kp (fun k => k = r) w3 w4) (hm4 : MapIs w4 r (putM (entM E) s (.pointer (some ⟨e.b, 0, none⟩)))) : RetF (OwnB bb r E) w (BaseAdded S w bb r E s ss) (.returned (.tuple #[.bool false, .int .i64 0])) w4 := by
  obtain ⟨f1, f2, f3, f4, f5⟩ := hf
  obtain ⟨g1, g2⟩ := findE_rows he
  have hn4 : ¬ (65536 ≤ LL.length ∧ isIn cmpRow LL ss = false) := fun k => by rw [hi] at k; cases k.2
  have hadd : addS cmpRow LL ss = LL := by unfold addS; rw [if_pos hi]
  have hL : rowsAddL e.ar LL ss = LL := by unfold rowsAddL; rw [h0, if_neg hn4]; exact hadd
  rw [hL] at hr
  have hR : addR (cntE E) s ss = (false, 0) := by
    rw [addR_rest f1 (ar_some g1 f2) f3 (by rw [g2, f4]; exact f5), g2, f4, if_neg hn4, hi]; rfl
  have hnd := h.ok.nodup
  rw [show putM (entM E) s (.pointer (some ⟨e.b, 0, none⟩)) = entM E from entM_put he (by rw [entM_names]; exact hnd)] at hm4
  obtain ⟨pre, post, rfl⟩ := findE_split he
  have hem : e ∈ pre ++ e :: post := List.mem_append_right _ List.mem_cons_self
  have hkw : Kp e.own w w3 := (Ext.kp hx).trans hk
  have hz := hx.size
  have hs2 : ∀ k, S' k → S k ∨ w.heap.size ≤ k := fun k hk' => (hsn k hk').imp id fun q => Nat.le_trans hz q
  have hiv2 : ∀ k, iv'.ownBlock = some k → e.iv.ownBlock = some k ∨ w.heap.size ≤ k := fun k hk' => (hiv k hk').imp id fun q => Nat.le_trans hz q
  have hsame : cntE (pre ++ { e with iv := iv', LL := LL } :: post) = cntE (pre ++ e :: post) := by
    rw [← f4]; simp [cntE, Ent.cnt]
  have hC : addC (cntE (pre ++ e :: post)) s ss = cntE (pre ++ { e with iv := iv', LL := LL } :: post) := by
    unfold addC
    rw [if_pos (by rw [hR]), g2, f4, hadd, ← f2]
    exact cntE_set he hnd iv' LL
  refine RetF.mk ((hkw.mono fun k _ ho => .inr (.inr ⟨e, hem, ho⟩)).trans (hk4.mono fun k _ ho => .inr (.inl ho))) ⟨by rw [hR]; rfl, S', pre ++ { e with iv := iv', LL := LL } :: post, hss, hs2, ?_, hC.symm, own_turn hiv2 LL⟩
  exact h.turn hkw hss hs2 hr hiv2 (hk4.mono fun k _ ho => .inr ho) hm4 ((baseBlk_own h he hx hk).kp hk4 h.ne) (by rw [hsame]) (by rw [hsame]; exact h.ok)
/-- It came. -/
theorem baseAdd_got {LL : List (List ByteArray)} {n : Nat} (h : BaseAt S w bb r E) (he : findE E s = some e) (hf : namedC s = true ∧ e.ar = ss.length ∧ textsC ss = true ∧ e.LL = LL ∧ ¬ (262144 ≤ totalC (cntE E) ∧ isIn cmpRow LL ss = false)) (hx : Ext w w2) (hk : Kp e.own w2 w3) (hss : ∀ k, S k → S' k) (hsn : ∀ k, S' k → S k ∨ w2.heap.size ≤ k)
    (hr : RowsAt S' w3 e.b iv' e.ar (rowsAddL e.ar LL ss)) (hiv : ∀ k, iv'.ownBlock = some k → e.iv.ownBlock = some k ∨ w2.heap.size ≤ k) (h0 : rowsAddR e.ar LL ss = if 65536 ≤ LL.length ∧ isIn cmpRow LL ss = false then (false, 4) else (!isIn cmpRow LL ss, 0)) (hi : isIn cmpRow LL ss = false) (hn4 : ¬ (65536 ≤ LL.length ∧ isIn cmpRow LL ss = false))
    (hk4 : Kp (fun k => k = r) w3 w4) (hm4 : MapIs w4 r (putM (entM E) s (.pointer (some ⟨e.b, 0, none⟩)))) (en : totalC (cntE E) = n) : RetF (OwnB bb r E) w (BaseAdded S w bb r E s ss) (.returned (.tuple #[.bool true, .int .i64 0])) (w4.setCell ⟨bb, 1, none⟩ (.int .i64 ((n : Int) + 1))) := by
  obtain ⟨f1, f2, f3, f4, f5⟩ := hf
  obtain ⟨g1, g2⟩ := findE_rows he
  have hL : rowsAddL e.ar LL ss = addS cmpRow LL ss := by unfold rowsAddL; rw [h0, if_neg hn4]; rfl
  rw [hL] at hr
  have hR : addR (cntE E) s ss = (true, 0) := by
    rw [addR_rest f1 (ar_some g1 f2) f3 (by rw [g2, f4]; exact f5), g2, f4, if_neg hn4, hi]; rfl
  have hnd := h.ok.nodup
  rw [show putM (entM E) s (.pointer (some ⟨e.b, 0, none⟩)) = entM E from entM_put he (by rw [entM_names]; exact hnd)] at hm4
  obtain ⟨pre, post, rfl⟩ := findE_split he
  have hem : e ∈ pre ++ e :: post := List.mem_append_right _ List.mem_cons_self
  have hkw : Kp e.own w w3 := (Ext.kp hx).trans hk
  have hz := hx.size
  have hs2 : ∀ k, S' k → S k ∨ w.heap.size ≤ k := fun k hk' => (hsn k hk').imp id fun q => Nat.le_trans hz q
  have hiv2 : ∀ k, iv'.ownBlock = some k → e.iv.ownBlock = some k ∨ w.heap.size ≤ k := fun k hk' => (hiv k hk').imp id fun q => Nat.le_trans hz q
  have hset := cntE_set he hnd iv' (addS cmpRow LL ss)
  have hC : addC (cntE (pre ++ e :: post)) s ss = cntE (pre ++ { e with iv := iv', LL := addS cmpRow LL ss } :: post) := by
    unfold addC
    rw [if_pos (by rw [hR]), g2, f4, ← f2]
    exact hset
  have htot : n + 1 = totalC (cntE (pre ++ { e with iv := iv', LL := addS cmpRow LL ss } :: post)) := by
    have h1 := total_set hnd (s := s) (v := (e.ar, addS cmpRow LL ss))
    rw [hset, g2, f4] at h1
    have h2 := addS_len (c := cmpRow) LL ss
    rw [hi] at h2
    simp only [Bool.false_eq_true, if_false] at h2
    have h3 : (e.ar, addS cmpRow LL ss).2.length = LL.length + 1 := h2
    omega
  have kf : Kp (fun k => k = bb ∨ k = r) w3 (w4.setCell ⟨bb, 1, none⟩ (.int .i64 ((n : Int) + 1))) := (hk4.mono fun k _ ho => .inr ho).trans (Kp.setCell (F := fun k => k = bb ∨ k = r) (Kp.refl w4) (fun _ => .inl rfl) _)
  have hb5 : Blk (w4.setCell ⟨bb, 1, none⟩ (.int .i64 ((n : Int) + 1))) bb [.map (some r), .int .i64 ((n + 1 : Nat) : Int)] 65 := by
    have h1 := ((baseBlk_own h he hx hk).kp hk4 h.ne).set 1 (.int .i64 ((n : Int) + 1))
    exact h1
  have hm5 := hm4.kp (Kp.setCell (F := fun k => k = bb) (Kp.refl w4) (p := ⟨bb, 1, none⟩) (fun _ => rfl) (.int .i64 ((n : Int) + 1))) (fun e2 => h.ne e2.symm)
  refine RetF.mk ((hkw.mono fun k _ ho => .inr (.inr ⟨e, hem, ho⟩)).trans (kf.mono fun k _ ho => ho.elim .inl fun h => .inr (.inl h))) ⟨by rw [hR]; rfl, S', pre ++ { e with iv := iv', LL := addS cmpRow LL ss } :: post, hss, hs2, ?_, hC.symm, own_turn hiv2 _⟩
  exact h.turn hkw hss hs2 hr hiv2 kf hm5 hb5 htot (by rw [← hC]; exact ok_add h.ok s ss)
/-- Rows under a new name. -/
theorem baseAdd_new {n : Nat} {b : Nat} (h : BaseAt S w bb r E) (he : findE E s = none) (hf : namedC s = true ∧ ss.length ≤ 64 ∧ textsC ss = true ∧ ¬ 262144 ≤ totalC (cntE E)) (hx : Ext w w3) (hss : ∀ k, S k → S' k) (hsn : ∀ k, S' k → S k ∨ w.heap.size ≤ k)
    (hr : RowsAt S' w3 b iv' ss.length [ss]) (hb : w.heap.size ≤ b) (hiv : ∀ k, iv'.ownBlock = some k → w.heap.size ≤ k)
    (hk4 : Kp (fun k => k = r) w3 w4) (hm4 : MapIs w4 r (putM (entM E) s (.pointer (some ⟨b, 0, none⟩)))) (en : totalC (cntE E) = n) : RetF (OwnB bb r E) w (BaseAdded S w bb r E s ss) (.returned (.tuple #[.bool true, .int .i64 0])) (w4.setCell ⟨bb, 1, none⟩ (.int .i64 ((n : Int) + 1))) := by
  obtain ⟨f1, f2, f3, f4⟩ := hf
  obtain ⟨g1, g2⟩ := findE_none he
  have hR : addR (cntE E) s ss = (true, 0) := by
    rw [addR_rest f1 (ar_none g1 f2) f3 (fun k => f4 k.1), g2, if_neg (by simp)]; rfl
  have hone : addS cmpRow [] ss = [ss] := by simp [addS, isIn, below]
  have hpush := cntE_push he b iv' ss.length [ss]
  have hC : addC (cntE E) s ss = cntE (E ++ [{ name := s, b := b, iv := iv', ar := ss.length, LL := [ss] }]) := by
    unfold addC
    rw [if_pos (by rw [hR]), g2, hone]
    exact hpush
  have htot : n + 1 = totalC (cntE (E ++ [{ name := s, b := b, iv := iv', ar := ss.length, LL := [ss] }])) := by
    rw [← en]
    simp [totalC, cntE, Ent.cnt]
  rw [entM_push he b iv' ss.length [ss]] at hm4
  have kf : Kp (fun k => k = bb ∨ k = r) w3 (w4.setCell ⟨bb, 1, none⟩ (.int .i64 ((n : Int) + 1))) := (hk4.mono fun k _ ho => .inr ho).trans (Kp.setCell (F := fun k => k = bb ∨ k = r) (Kp.refl w4) (fun _ => .inl rfl) _)
  have hb5 : Blk (w4.setCell ⟨bb, 1, none⟩ (.int .i64 ((n : Int) + 1))) bb [.map (some r), .int .i64 ((n + 1 : Nat) : Int)] 65 := ((h.blk.ext hx).kp hk4 h.ne).set 1 (.int .i64 ((n : Int) + 1))
  have hm5 := hm4.kp (Kp.setCell (F := fun k => k = bb) (Kp.refl w4) (p := ⟨bb, 1, none⟩) (fun _ => rfl) (.int .i64 ((n : Int) + 1))) (fun e2 => h.ne e2.symm)
  have ho : ∀ k, Owns b iv' k → w.heap.size ≤ k := fun k ho => by
    rcases ho with rfl | ho
    · exact hb
    · exact hiv k ho
  refine RetF.mk ((Ext.kp hx).trans (kf.mono fun k _ ho => ho.elim .inl fun h => .inr (.inl h))) ⟨by rw [hR]; rfl, S', E ++ [{ name := s, b := b, iv := iv', ar := ss.length, LL := [ss] }], hss, hsn, ?_, hC.symm, ?_⟩
  · exact h.push (e := { name := s, b := b, iv := iv', ar := ss.length, LL := [ss] }) hx hss hsn hr ho kf hb5 hm5 htot (by rw [← hC]; exact ok_add h.ok s ss)
  · rintro k (h1 | h1 | ⟨f, hf, ho2⟩)
    · exact .inl (.inl h1)
    · exact .inl (.inr (.inl h1))
    · rcases List.mem_append.1 hf with hf | hf
      · exact .inl (.inr (.inr ⟨f, hf, ho2⟩))
      · obtain rfl := List.mem_singleton.1 hf
        exact .inr (ho k ho2)
end
end Go.Proofs.YtfkhelihepbehaaGreat

/- tuple.Base: Add, walked. -/
namespace Go.Proofs.YtfkhelihepbehaaGreat
open Go.RowKit
set_option linter.unusedVariables false

set_option maxRecDepth 100000 in
set_option maxHeartbeats 4000000 in
theorem baseAdd_any {S : Nat → Prop} {w : World} {bb r : Nat} {E : List Ent} (h : BaseAt S w bb r E) (s : ByteArray) {ao : Option Addr} {k cap : Nat} {ss : List ByteArray} (hx : RowIn w (ao, k, cap) ss) (ho : RowOff (ao, k, cap) (OwnB bb r E)) :
    Calls Tryz.prog 40 #[.pointer (some ⟨bb, 0, none⟩), .string s, .slice ao k cap] w (RetF (OwnB bb r E) w (BaseAdded S w bb r E s ss)) := by
  have hkn : k = ss.length := hx.1.1
  have hcs : CellsAt w ao (strs ss) := hx.1.2
  have hkl : k ≤ 8796093021952 := by rw [hkn]; exact hx.2.1
  have c0 : w.cell? ⟨bb, 0, none⟩ = some (.map (some r)) := by rw [h.blk.cell']; rfl
  have hlk := run_lookup_str (P := Tryz.prog) Tryz.underlying63 Tryz.underlying9 (z := .pointer none) (by kernel_rfl) h.map s
  rw [entM_get] at hlk
  have hnm := named_any s w
  rw [show decide (1 ≤ s.size ∧ s.size ≤ 4096) = namedC s from rfl] at hnm
  have HN := Lib.hid hnm; clear hnm
  have HT := Lib.hid (fun w1 (hw : Ext w w1) => texts_any ss ao k cap w1 hkn (hcs.ext hw) (by omega))
  obtain ⟨n, en⟩ : ∃ n, totalC (cntE E) = n := ⟨_, rfl⟩
  have EN := Lib.hid en
  have hnl : n ≤ 262144 := by rw [← en]; exact h.ok.few
  have c1 : w.cell? ⟨bb, 1, none⟩ = some (.int .i64 n) := by rw [h.blk.cell', en]; rfl
  have HC1 := Lib.hid (fun w1 (hw : Ext w w1) => (hw.cell c1 id : w1.cell? ⟨bb, 1, none⟩ = some (.int .i64 n)))
  have H := Lib.hid h
  have HX := Lib.hid (And.intro hx ho)
  have HKN := Lib.hid hkn
  clear h hx ho hcs hkn en c1
  cases hn : namedC s with
  | false =>
    rw [hn] at HN
    have HNM := Lib.hid hn
    clear hn hlk c0
    go_enter Tryz.func40, Tryz.ntmps40
    go_wp2_with fail
    refine HN.out.mono ?_
    rintro e w' ⟨rfl, rfl⟩
    go_wp2
    go_ret2
    exact RetF.mk (Kp.refl _) (BaseAdded.same H.out (Kp.refl _) (addR_name ss HNM.out) (by decide) rfl)
  | true =>
    rw [hn] at HN
    have HNM := Lib.hid hn
    clear hn
    cases he : findE E s with
    | none =>
      rw [he] at hlk
      have hlk' : ∀ w', w' = w → (Instr.lookup 63 (.map (some r)) (.string s) false).run Tryz.prog w' = .ok (.pointer none) w' := fun w' e => by rw [e]; exact hlk
      replace hlk := hlk' w rfl
      clear hlk'
      have HE := Lib.hid he
      clear he
      by_cases hl : 64 < k
      · have HNB := Lib.hid (newRows_bad (k : Int) w (.inr (by omega)))
        go_enter Tryz.func40, Tryz.ntmps40
        go_wp2_with fail
        refine HN.out.mono ?_
        rintro e w' ⟨rfl, rfl⟩
        go_wp2_with fail
        refine HNB.out.mono ?_
        rintro e w' ⟨rfl, rfl⟩
        go_wp2
        go_ret2
        exact RetF.mk (Kp.refl _) (BaseAdded.same H.out (Kp.refl _) (addR_long HNM.out (findE_none HE.out).1 (by rw [← HKN.out]; exact hl)) (by decide) rfl)
      have hk64 : k ≤ 64 := by omega
      have HNR := Lib.hid (newRows_any S w k hk64 H.out.inS)
      have HL := Lib.hid (show ss.length ≤ 64 by rw [← HKN.out]; exact hk64)
      clear hl
      cases ht : textsC ss with
      | false =>
        rw [ht] at HT
        have HTX := Lib.hid ht
        clear ht
        go_enter Tryz.func40, Tryz.ntmps40
        go_wp2_with fail
        refine HN.out.mono ?_
        rintro e w' ⟨rfl, rfl⟩
        go_wp2_with fail
        refine HNR.out.mono ?_
        rintro e w1 ⟨v, rfl, hk1, rfl, hrows⟩
        have d2 : w1.cell? ⟨w.heap.size, 2, none⟩ = some (.int .i64 k) := by rw [hrows.blk.cell']; rfl
        have HK1 := Lib.hid hk1
        clear hk1 hrows
        go_wp2_with fail
        refine (HT.out w1 HK1.out).mono ?_
        rintro e w2 ⟨v, rfl, hk2, rfl⟩
        have HK2 := Lib.hid (HK1.out.trans hk2)
        clear hk2
        go_wp2
        go_ret2
        exact RetF.mk (Ext.kp HK2.out) (BaseAdded.same H.out HK2.out (addR_text HNM.out (ar_none (findE_none HE.out).1 HL.out) HTX.out) (by decide) rfl)
      | true =>
        rw [ht] at HT
        have HTX := Lib.hid ht
        clear ht
        have HAdd := Lib.hid (fun w1 (hw : Ext w w1) (hr : RowsAt S w1 w.heap.size (.slice none 0 0) k []) => rowsAdd_any hr List.Pairwise.nil (ao := ao) (n := k) (cap := cap) (ss := ss) ⟨⟨HKN.out, HX.out.1.1.2.ext hw⟩, HX.out.1.2.1, fun a e => Nat.lt_of_lt_of_le (HX.out.1.2.2 a e) hw.size⟩
          (fun a e ho => by
            have := HX.out.1.2.2 a e
            rcases ho with ho | ho
            · omega
            · cases ho) (by simp))
        by_cases hm : 262144 ≤ n
        · have q2 : decide ((262144 : Int) ≤ (n : Int)) = true := by rw [decide_eq_true_iff]; omega
          have HM := Lib.hid hm
          have HHas := Lib.hid (fun w1 (hw : Ext w w1) (hr : RowsAt S w1 w.heap.size (.slice none 0 0) k []) => rowsHas_any hr List.Pairwise.nil (x := (ao, k, cap)) (ss := ss) ⟨⟨HKN.out, HX.out.1.1.2.ext hw⟩, HX.out.1.2.1, fun a e => Nat.lt_of_lt_of_le (HX.out.1.2.2 a e) hw.size⟩
            (fun a e ho => by
              have := HX.out.1.2.2 a e
              rcases ho with ho | ho
              · omega
              · cases ho))
          clear hm
          go_enter Tryz.func40, Tryz.ntmps40
          go_wp2_with fail
          refine HN.out.mono ?_
          rintro e w' ⟨rfl, rfl⟩
          go_wp2_with fail
          refine HNR.out.mono ?_
          rintro e w1 ⟨v, rfl, hk1, rfl, hrows⟩
          have d2 : w1.cell? ⟨w.heap.size, 2, none⟩ = some (.int .i64 k) := by rw [hrows.blk.cell']; rfl
          have HK1 := Lib.hid (And.intro hk1 hrows)
          clear hk1 hrows
          go_wp2_with fail
          refine (HT.out w1 HK1.out.1).mono ?_
          rintro e w2 ⟨v, rfl, hk2, rfl⟩
          have HK2 := Lib.hid (HK1.out.1.trans hk2)
          have HR2 := Lib.hid (HK1.out.2.ext hk2)
          have c1' := HC1.out w2 HK2.out
          clear hk2 d2
          go_wp2_with fail
          refine (HHas.out w2 HK2.out HR2.out).mono ?_
          rintro e w3 ⟨v, rfl, hk3, rfl⟩
          have HK3 := Lib.hid (HK2.out.trans hk3)
          clear hk3 c1'
          have hni : isIn cmpRow ([] : List (List ByteArray)) ss = false := rfl
          go_wp2
          go_ret2
          exact RetF.mk (Ext.kp HK3.out) (BaseAdded.same H.out HK3.out (addR_many HNM.out (ar_none (findE_none HE.out).1 HL.out) HTX.out (by rw [EN.out]; exact HM.out) (by rw [(findE_none HE.out).2]; rfl)) (by decide) rfl)
        · have q2 : decide ((262144 : Int) ≤ (n : Int)) = false := by rw [decide_eq_false_iff_not]; omega
          have HM := Lib.hid hm
          clear hm
          go_enter Tryz.func40, Tryz.ntmps40
          go_wp2_with fail
          refine HN.out.mono ?_
          rintro e w' ⟨rfl, rfl⟩
          go_wp2_with fail
          refine HNR.out.mono ?_
          rintro e w1 ⟨v, rfl, hk1, rfl, hrows⟩
          have d2 : w1.cell? ⟨w.heap.size, 2, none⟩ = some (.int .i64 k) := by rw [hrows.blk.cell']; rfl
          have HK1 := Lib.hid (And.intro hk1 hrows)
          clear hk1 hrows
          go_wp2_with fail
          refine (HT.out w1 HK1.out.1).mono ?_
          rintro e w2 ⟨v, rfl, hk2, rfl⟩
          have HK2 := Lib.hid (HK1.out.1.trans hk2)
          have HR2 := Lib.hid (HK1.out.2.ext hk2)
          have c1' := HC1.out w2 HK2.out
          clear hk2 d2
          go_wp2_with fail
          refine (HAdd.out w2 HK2.out HR2.out).mono ?_
          rintro e w3 ⟨v, rfl, hk3, hv, S', iv', hss, hsn, hrows3, hiv⟩
          have e0 : rowsAddR k [] ss = (true, 0) := by
            unfold rowsAddR; rw [if_neg (by rw [HKN.out]; simp), if_neg (by rw [HTX.out]; simp), if_neg (by simp)]; simp [isIn]
          have e1 : rowsAddL k [] ss = [ss] := by
            unfold rowsAddL; rw [e0]; simp [addS, isIn, below]
          rw [e0] at hv
          rw [e1] at hrows3
          subst hv
          have hz := HK2.out.size
          have kk3 : Kp (fun g => g = w.heap.size) w2 w3 := hk3.mono fun g _ h => by
            rcases h with h | h
            · exact h
            · cases h
          have hex3 : Ext w w3 := HK2.out.trans' kk3 (fun i hi e => by omega)
          rw [HKN.out] at hrows3
          have HR3 := Lib.hid (And.intro hex3 (And.intro hss (And.intro (fun q (hq : S' q) => (hsn q hq).imp id fun u => Nat.le_trans hz u) (And.intro hrows3 (fun q (hq : iv'.ownBlock = some q) => show w.heap.size ≤ q by
            rcases hiv q hq with u | u
            · cases u
            · exact Nat.le_trans hz u)))))
          have HB3 := Lib.hid (And.intro (H.out.blk.ext hex3) (H.out.map.ext hex3))
          clear hk3 kk3 hex3 hrows3 hss hsn hiv e0 e1 c1' hlk c0 hz
          go_wp2_with fail
          refine (basePut_any HB3.out.1 HB3.out.2 s (some ⟨w.heap.size, 0, none⟩)).mono ?_
          rintro e w4 ⟨v, rfl, hk4, hm4⟩
          have HM4 := Lib.hid (And.intro hk4 hm4)
          have hb4 : Blk w4 bb [.map (some r), .int .i64 (totalC (cntE E) : Nat)] 65 := HB3.out.1.kp hk4 H.out.ne
          have c4 : w4.cell? ⟨bb, 1, none⟩ = some (.int .i64 n) := by rw [hb4.cell', EN.out]; rfl
          have f4 := hb4.free 1
          clear hk4 hm4 hb4
          go_wp2
          go_ret2
          exact baseAdd_new H.out HE.out ⟨HNM.out, HL.out, HTX.out, by rw [EN.out]; exact HM.out⟩ HR3.out.1 HR3.out.2.1 HR3.out.2.2.1 HR3.out.2.2.2.1 (Nat.le_refl _) HR3.out.2.2.2.2 HM4.out.1 HM4.out.2 EN.out
    | some e0 =>
      rw [he] at hlk
      have HE := Lib.hid he
      obtain ⟨hem, hes⟩ := findE_some he
      obtain ⟨b0, eb0⟩ : ∃ b0, e0.b = b0 := ⟨_, rfl⟩
      obtain ⟨ar, ear⟩ : ∃ ar, e0.ar = ar := ⟨_, rfl⟩
      obtain ⟨LL, eLL⟩ : ∃ LL, e0.LL = LL := ⟨_, rfl⟩
      have hlk' : (Instr.lookup 63 (.map (some r)) (.string s) false).run Tryz.prog w = .ok (.pointer (some ⟨b0, 0, none⟩)) w := by rw [← eb0]; exact hlk
      have hra := H.out.rows e0 hem
      have d2 : w.cell? ⟨b0, 2, none⟩ = some (.int .i64 ar) := by rw [← eb0, hra.blk.cell', ear]; rfl
      have HEM := Lib.hid (And.intro hem (And.intro eb0 (And.intro ear eLL)))
      have hoff : RowOff (ao, k, cap) (Owns e0.b e0.iv) := fun a e hown => HX.out.2 a e (.inr (.inr ⟨e0, hem, hown⟩))
      have HOff := Lib.hid hoff
      have HHas := Lib.hid (fun w1 (hw : Ext w w1) => rowsHas_any ((H.out.rows e0 hem).ext hw) (H.out.strict hem) (x := (ao, k, cap)) (ss := ss) ⟨⟨HKN.out, HX.out.1.1.2.ext hw⟩, HX.out.1.2.1, fun a e => Nat.lt_of_lt_of_le (HX.out.1.2.2 a e) hw.size⟩ hoff)
      have HA := Lib.hid (fun w1 (hw : Ext w w1) => rowsAdd_any ((H.out.rows e0 hem).ext hw) (H.out.strict hem) (ao := ao) (n := k) (cap := cap) (ss := ss) ⟨⟨HKN.out, HX.out.1.1.2.ext hw⟩, HX.out.1.2.1, fun a e => Nat.lt_of_lt_of_le (HX.out.1.2.2 a e) hw.size⟩ hoff (by have := H.out.few hem; omega))
      clear he hem hes hra hoff hlk
      rw [HEM.out.2.1, HEM.out.2.2.2] at HHas
      rw [HEM.out.2.1, HEM.out.2.2.1, HEM.out.2.2.2] at HA
      clear eb0 ear eLL
      by_cases ha : ar = k
      · have HAr := Lib.hid ha
        have q1 : ((ar : Int) != (k : Int)) = false := by simp [ha]
        clear ha
        have hnil : Ext w w := Kp.refl w
        cases ht : textsC ss with
        | false =>
          rw [ht] at HT
          have HTX := Lib.hid ht
          clear ht
          go_enter Tryz.func40, Tryz.ntmps40
          go_wp2_with fail
          refine HN.out.mono ?_
          rintro e w' ⟨rfl, rfl⟩
          go_wp2_with fail
          refine (HT.out w hnil).mono ?_
          rintro e w2 ⟨v, rfl, hk2, rfl⟩
          have HK2 := Lib.hid hk2
          clear hk2
          go_wp2
          go_ret2
          exact RetF.mk (Ext.kp HK2.out) (BaseAdded.same H.out HK2.out (addR_text HNM.out (ar_some (findE_rows HE.out).1 (by rw [HEM.out.2.2.1, HAr.out]; exact HKN.out)) HTX.out) (by decide) rfl)
        | true =>
          rw [ht] at HT
          have HTX := Lib.hid ht
          clear ht
          have hR0 : rowsAddR ar LL ss = if 65536 ≤ LL.length ∧ isIn cmpRow LL ss = false then (false, 4) else (!isIn cmpRow LL ss, 0) := by
            unfold rowsAddR
            rw [if_neg (by rw [HAr.out, HKN.out]; simp), if_neg (by rw [HTX.out]; simp)]
          have HR0 := Lib.hid hR0
          clear hR0
          by_cases hm : 262144 ≤ n
          · have q2 : decide ((262144 : Int) ≤ (n : Int)) = true := by rw [decide_eq_true_iff]; omega
            have HM := Lib.hid hm
            clear hm
            cases hi : isIn cmpRow LL ss with
            | false =>
              have HI := Lib.hid hi
              rw [hi] at HHas
              clear hi
              go_enter Tryz.func40, Tryz.ntmps40
              go_wp2_with fail
              refine HN.out.mono ?_
              rintro e w' ⟨rfl, rfl⟩
              go_wp2_with fail
              refine (HT.out w hnil).mono ?_
              rintro e w2 ⟨v, rfl, hk2, rfl⟩
              have HK2 := Lib.hid hk2
              have c1' := HC1.out w2 hk2
              clear hk2
              go_wp2_with fail
              refine (HHas.out w2 HK2.out).mono ?_
              rintro e w3 ⟨v, rfl, hk3, rfl⟩
              have HK3 := Lib.hid (HK2.out.trans hk3)
              clear hk3 c1'
              go_wp2
              go_ret2
              exact RetF.mk (Ext.kp HK3.out) (BaseAdded.same H.out HK3.out (addR_many HNM.out (ar_some (findE_rows HE.out).1 (by rw [HEM.out.2.2.1, HAr.out]; exact HKN.out)) HTX.out (by rw [EN.out]; exact HM.out) (by rw [(findE_rows HE.out).2, HEM.out.2.2.2]; exact HI.out)) (by decide) rfl)
            | true =>
              have HI0 := Lib.hid hi
              rw [hi] at HHas
              clear hi
              have HF := Lib.hid (show (namedC s = true ∧ e0.ar = ss.length ∧ textsC ss = true ∧ e0.LL = LL ∧ ¬ (262144 ≤ totalC (cntE E) ∧ isIn cmpRow LL ss = false)) ∧ True from ⟨⟨HNM.out, by rw [HEM.out.2.2.1, HAr.out]; exact HKN.out, HTX.out, HEM.out.2.2.2, fun q => by rw [HI0.out] at q; cases q.2⟩, trivial⟩)
              go_enter Tryz.func40, Tryz.ntmps40
              go_wp2_with fail
              refine HN.out.mono ?_
              rintro e w' ⟨rfl, rfl⟩
              go_wp2_with fail
              refine (HT.out w hnil).mono ?_
              rintro e w2 ⟨v, rfl, hk2, rfl⟩
              have HK2 := Lib.hid hk2
              have c1' := HC1.out w2 hk2
              clear hk2
              go_wp2_with fail
              refine (HHas.out w2 HK2.out).mono ?_
              rintro e w2b ⟨v, rfl, hk3, rfl⟩
              have HK2b := Lib.hid (HK2.out.trans hk3)
              clear hk3 c1'
              go_wp2_with fail
              refine (HA.out w2b HK2b.out).mono ?_
              rintro e w3 ⟨v, rfl, hk3, hv, S', iv', hss, hsn, hrows3, hiv⟩
              rw [← HEM.out.2.1] at hk3 hrows3
              rw [← HEM.out.2.2.1] at hrows3
              have HX3 := Lib.hid (And.intro hk3 (And.intro hss (And.intro hsn (And.intro hrows3 hiv))))
              rw [HR0.out] at hv
              subst hv
              clear hk3 hss hsn hrows3 hiv
              by_cases h4 : 65536 ≤ LL.length ∧ isIn cmpRow LL ss = false
              · have e4 : (if 65536 ≤ LL.length ∧ isIn cmpRow LL ss = false then (false, 4) else (!isIn cmpRow LL ss, 0)) = (false, 4) := if_pos h4
                have H4 := Lib.hid (And.intro h4 e4)
                rw [e4]
                clear h4 e4
                go_wp2
                go_ret2
                exact baseAdd_full H.out HE.out HF.out.1 HK2b.out HX3.out.1 HX3.out.2.1 HX3.out.2.2.1 HX3.out.2.2.2.1 HX3.out.2.2.2.2 (by rw [HEM.out.2.2.1]; exact HR0.out) H4.out.1
              · have e4 : (if 65536 ≤ LL.length ∧ isIn cmpRow LL ss = false then (false, 4) else (!isIn cmpRow LL ss, 0)) = (!isIn cmpRow LL ss, 0) := if_neg h4
                have H4 := Lib.hid (And.intro h4 e4)
                rw [e4]
                clear h4 e4
                have hm3 := baseMap_own H.out HE.out HK2b.out HX3.out.1
                have hb3 := baseBlk_own H.out HE.out HK2b.out HX3.out.1
                have HB3 := Lib.hid (And.intro hb3 hm3)
                have c31 : w3.cell? ⟨bb, 1, none⟩ = some (.int .i64 n) := by rw [HB3.out.1.cell', EN.out]; rfl
                clear hm3 hb3 c31
                cases hi : isIn cmpRow LL ss with
                | true =>
                  have HI := Lib.hid hi
                  clear hi
                  go_wp2_with fail
                  refine (basePut_any HB3.out.1 HB3.out.2 s (some ⟨b0, 0, none⟩)).mono ?_
                  rintro e w4 ⟨v, rfl, hk4, hm4⟩
                  rw [← HEM.out.2.1] at hm4
                  have HM4 := Lib.hid (And.intro hk4 hm4)
                  clear hk4 hm4
                  go_wp2
                  go_ret2
                  exact baseAdd_had H.out HE.out HF.out.1 HK2b.out HX3.out.1 HX3.out.2.1 HX3.out.2.2.1 HX3.out.2.2.2.1 HX3.out.2.2.2.2 (by rw [HEM.out.2.2.1]; exact HR0.out) HI.out HM4.out.1 HM4.out.2
                | false =>
                  have HI := Lib.hid hi
                  clear hi
                  go_wp2_with fail
                  refine (basePut_any HB3.out.1 HB3.out.2 s (some ⟨b0, 0, none⟩)).mono ?_
                  rintro e w4 ⟨v, rfl, hk4, hm4⟩
                  rw [← HEM.out.2.1] at hm4
                  have HM4 := Lib.hid (And.intro hk4 hm4)
                  have hb4 : Blk w4 bb [.map (some r), .int .i64 (totalC (cntE E) : Nat)] 65 := HB3.out.1.kp hk4 H.out.ne
                  have c4 : w4.cell? ⟨bb, 1, none⟩ = some (.int .i64 n) := by rw [hb4.cell', EN.out]; rfl
                  have f4 := hb4.free 1
                  clear hk4 hm4 hb4
                  go_wp2
                  go_ret2
                  exact baseAdd_got H.out HE.out HF.out.1 HK2b.out HX3.out.1 HX3.out.2.1 HX3.out.2.2.1 HX3.out.2.2.2.1 HX3.out.2.2.2.2 (by rw [HEM.out.2.2.1]; exact HR0.out) HI.out H4.out.1 HM4.out.1 HM4.out.2 EN.out
          · have q2 : decide ((262144 : Int) ≤ (n : Int)) = false := by rw [decide_eq_false_iff_not]; omega
            have HM := Lib.hid hm
            clear hm
            have HF := Lib.hid (show (namedC s = true ∧ e0.ar = ss.length ∧ textsC ss = true ∧ e0.LL = LL ∧ ¬ (262144 ≤ totalC (cntE E) ∧ isIn cmpRow LL ss = false)) ∧ True from ⟨⟨HNM.out, by rw [HEM.out.2.2.1, HAr.out]; exact HKN.out, HTX.out, HEM.out.2.2.2, fun q => HM.out (by rw [← EN.out]; exact q.1)⟩, trivial⟩)
            go_enter Tryz.func40, Tryz.ntmps40
            go_wp2_with fail
            refine HN.out.mono ?_
            rintro e w' ⟨rfl, rfl⟩
            go_wp2_with fail
            refine (HT.out w hnil).mono ?_
            rintro e w2 ⟨v, rfl, hk2, rfl⟩
            have HK2 := Lib.hid hk2
            have c1' := HC1.out w2 hk2
            clear hk2
            go_wp2_with fail
            refine (HA.out w2 HK2.out).mono ?_
            rintro e w3 ⟨v, rfl, hk3, hv, S', iv', hss, hsn, hrows3, hiv⟩
            rw [← HEM.out.2.1] at hk3 hrows3
            rw [← HEM.out.2.2.1] at hrows3
            have HX3 := Lib.hid (And.intro hk3 (And.intro hss (And.intro hsn (And.intro hrows3 hiv))))
            rw [HR0.out] at hv
            subst hv
            clear hk3 hss hsn hrows3 hiv
            by_cases h4 : 65536 ≤ LL.length ∧ isIn cmpRow LL ss = false
            · have e4 : (if 65536 ≤ LL.length ∧ isIn cmpRow LL ss = false then (false, 4) else (!isIn cmpRow LL ss, 0)) = (false, 4) := if_pos h4
              have H4 := Lib.hid (And.intro h4 e4)
              rw [e4]
              clear h4 e4
              go_wp2
              go_ret2
              exact baseAdd_full H.out HE.out HF.out.1 HK2.out HX3.out.1 HX3.out.2.1 HX3.out.2.2.1 HX3.out.2.2.2.1 HX3.out.2.2.2.2 (by rw [HEM.out.2.2.1]; exact HR0.out) H4.out.1
            · have e4 : (if 65536 ≤ LL.length ∧ isIn cmpRow LL ss = false then (false, 4) else (!isIn cmpRow LL ss, 0)) = (!isIn cmpRow LL ss, 0) := if_neg h4
              have H4 := Lib.hid (And.intro h4 e4)
              rw [e4]
              clear h4 e4
              have hm3 := baseMap_own H.out HE.out HK2.out HX3.out.1
              have hb3 := baseBlk_own H.out HE.out HK2.out HX3.out.1
              have HB3 := Lib.hid (And.intro hb3 hm3)
              have c31 : w3.cell? ⟨bb, 1, none⟩ = some (.int .i64 n) := by rw [HB3.out.1.cell', EN.out]; rfl
              clear hm3 hb3 c31
              cases hi : isIn cmpRow LL ss with
              | true =>
                have HI := Lib.hid hi
                clear hi
                go_wp2_with fail
                refine (basePut_any HB3.out.1 HB3.out.2 s (some ⟨b0, 0, none⟩)).mono ?_
                rintro e w4 ⟨v, rfl, hk4, hm4⟩
                rw [← HEM.out.2.1] at hm4
                have HM4 := Lib.hid (And.intro hk4 hm4)
                clear hk4 hm4
                go_wp2
                go_ret2
                exact baseAdd_had H.out HE.out HF.out.1 HK2.out HX3.out.1 HX3.out.2.1 HX3.out.2.2.1 HX3.out.2.2.2.1 HX3.out.2.2.2.2 (by rw [HEM.out.2.2.1]; exact HR0.out) HI.out HM4.out.1 HM4.out.2
              | false =>
                have HI := Lib.hid hi
                clear hi
                go_wp2_with fail
                refine (basePut_any HB3.out.1 HB3.out.2 s (some ⟨b0, 0, none⟩)).mono ?_
                rintro e w4 ⟨v, rfl, hk4, hm4⟩
                rw [← HEM.out.2.1] at hm4
                have HM4 := Lib.hid (And.intro hk4 hm4)
                have hb4 : Blk w4 bb [.map (some r), .int .i64 (totalC (cntE E) : Nat)] 65 := HB3.out.1.kp hk4 H.out.ne
                have c4 : w4.cell? ⟨bb, 1, none⟩ = some (.int .i64 n) := by rw [hb4.cell', EN.out]; rfl
                have f4 := hb4.free 1
                clear hk4 hm4 hb4
                go_wp2
                go_ret2
                exact baseAdd_got H.out HE.out HF.out.1 HK2.out HX3.out.1 HX3.out.2.1 HX3.out.2.2.1 HX3.out.2.2.2.1 HX3.out.2.2.2.2 (by rw [HEM.out.2.2.1]; exact HR0.out) HI.out H4.out.1 HM4.out.1 HM4.out.2 EN.out
      · have HAr := Lib.hid ha
        have q1 : ((ar : Int) != (k : Int)) = true := by rw [bne_iff_ne]; omega
        clear ha
        go_enter Tryz.func40, Tryz.ntmps40
        go_wp2_with fail
        refine HN.out.mono ?_
        rintro e w' ⟨rfl, rfl⟩
        go_wp2
        go_ret2
        exact RetF.mk (Kp.refl _) (BaseAdded.same H.out (Kp.refl _) (addR_arity HNM.out (findE_rows HE.out).1 (by show e0.ar ≠ ss.length; rw [HEM.out.2.2.1, ← HKN.out]; exact HAr.out)) (by decide) rfl)
end Go.Proofs.YtfkhelihepbehaaGreat

/- tuple.Base: Declare, at every base. -/
namespace Go.Proofs.YtfkhelihepbehaaGreat
open Go.RowKit
set_option linter.unusedVariables false

section
variable {S S' : Nat → Prop} {w w1 w2 w3 w4 : World} {bb r : Nat} {E : List Ent} {s : ByteArray} {e : Ent}
/-- What Declare leaves. -/
def BaseDecled (S : Nat → Prop) (w : World) (bb r : Nat) (E : List Ent) (s : ByteArray) (a : Int) (w' : World) (v : Value) : Prop :=
  v = .int .i64 ((declR (cntE E) s a : Nat) : Int) ∧ ∃ E', BaseAt S w' bb r E' ∧ cntE E' = declC (cntE E) s a ∧ ∀ k, OwnB bb r E' k → OwnB bb r E k ∨ w.heap.size ≤ k
theorem BaseDecled.same {a : Int} (h : BaseAt S w bb r E) (hk : Ext w w1) {n : Nat} (hR : declR (cntE E) s a = n) (hn : declC (cntE E) s a = cntE E) {v : Value} (hv : v = .int .i64 (n : Nat)) : BaseDecled S w bb r E s a w1 v :=
  ⟨by rw [hv, hR], E, h.ext hk, hn.symm, fun _ h => .inl h⟩
theorem declR_name {C : List CntZ} (a : Int) (h : namedC s = false) : declR C s a = 32 := if_pos h
theorem declR_bad {C : List CntZ} {a : Int} (h : namedC s = true) (ha : a < 0 ∨ 64 < a) : declR C s a = 2 := by
  unfold declR
  rw [if_neg (by rw [h]; simp), if_pos ha]
theorem declR_none {C : List CntZ} {a : Int} (h : namedC s = true) (ha : ¬ (a < 0 ∨ 64 < a)) (hg : getC C s = none) : declR C s a = 0 := by
  unfold declR
  rw [if_neg (by rw [h]; simp), if_neg ha, hg]
theorem declR_some {C : List CntZ} {a : Int} {v : Nat × Rows2} (h : namedC s = true) (ha : ¬ (a < 0 ∨ 64 < a)) (hg : getC C s = some v) : declR C s a = if (v.1 : Int) = a then 0 else 30 := by
  unfold declR
  rw [if_neg (by rw [h]; simp), if_neg ha, hg]
theorem declC_not {C : List CntZ} {a : Int} (h : declR C s a ≠ 0) : declC C s a = C := if_neg fun k => h k.1
theorem declC_some {C : List CntZ} {a : Int} {v : Nat × Rows2} (hg : getC C s = some v) : declC C s a = C := if_neg fun k => by rw [hg] at k; cases k.2
/-- A name comes. -/
theorem baseDecl_new {k b : Nat} (h : BaseAt S w bb r E) (he : findE E s = none) (hn : namedC s = true) (hk : k ≤ 64) (hx : Ext w w3) (hr : RowsAt S w3 b (.slice none 0 0) k []) (hb : w.heap.size ≤ b)
    (hk4 : Kp (fun k => k = r) w3 w4) (hm4 : MapIs w4 r (putM (entM E) s (.pointer (some ⟨b, 0, none⟩)))) : RetF (OwnB bb r E) w (BaseDecled S w bb r E s (k : Int)) (.returned (.int .i64 0)) w4 := by
  obtain ⟨g1, g2⟩ := findE_none he
  have hR : declR (cntE E) s (k : Int) = 0 := declR_none hn (by omega) g1
  have hC : declC (cntE E) s (k : Int) = cntE (E ++ [{ name := s, b := b, iv := .slice none 0 0, ar := k, LL := [] }]) := by
    unfold declC
    rw [if_pos ⟨hR, g1⟩]
    simp [cntE, Ent.cnt]
  rw [entM_push he b (.slice none 0 0) k []] at hm4
  have ho : ∀ q, Owns b (.slice none 0 0) q → w.heap.size ≤ q := fun q ho => by
    rcases ho with rfl | ho
    · exact hb
    · cases ho
  have htot : totalC (cntE E) = totalC (cntE (E ++ [{ name := s, b := b, iv := .slice none 0 0, ar := k, LL := [] }])) := by simp [totalC, cntE, Ent.cnt]
  refine RetF.mk ((Ext.kp hx).trans (hk4.mono fun k _ ho => .inr (.inl ho))) ⟨by rw [hR]; rfl, E ++ [{ name := s, b := b, iv := .slice none 0 0, ar := k, LL := [] }], ?_, hC.symm, ?_⟩
  · exact h.push (e := { name := s, b := b, iv := .slice none 0 0, ar := k, LL := [] }) hx (fun _ x => x) (fun _ x => .inl x) hr ho (hk4.mono fun k _ ho => .inr ho) ((h.blk.ext hx).kp hk4 h.ne) hm4 htot (by rw [← hC]; exact ok_decl h.ok s _)
  · rintro q (h1 | h1 | ⟨f, hf, ho2⟩)
    · exact .inl (.inl h1)
    · exact .inl (.inr (.inl h1))
    · rcases List.mem_append.1 hf with hf | hf
      · exact .inl (.inr (.inr ⟨f, hf, ho2⟩))
      · obtain rfl := List.mem_singleton.1 hf
        exact .inr (ho q ho2)

set_option maxRecDepth 100000 in
set_option maxHeartbeats 4000000 in
theorem baseDecl_any (h : BaseAt S w bb r E) (s : ByteArray) (a : Int) :
    Calls Tryz.prog 56 #[.pointer (some ⟨bb, 0, none⟩), .string s, .int .i64 a] w (RetF (OwnB bb r E) w (BaseDecled S w bb r E s a)) := by
  have c0 : w.cell? ⟨bb, 0, none⟩ = some (.map (some r)) := by rw [h.blk.cell']; rfl
  have hnm := named_any s w
  rw [show decide (1 ≤ s.size ∧ s.size ≤ 4096) = namedC s from rfl] at hnm
  have HN := Lib.hid hnm; clear hnm
  have H := Lib.hid h
  have HLk := Lib.hid (fun w1 (hw : Ext w w1) => run_lookup_str (P := Tryz.prog) Tryz.underlying63 Tryz.underlying9 (z := .pointer none) (by kernel_rfl) (h.map.ext hw) s)
  rw [entM_get] at HLk
  clear h
  cases hn : namedC s with
  | false =>
    rw [hn] at HN
    have HNM := Lib.hid hn
    clear hn c0
    go_enter Tryz.func56, Tryz.ntmps56
    go_wp2_with fail
    refine HN.out.mono ?_
    rintro e w' ⟨rfl, rfl⟩
    go_wp2
    go_ret
    exact RetF.mk (Kp.refl _) (BaseDecled.same H.out (Kp.refl _) (declR_name a HNM.out) (declC_not (by rw [declR_name a HNM.out]; decide)) rfl)
  | true =>
    rw [hn] at HN
    have HNM := Lib.hid hn
    clear hn
    by_cases ha : a < 0 ∨ 64 < a
    · have HNB := Lib.hid (newRows_bad a w ha)
      have HAB := Lib.hid ha
      obtain ⟨p, hp⟩ : ∃ p : Option Addr, ((findE E s).map Ent.ptr).getD (.pointer none) = .pointer p := by
        cases findE E s with
        | none => exact ⟨none, rfl⟩
        | some e => exact ⟨some ⟨e.b, 0, none⟩, rfl⟩
      have hlk := HLk.out w (Kp.refl w)
      rw [hp] at hlk
      clear ha hp
      go_enter Tryz.func56, Tryz.ntmps56
      go_wp2_with fail
      refine HN.out.mono ?_
      rintro e w' ⟨rfl, rfl⟩
      go_wp2_with fail
      refine HNB.out.mono ?_
      rintro e w' ⟨rfl, rfl⟩
      go_wp2
      go_ret
      have e2 := declR_bad (s := s) (C := cntE E) HNM.out HAB.out
      exact RetF.mk (Kp.refl _) (BaseDecled.same H.out (Kp.refl _) e2 (declC_not (by rw [e2]; decide)) rfl)
    · obtain ⟨k, rfl⟩ := Int.eq_ofNat_of_zero_le (show 0 ≤ a by omega)
      have hk64 : k ≤ 64 := by omega
      have HNR := Lib.hid (newRows_any S w k hk64 H.out.inS)
      have HAN := Lib.hid ha
      clear ha
      cases he : findE E s with
      | none =>
        rw [he] at HLk
        have HE := Lib.hid he
        clear he
        go_enter Tryz.func56, Tryz.ntmps56
        go_wp2_with fail
        refine HN.out.mono ?_
        rintro e w' ⟨rfl, rfl⟩
        go_wp2_with fail
        refine HNR.out.mono ?_
        rintro e w1 ⟨v, rfl, hk1, rfl, hrows⟩
        have hlk : (Instr.lookup 63 (.map (some r)) (.string s) false).run Tryz.prog w1 = .ok (.pointer none) w1 := HLk.out w1 hk1
        have c1 := hk1.cell c0 id
        have HK1 := Lib.hid (And.intro hk1 hrows)
        clear hk1 hrows
        go_wp2_with fail
        refine (basePut_any (H.out.blk.ext HK1.out.1) (H.out.map.ext HK1.out.1) s (some ⟨w.heap.size, 0, none⟩)).mono ?_
        rintro e w4 ⟨v, rfl, hk4, hm4⟩
        have HM4 := Lib.hid (And.intro hk4 hm4)
        clear hk4 hm4
        go_wp2
        go_ret
        exact baseDecl_new H.out HE.out HNM.out hk64 HK1.out.1 HK1.out.2 (Nat.le_refl _) HM4.out.1 HM4.out.2
      | some e0 =>
        rw [he] at HLk
        have HE := Lib.hid he
        obtain ⟨hem, hes⟩ := findE_some he
        obtain ⟨b0, eb0⟩ : ∃ b0, e0.b = b0 := ⟨_, rfl⟩
        obtain ⟨ar, ear⟩ : ∃ ar, e0.ar = ar := ⟨_, rfl⟩
        have d2 : w.cell? ⟨b0, 2, none⟩ = some (.int .i64 ar) := by rw [← eb0, (H.out.rows e0 hem).blk.cell', ear]; rfl
        have HEM := Lib.hid (And.intro eb0 ear)
        have hg : getC (cntE E) s = some (ar, e0.LL) := by rw [← ear]; exact (findE_rows he).1
        have hR := declR_some (C := cntE E) HNM.out HAN.out hg
        have HR := Lib.hid (And.intro hR (declC_some (C := cntE E) (a := (k : Int)) hg))
        clear he hem hes eb0 ear hg hR
        by_cases hq : ar = k
        · have q1 : ((ar : Int) != (k : Int)) = false := by simp [hq]
          have HQ := Lib.hid hq
          clear hq
          go_enter Tryz.func56, Tryz.ntmps56
          go_wp2_with fail
          refine HN.out.mono ?_
          rintro e w' ⟨rfl, rfl⟩
          go_wp2_with fail
          refine HNR.out.mono ?_
          rintro e w1 ⟨v, rfl, hk1, rfl, hrows⟩
          have hlk : (Instr.lookup 63 (.map (some r)) (.string s) false).run Tryz.prog w1 = .ok (.pointer (some ⟨b0, 0, none⟩)) w1 := by rw [← HEM.out.1]; exact HLk.out w1 hk1
          have c1 := hk1.cell c0 id
          have d21 := hk1.cell d2 id
          have HK1 := Lib.hid hk1
          clear hk1 hrows
          go_wp2
          go_ret
          exact RetF.mk (Ext.kp HK1.out) (BaseDecled.same H.out HK1.out (by rw [HR.out.1, if_pos (by rw [HQ.out])]) HR.out.2 rfl)
        · have q1 : ((ar : Int) != (k : Int)) = true := by rw [bne_iff_ne]; omega
          have HQ := Lib.hid hq
          clear hq
          go_enter Tryz.func56, Tryz.ntmps56
          go_wp2_with fail
          refine HN.out.mono ?_
          rintro e w' ⟨rfl, rfl⟩
          go_wp2_with fail
          refine HNR.out.mono ?_
          rintro e w1 ⟨v, rfl, hk1, rfl, hrows⟩
          have hlk : (Instr.lookup 63 (.map (some r)) (.string s) false).run Tryz.prog w1 = .ok (.pointer (some ⟨b0, 0, none⟩)) w1 := by rw [← HEM.out.1]; exact HLk.out w1 hk1
          have c1 := hk1.cell c0 id
          have d21 := hk1.cell d2 id
          have HK1 := Lib.hid hk1
          clear hk1 hrows
          go_wp2
          go_ret
          exact RetF.mk (Ext.kp HK1.out) (BaseDecled.same H.out HK1.out (by rw [HR.out.1, if_neg (fun q => HQ.out (by omega))]) HR.out.2 rfl)
end
end Go.Proofs.YtfkhelihepbehaaGreat

/- tuple.Base: FromRelations. -/
namespace Go.Proofs.YtfkhelihepbehaaGreat
open Go.RowKit
set_option linter.unusedVariables false

/-- Relations that lie from an address on, in blocks of S, their rows too. -/
def RelsIn (S : Nat → Prop) (w : World) (ao : Option Addr) (L : List RelZ) : Prop := ∀ (i : Nat) (q : RelZ), L[i]? = some q → ∃ b off ra rcap, ao = some ⟨b, off, none⟩ ∧ S b ∧ w.cell? ⟨b, off + i * 3, none⟩ = some (.string q.1) ∧ w.cell? ⟨b, off + i * 3 + 1, none⟩ = some (.int .i64 q.2.1) ∧ w.cell? ⟨b, off + i * 3 + 2, none⟩ = some (.slice ra q.2.2.1.length rcap) ∧ q.2.2.1.length ≤ rcap ∧ rcap ≤ maxLen ∧ RowsIn S w ra q.2.2.1
section
variable {S S' : Nat → Prop} {w w' : World} {ao : Option Addr} {L : List RelZ}
theorem RelsIn.kp {F : Nat → Prop} (h : RelsIn S w ao L) (hk : Kp F w w') (hF : ∀ k, F k → ¬ S k) : RelsIn S w' ao L := fun i q hq => by
  obtain ⟨b, off, ra, rcap, e, hb, c0, c1, c2, h1, h2, h3⟩ := h i q hq
  exact ⟨b, off, ra, rcap, e, hb, hk.cell c0 (fun f => hF _ f hb), hk.cell c1 (fun f => hF _ f hb), hk.cell c2 (fun f => hF _ f hb), h1, h2, h3.kp hk hF⟩
theorem RelsIn.ext (h : RelsIn S w ao L) (hk : Ext w w') : RelsIn S w' ao L := h.kp hk fun _ x => x.elim
theorem RelsIn.mono (h : RelsIn S w ao L) (hs : ∀ k, S k → S' k) : RelsIn S' w ao L := fun i q hq => by
  obtain ⟨b, off, ra, rcap, e, hb, c0, c1, c2, h1, h2, h3⟩ := h i q hq
  exact ⟨b, off, ra, rcap, e, hs b hb, c0, c1, c2, h1, h2, h3.mono hs⟩
end
theorem from_bad {C : List CntZ} {q : RelZ} {L : List RelZ} (h : declR C q.1 q.2.1 ≠ 0) : fromC C (q :: L) = (C, declR C q.1 q.2.1) := if_neg h
theorem from_err {C : List CntZ} {q : RelZ} {L : List RelZ} (h : declR C q.1 q.2.1 = 0) (h2 : (addAll (declC C q.1 q.2.1) q.1 q.2.2.1).2 ≠ 0) : fromC C (q :: L) = addAll (declC C q.1 q.2.1) q.1 q.2.2.1 := by
  show (if declR C q.1 q.2.1 = 0 then _ else _) = _
  rw [if_pos h, if_neg h2]
theorem from_go {C : List CntZ} {q : RelZ} {L : List RelZ} (h : declR C q.1 q.2.1 = 0) (h2 : (addAll (declC C q.1 q.2.1) q.1 q.2.2.1).2 = 0) : fromC C (q :: L) = fromC (addAll (declC C q.1 q.2.1) q.1 q.2.2.1).1 L := by
  show (if declR C q.1 q.2.1 = 0 then _ else _) = _
  rw [if_pos h, if_pos h2]
theorem addAll_go {C : List CntZ} {s : ByteArray} {x : List ByteArray} {rs : Rows2} (h : (addR C s x).2 = 0) : addAll C s (x :: rs) = addAll (addC C s x) s rs := if_pos h
theorem addAll_bad {C : List CntZ} {s : ByteArray} {x : List ByteArray} {rs : Rows2} (h : (addR C s x).2 ≠ 0) : addAll C s (x :: rs) = (C, (addR C s x).2) := if_neg h

/-- What FromRelations makes. -/
def FromV (w : World) (L : List RelZ) (w' : World) (v : Value) : Prop :=
  ((fromC [] L).2 = 0 → ∃ bb r S E, v = .tuple #[.pointer (some ⟨bb, 0, none⟩), .int .i64 0] ∧ BaseAt S w' bb r E ∧ cntE E = (fromC [] L).1 ∧ (∀ k, S k → w.heap.size ≤ k) ∧ ∀ k, OwnB bb r E k → w.heap.size ≤ k) ∧
  ((fromC [] L).2 ≠ 0 → v = .tuple #[.pointer none, .int .i64 (((fromC [] L).2 : Nat) : Int)])
/-- A base of one's own. -/
structure MyBase (w0 : World) (S : Nat → Prop) (w : World) (bb r : Nat) (E : List Ent) : Prop where
  base : BaseAt S w bb r E
  ext : Ext w0 w
  pool : ∀ k, S k → w0.heap.size ≤ k
  own : ∀ k, OwnB bb r E k → w0.heap.size ≤ k
def FromTo (w0 : World) (bb r : Nat) (L : List RelZ) (n : Nat) (iv : Value) (w : World) : Prop := ∃ i : Nat, i ≤ n ∧ iv = .int .i64 i ∧ Hid (∃ S E, MyBase w0 S w bb r E ∧ fromC (cntE E) (L.drop i) = fromC [] L)
def FromIn (w0 : World) (bb r : Nat) (q : RelZ) (R : List CntZ × Nat) (g : Nat) (cs : List Value) (m : Nat) (jv : Value) (w : World) : Prop := ∃ j : Nat, j ≤ m ∧ jv = .int .i64 j ∧ Hid (∃ S E, MyBase w0 S w bb r E ∧ addAll (cntE E) q.1 (q.2.2.1.drop j) = R ∧ Blk w g cs 52 ∧ ¬ OwnB bb r E g)
theorem drop_at {α : Type} {xs : List α} {i : Nat} {x : α} (h : xs[i]? = some x) : xs.drop i = x :: xs.drop (i + 1) := by
  obtain ⟨hi, e⟩ := List.getElem?_eq_some_iff.1 h
  rw [List.drop_eq_getElem_cons hi, e]

set_option maxRecDepth 100000 in
set_option maxHeartbeats 4000000 in
theorem from_any (L : List RelZ) (ao : Option Addr) (n cap : Nat) (w : World) (S0 : Nat → Prop) (hn : n = L.length) (hL : RelsIn S0 w ao L) (hS : ∀ k, S0 k → k < w.heap.size) (hl : n ≤ 4194304) (hr : ∀ q ∈ L, q.2.2.1.length ≤ 1048576) :
    Calls Tryz.prog 22 #[.slice ao n cap] w (RetN w (FromV w L)) := by
  have HN := Lib.hid hn
  have HL := Lib.hid (And.intro hL hS)
  have HR := Lib.hid hr
  clear hn hL hS hr
  go_enter Tryz.func22, Tryz.ntmps22
  go_wp2_with fail
  refine (newBase_any w).mono ?_
  rintro e w1 ⟨v, rfl, hk1, rfl, hB, hm⟩
  obtain ⟨bb, ebb⟩ : ∃ bb, w.heap.size + 1 = bb := ⟨_, rfl⟩
  rw [ebb] at hB ⊢
  obtain ⟨r, er⟩ : ∃ r, w.heap.size = r := ⟨_, rfl⟩
  rw [er] at hB hm
  have HM0 := Lib.hid (show MyBase w (fun _ => False) w1 bb r [] from
    { base := BaseAt.new (fun _ => False) (fun _ x => x.elim) hk1 (by omega) (by omega) (by omega) hB hm
      ext := hk1, pool := fun _ x => x.elim
      own := fun k hk => by
        rcases hk with rfl | rfl | ⟨e, he, _⟩
        · omega
        · omega
        · simp at he })
  clear hB hm hk1 ebb er
  go_wp2
  go_loopw [15] (fun iv wr => FromTo w bb r L n iv wr) (fun iv _ => n - (intOf iv).toNat)
  case atStart => exact ⟨0, Nat.zero_le _, rfl, _, [], HM0.out, rfl⟩
  case round =>
    clear HM0
    obtain ⟨i, hi, rfl, hin⟩ := hrel
    obtain ⟨S, E, hM, hF⟩ := hin.out
    have HM := Lib.hid hM
    have HF := Lib.hid hF
    clear hin hM hF
    by_cases hlt : i < n
    · obtain ⟨q, hq⟩ : ∃ q, L[i]? = some q := ⟨_, List.getElem?_eq_getElem (by rw [← HN.out]; exact hlt)⟩
      obtain ⟨b, off, ra, rcap, eao, hSb, c0, c1, c2, hrl, hrm, hrows⟩ := HL.out.1 i q hq
      subst eao
      replace c0 := HM.out.ext.cell c0 id
      replace c1 := HM.out.ext.cell c1 id
      replace c2 := HM.out.ext.cell c2 id
      obtain ⟨s, es⟩ : ∃ s, q.1 = s := ⟨_, rfl⟩
      obtain ⟨a, ea⟩ : ∃ a, q.2.1 = a := ⟨_, rfl⟩
      obtain ⟨m, em⟩ : ∃ m, q.2.2.1.length = m := ⟨_, rfl⟩
      rw [es] at c0
      rw [ea] at c1
      rw [em] at c2 hrl
      have hm1 : m ≤ 1048576 := by rw [← em]; exact HR.out q (List.mem_of_getElem? hq)
      have HQ := Lib.hid (And.intro hq (And.intro es (And.intro ea em)))
      have HRows := Lib.hid hrows
      clear hq es ea em hrows hSb
      obtain ⟨gx, egx⟩ : ∃ g, wr.heap.size = g := ⟨_, rfl⟩
      obtain ⟨wx, ewx⟩ : ∃ wx, wr.alloc (.cells #[.string s, .int .i64 a, .slice ra m rcap] 52) = wx := ⟨_, rfl⟩
      have HBx := Lib.hid (show Blk wx gx [.string s, .int .i64 a, .slice ra m rcap] 52 by rw [← ewx, ← egx]; exact Blk.new wr _ _)
      have HXx := Lib.hid (show Ext wr wx by rw [← ewx]; exact (Kp.refl wr).alloc _)
      have HGx := Lib.hid (show ∀ k, OwnB bb r E k → k < gx from fun k hk => by rw [← egx]; exact HM.out.base.ownLt k hk)
      have EGX := Lib.hid egx
      have x0 : wx.cell? ⟨wr.heap.size, 0, none⟩ = some (.string s) := by rw [egx, HBx.out.cell']; rfl
      have x1 : wx.cell? ⟨wr.heap.size, 1, none⟩ = some (.int .i64 a) := by rw [egx, HBx.out.cell']; rfl
      clear egx
      go_wp2_with fail
      rw [EGX.out]
      refine (baseDecl_any (HM.out.base.ext HXx.out) s a).mono ?_
      rintro e w2 ⟨v, rfl, hk2, rfl, E1, hB1, hC1, ho1⟩
      have hgx : gx < wx.heap.size := HBx.out.lt
      have hbx2 : Blk w2 gx [.string s, .int .i64 a, .slice ra m rcap] 52 := HBx.out.kp hk2 fun ho => by have := HGx.out gx ho; omega
      have hM1 : MyBase w S w2 bb r E1 :=
        { base := hB1
          ext := (HM.out.ext.trans HXx.out).trans' hk2 fun k hk ho => by have := HM.out.own k ho; omega
          pool := HM.out.pool
          own := fun k hk => by
            rcases ho1 k hk with h1 | h1
            · exact HM.out.own k h1
            · have := (HM.out.ext.trans HXx.out).size; omega }
      have hng : ¬ OwnB bb r E1 gx := fun ho => by
        rcases ho1 gx ho with h1 | h1
        · have := HGx.out gx h1; omega
        · omega
      have HM1 := Lib.hid (And.intro hM1 (And.intro hC1 (And.intro hbx2 hng)))
      clear hk2 hB1 hC1 ho1 hgx hbx2 hM1 hng ewx x0 x1 c0 c1 c2
      obtain ⟨d, ed⟩ : ∃ d, declR (cntE E) s a = d := ⟨_, rfl⟩
      rw [ed]
      have ED := Lib.hid ed
      clear ed
      have y2 : w2.cell? ⟨gx, 2, none⟩ = some (.slice ra m rcap) := by rw [HM1.out.2.2.1.cell']; rfl
      by_cases hd : d = 0
      · have q1 : ((d : Int) != 0) = false := by simp [hd]
        have HD := Lib.hid hd
        clear hd
        have hdr : (L.drop i) = q :: L.drop (i + 1) := drop_at HQ.out.1
        have HDr := Lib.hid hdr
        clear hdr
        go_wp2
        clear q1
        generalize hw5 : w2 = w5 at *; clear hw5
        go_loopw [31] (fun jv wk => FromIn w bb r q (addAll (declC (cntE E) s a) s q.2.2.1) gx [.string s, .int .i64 a, .slice ra m rcap] m jv wk) (fun jv _ => m - (intOf jv).toNat)
        case atStart => exact ⟨0, Nat.zero_le _, rfl, S, E1, HM1.out.1, by rw [HM1.out.2.1, HQ.out.2.1]; rfl, HM1.out.2.2.1, HM1.out.2.2.2⟩
        case round =>
          clear HM1 HBx HXx HGx EGX y2
          obtain ⟨j, hj, rfl, hin⟩ := hrel
          obtain ⟨S1, E2, hM2, hA2, hbx, hng⟩ := hin.out
          have HM2 := Lib.hid (And.intro hM2 (And.intro hA2 (And.intro hbx hng)))
          clear hin hM2 hA2 hbx hng
          by_cases hlt2 : j < m
          · obtain ⟨ss, hss⟩ : ∃ ss, q.2.2.1[j]? = some ss := ⟨_, List.getElem?_eq_getElem (by rw [HQ.out.2.2.2]; exact hlt2)⟩
            obtain ⟨g, o, xa, xcap, era, d0, d1, d2, d3⟩ := HRows.out.get hss
            subst era
            replace d0 := HM2.out.1.ext.cell d0 id
            obtain ⟨k, ek⟩ : ∃ k, ss.length = k := ⟨_, rfl⟩
            rw [ek] at d0
            have HSS := Lib.hid (And.intro hss ek)
            have HRow := Lib.hid (And.intro d1 (And.intro d2 d3))
            have y0 : wr.cell? ⟨gx, 0, none⟩ = some (.string s) := by rw [HM2.out.2.2.1.cell']; rfl
            clear hss ek d1 d2 d3
            go_wp2_with fail
            refine (baseAdd_any HM2.out.1.base s (ao := xa) (k := k) (cap := xcap) (ss := ss) ⟨⟨HSS.out.2.symm, HRow.out.1.ext HM2.out.1.ext⟩, HRow.out.2.1, fun a e => Nat.lt_of_lt_of_le (HL.out.2 _ (HRow.out.2.2 a e)) HM2.out.1.ext.size⟩ (fun a e ho => by
              have h1 := HM2.out.1.own _ ho
              have h2 := HL.out.2 _ (HRow.out.2.2 a e)
              omega)).mono ?_
            rintro e w3 ⟨v, rfl, hk3, rfl, S3, E3, hs1, hs2, hB3, hC3, ho3⟩
            have hgx : gx < wr.heap.size := HM2.out.2.2.1.lt
            have hM3 : MyBase w S3 w3 bb r E3 :=
              { base := hB3
                ext := HM2.out.1.ext.trans' hk3 fun k hk ho => by have := HM2.out.1.own k ho; omega
                pool := fun k hk => by
                  rcases hs2 k hk with h1 | h1
                  · exact HM2.out.1.pool k h1
                  · have := HM2.out.1.ext.size; omega
                own := fun k hk => by
                  rcases ho3 k hk with h1 | h1
                  · exact HM2.out.1.own k h1
                  · have := HM2.out.1.ext.size; omega }
            have hb3 : Blk w3 gx [.string s, .int .i64 a, .slice (some ⟨g, o, none⟩) m rcap] 52 := HM2.out.2.2.1.kp hk3 HM2.out.2.2.2
            have hng : ¬ OwnB bb r E3 gx := fun ho => by
              rcases ho3 gx ho with h1 | h1
              · exact HM2.out.2.2.2 h1
              · omega
            have HM3 := Lib.hid (And.intro hM3 (And.intro hC3 (And.intro hb3 hng)))
            clear hk3 hB3 hC3 ho3 hgx hM3 hng hb3 hs1 hs2 y0 d0
            obtain ⟨x1, ex1⟩ : ∃ x, (addR (cntE E2) s ss).1 = x := ⟨_, rfl⟩
            obtain ⟨x2, ex2⟩ : ∃ x, (addR (cntE E2) s ss).2 = x := ⟨_, rfl⟩
            rw [ex1, ex2]
            have EX := Lib.hid ex2
            clear ex1 ex2
            have hdj : q.2.2.1.drop j = ss :: q.2.2.1.drop (j + 1) := drop_at HSS.out.1
            have HDj := Lib.hid hdj
            clear hdj
            by_cases hx : x2 = 0
            · have q1 : ((x2 : Int) != 0) = false := by simp [hx]
              have HX := Lib.hid hx
              clear hx
              go_wp2
              go_roundw
              case rel =>
                refine ⟨j + 1, by omega, by first | rfl | (congr 1; done) | (congr 1; omega), S3, E3, HM3.out.1, ?_, HM3.out.2.2.1, HM3.out.2.2.2⟩
                rw [HM3.out.2.1, ← HM2.out.2.1, HDj.out, HQ.out.2.1]
                exact (addAll_go (by rw [EX.out]; exact HX.out)).symm
              case measure => simp [intOf]; omega
            · have q1 : ((x2 : Int) != 0) = true := by simp; omega
              have HX := Lib.hid hx
              clear hx
              go_wp2
              go_ret2
              have hall := HM2.out.2.1
              rw [HDj.out, HQ.out.2.1, addAll_bad (by rw [EX.out]; exact HX.out), EX.out] at hall
              have hfr : fromC [] L = (cntE E2, x2) := by
                rw [← HF.out, HDr.out, from_err (by rw [HQ.out.2.1, HQ.out.2.2.1, ED.out]; exact HD.out) (by rw [HQ.out.2.1, HQ.out.2.2.1, ← hall]; exact HX.out), HQ.out.2.1, HQ.out.2.2.1, ← hall]
              exact RetN.mk HM3.out.1.ext ⟨fun h0 => by rw [hfr] at h0; exact absurd h0 HX.out, fun _ => by rw [hfr]; rfl⟩
          · obtain rfl : j = m := by omega
            have hall := HM2.out.2.1
            rw [List.drop_of_length_le (by rw [HQ.out.2.2.2]; exact Nat.le_refl _)] at hall
            have hall' : addAll (declC (cntE E) s a) s q.2.2.1 = (cntE E2, 0) := hall.symm
            have HAll := Lib.hid hall'
            clear hall hall'
            go_wp2
            go_roundw
            case rel =>
              refine ⟨i + 1, by omega, by first | rfl | (congr 1; done) | (congr 1; omega), S1, E2, HM2.out.1, ?_⟩
              rw [← HF.out, HDr.out, from_go (by rw [HQ.out.2.1, HQ.out.2.2.1, ED.out]; exact HD.out) (by rw [HQ.out.2.1, HQ.out.2.2.1, HAll.out]), HQ.out.2.1, HQ.out.2.2.1, HAll.out]
            case measure => simp [intOf]; omega
      · have q1 : ((d : Int) != 0) = true := by simp; omega
        have HD := Lib.hid hd
        clear hd
        go_wp2
        go_ret2
        have hfr : fromC [] L = (cntE E, d) := by
          rw [← HF.out, drop_at HQ.out.1, from_bad (by rw [HQ.out.2.1, HQ.out.2.2.1, ED.out]; exact HD.out), HQ.out.2.1, HQ.out.2.2.1, ED.out]
        exact RetN.mk HM1.out.1.ext ⟨fun h0 => by rw [hfr] at h0; exact absurd h0 HD.out, fun _ => by rw [hfr]; rfl⟩
    · obtain rfl : i = n := by omega
      have hfr : fromC [] L = (cntE E, 0) := by
        rw [← HF.out, List.drop_of_length_le (by rw [← HN.out]; exact Nat.le_refl _)]; rfl
      have HFr := Lib.hid hfr
      clear hfr
      go_wp2
      go_ret2
      exact RetN.mk HM.out.ext ⟨fun _ => ⟨bb, r, S, E, rfl, HM.out.base, by rw [HFr.out], HM.out.pool, HM.out.own⟩, fun h0 => absurd (by rw [HFr.out]) h0⟩
end Go.Proofs.YtfkhelihepbehaaGreat

/- tuple.Base: Names: the keys of a map, collected and sorted. -/
namespace Go.Proofs.YtfkhelihepbehaaGreat
open Go.RowKit Go.Maps Go.Sort Go.Shelf
open Go.WideElems (Fit rd rg rd_mk rg_of)
set_option linter.unusedVariables false

def encT : ByteArray → Value := Value.string
/-- A map with text keys, as the kit holds it. -/
theorem mapKeys {w : World} {r : Nat} {m : List (ByteArray × Value)} (hm : MapIs w r m) (hk : ∀ p ∈ m, p.1.size ≤ maxLen) (hl : m.length ≤ maxLen) :
    ∃ D0 : DataW Nat, w.ownsMap Tryz.prog 9 (fun _ => some (.nil, [])) r m.length D0 ∧ (strKeys D0).Perm (m.map fun p => p.1.data.toList) ∧ Maps.size D0 = m.length := by
  obtain ⟨es, c, h1, h2, h3, h4⟩ := hm
  have hlen : es.size = m.length := by simpa using congrArg List.length h2
  have hrd : ∀ x ∈ es.toList, ∃ p ∈ m, x.key = .string p.1 ∧ rd Tryz.prog 9 (fun _ => some ((.nil : DataW Nat), [])) x = some (.string p.1.data.toList, .nil) := fun x hx => by
    have h5 : (x.key, x.val) ∈ es.toList.map (fun e => (e.key, e.val)) := List.mem_map.2 ⟨x, hx, rfl⟩
    rw [h2] at h5
    obtain ⟨p, hp, e⟩ := List.mem_map.1 h5
    have e1 : x.key = .string p.1 := (congrArg Prod.fst e).symm
    refine ⟨p, hp, e1, ?_⟩
    have hkey : keyOf Tryz.prog 9 x.key = some (.string p.1.data.toList) := by
      rw [e1]
      simp [keyOf, mapKey, Tryz.underlying9, hk p hp]
    have := rd_mk (P := Tryz.prog) (k := 9) (R := fun _ => some ((.nil : DataW Nat), [])) (born := x.born) (val := x.val) hkey rfl
    exact this
  refine ⟨_, ⟨es, c, h1, ⟨by omega, h4, fun x hx => ?_⟩, by omega, rfl⟩, ?_, ?_⟩
  · obtain ⟨p, _, _, h⟩ := hrd x hx
    exact ⟨_, h⟩
  · show (((es.toList.map (rg Tryz.prog 9 (fun _ => some ((.nil : DataW Nat), [])))).foldr DataW.insert []).map fun p => strOf p.1).Perm _
    refine ((WideShapes.sorted_perm _).map _).trans ?_
    rw [List.map_map]
    have e : es.toList.map ((fun p : Lit × DataW Nat => strOf p.1) ∘ rg Tryz.prog 9 (fun _ => some ((.nil : DataW Nat), []))) = m.map fun p => p.1.data.toList := by
      have h6 : es.toList.map ((fun p : Lit × DataW Nat => strOf p.1) ∘ rg Tryz.prog 9 (fun _ => some ((.nil : DataW Nat), []))) = es.toList.map fun x => (match x.key with | .string s => s.data.toList | _ => []) := by
        apply List.map_congr_left
        intro x hx
        obtain ⟨p, hp, e1, h7⟩ := hrd x hx
        simp only [Function.comp, rg_of h7, e1, strOf]
      rw [h6]
      have h8 := congrArg (fun l => l.map fun p : Value × Value => (match p.1 with | .string s => s.data.toList | _ => [])) h2
      simp only [List.map_map] at h8
      exact h8
    rw [e]
  · show ((es.toList.map _).foldr DataW.insert []).length = _
    rw [(WideShapes.sorted_perm _).length_eq, List.length_map, Array.length_toList]; exact hlen
/-- A row that the kit holds, as ours. -/
theorem row_of_owns {w : World} {base : Nat} {e : TypeId} {k n : Nat} {v : Value} {xs : List Value} (h : w.ownsRow base e k v n xs) : Row w e k v n xs (fun g => base ≤ g) := by
  obtain ⟨h1, h2 | ⟨g, cap, cur, rfl, hb, hg, hn, hc, hs, ht⟩⟩ := h
  · exact ⟨h1, .inl h2⟩
  · refine ⟨h1, .inr ⟨g, cap, cur.toList.drop (n * k), rfl, hb, ?_, ?_, hn, hc⟩⟩
    · rw [← ht, List.take_append_drop]
      unfold Blk
      rw [Array.toArray_toList]; exact hg
    · rw [← ht, List.take_append_drop, Array.length_toList]; exact hs
theorem swoN : SWO (ltOf cmpN) where
  irrefl x := by unfold ltOf; rw [decide_eq_false_iff_not, cmpN_ord.refl]; omega
  trans x y z h1 h2 := by
    unfold ltOf at *
    rw [decide_eq_true_eq] at *
    exact cmpN_ord.lt_trans h1 (by omega)
  ntrans x y z h1 h2 := by
    unfold ltOf at *
    rw [decide_eq_false_iff_not] at *
    have h3 := cmpN_ord.le_of h1
    have h4 := cmpN_ord.le_of h2
    have h5 := cmpN_ord.trans z y x h4 h3
    intro h6
    exact cmpN_ord.asymm h6 (by
      rcases Int.lt_or_eq_of_le h5 with h7 | h7
      · exact h7
      · have := cmpN_ord.zero h7; omega)
theorem totN (x y : ByteArray) (h1 : ltOf cmpN x y = false) (h2 : ltOf cmpN y x = false) : x = y := by
  unfold ltOf at *
  rw [decide_eq_false_iff_not] at *
  have h3 := cmpB_swap x.toList y.toList
  unfold cmpN at *
  exact toList_inj (cmpB_zero (by omega))
/-- A row whose cells were put anew. -/
theorem sortWorld_row {w : World} {blk : Nat} {xs ys : List ByteArray} {rest : List Value} {e : TypeId} (hB : Blk w blk (strs xs ++ rest) e) (hl : ys.length = xs.length) (n : Nat) (os : Array Obj) :
    Blk (sortWorld encT w blk 0 n ys.toArray os) blk (strs ys ++ rest) e ∧ Kp (fun k => k = blk) w (sortWorld encT w blk 0 n ys.toArray os) := by
  have hlt := hB.lt
  have hsz : (putRow encT (Sort.ahead w n) blk 0 ys.toArray).heap.size = w.heap.size := by simp [putRow, mapBlock, Sort.ahead]
  have hcells : putCells encT 0 ys.toArray (strs xs ++ rest).toArray = (strs ys ++ rest).toArray := by
    apply Array.ext_getElem?
    intro j
    unfold putCells
    rw [Array.getElem?_mapIdx]
    simp only [List.getElem?_toArray, Nat.zero_le, true_and, Nat.zero_add, Nat.sub_zero, List.size_toArray]
    by_cases hj : j < ys.length
    · have h1 : (strs ys ++ rest)[j]? = some (.string ys[j]) := by
        rw [List.getElem?_append_left (by rw [strs_len]; exact hj)]; exact strs_get? ys j hj
      have h2 : j < (strs xs ++ rest).length := by rw [List.length_append, strs_len]; omega
      rw [h1, List.getElem?_eq_getElem h2, Option.map_some, if_pos hj]
      congr 1
      show encT _ = _
      rw [getElem!_pos _ j (by simpa using hj)]
      simp [encT]
    · have h1 : (strs ys ++ rest)[j]? = (strs xs ++ rest)[j]? := by
        rw [List.getElem?_append_right (by rw [strs_len]; omega), List.getElem?_append_right (by rw [strs_len]; omega), strs_len, strs_len, hl]
      rw [h1]
      cases (strs xs ++ rest)[j]? with
      | none => rfl
      | some u => simp [hj]
  have hblk : (putRow encT (Sort.ahead w n) blk 0 ys.toArray).heap[blk]? = some (.cells (strs ys ++ rest).toArray e (0, 0)) := by
    unfold Blk at hB
    simp only [putRow, mapBlock, Sort.ahead, Array.getElem?_modify, if_pos, hB, Option.map_some, onCells, hcells]
  constructor
  · unfold Blk sortWorld
    rw [heap_grow_old _ _ (by rw [hsz]; exact hlt)]; exact hblk
  · refine ⟨rfl, rfl, rfl, ?_, fun k hk hne => ?_⟩
    · simp [sortWorld, grow, putRow, mapBlock, Sort.ahead]
    · unfold sortWorld
      rw [heap_grow_old _ _ (by rw [hsz]; exact hk)]
      simp only [putRow, mapBlock, Sort.ahead, Array.getElem?_modify]
      rw [if_neg (fun e => hne e.symm)]
theorem cmp_lays (blk size : Nat) (w : World) : CmpLays1 Tryz.prog 109 #[] encT cmpN blk 0 size w := fun m os dk hs x y => by
  refine (cmpString_any x y _).mono ?_
  rintro e w' ⟨rfl, rfl⟩
  exact ⟨rfl, 0, #[], by rw [grow_empty]; rfl⟩
end Go.Proofs.YtfkhelihepbehaaGreat

/- tuple.Base: Names, walked: slices.SortedFunc at a map's keys. -/
namespace Go.Proofs.YtfkhelihepbehaaGreat
open Go.RowKit Go.Maps Go.Sort Go.Shelf
set_option linter.unusedVariables false

theorem leN_perm {l l' : List ByteArray} (h : l.Perm l') : l.mergeSort leN = l'.mergeSort leN := by
  refine List.Perm.eq_of_pairwise (le := fun a b => leN a b = true) (fun a b _ _ h1 h2 => ?_) (List.pairwise_mergeSort leN_trans leN_total l) (List.pairwise_mergeSort leN_trans leN_total l') (((List.mergeSort_perm l leN).trans h).trans (List.mergeSort_perm l' leN).symm)
  unfold leN at h1 h2
  simp only [Bool.not_eq_true', decide_eq_false_iff_not] at h1 h2
  have := cmpB_swap a.toList b.toList
  exact toList_inj (cmpB_zero (by omega))
theorem collect_any {w : World} {B r : Nat} {m : List (ByteArray × Value)} (hB : w.cell? ⟨B, 0, none⟩ = some (.map (some r))) (hm : MapIs w r m) (hk : ∀ p ∈ m, p.1.size ≤ maxLen) (hl : m.length ≤ 1048576) :
    Calls Tryz.prog 141 #[.func (.func 143) #[] #[.pointer (some ⟨B, 0, none⟩)]] w (RetN w fun w' v => ∃ bs : List ByteArray, bs.Perm (m.map (·.1)) ∧ Row w' 9 1 v bs.length (strs bs) (New w) ∧ (v = .slice none 0 0 ↔ bs = [])) := by
  obtain ⟨D0, h1, h2, h3⟩ := mapKeys hm hk (by unfold maxLen; omega)
  have hseq := AnyZ.keys_gives (L := { Tryz.laysSlZ7_f108 with }) Fence.wide 3 trivial rfl (by omega) B r m.length D0 w (World.block_lt_of_cell? _ _ hB) hB h1
  have hc := (callsIn_wide (n := 5)).1 (AnyZ.collect_in Tryz.laysSlZ8_f141 Fence.wide 5 trivial trivial rfl (by omega) 143 #[.pointer (some ⟨B, 0, none⟩)] trivial (enters_of Tryz.func143 (by kernel_rfl) rfl) _ _ (by rw [h3]; unfold maxLen; omega) (by rw [h3]; omega) w hseq)
  refine Calls.mono hc ?_
  rintro e w' ⟨v, ss, rfl, hS, hrow, hnil, hb⟩
  refine RetN.mk (Kp.of_below hb) ⟨ss.map (fun l => ⟨l.toArray⟩), ?_, ?_, ?_⟩
  · have h4 := (hS.trans h2).map (fun l : List UInt8 => (⟨l.toArray⟩ : ByteArray))
    rw [List.map_map] at h4
    have e : (m.map ((fun l : List UInt8 => (⟨l.toArray⟩ : ByteArray)) ∘ fun p : ByteArray × Value => p.1.data.toList)) = m.map (·.1) := by
      apply List.map_congr_left
      intro p _
      simp
    rw [e] at h4
    exact h4
  · have h5 := row_of_owns hrow
    have e : ss.map encStr = strs (ss.map (fun l => ⟨l.toArray⟩)) := by
      unfold strs
      rw [List.map_map]; rfl
    rw [e] at h5
    rw [List.length_map]; exact h5
  · rw [hnil, List.map_eq_nil_iff]

set_option maxRecDepth 100000 in
set_option maxHeartbeats 2000000 in
theorem sortedNames_any {w : World} {B r : Nat} {m : List (ByteArray × Value)} (hB : w.cell? ⟨B, 0, none⟩ = some (.map (some r))) (hm : MapIs w r m) (hk : ∀ p ∈ m, p.1.size ≤ maxLen) (hl : m.length ≤ 1048576) :
    Calls Tryz.prog 107 #[.func (.func 143) #[] #[.pointer (some ⟨B, 0, none⟩)], .func (.func 109) #[] #[]] w (RetN w fun w' v => Row w' 9 1 v m.length (strs ((m.map (·.1)).mergeSort leN)) (New w)) := by
  have HC := Lib.hid (collect_any hB hm hk hl)
  clear hB hm hk
  go_enter Tryz.func107, Tryz.ntmps107
  go_wp2_with fail
  refine HC.out.mono ?_
  rintro e w1 ⟨v, rfl, hk1, bs, hp, hr, hnil⟩
  have hlen : bs.length = m.length := by rw [hp.length_eq, List.length_map]
  have hsort := leN_perm hp
  obtain ⟨q1, ⟨ev, en⟩ | ⟨g, cap, rest, rfl, hg, hb, hbl, hn, hcm⟩⟩ := hr
  · have hbs := hnil.1 ev
    subst hbs
    subst ev
    have HK := Lib.hid hk1
    have HS := Lib.hid (show Row w1 9 1 (.slice none 0 0) m.length (strs ((m.map (·.1)).mergeSort leN)) (New w) by
      rw [← hsort, ← hlen, List.mergeSort_nil]
      exact Row.nil _ _ _ _)
    clear hp hnil hlen hsort q1 en hk1
    go_wp2_with fail
    refine (AnyF.slices_SortFunc_none Tryz.laysSlF06_f142 none 0 _ w1).mono ?_
    rintro e w2 ⟨rfl, rfl⟩
    go_wp2
    go_ret
    exact RetN.mk HK.out HS.out
  · have hlt := hb.lt
    have hH : Holds encT w1 g 0 bs.toArray := fun j hj => by
      have hj' : j < bs.length := by simpa using hj
      refine ⟨?_, hb.free _⟩
      rw [hb.cell', Nat.zero_add, List.getElem?_append_left (by rw [strs_len]; exact hj'), strs_get? bs j hj', getElem!_pos _ j hj]
      simp [encT]
    have hml := List.length_mergeSort (le := leN) bs
    have hrow := fun n os => sortWorld_row (ys := bs.mergeSort leN) hb hml n os
    have hcall := Any.slices_SortFunc_total Tryz.laysSlF6_f142 encT (fun _ => rfl) cmpN swoN 109 #[] g 0 cap bs.toArray w1 (enters_of Tryz.func109 (by kernel_rfl) rfl) (cmp_lays g _ w1) hH hlt (by rw [List.size_toArray]; omega) totN
    have HCall := Lib.hid hcall
    have HFin := Lib.hid (And.intro hk1 (And.intro hrow (And.intro hsort (And.intro hlen (And.intro hg (And.intro hbl (And.intro hn hcm)))))))
    obtain ⟨n, en⟩ : ∃ n, bs.length = n := ⟨_, rfl⟩
    rw [List.size_toArray, en] at HCall
    rw [en]
    have EN := Lib.hid en
    clear hp hnil hlen hsort hk1 hrow hcall hH hlt hml hb hbl hn hcm q1 en
    go_wp2_with fail
    refine HCall.out.mono ?_
    rintro e w2 ⟨rfl, n2, os, rfl⟩
    obtain ⟨hk1, hrow, hsort, hlen, hg, hbl, hn, hcm⟩ := HFin.out
    have e3 : (bs.toArray.toList.mergeSort fun x y => !(ltOf cmpN) y x) = bs.mergeSort leN := rfl
    obtain ⟨r1, r2⟩ := hrow n2 os
    rw [e3]
    have HR := Lib.hid (show Row (sortWorld encT w1 g 0 n2 (bs.mergeSort leN).toArray os) 9 1 (.slice (some ⟨g, 0, none⟩) n cap) m.length (strs ((m.map (·.1)).mergeSort leN)) (New w) from by
      rw [← hsort, ← hlen, EN.out]
      refine ⟨by rw [strs_len, List.length_mergeSort, EN.out]; omega, .inr ⟨g, cap, rest, rfl, hg, r1, ?_, by rw [← EN.out]; exact hn, hcm⟩⟩
      rw [← hbl, List.length_append, List.length_append, strs_len, strs_len, List.length_mergeSort])
    have HX := Lib.hid (show Ext w (sortWorld encT w1 g 0 n2 (bs.mergeSort leN).toArray os) from hk1.trans' r2 fun i hi e => by have h9 : w.heap.size ≤ g := hg; omega)
    generalize sortWorld encT w1 g 0 n2 (bs.mergeSort leN).toArray os = w3 at *
    clear hk1 hrow hsort hlen hg hbl hn hcm e3 r1 r2
    go_wp2
    go_ret
    exact RetN.mk HX.out HR.out

theorem names_cnt (E : List Ent) : ((entM E).map (·.1)).mergeSort leN = namesC (cntE E) := by rw [entM_names]; rfl
set_option maxRecDepth 100000 in
theorem names_any {S : Nat → Prop} {w : World} {bb r : Nat} {E : List Ent} (h : BaseAt S w bb r E) (hl : E.length ≤ 1048576) :
    Calls Tryz.prog 58 #[.pointer (some ⟨bb, 0, none⟩)] w (RetN w fun w' v => Row w' 9 1 v E.length (strs (namesC (cntE E))) (New w)) := by
  have c0 : w.cell? ⟨bb, 0, none⟩ = some (.map (some r)) := by rw [h.blk.cell']; rfl
  have hks : ∀ p ∈ entM E, p.1.size ≤ maxLen := fun p hp => by
    obtain ⟨e, he, rfl⟩ := List.mem_map.1 hp
    have h1 := (h.ok.all _ (mem_cntE he)).name
    have h2 : 1 ≤ e.name.size ∧ e.name.size ≤ 4096 := of_decide_eq_true h1
    show e.name.size ≤ maxLen
    unfold maxLen; omega
  have HKeys := Lib.hid ((callsIn_wide (n := 5)).1 (AnyZ.keys_in Tryz.laysSlZ7_f108 Fence.wide 5 trivial rfl (some r) w))
  have hB : (w.alloc (.cells #[.map (some r)] 63)).cell? ⟨w.heap.size, 0, none⟩ = some (.map (some r)) := by rw [(Blk.new w [.map (some r)] _).cell']; rfl
  have hS := sortedNames_any hB (h.map.ext ((Kp.refl w).alloc _)) hks (by rw [show (entM E).length = E.length by simp [entM]]; exact hl)
  rw [names_cnt, show (entM E).length = E.length by simp [entM]] at hS
  have HS := Lib.hid hS
  have HXA := Lib.hid (show Ext w (w.alloc (.cells #[.map (some r)] 63)) from (Kp.refl w).alloc _)
  clear h hks hB hS
  go_enter Tryz.func58, Tryz.ntmps58
  go_wp2_with fail
  refine HKeys.out.mono ?_
  rintro e w1 ⟨rfl, rfl⟩
  go_wp2_with fail
  refine HS.out.mono ?_
  rintro e w2 ⟨v, rfl, hk2, hr⟩
  have HF := Lib.hid (And.intro (HXA.out.trans hk2) (Row.mono hr fun g hg => Nat.le_trans HXA.out.size hg))
  clear hk2 hr
  go_wp2
  go_ret
  exact RetN.mk HF.out.1 HF.out.2
end Go.Proofs.YtfkhelihepbehaaGreat

/- tuple.Base: Relations. -/
namespace Go.Proofs.YtfkhelihepbehaaGreat
open Go.RowKit
set_option linter.unusedVariables false

theorem elem_rel : ElemT Tryz.prog 39 52 3 48 (.agg #[.string ⟨#[]⟩, .int .i64 0, .slice none 0 0]) := ⟨by kernel_rfl, by kernel_rfl, rfl, by decide⟩
def relCells (x : RelZ × (Option Addr × Nat)) : List Value := [.string x.1.1, .int .i64 x.1.2.1, .slice x.2.1 x.1.2.2.1.length x.2.2]
theorem relCells_len (x : RelZ × (Option Addr × Nat)) : (relCells x).length = 3 := rfl
/-- A relation's rows in memory of their own. -/
def RelAt (w0 w : World) (x : RelZ × (Option Addr × Nat)) : Prop := OwnRows w0.heap.size w (.slice x.2.1 x.1.2.2.1.length x.2.2) x.1.2.2.1
theorem OwnRows.kpt {F : Nat → Prop} {lo : Nat} {w w' : World} {v : Value} {LL : List (List ByteArray)} (h : OwnRows lo w v LL) (hk : Kp F w w') (hF : ∀ g cs, F g → ¬ Blk w g cs 29 ∧ ¬ Blk w g cs 9) : OwnRows lo w' v LL := by
  obtain ⟨ps, h1, h2, h3, h4⟩ := h
  refine ⟨ps, h1, h2.kp' hk fun g hg _ hf => ?_, fun p hp => ⟨(h3 p hp).1.kp' hk fun g hg _ hf => ?_, (h3 p hp).2⟩, h4⟩
  · obtain ⟨cs, hb, _⟩ := h2.has hg
    exact (hF g cs hf).1 hb
  · obtain ⟨cs, hb, _⟩ := (h3 p hp).1.has hg
    exact (hF g cs hf).2 hb
theorem typ_sr : 9 ≠ 52 := by decide
theorem typ_lr : 29 ≠ 52 := by decide
theorem RelAt.row {w0 w w' : World} {x : RelZ × (Option Addr × Nat)} (h : RelAt w0 w x) {k : Nat} {v : Value} {n : Nat} {xs : List Value} {M : Nat → Prop} (hr : Row w 52 k v n xs M) (hk : Kp (fun g => v.ownBlock = some g) w w') : RelAt w0 w' x :=
  OwnRows.kpt h hk fun g cs hg => by
    obtain ⟨cs', hb, _⟩ := hr.has hg
    exact ⟨fun h1 => typ_lr (blk_ne h1 hb), fun h1 => typ_sr (blk_ne h1 hb)⟩
theorem OwnRows.slice {lo : Nat} {w : World} {v : Value} {LL : List (List ByteArray)} (h : OwnRows lo w v LL) : ∃ a c, v = .slice a LL.length c ∧ LL.length ≤ c ∧ c ≤ maxLen := by
  obtain ⟨ps, rfl, h2, h3, h4⟩ := h
  obtain ⟨q1, ⟨rfl, q2⟩ | ⟨g, cap, rest, rfl, _, _, _, hn, hc⟩⟩ := h2
  · exact ⟨none, 0, by rw [List.length_map, q2], by rw [List.length_map, q2]; exact Nat.le_refl _, by decide⟩
  · exact ⟨_, cap, by rw [List.length_map], by rw [List.length_map]; exact hn, hc⟩
/-- Relations in memory of their own. -/
def RelsV (lo : Nat) (w : World) (v : Value) (L : List RelZ) : Prop := ∃ a c, v = .slice a L.length c ∧ L.length ≤ c ∧ c ≤ maxLen ∧ RelsIn (fun g => lo ≤ g ∧ g < w.heap.size) w a L
theorem rels_own {w0 w : World} {L : List RelZ} {vs : List (Option Addr × Nat)} {v : Value} (hl : vs.length = L.length) (hr : Row w 52 3 v L.length ((L.zip vs).flatMap relCells) (New w0)) (hd : ∀ x ∈ L.zip vs, RelAt w0 w x) : RelsV w0.heap.size w v L := by
  have hnew := hr.block
  have hlt := hr.lt
  obtain ⟨q1, q2⟩ := hr
  have hsh : ∃ a c, v = .slice a L.length c ∧ L.length ≤ c ∧ c ≤ maxLen ∧ CellsAt w a ((L.zip vs).flatMap relCells) := by
    rcases q2 with ⟨rfl, q2⟩ | ⟨g, cap, rest, rfl, _, hb, _, hn, hc⟩
    · have hz : L = [] := List.eq_nil_of_length_eq_zero q2
      subst hz
      exact ⟨none, 0, rfl, Nat.le_refl _, by decide, CellsAt.nil _ _⟩
    · exact ⟨_, cap, rfl, hn, hc, CellsAt.pre hb⟩
  obtain ⟨a, c, rfl, h1, h2, hc⟩ := hsh
  refine ⟨a, c, rfl, h1, h2, fun i q hq => ?_⟩
  have hv : i < vs.length := by rw [hl]; exact (List.getElem?_eq_some_iff.1 hq).1
  have hz : (L.zip vs)[i]? = some (q, vs[i]) := by rw [List.getElem?_zip_eq_some]; exact ⟨hq, List.getElem?_eq_getElem hv⟩
  have hg := fun c hcc => flat_get relCells 3 relCells_len (L.zip vs) i _ c hz hcc
  obtain ⟨b, off, rfl, h0⟩ := hc (i * 3 + 0) _ (hg 0 (by decide))
  obtain ⟨_, _, e1, h3⟩ := hc (i * 3 + 1) _ (hg 1 (by decide))
  cases e1
  obtain ⟨_, _, e2, h4⟩ := hc (i * 3 + 2) _ (hg 2 (by decide))
  cases e2
  have hat := hd _ (List.mem_of_getElem? hz)
  obtain ⟨a2, c2, e3, h5, h6⟩ := OwnRows.slice hat
  obtain ⟨a3, c3, e4, h7⟩ := OwnRows.shape hat
  cases e3
  cases e4
  exact ⟨b, off, _, _, rfl, ⟨hnew b rfl, hlt b rfl⟩, h0, h3, h4, h5, h6, h7⟩
theorem RelsV.mono {lo lo' : Nat} {w : World} {v : Value} {L : List RelZ} (h : RelsV lo w v L) (hl : lo' ≤ lo) : RelsV lo' w v L := by
  obtain ⟨a, c, e, h1, h2, h3⟩ := h
  exact ⟨a, c, e, h1, h2, h3.mono fun g hg => ⟨Nat.le_trans hl hg.1, hg.2⟩⟩
theorem RelsV.ext {lo : Nat} {w w' : World} {v : Value} {L : List RelZ} (h : RelsV lo w v L) (hk : Ext w w') : RelsV lo w' v L := by
  obtain ⟨a, c, e, h1, h2, h3⟩ := h
  exact ⟨a, c, e, h1, h2, (h3.ext hk).mono fun g hg => ⟨hg.1, Nat.lt_of_lt_of_le hg.2 hk.size⟩⟩
def RelTo (L : List RelZ) (w0 : World) (n : Nat) (iv ov : Value) (w : World) : Prop := ∃ i : Nat, i ≤ n ∧ iv = .int .i64 i ∧ Hid (Ext w0 w) ∧ Hid (∃ vs, vs.length = i ∧ Row w 52 3 ov i (((L.take i).zip vs).flatMap relCells) (New w0) ∧ ∀ x ∈ (L.take i).zip vs, RelAt w0 w x)

set_option maxRecDepth 100000 in
set_option maxHeartbeats 4000000 in
theorem baseRels_any {S : Nat → Prop} {w : World} {bb r : Nat} {E : List Ent} (h : BaseAt S w bb r E) (hl : E.length ≤ 1048576) :
    Calls Tryz.prog 25 #[.pointer (some ⟨bb, 0, none⟩)] w (RetN w fun w' v => RelsV w.heap.size w' v (relsC (cntE E))) := by
  have H := Lib.hid h
  have HNm := Lib.hid (names_any h hl)
  obtain ⟨n, en⟩ : ∃ n, E.length = n := ⟨_, rfl⟩
  have hnl : n ≤ 1048576 := by rw [← en]; exact hl
  rw [en] at HNm
  have hLn : (relsC (cntE E)).length = n := by
    unfold relsC
    rw [List.length_map, (names_perm _).length_eq, List.length_map, cntE, List.length_map, en]
  obtain ⟨L, eL⟩ : ∃ L, relsC (cntE E) = L := ⟨_, rfl⟩
  rw [eL] at hLn ⊢
  have HL := Lib.hid (And.intro eL hLn)
  clear h hl en eL hLn
  go_enter Tryz.func25, Tryz.ntmps25
  go_wp2_with fail
  refine HNm.out.mono ?_
  rintro e w1 ⟨v, rfl, hk1, hr⟩
  obtain ⟨na, ncap, rfl, hnc, _⟩ := hr.shape
  have HK1 := Lib.hid (And.intro hk1 hnc)
  clear hk1 hr hnc
  go_wp2
  go_loopw [10, 3] (fun iv ov wr => RelTo L w1 n iv ov wr) (fun iv _ _ => n - (intOf iv).toNat)
  case atStart => exact ⟨0, Nat.zero_le _, rfl, Kp.refl _, [], rfl, Row.nil _ _ _ _, fun x hx => by simp at hx⟩
  case round =>
    obtain ⟨i, hi, rfl, hex, hin⟩ := hrel
    by_cases hlt : i < n
    · obtain ⟨s, hs⟩ : ∃ s, (namesC (cntE E))[i]? = some s := ⟨_, List.getElem?_eq_getElem (by
        have := HL.out.2
        rw [← HL.out.1] at this
        unfold relsC at this
        rw [List.length_map] at this
        omega)⟩
      have hq : L[i]? = some (relOf (cntE E) s) := by
        rw [← HL.out.1]
        unfold relsC
        rw [List.getElem?_map, hs]; rfl
      obtain ⟨v0, hv0⟩ := names_mem.1 (List.mem_of_getElem? hs)
      obtain ⟨e0, he0⟩ : ∃ e0, findE E s = some e0 := by
        cases he : findE E s with
        | none => rw [(findE_none he).1] at hv0; cases hv0
        | some e0 => exact ⟨e0, rfl⟩
      obtain ⟨hem, hes⟩ := findE_some he0
      obtain ⟨b, off, ena, c0⟩ := HK1.out.2 i (.string s) (by simp [strs, hs])
      subst ena
      replace c0 := hex.out.cell c0 id
      have hB := (H.out.ext HK1.out.1).ext hex.out
      have b0 : wr.cell? ⟨bb, 0, none⟩ = some (.map (some r)) := by rw [hB.blk.cell']; rfl
      have hlk := run_lookup_str (P := Tryz.prog) Tryz.underlying63 Tryz.underlying9 (z := .pointer none) (by kernel_rfl) hB.map s
      rw [entM_get, he0] at hlk
      obtain ⟨eb, eeb⟩ : ∃ eb, e0.b = eb := ⟨_, rfl⟩
      obtain ⟨ar, ear⟩ : ∃ ar, e0.ar = ar := ⟨_, rfl⟩
      have hlk' : (Instr.lookup 63 (.map (some r)) (.string s) false).run Tryz.prog wr = .ok (.pointer (some ⟨eb, 0, none⟩)) wr := by rw [← eeb]; exact hlk
      have d2 : wr.cell? ⟨eb, 2, none⟩ = some (.int .i64 ar) := by rw [← eeb, (hB.rows e0 hem).blk.cell', ear]; rfl
      have HRA := Lib.hid (fun w' (hw : Ext wr w') => (rowsAll_q (z := False) ((hB.rows e0 hem).ext hw).q))
      rw [eeb] at HRA
      have hrel : relOf (cntE E) s = (s, (ar : Int), e0.LL, ()) := by
        unfold relOf arC
        rw [(findE_rows he0).1, (findE_rows he0).2, ear]
      rw [hrel] at hq
      have HQ := Lib.hid hq
      obtain ⟨LL, eLL⟩ : ∃ LL, e0.LL = LL := ⟨_, rfl⟩
      rw [eLL] at HQ HRA
      obtain ⟨m, em⟩ : ∃ m, LL.length = m := ⟨_, rfl⟩
      have hm : m ≤ 65536 := by rw [← em, ← eLL]; exact hB.few hem
      have EM := Lib.hid em
      have HCells := Lib.hid (show ∀ w', Ext wr w' → (fun w' : World => w'.cell? ⟨eb, 2, none⟩ = some (.int .i64 ar)) w' from fun w' hw => hw.cell d2 id)
      obtain ⟨vs, hvs, hrow, hds⟩ := hin.out
      obtain ⟨oa, oc, eov, _, _⟩ := hrow.shape
      subst eov
      have HRow := Lib.hid (And.intro hvs (And.intro hrow hds))
      clear hs hq hv0 he0 hem hes hB hlk eeb ear hrel eLL em d2 hvs hrow hds hin
      go_wp2
      refine draw_begin (fun w' : World => w'.cell? ⟨eb, 2, none⟩ = some (.int .i64 ar)) [10] (by kernel_rfl) (HCells.out _ (Kp.refl wr).drew) (fun hHeld => ?_)
      (refine draw_free (i := 0) (v := ?_) rfl ?_ ?_; rotate_left; (intro w; go_simp; try with_reducible rfl)); (try simp only [Act.put, List.setIfInBounds_toArray, List.set_cons_zero, List.set_cons_succ])
      (refine draw_free (i := 1) (v := ?_) rfl ?_ ?_; rotate_left; (intro w; go_simp; try with_reducible rfl)); (try simp only [Act.put, List.setIfInBounds_toArray, List.set_cons_zero, List.set_cons_succ])
      (refine draw_free (i := 2) (v := ?_) rfl ?_ ?_; rotate_left; (intro w; go_simp; try with_reducible rfl)); (try simp only [Act.put, List.setIfInBounds_toArray, List.set_cons_zero, List.set_cons_succ])
      (refine draw_free (i := 3) (v := ?_) rfl ?_ ?_; rotate_left; (intro w; go_simp; try with_reducible rfl)); (try simp only [Act.put, List.setIfInBounds_toArray, List.set_cons_zero, List.set_cons_succ])
      (refine draw_free (i := 4) (v := ?_) rfl ?_ ?_; rotate_left; (intro w; go_simp; try with_reducible rfl)); (try simp only [Act.put, List.setIfInBounds_toArray, List.set_cons_zero, List.set_cons_succ])
      (refine draw_in (i := 5) (v := ?_) rfl ?_ ?_; rotate_left; (intro w hSw; (try dsimp only at hSw); go_simp; try with_reducible rfl)); (try simp only [Act.put, List.setIfInBounds_toArray, List.set_cons_zero, List.set_cons_succ])
      (refine draw_free (i := 6) (v := ?_) rfl ?_ ?_; rotate_left; (intro w; go_simp; try with_reducible rfl)); (try simp only [Act.put, List.setIfInBounds_toArray, List.set_cons_zero, List.set_cons_succ])
      refine draw_one (i := 7) ?_
      refine comes_turn (i := 7) rfl (fun K hK => ?_)
      go_simp
      (refine (HRA.out _ (Kp.refl wr).drew).mono ?_; rintro e w5 ⟨v, rfl, hk3, _, hown⟩; have X5 := Lib.hid (show Ext wr w5 from ((Kp.refl wr).drew).trans (Kp.fq hk3)); obtain ⟨ya, yc, rfl, _, _⟩ := hown.slice; rw [EM.out] at hown; rw [EM.out]; have HO := Lib.hid hown; clear hk3 hown)
      go_wp2_with fail
      refine hK.out _ _ ?_ (fun hHeld => ?_)
      · (try dsimp only); (exact HCells.out _ X5.out)
      clear hK K; (try simp only [Act.put, List.setIfInBounds_toArray, List.set_cons_zero, List.set_cons_succ])
      (refine draw_free (i := 8) (v := ?_) rfl ?_ ?_; rotate_left; (intro w; go_simp; try with_reducible rfl)); (try simp only [Act.put, List.setIfInBounds_toArray, List.set_cons_zero, List.set_cons_succ])
      refine draw_one (i := 9) ?_
      refine comes_turn (i := 9) rfl (fun K hK => ?_)
      go_simp
      refine hK.out _ _ ?_ (fun hHeld => ?_)
      · (try dsimp only); (exact HCells.out _ (X5.out.alloc _))
      clear hK K; (try simp only [Act.put, List.setIfInBounds_toArray, List.set_cons_zero, List.set_cons_succ])
      refine draw_one (i := 10) ?_
      refine comes_late (i := 10) rfl (by kernel_rfl) (fun K hK => ?_)
      refine draw_appN elem_rel rfl _ _ rfl ((hex.out.trans X5.out).alloc _) rfl ((HRow.out.2.1.ext X5.out).alloc _) rfl (CellsAt.new w5 [.string s, .int .i64 ar, .slice ya m yc] 52) (by rfl) (by simp [Value.oneCell']) (by omega) (by unfold maxLen; omega) ?_; intro v1 w6 hr1 hk1 hk2
      refine hK.out _ _ ?_
      clear hK K; (try simp only [Act.put, List.setIfInBounds_toArray, List.set_cons_zero, List.set_cons_succ])
      (refine draw_free (i := 11) (v := ?_) rfl ?_ ?_; rotate_left; (intro w; go_simp; try with_reducible rfl)); (try simp only [Act.put, List.setIfInBounds_toArray, List.set_cons_zero, List.set_cons_succ])
      refine wpAnyD_done (by kernel_rfl) ?_ _
      have HFin := Lib.hid (show ∃ vs, vs.length = i + 1 ∧ Row w6 52 3 v1 (i + 1) (((L.take (i + 1)).zip vs).flatMap relCells) (New w1) ∧ ∀ x ∈ (L.take (i + 1)).zip vs, RelAt w1 w6 x by
        have hlen : (L.take i).length = vs.length := by rw [List.length_take, HRow.out.1]; have := HL.out.2; omega
        have et := takeSnoc HQ.out
        have hrA := (HRow.out.2.1.ext X5.out).alloc (.cells #[.string s, .int .i64 ar, .slice ya m yc] 52)
        refine ⟨vs ++ [(ya, yc)], by rw [List.length_append, HRow.out.1]; rfl, ?_, ?_⟩
        · rw [et, List.zip_append hlen, List.flatMap_append]
          have e2 : (([(s, (ar : Int), LL, ())].zip [(ya, yc)]).flatMap relCells) = [.string s, .int .i64 ar, .slice ya m yc] := by
            show relCells ((s, (ar : Int), LL, ()), (ya, yc)) ++ [] = _
            rw [List.append_nil]
            show [Value.string s, .int .i64 ar, .slice ya LL.length yc] = _
            rw [EM.out]
          rw [e2]; exact hr1
        · intro x hx
          rw [et, List.zip_append hlen, List.mem_append] at hx
          rcases hx with hx | hx
          · exact RelAt.row (OwnRows.ext (OwnRows.ext (HRow.out.2.2 x hx) X5.out) ((Kp.refl _).alloc _)) hrA hk2
          · have hx' : x = ((s, (ar : Int), LL, ()), (ya, yc)) := by simpa using hx
            subst hx'
            have ho : RelAt w1 w5 ((s, (ar : Int), LL, ()), (ya, yc)) := by
              show OwnRows w1.heap.size w5 (.slice ya LL.length yc) LL
              rw [EM.out]
              exact OwnRows.mono HO.out hex.out.size
            exact RelAt.row (OwnRows.ext ho ((Kp.refl _).alloc _)) hrA hk2)
      have HX6 := Lib.hid hk1
      clear hr1 hk1 hk2 hHeld HCells HO X5 HRow b0 c0 hlk'
      go_wp2
      go_roundw
      case rel => exact ⟨i + 1, by omega, by first | rfl | (congr 1; done) | (congr 1; omega), HX6.out, HFin.out⟩
      case measure => simp [intOf]; omega
    · obtain rfl : i = n := by omega
      obtain ⟨vs, hvs, hrow, hds⟩ := hin.out
      have hall : L.take i = L := List.take_of_length_le (by have := HL.out.2; omega)
      rw [hall] at hrow hds
      rw [← HL.out.2] at hrow hvs
      have hV := rels_own hvs hrow hds
      have HV := Lib.hid (RelsV.mono hV HK1.out.1.size)
      clear hin hvs hrow hds hall hV
      go_wp2
      go_ret
      exact RetN.mk (HK1.out.1.trans hex.out) HV.out
end Go.Proofs.YtfkhelihepbehaaGreat
