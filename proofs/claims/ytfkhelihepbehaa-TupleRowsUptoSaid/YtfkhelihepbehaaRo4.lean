/- Texts joined for a claim (RowWith, RowSame, RefRow, RefRow2). -/
import Derived.Test.YtfkhelihepbehaaRo3
import Derived.Deep.RegionWith
/- tuple.Rows: Each, Copy, with: Union, Minus, Meet; Same. -/
namespace Go.Proofs.Ytfkhelihepbehaa
open Go.RowKit Go.Shelf
set_option linter.unusedVariables false

/-- An iterator over rows of one's own. -/
def EachRows (lo : Nat) (w : World) (v : Value) (LL : List (List ByteArray)) : Prop :=
  ∃ Bs iv, v = .func (.func 140) #[] #[.pointer (some ⟨Bs, 0, none⟩)] ∧ lo ≤ Bs ∧ Blk w Bs [iv] 64 ∧ OwnRows lo w iv LL ∧ LL.length ≤ 1048576 * 1048576

section
variable {z z1 z2 : Prop} {S : Nat → Prop} {w w' : World} {b b1 b2 : Nat} {iv iv1 iv2 : Value} {arity arity2 : Nat} {LL L1 L2 : List (List ByteArray)}
theorem RowsAt.len (h : RowsAt S w b iv arity LL) : LL.length ≤ 1048576 * 1048576 := by
  obtain ⟨con, zs, hc, hs, hl⟩ := h
  rw [← hl, List.length_map]; exact hs.len
theorem rowsEach_nil (w : World) : Calls Try.prog 81 #[.pointer none] w (RetN w fun w' v => EachRows w.heap.size w' v []) := by
  go_enter Try.func81, Try.ntmps81
  go_wp2_with fail
  refine (rowsAll_nil w).mono ?_
  rintro e w1 ⟨v, rfl, hk, h1⟩
  obtain ⟨ao, cap, ev, _⟩ := h1.shape
  subst ev
  have HK := Lib.hid (And.intro hk h1); clear hk h1
  go_wp2_with fail
  refine (valuesRow_any _ _ _ w1).mono ?_
  rintro e w2 ⟨v, rfl, hk2, rfl, ew⟩
  subst ew
  go_wp2
  go_ret
  exact RetN.mk (HK.out.1.alloc _) ⟨_, _, rfl, HK.out.1.size, Blk.new w1 [_] _, HK.out.2.ext ((Kp.refl w1).alloc _), by simp⟩
theorem rowsEach_q (h : RowsQ z S w b iv arity LL) :
    Calls Try.prog 81 #[.pointer (some ⟨b, 0, none⟩)] w (RetF (FQ z b) w fun w' v => RowsAt S w' b iv arity LL ∧ EachRows w.heap.size w' v LL) := by
  have H := Lib.hid (rowsAll_q h); clear h
  go_enter Try.func81, Try.ntmps81
  go_wp2_with fail
  refine H.out.mono ?_
  rintro e w1 ⟨v, rfl, hk, h1, h2⟩
  obtain ⟨ao, cap, ev, _⟩ := h2.shape
  subst ev
  have HK := Lib.hid (And.intro hk (And.intro h1 h2)); clear hk h1 h2
  go_wp2_with fail
  refine (valuesRow_any _ _ _ w1).mono ?_
  rintro e w2 ⟨v, rfl, hk2, rfl, ew⟩
  subst ew
  go_wp2
  go_ret
  obtain ⟨hk, h1, h2⟩ := HK.out
  exact RetF.mk (hk.alloc _) ⟨h1.ext ((Kp.refl w1).alloc _), _, _, rfl, hk.size, Blk.new w1 [_] _, h2.ext ((Kp.refl w1).alloc _), h1.len⟩

theorem rowsCopy_nil (w : World) : Calls Try.prog 73 #[.pointer none] w (Ret (.pointer none) w) := by
  go_enter Try.func73, Try.ntmps73
  go_wp2
  go_ret
  exact Ret.mk rfl
/-- A set's fields, as those of Rows. -/
theorem RowsAt.boxed {w0 : World} {con : RowZ → List ByteArray} {zs : List RowZ} {te : TypeId} (h : SetAtRow Try.prog S w b (.func (Fn.func 8) #[] #[]) iv [] te (RowD S w0) (fun x y => cmpRow (con x) (con y)) zs) (h0 : Ext w0 w)
    (hc : ∀ x ss, ReadsAs w0 x ss → con x = ss) (arity : Nat) : RowsAt S (w.alloc (.cells #[.func (Fn.func 8) #[] #[], iv, .int .i64 arity] 68)) w.heap.size iv arity (zs.map con) := by
  have hk : Ext w (w.alloc (.cells #[.func (Fn.func 8) #[] #[], iv, .int .i64 arity] 68)) := (Kp.refl w).alloc _
  obtain ⟨con', hc'⟩ := con_ex (w.alloc (.cells #[.func (Fn.func 8) #[] #[], iv, .int .i64 arity] 68))
  have e : ∀ x ∈ zs, con' x = con x := fun x hx => by
    obtain ⟨ss, h1, h2, h3⟩ := h.all x hx
    rw [hc x ss h1, hc' x ss ⟨h1.1, h1.2.ext (h0.trans hk)⟩]
  refine ⟨con', zs, hc', ⟨Blk.new w [_, _, _] _, h.row.ext hk, fun e => ?_, fun k hS => ?_, fun k ho hS => ?_, rows_ord hc', fun x hx => ?_, h.len⟩, List.map_congr_left e⟩
  · have := h.row.lt _ e; omega
  · have := h.inS k hS; rw [alloc_size]; omega
  · rcases ho with rfl | ho
    · have := h.inS _ hS; omega
    · exact h.notS k (.inr ho) hS
  · obtain ⟨ss, h1, h2, h3⟩ := h.all x hx
    exact ⟨ss, ⟨h1.1, h1.2.ext (h0.trans hk)⟩, h2, h3⟩
set_option maxRecDepth 100000 in
set_option maxHeartbeats 1000000 in
theorem rowsCopy_q (h : RowsQ z S w b iv arity LL) :
    Calls Try.prog 73 #[.pointer (some ⟨b, 0, none⟩)] w (RetF (FQ z b) w fun w' v => RowsAt S w' b iv arity LL ∧
      ∃ b' iv', v = .pointer (some ⟨b', 0, none⟩) ∧ w.heap.size ≤ b' ∧ (∀ k, iv'.ownBlock = some k → w.heap.size ≤ k) ∧ RowsAt S w' b' iv' arity LL) := by
  have c2 := h.ar
  have HS := Lib.hid (fun W (hW : Ext w W) => rowsSet_q (h.ext hW))
  clear h
  go_enter Try.func73, Try.ntmps73
  go_wp2_with fail
  go_region_with
    (first
      | (go_at_call 101; refine (HS.out _ ((Kp.refl w).drew)).mono ?_; rintro e w1 ⟨v1, rfl, hk1, rfl, h1⟩; have d2 := h1.q (z := False) |>.ar; have HK1 := Lib.hid (And.intro hk1 h1); obtain ⟨con, zs, hc, hs, hl⟩ := h1; have HC := Lib.hid (setCopyRow_any hs); have HE := Lib.hid (And.intro hc hl); clear hk1 hc hs hl)
      | (go_at_call 114; refine HC.out.mono ?_; rintro e w2 ⟨v2, rfl, hk2, b2, iv2, rfl, hb2, hi2, hs2⟩; have e2 := hk2.cell d2 id; obtain ⟨q1, q2⟩ := hs2.cells; obtain ⟨ao2, n2, cap2, ei, _⟩ : ∃ ao n cap, iv2 = .slice ao n cap ∧ True := (by obtain ⟨ao, cap, e, _⟩ := hs2.row.shape; exact ⟨_, _, _, e, trivial⟩); subst ei; have HS2 := Lib.hid (And.intro hk2 (And.intro hb2 (And.intro hi2 hs2))); clear hk2 hb2 hi2 hs2))
  all_goals
    go_wp2
    go_ret
    obtain ⟨hk1, h1⟩ := HK1.out
    obtain ⟨hk2, hb2, hi2, hs2⟩ := HS2.out
    have hz1 := hk1.size
    have hz2 := hk2.size
    have hz0 : w.heap.size ≤ w1.heap.size := hz1
    refine RetF.mk (((Kp.refl w).drew.trans hk1).ext (hk2.alloc _)) ⟨h1.ext (hk2.alloc _), _, _, rfl, by omega, fun k hk => Nat.le_trans hz0 (hi2 k hk), ?_⟩
    have := RowsAt.boxed hs2 hk2 HE.out.1 arity
    rw [HE.out.2] at this
    exact this

theorem isIn_map {α β : Type} {c : α → α → Int} (f : β → α) (L : List β) (x : β) : isIn c (L.map f) (f x) = isIn (fun i j => c (f i) (f j)) L x := by
  simp [isIn, List.any_map, Function.comp_def]
/-- What a set's function answers, as rows: res of the contents. -/
def OpTells (f : FuncId) (res : List (List ByteArray) → List (List ByteArray) → List (List ByteArray)) : Prop :=
  ∀ (S : Nat → Prop) (w : World) (b1 b2 : Nat) (iv1 iv2 : Value) (a1 a2 : Nat) (L1 L2 : List (List ByteArray)), RowsAt S w b1 iv1 a1 L1 → RowsAt S w b2 iv2 a2 L2 → L1.length + L2.length ≤ 1048576 * 1048576 →
    Calls Try.prog f #[.pointer (some ⟨b1, 0, none⟩), .pointer (some ⟨b2, 0, none⟩)] w (RetN w fun w' v => ∃ b' iv' con zs, v = .pointer (some ⟨b', 0, none⟩) ∧ w.heap.size ≤ b' ∧ (∀ k, iv'.ownBlock = some k → w.heap.size ≤ k) ∧
      SetAtRow Try.prog S w' b' (.func (Fn.func 8) #[] #[]) iv' [] 66 (RowD S w) (fun x y => cmpRow (con x) (con y)) zs ∧ (∀ x ss, ReadsAs w x ss → con x = ss) ∧ zs.map con = res L1 L2)
/-- Two Rows of one world, as raw items under one reading. -/
theorem RowsAt.two (h1 : RowsAt S w b1 iv1 arity L1) (h2 : RowsAt S w b2 iv2 arity2 L2) : ∃ con, ∃ zs zs2 : List RowZ, (∀ x ss, ReadsAs w x ss → con x = ss) ∧
    SetAtRow Try.prog S w b1 (.func (Fn.func 8) #[] #[]) iv1 [.int .i64 arity] 68 (RowD S w) (fun x y => cmpRow (con x) (con y)) zs ∧
    PtrSetRow Try.prog S w (.pointer (some ⟨b2, 0, none⟩)) zs2 ∧ (∀ x ∈ zs2, RowD S w x) ∧ zs.map con = L1 ∧ zs2.map con = L2 := by
  obtain ⟨con, zs, hc, hs, hl⟩ := h1
  obtain ⟨con2, zs2, hc2, hs2, hl2⟩ := h2
  refine ⟨con, zs, zs2, hc, hs, .inr ⟨_, _, _, _, _, _, _, rfl, hs2⟩, hs2.all, hl, ?_⟩
  rw [← hl2]
  refine List.map_congr_left fun x hx => ?_
  obtain ⟨ss, q1, q2, q3⟩ := hs2.all x hx
  rw [hc x ss q1, hc2 x ss q1]
theorem union_tells : OpTells 111 (fun L1 L2 => newS cmpRow (L1 ++ L2)) := by
  intro S w b1 b2 iv1 iv2 a1 a2 L1 L2 h1 h2 hll
  obtain ⟨con, zs, zs2, hc, hs, hp, hd, hl, hl2⟩ := h1.two h2
  refine (setUnionRow_any (cmpRow_law con) hs hp hd (by rw [← hl, ← hl2] at hll; simpa using hll)).mono ?_
  rintro e w' ⟨v, rfl, hk, b', iv', rfl, hb, hi, hs'⟩
  refine RetN.mk hk ⟨b', iv', con, _, rfl, hb, hi, hs', hc, ?_⟩
  rw [← newS_map, List.map_append, hl, hl2]
theorem minus_tells : OpTells 112 (fun L1 L2 => L1.filter fun x => !isIn cmpRow L2 x) := by
  intro S w b1 b2 iv1 iv2 a1 a2 L1 L2 h1 h2 hll
  obtain ⟨con, zs, zs2, hc, hs, hp, hd, hl, hl2⟩ := h1.two h2
  refine (setMinusRow_any (cmpRow_law con) hs hp hd).mono ?_
  rintro e w' ⟨v, rfl, hk, b', iv', rfl, hb, hi, hs'⟩
  refine RetN.mk hk ⟨b', iv', con, _, rfl, hb, hi, hs', hc, ?_⟩
  show List.map con _ = List.filter (fun x => !isIn cmpRow L2 x) L1
  rw [← hl, List.filter_map]
  congr 1
  refine List.filter_congr fun x _ => ?_
  rw [isIn_newS (cmpRow_law con), ← hl2, Function.comp_apply, isIn_map]
theorem meet_tells : OpTells 113 (fun L1 L2 => L1.filter fun x => isIn cmpRow L2 x) := by
  intro S w b1 b2 iv1 iv2 a1 a2 L1 L2 h1 h2 hll
  obtain ⟨con, zs, zs2, hc, hs, hp, hd, hl, hl2⟩ := h1.two h2
  refine (setMeetRow_any (cmpRow_law con) hs hp hd).mono ?_
  rintro e w' ⟨v, rfl, hk, b', iv', rfl, hb, hi, hs'⟩
  refine RetN.mk hk ⟨b', iv', con, _, rfl, hb, hi, hs', hc, ?_⟩
  show List.map con _ = List.filter (fun x => isIn cmpRow L2 x) L1
  rw [← hl, List.filter_map]
  congr 1
  refine List.filter_congr fun x _ => ?_
  rw [isIn_newS (cmpRow_law con), ← hl2, Function.comp_apply, isIn_map]

theorem rowsWith_nil1 (v f : Value) (w : World) : Calls Try.prog 110 #[.pointer none, v, f] w (Ret (.tuple #[.pointer none, .int .i64 1]) w) := by
  go_enter Try.func110, Try.ntmps110
  go_wp2
  go_ret2
  exact Ret.mk rfl
theorem rowsWith_nil2 (a : Addr) (f : Value) (w : World) : Calls Try.prog 110 #[.pointer (some a), .pointer none, f] w (Ret (.tuple #[.pointer none, .int .i64 1]) w) := by
  go_enter Try.func110, Try.ntmps110
  go_wp2
  go_ret2
  exact Ret.mk rfl
set_option maxRecDepth 100000 in
theorem rowsWith_arity (h1 : RowsQ z1 S w b1 iv1 arity L1) (h2 : RowsQ z2 S w b2 iv2 arity2 L2) (hne : arity ≠ arity2) (f : Value) : Calls Try.prog 110 #[.pointer (some ⟨b1, 0, none⟩), .pointer (some ⟨b2, 0, none⟩), f] w (RetD (.tuple #[.pointer none, .int .i64 30]) w) := by
  have c1 := h1.ar
  have c2 := h2.ar
  have t : ((arity : Int) != (arity2 : Int)) = true := by simp; omega
  clear h1 h2
  go_enter Try.func110, Try.ntmps110
  go_wp2
  go_region
  all_goals
    go_wp2
    go_ret2
    exact RetD.mk rfl 1

/-- What with answers, f having made L of the two. -/
def RowsWithQ (S : Nat → Prop) (w : World) (arity : Nat) (L : List (List ByteArray)) (w' : World) (v : Value) : Prop :=
  if 65536 < L.length then v = .tuple #[.pointer none, .int .i64 4]
  else ∃ b' iv', v = .tuple #[.pointer (some ⟨b', 0, none⟩), .int .i64 0] ∧ w.heap.size ≤ b' ∧ (∀ k, iv'.ownBlock = some k → w.heap.size ≤ k) ∧ RowsAt S w' b' iv' arity L
set_option maxRecDepth 100000 in
set_option maxHeartbeats 2000000 in
theorem rowsWith_q {f : FuncId} {res : List (List ByteArray) → List (List ByteArray) → List (List ByteArray)} (hf : OpTells f res) (hent : ∀ args w, (callFunc f args).run Try.prog w = .ok (Next.enter f args) w)
    (h1 : RowsQ z1 S w b1 iv1 arity L1) (h2 : RowsQ z2 S w b2 iv2 arity L2) (hap : ∀ k, Owns b1 iv1 k → ¬ Owns b2 iv2 k) (hll : L1.length + L2.length ≤ 1048576 * 1048576) :
    Calls Try.prog 110 #[.pointer (some ⟨b1, 0, none⟩), .pointer (some ⟨b2, 0, none⟩), .func (Fn.func f) #[] #[]] w
      (RetF (fun k => FQ z1 b1 k ∨ FQ z2 b2 k) w fun w' v => RowsAt S w' b1 iv1 arity L1 ∧ RowsAt S w' b2 iv2 arity L2 ∧ RowsWithQ S w arity (res L1 L2) w' v) := by
  have c1 := h1.ar
  have c2 := h2.ar
  have t : ((arity : Int) != (arity : Int)) = false := by simp
  have HS1 := Lib.hid (fun W (hW : Ext w W) => rowsSet_q (h1.ext hW))
  have HS2 := Lib.hid (fun W (hW : Kp (FQ z1 b1) w W) => rowsSet_q (h2.kp hW (fun k hk ho => hap k (FQ.owns k hk) ho) (fun k hk hS => h1.notS k (FQ.owns k hk) hS)))
  have HMV := Lib.hid (fun W W' (hr : RowsAt S W b1 iv1 arity L1) (hk : Kp (FQ z2 b2) W W') => hr.move hk (fun k hk ho => hap k ho (FQ.owns k hk)) (fun k hk hS => h2.notS k (FQ.owns k hk) hS) (fun _ h => h) (fun k hS => Nat.lt_of_lt_of_le (hr.inS k hS) hk.size) hr.notS)
  have HF := Lib.hid hf
  have HL := Lib.hid hll
  clear h1 h2 hap hll hf
  go_enter Try.func110, Try.ntmps110
  go_wp2_with fail
  go_region
  all_goals
    go_wp2_with fail
    go_region_with
      (first
        | (go_at_call 101; (with_reducible refine (HS1.out _ ?_).mono ?_); exact Kp.drewN (Kp.refl w) 2; rintro e w1 ⟨v1, rfl, hk1, rfl, hr1⟩; have d1 := (hr1.q (z := False)).ar; have HK1 := Lib.hid (And.intro ((show Kp (FQ z1 b1) w _ from Kp.drewN (Kp.refl w) 2).trans hk1) hr1); clear hk1 hr1)
        | (go_at_call 101; (with_reducible refine (HS2.out _ ?_).mono ?_); exact HK1.out.1; rintro e w2 ⟨v2, rfl, hk2, rfl, hr2⟩; have hr1' := HMV.out _ _ HK1.out.2 hk2; have e1 := (hr1'.q (z := False)).ar; have HK2 := Lib.hid (And.intro hk2 (And.intro hr1' hr2)); have HFF := Lib.hid (HF.out _ _ _ _ _ _ _ _ _ _ hr1' hr2 HL.out); clear hk2 hr1' hr2)
        | (refine HFF.out.mono ?_; rintro e w3 ⟨v3, rfl, hk3, b3, iv3, con, zs, rfl, hb3, hi3, hs3, hc3, hl3⟩; have f1 := hk3.cell e1 id; obtain ⟨q1, q2⟩ := hs3.cells; obtain ⟨ao3, n3, cap3, ei, _⟩ : ∃ ao n cap, iv3 = .slice ao n cap ∧ True := (by obtain ⟨ao, cap, e, _⟩ := hs3.row.shape; exact ⟨_, _, _, e, trivial⟩); subst ei; have HS3 := Lib.hid (And.intro hk3 (And.intro hb3 (And.intro hi3 (And.intro hs3 (And.intro hc3 hl3))))); clear hk3 hb3 hi3 hs3 hc3 hl3))
  all_goals
    obtain ⟨hk3, hb3, hi3, hs3, hc3, hl3⟩ := HS3.out
    have hbx := RowsAt.boxed hs3 hk3 hc3 arity
    rw [hl3] at hbx
    have HBX := Lib.hid hbx
    clear hk3 hb3 hi3 hs3 hc3 hl3 hbx
    go_wp2_with fail
    refine (rowsLen_any HBX.out).mono ?_
    rintro e w5 ⟨rfl, rfl⟩
    have HN := Lib.hid (rfl : (res L1 L2).length = (res L1 L2).length)
    generalize hn : (res L1 L2).length = n at HN ⊢
    have HNN := Lib.hid hn; clear hn
    by_cases h65 : 65536 < n
    · have t1 : decide ((n : Int) > 65536) = true := by simp; omega
      have t2 : decide ((65536 : Int) < (n : Int)) = true := by simp; omega
      go_wp2
      go_ret2
      obtain ⟨hk3, hb3, hi3, hs3, hc3, hl3⟩ := HS3.out
      obtain ⟨hk2, hr1, hr2⟩ := HK2.out
      have hx : Ext _ _ := hk3.alloc (.cells #[.func (Fn.func 8) #[] #[], .slice ao3 n3 cap3, .int .i64 arity] 68)
      refine RetF.mk ((((HK1.out.1.mono fun _ _ h => .inl h).trans (hk2.mono fun _ _ h => .inr h))).ext hx) ⟨hr1.ext hx, hr2.ext hx, ?_⟩
      unfold RowsWithQ
      rw [HNN.out, if_pos h65]
      rfl
    · have t1 : decide ((n : Int) > 65536) = false := by simp; omega
      have t2 : decide ((65536 : Int) < (n : Int)) = false := by simp; omega
      go_wp2
      go_ret2
      obtain ⟨hk3, hb3, hi3, hs3, hc3, hl3⟩ := HS3.out
      obtain ⟨hk2, hr1, hr2⟩ := HK2.out
      have hx : Ext _ _ := hk3.alloc (.cells #[.func (Fn.func 8) #[] #[], .slice ao3 n3 cap3, .int .i64 arity] 68)
      have hz1 := HK1.out.1.size
      have hz2 := hk2.size
      have hz3 := hk3.size
      refine RetF.mk ((((HK1.out.1.mono fun _ _ h => .inl h).trans (hk2.mono fun _ _ h => .inr h))).ext hx) ⟨hr1.ext hx, hr2.ext hx, ?_⟩
      unfold RowsWithQ
      rw [HNN.out, if_neg h65]
      exact ⟨_, _, rfl, by omega, fun k hk => by have := hi3 k hk; omega, HBX.out⟩
end
end Go.Proofs.Ytfkhelihepbehaa

/- tuple.Rows: Same; Union, Minus, Meet; NewRows of a bad arity. -/
namespace Go.Proofs.Ytfkhelihepbehaa
open Go.RowKit Go.Shelf
set_option linter.unusedVariables false

section
variable {z z1 z2 : Prop} {S : Nat → Prop} {w w' : World} {b b1 b2 : Nat} {iv iv1 iv2 : Value} {arity a1 a2 : Nat} {LL L1 L2 : List (List ByteArray)}
/-- The sets of two Rows. -/
theorem rowsSame_set (h1 : RowsAt S w b1 iv1 a1 L1) (h2 : RowsAt S w b2 iv2 a2 L2) :
    Calls Try.prog 119 #[.pointer (some ⟨b1, 0, none⟩), .pointer (some ⟨b2, 0, none⟩)] w (RetN w fun w' v => v = .bool (decide (L1 = L2))) := by
  obtain ⟨con, zs, zs2, hc, hs, hp, hd, hl, hl2⟩ := h1.two h2
  refine (setSameRow_any hs hp hd).mono ?_
  rintro e w' ⟨v, rfl, hk, r, rfl, hr⟩
  refine RetN.mk hk ?_
  have e : r = decide (L1 = L2) := by
    rw [Bool.eq_iff_iff, hr, decide_eq_true_iff, ← hl, ← hl2]
    constructor
    · rintro ⟨h1, h2⟩
      refine List.ext_getElem (by simpa using h1) fun i hi hj => ?_
      rw [List.length_map] at hi hj
      rw [List.getElem_map, List.getElem_map]
      exact cmpRow_zero (h2 i _ _ (List.getElem?_eq_getElem hi) (List.getElem?_eq_getElem hj))
    · intro h
      have hn := congrArg List.length h
      rw [List.length_map, List.length_map] at hn
      refine ⟨hn, fun i x y hx hy => ?_⟩
      have h3 := congrArg (fun l => l[i]?) h
      simp only [List.getElem?_map, hx, hy, Option.map_some, Option.some.injEq] at h3
      rw [h3]; exact cmpRow_self _
  rw [e]

set_option maxRecDepth 100000 in
theorem rowsSame_nil1 (v : Value) (w : World) : Calls Try.prog 82 #[.pointer none, v] w (RetD (.bool false) w) := by
  go_enter Try.func82, Try.ntmps82
  go_wp2
  refine wp_region_held_drew (S := fun _ => True) (by kernel_rfl) trivial (fun hHeld => ?_)
  (refine take_in (i := 0) (v := ?_) rfl ?_ ?_; rotate_left; (intro w hSw; (try dsimp only at hSw); go_simp; try with_reducible rfl)); (try simp only [Act.put, List.setIfInBounds_toArray, List.set_cons_zero, List.set_cons_succ])
  (refine take_in (i := 1) (v := ?_) rfl ?_ ?_; rotate_left; (intro w hSw; (try dsimp only at hSw); go_simp; try with_reducible rfl)); (try simp only [Act.put, List.setIfInBounds_toArray, List.set_cons_zero, List.set_cons_succ])
  (refine take_in (i := 2) (v := ?_) rfl ?_ ?_; rotate_left; (intro w hSw; (try dsimp only at hSw); go_simp; try with_reducible rfl)); (try simp only [Act.put, List.setIfInBounds_toArray, List.set_cons_zero, List.set_cons_succ])
  (first | (refine take_in (i := 3) (v := ?_) rfl ?_ ?_; rotate_left; (intro w hSw; (try dsimp only at hSw); go_simp; try with_reducible rfl)) | (refine take_out (i := 3) rfl ?_)); (try simp only [Act.put, List.setIfInBounds_toArray, List.set_cons_zero, List.set_cons_succ])
  (first | (refine take_in (i := 4) (v := ?_) rfl ?_ ?_; rotate_left; (intro w hSw; (try dsimp only at hSw); go_simp; try with_reducible rfl)) | (refine take_out (i := 4) rfl ?_)); (try simp only [Act.put, List.setIfInBounds_toArray, List.set_cons_zero, List.set_cons_succ])
  (refine take_in (i := 5) (v := ?_) rfl ?_ ?_; rotate_left; (intro w hSw; (try dsimp only at hSw); go_simp; try with_reducible rfl)); (try simp only [Act.put, List.setIfInBounds_toArray, List.set_cons_zero, List.set_cons_succ])
  (refine take_in (i := 6) (v := ?_) rfl ?_ ?_; rotate_left; (intro w hSw; (try dsimp only at hSw); go_simp; try with_reducible rfl)); (try simp only [Act.put, List.setIfInBounds_toArray, List.set_cons_zero, List.set_cons_succ])
  (first | (refine take_in (i := 7) (v := ?_) rfl ?_ ?_; rotate_left; (intro w hSw; (try dsimp only at hSw); go_simp; try with_reducible rfl)) | (refine take_out (i := 7) rfl ?_)); (try simp only [Act.put, List.setIfInBounds_toArray, List.set_cons_zero, List.set_cons_succ])
  (first | (refine take_in (i := 8) (v := ?_) rfl ?_ ?_; rotate_left; (intro w hSw; (try dsimp only at hSw); go_simp; try with_reducible rfl)) | (refine take_out (i := 8) rfl ?_)); (try simp only [Act.put, List.setIfInBounds_toArray, List.set_cons_zero, List.set_cons_succ])
  (first | (refine take_in (i := 9) (v := ?_) rfl ?_ ?_; rotate_left; (intro w hSw; (try dsimp only at hSw); go_simp; try with_reducible rfl)) | (refine take_out (i := 9) rfl ?_)); (try simp only [Act.put, List.setIfInBounds_toArray, List.set_cons_zero, List.set_cons_succ])
  (first | (refine take_in (i := 10) (v := ?_) rfl ?_ ?_; rotate_left; (intro w hSw; (try dsimp only at hSw); go_simp; try with_reducible rfl)) | (refine take_out (i := 10) rfl ?_)); (try simp only [Act.put, List.setIfInBounds_toArray, List.set_cons_zero, List.set_cons_succ])
  (first | (refine take_in (i := 11) (v := ?_) rfl ?_ ?_; rotate_left; (intro w hSw; (try dsimp only at hSw); go_simp; try with_reducible rfl)) | (refine take_out (i := 11) rfl ?_)); (try simp only [Act.put, List.setIfInBounds_toArray, List.set_cons_zero, List.set_cons_succ])
  (first | (refine take_in (i := 12) (v := ?_) rfl ?_ ?_; rotate_left; (intro w hSw; (try dsimp only at hSw); go_simp; try with_reducible rfl)) | (refine take_out (i := 12) rfl ?_)); (try simp only [Act.put, List.setIfInBounds_toArray, List.set_cons_zero, List.set_cons_succ])
  (first | (refine take_in (i := 13) (v := ?_) rfl ?_ ?_; rotate_left; (intro w hSw; (try dsimp only at hSw); go_simp; try with_reducible rfl)) | (refine take_out (i := 13) rfl ?_)); (try simp only [Act.put, List.setIfInBounds_toArray, List.set_cons_zero, List.set_cons_succ])
  (first | (refine take_in (i := 14) (v := ?_) rfl ?_ ?_; rotate_left; (intro w hSw; (try dsimp only at hSw); go_simp; try with_reducible rfl)) | (refine take_out (i := 14) rfl ?_)); (try simp only [Act.put, List.setIfInBounds_toArray, List.set_cons_zero, List.set_cons_succ])
  (first | (refine take_in (i := 15) (v := ?_) rfl ?_ ?_; rotate_left; (intro w hSw; (try dsimp only at hSw); go_simp; try with_reducible rfl)) | (refine take_out (i := 15) rfl ?_)); (try simp only [Act.put, List.setIfInBounds_toArray, List.set_cons_zero, List.set_cons_succ])
  (refine take_in (i := 16) (v := ?_) rfl ?_ ?_; rotate_left; (intro w hSw; (try dsimp only at hSw); go_simp; try with_reducible rfl)); (try simp only [Act.put, List.setIfInBounds_toArray, List.set_cons_zero, List.set_cons_succ])
  (refine take_in (i := 17) (v := ?_) rfl ?_ ?_; rotate_left; (intro w hSw; (try dsimp only at hSw); go_simp; try with_reducible rfl)); (try simp only [Act.put, List.setIfInBounds_toArray, List.set_cons_zero, List.set_cons_succ])
  (first | (refine take_in (i := 18) (v := ?_) rfl ?_ ?_; rotate_left; (intro w hSw; (try dsimp only at hSw); go_simp; try with_reducible rfl)) | (refine take_out (i := 18) rfl ?_)); (try simp only [Act.put, List.setIfInBounds_toArray, List.set_cons_zero, List.set_cons_succ])
  (first | (refine take_in (i := 20) (v := ?_) rfl ?_ ?_; rotate_left; (intro w hSw; (try dsimp only at hSw); go_simp; try with_reducible rfl)) | (refine take_out (i := 20) rfl ?_)); (try simp only [Act.put, List.setIfInBounds_toArray, List.set_cons_zero, List.set_cons_succ])
  (first | (refine take_out (i := 19) rfl ?_) | (refine take_call (i := 19) rfl (fun K hK => ?_); go_simp; (fail); go_wp2_with fail; refine hK.out _ _ ?_ (fun hHeld => ?_); (try dsimp only); (trivial); clear hK K)); (try simp only [Act.put, List.setIfInBounds_toArray, List.set_cons_zero, List.set_cons_succ])
  (first | (refine take_out (i := 21) rfl ?_) | (refine take_call (i := 21) rfl (fun K hK => ?_); go_simp; (fail); go_wp2_with fail; refine hK.out _ _ ?_ (fun hHeld => ?_); (try dsimp only); (trivial); clear hK K)); (try simp only [Act.put, List.setIfInBounds_toArray, List.set_cons_zero, List.set_cons_succ])
  (first | (refine take_out (i := 22) rfl ?_) | (refine take_call (i := 22) rfl (fun K hK => ?_); go_simp; (fail); go_wp2_with fail; refine hK.out _ _ ?_ (fun hHeld => ?_); (try dsimp only); (trivial); clear hK K)); (try simp only [Act.put, List.setIfInBounds_toArray, List.set_cons_zero, List.set_cons_succ])
  (refine take_in (i := 23) (v := ?_) rfl ?_ ?_; rotate_left; (intro w hSw; (try dsimp only at hSw); go_simp; try with_reducible rfl)); (try simp only [Act.put, List.setIfInBounds_toArray, List.set_cons_zero, List.set_cons_succ])
  (refine take_in (i := 24) (v := ?_) rfl ?_ ?_; rotate_left; (intro w hSw; (try dsimp only at hSw); go_simp; try with_reducible rfl)); (try simp only [Act.put, List.setIfInBounds_toArray, List.set_cons_zero, List.set_cons_succ])
  refine wpAnyH_done (by kernel_rfl) ?_ _
  go_wp2
  go_ret
  exact RetD.mk rfl 1
set_option maxRecDepth 100000 in
theorem rowsSame_nil2 (a : Addr) (w : World) : Calls Try.prog 82 #[.pointer (some a), .pointer none] w (RetD (.bool false) w) := by
  go_enter Try.func82, Try.ntmps82
  go_wp2
  refine wp_region_held_drew (S := fun _ => True) (by kernel_rfl) trivial (fun hHeld => ?_)
  (refine take_in (i := 0) (v := ?_) rfl ?_ ?_; rotate_left; (intro w hSw; (try dsimp only at hSw); go_simp; try with_reducible rfl)); (try simp only [Act.put, List.setIfInBounds_toArray, List.set_cons_zero, List.set_cons_succ])
  (refine take_in (i := 1) (v := ?_) rfl ?_ ?_; rotate_left; (intro w hSw; (try dsimp only at hSw); go_simp; try with_reducible rfl)); (try simp only [Act.put, List.setIfInBounds_toArray, List.set_cons_zero, List.set_cons_succ])
  (refine take_in (i := 2) (v := ?_) rfl ?_ ?_; rotate_left; (intro w hSw; (try dsimp only at hSw); go_simp; try with_reducible rfl)); (try simp only [Act.put, List.setIfInBounds_toArray, List.set_cons_zero, List.set_cons_succ])
  (first | (refine take_in (i := 3) (v := ?_) rfl ?_ ?_; rotate_left; (intro w hSw; (try dsimp only at hSw); go_simp; try with_reducible rfl)) | (refine take_out (i := 3) rfl ?_)); (try simp only [Act.put, List.setIfInBounds_toArray, List.set_cons_zero, List.set_cons_succ])
  (first | (refine take_in (i := 4) (v := ?_) rfl ?_ ?_; rotate_left; (intro w hSw; (try dsimp only at hSw); go_simp; try with_reducible rfl)) | (refine take_out (i := 4) rfl ?_)); (try simp only [Act.put, List.setIfInBounds_toArray, List.set_cons_zero, List.set_cons_succ])
  (refine take_in (i := 5) (v := ?_) rfl ?_ ?_; rotate_left; (intro w hSw; (try dsimp only at hSw); go_simp; try with_reducible rfl)); (try simp only [Act.put, List.setIfInBounds_toArray, List.set_cons_zero, List.set_cons_succ])
  (refine take_in (i := 6) (v := ?_) rfl ?_ ?_; rotate_left; (intro w hSw; (try dsimp only at hSw); go_simp; try with_reducible rfl)); (try simp only [Act.put, List.setIfInBounds_toArray, List.set_cons_zero, List.set_cons_succ])
  (first | (refine take_in (i := 7) (v := ?_) rfl ?_ ?_; rotate_left; (intro w hSw; (try dsimp only at hSw); go_simp; try with_reducible rfl)) | (refine take_out (i := 7) rfl ?_)); (try simp only [Act.put, List.setIfInBounds_toArray, List.set_cons_zero, List.set_cons_succ])
  (first | (refine take_in (i := 8) (v := ?_) rfl ?_ ?_; rotate_left; (intro w hSw; (try dsimp only at hSw); go_simp; try with_reducible rfl)) | (refine take_out (i := 8) rfl ?_)); (try simp only [Act.put, List.setIfInBounds_toArray, List.set_cons_zero, List.set_cons_succ])
  (first | (refine take_in (i := 9) (v := ?_) rfl ?_ ?_; rotate_left; (intro w hSw; (try dsimp only at hSw); go_simp; try with_reducible rfl)) | (refine take_out (i := 9) rfl ?_)); (try simp only [Act.put, List.setIfInBounds_toArray, List.set_cons_zero, List.set_cons_succ])
  (first | (refine take_in (i := 10) (v := ?_) rfl ?_ ?_; rotate_left; (intro w hSw; (try dsimp only at hSw); go_simp; try with_reducible rfl)) | (refine take_out (i := 10) rfl ?_)); (try simp only [Act.put, List.setIfInBounds_toArray, List.set_cons_zero, List.set_cons_succ])
  (first | (refine take_in (i := 11) (v := ?_) rfl ?_ ?_; rotate_left; (intro w hSw; (try dsimp only at hSw); go_simp; try with_reducible rfl)) | (refine take_out (i := 11) rfl ?_)); (try simp only [Act.put, List.setIfInBounds_toArray, List.set_cons_zero, List.set_cons_succ])
  (first | (refine take_in (i := 12) (v := ?_) rfl ?_ ?_; rotate_left; (intro w hSw; (try dsimp only at hSw); go_simp; try with_reducible rfl)) | (refine take_out (i := 12) rfl ?_)); (try simp only [Act.put, List.setIfInBounds_toArray, List.set_cons_zero, List.set_cons_succ])
  (first | (refine take_in (i := 13) (v := ?_) rfl ?_ ?_; rotate_left; (intro w hSw; (try dsimp only at hSw); go_simp; try with_reducible rfl)) | (refine take_out (i := 13) rfl ?_)); (try simp only [Act.put, List.setIfInBounds_toArray, List.set_cons_zero, List.set_cons_succ])
  (first | (refine take_in (i := 14) (v := ?_) rfl ?_ ?_; rotate_left; (intro w hSw; (try dsimp only at hSw); go_simp; try with_reducible rfl)) | (refine take_out (i := 14) rfl ?_)); (try simp only [Act.put, List.setIfInBounds_toArray, List.set_cons_zero, List.set_cons_succ])
  (first | (refine take_in (i := 15) (v := ?_) rfl ?_ ?_; rotate_left; (intro w hSw; (try dsimp only at hSw); go_simp; try with_reducible rfl)) | (refine take_out (i := 15) rfl ?_)); (try simp only [Act.put, List.setIfInBounds_toArray, List.set_cons_zero, List.set_cons_succ])
  (refine take_in (i := 16) (v := ?_) rfl ?_ ?_; rotate_left; (intro w hSw; (try dsimp only at hSw); go_simp; try with_reducible rfl)); (try simp only [Act.put, List.setIfInBounds_toArray, List.set_cons_zero, List.set_cons_succ])
  (refine take_in (i := 17) (v := ?_) rfl ?_ ?_; rotate_left; (intro w hSw; (try dsimp only at hSw); go_simp; try with_reducible rfl)); (try simp only [Act.put, List.setIfInBounds_toArray, List.set_cons_zero, List.set_cons_succ])
  (first | (refine take_in (i := 18) (v := ?_) rfl ?_ ?_; rotate_left; (intro w hSw; (try dsimp only at hSw); go_simp; try with_reducible rfl)) | (refine take_out (i := 18) rfl ?_)); (try simp only [Act.put, List.setIfInBounds_toArray, List.set_cons_zero, List.set_cons_succ])
  (first | (refine take_in (i := 20) (v := ?_) rfl ?_ ?_; rotate_left; (intro w hSw; (try dsimp only at hSw); go_simp; try with_reducible rfl)) | (refine take_out (i := 20) rfl ?_)); (try simp only [Act.put, List.setIfInBounds_toArray, List.set_cons_zero, List.set_cons_succ])
  (first | (refine take_out (i := 19) rfl ?_) | (refine take_call (i := 19) rfl (fun K hK => ?_); go_simp; (fail); go_wp2_with fail; refine hK.out _ _ ?_ (fun hHeld => ?_); (try dsimp only); (trivial); clear hK K)); (try simp only [Act.put, List.setIfInBounds_toArray, List.set_cons_zero, List.set_cons_succ])
  (first | (refine take_out (i := 21) rfl ?_) | (refine take_call (i := 21) rfl (fun K hK => ?_); go_simp; (fail); go_wp2_with fail; refine hK.out _ _ ?_ (fun hHeld => ?_); (try dsimp only); (trivial); clear hK K)); (try simp only [Act.put, List.setIfInBounds_toArray, List.set_cons_zero, List.set_cons_succ])
  (first | (refine take_out (i := 22) rfl ?_) | (refine take_call (i := 22) rfl (fun K hK => ?_); go_simp; (fail); go_wp2_with fail; refine hK.out _ _ ?_ (fun hHeld => ?_); (try dsimp only); (trivial); clear hK K)); (try simp only [Act.put, List.setIfInBounds_toArray, List.set_cons_zero, List.set_cons_succ])
  (refine take_in (i := 23) (v := ?_) rfl ?_ ?_; rotate_left; (intro w hSw; (try dsimp only at hSw); go_simp; try with_reducible rfl)); (try simp only [Act.put, List.setIfInBounds_toArray, List.set_cons_zero, List.set_cons_succ])
  (refine take_in (i := 24) (v := ?_) rfl ?_ ?_; rotate_left; (intro w hSw; (try dsimp only at hSw); go_simp; try with_reducible rfl)); (try simp only [Act.put, List.setIfInBounds_toArray, List.set_cons_zero, List.set_cons_succ])
  refine wpAnyH_done (by kernel_rfl) ?_ _
  go_wp2
  go_ret
  exact RetD.mk rfl 1
set_option maxRecDepth 100000 in
theorem rowsSame_arity (c1 : w.cell? ⟨b1, 2, none⟩ = some (.int .i64 a1)) (c2 : w.cell? ⟨b2, 2, none⟩ = some (.int .i64 a2)) (hne : a1 ≠ a2) :
    Calls Try.prog 82 #[.pointer (some ⟨b1, 0, none⟩), .pointer (some ⟨b2, 0, none⟩)] w (RetD (.bool false) w) := by
  have t : ((a1 : Int) == (a2 : Int)) = false := by simp; omega
  go_enter Try.func82, Try.ntmps82
  go_wp2
  refine wp_region_held_drew (S := fun w' => w'.cell? ⟨b1, 2, none⟩ = some (.int .i64 a1) ∧ w'.cell? ⟨b2, 2, none⟩ = some (.int .i64 a2)) (by kernel_rfl) ⟨by assumption, by assumption⟩ (fun hHeld => ?_)
  (refine take_in (i := 0) (v := ?_) rfl ?_ ?_; rotate_left; (intro w hSw; (try dsimp only at hSw); go_simp; try with_reducible rfl)); (try simp only [Act.put, List.setIfInBounds_toArray, List.set_cons_zero, List.set_cons_succ])
  (refine take_in (i := 1) (v := ?_) rfl ?_ ?_; rotate_left; (intro w hSw; (try dsimp only at hSw); go_simp; try with_reducible rfl)); (try simp only [Act.put, List.setIfInBounds_toArray, List.set_cons_zero, List.set_cons_succ])
  (refine take_in (i := 2) (v := ?_) rfl ?_ ?_; rotate_left; (intro w hSw; (try dsimp only at hSw); go_simp; try with_reducible rfl)); (try simp only [Act.put, List.setIfInBounds_toArray, List.set_cons_zero, List.set_cons_succ])
  (first | (refine take_in (i := 3) (v := ?_) rfl ?_ ?_; rotate_left; (intro w hSw; (try dsimp only at hSw); go_simp; try with_reducible rfl)) | (refine take_out (i := 3) rfl ?_)); (try simp only [Act.put, List.setIfInBounds_toArray, List.set_cons_zero, List.set_cons_succ])
  (first | (refine take_in (i := 4) (v := ?_) rfl ?_ ?_; rotate_left; (intro w hSw; (try dsimp only at hSw); go_simp; try with_reducible rfl)) | (refine take_out (i := 4) rfl ?_)); (try simp only [Act.put, List.setIfInBounds_toArray, List.set_cons_zero, List.set_cons_succ])
  (refine take_in (i := 5) (v := ?_) rfl ?_ ?_; rotate_left; (intro w hSw; (try dsimp only at hSw); go_simp; try with_reducible rfl)); (try simp only [Act.put, List.setIfInBounds_toArray, List.set_cons_zero, List.set_cons_succ])
  (refine take_in (i := 6) (v := ?_) rfl ?_ ?_; rotate_left; (intro w hSw; (try dsimp only at hSw); go_simp; try with_reducible rfl)); (try simp only [Act.put, List.setIfInBounds_toArray, List.set_cons_zero, List.set_cons_succ])
  (first | (refine take_in (i := 7) (v := ?_) rfl ?_ ?_; rotate_left; (intro w hSw; (try dsimp only at hSw); go_simp; try with_reducible rfl)) | (refine take_out (i := 7) rfl ?_)); (try simp only [Act.put, List.setIfInBounds_toArray, List.set_cons_zero, List.set_cons_succ])
  (first | (refine take_in (i := 8) (v := ?_) rfl ?_ ?_; rotate_left; (intro w hSw; (try dsimp only at hSw); go_simp; try with_reducible rfl)) | (refine take_out (i := 8) rfl ?_)); (try simp only [Act.put, List.setIfInBounds_toArray, List.set_cons_zero, List.set_cons_succ])
  (first | (refine take_in (i := 9) (v := ?_) rfl ?_ ?_; rotate_left; (intro w hSw; (try dsimp only at hSw); go_simp; try with_reducible rfl)) | (refine take_out (i := 9) rfl ?_)); (try simp only [Act.put, List.setIfInBounds_toArray, List.set_cons_zero, List.set_cons_succ])
  (first | (refine take_in (i := 10) (v := ?_) rfl ?_ ?_; rotate_left; (intro w hSw; (try dsimp only at hSw); go_simp; try with_reducible rfl)) | (refine take_out (i := 10) rfl ?_)); (try simp only [Act.put, List.setIfInBounds_toArray, List.set_cons_zero, List.set_cons_succ])
  (first | (refine take_in (i := 11) (v := ?_) rfl ?_ ?_; rotate_left; (intro w hSw; (try dsimp only at hSw); go_simp; try with_reducible rfl)) | (refine take_out (i := 11) rfl ?_)); (try simp only [Act.put, List.setIfInBounds_toArray, List.set_cons_zero, List.set_cons_succ])
  (first | (refine take_in (i := 12) (v := ?_) rfl ?_ ?_; rotate_left; (intro w hSw; (try dsimp only at hSw); go_simp; try with_reducible rfl)) | (refine take_out (i := 12) rfl ?_)); (try simp only [Act.put, List.setIfInBounds_toArray, List.set_cons_zero, List.set_cons_succ])
  (first | (refine take_in (i := 13) (v := ?_) rfl ?_ ?_; rotate_left; (intro w hSw; (try dsimp only at hSw); go_simp; try with_reducible rfl)) | (refine take_out (i := 13) rfl ?_)); (try simp only [Act.put, List.setIfInBounds_toArray, List.set_cons_zero, List.set_cons_succ])
  (first | (refine take_in (i := 14) (v := ?_) rfl ?_ ?_; rotate_left; (intro w hSw; (try dsimp only at hSw); go_simp; try with_reducible rfl)) | (refine take_out (i := 14) rfl ?_)); (try simp only [Act.put, List.setIfInBounds_toArray, List.set_cons_zero, List.set_cons_succ])
  (first | (refine take_in (i := 15) (v := ?_) rfl ?_ ?_; rotate_left; (intro w hSw; (try dsimp only at hSw); go_simp; try with_reducible rfl)) | (refine take_out (i := 15) rfl ?_)); (try simp only [Act.put, List.setIfInBounds_toArray, List.set_cons_zero, List.set_cons_succ])
  (refine take_in (i := 16) (v := ?_) rfl ?_ ?_; rotate_left; (intro w hSw; (try dsimp only at hSw); go_simp; try with_reducible rfl)); (try simp only [Act.put, List.setIfInBounds_toArray, List.set_cons_zero, List.set_cons_succ])
  (refine take_in (i := 17) (v := ?_) rfl ?_ ?_; rotate_left; (intro w hSw; (try dsimp only at hSw); go_simp; try with_reducible rfl)); (try simp only [Act.put, List.setIfInBounds_toArray, List.set_cons_zero, List.set_cons_succ])
  (first | (refine take_in (i := 18) (v := ?_) rfl ?_ ?_; rotate_left; (intro w hSw; (try dsimp only at hSw); go_simp; try with_reducible rfl)) | (refine take_out (i := 18) rfl ?_)); (try simp only [Act.put, List.setIfInBounds_toArray, List.set_cons_zero, List.set_cons_succ])
  (first | (refine take_in (i := 20) (v := ?_) rfl ?_ ?_; rotate_left; (intro w hSw; (try dsimp only at hSw); go_simp; try with_reducible rfl)) | (refine take_out (i := 20) rfl ?_)); (try simp only [Act.put, List.setIfInBounds_toArray, List.set_cons_zero, List.set_cons_succ])
  (first | (refine take_out (i := 19) rfl ?_) | (refine take_call (i := 19) rfl (fun K hK => ?_); go_simp; (fail); go_wp2_with fail; refine hK.out _ _ ?_ (fun hHeld => ?_); (try dsimp only); (exact ⟨by assumption, by assumption⟩); clear hK K)); (try simp only [Act.put, List.setIfInBounds_toArray, List.set_cons_zero, List.set_cons_succ])
  (first | (refine take_out (i := 21) rfl ?_) | (refine take_call (i := 21) rfl (fun K hK => ?_); go_simp; (fail); go_wp2_with fail; refine hK.out _ _ ?_ (fun hHeld => ?_); (try dsimp only); (exact ⟨by assumption, by assumption⟩); clear hK K)); (try simp only [Act.put, List.setIfInBounds_toArray, List.set_cons_zero, List.set_cons_succ])
  (first | (refine take_out (i := 22) rfl ?_) | (refine take_call (i := 22) rfl (fun K hK => ?_); go_simp; (fail); go_wp2_with fail; refine hK.out _ _ ?_ (fun hHeld => ?_); (try dsimp only); (exact ⟨by assumption, by assumption⟩); clear hK K)); (try simp only [Act.put, List.setIfInBounds_toArray, List.set_cons_zero, List.set_cons_succ])
  (refine take_in (i := 23) (v := ?_) rfl ?_ ?_; rotate_left; (intro w hSw; (try dsimp only at hSw); go_simp; try with_reducible rfl)); (try simp only [Act.put, List.setIfInBounds_toArray, List.set_cons_zero, List.set_cons_succ])
  (refine take_in (i := 24) (v := ?_) rfl ?_ ?_; rotate_left; (intro w hSw; (try dsimp only at hSw); go_simp; try with_reducible rfl)); (try simp only [Act.put, List.setIfInBounds_toArray, List.set_cons_zero, List.set_cons_succ])
  refine wpAnyH_done (by kernel_rfl) ?_ _
  go_wp2
  go_ret
  exact RetD.mk rfl 1
set_option maxRecDepth 100000 in
set_option maxHeartbeats 2000000 in
theorem rowsSame_gen (h1 : RowsQ z1 S w b1 iv1 a1 L1) (c2 : w.cell? ⟨b2, 2, none⟩ = some (.int .i64 a2)) (he : a1 = a2)
    (h2 : ∀ W, Kp (FQ z1 b1) w W → RowsAt S W b1 iv1 a1 L1 → RowsQ z2 S W b2 iv2 a2 L2) (h3 : ∀ W W', RowsAt S W b1 iv1 a1 L1 → Kp (FQ z2 b2) W W' → RowsAt S W' b2 iv2 a2 L2 → RowsAt S W' b1 iv1 a1 L1) :
    Calls Try.prog 82 #[.pointer (some ⟨b1, 0, none⟩), .pointer (some ⟨b2, 0, none⟩)] w
      (RetF (fun k => FQ z1 b1 k ∨ FQ z2 b2 k) w fun w' v => v = .bool (decide (L1 = L2)) ∧ RowsAt S w' b1 iv1 a1 L1 ∧ RowsAt S w' b2 iv2 a2 L2) := by
  have t : ((a1 : Int) == (a2 : Int)) = true := by simp [he]
  have c1 := h1.ar
  have HS1 := Lib.hid (fun W (hW : Ext w W) => rowsSet_q (h1.ext hW))
  have H2 := Lib.hid h2
  have H1 := Lib.hid h3
  clear h1 h2 h3
  go_enter Try.func82, Try.ntmps82
  go_wp2
  refine wp_region_held_drew (S := fun w' => w'.cell? ⟨b1, 2, none⟩ = some (.int .i64 a1) ∧ w'.cell? ⟨b2, 2, none⟩ = some (.int .i64 a2)) (by kernel_rfl) ⟨by assumption, by assumption⟩ (fun hHeld => ?_)
  (refine take_in (i := 0) (v := ?_) rfl ?_ ?_; rotate_left; (intro w hSw; (try dsimp only at hSw); go_simp; try with_reducible rfl)); (try simp only [Act.put, List.setIfInBounds_toArray, List.set_cons_zero, List.set_cons_succ])
  (refine take_in (i := 1) (v := ?_) rfl ?_ ?_; rotate_left; (intro w hSw; (try dsimp only at hSw); go_simp; try with_reducible rfl)); (try simp only [Act.put, List.setIfInBounds_toArray, List.set_cons_zero, List.set_cons_succ])
  (refine take_in (i := 2) (v := ?_) rfl ?_ ?_; rotate_left; (intro w hSw; (try dsimp only at hSw); go_simp; try with_reducible rfl)); (try simp only [Act.put, List.setIfInBounds_toArray, List.set_cons_zero, List.set_cons_succ])
  (first | (refine take_in (i := 3) (v := ?_) rfl ?_ ?_; rotate_left; (intro w hSw; (try dsimp only at hSw); go_simp; try with_reducible rfl)) | (refine take_out (i := 3) rfl ?_)); (try simp only [Act.put, List.setIfInBounds_toArray, List.set_cons_zero, List.set_cons_succ])
  (first | (refine take_in (i := 4) (v := ?_) rfl ?_ ?_; rotate_left; (intro w hSw; (try dsimp only at hSw); go_simp; try with_reducible rfl)) | (refine take_out (i := 4) rfl ?_)); (try simp only [Act.put, List.setIfInBounds_toArray, List.set_cons_zero, List.set_cons_succ])
  (refine take_in (i := 5) (v := ?_) rfl ?_ ?_; rotate_left; (intro w hSw; (try dsimp only at hSw); go_simp; try with_reducible rfl)); (try simp only [Act.put, List.setIfInBounds_toArray, List.set_cons_zero, List.set_cons_succ])
  (refine take_in (i := 6) (v := ?_) rfl ?_ ?_; rotate_left; (intro w hSw; (try dsimp only at hSw); go_simp; try with_reducible rfl)); (try simp only [Act.put, List.setIfInBounds_toArray, List.set_cons_zero, List.set_cons_succ])
  (first | (refine take_in (i := 7) (v := ?_) rfl ?_ ?_; rotate_left; (intro w hSw; (try dsimp only at hSw); go_simp; try with_reducible rfl)) | (refine take_out (i := 7) rfl ?_)); (try simp only [Act.put, List.setIfInBounds_toArray, List.set_cons_zero, List.set_cons_succ])
  (first | (refine take_in (i := 8) (v := ?_) rfl ?_ ?_; rotate_left; (intro w hSw; (try dsimp only at hSw); go_simp; try with_reducible rfl)) | (refine take_out (i := 8) rfl ?_)); (try simp only [Act.put, List.setIfInBounds_toArray, List.set_cons_zero, List.set_cons_succ])
  (first | (refine take_in (i := 9) (v := ?_) rfl ?_ ?_; rotate_left; (intro w hSw; (try dsimp only at hSw); go_simp; try with_reducible rfl)) | (refine take_out (i := 9) rfl ?_)); (try simp only [Act.put, List.setIfInBounds_toArray, List.set_cons_zero, List.set_cons_succ])
  (first | (refine take_in (i := 10) (v := ?_) rfl ?_ ?_; rotate_left; (intro w hSw; (try dsimp only at hSw); go_simp; try with_reducible rfl)) | (refine take_out (i := 10) rfl ?_)); (try simp only [Act.put, List.setIfInBounds_toArray, List.set_cons_zero, List.set_cons_succ])
  (first | (refine take_in (i := 11) (v := ?_) rfl ?_ ?_; rotate_left; (intro w hSw; (try dsimp only at hSw); go_simp; try with_reducible rfl)) | (refine take_out (i := 11) rfl ?_)); (try simp only [Act.put, List.setIfInBounds_toArray, List.set_cons_zero, List.set_cons_succ])
  (first | (refine take_in (i := 12) (v := ?_) rfl ?_ ?_; rotate_left; (intro w hSw; (try dsimp only at hSw); go_simp; try with_reducible rfl)) | (refine take_out (i := 12) rfl ?_)); (try simp only [Act.put, List.setIfInBounds_toArray, List.set_cons_zero, List.set_cons_succ])
  (first | (refine take_in (i := 13) (v := ?_) rfl ?_ ?_; rotate_left; (intro w hSw; (try dsimp only at hSw); go_simp; try with_reducible rfl)) | (refine take_out (i := 13) rfl ?_)); (try simp only [Act.put, List.setIfInBounds_toArray, List.set_cons_zero, List.set_cons_succ])
  (first | (refine take_in (i := 14) (v := ?_) rfl ?_ ?_; rotate_left; (intro w hSw; (try dsimp only at hSw); go_simp; try with_reducible rfl)) | (refine take_out (i := 14) rfl ?_)); (try simp only [Act.put, List.setIfInBounds_toArray, List.set_cons_zero, List.set_cons_succ])
  (first | (refine take_in (i := 15) (v := ?_) rfl ?_ ?_; rotate_left; (intro w hSw; (try dsimp only at hSw); go_simp; try with_reducible rfl)) | (refine take_out (i := 15) rfl ?_)); (try simp only [Act.put, List.setIfInBounds_toArray, List.set_cons_zero, List.set_cons_succ])
  (refine take_in (i := 16) (v := ?_) rfl ?_ ?_; rotate_left; (intro w hSw; (try dsimp only at hSw); go_simp; try with_reducible rfl)); (try simp only [Act.put, List.setIfInBounds_toArray, List.set_cons_zero, List.set_cons_succ])
  (refine take_in (i := 17) (v := ?_) rfl ?_ ?_; rotate_left; (intro w hSw; (try dsimp only at hSw); go_simp; try with_reducible rfl)); (try simp only [Act.put, List.setIfInBounds_toArray, List.set_cons_zero, List.set_cons_succ])
  (first | (refine take_in (i := 18) (v := ?_) rfl ?_ ?_; rotate_left; (intro w hSw; (try dsimp only at hSw); go_simp; try with_reducible rfl)) | (refine take_out (i := 18) rfl ?_)); (try simp only [Act.put, List.setIfInBounds_toArray, List.set_cons_zero, List.set_cons_succ])
  (first | (refine take_in (i := 20) (v := ?_) rfl ?_ ?_; rotate_left; (intro w hSw; (try dsimp only at hSw); go_simp; try with_reducible rfl)) | (refine take_out (i := 20) rfl ?_)); (try simp only [Act.put, List.setIfInBounds_toArray, List.set_cons_zero, List.set_cons_succ])
  (first | (refine take_out (i := 19) rfl ?_) | (refine take_call (i := 19) rfl (fun K hK => ?_); go_simp; ((with_reducible refine (HS1.out _ ?_).mono ?_); exact (Kp.refl w).drew; rintro e w1 ⟨v1, rfl, hk1, rfl, hr1⟩; have hk1' : Kp (FQ z1 b1) w w1 := (show Kp (FQ z1 b1) w _ from (Kp.refl w).drew).trans hk1; have hq2 := H2.out _ hk1' hr1; have d1 := (hr1.q (z := False)).ar; have d2 := hq2.ar; have HK1 := Lib.hid (And.intro hk1' hr1); have HS2 := Lib.hid (rowsSet_q hq2); clear hk1 hk1' hr1 hq2); go_wp2_with fail; refine hK.out _ _ ?_ (fun hHeld => ?_); (try dsimp only); (exact ⟨by assumption, by assumption⟩); clear hK K)); (try simp only [Act.put, List.setIfInBounds_toArray, List.set_cons_zero, List.set_cons_succ])
  (first | (refine take_out (i := 21) rfl ?_) | (refine take_call (i := 21) rfl (fun K hK => ?_); go_simp; (refine HS2.out.mono ?_; rintro e w2 ⟨v2, rfl, hk2, rfl, hr2⟩; have hr1' := H1.out _ _ HK1.out.2 hk2 hr2; have e1 := (hr1'.q (z := False)).ar; have e2 := (hr2.q (z := False)).ar; have HK2 := Lib.hid (And.intro hk2 (And.intro hr1' hr2)); have HFF := Lib.hid (rowsSame_set hr1' hr2); clear hk2 hr1' hr2); go_wp2_with fail; refine hK.out _ _ ?_ (fun hHeld => ?_); (try dsimp only); (exact ⟨by assumption, by assumption⟩); clear hK K)); (try simp only [Act.put, List.setIfInBounds_toArray, List.set_cons_zero, List.set_cons_succ])
  (first | (refine take_out (i := 22) rfl ?_) | (refine take_call (i := 22) rfl (fun K hK => ?_); go_simp; (refine HFF.out.mono ?_; rintro e w3 ⟨v3, rfl, hk3, rfl⟩; have f1 := hk3.cell e1 id; have f2 := hk3.cell e2 id; have HK3 := Lib.hid hk3; clear hk3); go_wp2_with fail; refine hK.out _ _ ?_ (fun hHeld => ?_); (try dsimp only); (exact ⟨by assumption, by assumption⟩); clear hK K)); (try simp only [Act.put, List.setIfInBounds_toArray, List.set_cons_zero, List.set_cons_succ])
  (refine take_in (i := 23) (v := ?_) rfl ?_ ?_; rotate_left; (intro w hSw; (try dsimp only at hSw); go_simp; try with_reducible rfl)); (try simp only [Act.put, List.setIfInBounds_toArray, List.set_cons_zero, List.set_cons_succ])
  (refine take_in (i := 24) (v := ?_) rfl ?_ ?_; rotate_left; (intro w hSw; (try dsimp only at hSw); go_simp; try with_reducible rfl)); (try simp only [Act.put, List.setIfInBounds_toArray, List.set_cons_zero, List.set_cons_succ])
  refine wpAnyH_done (by kernel_rfl) ?_ _
  go_wp2
  go_ret
  obtain ⟨hk2, hr1, hr2⟩ := HK2.out
  exact RetF.mk (((HK1.out.1.mono fun _ _ h => .inl h).trans (hk2.mono fun _ _ h => .inr h)).ext HK3.out) ⟨rfl, hr1.ext HK3.out, hr2.ext HK3.out⟩
theorem rowsSame_q (h1 : RowsQ z1 S w b1 iv1 arity L1) (h2 : RowsQ z2 S w b2 iv2 arity L2) (hap : ∀ k, Owns b1 iv1 k → ¬ Owns b2 iv2 k) :
    Calls Try.prog 82 #[.pointer (some ⟨b1, 0, none⟩), .pointer (some ⟨b2, 0, none⟩)] w
      (RetF (fun k => FQ z1 b1 k ∨ FQ z2 b2 k) w fun w' v => v = .bool (decide (L1 = L2)) ∧ RowsAt S w' b1 iv1 arity L1 ∧ RowsAt S w' b2 iv2 arity L2) :=
  rowsSame_gen h1 h2.ar rfl (fun W hk _ => h2.kp hk (fun k hk ho => hap k (FQ.owns k hk) ho) (fun k hk hS => h1.notS k (FQ.owns k hk) hS))
    (fun W W' hr hk _ => hr.move hk (fun k hk ho => hap k ho (FQ.owns k hk)) (fun k hk hS => h2.notS k (FQ.owns k hk) hS) (fun _ h => h) (fun k hS => Nat.lt_of_lt_of_le (hr.inS k hS) hk.size) hr.notS)
theorem rowsSame_self (h : RowsQ z S w b iv arity LL) :
    Calls Try.prog 82 #[.pointer (some ⟨b, 0, none⟩), .pointer (some ⟨b, 0, none⟩)] w (RetF (FQ z b) w fun w' v => v = .bool true ∧ RowsAt S w' b iv arity LL) := by
  refine (rowsSame_gen (z2 := z) h h.ar rfl (fun W hk hr => hr.q) (fun W W' hr hk h => h)).mono ?_
  rintro e w' ⟨v, rfl, hk, rfl, h1, _⟩
  exact RetF.mk (hk.mono fun _ _ h => by rcases h with h | h <;> exact h) ⟨by simp, h1⟩

theorem rowsUnion_nil1 (v : Value) (w : World) : Calls Try.prog 70 #[.pointer none, v] w (Ret (.tuple #[.pointer none, .int .i64 1]) w) := by
  go_enter Try.func70, Try.ntmps70
  go_wp2_with fail
  refine (rowsWith_nil1 _ _ w).mono ?_
  rintro e w' ⟨rfl, rfl⟩
  go_wp2
  go_ret2
  exact Ret.mk rfl
theorem rowsUnion_nil2 (a : Addr) (w : World) : Calls Try.prog 70 #[.pointer (some a), .pointer none] w (Ret (.tuple #[.pointer none, .int .i64 1]) w) := by
  go_enter Try.func70, Try.ntmps70
  go_wp2_with fail
  refine (rowsWith_nil2 _ _ w).mono ?_
  rintro e w' ⟨rfl, rfl⟩
  go_wp2
  go_ret2
  exact Ret.mk rfl
theorem rowsUnion_arity (h1 : RowsQ z1 S w b1 iv1 a1 L1) (h2 : RowsQ z2 S w b2 iv2 a2 L2) (hne : a1 ≠ a2) : Calls Try.prog 70 #[.pointer (some ⟨b1, 0, none⟩), .pointer (some ⟨b2, 0, none⟩)] w (RetD (.tuple #[.pointer none, .int .i64 30]) w) := by
  have H := Lib.hid (rowsWith_arity h1 h2 hne (.func (Fn.func 111) #[] #[])); clear h1 h2
  go_enter Try.func70, Try.ntmps70
  go_wp2_with fail
  refine H.out.mono ?_
  rintro e w' ⟨rfl, n, rfl⟩
  go_wp2
  go_ret2
  exact RetD.mk rfl n
theorem rowsUnion_q (h1 : RowsQ z1 S w b1 iv1 arity L1) (h2 : RowsQ z2 S w b2 iv2 arity L2) (hap : ∀ k, Owns b1 iv1 k → ¬ Owns b2 iv2 k) (hll : L1.length + L2.length ≤ 1048576 * 1048576) :
    Calls Try.prog 70 #[.pointer (some ⟨b1, 0, none⟩), .pointer (some ⟨b2, 0, none⟩)] w
      (RetF (fun k => FQ z1 b1 k ∨ FQ z2 b2 k) w fun w' v => RowsAt S w' b1 iv1 arity L1 ∧ RowsAt S w' b2 iv2 arity L2 ∧ RowsWithQ S w arity (newS cmpRow (L1 ++ L2)) w' v) := by
  have H := Lib.hid (rowsWith_q union_tells (enters_of Try.func111 (by kernel_rfl) rfl) h1 h2 hap hll); clear h1 h2 hap
  go_enter Try.func70, Try.ntmps70
  go_wp2_with fail
  refine H.out.mono ?_
  rintro e w1 ⟨v, rfl, hk, hr1, hr2, hq⟩
  unfold RowsWithQ at hq
  split at hq
  · subst hq
    rename_i hlt
    have HK := Lib.hid (And.intro hk (And.intro hr1 (And.intro hr2 hlt))); clear hk hr1 hr2 hlt
    go_wp2
    go_ret2
    exact RetF.mk HK.out.1 ⟨HK.out.2.1, HK.out.2.2.1, by unfold RowsWithQ; rw [if_pos HK.out.2.2.2]; rfl⟩
  · obtain ⟨b', iv', rfl, hq⟩ := hq
    rename_i hlt
    have HK := Lib.hid (And.intro hk (And.intro hr1 (And.intro hr2 (And.intro hlt hq)))); clear hk hr1 hr2 hlt hq
    go_wp2
    go_ret2
    exact RetF.mk HK.out.1 ⟨HK.out.2.1, HK.out.2.2.1, by unfold RowsWithQ; rw [if_neg HK.out.2.2.2.1]; exact ⟨_, _, rfl, HK.out.2.2.2.2⟩⟩
theorem rowsMinus_nil1 (v : Value) (w : World) : Calls Try.prog 71 #[.pointer none, v] w (Ret (.tuple #[.pointer none, .int .i64 1]) w) := by
  go_enter Try.func71, Try.ntmps71
  go_wp2_with fail
  refine (rowsWith_nil1 _ _ w).mono ?_
  rintro e w' ⟨rfl, rfl⟩
  go_wp2
  go_ret2
  exact Ret.mk rfl
theorem rowsMinus_nil2 (a : Addr) (w : World) : Calls Try.prog 71 #[.pointer (some a), .pointer none] w (Ret (.tuple #[.pointer none, .int .i64 1]) w) := by
  go_enter Try.func71, Try.ntmps71
  go_wp2_with fail
  refine (rowsWith_nil2 _ _ w).mono ?_
  rintro e w' ⟨rfl, rfl⟩
  go_wp2
  go_ret2
  exact Ret.mk rfl
theorem rowsMinus_arity (h1 : RowsQ z1 S w b1 iv1 a1 L1) (h2 : RowsQ z2 S w b2 iv2 a2 L2) (hne : a1 ≠ a2) : Calls Try.prog 71 #[.pointer (some ⟨b1, 0, none⟩), .pointer (some ⟨b2, 0, none⟩)] w (RetD (.tuple #[.pointer none, .int .i64 30]) w) := by
  have H := Lib.hid (rowsWith_arity h1 h2 hne (.func (Fn.func 112) #[] #[])); clear h1 h2
  go_enter Try.func71, Try.ntmps71
  go_wp2_with fail
  refine H.out.mono ?_
  rintro e w' ⟨rfl, n, rfl⟩
  go_wp2
  go_ret2
  exact RetD.mk rfl n
theorem rowsMinus_q (h1 : RowsQ z1 S w b1 iv1 arity L1) (h2 : RowsQ z2 S w b2 iv2 arity L2) (hap : ∀ k, Owns b1 iv1 k → ¬ Owns b2 iv2 k) (hll : L1.length + L2.length ≤ 1048576 * 1048576) :
    Calls Try.prog 71 #[.pointer (some ⟨b1, 0, none⟩), .pointer (some ⟨b2, 0, none⟩)] w
      (RetF (fun k => FQ z1 b1 k ∨ FQ z2 b2 k) w fun w' v => RowsAt S w' b1 iv1 arity L1 ∧ RowsAt S w' b2 iv2 arity L2 ∧ RowsWithQ S w arity (L1.filter fun x => !isIn cmpRow L2 x) w' v) := by
  have H := Lib.hid (rowsWith_q minus_tells (enters_of Try.func112 (by kernel_rfl) rfl) h1 h2 hap hll); clear h1 h2 hap
  go_enter Try.func71, Try.ntmps71
  go_wp2_with fail
  refine H.out.mono ?_
  rintro e w1 ⟨v, rfl, hk, hr1, hr2, hq⟩
  unfold RowsWithQ at hq
  split at hq
  · subst hq
    rename_i hlt
    have HK := Lib.hid (And.intro hk (And.intro hr1 (And.intro hr2 hlt))); clear hk hr1 hr2 hlt
    go_wp2
    go_ret2
    exact RetF.mk HK.out.1 ⟨HK.out.2.1, HK.out.2.2.1, by unfold RowsWithQ; rw [if_pos HK.out.2.2.2]; rfl⟩
  · obtain ⟨b', iv', rfl, hq⟩ := hq
    rename_i hlt
    have HK := Lib.hid (And.intro hk (And.intro hr1 (And.intro hr2 (And.intro hlt hq)))); clear hk hr1 hr2 hlt hq
    go_wp2
    go_ret2
    exact RetF.mk HK.out.1 ⟨HK.out.2.1, HK.out.2.2.1, by unfold RowsWithQ; rw [if_neg HK.out.2.2.2.1]; exact ⟨_, _, rfl, HK.out.2.2.2.2⟩⟩
theorem rowsMeet_nil1 (v : Value) (w : World) : Calls Try.prog 72 #[.pointer none, v] w (Ret (.tuple #[.pointer none, .int .i64 1]) w) := by
  go_enter Try.func72, Try.ntmps72
  go_wp2_with fail
  refine (rowsWith_nil1 _ _ w).mono ?_
  rintro e w' ⟨rfl, rfl⟩
  go_wp2
  go_ret2
  exact Ret.mk rfl
theorem rowsMeet_nil2 (a : Addr) (w : World) : Calls Try.prog 72 #[.pointer (some a), .pointer none] w (Ret (.tuple #[.pointer none, .int .i64 1]) w) := by
  go_enter Try.func72, Try.ntmps72
  go_wp2_with fail
  refine (rowsWith_nil2 _ _ w).mono ?_
  rintro e w' ⟨rfl, rfl⟩
  go_wp2
  go_ret2
  exact Ret.mk rfl
theorem rowsMeet_arity (h1 : RowsQ z1 S w b1 iv1 a1 L1) (h2 : RowsQ z2 S w b2 iv2 a2 L2) (hne : a1 ≠ a2) : Calls Try.prog 72 #[.pointer (some ⟨b1, 0, none⟩), .pointer (some ⟨b2, 0, none⟩)] w (RetD (.tuple #[.pointer none, .int .i64 30]) w) := by
  have H := Lib.hid (rowsWith_arity h1 h2 hne (.func (Fn.func 113) #[] #[])); clear h1 h2
  go_enter Try.func72, Try.ntmps72
  go_wp2_with fail
  refine H.out.mono ?_
  rintro e w' ⟨rfl, n, rfl⟩
  go_wp2
  go_ret2
  exact RetD.mk rfl n
theorem rowsMeet_q (h1 : RowsQ z1 S w b1 iv1 arity L1) (h2 : RowsQ z2 S w b2 iv2 arity L2) (hap : ∀ k, Owns b1 iv1 k → ¬ Owns b2 iv2 k) (hll : L1.length + L2.length ≤ 1048576 * 1048576) :
    Calls Try.prog 72 #[.pointer (some ⟨b1, 0, none⟩), .pointer (some ⟨b2, 0, none⟩)] w
      (RetF (fun k => FQ z1 b1 k ∨ FQ z2 b2 k) w fun w' v => RowsAt S w' b1 iv1 arity L1 ∧ RowsAt S w' b2 iv2 arity L2 ∧ RowsWithQ S w arity (L1.filter fun x => isIn cmpRow L2 x) w' v) := by
  have H := Lib.hid (rowsWith_q meet_tells (enters_of Try.func113 (by kernel_rfl) rfl) h1 h2 hap hll); clear h1 h2 hap
  go_enter Try.func72, Try.ntmps72
  go_wp2_with fail
  refine H.out.mono ?_
  rintro e w1 ⟨v, rfl, hk, hr1, hr2, hq⟩
  unfold RowsWithQ at hq
  split at hq
  · subst hq
    rename_i hlt
    have HK := Lib.hid (And.intro hk (And.intro hr1 (And.intro hr2 hlt))); clear hk hr1 hr2 hlt
    go_wp2
    go_ret2
    exact RetF.mk HK.out.1 ⟨HK.out.2.1, HK.out.2.2.1, by unfold RowsWithQ; rw [if_pos HK.out.2.2.2]; rfl⟩
  · obtain ⟨b', iv', rfl, hq⟩ := hq
    rename_i hlt
    have HK := Lib.hid (And.intro hk (And.intro hr1 (And.intro hr2 (And.intro hlt hq)))); clear hk hr1 hr2 hlt hq
    go_wp2
    go_ret2
    exact RetF.mk HK.out.1 ⟨HK.out.2.1, HK.out.2.2.1, by unfold RowsWithQ; rw [if_neg HK.out.2.2.2.1]; exact ⟨_, _, rfl, HK.out.2.2.2.2⟩⟩
theorem newRows_bad (a : Int) (w : World) (ha : a < 0 ∨ 64 < a) : Calls Try.prog 21 #[.int .i64 a] w (Ret (.tuple #[.pointer none, .int .i64 2]) w) := by
  by_cases h0 : a < 0
  · have t1 : decide (a < 0) = true := by simp [h0]
    go_enter Try.func21, Try.ntmps21
    go_wp2
    go_ret2
    exact Ret.mk rfl
  · have h1 : 64 < a := by omega
    have t1 : decide (a < 0) = false := by simp; omega
    have t2 : decide (a > 64) = true := by simp; omega
    have t3 : decide (64 < a) = true := by simp; omega
    go_enter Try.func21, Try.ntmps21
    go_wp2
    go_ret2
    exact Ret.mk rfl
end
end Go.Proofs.Ytfkhelihepbehaa

/- sibylref03.Rows: what lies where; NewRows, Arity, texts, copied, find, Below. -/
namespace Go.Proofs.Ytfkhelihepbehaa
open Go.RowKit
set_option linter.unusedVariables false

/-- The document's Rows in memory: an arity, rows; S holds the rows and their list, the box lies off S. -/
def RefRows (S : Nat → Prop) (w : World) (c : Nat) (n : Nat) (LL : List (List ByteArray)) : Prop :=
  ∃ ao cap, Blk w c [.int .i64 n, .slice ao LL.length cap] 70 ∧ RowsIn S w ao LL ∧ (LL.length ≤ cap ∧ cap ≤ maxLen ∧ (ao = none ∧ cap = 0 ∨ ∃ g, ao = some ⟨g, 0, none⟩)) ∧ ¬ S c ∧ (∀ k, S k → k < w.heap.size) ∧ LL.length ≤ 1048576 * 1048576
/-- Between two rounds of a loop that only reads. -/
def ReadR (n : Nat) (ok : Nat → Prop) (w0 : World) (kv : Value) (w : World) : Prop := ∃ i : Nat, i ≤ n ∧ kv = .int .i64 i ∧ ok i ∧ Ext w0 w
/-- Between two rounds of a loop that counts. -/
def CountR (n : Nat) (f : Nat → Nat) (w0 : World) (nv kv : Value) (w : World) : Prop := ∃ i : Nat, i ≤ n ∧ nv = .int .i64 (f i : Nat) ∧ kv = .int .i64 i ∧ Ext w0 w
theorem below_step' {α : Type} (c : α → α → Int) (zs : List α) (x y : α) (i : Nat) (h : zs[i]? = some y) : below c (zs.take (i + 1)) x = below c (zs.take i) x + (if c y x < 0 then 1 else 0) := by
  obtain ⟨hl, e⟩ := List.getElem?_eq_some_iff.1 h
  unfold below
  rw [List.take_succ_eq_append_getElem hl, List.filter_append, e]
  by_cases hc : c y x < 0 <;> simp [hc]
/-- The place of a row; -1: there is none. -/
def findR (LL : List (List ByteArray)) (ss : List ByteArray) : Int := if isIn cmpRow LL ss then (below cmpRow LL ss : Nat) else -1
theorem first_alike' {α : Type} {c : α → α → Int} (O : OrdLaw c) {zs : List α} (hs : Strict c zs) {x y : α} {i : Nat} (hy : zs[i]? = some y) (hz : c y x = 0) : i = below c zs x := by
  refine hs.place O (by have := (List.getElem?_eq_some_iff.1 hy).1; omega) (fun u h0 hu => ?_) (fun u hu => ?_)
  · obtain ⟨h1, e1⟩ := List.getElem?_eq_some_iff.1 hu
    obtain ⟨h2, e2⟩ := List.getElem?_eq_some_iff.1 hy
    have := List.pairwise_iff_getElem.1 hs (i - 1) i h1 h2 (by omega)
    rw [e1, e2] at this
    exact O.lt_trans this (by omega)
  · rw [hy] at hu; cases hu; omega

section
variable {S S' : Nat → Prop} {w w' : World} {c n : Nat} {LL : List (List ByteArray)}
theorem RefRows.kp {F : Nat → Prop} (h : RefRows S w c n LL) (hk : Kp F w w') (hc : ¬ F c) (hF : ∀ k, F k → ¬ S k) : RefRows S w' c n LL := by
  obtain ⟨ao, cap, h1, h2, h3, h4, h5, h6⟩ := h
  exact ⟨ao, cap, h1.kp hk hc, h2.kp hk hF, h3, h4, fun k hS => Nat.lt_of_lt_of_le (h5 k hS) hk.size, h6⟩
theorem RefRows.ext (h : RefRows S w c n LL) (hk : Ext w w') : RefRows S w' c n LL := h.kp hk id fun _ x => x.elim
theorem RefRows.wide (h : RefRows S w c n LL) (hs : ∀ k, S k → S' k) (hc : ¬ S' c) (hl : ∀ k, S' k → k < w.heap.size) : RefRows S' w c n LL := by
  obtain ⟨ao, cap, h1, h2, h3, h4, h5, h6⟩ := h
  exact ⟨ao, cap, h1, h2.mono hs, h3, hc, hl, h6⟩
theorem RefRows.lt (h : RefRows S w c n LL) : c < w.heap.size := by obtain ⟨ao, cap, h1, _⟩ := h; exact h1.lt
theorem RefRows.inS (h : RefRows S w c n LL) : ∀ k, S k → k < w.heap.size := by obtain ⟨ao, cap, h1, h2, h3, h4, h5, _⟩ := h; exact h5
theorem RefRows.notS (h : RefRows S w c n LL) : ¬ S c := by obtain ⟨ao, cap, h1, h2, h3, h4, h5, _⟩ := h; exact h4
theorem RefRows.len (h : RefRows S w c n LL) : LL.length ≤ 1048576 * 1048576 := by obtain ⟨ao, cap, h1, h2, h3, h4, h5, h6⟩ := h; exact h6

theorem refNewRows_any (S : Nat → Prop) (w : World) (a : Nat) (ha : a ≤ 64) (hS : ∀ k, S k → k < w.heap.size) :
    Calls Try.prog 22 #[.int .i64 a] w (RetN w fun w' v => v = .tuple #[.pointer (some ⟨w.heap.size, 0, none⟩), .int .i64 0] ∧ RefRows S w' w.heap.size a []) := by
  have t1 : decide ((a : Int) < 0) = false := by simp
  have t2 : decide ((a : Int) > 64) = false := by simp; omega
  have t3 : decide (64 < (a : Int)) = false := by simp; omega
  go_enter Try.func22, Try.ntmps22
  go_wp2
  go_ret2
  refine RetN.mk ((Kp.refl w).alloc _) ⟨rfl, none, 0, Blk.new w [_, _] _, RowsIn.nil _ _, ⟨Nat.le_refl _, by decide, .inl ⟨rfl, rfl⟩⟩, fun h => by have := hS _ h; omega, fun k h => by have := hS k h; rw [alloc_size]; omega, by simp⟩
theorem refNewRows_bad (a : Int) (w : World) (ha : a < 0 ∨ 64 < a) : Calls Try.prog 22 #[.int .i64 a] w (Ret (.tuple #[.pointer none, .int .i64 2]) w) := by
  by_cases h0 : a < 0
  · have t1 : decide (a < 0) = true := by simp [h0]
    go_enter Try.func22, Try.ntmps22
    go_wp2
    go_ret2
    exact Ret.mk rfl
  · have h1 : 64 < a := by omega
    have t1 : decide (a < 0) = false := by simp; omega
    have t2 : decide (a > 64) = true := by simp; omega
    have t3 : decide (64 < a) = true := by simp; omega
    go_enter Try.func22, Try.ntmps22
    go_wp2
    go_ret2
    exact Ret.mk rfl
theorem refArity_nil (w : World) : Calls Try.prog 78 #[.pointer none] w (Ret (.int .i64 0) w) := by
  go_enter Try.func78, Try.ntmps78
  go_wp2
  go_ret
  exact Ret.mk rfl
theorem refArity_any (h : RefRows S w c n LL) : Calls Try.prog 78 #[.pointer (some ⟨c, 0, none⟩)] w (Ret (.int .i64 n) w) := by
  obtain ⟨ao, cap, h1, _⟩ := h
  have c1 : w.cell? ⟨c, 0, none⟩ = some (.int .i64 n) := by rw [h1.cell']; rfl
  clear h1
  go_enter Try.func78, Try.ntmps78
  go_wp2
  go_ret
  exact Ret.mk rfl
theorem copied_any (ss : List ByteArray) (ao : Option Addr) (m cap : Nat) (w : World) (hm : m = ss.length) (hc : CellsAt w ao (strs ss)) (hl : ss.length ≤ 8796093021952) :
    Calls Try.prog 106 #[.slice ao m cap] w (RetN w fun w' v => OwnRow w w' v ss) := by
  subst hm
  go_enter Try.func106, Try.ntmps106
  go_wp2_with (first | (at_builtin; refine Halted.out ?_))
  refine Halted.mk (wp_appN elem_str rfl _ _ rfl (Kp.refl (F := fun _ => False) w) rfl (Row.nil w 9 1 (New w)) rfl hc (by simp [strs]) (strs_one ss) (by omega) (by unfold maxLen; omega) ?_)
  intro v1 w1 hr1 hk1 _ _
  have HR := Lib.hid hr1; clear hr1
  go_wp2
  go_ret
  refine RetN.mk hk1 ?_
  unfold OwnRow
  simpa using HR.out
set_option maxRecDepth 100000 in
theorem refTexts_any (ss : List ByteArray) (ao : Option Addr) (m cap : Nat) (w : World) (hm : m = ss.length) (hc : CellsAt w ao (strs ss)) (hl : m ≤ 4611686018427387904) :
    Calls Try.prog 104 #[.slice ao m cap] w (Ret (.bool (textsC ss)) w) := by
  have HC := Lib.hid hc; have EN := Lib.hid hm; clear hc hm
  go_enter Try.func104, Try.ntmps104
  go_wp2
  go_loopw [3] (fun kv wr => wr = w ∧ ∃ i : Nat, i ≤ m ∧ kv = .int .i64 i ∧ ∀ j s, j < i → ss[j]? = some s → s.size ≤ 4096) (fun k _ => m - (intOf k).toNat)
  case atStart => exact ⟨rfl, 0, Nat.zero_le _, rfl, fun j s h => by omega⟩
  case round =>
    obtain ⟨ew, i, hi, rfl, hok⟩ := hrel
    subst ew
    have OK := Lib.hid hok; clear hok
    by_cases hlt : i < m
    · obtain ⟨y, hy⟩ : ∃ y, ss[i]? = some y := ⟨_, List.getElem?_eq_getElem (by have := EN.out; omega)⟩
      obtain ⟨g, o, eao, c3⟩ := HC.out i (.string y) (by simp [strs, hy])
      subst eao
      have HY := Lib.hid hy; clear hy
      have i1 : (i : Int) < (m : Int) := by omega
      by_cases hz : 4096 < y.size
      · have t1 : decide ((y.size : Int) > 4096) = true := by simp; omega
        have t2 : decide ((4096 : Int) < (y.size : Int)) = true := by simp; omega
        go_wp2
        go_ret
        have key : textsC ss = false := by
          cases hb : textsC ss with
          | false => rfl
          | true =>
            have := List.all_eq_true.1 hb y (List.mem_of_getElem? HY.out)
            simp at this; omega
        exact Ret.mk (by rw [key]; rfl)
      · have t1 : decide ((y.size : Int) > 4096) = false := by simp; omega
        have t2 : decide ((4096 : Int) < (y.size : Int)) = false := by simp; omega
        go_wp2
        go_roundw
        case rel =>
          refine ⟨by first | rfl | trivial, i + 1, by omega, by first | rfl | (congr 1; done) | (congr 1; omega), fun j s hj hs => ?_⟩
          by_cases e : j = i
          · subst e; rw [HY.out] at hs; cases hs; omega
          · exact OK.out j s (by omega) hs
        case measure => simp [intOf]; omega
    · go_wp2
      go_ret
      have key : textsC ss = true := List.all_eq_true.2 fun y hy => by
        obtain ⟨j, hj, rfl⟩ := List.mem_iff_getElem.1 hy
        have := OK.out j _ (by have := EN.out; omega) (List.getElem?_eq_getElem hj)
        simpa using this
      exact Ret.mk (by rw [key]; rfl)

theorem refRowFind_nil (v : Value) (w : World) : Calls Try.prog 105 #[.pointer none, v] w (Ret (.int .i64 (-1)) w) := by
  go_enter Try.func105, Try.ntmps105
  go_wp2
  go_ret
  exact Ret.mk rfl
set_option maxRecDepth 100000 in
set_option maxHeartbeats 1000000 in
theorem refRowFind_any (h : RefRows S w c n LL) (hst : Strict cmpRow LL) {xo : Option Addr} {m xc : Nat} {ss : List ByteArray} (hm : m = ss.length) (hx : CellsAt w xo (strs ss)) (hss : ss.length ≤ 8796093021952) :
    Calls Try.prog 105 #[.pointer (some ⟨c, 0, none⟩), .slice xo m xc] w (RetN w fun w' v => v = .int .i64 (findR LL ss)) := by
  have hl := h.len
  obtain ⟨ao, cap, h1, h2, _⟩ := h
  have c2 : w.cell? ⟨c, 1, none⟩ = some (.slice ao LL.length cap) := by rw [h1.cell']; rfl
  obtain ⟨N, en⟩ : ∃ n, n = LL.length := ⟨_, rfl⟩
  rw [← en] at c2 hl
  have HC := Lib.hid h2; have EN := Lib.hid en; have HX := Lib.hid hx; have HT := Lib.hid hst; clear h1 h2 en hx hst
  subst hm
  go_enter Try.func105, Try.ntmps105
  go_wp2
  go_loopw [5] (ReadR N (fun i => ∀ j z, j < i → LL[j]? = some z → ¬ cmpRow z ss = 0) w) (fun k _ => N - (intOf k).toNat)
  case atStart => exact ⟨0, Nat.zero_le _, rfl, fun j z h => by omega, Kp.refl _⟩
  case round =>
    obtain ⟨i, hi, rfl, hok, hex⟩ := hrel
    have OK := Lib.hid hok; clear hok
    have d2 := hex.cell c2 id
    by_cases hlt : i < N
    · obtain ⟨y, hy⟩ : ∃ y, LL[i]? = some y := ⟨_, List.getElem?_eq_getElem (by have := EN.out; omega)⟩
      obtain ⟨g, o, x, xcap, eao, c3, hcy, hly, _⟩ := (HC.out.ext hex).get hy
      subst eao
      have HY := Lib.hid hy; clear hy
      have i1 : (i : Int) < (N : Int) := by omega
      have i2 : (0 : Int) ≤ (i : Int) := by omega
      have HCM := Lib.hid (fun W (hW : Ext wr W) => refCompare_any y ss x xo xcap xc W (hcy.ext hW) ((HX.out.ext hex).ext hW) (by unfold maxLen; omega) (by unfold maxLen; omega))
      generalize hcc : cmpRow y ss = cc at HCM
      have HCC := Lib.hid hcc; clear hcc hcy
      by_cases hz : cc = 0
      · have t1 : (cc == 0) = true := by simp [hz]
        go_wp2_with fail
        refine (HCM.out _ (Kp.refl _)).mono ?_
        rintro e w1 ⟨rfl, k1, rfl⟩
        clear d2 c3
        go_wp2
        go_ret
        have key : findR LL ss = i := by
          unfold findR
          rw [if_pos (isIn_iff.2 ⟨y, List.mem_of_getElem? HY.out, by rw [HCC.out]; exact hz⟩), ← first_alike' (c := cmpRow) (cmpRow_law id) HT.out HY.out (by rw [HCC.out]; exact hz)]
        exact RetN.mk (hex.drewN k1) (by rw [key]; rfl)
      · have t1 : (cc == 0) = false := by simp [hz]
        go_wp2_with fail
        refine (HCM.out _ (Kp.refl _)).mono ?_
        rintro e w1 ⟨rfl, k1, rfl⟩
        clear d2 c3
        go_wp2
        go_roundw
        case rel =>
          refine ⟨i + 1, by omega, by first | rfl | (congr 1; done) | (congr 1; omega), fun j z hj hz' => ?_, hex.drewN k1⟩
          by_cases e : j = i
          · subst e
            rw [HY.out] at hz'; cases hz'
            rw [HCC.out]; exact hz
          · exact OK.out j z (by omega) hz'
        case measure => simp [intOf]; omega
    · go_wp2
      go_ret
      have key : findR LL ss = -1 := by
        unfold findR
        rw [if_neg]
        intro hb
        obtain ⟨y, hy, hz⟩ := isIn_iff.1 hb
        obtain ⟨j, hj, rfl⟩ := List.mem_iff_getElem.1 hy
        exact OK.out j _ (by have := EN.out; omega) (List.getElem?_eq_getElem hj) hz
      exact RetN.mk hex (by rw [key]; rfl)
theorem refRowBelow_nil (v : Value) (w : World) : Calls Try.prog 66 #[.pointer none, v] w (Ret (.int .i64 0) w) := by
  go_enter Try.func66, Try.ntmps66
  go_wp2
  go_ret
  exact Ret.mk rfl
set_option maxRecDepth 100000 in
set_option maxHeartbeats 1000000 in
theorem refRowBelow_any (h : RefRows S w c n LL) {xo : Option Addr} {m xc : Nat} {ss : List ByteArray} (hm : m = ss.length) (hx : CellsAt w xo (strs ss)) (hss : ss.length ≤ 8796093021952) :
    Calls Try.prog 66 #[.pointer (some ⟨c, 0, none⟩), .slice xo m xc] w (RetN w fun w' v => v = .int .i64 (below cmpRow LL ss : Nat)) := by
  have hl := h.len
  obtain ⟨ao, cap, h1, h2, _⟩ := h
  have c2 : w.cell? ⟨c, 1, none⟩ = some (.slice ao LL.length cap) := by rw [h1.cell']; rfl
  obtain ⟨N, en⟩ : ∃ n, n = LL.length := ⟨_, rfl⟩
  rw [← en] at c2 hl
  have HC := Lib.hid h2; have EN := Lib.hid en; have HX := Lib.hid hx; clear h1 h2 en hx
  subst hm
  obtain ⟨f, ef⟩ : ∃ f : Nat → Nat, f = fun i => below cmpRow (LL.take i) ss := ⟨_, rfl⟩
  have F0 : f 0 = 0 := by rw [ef]; rfl
  have FL := Lib.hid (show ∀ i, f i ≤ i from fun i => by rw [ef]; exact Nat.le_trans (below_le _ _) (by simp; omega))
  have FS := Lib.hid (show ∀ i y, LL[i]? = some y → f (i + 1) = f i + (if cmpRow y ss < 0 then 1 else 0) from fun i y h => by rw [ef]; exact below_step' cmpRow LL ss y i h)
  have FN := Lib.hid (show f N = below cmpRow LL ss by rw [ef]; show below cmpRow (LL.take N) ss = _; rw [List.take_of_length_le (by have := EN.out; omega)])
  clear ef
  go_enter Try.func66, Try.ntmps66
  go_wp2
  go_loopw [5, 6] (CountR N f w) (fun _ k _ => N - (intOf k).toNat)
  case atStart => exact ⟨0, Nat.zero_le _, by rw [F0]; rfl, rfl, Kp.refl _⟩
  case round =>
    obtain ⟨i, hi, rfl, rfl, hex⟩ := hrel
    have d2 := hex.cell c2 id
    by_cases hlt : i < N
    · obtain ⟨y, hy⟩ : ∃ y, LL[i]? = some y := ⟨_, List.getElem?_eq_getElem (by have := EN.out; omega)⟩
      obtain ⟨g, o, x, xcap, eao, c3, hcy, hly, _⟩ := (HC.out.ext hex).get hy
      subst eao
      have hs := FS.out i y hy
      have hbi := FL.out i
      have HCM := Lib.hid (fun W (hW : Ext wr W) => refCompare_any y ss x xo xcap xc W (hcy.ext hW) ((HX.out.ext hex).ext hW) (by unfold maxLen; omega) (by unfold maxLen; omega))
      generalize hcc : cmpRow y ss = cc at HCM hs
      have HS := Lib.hid hs
      have i1 : (i : Int) < (N : Int) := by omega
      have i2 : (0 : Int) ≤ (i : Int) := by omega
      clear hcc hcy hs hy
      by_cases hz : cc < 0
      · have t1 : decide (cc < 0) = true := by simp [hz]
        go_wp2_with fail
        refine (HCM.out _ (Kp.refl _)).mono ?_
        rintro e w1 ⟨rfl, k1, rfl⟩
        clear d2 c3
        go_wp2
        go_roundw
        case rel => exact ⟨i + 1, by omega, by rw [HS.out, if_pos hz]; go_num, by first | rfl | (congr 1; done) | (congr 1; omega), hex.drewN k1⟩
        case measure => simp [intOf]; omega
      · have t1 : decide (cc < 0) = false := by simp; omega
        go_wp2_with fail
        refine (HCM.out _ (Kp.refl _)).mono ?_
        rintro e w1 ⟨rfl, k1, rfl⟩
        clear d2 c3
        go_wp2
        go_roundw
        case rel => exact ⟨i + 1, by omega, by rw [HS.out, if_neg (by omega)]; rfl, by first | rfl | (congr 1; done) | (congr 1; omega), hex.drewN k1⟩
        case measure => simp [intOf]; omega
    · obtain rfl : i = N := by omega
      go_wp2
      go_ret
      exact RetN.mk hex (by rw [← FN.out]; rfl)
end
end Go.Proofs.Ytfkhelihepbehaa

/- sibylref03.Rows: All, Copy, Same. -/
namespace Go.Proofs.Ytfkhelihepbehaa
open Go.RowKit
set_option linter.unusedVariables false

/-- Between two rounds of a loop that gathers rows. -/
def GathR (n : Nat) (LL : Nat → List (List ByteArray)) (w0 : World) (lv kv : Value) (w : World) : Prop := ∃ i : Nat, i ≤ n ∧ kv = .int .i64 i ∧ Ext w0 w ∧ OwnRows w0.heap.size w lv (LL i)
/-- What may be added to a pool: what came since. -/
def Grows (w : World) (S S' : Nat → Prop) : Prop := (∀ k, S k → S' k) ∧ ∀ k, S' k → S k ∨ w.heap.size ≤ k
theorem Grows.refl (w : World) (S : Nat → Prop) : Grows w S S := ⟨fun _ h => h, fun _ h => .inl h⟩
theorem Grows.trans {w w' : World} {S S' S'' : Nat → Prop} (h : Grows w S S') (h' : Grows w' S' S'') (hs : w.heap.size ≤ w'.heap.size) : Grows w S S'' :=
  ⟨fun k hk => h'.1 k (h.1 k hk), fun k hk => (h'.2 k hk).elim (fun h2 => h.2 k h2) (fun h2 => .inr (Nat.le_trans hs h2))⟩

section
variable {S S' : Nat → Prop} {w w' : World} {c n c1 c2 n1 n2 : Nat} {LL L1 L2 : List (List ByteArray)} {v : Value} {lo : Nat}
/-- Own rows, one more behind them: the walk's law of 'append(l, row)'. -/
theorem OwnRows.wp {W w1 : World} {x : RowZ} {ss : List ByteArray} {ops : Array Oper} {rest : List Oper} {o : Oper} {a : Act} {Q : Exit → Act → World → Prop} (h : OwnRows lo W v LL) (hk : Ext W w1) (hlo : lo ≤ W.heap.size)
    (hx : Row w1 9 1 (.slice x.1 x.2.1 x.2.2) ss.length (strs ss) (New W)) (hss : ss.length ≤ 8796093021952) (hll : LL.length ≤ 1048576 * 1048576) (hgd : o.guard = none) (s y : Operand)
    (ho : o.op = .call { callee := .builtin .append, args := #[s, y], argTypes := #[64, 64] }) (hs : a.eval s = v) (hy : a.eval y = .slice (some ⟨w1.heap.size, 0, none⟩) 1 1)
    (H : ∀ v' w', (∃ ao cap, v' = .slice ao (LL.length + 1) cap) → OwnRows lo w' v' (LL ++ [ss]) → Kp (fun g => v.ownBlock = some g) (w1.alloc (.cells #[.slice x.1 x.2.1 x.2.2] 22)) w' → wpList Try.prog ops Q rest (a.put o.dst v') w') :
    wpList Try.prog ops Q (o :: rest) a (w1.alloc (.cells #[.slice x.1 x.2.1 x.2.2] 22)) := by
  obtain ⟨ps, rfl, r2, r3, r4⟩ := h
  have hex : Ext W (w1.alloc (.cells #[.slice x.1 x.2.1 x.2.2] 22)) := hk.alloc _
  have r2' := r2.ext hex
  rw [List.length_map] at hll
  refine wp_app elemRow hgd s y ho (Kp.refl (F := fun g => v.ownBlock = some g) _) (M := fun g => v.ownBlock = some g ∨ (w1.alloc (.cells #[.slice x.1 x.2.1 x.2.2] 22)).heap.size ≤ g) (fun g h h' => by rcases h with h | h; exact h; omega) (fun g h => .inr h) hs
    (Row.mono r2'.own fun g h => .inl h) hy (m := 1) (news := [.slice x.1 x.2.1 x.2.2]) rfl (CellsAt.one w1 _ _) (by simp; rfl) (by omega) (by unfold maxLen; omega) ?_
  intro v' w' hr' hk' _ _
  obtain ⟨ao, cap, e, _⟩ := hr'.shape
  refine H v' w' ⟨ao, cap, by rw [e]; simp⟩ ?_ hk'
  exact OwnRows.push r2' (fun p hp => ⟨(r3 p hp).1.ext hex, (r3 p hp).2⟩) r4 (B := W.heap.size) (fun p hp g hg => (r3 p hp).1.lt g hg) hlo (hx.alloc _) hss
    (Row.mono hr' fun g hg => by rcases hg with hg | hg; exact r2.block g hg; exact Nat.le_trans hlo (Nat.le_trans hex.size hg)) hk'

set_option maxRecDepth 100000 in
theorem refAll_nil (w : World) : Calls Try.prog 67 #[.pointer none] w (Ret (.slice none 0 0) w) := by
  go_enter Try.func67, Try.ntmps67
  go_wp2
  go_ret
  exact Ret.mk rfl
set_option maxRecDepth 100000 in
set_option maxHeartbeats 1000000 in
theorem refAll_any (h : RefRows S w c n LL) : Calls Try.prog 67 #[.pointer (some ⟨c, 0, none⟩)] w (RetN w fun w' v => OwnRows w.heap.size w' v LL) := by
  have hl := h.len
  obtain ⟨ao, cap, h1, h2, _⟩ := h
  have c2 : w.cell? ⟨c, 1, none⟩ = some (.slice ao LL.length cap) := by rw [h1.cell']; rfl
  obtain ⟨N, en⟩ : ∃ n, n = LL.length := ⟨_, rfl⟩
  rw [← en] at c2 hl
  have HC := Lib.hid h2; have EN := Lib.hid en; clear h1 h2 en
  go_enter Try.func67, Try.ntmps67
  go_wp2
  go_loopw [3, 4] (GathR N (fun i => LL.take i) w) (fun _ k _ => N - (intOf k).toNat)
  case atStart => exact ⟨0, Nat.zero_le _, rfl, Kp.refl _, OwnRows.nil _ _⟩
  case round =>
    obtain ⟨i, hi, rfl, hex, hown⟩ := hrel
    have d2 := hex.cell c2 id
    by_cases hlt : i < N
    · obtain ⟨y, hy⟩ : ∃ y, LL[i]? = some y := ⟨_, List.getElem?_eq_getElem (by have := EN.out; omega)⟩
      obtain ⟨g, o, x, xcap, eao, c3, hcy, hly, _⟩ := (HC.out.ext hex).get hy
      subst eao
      have et : LL.take (i + 1) = LL.take i ++ [y] := by rw [List.take_add_one, hy]; rfl
      have htl : (LL.take i).length = i := by rw [List.length_take, ← EN.out]; omega
      have hz := hex.size
      have i1 : (i : Int) < (N : Int) := by omega
      have i2 : (0 : Int) ≤ (i : Int) := by omega
      have HCP := Lib.hid (copied_any y x y.length xcap wr rfl hcy hly)
      have hown : OwnRows w.heap.size wr u3 (LL.take i) := hown
      obtain ⟨aov, capv, ev, _⟩ := hown.shape
      rw [htl] at ev
      subst ev
      have HR := Lib.hid hown
      have ET := Lib.hid et
      clear hcy hy et hown
      go_wp2_with fail
      refine HCP.out.mono ?_
      rintro e w1 ⟨v1, rfl, hk1, hr1⟩
      obtain ⟨ao1, cap1, ev, _, _⟩ := hr1.shape
      subst ev
      clear d2 c3
      go_wp2_with (first | (at_builtin; refine Halted.out ?_))
      refine Halted.mk (OwnRows.wp (x := (ao1, y.length, cap1)) HR.out hk1 hz hr1 hly (by omega) rfl _ _ rfl rfl rfl ?_)
      rintro v' w2 ⟨ao2, cap2, rfl⟩ hown2 hk2
      have HO := Lib.hid (And.intro hown2 hk2)
      have HB := Lib.hid (fun g hg => (HR.out.lt g hg).1)
      clear hown2 hk2
      go_wp2
      go_roundw
      case rel => exact ⟨i + 1, by omega, by first | rfl | (congr 1; done) | (congr 1; omega), (hex.trans (hk1.alloc _)).trans' HO.out.2 (fun k hk h => by have := HB.out k h; omega), by have h := HO.out.1; rw [htl] at h; show OwnRows _ _ _ (LL.take (i + 1)); rw [ET.out]; exact h⟩
      case measure => simp [intOf]; omega
    · obtain rfl : i = N := by omega
      have hown : OwnRows w.heap.size wr u3 (LL.take i) := hown
      rw [List.take_of_length_le (by have := EN.out; omega)] at hown
      obtain ⟨aov, capv, ev, _⟩ := hown.shape
      subst ev
      have HR := Lib.hid hown; clear hown
      go_wp2
      go_ret
      exact RetN.mk hex HR.out

theorem OwnRows.form (h : OwnRows lo w v LL) : ∃ ao cap, v = .slice ao LL.length cap ∧ RowsIn (fun g => lo ≤ g ∧ g < w.heap.size) w ao LL ∧ (LL.length ≤ cap ∧ cap ≤ maxLen ∧ (ao = none ∧ cap = 0 ∨ ∃ g, ao = some ⟨g, 0, none⟩)) := by
  obtain ⟨ao, cap, e, h1⟩ := h.shape
  obtain ⟨ps, rfl, h2, _⟩ := h
  refine ⟨ao, cap, e, h1, ?_⟩
  subst e
  obtain ⟨_, ⟨e, h3⟩ | ⟨g, cap', rest, e, _, _, _, h4, h5⟩⟩ := h2
  · simp only [Value.slice.injEq] at e
    obtain ⟨rfl, _, rfl⟩ := e
    exact ⟨by simp; exact List.eq_nil_of_length_eq_zero h3, by decide, .inl ⟨rfl, rfl⟩⟩
  · simp only [Value.slice.injEq] at e
    obtain ⟨rfl, _, rfl⟩ := e
    exact ⟨by simpa using h4, h5, .inr ⟨_, rfl⟩⟩
theorem RefRows.boxed (hS : ∀ k, S k → k < w.heap.size) (h : OwnRows lo w v LL) (hl : LL.length ≤ 1048576 * 1048576) (n : Nat) :
    RefRows (fun k => S k ∨ (lo ≤ k ∧ k < w.heap.size)) (w.alloc (.cells #[.int .i64 n, v] 70)) w.heap.size n LL := by
  obtain ⟨ao, cap, rfl, h1, h2⟩ := h.form
  refine ⟨ao, cap, Blk.new w [_, _] _, (h1.mono fun k h => .inr h).ext ((Kp.refl w).alloc _), h2, fun h => ?_, fun k h => ?_, hl⟩
  · rcases h with h | h
    · have := hS _ h; omega
    · omega
  · rw [alloc_size]
    rcases h with h | h
    · have := hS _ h; omega
    · omega
theorem refCopy_nil (w : World) : Calls Try.prog 74 #[.pointer none] w (Ret (.pointer none) w) := by
  go_enter Try.func74, Try.ntmps74
  go_wp2
  go_ret
  exact Ret.mk rfl
/-- New Rows of the document's. -/
def RefNew (S : Nat → Prop) (w : World) (n : Nat) (LL : List (List ByteArray)) (w' : World) (v : Value) : Prop :=
  ∃ c' S', v = .pointer (some ⟨c', 0, none⟩) ∧ w.heap.size ≤ c' ∧ Grows w S S' ∧ RefRows S' w' c' n LL
set_option maxRecDepth 100000 in
theorem refCopy_any (h : RefRows S w c n LL) : Calls Try.prog 74 #[.pointer (some ⟨c, 0, none⟩)] w (RetN w (RefNew S w n LL)) := by
  have hl := h.len
  have HS := Lib.hid h.inS
  have HA := Lib.hid (refAll_any (h.ext (Kp.refl w).drew))
  have c1 : w.cell? ⟨c, 0, none⟩ = some (.int .i64 n) := by obtain ⟨ao, cap, h1, _⟩ := h; rw [h1.cell']; rfl
  clear h
  go_enter Try.func74, Try.ntmps74
  go_wp2_with fail
  go_region_with (first | (go_at_call 67; refine HA.out.mono ?_; rintro e w1 ⟨v1, rfl, hk1, hown⟩; have d1 := hk1.cell (w := w.drew) c1 id; have HO := Lib.hid (And.intro hk1 hown); obtain ⟨ao1, n1, cap1, ev, _⟩ : ∃ ao n cap, v1 = .slice ao n cap ∧ True := (by obtain ⟨ao, cap, e, _⟩ := hown.shape; exact ⟨_, _, _, e, trivial⟩); subst ev; clear hk1 hown))
  all_goals
    go_wp2
    go_ret
    obtain ⟨hk1, hown⟩ := HO.out
    have hz : w.heap.size ≤ w1.heap.size := hk1.size
    refine RetN.mk (((Kp.refl w).drew.trans hk1).alloc _) ⟨_, _, rfl, hz, ⟨fun k h => .inl h, fun k h => h.imp id fun h => h.1⟩, RefRows.boxed (S := S) (fun k h => Nat.lt_of_lt_of_le (HS.out k h) hz) (lo := w.heap.size) hown hl n⟩

set_option maxRecDepth 100000 in
theorem refSame_nil1 (v : Value) (w : World) : Calls Try.prog 83 #[.pointer none, v] w (RetD (.bool false) w) := by
  go_enter Try.func83, Try.ntmps83
  go_wp2
  refine wp_region_held_drew (S := fun _ => True) (by kernel_rfl) trivial (fun hHeld => ?_)
  (refine take_in (i := 0) (v := ?_) rfl ?_ ?_; rotate_left; (intro w hSw; (try dsimp only at hSw); go_simp; try with_reducible rfl)); (try simp only [Act.put, List.setIfInBounds_toArray, List.set_cons_zero, List.set_cons_succ])
  (refine take_in (i := 1) (v := ?_) rfl ?_ ?_; rotate_left; (intro w hSw; (try dsimp only at hSw); go_simp; try with_reducible rfl)); (try simp only [Act.put, List.setIfInBounds_toArray, List.set_cons_zero, List.set_cons_succ])
  (refine take_in (i := 2) (v := ?_) rfl ?_ ?_; rotate_left; (intro w hSw; (try dsimp only at hSw); go_simp; try with_reducible rfl)); (try simp only [Act.put, List.setIfInBounds_toArray, List.set_cons_zero, List.set_cons_succ])
  (first | (refine take_in (i := 3) (v := ?_) rfl ?_ ?_; rotate_left; (intro w hSw; (try dsimp only at hSw); go_simp; try with_reducible rfl)) | (refine take_out (i := 3) rfl ?_)); (try simp only [Act.put, List.setIfInBounds_toArray, List.set_cons_zero, List.set_cons_succ])
  (first | (refine take_in (i := 4) (v := ?_) rfl ?_ ?_; rotate_left; (intro w hSw; (try dsimp only at hSw); go_simp; try with_reducible rfl)) | (refine take_out (i := 4) rfl ?_)); (try simp only [Act.put, List.setIfInBounds_toArray, List.set_cons_zero, List.set_cons_succ])
  (refine take_in (i := 5) (v := ?_) rfl ?_ ?_; rotate_left; (intro w hSw; (try dsimp only at hSw); go_simp; try with_reducible rfl)); (try simp only [Act.put, List.setIfInBounds_toArray, List.set_cons_zero, List.set_cons_succ])
  (refine take_in (i := 6) (v := ?_) rfl ?_ ?_; rotate_left; (intro w hSw; (try dsimp only at hSw); go_simp; try with_reducible rfl)); (try simp only [Act.put, List.setIfInBounds_toArray, List.set_cons_zero, List.set_cons_succ])
  (first | (refine take_in (i := 7) (v := ?_) rfl ?_ ?_; rotate_left; (intro w hSw; (try dsimp only at hSw); go_simp; try with_reducible rfl)) | (refine take_out (i := 7) rfl ?_)); (try simp only [Act.put, List.setIfInBounds_toArray, List.set_cons_zero, List.set_cons_succ])
  (first | (refine take_in (i := 8) (v := ?_) rfl ?_ ?_; rotate_left; (intro w hSw; (try dsimp only at hSw); go_simp; try with_reducible rfl)) | (refine take_out (i := 8) rfl ?_)); (try simp only [Act.put, List.setIfInBounds_toArray, List.set_cons_zero, List.set_cons_succ])
  (first | (refine take_in (i := 9) (v := ?_) rfl ?_ ?_; rotate_left; (intro w hSw; (try dsimp only at hSw); go_simp; try with_reducible rfl)) | (refine take_out (i := 9) rfl ?_)); (try simp only [Act.put, List.setIfInBounds_toArray, List.set_cons_zero, List.set_cons_succ])
  (first | (refine take_in (i := 10) (v := ?_) rfl ?_ ?_; rotate_left; (intro w hSw; (try dsimp only at hSw); go_simp; try with_reducible rfl)) | (refine take_out (i := 10) rfl ?_)); (try simp only [Act.put, List.setIfInBounds_toArray, List.set_cons_zero, List.set_cons_succ])
  (first | (refine take_in (i := 11) (v := ?_) rfl ?_ ?_; rotate_left; (intro w hSw; (try dsimp only at hSw); go_simp; try with_reducible rfl)) | (refine take_out (i := 11) rfl ?_)); (try simp only [Act.put, List.setIfInBounds_toArray, List.set_cons_zero, List.set_cons_succ])
  (first | (refine take_in (i := 12) (v := ?_) rfl ?_ ?_; rotate_left; (intro w hSw; (try dsimp only at hSw); go_simp; try with_reducible rfl)) | (refine take_out (i := 12) rfl ?_)); (try simp only [Act.put, List.setIfInBounds_toArray, List.set_cons_zero, List.set_cons_succ])
  (first | (refine take_in (i := 13) (v := ?_) rfl ?_ ?_; rotate_left; (intro w hSw; (try dsimp only at hSw); go_simp; try with_reducible rfl)) | (refine take_out (i := 13) rfl ?_)); (try simp only [Act.put, List.setIfInBounds_toArray, List.set_cons_zero, List.set_cons_succ])
  (first | (refine take_in (i := 14) (v := ?_) rfl ?_ ?_; rotate_left; (intro w hSw; (try dsimp only at hSw); go_simp; try with_reducible rfl)) | (refine take_out (i := 14) rfl ?_)); (try simp only [Act.put, List.setIfInBounds_toArray, List.set_cons_zero, List.set_cons_succ])
  (first | (refine take_in (i := 15) (v := ?_) rfl ?_ ?_; rotate_left; (intro w hSw; (try dsimp only at hSw); go_simp; try with_reducible rfl)) | (refine take_out (i := 15) rfl ?_)); (try simp only [Act.put, List.setIfInBounds_toArray, List.set_cons_zero, List.set_cons_succ])
  (refine take_in (i := 16) (v := ?_) rfl ?_ ?_; rotate_left; (intro w hSw; (try dsimp only at hSw); go_simp; try with_reducible rfl)); (try simp only [Act.put, List.setIfInBounds_toArray, List.set_cons_zero, List.set_cons_succ])
  (refine take_in (i := 17) (v := ?_) rfl ?_ ?_; rotate_left; (intro w hSw; (try dsimp only at hSw); go_simp; try with_reducible rfl)); (try simp only [Act.put, List.setIfInBounds_toArray, List.set_cons_zero, List.set_cons_succ])
  (first | (refine take_in (i := 18) (v := ?_) rfl ?_ ?_; rotate_left; (intro w hSw; (try dsimp only at hSw); go_simp; try with_reducible rfl)) | (refine take_out (i := 18) rfl ?_)); (try simp only [Act.put, List.setIfInBounds_toArray, List.set_cons_zero, List.set_cons_succ])
  (first | (refine take_in (i := 19) (v := ?_) rfl ?_ ?_; rotate_left; (intro w hSw; (try dsimp only at hSw); go_simp; try with_reducible rfl)) | (refine take_out (i := 19) rfl ?_)); (try simp only [Act.put, List.setIfInBounds_toArray, List.set_cons_zero, List.set_cons_succ])
  (first | (refine take_in (i := 20) (v := ?_) rfl ?_ ?_; rotate_left; (intro w hSw; (try dsimp only at hSw); go_simp; try with_reducible rfl)) | (refine take_out (i := 20) rfl ?_)); (try simp only [Act.put, List.setIfInBounds_toArray, List.set_cons_zero, List.set_cons_succ])
  (first | (refine take_in (i := 21) (v := ?_) rfl ?_ ?_; rotate_left; (intro w hSw; (try dsimp only at hSw); go_simp; try with_reducible rfl)) | (refine take_out (i := 21) rfl ?_)); (try simp only [Act.put, List.setIfInBounds_toArray, List.set_cons_zero, List.set_cons_succ])
  (first | (refine take_in (i := 22) (v := ?_) rfl ?_ ?_; rotate_left; (intro w hSw; (try dsimp only at hSw); go_simp; try with_reducible rfl)) | (refine take_out (i := 22) rfl ?_)); (try simp only [Act.put, List.setIfInBounds_toArray, List.set_cons_zero, List.set_cons_succ])
  (first | (refine take_in (i := 23) (v := ?_) rfl ?_ ?_; rotate_left; (intro w hSw; (try dsimp only at hSw); go_simp; try with_reducible rfl)) | (refine take_out (i := 23) rfl ?_)); (try simp only [Act.put, List.setIfInBounds_toArray, List.set_cons_zero, List.set_cons_succ])
  (first | (refine take_in (i := 24) (v := ?_) rfl ?_ ?_; rotate_left; (intro w hSw; (try dsimp only at hSw); go_simp; try with_reducible rfl)) | (refine take_out (i := 24) rfl ?_)); (try simp only [Act.put, List.setIfInBounds_toArray, List.set_cons_zero, List.set_cons_succ])
  (first | (refine take_in (i := 25) (v := ?_) rfl ?_ ?_; rotate_left; (intro w hSw; (try dsimp only at hSw); go_simp; try with_reducible rfl)) | (refine take_out (i := 25) rfl ?_)); (try simp only [Act.put, List.setIfInBounds_toArray, List.set_cons_zero, List.set_cons_succ])
  (first | (refine take_in (i := 26) (v := ?_) rfl ?_ ?_; rotate_left; (intro w hSw; (try dsimp only at hSw); go_simp; try with_reducible rfl)) | (refine take_out (i := 26) rfl ?_)); (try simp only [Act.put, List.setIfInBounds_toArray, List.set_cons_zero, List.set_cons_succ])
  (first | (refine take_in (i := 27) (v := ?_) rfl ?_ ?_; rotate_left; (intro w hSw; (try dsimp only at hSw); go_simp; try with_reducible rfl)) | (refine take_out (i := 27) rfl ?_)); (try simp only [Act.put, List.setIfInBounds_toArray, List.set_cons_zero, List.set_cons_succ])
  (first | (refine take_in (i := 28) (v := ?_) rfl ?_ ?_; rotate_left; (intro w hSw; (try dsimp only at hSw); go_simp; try with_reducible rfl)) | (refine take_out (i := 28) rfl ?_)); (try simp only [Act.put, List.setIfInBounds_toArray, List.set_cons_zero, List.set_cons_succ])
  (refine take_in (i := 29) (v := ?_) rfl ?_ ?_; rotate_left; (intro w hSw; (try dsimp only at hSw); go_simp; try with_reducible rfl)); (try simp only [Act.put, List.setIfInBounds_toArray, List.set_cons_zero, List.set_cons_succ])
  refine wpAnyH_done (by kernel_rfl) ?_ _
  go_wp2
  go_ret
  exact RetD.mk rfl 1
set_option maxRecDepth 100000 in
theorem refSame_nil2 (a : Addr) (w : World) : Calls Try.prog 83 #[.pointer (some a), .pointer none] w (RetD (.bool false) w) := by
  go_enter Try.func83, Try.ntmps83
  go_wp2
  refine wp_region_held_drew (S := fun _ => True) (by kernel_rfl) trivial (fun hHeld => ?_)
  (refine take_in (i := 0) (v := ?_) rfl ?_ ?_; rotate_left; (intro w hSw; (try dsimp only at hSw); go_simp; try with_reducible rfl)); (try simp only [Act.put, List.setIfInBounds_toArray, List.set_cons_zero, List.set_cons_succ])
  (refine take_in (i := 1) (v := ?_) rfl ?_ ?_; rotate_left; (intro w hSw; (try dsimp only at hSw); go_simp; try with_reducible rfl)); (try simp only [Act.put, List.setIfInBounds_toArray, List.set_cons_zero, List.set_cons_succ])
  (refine take_in (i := 2) (v := ?_) rfl ?_ ?_; rotate_left; (intro w hSw; (try dsimp only at hSw); go_simp; try with_reducible rfl)); (try simp only [Act.put, List.setIfInBounds_toArray, List.set_cons_zero, List.set_cons_succ])
  (first | (refine take_in (i := 3) (v := ?_) rfl ?_ ?_; rotate_left; (intro w hSw; (try dsimp only at hSw); go_simp; try with_reducible rfl)) | (refine take_out (i := 3) rfl ?_)); (try simp only [Act.put, List.setIfInBounds_toArray, List.set_cons_zero, List.set_cons_succ])
  (first | (refine take_in (i := 4) (v := ?_) rfl ?_ ?_; rotate_left; (intro w hSw; (try dsimp only at hSw); go_simp; try with_reducible rfl)) | (refine take_out (i := 4) rfl ?_)); (try simp only [Act.put, List.setIfInBounds_toArray, List.set_cons_zero, List.set_cons_succ])
  (refine take_in (i := 5) (v := ?_) rfl ?_ ?_; rotate_left; (intro w hSw; (try dsimp only at hSw); go_simp; try with_reducible rfl)); (try simp only [Act.put, List.setIfInBounds_toArray, List.set_cons_zero, List.set_cons_succ])
  (refine take_in (i := 6) (v := ?_) rfl ?_ ?_; rotate_left; (intro w hSw; (try dsimp only at hSw); go_simp; try with_reducible rfl)); (try simp only [Act.put, List.setIfInBounds_toArray, List.set_cons_zero, List.set_cons_succ])
  (first | (refine take_in (i := 7) (v := ?_) rfl ?_ ?_; rotate_left; (intro w hSw; (try dsimp only at hSw); go_simp; try with_reducible rfl)) | (refine take_out (i := 7) rfl ?_)); (try simp only [Act.put, List.setIfInBounds_toArray, List.set_cons_zero, List.set_cons_succ])
  (first | (refine take_in (i := 8) (v := ?_) rfl ?_ ?_; rotate_left; (intro w hSw; (try dsimp only at hSw); go_simp; try with_reducible rfl)) | (refine take_out (i := 8) rfl ?_)); (try simp only [Act.put, List.setIfInBounds_toArray, List.set_cons_zero, List.set_cons_succ])
  (first | (refine take_in (i := 9) (v := ?_) rfl ?_ ?_; rotate_left; (intro w hSw; (try dsimp only at hSw); go_simp; try with_reducible rfl)) | (refine take_out (i := 9) rfl ?_)); (try simp only [Act.put, List.setIfInBounds_toArray, List.set_cons_zero, List.set_cons_succ])
  (first | (refine take_in (i := 10) (v := ?_) rfl ?_ ?_; rotate_left; (intro w hSw; (try dsimp only at hSw); go_simp; try with_reducible rfl)) | (refine take_out (i := 10) rfl ?_)); (try simp only [Act.put, List.setIfInBounds_toArray, List.set_cons_zero, List.set_cons_succ])
  (first | (refine take_in (i := 11) (v := ?_) rfl ?_ ?_; rotate_left; (intro w hSw; (try dsimp only at hSw); go_simp; try with_reducible rfl)) | (refine take_out (i := 11) rfl ?_)); (try simp only [Act.put, List.setIfInBounds_toArray, List.set_cons_zero, List.set_cons_succ])
  (first | (refine take_in (i := 12) (v := ?_) rfl ?_ ?_; rotate_left; (intro w hSw; (try dsimp only at hSw); go_simp; try with_reducible rfl)) | (refine take_out (i := 12) rfl ?_)); (try simp only [Act.put, List.setIfInBounds_toArray, List.set_cons_zero, List.set_cons_succ])
  (first | (refine take_in (i := 13) (v := ?_) rfl ?_ ?_; rotate_left; (intro w hSw; (try dsimp only at hSw); go_simp; try with_reducible rfl)) | (refine take_out (i := 13) rfl ?_)); (try simp only [Act.put, List.setIfInBounds_toArray, List.set_cons_zero, List.set_cons_succ])
  (first | (refine take_in (i := 14) (v := ?_) rfl ?_ ?_; rotate_left; (intro w hSw; (try dsimp only at hSw); go_simp; try with_reducible rfl)) | (refine take_out (i := 14) rfl ?_)); (try simp only [Act.put, List.setIfInBounds_toArray, List.set_cons_zero, List.set_cons_succ])
  (first | (refine take_in (i := 15) (v := ?_) rfl ?_ ?_; rotate_left; (intro w hSw; (try dsimp only at hSw); go_simp; try with_reducible rfl)) | (refine take_out (i := 15) rfl ?_)); (try simp only [Act.put, List.setIfInBounds_toArray, List.set_cons_zero, List.set_cons_succ])
  (refine take_in (i := 16) (v := ?_) rfl ?_ ?_; rotate_left; (intro w hSw; (try dsimp only at hSw); go_simp; try with_reducible rfl)); (try simp only [Act.put, List.setIfInBounds_toArray, List.set_cons_zero, List.set_cons_succ])
  (refine take_in (i := 17) (v := ?_) rfl ?_ ?_; rotate_left; (intro w hSw; (try dsimp only at hSw); go_simp; try with_reducible rfl)); (try simp only [Act.put, List.setIfInBounds_toArray, List.set_cons_zero, List.set_cons_succ])
  (first | (refine take_in (i := 18) (v := ?_) rfl ?_ ?_; rotate_left; (intro w hSw; (try dsimp only at hSw); go_simp; try with_reducible rfl)) | (refine take_out (i := 18) rfl ?_)); (try simp only [Act.put, List.setIfInBounds_toArray, List.set_cons_zero, List.set_cons_succ])
  (first | (refine take_in (i := 19) (v := ?_) rfl ?_ ?_; rotate_left; (intro w hSw; (try dsimp only at hSw); go_simp; try with_reducible rfl)) | (refine take_out (i := 19) rfl ?_)); (try simp only [Act.put, List.setIfInBounds_toArray, List.set_cons_zero, List.set_cons_succ])
  (first | (refine take_in (i := 20) (v := ?_) rfl ?_ ?_; rotate_left; (intro w hSw; (try dsimp only at hSw); go_simp; try with_reducible rfl)) | (refine take_out (i := 20) rfl ?_)); (try simp only [Act.put, List.setIfInBounds_toArray, List.set_cons_zero, List.set_cons_succ])
  (first | (refine take_in (i := 21) (v := ?_) rfl ?_ ?_; rotate_left; (intro w hSw; (try dsimp only at hSw); go_simp; try with_reducible rfl)) | (refine take_out (i := 21) rfl ?_)); (try simp only [Act.put, List.setIfInBounds_toArray, List.set_cons_zero, List.set_cons_succ])
  (first | (refine take_in (i := 22) (v := ?_) rfl ?_ ?_; rotate_left; (intro w hSw; (try dsimp only at hSw); go_simp; try with_reducible rfl)) | (refine take_out (i := 22) rfl ?_)); (try simp only [Act.put, List.setIfInBounds_toArray, List.set_cons_zero, List.set_cons_succ])
  (first | (refine take_in (i := 23) (v := ?_) rfl ?_ ?_; rotate_left; (intro w hSw; (try dsimp only at hSw); go_simp; try with_reducible rfl)) | (refine take_out (i := 23) rfl ?_)); (try simp only [Act.put, List.setIfInBounds_toArray, List.set_cons_zero, List.set_cons_succ])
  (first | (refine take_in (i := 24) (v := ?_) rfl ?_ ?_; rotate_left; (intro w hSw; (try dsimp only at hSw); go_simp; try with_reducible rfl)) | (refine take_out (i := 24) rfl ?_)); (try simp only [Act.put, List.setIfInBounds_toArray, List.set_cons_zero, List.set_cons_succ])
  (first | (refine take_in (i := 25) (v := ?_) rfl ?_ ?_; rotate_left; (intro w hSw; (try dsimp only at hSw); go_simp; try with_reducible rfl)) | (refine take_out (i := 25) rfl ?_)); (try simp only [Act.put, List.setIfInBounds_toArray, List.set_cons_zero, List.set_cons_succ])
  (first | (refine take_in (i := 26) (v := ?_) rfl ?_ ?_; rotate_left; (intro w hSw; (try dsimp only at hSw); go_simp; try with_reducible rfl)) | (refine take_out (i := 26) rfl ?_)); (try simp only [Act.put, List.setIfInBounds_toArray, List.set_cons_zero, List.set_cons_succ])
  (first | (refine take_in (i := 27) (v := ?_) rfl ?_ ?_; rotate_left; (intro w hSw; (try dsimp only at hSw); go_simp; try with_reducible rfl)) | (refine take_out (i := 27) rfl ?_)); (try simp only [Act.put, List.setIfInBounds_toArray, List.set_cons_zero, List.set_cons_succ])
  (first | (refine take_in (i := 28) (v := ?_) rfl ?_ ?_; rotate_left; (intro w hSw; (try dsimp only at hSw); go_simp; try with_reducible rfl)) | (refine take_out (i := 28) rfl ?_)); (try simp only [Act.put, List.setIfInBounds_toArray, List.set_cons_zero, List.set_cons_succ])
  (refine take_in (i := 29) (v := ?_) rfl ?_ ?_; rotate_left; (intro w hSw; (try dsimp only at hSw); go_simp; try with_reducible rfl)); (try simp only [Act.put, List.setIfInBounds_toArray, List.set_cons_zero, List.set_cons_succ])
  refine wpAnyH_done (by kernel_rfl) ?_ _
  go_wp2
  go_ret
  exact RetD.mk rfl 1
set_option maxRecDepth 100000 in
theorem refSame_ne (h1 : RefRows S w c1 n1 L1) (h2 : RefRows S w c2 n2 L2) (hne : n1 ≠ n2 ∨ L1.length ≠ L2.length) :
    Calls Try.prog 83 #[.pointer (some ⟨c1, 0, none⟩), .pointer (some ⟨c2, 0, none⟩)] w (RetD (.bool false) w) := by
  obtain ⟨ao1, cap1, B1, _⟩ := h1
  obtain ⟨ao2, cap2, B2, _⟩ := h2
  have a1 : w.cell? ⟨c1, 0, none⟩ = some (.int .i64 n1) := by rw [B1.cell']; rfl
  have a2 : w.cell? ⟨c2, 0, none⟩ = some (.int .i64 n2) := by rw [B2.cell']; rfl
  have b1 : w.cell? ⟨c1, 1, none⟩ = some (.slice ao1 L1.length cap1) := by rw [B1.cell']; rfl
  have b2 : w.cell? ⟨c2, 1, none⟩ = some (.slice ao2 L2.length cap2) := by rw [B2.cell']; rfl
  clear B1 B2
  generalize L1.length = N1 at *
  generalize L2.length = N2 at *
  by_cases hn : n1 = n2
  · have hN : N1 ≠ N2 := by omega
    have t1 : ((n1 : Int) != (n2 : Int)) = false := by simp [hn]
    have t2 : ((N1 : Int) != (N2 : Int)) = true := by simp; omega
    go_enter Try.func83, Try.ntmps83
    go_wp2
    refine wp_region_held_drew (S := fun w' => w'.cell? ⟨c1, 0, none⟩ = some (.int .i64 n1) ∧ w'.cell? ⟨c2, 0, none⟩ = some (.int .i64 n2) ∧ w'.cell? ⟨c1, 1, none⟩ = some (.slice ao1 N1 cap1) ∧ w'.cell? ⟨c2, 1, none⟩ = some (.slice ao2 N2 cap2)) (by kernel_rfl) ⟨by assumption, by assumption, by assumption, by assumption⟩ (fun hHeld => ?_)
    (refine take_in (i := 0) (v := ?_) rfl ?_ ?_; rotate_left; (intro w hSw; (try dsimp only at hSw); go_simp; try with_reducible rfl)); (try simp only [Act.put, List.setIfInBounds_toArray, List.set_cons_zero, List.set_cons_succ])
    (refine take_in (i := 1) (v := ?_) rfl ?_ ?_; rotate_left; (intro w hSw; (try dsimp only at hSw); go_simp; try with_reducible rfl)); (try simp only [Act.put, List.setIfInBounds_toArray, List.set_cons_zero, List.set_cons_succ])
    (refine take_in (i := 2) (v := ?_) rfl ?_ ?_; rotate_left; (intro w hSw; (try dsimp only at hSw); go_simp; try with_reducible rfl)); (try simp only [Act.put, List.setIfInBounds_toArray, List.set_cons_zero, List.set_cons_succ])
    (first | (refine take_in (i := 3) (v := ?_) rfl ?_ ?_; rotate_left; (intro w hSw; (try dsimp only at hSw); go_simp; try with_reducible rfl)) | (refine take_out (i := 3) rfl ?_)); (try simp only [Act.put, List.setIfInBounds_toArray, List.set_cons_zero, List.set_cons_succ])
    (first | (refine take_in (i := 4) (v := ?_) rfl ?_ ?_; rotate_left; (intro w hSw; (try dsimp only at hSw); go_simp; try with_reducible rfl)) | (refine take_out (i := 4) rfl ?_)); (try simp only [Act.put, List.setIfInBounds_toArray, List.set_cons_zero, List.set_cons_succ])
    (refine take_in (i := 5) (v := ?_) rfl ?_ ?_; rotate_left; (intro w hSw; (try dsimp only at hSw); go_simp; try with_reducible rfl)); (try simp only [Act.put, List.setIfInBounds_toArray, List.set_cons_zero, List.set_cons_succ])
    (refine take_in (i := 6) (v := ?_) rfl ?_ ?_; rotate_left; (intro w hSw; (try dsimp only at hSw); go_simp; try with_reducible rfl)); (try simp only [Act.put, List.setIfInBounds_toArray, List.set_cons_zero, List.set_cons_succ])
    (first | (refine take_in (i := 7) (v := ?_) rfl ?_ ?_; rotate_left; (intro w hSw; (try dsimp only at hSw); go_simp; try with_reducible rfl)) | (refine take_out (i := 7) rfl ?_)); (try simp only [Act.put, List.setIfInBounds_toArray, List.set_cons_zero, List.set_cons_succ])
    (first | (refine take_in (i := 8) (v := ?_) rfl ?_ ?_; rotate_left; (intro w hSw; (try dsimp only at hSw); go_simp; try with_reducible rfl)) | (refine take_out (i := 8) rfl ?_)); (try simp only [Act.put, List.setIfInBounds_toArray, List.set_cons_zero, List.set_cons_succ])
    (first | (refine take_in (i := 9) (v := ?_) rfl ?_ ?_; rotate_left; (intro w hSw; (try dsimp only at hSw); go_simp; try with_reducible rfl)) | (refine take_out (i := 9) rfl ?_)); (try simp only [Act.put, List.setIfInBounds_toArray, List.set_cons_zero, List.set_cons_succ])
    (first | (refine take_in (i := 10) (v := ?_) rfl ?_ ?_; rotate_left; (intro w hSw; (try dsimp only at hSw); go_simp; try with_reducible rfl)) | (refine take_out (i := 10) rfl ?_)); (try simp only [Act.put, List.setIfInBounds_toArray, List.set_cons_zero, List.set_cons_succ])
    (first | (refine take_in (i := 11) (v := ?_) rfl ?_ ?_; rotate_left; (intro w hSw; (try dsimp only at hSw); go_simp; try with_reducible rfl)) | (refine take_out (i := 11) rfl ?_)); (try simp only [Act.put, List.setIfInBounds_toArray, List.set_cons_zero, List.set_cons_succ])
    (first | (refine take_in (i := 12) (v := ?_) rfl ?_ ?_; rotate_left; (intro w hSw; (try dsimp only at hSw); go_simp; try with_reducible rfl)) | (refine take_out (i := 12) rfl ?_)); (try simp only [Act.put, List.setIfInBounds_toArray, List.set_cons_zero, List.set_cons_succ])
    (first | (refine take_in (i := 13) (v := ?_) rfl ?_ ?_; rotate_left; (intro w hSw; (try dsimp only at hSw); go_simp; try with_reducible rfl)) | (refine take_out (i := 13) rfl ?_)); (try simp only [Act.put, List.setIfInBounds_toArray, List.set_cons_zero, List.set_cons_succ])
    (first | (refine take_in (i := 14) (v := ?_) rfl ?_ ?_; rotate_left; (intro w hSw; (try dsimp only at hSw); go_simp; try with_reducible rfl)) | (refine take_out (i := 14) rfl ?_)); (try simp only [Act.put, List.setIfInBounds_toArray, List.set_cons_zero, List.set_cons_succ])
    (first | (refine take_in (i := 15) (v := ?_) rfl ?_ ?_; rotate_left; (intro w hSw; (try dsimp only at hSw); go_simp; try with_reducible rfl)) | (refine take_out (i := 15) rfl ?_)); (try simp only [Act.put, List.setIfInBounds_toArray, List.set_cons_zero, List.set_cons_succ])
    (refine take_in (i := 16) (v := ?_) rfl ?_ ?_; rotate_left; (intro w hSw; (try dsimp only at hSw); go_simp; try with_reducible rfl)); (try simp only [Act.put, List.setIfInBounds_toArray, List.set_cons_zero, List.set_cons_succ])
    (refine take_in (i := 17) (v := ?_) rfl ?_ ?_; rotate_left; (intro w hSw; (try dsimp only at hSw); go_simp; try with_reducible rfl)); (try simp only [Act.put, List.setIfInBounds_toArray, List.set_cons_zero, List.set_cons_succ])
    (first | (refine take_in (i := 18) (v := ?_) rfl ?_ ?_; rotate_left; (intro w hSw; (try dsimp only at hSw); go_simp; try with_reducible rfl)) | (refine take_out (i := 18) rfl ?_)); (try simp only [Act.put, List.setIfInBounds_toArray, List.set_cons_zero, List.set_cons_succ])
    (first | (refine take_in (i := 19) (v := ?_) rfl ?_ ?_; rotate_left; (intro w hSw; (try dsimp only at hSw); go_simp; try with_reducible rfl)) | (refine take_out (i := 19) rfl ?_)); (try simp only [Act.put, List.setIfInBounds_toArray, List.set_cons_zero, List.set_cons_succ])
    (first | (refine take_in (i := 20) (v := ?_) rfl ?_ ?_; rotate_left; (intro w hSw; (try dsimp only at hSw); go_simp; try with_reducible rfl)) | (refine take_out (i := 20) rfl ?_)); (try simp only [Act.put, List.setIfInBounds_toArray, List.set_cons_zero, List.set_cons_succ])
    (first | (refine take_in (i := 21) (v := ?_) rfl ?_ ?_; rotate_left; (intro w hSw; (try dsimp only at hSw); go_simp; try with_reducible rfl)) | (refine take_out (i := 21) rfl ?_)); (try simp only [Act.put, List.setIfInBounds_toArray, List.set_cons_zero, List.set_cons_succ])
    (first | (refine take_in (i := 22) (v := ?_) rfl ?_ ?_; rotate_left; (intro w hSw; (try dsimp only at hSw); go_simp; try with_reducible rfl)) | (refine take_out (i := 22) rfl ?_)); (try simp only [Act.put, List.setIfInBounds_toArray, List.set_cons_zero, List.set_cons_succ])
    (first | (refine take_in (i := 23) (v := ?_) rfl ?_ ?_; rotate_left; (intro w hSw; (try dsimp only at hSw); go_simp; try with_reducible rfl)) | (refine take_out (i := 23) rfl ?_)); (try simp only [Act.put, List.setIfInBounds_toArray, List.set_cons_zero, List.set_cons_succ])
    (first | (refine take_in (i := 24) (v := ?_) rfl ?_ ?_; rotate_left; (intro w hSw; (try dsimp only at hSw); go_simp; try with_reducible rfl)) | (refine take_out (i := 24) rfl ?_)); (try simp only [Act.put, List.setIfInBounds_toArray, List.set_cons_zero, List.set_cons_succ])
    (first | (refine take_in (i := 25) (v := ?_) rfl ?_ ?_; rotate_left; (intro w hSw; (try dsimp only at hSw); go_simp; try with_reducible rfl)) | (refine take_out (i := 25) rfl ?_)); (try simp only [Act.put, List.setIfInBounds_toArray, List.set_cons_zero, List.set_cons_succ])
    (first | (refine take_in (i := 26) (v := ?_) rfl ?_ ?_; rotate_left; (intro w hSw; (try dsimp only at hSw); go_simp; try with_reducible rfl)) | (refine take_out (i := 26) rfl ?_)); (try simp only [Act.put, List.setIfInBounds_toArray, List.set_cons_zero, List.set_cons_succ])
    (first | (refine take_in (i := 27) (v := ?_) rfl ?_ ?_; rotate_left; (intro w hSw; (try dsimp only at hSw); go_simp; try with_reducible rfl)) | (refine take_out (i := 27) rfl ?_)); (try simp only [Act.put, List.setIfInBounds_toArray, List.set_cons_zero, List.set_cons_succ])
    (first | (refine take_in (i := 28) (v := ?_) rfl ?_ ?_; rotate_left; (intro w hSw; (try dsimp only at hSw); go_simp; try with_reducible rfl)) | (refine take_out (i := 28) rfl ?_)); (try simp only [Act.put, List.setIfInBounds_toArray, List.set_cons_zero, List.set_cons_succ])
    (refine take_in (i := 29) (v := ?_) rfl ?_ ?_; rotate_left; (intro w hSw; (try dsimp only at hSw); go_simp; try with_reducible rfl)); (try simp only [Act.put, List.setIfInBounds_toArray, List.set_cons_zero, List.set_cons_succ])
    refine wpAnyH_done (by kernel_rfl) ?_ _
    go_wp2
    go_ret
    exact RetD.mk rfl 1
  · have t1 : ((n1 : Int) != (n2 : Int)) = true := by simp; omega
    go_enter Try.func83, Try.ntmps83
    go_wp2
    refine wp_region_held_drew (S := fun w' => w'.cell? ⟨c1, 0, none⟩ = some (.int .i64 n1) ∧ w'.cell? ⟨c2, 0, none⟩ = some (.int .i64 n2) ∧ w'.cell? ⟨c1, 1, none⟩ = some (.slice ao1 N1 cap1) ∧ w'.cell? ⟨c2, 1, none⟩ = some (.slice ao2 N2 cap2)) (by kernel_rfl) ⟨by assumption, by assumption, by assumption, by assumption⟩ (fun hHeld => ?_)
    (refine take_in (i := 0) (v := ?_) rfl ?_ ?_; rotate_left; (intro w hSw; (try dsimp only at hSw); go_simp; try with_reducible rfl)); (try simp only [Act.put, List.setIfInBounds_toArray, List.set_cons_zero, List.set_cons_succ])
    (refine take_in (i := 1) (v := ?_) rfl ?_ ?_; rotate_left; (intro w hSw; (try dsimp only at hSw); go_simp; try with_reducible rfl)); (try simp only [Act.put, List.setIfInBounds_toArray, List.set_cons_zero, List.set_cons_succ])
    (refine take_in (i := 2) (v := ?_) rfl ?_ ?_; rotate_left; (intro w hSw; (try dsimp only at hSw); go_simp; try with_reducible rfl)); (try simp only [Act.put, List.setIfInBounds_toArray, List.set_cons_zero, List.set_cons_succ])
    (first | (refine take_in (i := 3) (v := ?_) rfl ?_ ?_; rotate_left; (intro w hSw; (try dsimp only at hSw); go_simp; try with_reducible rfl)) | (refine take_out (i := 3) rfl ?_)); (try simp only [Act.put, List.setIfInBounds_toArray, List.set_cons_zero, List.set_cons_succ])
    (first | (refine take_in (i := 4) (v := ?_) rfl ?_ ?_; rotate_left; (intro w hSw; (try dsimp only at hSw); go_simp; try with_reducible rfl)) | (refine take_out (i := 4) rfl ?_)); (try simp only [Act.put, List.setIfInBounds_toArray, List.set_cons_zero, List.set_cons_succ])
    (refine take_in (i := 5) (v := ?_) rfl ?_ ?_; rotate_left; (intro w hSw; (try dsimp only at hSw); go_simp; try with_reducible rfl)); (try simp only [Act.put, List.setIfInBounds_toArray, List.set_cons_zero, List.set_cons_succ])
    (refine take_in (i := 6) (v := ?_) rfl ?_ ?_; rotate_left; (intro w hSw; (try dsimp only at hSw); go_simp; try with_reducible rfl)); (try simp only [Act.put, List.setIfInBounds_toArray, List.set_cons_zero, List.set_cons_succ])
    (first | (refine take_in (i := 7) (v := ?_) rfl ?_ ?_; rotate_left; (intro w hSw; (try dsimp only at hSw); go_simp; try with_reducible rfl)) | (refine take_out (i := 7) rfl ?_)); (try simp only [Act.put, List.setIfInBounds_toArray, List.set_cons_zero, List.set_cons_succ])
    (first | (refine take_in (i := 8) (v := ?_) rfl ?_ ?_; rotate_left; (intro w hSw; (try dsimp only at hSw); go_simp; try with_reducible rfl)) | (refine take_out (i := 8) rfl ?_)); (try simp only [Act.put, List.setIfInBounds_toArray, List.set_cons_zero, List.set_cons_succ])
    (first | (refine take_in (i := 9) (v := ?_) rfl ?_ ?_; rotate_left; (intro w hSw; (try dsimp only at hSw); go_simp; try with_reducible rfl)) | (refine take_out (i := 9) rfl ?_)); (try simp only [Act.put, List.setIfInBounds_toArray, List.set_cons_zero, List.set_cons_succ])
    (first | (refine take_in (i := 10) (v := ?_) rfl ?_ ?_; rotate_left; (intro w hSw; (try dsimp only at hSw); go_simp; try with_reducible rfl)) | (refine take_out (i := 10) rfl ?_)); (try simp only [Act.put, List.setIfInBounds_toArray, List.set_cons_zero, List.set_cons_succ])
    (first | (refine take_in (i := 11) (v := ?_) rfl ?_ ?_; rotate_left; (intro w hSw; (try dsimp only at hSw); go_simp; try with_reducible rfl)) | (refine take_out (i := 11) rfl ?_)); (try simp only [Act.put, List.setIfInBounds_toArray, List.set_cons_zero, List.set_cons_succ])
    (first | (refine take_in (i := 12) (v := ?_) rfl ?_ ?_; rotate_left; (intro w hSw; (try dsimp only at hSw); go_simp; try with_reducible rfl)) | (refine take_out (i := 12) rfl ?_)); (try simp only [Act.put, List.setIfInBounds_toArray, List.set_cons_zero, List.set_cons_succ])
    (first | (refine take_in (i := 13) (v := ?_) rfl ?_ ?_; rotate_left; (intro w hSw; (try dsimp only at hSw); go_simp; try with_reducible rfl)) | (refine take_out (i := 13) rfl ?_)); (try simp only [Act.put, List.setIfInBounds_toArray, List.set_cons_zero, List.set_cons_succ])
    (first | (refine take_in (i := 14) (v := ?_) rfl ?_ ?_; rotate_left; (intro w hSw; (try dsimp only at hSw); go_simp; try with_reducible rfl)) | (refine take_out (i := 14) rfl ?_)); (try simp only [Act.put, List.setIfInBounds_toArray, List.set_cons_zero, List.set_cons_succ])
    (first | (refine take_in (i := 15) (v := ?_) rfl ?_ ?_; rotate_left; (intro w hSw; (try dsimp only at hSw); go_simp; try with_reducible rfl)) | (refine take_out (i := 15) rfl ?_)); (try simp only [Act.put, List.setIfInBounds_toArray, List.set_cons_zero, List.set_cons_succ])
    (refine take_in (i := 16) (v := ?_) rfl ?_ ?_; rotate_left; (intro w hSw; (try dsimp only at hSw); go_simp; try with_reducible rfl)); (try simp only [Act.put, List.setIfInBounds_toArray, List.set_cons_zero, List.set_cons_succ])
    (refine take_in (i := 17) (v := ?_) rfl ?_ ?_; rotate_left; (intro w hSw; (try dsimp only at hSw); go_simp; try with_reducible rfl)); (try simp only [Act.put, List.setIfInBounds_toArray, List.set_cons_zero, List.set_cons_succ])
    (first | (refine take_in (i := 18) (v := ?_) rfl ?_ ?_; rotate_left; (intro w hSw; (try dsimp only at hSw); go_simp; try with_reducible rfl)) | (refine take_out (i := 18) rfl ?_)); (try simp only [Act.put, List.setIfInBounds_toArray, List.set_cons_zero, List.set_cons_succ])
    (first | (refine take_in (i := 19) (v := ?_) rfl ?_ ?_; rotate_left; (intro w hSw; (try dsimp only at hSw); go_simp; try with_reducible rfl)) | (refine take_out (i := 19) rfl ?_)); (try simp only [Act.put, List.setIfInBounds_toArray, List.set_cons_zero, List.set_cons_succ])
    (first | (refine take_in (i := 20) (v := ?_) rfl ?_ ?_; rotate_left; (intro w hSw; (try dsimp only at hSw); go_simp; try with_reducible rfl)) | (refine take_out (i := 20) rfl ?_)); (try simp only [Act.put, List.setIfInBounds_toArray, List.set_cons_zero, List.set_cons_succ])
    (first | (refine take_in (i := 21) (v := ?_) rfl ?_ ?_; rotate_left; (intro w hSw; (try dsimp only at hSw); go_simp; try with_reducible rfl)) | (refine take_out (i := 21) rfl ?_)); (try simp only [Act.put, List.setIfInBounds_toArray, List.set_cons_zero, List.set_cons_succ])
    (first | (refine take_in (i := 22) (v := ?_) rfl ?_ ?_; rotate_left; (intro w hSw; (try dsimp only at hSw); go_simp; try with_reducible rfl)) | (refine take_out (i := 22) rfl ?_)); (try simp only [Act.put, List.setIfInBounds_toArray, List.set_cons_zero, List.set_cons_succ])
    (first | (refine take_in (i := 23) (v := ?_) rfl ?_ ?_; rotate_left; (intro w hSw; (try dsimp only at hSw); go_simp; try with_reducible rfl)) | (refine take_out (i := 23) rfl ?_)); (try simp only [Act.put, List.setIfInBounds_toArray, List.set_cons_zero, List.set_cons_succ])
    (first | (refine take_in (i := 24) (v := ?_) rfl ?_ ?_; rotate_left; (intro w hSw; (try dsimp only at hSw); go_simp; try with_reducible rfl)) | (refine take_out (i := 24) rfl ?_)); (try simp only [Act.put, List.setIfInBounds_toArray, List.set_cons_zero, List.set_cons_succ])
    (first | (refine take_in (i := 25) (v := ?_) rfl ?_ ?_; rotate_left; (intro w hSw; (try dsimp only at hSw); go_simp; try with_reducible rfl)) | (refine take_out (i := 25) rfl ?_)); (try simp only [Act.put, List.setIfInBounds_toArray, List.set_cons_zero, List.set_cons_succ])
    (first | (refine take_in (i := 26) (v := ?_) rfl ?_ ?_; rotate_left; (intro w hSw; (try dsimp only at hSw); go_simp; try with_reducible rfl)) | (refine take_out (i := 26) rfl ?_)); (try simp only [Act.put, List.setIfInBounds_toArray, List.set_cons_zero, List.set_cons_succ])
    (first | (refine take_in (i := 27) (v := ?_) rfl ?_ ?_; rotate_left; (intro w hSw; (try dsimp only at hSw); go_simp; try with_reducible rfl)) | (refine take_out (i := 27) rfl ?_)); (try simp only [Act.put, List.setIfInBounds_toArray, List.set_cons_zero, List.set_cons_succ])
    (first | (refine take_in (i := 28) (v := ?_) rfl ?_ ?_; rotate_left; (intro w hSw; (try dsimp only at hSw); go_simp; try with_reducible rfl)) | (refine take_out (i := 28) rfl ?_)); (try simp only [Act.put, List.setIfInBounds_toArray, List.set_cons_zero, List.set_cons_succ])
    (refine take_in (i := 29) (v := ?_) rfl ?_ ?_; rotate_left; (intro w hSw; (try dsimp only at hSw); go_simp; try with_reducible rfl)); (try simp only [Act.put, List.setIfInBounds_toArray, List.set_cons_zero, List.set_cons_succ])
    refine wpAnyH_done (by kernel_rfl) ?_ _
    go_wp2
    go_ret
    exact RetD.mk rfl 1
set_option maxRecDepth 100000 in
set_option maxHeartbeats 2000000 in
theorem refSame_any (h1 : RefRows S w c1 n1 L1) (h2 : RefRows S w c2 n2 L2) :
    Calls Try.prog 83 #[.pointer (some ⟨c1, 0, none⟩), .pointer (some ⟨c2, 0, none⟩)] w (RetN w fun w' v => v = .bool (decide (n1 = n2 ∧ L1 = L2))) := by
  by_cases hne : n1 ≠ n2 ∨ L1.length ≠ L2.length
  · refine (refSame_ne h1 h2 hne).mono ?_
    rintro e w' ⟨rfl, k, rfl⟩
    refine RetN.mk ((Kp.refl w).drewN k) ?_
    rw [decide_eq_false]
    rintro ⟨rfl, rfl⟩
    rcases hne with h | h <;> exact h rfl
  have hnn : n1 = n2 := by omega
  have hN : L1.length = L2.length := by omega
  subst hnn
  clear hne
  have hl := h1.len
  obtain ⟨ao1, cap1, B1, R1, _⟩ := h1
  obtain ⟨ao2, cap2, B2, R2, _⟩ := h2
  have a1 : w.cell? ⟨c1, 0, none⟩ = some (.int .i64 n1) := by rw [B1.cell']; rfl
  have a2 : w.cell? ⟨c2, 0, none⟩ = some (.int .i64 n1) := by rw [B2.cell']; rfl
  have b1 : w.cell? ⟨c1, 1, none⟩ = some (.slice ao1 L1.length cap1) := by rw [B1.cell']; rfl
  have b2 : w.cell? ⟨c2, 1, none⟩ = some (.slice ao2 L2.length cap2) := by rw [B2.cell']; rfl
  have t1 : ((n1 : Int) != (n1 : Int)) = false := by simp
  clear B1 B2
  obtain ⟨N, en⟩ : ∃ n, n = L1.length := ⟨_, rfl⟩
  rw [← hN] at b2
  rw [← en] at b1 b2 hl
  have t2 : ((N : Int) != (N : Int)) = false := by simp
  have HR := Lib.hid (And.intro R1 R2)
  have EN := Lib.hid (And.intro en hN)
  clear R1 R2 en hN
  go_enter Try.func83, Try.ntmps83
  go_wp2
  refine wp_region_held_drew (S := fun w' => w'.cell? ⟨c1, 0, none⟩ = some (.int .i64 n1) ∧ w'.cell? ⟨c2, 0, none⟩ = some (.int .i64 n1) ∧ w'.cell? ⟨c1, 1, none⟩ = some (.slice ao1 N cap1) ∧ w'.cell? ⟨c2, 1, none⟩ = some (.slice ao2 N cap2)) (by kernel_rfl) ⟨by assumption, by assumption, by assumption, by assumption⟩ (fun hHeld => ?_)
  (refine take_in (i := 0) (v := ?_) rfl ?_ ?_; rotate_left; (intro w hSw; (try dsimp only at hSw); go_simp; try with_reducible rfl)); (try simp only [Act.put, List.setIfInBounds_toArray, List.set_cons_zero, List.set_cons_succ])
  (refine take_in (i := 1) (v := ?_) rfl ?_ ?_; rotate_left; (intro w hSw; (try dsimp only at hSw); go_simp; try with_reducible rfl)); (try simp only [Act.put, List.setIfInBounds_toArray, List.set_cons_zero, List.set_cons_succ])
  (refine take_in (i := 2) (v := ?_) rfl ?_ ?_; rotate_left; (intro w hSw; (try dsimp only at hSw); go_simp; try with_reducible rfl)); (try simp only [Act.put, List.setIfInBounds_toArray, List.set_cons_zero, List.set_cons_succ])
  (first | (refine take_in (i := 3) (v := ?_) rfl ?_ ?_; rotate_left; (intro w hSw; (try dsimp only at hSw); go_simp; try with_reducible rfl)) | (refine take_out (i := 3) rfl ?_)); (try simp only [Act.put, List.setIfInBounds_toArray, List.set_cons_zero, List.set_cons_succ])
  (first | (refine take_in (i := 4) (v := ?_) rfl ?_ ?_; rotate_left; (intro w hSw; (try dsimp only at hSw); go_simp; try with_reducible rfl)) | (refine take_out (i := 4) rfl ?_)); (try simp only [Act.put, List.setIfInBounds_toArray, List.set_cons_zero, List.set_cons_succ])
  (refine take_in (i := 5) (v := ?_) rfl ?_ ?_; rotate_left; (intro w hSw; (try dsimp only at hSw); go_simp; try with_reducible rfl)); (try simp only [Act.put, List.setIfInBounds_toArray, List.set_cons_zero, List.set_cons_succ])
  (refine take_in (i := 6) (v := ?_) rfl ?_ ?_; rotate_left; (intro w hSw; (try dsimp only at hSw); go_simp; try with_reducible rfl)); (try simp only [Act.put, List.setIfInBounds_toArray, List.set_cons_zero, List.set_cons_succ])
  (first | (refine take_in (i := 7) (v := ?_) rfl ?_ ?_; rotate_left; (intro w hSw; (try dsimp only at hSw); go_simp; try with_reducible rfl)) | (refine take_out (i := 7) rfl ?_)); (try simp only [Act.put, List.setIfInBounds_toArray, List.set_cons_zero, List.set_cons_succ])
  (first | (refine take_in (i := 8) (v := ?_) rfl ?_ ?_; rotate_left; (intro w hSw; (try dsimp only at hSw); go_simp; try with_reducible rfl)) | (refine take_out (i := 8) rfl ?_)); (try simp only [Act.put, List.setIfInBounds_toArray, List.set_cons_zero, List.set_cons_succ])
  (first | (refine take_in (i := 9) (v := ?_) rfl ?_ ?_; rotate_left; (intro w hSw; (try dsimp only at hSw); go_simp; try with_reducible rfl)) | (refine take_out (i := 9) rfl ?_)); (try simp only [Act.put, List.setIfInBounds_toArray, List.set_cons_zero, List.set_cons_succ])
  (first | (refine take_in (i := 10) (v := ?_) rfl ?_ ?_; rotate_left; (intro w hSw; (try dsimp only at hSw); go_simp; try with_reducible rfl)) | (refine take_out (i := 10) rfl ?_)); (try simp only [Act.put, List.setIfInBounds_toArray, List.set_cons_zero, List.set_cons_succ])
  (first | (refine take_in (i := 11) (v := ?_) rfl ?_ ?_; rotate_left; (intro w hSw; (try dsimp only at hSw); go_simp; try with_reducible rfl)) | (refine take_out (i := 11) rfl ?_)); (try simp only [Act.put, List.setIfInBounds_toArray, List.set_cons_zero, List.set_cons_succ])
  (first | (refine take_in (i := 12) (v := ?_) rfl ?_ ?_; rotate_left; (intro w hSw; (try dsimp only at hSw); go_simp; try with_reducible rfl)) | (refine take_out (i := 12) rfl ?_)); (try simp only [Act.put, List.setIfInBounds_toArray, List.set_cons_zero, List.set_cons_succ])
  (first | (refine take_in (i := 13) (v := ?_) rfl ?_ ?_; rotate_left; (intro w hSw; (try dsimp only at hSw); go_simp; try with_reducible rfl)) | (refine take_out (i := 13) rfl ?_)); (try simp only [Act.put, List.setIfInBounds_toArray, List.set_cons_zero, List.set_cons_succ])
  (first | (refine take_in (i := 14) (v := ?_) rfl ?_ ?_; rotate_left; (intro w hSw; (try dsimp only at hSw); go_simp; try with_reducible rfl)) | (refine take_out (i := 14) rfl ?_)); (try simp only [Act.put, List.setIfInBounds_toArray, List.set_cons_zero, List.set_cons_succ])
  (first | (refine take_in (i := 15) (v := ?_) rfl ?_ ?_; rotate_left; (intro w hSw; (try dsimp only at hSw); go_simp; try with_reducible rfl)) | (refine take_out (i := 15) rfl ?_)); (try simp only [Act.put, List.setIfInBounds_toArray, List.set_cons_zero, List.set_cons_succ])
  (refine take_in (i := 16) (v := ?_) rfl ?_ ?_; rotate_left; (intro w hSw; (try dsimp only at hSw); go_simp; try with_reducible rfl)); (try simp only [Act.put, List.setIfInBounds_toArray, List.set_cons_zero, List.set_cons_succ])
  (refine take_in (i := 17) (v := ?_) rfl ?_ ?_; rotate_left; (intro w hSw; (try dsimp only at hSw); go_simp; try with_reducible rfl)); (try simp only [Act.put, List.setIfInBounds_toArray, List.set_cons_zero, List.set_cons_succ])
  (first | (refine take_in (i := 18) (v := ?_) rfl ?_ ?_; rotate_left; (intro w hSw; (try dsimp only at hSw); go_simp; try with_reducible rfl)) | (refine take_out (i := 18) rfl ?_)); (try simp only [Act.put, List.setIfInBounds_toArray, List.set_cons_zero, List.set_cons_succ])
  (first | (refine take_in (i := 19) (v := ?_) rfl ?_ ?_; rotate_left; (intro w hSw; (try dsimp only at hSw); go_simp; try with_reducible rfl)) | (refine take_out (i := 19) rfl ?_)); (try simp only [Act.put, List.setIfInBounds_toArray, List.set_cons_zero, List.set_cons_succ])
  (first | (refine take_in (i := 20) (v := ?_) rfl ?_ ?_; rotate_left; (intro w hSw; (try dsimp only at hSw); go_simp; try with_reducible rfl)) | (refine take_out (i := 20) rfl ?_)); (try simp only [Act.put, List.setIfInBounds_toArray, List.set_cons_zero, List.set_cons_succ])
  (first | (refine take_in (i := 21) (v := ?_) rfl ?_ ?_; rotate_left; (intro w hSw; (try dsimp only at hSw); go_simp; try with_reducible rfl)) | (refine take_out (i := 21) rfl ?_)); (try simp only [Act.put, List.setIfInBounds_toArray, List.set_cons_zero, List.set_cons_succ])
  (first | (refine take_in (i := 22) (v := ?_) rfl ?_ ?_; rotate_left; (intro w hSw; (try dsimp only at hSw); go_simp; try with_reducible rfl)) | (refine take_out (i := 22) rfl ?_)); (try simp only [Act.put, List.setIfInBounds_toArray, List.set_cons_zero, List.set_cons_succ])
  (first | (refine take_in (i := 23) (v := ?_) rfl ?_ ?_; rotate_left; (intro w hSw; (try dsimp only at hSw); go_simp; try with_reducible rfl)) | (refine take_out (i := 23) rfl ?_)); (try simp only [Act.put, List.setIfInBounds_toArray, List.set_cons_zero, List.set_cons_succ])
  (first | (refine take_in (i := 24) (v := ?_) rfl ?_ ?_; rotate_left; (intro w hSw; (try dsimp only at hSw); go_simp; try with_reducible rfl)) | (refine take_out (i := 24) rfl ?_)); (try simp only [Act.put, List.setIfInBounds_toArray, List.set_cons_zero, List.set_cons_succ])
  (first | (refine take_in (i := 25) (v := ?_) rfl ?_ ?_; rotate_left; (intro w hSw; (try dsimp only at hSw); go_simp; try with_reducible rfl)) | (refine take_out (i := 25) rfl ?_)); (try simp only [Act.put, List.setIfInBounds_toArray, List.set_cons_zero, List.set_cons_succ])
  (first | (refine take_in (i := 26) (v := ?_) rfl ?_ ?_; rotate_left; (intro w hSw; (try dsimp only at hSw); go_simp; try with_reducible rfl)) | (refine take_out (i := 26) rfl ?_)); (try simp only [Act.put, List.setIfInBounds_toArray, List.set_cons_zero, List.set_cons_succ])
  (first | (refine take_in (i := 27) (v := ?_) rfl ?_ ?_; rotate_left; (intro w hSw; (try dsimp only at hSw); go_simp; try with_reducible rfl)) | (refine take_out (i := 27) rfl ?_)); (try simp only [Act.put, List.setIfInBounds_toArray, List.set_cons_zero, List.set_cons_succ])
  (first | (refine take_in (i := 28) (v := ?_) rfl ?_ ?_; rotate_left; (intro w hSw; (try dsimp only at hSw); go_simp; try with_reducible rfl)) | (refine take_out (i := 28) rfl ?_)); (try simp only [Act.put, List.setIfInBounds_toArray, List.set_cons_zero, List.set_cons_succ])
  (refine take_in (i := 29) (v := ?_) rfl ?_ ?_; rotate_left; (intro w hSw; (try dsimp only at hSw); go_simp; try with_reducible rfl)); (try simp only [Act.put, List.setIfInBounds_toArray, List.set_cons_zero, List.set_cons_succ])
  refine wpAnyH_done (by kernel_rfl) ?_ _
  go_wp2
  clear a1 a2 t1 t2
  go_loopw [5] (ReadR N (fun i => ∀ j : Nat, j < i → L1[j]? = L2[j]?) w) (fun k _ => N - (intOf k).toNat)
  case atStart => exact ⟨0, Nat.zero_le _, rfl, fun j h => by omega, (Kp.refl w).drew⟩
  case round =>
    obtain ⟨i, hi, rfl, hok, hex⟩ := hrel
    have OK := Lib.hid hok; clear hok
    have d1 := hex.cell b1 id
    have d2 := hex.cell b2 id
    by_cases hlt : i < N
    · obtain ⟨y1, hy1⟩ : ∃ y, L1[i]? = some y := ⟨_, List.getElem?_eq_getElem (by have := EN.out; omega)⟩
      obtain ⟨y2, hy2⟩ : ∃ y, L2[i]? = some y := ⟨_, List.getElem?_eq_getElem (by have := EN.out; omega)⟩
      obtain ⟨g1, o1, x1, xc1, e1, c3, q1, l1, _⟩ := (HR.out.1.ext hex).get hy1
      obtain ⟨g2, o2, x2, xc2, e2, c4, q2, l2, _⟩ := (HR.out.2.ext hex).get hy2
      subst e1 e2
      have HCM := Lib.hid (fun W (hW : Ext wr W) => refCompare_any y1 y2 x1 x2 xc1 xc2 W (q1.ext hW) (q2.ext hW) (by unfold maxLen; omega) (by unfold maxLen; omega))
      generalize hcc : cmpRow y1 y2 = cc at HCM
      have HY := Lib.hid (And.intro hy1 (And.intro hy2 hcc))
      have i1 : (i : Int) < (N : Int) := by omega
      have i2 : (0 : Int) ≤ (i : Int) := by omega
      clear hcc q1 q2 hy1 hy2
      by_cases hz : cc = 0
      · have t1 : (cc != 0) = false := by simp [hz]
        go_wp2
        refine wp_region_held_drew (S := fun w' => w'.cell? ⟨c1, 1, none⟩ = some (.slice (some ⟨g1, o1, none⟩) N cap1) ∧ w'.cell? ⟨c2, 1, none⟩ = some (.slice (some ⟨g2, o2, none⟩) N cap2) ∧ w'.cell? ⟨g1, o1 + i, none⟩ = some (.slice x1 y1.length xc1) ∧ w'.cell? ⟨g2, o2 + i, none⟩ = some (.slice x2 y2.length xc2)) (by kernel_rfl) ⟨by assumption, by assumption, by assumption, by assumption⟩ (fun hHeld => ?_)
        (refine take_in (i := 0) (v := ?_) rfl ?_ ?_; rotate_left; (intro w hSw; (try dsimp only at hSw); go_simp; try with_reducible rfl)); (try simp only [Act.put, List.setIfInBounds_toArray, List.set_cons_zero, List.set_cons_succ])
        (refine take_in (i := 1) (v := ?_) rfl ?_ ?_; rotate_left; (intro w hSw; (try dsimp only at hSw); go_simp; try with_reducible rfl)); (try simp only [Act.put, List.setIfInBounds_toArray, List.set_cons_zero, List.set_cons_succ])
        (refine take_in (i := 2) (v := ?_) rfl ?_ ?_; rotate_left; (intro w hSw; (try dsimp only at hSw); go_simp; try with_reducible rfl)); (try simp only [Act.put, List.setIfInBounds_toArray, List.set_cons_zero, List.set_cons_succ])
        (refine take_in (i := 3) (v := ?_) rfl ?_ ?_; rotate_left; (intro w hSw; (try dsimp only at hSw); go_simp; try with_reducible rfl)); (try simp only [Act.put, List.setIfInBounds_toArray, List.set_cons_zero, List.set_cons_succ])
        (refine take_in (i := 4) (v := ?_) rfl ?_ ?_; rotate_left; (intro w hSw; (try dsimp only at hSw); go_simp; try with_reducible rfl)); (try simp only [Act.put, List.setIfInBounds_toArray, List.set_cons_zero, List.set_cons_succ])
        (refine take_in (i := 5) (v := ?_) rfl ?_ ?_; rotate_left; (intro w hSw; (try dsimp only at hSw); go_simp; try with_reducible rfl)); (try simp only [Act.put, List.setIfInBounds_toArray, List.set_cons_zero, List.set_cons_succ])
        (refine take_in (i := 6) (v := ?_) rfl ?_ ?_; rotate_left; (intro w hSw; (try dsimp only at hSw); go_simp; try with_reducible rfl)); (try simp only [Act.put, List.setIfInBounds_toArray, List.set_cons_zero, List.set_cons_succ])
        (refine take_in (i := 7) (v := ?_) rfl ?_ ?_; rotate_left; (intro w hSw; (try dsimp only at hSw); go_simp; try with_reducible rfl)); (try simp only [Act.put, List.setIfInBounds_toArray, List.set_cons_zero, List.set_cons_succ])
        (refine take_in (i := 8) (v := ?_) rfl ?_ ?_; rotate_left; (intro w hSw; (try dsimp only at hSw); go_simp; try with_reducible rfl)); (try simp only [Act.put, List.setIfInBounds_toArray, List.set_cons_zero, List.set_cons_succ])
        (refine take_in (i := 9) (v := ?_) rfl ?_ ?_; rotate_left; (intro w hSw; (try dsimp only at hSw); go_simp; try with_reducible rfl)); (try simp only [Act.put, List.setIfInBounds_toArray, List.set_cons_zero, List.set_cons_succ])
        (refine take_in (i := 10) (v := ?_) rfl ?_ ?_; rotate_left; (intro w hSw; (try dsimp only at hSw); go_simp; try with_reducible rfl)); (try simp only [Act.put, List.setIfInBounds_toArray, List.set_cons_zero, List.set_cons_succ])
        (refine take_in (i := 11) (v := ?_) rfl ?_ ?_; rotate_left; (intro w hSw; (try dsimp only at hSw); go_simp; try with_reducible rfl)); (try simp only [Act.put, List.setIfInBounds_toArray, List.set_cons_zero, List.set_cons_succ])
        (refine take_in (i := 12) (v := ?_) rfl ?_ ?_; rotate_left; (intro w hSw; (try dsimp only at hSw); go_simp; try with_reducible rfl)); (try simp only [Act.put, List.setIfInBounds_toArray, List.set_cons_zero, List.set_cons_succ])
        (refine take_in (i := 13) (v := ?_) rfl ?_ ?_; rotate_left; (intro w hSw; (try dsimp only at hSw); go_simp; try with_reducible rfl)); (try simp only [Act.put, List.setIfInBounds_toArray, List.set_cons_zero, List.set_cons_succ])
        (refine take_call (i := 14) rfl (fun K hK => ?_); go_simp; (refine (HCM.out _ (Kp.refl wr).drew).mono ?_; rintro e wc ⟨rfl, kc, rfl⟩; have d1 : (wr.drew.drewN kc).cell? ⟨c1, 1, none⟩ = some (.slice (some ⟨g1, o1, none⟩) N cap1) := d1; have d2 : (wr.drew.drewN kc).cell? ⟨c2, 1, none⟩ = some (.slice (some ⟨g2, o2, none⟩) N cap2) := d2; have c3 : (wr.drew.drewN kc).cell? ⟨g1, o1 + i, none⟩ = some (.slice x1 y1.length xc1) := c3; have c4 : (wr.drew.drewN kc).cell? ⟨g2, o2 + i, none⟩ = some (.slice x2 y2.length xc2) := c4); go_wp2_with fail; refine hK.out _ _ ?_ (fun hHeld => ?_); (try dsimp only); (exact ⟨by assumption, by assumption, by assumption, by assumption⟩); clear hK K); (try simp only [Act.put, List.setIfInBounds_toArray, List.set_cons_zero, List.set_cons_succ])
        (refine take_in (i := 15) (v := ?_) rfl ?_ ?_; rotate_left; (intro w hSw; (try dsimp only at hSw); go_simp; try with_reducible rfl)); (try simp only [Act.put, List.setIfInBounds_toArray, List.set_cons_zero, List.set_cons_succ])
        refine wpAnyH_done (by kernel_rfl) ?_ _
        go_wp2
        go_roundw
        case rel =>
          refine ⟨i + 1, by omega, by first | rfl | (congr 1; done) | (congr 1; omega), fun j hj => ?_, hex.drewN (1 + kc)⟩
          by_cases e : j = i
          · subst e
            obtain ⟨h1, h2, h3⟩ := HY.out
            rw [h1, h2, cmpRow_zero (h3.trans hz)]
          · exact OK.out j (by omega)
        case measure => simp [intOf]; omega
      · have t1 : (cc != 0) = true := by simp [hz]
        go_wp2
        refine wp_region_held_drew (S := fun w' => w'.cell? ⟨c1, 1, none⟩ = some (.slice (some ⟨g1, o1, none⟩) N cap1) ∧ w'.cell? ⟨c2, 1, none⟩ = some (.slice (some ⟨g2, o2, none⟩) N cap2) ∧ w'.cell? ⟨g1, o1 + i, none⟩ = some (.slice x1 y1.length xc1) ∧ w'.cell? ⟨g2, o2 + i, none⟩ = some (.slice x2 y2.length xc2)) (by kernel_rfl) ⟨by assumption, by assumption, by assumption, by assumption⟩ (fun hHeld => ?_)
        (refine take_in (i := 0) (v := ?_) rfl ?_ ?_; rotate_left; (intro w hSw; (try dsimp only at hSw); go_simp; try with_reducible rfl)); (try simp only [Act.put, List.setIfInBounds_toArray, List.set_cons_zero, List.set_cons_succ])
        (refine take_in (i := 1) (v := ?_) rfl ?_ ?_; rotate_left; (intro w hSw; (try dsimp only at hSw); go_simp; try with_reducible rfl)); (try simp only [Act.put, List.setIfInBounds_toArray, List.set_cons_zero, List.set_cons_succ])
        (refine take_in (i := 2) (v := ?_) rfl ?_ ?_; rotate_left; (intro w hSw; (try dsimp only at hSw); go_simp; try with_reducible rfl)); (try simp only [Act.put, List.setIfInBounds_toArray, List.set_cons_zero, List.set_cons_succ])
        (refine take_in (i := 3) (v := ?_) rfl ?_ ?_; rotate_left; (intro w hSw; (try dsimp only at hSw); go_simp; try with_reducible rfl)); (try simp only [Act.put, List.setIfInBounds_toArray, List.set_cons_zero, List.set_cons_succ])
        (refine take_in (i := 4) (v := ?_) rfl ?_ ?_; rotate_left; (intro w hSw; (try dsimp only at hSw); go_simp; try with_reducible rfl)); (try simp only [Act.put, List.setIfInBounds_toArray, List.set_cons_zero, List.set_cons_succ])
        (refine take_in (i := 5) (v := ?_) rfl ?_ ?_; rotate_left; (intro w hSw; (try dsimp only at hSw); go_simp; try with_reducible rfl)); (try simp only [Act.put, List.setIfInBounds_toArray, List.set_cons_zero, List.set_cons_succ])
        (refine take_in (i := 6) (v := ?_) rfl ?_ ?_; rotate_left; (intro w hSw; (try dsimp only at hSw); go_simp; try with_reducible rfl)); (try simp only [Act.put, List.setIfInBounds_toArray, List.set_cons_zero, List.set_cons_succ])
        (refine take_in (i := 7) (v := ?_) rfl ?_ ?_; rotate_left; (intro w hSw; (try dsimp only at hSw); go_simp; try with_reducible rfl)); (try simp only [Act.put, List.setIfInBounds_toArray, List.set_cons_zero, List.set_cons_succ])
        (refine take_in (i := 8) (v := ?_) rfl ?_ ?_; rotate_left; (intro w hSw; (try dsimp only at hSw); go_simp; try with_reducible rfl)); (try simp only [Act.put, List.setIfInBounds_toArray, List.set_cons_zero, List.set_cons_succ])
        (refine take_in (i := 9) (v := ?_) rfl ?_ ?_; rotate_left; (intro w hSw; (try dsimp only at hSw); go_simp; try with_reducible rfl)); (try simp only [Act.put, List.setIfInBounds_toArray, List.set_cons_zero, List.set_cons_succ])
        (refine take_in (i := 10) (v := ?_) rfl ?_ ?_; rotate_left; (intro w hSw; (try dsimp only at hSw); go_simp; try with_reducible rfl)); (try simp only [Act.put, List.setIfInBounds_toArray, List.set_cons_zero, List.set_cons_succ])
        (refine take_in (i := 11) (v := ?_) rfl ?_ ?_; rotate_left; (intro w hSw; (try dsimp only at hSw); go_simp; try with_reducible rfl)); (try simp only [Act.put, List.setIfInBounds_toArray, List.set_cons_zero, List.set_cons_succ])
        (refine take_in (i := 12) (v := ?_) rfl ?_ ?_; rotate_left; (intro w hSw; (try dsimp only at hSw); go_simp; try with_reducible rfl)); (try simp only [Act.put, List.setIfInBounds_toArray, List.set_cons_zero, List.set_cons_succ])
        (refine take_in (i := 13) (v := ?_) rfl ?_ ?_; rotate_left; (intro w hSw; (try dsimp only at hSw); go_simp; try with_reducible rfl)); (try simp only [Act.put, List.setIfInBounds_toArray, List.set_cons_zero, List.set_cons_succ])
        (refine take_call (i := 14) rfl (fun K hK => ?_); go_simp; (refine (HCM.out _ (Kp.refl wr).drew).mono ?_; rintro e wc ⟨rfl, kc, rfl⟩; have d1 : (wr.drew.drewN kc).cell? ⟨c1, 1, none⟩ = some (.slice (some ⟨g1, o1, none⟩) N cap1) := d1; have d2 : (wr.drew.drewN kc).cell? ⟨c2, 1, none⟩ = some (.slice (some ⟨g2, o2, none⟩) N cap2) := d2; have c3 : (wr.drew.drewN kc).cell? ⟨g1, o1 + i, none⟩ = some (.slice x1 y1.length xc1) := c3; have c4 : (wr.drew.drewN kc).cell? ⟨g2, o2 + i, none⟩ = some (.slice x2 y2.length xc2) := c4); go_wp2_with fail; refine hK.out _ _ ?_ (fun hHeld => ?_); (try dsimp only); (exact ⟨by assumption, by assumption, by assumption, by assumption⟩); clear hK K); (try simp only [Act.put, List.setIfInBounds_toArray, List.set_cons_zero, List.set_cons_succ])
        (refine take_in (i := 15) (v := ?_) rfl ?_ ?_; rotate_left; (intro w hSw; (try dsimp only at hSw); go_simp; try with_reducible rfl)); (try simp only [Act.put, List.setIfInBounds_toArray, List.set_cons_zero, List.set_cons_succ])
        refine wpAnyH_done (by kernel_rfl) ?_ _
        go_wp2
        go_ret
        refine RetN.mk (hex.drewN (1 + kc)) ?_
        rw [decide_eq_false]
        · rfl
        · rintro ⟨_, rfl⟩
          obtain ⟨h1, h2, h3⟩ := HY.out
          rw [h1] at h2; cases h2
          exact hz (h3.symm.trans (cmpRow_self _))
    · obtain rfl : i = N := by omega
      go_wp2
      go_ret
      refine RetN.mk hex ?_
      have : L1 = L2 := List.ext_getElem? fun j => by
        by_cases hj : j < i
        · exact OK.out j hj
        · rw [List.getElem?_eq_none (by have := EN.out; omega), List.getElem?_eq_none (by have := EN.out; omega)]
      rw [decide_eq_true ⟨by trivial, this⟩]
      rfl
end
end Go.Proofs.Ytfkhelihepbehaa
