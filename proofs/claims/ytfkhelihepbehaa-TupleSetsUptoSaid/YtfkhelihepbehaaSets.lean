/- TupleSets walked. -/
import Derived.Test.YtfkhelihepbehaaStep2
import Derived.Test.YtfkhelihepbehaaSetIn
import Derived.Test.YtfkhelihepbehaaRef7
namespace Go.Proofs.Ytfkhelihepbehaa
open Go.RowKit
set_option linter.unusedVariables false

theorem OrdVInt.sub {P : Program} {S : Nat → Prop} {w0 : World} {ov : Value} {D D' : Int → Prop} {c : Int → Int → Int} (h : OrdVInt P S w0 ov D c) (hd : ∀ x, D' x → D x) : OrdVInt P S w0 ov D' c := by
  rcases h with ⟨h1, h2⟩ | ⟨f, first, cap, e, he, h⟩
  · exact .inl ⟨h1, fun x y hx hy => h2 x y (hd x hx) (hd y hy)⟩
  · exact .inr ⟨f, first, cap, e, he, fun w hw x y hx hy => h w hw x y (hd x hx) (hd y hy)⟩
theorem DeskAt.widen {S : Nat → Prop} {U : List Int} {L : Nat → Prop} {bd : Nat} {w w' : World} {sv mv : Nat → Value} {G : Nat → Nat → Prop} (h : DeskAt S U L bd w sv mv G) (hk : Ext w w') {g : Nat} (h1 : w.heap.size ≤ g) (h2 : g < w'.heap.size) :
    DeskAt (fun k => S k ∨ k = g) U L bd w' sv mv G := by
  have h' := h.ext hk
  have hS : ∀ k, S k ∨ k = g → k < w'.heap.size := fun k hk => by rcases hk with hk | rfl; exact h'.inS k hk; exact h2
  refine ⟨h'.blk, fun i hi => ?_, h.apart, fun i hi k hg => ?_, fun hs => ?_, hS, h.lob, h'.newL⟩
  · obtain ⟨which, o, G1, G2, a1, a2, a3, a4, a5⟩ := h'.slot i hi
    refine ⟨which, o, G1, G2, ?_, a2, a3, a4, a5⟩
    rcases a1 with a1 | ⟨b, ov, iv, zs, e1, e2, e3, e4, e5⟩
    · exact .inl a1
    · refine .inr ⟨b, ov, iv, zs, e1, e2, ⟨e3.blk, e3.row, e3.apart, hS, fun k ho hs => ?_, e3.ord.mono fun k hk => .inl hk, e3.all, e3.len⟩, e4, e5⟩
      rcases hs with hs | rfl
      · exact e3.notS k ho hs
      · have := (h.own i hi k (a4 k (e5 k ho))).2.2.1; omega
  · obtain ⟨a, b, c, d⟩ := h'.own i hi k hg
    refine ⟨a, fun hs => ?_, c, d⟩
    rcases hs with hs | rfl
    · exact b hs
    · have := (h.own i hi k hg).2.2.1; omega
  · rcases hs with hs | hs
    · exact h.notS hs
    · have := h.blk.lt; omega
/-- A desk with nothing on it. -/
theorem desk_nil (U : List Int) (L : Nat → Prop) (bd : Nat) (w : World) (hlo : L bd) (hnew : ∀ k, w.heap.size ≤ k → L k) (hB : Blk w bd [.pointer none, .pointer none, .pointer none, .pointer none, .pointer none, .pointer none, .pointer none, .pointer none] 35) :
    DeskAt (fun _ => False) U L bd w (fun _ => .pointer none) (fun _ => .pointer none) (fun _ _ => False) :=
  ⟨hB, fun i hi => ⟨0, none, fun _ => False, fun _ => False, .inl ⟨rfl, rfl⟩, .inl ⟨rfl, rfl⟩, fun _ h => h.elim, fun _ h => h, fun _ h => h⟩, fun _ _ _ _ _ _ h => h.elim, fun _ _ _ h => h.elim, fun h => h, fun _ h => h.elim, hlo, hnew⟩

/-- A copy of numbers by append onto an empty slice. -/
theorem appEmpty {w : World} {g0 : Nat} {ao : Option Addr} {cap n : Nat} {ys : List Int} (hB : Blk w g0 [] 3) (h2 : CellsAt w ao (ints ys)) (hn : n = ys.length) (hl : n ≤ 1048576 * 1048576) :
    ∃ ao3 cap3 w3, (Builtin.append_ #[26, 26] 26 #[.slice (some ⟨g0, 0, none⟩) 0 0, .slice ao n cap]).run Try.prog w = .ok (.slice ao3 n cap3) w3 ∧ CellsAt w3 ao3 (ints ys) ∧ Kp (fun k => k = g0) w w3 := by
  have h1 : Row w 3 1 (.slice (some ⟨g0, 0, none⟩) 0 0) 0 [] (fun k => k = g0) := ⟨by simp, .inr ⟨g0, 0, [], rfl, rfl, hB, by simp, Nat.le_refl _, by decide⟩⟩
  obtain ⟨v3, w3, hrun, hr, hk, _⟩ := run_app (P := Try.prog) elemInt 26 h1 (m := n) (c := cap) (by simp [ints, hn]) h2 (ints_one ys) (by omega) (by unfold maxLen; omega)
  obtain ⟨ao3, cap3, e3, hc, _⟩ := hr.shape
  subst e3
  simp only [Nat.zero_add, List.nil_append] at hrun hc
  exact ⟨ao3, cap3, w3, hrun, hc, hk.mono fun k _ h => by cases h; rfl⟩
/-- A new set of the program. -/
theorem setNew_p {S : Nat → Prop} {U : List Int} {q : Int} {w : World} {ov : Value} {ao : Option Addr} {n cap : Nat} {zs : List Int} (hn : n = zs.length) (hc : CellsAt w ao (ints zs)) (hS : ∀ k, S k → k < w.heap.size)
    (ho : OrdVInt Try.prog S w ov (fun _ => True) (ordC q)) (hU : ∀ x ∈ zs, x ∈ U) (hl : n ≤ 1048576 * 1048576) :
    Calls Try.prog 12 #[ov, .slice ao n cap] w (RetN w fun w' v => SetP S U q w' v (some (newS (ordC q) zs)) fun k => w.heap.size ≤ k) := by
  refine (newSetInt_any S w ov ao n cap (fun x => x ∈ U) (ordC q) (ordC_law q) zs hn hc hS (ho.sub fun _ _ => trivial) hU hl).mono ?_
  rintro e w' ⟨v, rfl, hk, b, iv, rfl, hb, hi, hs⟩
  exact RetN.mk hk (.inr ⟨b, ov, iv, _, rfl, rfl, hs, Strict.new (ordC_law q) zs, fun k ho => by rcases ho with rfl | ho; exact hb; exact hi k ho⟩)
theorem refNew_p {U : List Int} {q : Int} {w : World} {ao : Option Addr} {n cap : Nat} {zs : List Int} (hn : n = zs.length) (hc : CellsAt w ao (ints zs)) (hU : ∀ x ∈ zs, x ∈ U) (hl : n ≤ 1048576 * 1048576) :
    Calls Try.prog 14 #[.int .i64 q, .slice ao n cap] w (RetN w fun w' v => RefP U q w' v (some (newS (ordC q) zs)) fun k => w.heap.size ≤ k) := by
  refine (refNewSet_any q zs ao n cap hn hc hl).mono ?_
  rintro e w' ⟨v, rfl, hk, b, lv, rfl, hb, hi, hs⟩
  exact RetN.mk hk (.inr ⟨b, lv, _, rfl, rfl, hs, Strict.new (ordC_law q) zs, fun x hx => hU x (newS_mem hx), fun k ho => by rcases ho with rfl | ho; exact hb; exact hi k ho⟩)
/-- Whatever lies off the desk may turn. -/
theorem DeskAt.off {S : Nat → Prop} {U : List Int} {L : Nat → Prop} {bd : Nat} {w w' : World} {sv mv : Nat → Value} {G : Nat → Nat → Prop} {F : Nat → Prop} (h : DeskAt S U L bd w sv mv G) (hk : Kp F w w') (hF : ∀ k, F k → ¬ L k) (hS : ∀ k, F k → ¬ S k) : DeskAt S U L bd w' sv mv G :=
  ⟨h.blk.kp hk fun hf => hF _ hf h.lob, fun i hi => (h.slot i hi).kp hk (fun k hf hg => hF k hf (h.own i hi k hg).2.2.2) hS, h.apart, fun i hi k hg => by obtain ⟨a, b, c, d⟩ := h.own i hi k hg; exact ⟨a, b, Nat.lt_of_lt_of_le c hk.size, d⟩, h.notS, fun k hs => Nat.lt_of_lt_of_le (h.inS k hs) hk.size, h.lob, fun k hk' => h.newL k (Nat.le_trans hk.size hk')⟩

/-- A set's zero value. -/
theorem set_zero {S : Nat → Prop} {U : List Int} {w : World} {g : Nat} (hB : Blk w g [.nilFunc, .slice none 0 0] 42) (hS : ∀ k, S k → k < w.heap.size) (hg : ¬ S g) : SetP S U 3 w (.pointer (some ⟨g, 0, none⟩)) (some (newS (ordC 3) [])) fun k => k = g := by
  refine .inr ⟨g, _, _, _, rfl, rfl, ⟨hB, Row.nil _ _ _ _, by simp [Value.ownBlock], hS, fun k ho hs => ?_, .inl ⟨rfl, fun _ _ _ _ => rfl⟩, by simp [newS], by simp [newS]⟩, Strict.new (ordC_law 3) [], fun k ho => ?_⟩
  · rcases ho with rfl | ho
    · exact hg hs
    · cases ho
  · rcases ho with rfl | ho
    · rfl
    · cases ho
theorem DeskAt.zero {S : Nat → Prop} {U : List Int} {L : Nat → Prop} {bd : Nat} {w w' : World} {sv mv : Nat → Value} {G : Nat → Nat → Prop} {g : Nat} {m : Value} (h : DeskAt S U L bd w sv mv G) (hk : Ext w w') (hg : w.heap.size ≤ g)
    (hB : Blk w' g [.nilFunc, .slice none 0 0] 42) (hr : RefP U 3 w' m (some (newS (ordC 3) [])) fun k => w.heap.size ≤ k ∧ k ≠ g) :
    Desk S U L bd ((w'.setCell ⟨bd, 2, none⟩ (.pointer (some ⟨g, 0, none⟩))).setCell ⟨bd, 6, none⟩ m) ∧ Kp L w ((w'.setCell ⟨bd, 2, none⟩ (.pointer (some ⟨g, 0, none⟩))).setCell ⟨bd, 6, none⟩ m) := by
  refine ⟨h.put (i := 2) (by omega) hk ⟨3, _, fun k => k = g, _, set_zero hB (fun k hs => Nat.lt_of_lt_of_le (h.inS k hs) hk.size) (fun hs => ?_), hr, fun k e hk' => hk'.2 e, fun k e => e ▸ hg, fun k hk' => hk'.1⟩, ?_⟩
  · have := h.inS g hs; omega
  · exact Kp.setCell (Kp.setCell (Ext.kp hk) (fun _ => h.lob) _) (fun _ => h.lob) _
/-- Between two steps of the script. -/
def ScriptAt (S : Nat → Prop) (U : List Int) (L : Nat → Prop) (bd : Nat) (W : World) (t : Nat) (kv : Value) (w : World) : Prop := ∃ i : Nat, i ≤ t ∧ kv = .int .i64 i ∧ Desk S U L bd w ∧ Ext W w

set_option maxRecDepth 100000 in
set_option maxHeartbeats 1000000 in
theorem sets_walk (x y : Int) (v2 v3 v4 : Value) (W : World) (h2 : InInts W v2 1048576) (h3 : InInts W v3 1048576) (h4 : InOps W v4 1048576) :
    Calls Try.prog 4 #[.int .i64 x, .int .i64 y, v2, v3, v4] W (fun e W' => e = .returned (.bool true) ∧ Below W.heap.size W W') := by
  obtain ⟨ai, ci, zs, rfl, hci, hli⟩ := h2
  obtain ⟨aj, cj, ys, rfl, hcj, hlj⟩ := h3
  obtain ⟨ak, ck, ops, rfl, hck, hlk⟩ := h4
  obtain ⟨n, en⟩ : ∃ n, n = zs.length := ⟨_, rfl⟩
  obtain ⟨m, em⟩ : ∃ m, m = ys.length := ⟨_, rfl⟩
  obtain ⟨t, et⟩ : ∃ t, t = ops.length := ⟨_, rfl⟩
  rw [← en] at hli ⊢
  rw [← em] at hlj ⊢
  rw [← et] at hlk ⊢
  have EN := Lib.hid (And.intro en (And.intro em et))
  have HI := Lib.hid hci
  have HJ := Lib.hid hcj
  have HK := Lib.hid hck
  clear en em et hci hcj hck
  obtain ⟨a, ea⟩ : ∃ a : Nat, placeN x 5 = a := ⟨_, rfl⟩
  obtain ⟨b, eb⟩ : ∃ b : Nat, placeN y 5 = b := ⟨_, rfl⟩
  have HP := Lib.hid (And.intro (place5 x W) (place5 y W)); rw [ea, eb] at HP
  clear ea eb
  go_enter Try.func4, Try.ntmps4
  go_wp2_with fail
  refine HP.out.1.mono ?_
  rintro e w' ⟨rfl, rfl⟩
  go_wp2_with fail
  refine HP.out.2.mono ?_
  rintro e w' ⟨rfl, rfl⟩
  go_wp2_with (first | (at_builtin; refine Halted.out ?_))
  obtain ⟨Wd, eWd⟩ : ∃ Wd, W.alloc (.cells #[.pointer none, .pointer none, .pointer none, .pointer none, .pointer none, .pointer none, .pointer none, .pointer none] 35) = Wd := ⟨_, rfl⟩
  have x0 : Ext W Wd := by rw [← eWd]; exact (Kp.refl W).alloc _
  have hBd : Blk Wd W.heap.size [.pointer none, .pointer none, .pointer none, .pointer none, .pointer none, .pointer none, .pointer none, .pointer none] 35 := by rw [← eWd]; exact Blk.new W _ _
  have hszd : W.heap.size < Wd.heap.size := hBd.lt
  try simp only [eWd]
  have hszd1 : Wd.heap.size = W.heap.size + 1 := by rw [← eWd]; simp
  have hr0 := Row.empty Wd 3 1 (New Wd) (Nat.le_refl _)
  rw [hszd1] at hr0
  refine Halted.mk (wp_appN elemInt rfl _ _ rfl (F := fun _ => False) (w0 := Wd) ((Kp.refl Wd).alloc _) rfl hr0 rfl ((HI.out.ext x0).alloc _) (by have := EN.out.1; simp [ints]; omega) (ints_one zs) (by omega) (by unfold maxLen; omega) ?_)
  rintro v1 w1 hr1 hk1 _ _
  simp only [Nat.zero_add, List.nil_append] at hr1
  obtain ⟨ao1, cap1, ev, _, _⟩ := hr1.shape
  subst ev
  have hr1a := hr1.alloc (.cells #[.int .i64 77] 3)
  have hk1a := hk1.alloc (.cells #[.int .i64 77] 3)
  clear hr1 hk1
  go_wp2_with (first | (at_builtin; refine Halted.out ?_))
  refine Halted.mk (wp_appN elemInt rfl _ _ rfl (F := fun _ => False) (w0 := Wd) hk1a rfl hr1a rfl (CellsAt.one w1 (.int .i64 77) 3) rfl (by simp; rfl) (by omega) (by unfold maxLen; omega) ?_)
  rintro v2 w2 hr2 hk2 _ _
  obtain ⟨n1, en1⟩ : ∃ n1, n1 = n + 1 := ⟨_, rfl⟩
  obtain ⟨g, cap, rest, ev, hg, hBg, hlg, hcg⟩ : ∃ g cap rest, v2 = .slice (some ⟨g, 0, none⟩) n1 cap ∧ Wd.heap.size ≤ g ∧ Blk w2 g (ints zs ++ ([Value.int .i64 77] ++ rest)) 3 ∧ (ints zs ++ ([Value.int .i64 77] ++ rest)).length = cap ∧ n1 ≤ cap := by
    obtain ⟨_, ⟨_, h⟩ | ⟨g, cap, rest, e, hg, hB, hl, hc, hm⟩⟩ := hr2
    · omega
    · exact ⟨g, cap, rest, by rw [e, en1], hg, by simpa using hB, by simpa using hl, by omega⟩
  subst ev
  have hg2 := hBg.lt
  have x2 := x0.trans hk2
  have HBG := Lib.hid hBg
  have HBD := Lib.hid (hBd.ext hk2)
  have HX2 := Lib.hid x2
  clear hr2 hk2 hr1a hk1a hr0 hBd hBg x0 eWd
  have hn1 : n1 ≤ 1048577 ∧ n < n1 := by omega
  have HN1 := Lib.hid en1
  have hlg' : n1 ≤ (ints zs ++ ([Value.int .i64 77] ++ rest)).length := by omega
  have HLG := Lib.hid hlg'
  have hc77 : (ints zs ++ ([Value.int .i64 77] ++ rest))[n]? = some (.int .i64 77) := by
    rw [List.getElem?_append_right (by have := EN.out.1; simp [ints]; omega), show n - (ints zs).length = 0 by have := EN.out.1; simp [ints]; omega]; rfl
  have H77 := Lib.hid hc77
  obtain ⟨hn1a, hn1b⟩ := hn1
  clear en1 hc77 hlg hlg'
  have b1 : (n : Int) ≤ (cap : Int) := by omega
  have b3 : (n : Int) < (n1 : Int) := by omega
  have b2 : (0 : Int) ≤ (n : Int) := by omega
  obtain ⟨U, eU⟩ : ∃ U, U = zs ++ (ys ++ ops.map fun o => o.2.2.2) := ⟨_, rfl⟩
  have hU : U.length ≤ 4194304 := by rw [eU]; have := EN.out; simp; omega
  have HU := Lib.hid (show (∀ x ∈ zs, x ∈ U) ∧ (∀ x ∈ ys, x ∈ U) ∧ ∀ o ∈ ops, o.2.2.2 ∈ U from by
    rw [eU]
    exact ⟨fun x h => List.mem_append_left _ h, fun x h => List.mem_append_right _ (List.mem_append_left _ h), fun o h => List.mem_append_right _ (List.mem_append_right _ (List.mem_map_of_mem h))⟩)
  clear eU
  obtain ⟨q1, eq1⟩ : ∃ q1 : Int, q1 = if (a : Int) = 4 then 3 else (a : Int) := ⟨_, rfl⟩
  obtain ⟨q2, eq2⟩ : ∃ q2 : Int, q2 = if (b : Int) = 4 then 3 else (b : Int) := ⟨_, rfl⟩
  have HO := Lib.hid (show (∀ w, Calls Try.prog 13 #[.int .i64 a] w (RetN w fun w' v => ∃ gb, w.heap.size ≤ gb ∧ gb < w'.heap.size ∧ OrdVInt Try.prog (fun k => k = gb) w' v (fun _ => True) (ordC q1))) ∧
      (∀ w, Calls Try.prog 15 #[.int .i64 a] w (Ret (.int .i64 q1) w)) ∧
      (∀ w, Calls Try.prog 13 #[.int .i64 b] w (RetN w fun w' v => ∃ gb, w.heap.size ≤ gb ∧ gb < w'.heap.size ∧ OrdVInt Try.prog (fun k => k = gb) w' v (fun _ => True) (ordC q2))) ∧
      ∀ w, Calls Try.prog 15 #[.int .i64 b] w (Ret (.int .i64 q2) w) from by
    rw [eq1, eq2]
    exact ⟨fun w => (order_any _ w).mono (by rintro e w' ⟨v, rfl, hk, h1, h2⟩; exact RetN.mk hk ⟨_, Nat.le_refl _, h2, h1⟩), fun w => likeOrder_any _ w, fun w => (order_any _ w).mono (by rintro e w' ⟨v, rfl, hk, h1, h2⟩; exact RetN.mk hk ⟨_, Nat.le_refl _, h2, h1⟩), fun w => likeOrder_any _ w⟩)
  clear eq1 eq2
  have HD0 := Lib.hid (desk_nil U (fun k => W.heap.size ≤ k ∧ k ≠ g) W.heap.size w2 ⟨Nat.le_refl _, by omega⟩ (fun k hk => ⟨Nat.le_trans HX2.out.size hk, by omega⟩) HBD.out)
  go_wp2_with fail
  go_region_held3 (fun _ => True) (first | trivial | go_keep)
    (first
      | (go_at_call 13; refine (HO.out.1 _).mono ?_; rintro e w3 ⟨v3, rfl, hk3, gb, hgb1, hs3, ho3⟩; have x3 : Ext w2 w3 := Kp.trans (by first | exact Kp.refl _ | exact (Kp.refl _).drew | exact (Kp.refl _).drewN _) hk3; have hgb : w2.heap.size ≤ gb := Nat.le_trans (Kp.size (F := fun _ => False) (by first | exact Kp.refl _ | exact (Kp.refl _).drew | exact (Kp.refl _).drewN _)) hgb1; clear hgb1)
      | (go_at_call 12; refine (setNew_p (S := fun k => False ∨ k = gb) (U := U) (q := q1) EN.out.1 (CellsAt.pre (HBG.out.ext x3)) (fun k h => by rcases h with h | rfl; exact h.elim; exact hs3) (ho3.mono fun k h => .inr h) HU.out.1 (by omega)).mono ?_; rintro e w4 ⟨v4, rfl, hk4, hset4⟩; obtain ⟨p4, rfl⟩ := hset4.isPtr; have x4 := x3.trans hk4)
      | (go_at_call 15; (with_reducible refine (HO.out.2.1 _).mono ?_); rintro e w' ⟨rfl, rfl⟩)
      | (go_at_call 14; refine (refNew_p (U := U) (q := q1) EN.out.1 (HI.out.ext (HX2.out.trans x4)) HU.out.1 (by omega)).mono ?_; rintro e w5 ⟨v5, rfl, hk5, hset5⟩; obtain ⟨p5, rfl⟩ := hset5.isPtr; have x5 := x4.trans hk5; have hB5 := HBD.out.ext x5; have f1 := hB5.cell' 0; have f2 := hB5.cell' 4; have f3 := hB5.free 0; have f4 := hB5.free 4; have f6 := (hB5.set 0 (.pointer p4)).free 4; have f5 := (hB5.set 0 (.pointer p4)).cell' 4))
  have hD3 := DeskAt.widen HD0.out x3 (g := gb) hgb hs3
  have hDK := hD3.put2 (i := 0) (by omega) (Kp.refl w3) hk4 hset4 hk5 hset5
  have hx3 := HX2.out.trans x3
  have hg3 := HBG.out.ext x3
  obtain ⟨w6, ew6⟩ : ∃ w6, (w5.setCell ⟨W.heap.size, 0, none⟩ (.pointer p4)).setCell ⟨W.heap.size, 4, none⟩ (.pointer p5) = w6 := ⟨_, rfl⟩
  rw [show (w5.setCell ⟨W.heap.size, 0, none⟩ (.pointer p4)).setCell ⟨W.heap.size, 4 + 0, none⟩ (.pointer p5) = w6 from ew6] at hDK
  rw [ew6]
  have hx6 : Ext W w6 := hx3.trans' hDK.2 (fun i hi h => absurd h.1 (Nat.not_le.2 hi))
  have hg6 : Blk w6 g (ints zs ++ ([Value.int .i64 77] ++ rest)) 3 := hg3.kp hDK.2 (fun h => h.2 rfl)
  have HG6 := Lib.hid (And.intro hDK.1 (And.intro hx6 hg6))
  have hS1 : gb < w6.heap.size := Nat.lt_of_lt_of_le hs3 (hDK.2.size)
  clear hD3 hDK hx3 hg3 hx6 hg6 ew6 f1 f2 f3 f4 f5 f6 hB5 x5 x4 x3 hk3 hk4 hk5 hset4 hset5 ho3 hs3
  go_wp2_with fail
  refine (ints_yes zs (some ⟨g, 0, none⟩) ai n cap ci w6 EN.out.1 (CellsAt.pre HG6.out.2.2) (HI.out.ext HG6.out.2.1) (by unfold maxLen; omega)).mono ?_
  rintro e w7 ⟨rfl, n7, rfl⟩
  have x7 : Ext w6 (w6.drewN n7) := (Kp.refl w6).drewN _
  generalize w6.drewN n7 = w7 at x7 ⊢
  have c77 : w7.cell? ⟨g, n, none⟩ = some (.int .i64 77) := by rw [(HG6.out.2.2.ext x7).cell']; exact H77.out
  have HX7 := Lib.hid x7; clear x7
  go_wp2_with fail
  have r7 : n1 = 0 ∨ ∃ g' cap' cs, Value.slice (some ⟨g, 0, none⟩) n1 cap = .slice (some ⟨g', 0, none⟩) n1 cap' ∧ g' = g ∧ Blk w7 g' cs 3 ∧ n1 ≤ cs.length := .inr ⟨g, cap, _, rfl, rfl, HG6.out.2.2.ext HX7.out, HLG.out⟩
  go_loopw [15] (SpoilAt w7 (.slice (some ⟨g, 0, none⟩) n1 cap) n1 3 (fun k => k = g)) (fun kv _ => n1 - (intOf kv).toNat)
  case atStart => exact ⟨0, Nat.zero_le _, rfl, Kp.refl _, r7⟩
  case round =>
    obtain ⟨i, hi, rfl, hk8, hr8⟩ := hrel
    by_cases hlt : i < n1
    · obtain h0 | ⟨g', cap', cs, e, hg', hB, hcs⟩ := hr8
      · omega
      · cases e
        have c8 := hB.cell i (by omega)
        have c9 := hB.free i
        have b4 : (i : Int) < (n1 : Int) := by omega
        have HB := Lib.hid hB; clear hB
        go_wp2
        go_roundw
        case rel => exact ⟨i + 1, by omega, by go_num, hk8.setCell (fun _ => rfl) _, .inr ⟨g, _, _, rfl, rfl, HB.out.set i _, by simpa using hcs⟩⟩
        case measure => first | (simp [intOf]; done) | (simp [intOf]; omega)
    · obtain ⟨sv1, mv1, G1, hD6⟩ := HG6.out.1
      have hD8 := (hD6.ext HX7.out).off hk8 (fun k e h => h.2 e) (fun k e h => by rcases h with h | h; exact h.elim; omega)
      have hx8 : Ext W wr := (HG6.out.2.1.trans HX7.out).trans' hk8 (fun i hi e => by subst e; exact absurd hg (by omega))
      have hs8 : gb < wr.heap.size := Nat.lt_of_lt_of_le hS1 (Nat.le_trans HX7.out.size hk8.size)
      have HD8 := Lib.hid (And.intro hD8 hx8)
      have hin : n1 = i := by omega
      subst hin
      clear hD8 hx8 hD6 hk8 hr8 r7 c77 hlt hi
      go_wp2_with fail
      go_region_held3 (fun _ => True) (first | trivial | go_keep)
        (first
          | (go_at_call 13; refine (HO.out.2.2.1 wr.drew).mono ?_; rintro e w9 ⟨v9, rfl, hk9, gc, hgc, hs9, ho9⟩; have x9 : Ext wr w9 := Kp.trans (Kp.refl wr).drew hk9; have hB9 : Blk (w9.alloc (.cells #[] 3)) w9.heap.size [] 3 := Blk.new w9 [] 3; obtain ⟨ao3, cap3, w10, hrunA, hc10, hk10⟩ := appEmpty (cap := cj) hB9 ((HJ.out.ext (HD8.out.2.trans x9)).alloc _) EN.out.2.1 (by omega); have x910 : Ext w9 w10 := ((Kp.refl w9).alloc (.cells #[] 3)).trans' hk10 (fun i hi e => by omega); have x10 : Ext wr w10 := x9.trans x910; have hs10 : gc < w10.heap.size := Nat.lt_of_lt_of_le hs9 x910.size; have ho10 := ho9.same (x910.same (fun k h => by subst h; exact hs9) (fun _ _ => id)))
          | (go_at_call 13; refine (HO.out.2.2.1 (wr.alloc (.cells #[] 3)).drew).mono ?_; rintro e w9 ⟨v9, rfl, hk9, gc, hgc1, hs9, ho9⟩; have hgc2 : (wr.alloc (.cells #[] 3)).heap.size ≤ gc := hgc1; have hgc3 : wr.heap.size < gc := (by rw [alloc_size] at hgc2; omega); have hgc : wr.heap.size ≤ gc := Nat.le_of_lt hgc3; have x9 : Ext wr w9 := Kp.trans (((Kp.refl wr).alloc (.cells #[] 3)).drew) hk9; have hB9 : Blk w9 wr.heap.size [] 3 := Blk.ext (Blk.drew (Blk.new wr [] 3)) hk9; have hz9 : wr.heap.size < w9.heap.size := hB9.lt; obtain ⟨ao3, cap3, w10, hrunA, hc10, hk10⟩ := appEmpty (cap := cj) hB9 (HJ.out.ext (HD8.out.2.trans x9)) EN.out.2.1 (by omega); have x10 : Ext wr w10 := x9.trans' hk10 (fun i hi e => by omega); have hs10 : gc < w10.heap.size := Nat.lt_of_lt_of_le hs9 hk10.size; have ho10 := ho9.same (hk10.same (fun k h => by subst h; exact hs9) (fun k h e => by omega)); clear hgc1 hgc2 hgc3)
          | (go_at_call 12; refine (setNew_p (S := fun k => (False ∨ k = gb) ∨ k = gc) (U := U) (q := q2) EN.out.2.1 hc10 (fun k h => by rcases h with h | rfl; exact Nat.lt_of_lt_of_le (HD8.out.1.inS k h) x10.size; exact hs10) (ho10.mono fun k h => .inr h) HU.out.2.1 (by omega)).mono ?_; rintro e w11 ⟨v11, rfl, hk11, hset11⟩; obtain ⟨p11, rfl⟩ := hset11.isPtr; have x11 := x10.trans hk11)
          | (go_at_call 15; (with_reducible refine (HO.out.2.2.2 _).mono ?_); rintro e w' ⟨rfl, rfl⟩)
          | (go_at_call 14; refine (refNew_p (U := U) (q := q2) EN.out.2.1 (HJ.out.ext (HD8.out.2.trans x11)) HU.out.2.1 (by omega)).mono ?_; rintro e w12 ⟨v12, rfl, hk12, hset12⟩; obtain ⟨p12, rfl⟩ := hset12.isPtr; have x12 := x11.trans hk12; have hB12 := (HD8.out.1.ext x12).blk; have f1 := hB12.cell' 1; have f2 := hB12.cell' 5; have f3 := hB12.free 1; have f4 := hB12.free 5; have f6 := (hB12.set 1 (.pointer p11)).free 5; have f5 := (hB12.set 1 (.pointer p11)).cell' 5)
          | (refine step_run rfl _ _ rfl rfl rfl hrunA ?_))
      all_goals
        have hDK := (DeskAt.widen HD8.out.1 x10 (g := gc) hgc hs10).put2 (i := 1) (by omega) (Kp.refl w10) hk11 hset11 hk12 hset12
        have hx10 := HD8.out.2.trans x10
        obtain ⟨w13, ew13⟩ : ∃ w13, (w12.setCell ⟨W.heap.size, 1, none⟩ (.pointer p11)).setCell ⟨W.heap.size, 5, none⟩ (.pointer p12) = w13 := ⟨_, rfl⟩
        rw [show (w12.setCell ⟨W.heap.size, 1, none⟩ (.pointer p11)).setCell ⟨W.heap.size, 4 + 1, none⟩ (.pointer p12) = w13 from ew13] at hDK
        rw [ew13]
        have hx13 : Ext W w13 := hx10.trans' hDK.2 (fun i hi h => absurd h.1 (Nat.not_le.2 hi))
        obtain ⟨⟨sv2, mv2, G2, hD13⟩, _⟩ := hDK
        have HD13 := Lib.hid (And.intro hD13 hx13)
        clear hD13 hx13 hx10 ew13 f1 f2 f3 f4 f5 f6 hB12 x12 x11 x10 x9 hk9 hk10 hk11 hk12 hset11 hset12 ho9 ho10 hs9 hs10 hc10 hrunA HD8 HBG HBD HD0 HG6 H77 HLG
        go_wp2_with fail
        go_region_held3 (fun _ => True) (first | trivial | go_keep)
          (first
            | (go_at_call 14; refine (refNew_p (U := U) (q := 3) (zs := []) (w := w13.drew) rfl (CellsAt.nil _ _) (by simp) (by decide)).mono ?_; rintro e w14 ⟨v14, rfl, hk14, hset14⟩; obtain ⟨p14, rfl⟩ := hset14.isPtr; have x14 : Ext w13 w14 := Kp.trans (Kp.refl w13).drew hk14; have x15 := x14.alloc (.cells #[.nilFunc, .slice none 0 0] 42); have hBz := Blk.new w14 [.nilFunc, .slice none 0 0] 42; have hDK := HD13.out.1.zero x15 x14.size hBz ((hset14.mono (G2 := fun k => w13.heap.size ≤ k ∧ k ≠ w14.heap.size) (fun k h1 h2 => ⟨h2, by omega⟩)).ext ((Kp.refl w14).alloc _)); have hBq := (HD13.out.1.ext x15).blk; have f1 := hBq.cell' 2; have f2 := hBq.cell' 6; have f3 := hBq.free 2; have f4 := hBq.free 6; have f6 := (hBq.set 2 (.pointer (some ⟨w14.heap.size, 0, none⟩))).free 6; have f5 := (hBq.set 2 (.pointer (some ⟨w14.heap.size, 0, none⟩))).cell' 6; clear hBq hBz hset14 x15)
            | (go_at_call 14; refine (refNew_p (U := U) (q := 3) (zs := []) (w := (w13.alloc (.cells #[.nilFunc, .slice none 0 0] 42)).drew) rfl (CellsAt.nil _ _) (by simp) (by decide)).mono ?_; rintro e w14 ⟨v14, rfl, hk14, hset14⟩; obtain ⟨p14, rfl⟩ := hset14.isPtr; have x14 : Ext w13 w14 := Kp.trans (((Kp.refl w13).alloc (.cells #[.nilFunc, .slice none 0 0] 42)).drew) hk14; have hBz := Blk.ext (Blk.drew (Blk.new w13 [.nilFunc, .slice none 0 0] 42)) hk14; have hDK := HD13.out.1.zero x14 (Nat.le_refl _) hBz (hset14.mono (G2 := fun k => w13.heap.size ≤ k ∧ k ≠ w13.heap.size) (fun k h1 h2 => by have h3 : (w13.alloc (.cells #[.nilFunc, .slice none 0 0] 42)).heap.size ≤ k := h2; rw [alloc_size] at h3; exact ⟨by omega, by omega⟩)); have hBq := (HD13.out.1.ext x14).blk; have f1 := hBq.cell' 2; have f2 := hBq.cell' 6; have f3 := hBq.free 2; have f4 := hBq.free 6; have f6 := (hBq.set 2 (.pointer (some ⟨w13.heap.size, 0, none⟩))).free 6; have f5 := (hBq.set 2 (.pointer (some ⟨w13.heap.size, 0, none⟩))).cell' 6; clear hBq hBz hset14))
      all_goals
        first
          | (obtain ⟨wz, ewz⟩ : ∃ wz, ((w14.alloc (.cells #[.nilFunc, .slice none 0 0] 42)).setCell ⟨W.heap.size, 2, none⟩ (.pointer (some ⟨w14.heap.size, 0, none⟩))).setCell ⟨W.heap.size, 6, none⟩ (.pointer p14) = wz := ⟨_, rfl⟩
             rw [ewz] at hDK)
          | (obtain ⟨wz, ewz⟩ : ∃ wz, (w14.setCell ⟨W.heap.size, 2, none⟩ (.pointer (some ⟨w13.heap.size, 0, none⟩))).setCell ⟨W.heap.size, 6, none⟩ (.pointer p14) = wz := ⟨_, rfl⟩
             rw [ewz] at hDK)
        rw [ewz]
        have hxz : Ext W wz := HD13.out.2.trans' hDK.2 (fun i hi h => absurd h.1 (Nat.not_le.2 hi))
        have HZ := Lib.hid (And.intro hDK.1 hxz)
        clear hDK hxz ewz f1 f2 f3 f4 f5 f6 x14 hk14 HD13 hS1 hs8 hgb hgc hn1a hn1b b1 b2 b3 hg hg2
        go_wp2_with fail
        go_loopw [16] (ScriptAt (fun k => (False ∨ k = gb) ∨ k = gc) U (fun k => W.heap.size ≤ k ∧ k ≠ g) W.heap.size W t) (fun kv _ => t - (intOf kv).toNat)
        case atStart => exact ⟨0, Nat.zero_le _, rfl, HZ.out.1, HZ.out.2⟩
        case round =>
          obtain ⟨i, hi, rfl, hdk, hxw⟩ := hrel
          by_cases hlt : i < t
          · obtain ⟨o, ho⟩ : ∃ o, ops[i]? = some o := ⟨_, List.getElem?_eq_getElem (by rw [← EN.out.2.2]; exact hlt)⟩
            have hox := HU.out.2.2 o (List.mem_of_getElem? ho)
            obtain ⟨b0, o0, eak, hb0, hc0⟩ := (HK.out.ext hxw) i o ho
            obtain ⟨k1, k2, k3, k4⟩ := o
            have d0 := hc0 0 _ rfl
            have d1 := hc0 1 _ rfl
            have d2 := hc0 2 _ rfl
            have d3 := hc0 3 _ rfl
            simp only [Nat.add_zero, ← Nat.add_assoc] at d0 d1 d2 d3
            have HST := Lib.hid (step_any hU k1 k2 k3 k4 hox hdk)
            have HXW := Lib.hid hxw
            clear hc0 ho hdk hxw hox
            have i0 : (i : Int) < (t : Int) := by omega
            subst eak
            go_wp2_with fail
            refine HST.out.mono ?_
            rintro e ws ⟨vs, rfl, hks, rfl, hds⟩
            go_wp2
            go_roundw
            case rel => exact ⟨i + 1, by omega, by go_num, hds, HXW.out.trans' hks (fun i hi h => absurd h.1 (Nat.not_le.2 hi))⟩
            case measure => first | (simp [intOf]; done) | (simp [intOf]; omega)
          · obtain ⟨sv3, mv3, G3, hd3⟩ := hdk
            have HT := Lib.hid (And.intro hd3 hxw)
            clear hd3 hxw
            have i0 : ¬ (i : Int) < (t : Int) := by omega
            clear hlt hi
            go_wp2_with fail
            refine (show Calls Try.prog 18 #[.pointer (some ⟨W.heap.size, 0, none⟩), .int .i64 0] wr _ from told_slot HT.out.1 (i := 0) (by decide)).mono ?_
            rintro e w20 ⟨v20, rfl, hk20, rfl⟩
            go_wp2_with fail
            refine (show Calls Try.prog 18 #[.pointer (some ⟨W.heap.size, 0, none⟩), .int .i64 1] w20 _ from told_slot (HT.out.1.ext hk20) (i := 1) (by decide)).mono ?_
            rintro e w21 ⟨v21, rfl, hk21, rfl⟩
            go_wp2_with fail
            refine (show Calls Try.prog 18 #[.pointer (some ⟨W.heap.size, 0, none⟩), .int .i64 2] w21 _ from told_slot ((HT.out.1.ext hk20).ext hk21) (i := 2) (by decide)).mono ?_
            rintro e w22 ⟨v22, rfl, hk22, rfl⟩
            go_wp2_with fail
            refine (show Calls Try.prog 18 #[.pointer (some ⟨W.heap.size, 0, none⟩), .int .i64 3] w22 _ from told_slot (((HT.out.1.ext hk20).ext hk21).ext hk22) (i := 3) (by decide)).mono ?_
            rintro e w23 ⟨v23, rfl, hk23, rfl⟩
            go_wp2
            go_ret
            exact ⟨rfl, ((((HT.out.2.trans hk20).trans hk21).trans hk22).trans hk23).below⟩
/-- The same for values that are numbers. -/
theorem sets_walk' (v0 v1 v2 v3 v4 : Value) (W : World) (h0 : ∃ n, v0 = .int .i64 n) (h1 : ∃ n, v1 = .int .i64 n) (h2 : InInts W v2 1048576) (h3 : InInts W v3 1048576) (h4 : InOps W v4 1048576) :
    Calls Try.prog 4 #[v0, v1, v2, v3, v4] W (fun e W' => e = .returned (.bool true) ∧ Below W.heap.size W W') := by
  obtain ⟨x, rfl⟩ := h0
  obtain ⟨y, rfl⟩ := h1
  exact sets_walk x y v2 v3 v4 W h2 h3 h4
end Go.Proofs.Ytfkhelihepbehaa
