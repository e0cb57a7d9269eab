/- Texts joined for a claim (Takes, Marks, Lend, Map, Ints, Arg, SwapStr, InsStr, SymLStr, SymStr, SymGStr, SortStr, BinStr, CompactStr). -/
import Derived.Test.YtfkhelihepbehaaGreatLa1
import Derived.Deep.RegionHeld3
import Derived.RangeFuncNested
import Derived.RangeFuncBound
import Derived.RangeFuncCalls
import Derived.RangeFuncLeaves
import Derived.Shelf.Abstract
import Derived.Shelf.RegionOpen
import Derived.OwnWalkIn
import Derived.TacticsInMore
import Derived.LoopNIn
import Derived.LoopIn
import Derived.WideKeyRuns
import Derived.MapKept
import Derived.Test.YtfkhelihepbehaaGreatProg
import Derived.BigRegion
import Derived.StillTailTactics
import Derived.Deep.QuietTactic
import Derived.BigQuiet
import Derived.Deep.DeepCutAuto
import Derived.Deep.RegionWith
/- A region that draws its order, walked in the text's order, guards and all: the laws beneath the lines that takes.py prints. No program in sight. -/
namespace Go.Proofs.YtfkhelihepbehaaGreat
set_option linter.unusedVariables false

section
variable {P : Program} {l : List Oper} {Q : Exit → Act → World → Prop} {md : Region.Mode} {S : World → Prop} {fuel : Nat} {listed : Array Bool} {a : Act} {w : World}
theorem op_at {i : Nat} {oi : Oper} (hi : l[i]? = some oi) : l.toArray[i]? = some oi := by rw [List.getElem?_toArray]; exact hi
theorem and3 {a b c : Bool} (h : (a && b && c) = true) : a = true ∧ b = true ∧ c = true := by
  cases a <;> cases b <;> cases c <;> simp_all
/-- It is wanted and yields v. -/
theorem take_in {i : Nat} {oi : Oper} {v : Value} (hi : l[i]? = some oi) (hy : ∀ w, S w → (execOp a.eval oi).run P w = .ok (.value v) w)
    (h : wpAnyH P md l.toArray Q S fuel (listed.setIfInBounds i true) (a.put oi.dst v) w)
    (side : (Region.noSelect l.toArray && Region.free md l.toArray listed i && (Region.ready md l.toArray listed).contains i) = true := by kernel_rfl)
    (hw : Region.wanted oi (yielded l.toArray a.tmps) = true := by rfl) (hQ : ∀ c a w, Q (.panic c) (a.put oi.dst v) w → Q (.panic c) a w := by exact fun _ _ _ h => h) (hS : S w := by assumption) :
    wpAnyH P md l.toArray Q S (fuel + 1) listed a w :=
  wpAnyH_take (op_at hi) (and3 side).1 (and3 side).2.1 (and3 side).2.2 hQ (.inl ⟨hw, hy⟩) hS h
/-- Its guard says no. -/
theorem take_out {i : Nat} {oi : Oper} (hi : l[i]? = some oi) (h : wpAnyH P md l.toArray Q S fuel (listed.setIfInBounds i true) (a.put oi.dst undef) w)
    (side : (Region.noSelect l.toArray && Region.free md l.toArray listed i && (Region.ready md l.toArray listed).contains i) = true := by kernel_rfl)
    (hw : Region.wanted oi (yielded l.toArray a.tmps) = false := by rfl) (hQ : ∀ c a w, Q (.panic c) (a.put oi.dst undef) w → Q (.panic c) a w := by exact fun _ _ _ h => h) (hS : S w := by assumption) :
    wpAnyH P md l.toArray Q S (fuel + 1) listed a w :=
  wpAnyH_take (op_at hi) (and3 side).1 (and3 side).2.1 (and3 side).2.2 hQ (.inr ⟨hw, rfl⟩) hS h
/-- It alone may come up. -/
theorem take_call {i : Nat} {o : Oper} (ho : l[i]? = some o)
    (h : ∀ K' : Act → World → Prop, Shut (∀ a w, S w → (S w → wpAnyH P md l.toArray Q S fuel (listed.setIfInBounds i true) a w) → K' a w) → if Region.wanted o (yielded l.toArray a.tmps) = true then Oper.wp P o a w K' Q else K' (a.put o.dst undef) w)
    (hr : Region.ready md l.toArray listed = [i] := by kernel_rfl) : wpAnyH P md l.toArray Q S (fuel + 1) listed a w :=
  wpAnyH_ready hr (by simp) (AllReadyH.cons (op_at ho) h AllReadyH.nil)
end
end Go.Proofs.YtfkhelihepbehaaGreat

/- A function that holds ranges over functions leaves with marks among its deferred calls; what an iterator over a slice keeps. No program in sight. -/
namespace Go.Proofs.YtfkhelihepbehaaGreat
open Go.RowKit Go.Shelf
set_option linter.unusedVariables false

/-- The blocks of S lie as they lay. -/
def SameOn (S : Nat → Prop) (w w' : World) : Prop := w.heap.size ≤ w'.heap.size ∧ ∀ k, S k → w'.heap[k]? = w.heap[k]?
theorem SameOn.refl (S : Nat → Prop) (w : World) : SameOn S w w := ⟨Nat.le_refl _, fun _ _ => rfl⟩
theorem SameOn.trans {S : Nat → Prop} {a b c : World} (h : SameOn S a b) (k : SameOn S b c) : SameOn S a c := ⟨Nat.le_trans h.1 k.1, fun i hi => (k.2 i hi).trans (h.2 i hi)⟩
theorem SameOn.put {S : Nat → Prop} {w : World} (hS : ∀ k, S k → k < w.heap.size) (W : World) (l : Nat) (o o' : Obj) (hl : w.heap.size ≤ l) (h : W.heap[l]? = some o) (_ : o.isCells = false) (_ : o.isWalk = false) : SameOn S W (W.putObj l o') := by
  have hg := grownBy_putObj' W l o'
  refine ⟨hg.size, fun k hk => hg.block k ?_ fun e => by have := hS k hk; cases e; omega⟩
  have := hS k hk
  have := (Array.getElem?_eq_some_iff.1 h).1
  omega
theorem SameOn.of_kp {F : Nat → Prop} {S : Nat → Prop} {w w' : World} (h : Kp F w w') (hS : ∀ k, S k → k < w.heap.size) (hd : ∀ k, S k → ¬ F k) : SameOn S w w' := ⟨h.size, fun k hk => h.block k (hS k hk) (hd k hk)⟩
theorem SameOn.cell {S : Nat → Prop} {w w' : World} (h : SameOn S w w') {b o : Nat} (hb : S b) : w'.cell? ⟨b, o, none⟩ = w.cell? ⟨b, o, none⟩ := World.cell?_of_block (h.2 b hb)

/-- Marks of loops that are over: their blocks are shut, came since lo, and none is there twice. -/
def Marks (lo : Nat) (w : World) (ds : List Deferred) : Prop :=
  ∃ Ds : List Nat, ds = Ds.map (fun D => { target := .collected D, args := #[] }) ∧ Ds.Nodup ∧ ∀ D ∈ Ds, lo ≤ D ∧ w.heap[D]? = some (.deferred (some []))
theorem Marks.nil (lo : Nat) (w : World) : Marks lo w [] := ⟨[], rfl, List.nodup_nil, by simp⟩
theorem Marks.kp {F : Nat → Prop} {lo : Nat} {w w' : World} {ds : List Deferred} (h : Marks lo w ds) (hk : Kp F w w') (hF : ∀ k, F k → k < lo) : Marks lo w' ds := by
  obtain ⟨Ds, e, hn, h⟩ := h
  refine ⟨Ds, e, hn, fun D hD => ⟨(h D hD).1, ?_⟩⟩
  obtain ⟨h1, h2⟩ := h D hD
  exact (hk.block D (lt_of_block h2) fun hf => by have := hF D hf; omega).trans h2
/-- Whatever is no cells lies as it lay. -/
theorem Marks.others {lo : Nat} {w w' : World} {ds : List Deferred} (h : Marks lo w ds) (hk : KeepsOthers w w') : Marks lo w' ds := by
  obtain ⟨Ds, e, hn, h⟩ := h
  exact ⟨Ds, e, hn, fun D hD => ⟨(h D hD).1, hk.same D _ (h D hD).2 rfl⟩⟩
theorem Marks.push {lo : Nat} {w w' : World} {ds : List Deferred} {D : Nat} (h : Marks lo w ds) (hk : ∀ (k : Nat) (o : Obj), w.heap[k]? = some o → o.isCells = false → w'.heap[k]? = some o) (hD : w.heap.size ≤ D) (hlo : lo ≤ D) (hd : w'.heap[D]? = some (.deferred (some []))) :
    Marks lo w' ({ target := .collected D, args := #[] } :: ds) := by
  obtain ⟨Ds, e, hn, h⟩ := h
  refine ⟨D :: Ds, by rw [e]; rfl, List.nodup_cons.2 ⟨fun hm => ?_, hn⟩, fun D' hD' => ?_⟩
  · have := lt_of_block (h D hm).2; omega
  · rcases List.mem_cons.1 hD' with rfl | hD'
    · exact ⟨hlo, hd⟩
    · exact ⟨(h D' hD').1, hk D' _ (h D' hD').2 rfl⟩

/-- The world behind the marks: blocks that came since lo and are no cells have turned alone. -/
theorem leaves_marks {P : Program} {F : Fence} {n : Nat} {fn : Func} {tmps : Array Value} {R : Ending → World → Prop} {lo : Nat} {w : World} {ds : List Deferred} (h : Marks lo w ds)
    (hR : ∀ w', w'.os = w.os → w'.tape = w.tape → w'.output = w.output → w'.heap.size = w.heap.size → (∀ k : Nat, k < lo → w'.heap[k]? = w.heap[k]?) → (∀ (k : Nat) (o : Obj), w.heap[k]? = some o → o.isCells = true → w'.heap[k]? = some o) →
      LeavesIn F n P fn tmps R [] .returning w') : LeavesInM F n P fn tmps R ds .returning w := by
  obtain ⟨Ds, rfl, hn, h⟩ := h
  induction Ds generalizing w with
  | nil => exact hR w rfl rfl rfl rfl (fun _ _ => rfl) (fun _ _ h _ => h)
  | cons D Ds ih =>
    obtain ⟨h1, h2⟩ := List.nodup_cons.1 hn
    obtain ⟨hlo, hD⟩ := h D (by simp)
    have hg := grownBy_putObj' w D (.deferred none)
    have hlt := lt_of_block hD
    refine ⟨by simp, .inl ⟨D, _, rfl, run_takeDeferred hD, ?_⟩⟩
    have hsz : (w.putObj D (.deferred none)).heap.size = w.heap.size := by simp [World.putObj]
    refine ih (fun w' e1 e2 e3 e4 e5 e6 => hR w' (e1.trans hg.os) (e2.trans hg.tape) (e3.trans hg.output) (e4.trans hsz) (fun k hk => (e5 k hk).trans (hg.block k (by omega) (by rintro ⟨⟩; omega))) (fun k o hk ho => ?_)) h2 (fun D' hD' => ?_)
    · refine e6 k o ((hg.block k (lt_of_block hk) ?_).trans hk) ho
      rintro ⟨⟩
      rw [hD] at hk; cases hk; cases ho
    · obtain ⟨h3, h4⟩ := h D' (List.mem_cons_of_mem _ hD')
      refine ⟨h3, (hg.block D' (lt_of_block h4) ?_).trans h4⟩
      rintro ⟨⟩
      exact h1 hD'

/-- wp_app inside a fence (in a round of a range over a function, say). -/
theorem wpIn_app {P : Program} {FF : Fence} {nF : Nat} {w : World} {t e : TypeId} {k bytes : Nat} {z : Value} (E : ElemT P t e k bytes z) {ops : Array Oper} {rest : List Oper} {o : Oper} {a : Act} {Q : Exit → Act → World → Prop} (hgd : o.guard = none) (s x : Operand)
    (ho : o.op = .call { callee := .builtin .append, args := #[s, x], argTypes := #[t, t] })
    {F : Nat → Prop} {w0 : World} (hkp : Kp F w0 w) {M : Nat → Prop} (hM : ∀ g, M g → g < w0.heap.size → F g) (hN : ∀ g, w.heap.size ≤ g → M g)
    {v : Value} {n : Nat} {xs : List Value} (hs : a.eval s = v) (hr : Row w e k v n xs M)
    {ao : Option Addr} {m c : Nat} {news : List Value} (hx : a.eval x = .slice ao m c) (hl : news.length = m * k) (hsrc : CellsAt w ao news) (h1 : ∀ u ∈ news, u.oneCell' = true)
    (hb : (n + m) * bytes ≤ 140737488355328) (h63 : n + m ≤ maxLen)
    (h : ∀ v' w', Row w' e k v' (n + m) (xs ++ news) M → Kp F w0 w' → Kp (fun g => v.ownBlock = some g) w w' → KeepsOthers w w' → (v' = .slice none 0 0 ↔ v = .slice none 0 0 ∧ m = 0) → wpListIn FF nF P ops Q rest (a.put o.dst v') w') : wpListIn FF nF P ops Q (o :: rest) a w := by
  refine wpListIn_plain hgd fun K hK => ?_
  obtain ⟨v', w', hrun, h2, h3, h4⟩ := run_app (P := P) E o.type hr hl hsrc h1 hb h63 (c := c)
  unfold Oper.wpIn
  refine ⟨by simp [Oper.about, ho, resolve, Target.leads, Sem.run_pure], ?_⟩
  rw [Oper.semAt_plain FF _ _ (by rw [ho]; intro c hc'; cases hc')]
  simp only [execOp, ho, resolve, invoke, builtin, Sem.run_bind, Sem.run_pure, Result.andThen_ok, List.map_toArray, List.map_cons, List.map_nil, hs, hx, hrun]
  refine hK _ _ (h v' w' (h2.mono fun g hg => ?_) (hkp.trans' h3 fun i hi hg => hM i (hr.block i hg) hi) h3 ⟨h3.size, fun k o hk ho => ?_⟩ h4)
  · rcases hg with hg | hg
    · exact hr.block g hg
    · exact hN g hg
  · refine (h3.block k (lt_of_block hk) fun hg => ?_).trans hk
    obtain ⟨_, ⟨rfl, _⟩ | ⟨g, cap, rest', rfl, _, hB, _⟩⟩ := hr
    · cases hg
    · cases hg
      unfold Blk at hB
      rw [hB] at hk; cases hk; cases ho

theorem Row.grown {e : TypeId} {k : Nat} {v : Value} {n : Nat} {xs : List Value} {M : Nat → Prop} {W W' : World} {row : Option Nat} (h : Row W e k v n xs M) (hg : W.grownBy W' row) (hr : ∀ r, row = some r → ∃ o : Obj, W.heap[r]? = some o ∧ o.isCells = false) : Row W' e k v n xs M := by
  refine h.kp' (F := fun i => row = some i) ((Kp.refl W).grown hg fun i e _ => e) fun g hv _ hrow => ?_
  obtain ⟨o, ho, hc⟩ := hr g hrow
  obtain ⟨_, ⟨rfl, _⟩ | ⟨g', cap, rest', rfl, _, hB, _⟩⟩ := h
  · cases hv
  · cases hv
    unfold Blk at hB
    rw [hB] at ho; cases ho; cases hc
theorem Blk.grown {g : Nat} {cs : List Value} {e : TypeId} {W W' : World} {row : Option Nat} (h : Blk W g cs e) (hg : W.grownBy W' row) (hr : ∀ r, row = some r → ∃ o : Obj, W.heap[r]? = some o ∧ o.isCells = false) : Blk W' g cs e := by
  refine h.kp (F := fun i => row = some i) ((Kp.refl W).grown hg fun i e _ => e) fun hrow => ?_
  obtain ⟨o, ho, hc⟩ := hr g hrow
  unfold Blk at h
  rw [h] at ho; cases ho; cases hc
end Go.Proofs.YtfkhelihepbehaaGreat

/- The walks of the statements' helpers lent, same, kept. -/
namespace Go.Proofs.YtfkhelihepbehaaGreat
open Go.RowKit
set_option linter.unusedVariables false

theorem elem_str : ElemT Tryz.prog 29 9 1 16 (.string ⟨#[]⟩) := ⟨by kernel_rfl, by kernel_rfl, rfl, by decide⟩

def mark1 : ByteArray := ⟨#[60, 109, 97, 114, 107]⟩
def mark2 : ByteArray := ⟨#[109, 97, 114, 107, 62]⟩

/-- What 'lent' hands back: a block of its own with the row and two marks. -/
def Lent (w : World) (n : Nat) (ss : List ByteArray) (w' : World) (v : Value) : Prop :=
  ∃ g cap rest, v = .slice (some ⟨g, 0, none⟩) n cap ∧ w.heap.size ≤ g ∧ Blk w' g (strs (ss ++ [mark1, mark2]) ++ rest) 9 ∧ n + 2 + rest.length = cap ∧ cap ≤ maxLen

theorem strs_one (ss : List ByteArray) : ∀ u ∈ strs ss, u.oneCell' = true := by
  intro u hu; obtain ⟨s, _, rfl⟩ := List.mem_map.1 hu; rfl

theorem strs_snoc2 (ss : List ByteArray) (a b : ByteArray) : strs (ss ++ [a, b]) = strs ss ++ [.string a, .string b] := by simp [strs]

set_option maxHeartbeats 400000 in
theorem lent_any (ss : List ByteArray) (a : Option Addr) (c : Nat) (w : World) (ha : CellsAt w a (strs ss)) (hx : ss.length ≤ 8796093021952) :
    Calls Tryz.prog 57 #[.slice a ss.length c] w (RetN w (Lent w ss.length ss)) := by
  go_enter Tryz.func57, Tryz.ntmps57
  have hr0 := Row.empty w 9 1 (New w) (Nat.le_refl _)
  have ha1 := ha.alloc (.cells #[] 9)
  have hk0 := (Kp.refl (F := fun _ => False) w).alloc (.cells #[] 9)
  go_wp2_with (first | (at_builtin; refine Halted.out ?_))
  refine Halted.mk (wp_appN elem_str rfl _ _ rfl hk0 rfl hr0 rfl ha1 (by simp [strs]) (strs_one _) (by omega) (by unfold maxLen; omega) ?_)
  intro v1 w1 hr1 hk1 _ _
  clear hr0 ha1 hk0
  go_wp2_with (first | (at_builtin; refine Halted.out ?_))
  refine Halted.mk (wp_appN elem_str rfl _ _ rfl (hk1.alloc _) rfl (hr1.alloc _) rfl (CellsAt.two _ _ _ _) rfl (by simp [Value.oneCell']) (by omega) (by unfold maxLen; omega) ?_)
  intro v2 w2 hr2 hk2 _ _
  clear hr1 hk1
  obtain ⟨_, ⟨rfl, h⟩ | ⟨g, cap, rest, rfl, hg, hB, hl, hc, hm⟩⟩ := hr2
  · omega
  go_wp2
  go_ret
  refine RetN.mk hk2 ⟨g, cap, rest, rfl, hg, ?_, ?_, hm⟩
  · rw [strs_snoc2]; exact hB
  · simp [strs] at hl; omega

theorem same_yes (ss : List ByteArray) (a b : Option Addr) (c d : Nat) (w : World) (ha : CellsAt w a (strs ss)) (hb : CellsAt w b (strs ss)) (hx : ss.length ≤ maxLen) :
    Calls Tryz.prog 78 #[.slice a ss.length c, .slice b ss.length d] w (RetD (.bool true) w) := by
  unfold maxLen at hx
  go_enter Tryz.func78, Tryz.ntmps78
  go_wp2
  go_loopw [5] (fun i wr => ∃ k n : Nat, k ≤ ss.length ∧ i = .int .i64 k ∧ wr = w.drewN n) (fun i _ => ss.length - (intOf i).toNat)
  case atStart => exact ⟨0, 0, Nat.zero_le _, rfl, rfl⟩
  case round =>
    obtain ⟨k, n, hk, rfl, rfl⟩ := hrel
    by_cases h1 : k < ss.length
    · obtain ⟨b1, o1, rfl, c1⟩ := ha.str h1
      obtain ⟨b2, o2, rfl, c2⟩ := hb.str h1
      go_wp2
      go_quiet (fail)
      go_wp2
      go_roundw
      case rel => exact ⟨k + 1, _, by omega, by go_num, rfl⟩
      case measure => simp [intOf]; omega
    · go_wp2
      go_ret
      refine RetD.mk' rfl ?_
      first | exact ⟨_, rfl⟩ | exact drew_ex2 _ _ _ | exact drew_ex3 _ _ _ | exact ⟨_, by rw [World.drewN_drewN, World.drewN_drewN]⟩

theorem same_len (xs ys : List ByteArray) (a b : Option Addr) (c d : Nat) (w : World) (h : xs.length ≠ ys.length) :
    Calls Tryz.prog 78 #[.slice a xs.length c, .slice b ys.length d] w (RetD (.bool false) w) := by
  have h' : ((xs.length : Int) != (ys.length : Int)) = true := by rw [bne_iff_ne]; omega
  go_enter Tryz.func78, Tryz.ntmps78
  go_wp2
  go_ret
  exact RetD.mk rfl 0

theorem same_no (xs ys : List ByteArray) (a b : Option Addr) (c d : Nat) (w : World) (ha : CellsAt w a (strs xs)) (hb : CellsAt w b (strs ys)) (hx : xs.length ≤ maxLen) (hne : xs ≠ ys) :
    Calls Tryz.prog 78 #[.slice a xs.length c, .slice b ys.length d] w (RetD (.bool false) w) := by
  by_cases hl : xs.length = ys.length
  rotate_left
  · exact same_len xs ys a b c d w hl
  unfold maxLen at hx
  have h' : ((xs.length : Int) != (ys.length : Int)) = false := by rw [bne_eq_false_iff_eq]; omega
  have HL := Lib.hid hl; clear hl
  have HN := Lib.hid hne; clear hne
  go_enter Tryz.func78, Tryz.ntmps78
  go_wp2
  go_loopw [5] (fun i wr => ∃ k n : Nat, k ≤ xs.length ∧ i = .int .i64 k ∧ wr = w.drewN n ∧ xs.take k = ys.take k) (fun i _ => xs.length - (intOf i).toNat)
  case atStart => exact ⟨0, 0, Nat.zero_le _, rfl, rfl, rfl⟩
  case round =>
    obtain ⟨k, n, hk, rfl, rfl, htk⟩ := hrel
    have HT := Lib.hid htk; clear htk
    by_cases h1 : k < xs.length
    · have h2 : k < ys.length := by have := HL.out; omega
      obtain ⟨b1, o1, rfl, c1⟩ := ha.str h1
      obtain ⟨b2, o2, rfl, c2⟩ := hb.str h2
      have htake : xs[k] = ys[k] → xs.take (k+1) = ys.take (k+1) := fun e => by
        rw [List.take_succ_eq_append_getElem h1, List.take_succ_eq_append_getElem h2, HT.out, e]
      have HK := Lib.hid htake; clear htake
      generalize xs[k] = x at *
      generalize ys[k] = y at *
      by_cases e : x = y
      · have e' : (!(x.toList == y.toList)) = false := by rw [e]; simp
        have HE := Lib.hid e; clear e
        go_wp2
        go_quiet (fail)
        go_wp2
        go_roundw
        case rel => exact ⟨k + 1, _, by omega, by go_num, rfl, HK.out HE.out⟩
        case measure => simp [intOf]; omega
      · have e' : (!(x.toList == y.toList)) = true := by
          cases h : (x.toList == y.toList)
          · rfl
          · exact absurd (toList_inj (eq_of_beq h)) e
        clear e
        go_wp2
        go_quiet (fail)
        go_wp2
        go_ret
        refine RetD.mk' rfl ?_
        first | exact ⟨_, rfl⟩ | exact drew_ex2 _ _ _ | exact drew_ex3 _ _ _ | exact ⟨_, by rw [World.drewN_drewN, World.drewN_drewN]⟩
    · exfalso
      have hk' : k = xs.length := by omega
      have h1 := HT.out
      rw [List.take_of_length_le (by omega), List.take_of_length_le (by have := HL.out; omega)] at h1
      exact HN.out h1

theorem same_any (xs ys : List ByteArray) (a b : Option Addr) (c d : Nat) (w : World) (ha : CellsAt w a (strs xs)) (hb : CellsAt w b (strs ys)) (hx : xs.length ≤ maxLen) :
    Calls Tryz.prog 78 #[.slice a xs.length c, .slice b ys.length d] w (RetD (.bool (decide (xs = ys))) w) := by
  by_cases h : xs = ys
  · subst h
    rw [decide_eq_true rfl]
    exact same_yes xs a b c d w ha hb hx
  · rw [decide_eq_false h]
    exact same_no xs ys a b c d w ha hb hx h

set_option maxHeartbeats 1000000 in
theorem kept_any (ss : List ByteArray) (g cap : Nat) (a : Option Addr) (c : Nat) (rest : List Value) (w : World) (hB : Blk w g (strs (ss ++ [mark1, mark2]) ++ rest) 9) (hcap : ss.length + 2 ≤ cap) (ha : CellsAt w a (strs ss)) (hx : ss.length ≤ 8796093021952)
    (hsz : ∀ s ∈ ss, s.size ≤ 4611686018427387904) :
    Calls Tryz.prog 73 #[.slice (some ⟨g, 0, none⟩) ss.length cap, .slice a ss.length c] w (RetF (fun k => k = g) w fun _ v => v = .bool true) := by
  have hl : CellsAt w (some ⟨g, 0, none⟩) (strs ss) := by
    rw [strs_snoc2, List.append_assoc] at hB
    exact CellsAt.pre hB
  have hlen : (strs (ss ++ [mark1, mark2]) ++ rest).length = ss.length + 2 + rest.length := by simp [strs]; omega
  have c1 : w.cell? ⟨g, ss.length, none⟩ = some (.string mark1) := by
    rw [hB.cell']; simp [strs]
  have c2 : w.cell? ⟨g, ss.length + 1, none⟩ = some (.string mark2) := by
    rw [hB.cell']; simp [strs]
  have hne : ¬ cap = 0 := by omega
  have m1 : (mark1.toList == [60, 109, 97, 114, 107]) = true := by decide +kernel
  have m2 : (mark2.toList == [109, 97, 114, 107, 62]) = true := by decide +kernel
  go_enter Tryz.func73, Tryz.ntmps73
  go_wp2_with fail
  refine (same_yes ss _ _ _ _ _ hl ha (by unfold maxLen; omega)).mono ?_
  rintro e w' ⟨rfl, n, rfl⟩
  go_wp2
  have hBH := Lib.hid hB; clear hB
  have hlenH := Lib.hid hlen; clear hlen
  clear c1 c2 m1 m2 hl ha
  go_loopw [7] (fun i wr => ∃ k : Nat, k ≤ ss.length ∧ i = .int .i64 k ∧ Kp (fun k => k = g) w wr ∧ ∃ cs, Blk wr g cs 9 ∧ cs.length = ss.length + 2 + rest.length ∧ ∀ j, (hj : j < ss.length) → k ≤ j → cs[j]? = some (.string ss[j])) (fun i _ => ss.length - (intOf i).toNat)
  case atStart =>
    refine ⟨0, Nat.zero_le _, rfl, (Kp.refl _).drewN n, _, hBH.out.drewN n, hlenH.out, fun j hj _ => ?_⟩
    simp [strs, hj, List.getElem?_append]
  case round =>
    obtain ⟨k, hk, rfl, hkp, cs, hb, hcs, hcell⟩ := hrel
    have hcsH := Lib.hid hcs; clear hcs
    by_cases h1 : k < ss.length
    · have c3 : wr.cell? ⟨g, k, none⟩ = some (.string ss[k]) := by rw [hb.cell']; exact hcell k h1 (Nat.le_refl _)
      have c4 := hb.free k
      have hs := hsz ss[k] (List.getElem_mem h1)
      have hB2 := fun v => hb.set k v
      have hBH2 := Lib.hid hB2; clear hB2 hb
      have hcellH := Lib.hid hcell; clear hcell
      generalize ss[k] = s at *
      go_wp2
      go_roundw
      case rel =>
        refine ⟨k + 1, by omega, by go_num, hkp.setCell (fun _ => rfl) _, _, hBH2.out _, by simp [hcsH.out], fun j hj hkj => ?_⟩
        rw [List.getElem?_set_ne (by omega)]
        exact hcellH.out j hj (by omega)
      case measure => simp [intOf]; omega
    · go_wp2
      go_ret
      exact RetF.mk hkp rfl

end Go.Proofs.YtfkhelihepbehaaGreat

/- Maps whose keys are texts: what is in one, as a list of pairs; looking up, writing. No program in sight. -/
namespace Go.Proofs.YtfkhelihepbehaaGreat
open Go.RowKit
set_option linter.unusedVariables false

/-- The value under a key. -/
def getM (m : List (ByteArray × Value)) (s : ByteArray) : Option Value := (m.find? fun p => decide (p.1 = s)).map (·.2)
/-- A value laid under a key. -/
def putM (m : List (ByteArray × Value)) (s : ByteArray) (v : Value) : List (ByteArray × Value) := if (getM m s).isSome then m.map fun p => if p.1 = s then (p.1, v) else p else m ++ [(s, v)]

/-- A map in memory. -/
def MapIs (w : World) (r : Nat) (m : List (ByteArray × Value)) : Prop :=
  ∃ es clock, w.heap[r]? = some (.map es clock) ∧ es.toList.map (fun e => (e.key, e.val)) = m.map (fun p => (Value.string p.1, p.2)) ∧ (m.map (·.1)).Nodup

section
variable {P : Program} {w w' : World} {r : Nat} {m : List (ByteArray × Value)}
theorem MapIs.kp {F : Nat → Prop} (h : MapIs w r m) (hk : Kp F w w') (hf : ¬ F r) : MapIs w' r m := by
  obtain ⟨es, c, h1, h2⟩ := h
  exact ⟨es, c, (hk.block r (lt_of_block h1) hf).trans h1, h2⟩
theorem MapIs.ext (h : MapIs w r m) (hk : Ext w w') : MapIs w' r m := h.kp hk id
theorem MapIs.lt (h : MapIs w r m) : r < w.heap.size := by
  obtain ⟨es, c, h1, h2⟩ := h
  exact lt_of_block h1
theorem MapIs.new (w : World) : MapIs (w.alloc (.map #[] 0)) w.heap.size [] := by
  refine ⟨#[], 0, ?_, rfl, List.nodup_nil⟩
  show (w.heap.push _)[w.heap.size]? = _; simp

theorem ba_beq (a b : ByteArray) : (a == b) = decide (a = b) := by
  rw [Bool.eq_iff_iff, MapKept.bytes_beq, decide_eq_true_iff]

theorem findNow_str (s : ByteArray) : ∀ (es : List MapEntry) (m : List (ByteArray × Value)) (i : Nat), es.map (fun e => (e.key, e.val)) = m.map (fun p => (Value.string p.1, p.2)) →
    Instr.findNow .string (.string s) es i = some ((m.findIdx? fun p => decide (p.1 = s)).bind fun k => (m[k]?).map fun p => (i + k, p.2))
  | [], [], i, _ => rfl
  | [], _ :: _, i, h => by simp at h
  | _ :: _, [], i, h => by simp at h
  | e :: es, p :: m, i, h => by
    simp only [List.map_cons, List.cons.injEq, Prod.mk.injEq] at h
    obtain ⟨⟨h1, h2⟩, h3⟩ := h
    have ih := findNow_str s es m (i + 1) h3
    by_cases hs : s = p.1
    · subst hs
      simp [Instr.findNow, Instr.sameNow, h1, h2, List.findIdx?_cons, ba_beq]
    · have hb' : decide (p.1 = s) = false := by simp [Ne.symm hs]
      have hb : (s == p.1) = false := by rw [ba_beq]; simp [hs]
      simp only [Instr.findNow, Instr.sameNow, h1, hb, ih, List.findIdx?_cons, hb']
      cases hf : m.findIdx? (fun p => decide (p.1 = s)) with
      | none => simp
      | some k => simp [Nat.add_assoc, Nat.add_comm 1 k]

theorem getM_idx (m : List (ByteArray × Value)) (s : ByteArray) : getM m s = (m.findIdx? fun p => decide (p.1 = s)).bind fun k => (m[k]?).map (·.2) := by
  unfold getM
  induction m with
  | nil => rfl
  | cons p m ih =>
    by_cases hs : p.1 = s
    · simp [hs, List.findIdx?_cons]
    · simp only [List.find?_cons, List.findIdx?_cons, hs, decide_false, Bool.false_eq_true, if_false]
      rw [ih]
      cases m.findIdx? (fun p => decide (p.1 = s)) <;> simp

theorem run_check_str {k : TypeId} (hk : P.underlying k = some .string) (s : ByteArray) (em : Bool) (n : Nat) : (Instr.checkKey em (n + 1) k (.string s)).run P w = .ok () w := by
  simp [Instr.checkKey, run_underlying hk]
theorem run_find_str {k : TypeId} (hk : P.underlying k = some .string) (s : ByteArray) {es : List MapEntry} {r : Option (Nat × Value)} (hf : Instr.findNow .string (.string s) es 0 = some r) : (Instr.findKey k (.string s) es).run P w = .ok r w := by
  simp [Instr.findKey, run_underlying hk, hf]
/-- What a look-up gives. -/
theorem run_lookup_str {t k e : TypeId} (ht : P.underlying t = some (.map k e)) (hk : P.underlying k = some .string) {z : Value} (hz : (zeroValue e).run P w = .ok z w) (h : MapIs w r m) (s : ByteArray) :
    (Instr.lookup t (.map (some r)) (.string s) false).run P w = .ok ((getM m s).getD z) w := by
  obtain ⟨es, c, h1, h2, h3⟩ := h
  have hf := run_find_str (w := w) hk s (findNow_str s es.toList m 0 h2)
  have hg := getM_idx m s
  have hc := run_check_str (w := w) hk s es.isEmpty 9999
  cases hi : m.findIdx? (fun p => decide (p.1 = s)) with
  | none =>
    rw [hi] at hf hg
    simp only [Option.bind_none] at hf hg
    simp [Instr.lookup, run_underlying ht, MapKept.run_getObj_map h1, hc, hf, hg, hz, Result.andThen]
  | some i =>
    rw [hi] at hf hg
    simp only [Option.bind_some] at hf hg
    obtain ⟨hl, _⟩ := List.findIdx?_eq_some_iff_getElem.1 hi
    rw [List.getElem?_eq_getElem hl] at hf hg
    simp only [Option.map_some] at hf hg
    simp [Instr.lookup, run_underlying ht, MapKept.run_getObj_map h1, hc, hf, hg, Result.andThen]

theorem run_stays_str (s : ByteArray) : (Instr.keyThatStays (.string s) (.string s)).run P w = .ok (.string s) w := by
  have h : Instr.sameBits 10000 (.string s) (.string s) = true := by
    simp [Instr.sameBits, ba_beq]
  simp [Instr.keyThatStays, h]
/-- A block turned. -/
def laid (w : World) (r : Nat) (o : Obj) : World := { w with heap := w.heap.setIfInBounds r o }
theorem kp_laid (w : World) (r : Nat) (o : Obj) : Kp (fun k => k = r) w (laid w r o) :=
  ⟨rfl, rfl, rfl, by simp [laid], fun k _ hk => by simp only [laid]; rw [Array.getElem?_setIfInBounds_ne (fun e => hk e.symm)]⟩
theorem laid_same (w : World) (r : Nat) (o : Obj) (h : r < w.heap.size) : (laid w r o).heap[r]? = some o := by
  simp [laid, h]

/-- What a writing does. -/
theorem run_update_str {t k e : TypeId} (ht : P.underlying t = some (.map k e)) (hk : P.underlying k = some .string) (h : MapIs w r m) (s : ByteArray) (v : Value) :
    ∃ w', (Instr.mapUpdate t (.map (some r)) (.string s) v).run P w = .ok () w' ∧ MapIs w' r (putM m s v) ∧ Kp (fun k => k = r) w w' := by
  obtain ⟨es, c, h1, h2, h3⟩ := h
  have hlt := lt_of_block h1
  have hf := run_find_str (w := w) hk s (findNow_str s es.toList m 0 h2)
  have hg := getM_idx m s
  have hc := run_check_str (w := w) hk s false 9999
  have hlen : es.size = m.length := by simpa using congrArg List.length h2
  cases hi : m.findIdx? (fun p => decide (p.1 = s)) with
  | none =>
    rw [hi] at hf hg
    simp only [Option.bind_none] at hf hg
    refine ⟨laid w r (.map (es.push { key := .string s, val := v, born := c }) (c + 1)), ?_, ⟨_, _, laid_same _ _ _ hlt, ?_, ?_⟩, kp_laid _ _ _⟩
    · simp [Instr.mapUpdate, run_underlying ht, MapKept.run_getObj_map h1, hc, hf, Result.andThen, MapKept.run_setObj_map _ h1, laid]
    · simp [putM, hg, h2]
    · have hno := List.findIdx?_eq_none_iff.1 hi
      simp only [putM, hg, Option.isSome_none, Bool.false_eq_true, if_false, List.map_append, List.map_cons, List.map_nil]
      refine List.nodup_append.2 ⟨h3, by simp, ?_⟩
      intro a ha b hb
      simp only [List.mem_singleton] at hb
      subst hb
      obtain ⟨p, hp, rfl⟩ := List.mem_map.1 ha
      have := hno p hp
      simpa using this
  | some i =>
    rw [hi] at hf hg
    simp only [Option.bind_some] at hf hg
    obtain ⟨hl, hpi, hbefore⟩ := List.findIdx?_eq_some_iff_getElem.1 hi
    rw [List.getElem?_eq_getElem hl] at hf hg
    simp only [Option.map_some, Nat.zero_add] at hf hg
    have hei : es[i]? = some (es[i]'(by omega)) := Array.getElem?_eq_getElem (by omega)
    have hpair := congrArg (fun l : List (Value × Value) => l[i]?) h2
    simp only [List.getElem?_map, Array.getElem?_toList, hei, List.getElem?_eq_getElem hl, Option.map_some, Option.some.injEq, Prod.mk.injEq] at hpair
    have hps : m[i].1 = s := by simpa using hpi
    have hkey : (es[i]'(by omega)).key = .string s := by rw [hpair.1, hps]
    refine ⟨laid w r (.map (es.modify i fun e => { e with key := .string s, val := v }) c), ?_, ⟨_, _, laid_same _ _ _ hlt, ?_, ?_⟩, kp_laid _ _ _⟩
    · simp [Instr.mapUpdate, run_underlying ht, MapKept.run_getObj_map h1, hc, hf, hei, hkey, run_stays_str, Result.andThen, MapKept.run_setObj_map _ h1, laid]
    · simp only [putM, hg, Option.isSome_some, if_true]
      apply List.ext_getElem?
      intro q
      have hq := congrArg (fun l : List (Value × Value) => l[q]?) h2
      simp only [List.getElem?_map, Array.getElem?_toList] at hq
      simp only [List.getElem?_map, Array.getElem?_toList, Array.getElem?_modify]
      cases hmq : m[q]? with
      | none =>
        rw [hmq] at hq
        cases heq : es[q]? with
        | none => by_cases e : i = q <;> simp [heq]
        | some x => rw [heq] at hq; simp at hq
      | some p =>
        rw [hmq] at hq
        cases heq : es[q]? with
        | none => rw [heq] at hq; simp at hq
        | some x =>
          rw [heq] at hq
          simp only [Option.map_some, Option.some.injEq, Prod.mk.injEq] at hq
          by_cases e : i = q
          · subst e
            have : p = m[i] := by rw [List.getElem?_eq_getElem hl] at hmq; exact (Option.some.inj hmq).symm
            subst this
            simp [hps]
          · have hne : p.1 ≠ s := by
              intro e2
              have h5 := List.pairwise_iff_getElem.1 h3
              obtain ⟨hql, hqe⟩ := List.getElem?_eq_some_iff.1 hmq
              rcases Nat.lt_or_gt_of_ne e with h6 | h6
              · have := h5 i q (by simpa using hl) (by simpa using hql) h6
                simp only [List.getElem_map, hqe, hps, e2] at this
                exact this rfl
              · have := h5 q i (by simpa using hql) (by simpa using hl) h6
                simp only [List.getElem_map, hqe, hps, e2] at this
                exact this rfl
            simp [e, hne, hq.1, hq.2]
    · simp only [putM, hg, Option.isSome_some, if_true, List.map_map]
      have : (fun x : ByteArray × Value => x.1) ∘ (fun p => if p.1 = s then (p.1, v) else p) = fun x => x.1 := by
        funext p; simp only [Function.comp]; split <;> rfl
      rw [this]; exact h3
end
end Go.Proofs.YtfkhelihepbehaaGreat

/- The statements' helper ints. -/
namespace Go.Proofs.YtfkhelihepbehaaGreat
open Go.RowKit
set_option linter.unusedVariables false

theorem ints_yes (zs : List Int) (a b : Option Addr) (n c d : Nat) (w : World) (hn : n = zs.length) (ha : CellsAt w a (ints zs)) (hb : CellsAt w b (ints zs)) (hx : n ≤ maxLen) :
    Calls Tryz.prog 36 #[.slice a n c, .slice b n d] w (RetD (.bool true) w) := by
  unfold maxLen at hx
  have HN := Lib.hid hn; clear hn
  go_enter Tryz.func36, Tryz.ntmps36
  go_wp2
  go_loopw [5] (fun i wr => ∃ k m : Nat, k ≤ n ∧ i = .int .i64 k ∧ wr = w.drewN m) (fun i _ => n - (intOf i).toNat)
  case atStart => exact ⟨0, 0, Nat.zero_le _, rfl, rfl⟩
  case round =>
    obtain ⟨k, m, hk, rfl, rfl⟩ := hrel
    by_cases h1 : k < n
    · obtain ⟨b1, o1, rfl, c1⟩ := ha.int (show k < zs.length by rw [← HN.out]; exact h1)
      obtain ⟨b2, o2, rfl, c2⟩ := hb.int (show k < zs.length by rw [← HN.out]; exact h1)
      go_wp2
      go_quiet (fail)
      go_wp2
      go_roundw
      case rel => exact ⟨k + 1, _, by omega, by go_num, rfl⟩
      case measure => simp [intOf]; omega
    · go_wp2
      go_ret
      refine RetD.mk' rfl ?_
      first | exact ⟨_, rfl⟩ | exact drew_ex2 _ _ _ | exact drew_ex3 _ _ _ | exact ⟨_, by rw [World.drewN_drewN, World.drewN_drewN]⟩
end Go.Proofs.YtfkhelihepbehaaGreat

/- Arguments as they came in, by their shapes. -/
namespace Go.Proofs.YtfkhelihepbehaaGreat
open Go.ChangeShapes Go.WideShapes Go.ChangeAt Go.RowKit
set_option linter.unusedVariables false
section
variable {P : Program} {α β : Type}
/-- A slice that came in. -/
theorem arg_slice {t : TypeId} {s : Shp P α} (hu : P.underlying t = some (.slice s.ty)) (hc : P.cellsOf t = 1) (hn : 0 < s.n) {H : Type} {enc : TypeId × Value → H} {W : World} {base : Nat} {v : Value} {d : DataW H} {p : List MemPlace}
    (hok : Value.okWide P W .any base t v) (h : DataW.Trod enc P W 0 (fun _ => true) true t v d p) {N : Nat} (hN : Rows.uptoBulk d ≤ N) :
    ∃ ao cap xs, v = .slice ao xs.length cap ∧ xs.length ≤ cap ∧ ElemsAt s W (fun k => k < W.heap.size) ao xs ∧ bulkL s.bulk xs + 1 ≤ N := by
  obtain ⟨ao, len, cap, rfl⟩ := okWide_slice hu hok
  obtain ⟨x, ⟨ao', cap', e, hl, _, hx⟩, hb⟩ := (shSlice t s hu hc hn).arg h hN
  simp [Value.cells] at e
  obtain ⟨rfl, rfl, rfl⟩ := e
  exact ⟨ao, cap, x, rfl, hl, hx, hb⟩
/-- A text that came in. -/
theorem arg_str {t : TypeId} (hu : P.underlying t = some .string) (hc : P.cellsOf t = 1) {H : Type} {enc : TypeId × Value → H} {W : World} {base : Nat} {v : Value} {d : DataW H} {p : List MemPlace}
    (hok : Value.okWide P W .any base t v) (h : DataW.Trod enc P W 0 (fun _ => true) true t v d p) {N : Nat} (hN : Rows.uptoBulk d ≤ N) : ∃ s, v = .string s ∧ s.size + 1 ≤ N := by
  obtain ⟨s, rfl⟩ := okWide_string hu hok
  obtain ⟨x, ⟨e, _⟩, hb⟩ := (shStr t hu hc).arg h hN
  simp [Value.cells] at e
  subst e
  exact ⟨s, rfl, hb⟩
theorem bulk_in {H : Type} {l : List (DataW H)} {N : Nat} (h : Rows.uptoBulkAll l ≤ N) {d : DataW H} (hd : d ∈ l) : Rows.uptoBulk d ≤ N := by
  induction l with
  | nil => cases hd
  | cons x l ih =>
    simp only [Rows.uptoBulkAll] at h
    rcases List.mem_cons.1 hd with rfl | hd
    · omega
    · exact ih (by omega) hd
end
end Go.Proofs.YtfkhelihepbehaaGreat

/- slices at string: swapRangeCmpFunc and rotateCmpFunc: what they do to a row of cells. -/
namespace Go.Proofs.YtfkhelihepbehaaGreat
open Go.RowKit
set_option linter.unusedVariables false

def valStr (z : Nat → ByteArray) (i : Nat) : Value := (Value.string (z (i)))


set_option maxHeartbeats 1000000 in
theorem swapRangeStr_any (z : Nat → ByteArray) (g n cap : Nat) (rest : List Value) (fv : Value) (w0 w : World) (hk0 : Kp (fun k => k = g) w0 w) (p X M Y q : List Nat) (hXY : X.length = Y.length)
    (hn : (p ++ X ++ M ++ Y ++ q).length = n) (hB : Blk w g ((p ++ X ++ M ++ Y ++ q).map (valStr z) ++ rest) 9) (hm : n ≤ 4611686018427387904) (a b m : Nat) (ea : a = p.length) (eb : b = (p.length + X.length + M.length : Nat)) (em : m = X.length) :
    Calls Tryz.prog 178 #[.slice (some ⟨g, 0, none⟩) n cap, .int .i64 a, .int .i64 b, .int .i64 m, fv] w
      (RetF (fun k => k = g) w0 fun w' v => v = .tuple #[] ∧ Blk w' g ((p ++ Y ++ M ++ X ++ q).map (valStr z) ++ rest) 9) := by
  simp only [List.length_append] at hn
  have b1 : a ≤ n := by omega
  have b2 : b + m ≤ n := by omega
  have b3 : a + m ≤ b := by omega
  have HX := Lib.hid hXY; clear hXY
  have HN := Lib.hid hn; clear hn
  have EA := Lib.hid ea; clear ea
  have EB := Lib.hid eb; clear eb
  have EM := Lib.hid em; clear em
  go_enter Tryz.func178, Tryz.ntmps178
  go_wp2
  go_loopw [10] (fun i wr => ∃ (k : Nat) (X1 X2 Y1 Y2 : List Nat), Hid (X = X1 ++ X2 ∧ Y = Y1 ++ Y2 ∧ X1.length = k ∧ Y1.length = k) ∧ k ≤ m ∧ i = .int .i64 k ∧ Kp (fun k => k = g) w0 wr ∧ Hid (Blk wr g ((p ++ Y1 ++ X2 ++ M ++ X1 ++ Y2 ++ q).map (valStr z) ++ rest) 9)) (fun i _ => m - (intOf i).toNat)
  case atStart => exact ⟨0, [], X, [], Y, ⟨rfl, rfl, rfl, rfl⟩, Nat.zero_le _, rfl, hk0, by show Blk _ _ _ _; simpa using hB⟩
  case round =>
    obtain ⟨k, X1, X2, Y1, Y2, HH, hkm, rfl, hkp, hb⟩ := hrel
    by_cases hlt : k < m
    · have key : ∃ x y X2' Y2', X2 = x :: X2' ∧ Y2 = y :: Y2' ∧ X2'.length + k + 1 = m := by
        obtain ⟨rfl, rfl, h3, h4⟩ := HH.out
        have h5 := EM.out; have h6 := HX.out
        simp only [List.length_append] at h5 h6
        cases X2 with
        | nil => simp at h5; omega
        | cons x X2 =>
          cases Y2 with
          | nil => simp at h6; simp at h5; omega
          | cons y Y2 => exact ⟨x, y, X2, Y2, rfl, rfl, by simp at h5; omega⟩
      obtain ⟨x, y, X2', Y2', rfl, rfl, hl2⟩ := key
      obtain ⟨s1, s2, c1, c2⟩ := swapCells (u := p ++ Y1) (v := X2' ++ M ++ X1) (t := Y2' ++ q) (x := x) (y := y) (i := a + k) (j := b + k) (by simpa using hb.out) (by
          have := EA.out; have := HH.out.2.2.2; simp; omega) (by
          have := EA.out; have := EB.out; have := EM.out; have := HH.out.2.2; simp; omega)
      have f1 := hb.out.free (a + k)
      have f2 := hb.out.free (b + k)
      have S1 := Lib.hid s1; have S2 := Lib.hid s2
      clear s1 s2
      unfold valStr at c1 c2
      have hne : ¬ (a + k = b + k) := by omega
      have hne' : ¬ (b + k = a + k) := by omega
      have HL2 := Lib.hid hl2; clear hl2
      obtain ⟨i1, i2, i3, i4⟩ := idx_facts (a := a) (b := k) (n := n) (by omega) hm
      obtain ⟨j1, j2, j3, j4⟩ := idx_facts (a := b) (b := k) (n := n) (by omega) hm
      go_wp2
      go_region
      clear i1 i2 i3 i4 j1 j2 j3 j4
      go_wp2
      go_roundw
      case rel =>
        refine ⟨k + 1, X1 ++ [x], X2', Y1 ++ [y], Y2', ⟨?_, ?_, ?_, ?_⟩, by omega, by go_num, ?_, ?_⟩
        · simpa using HH.out.1
        · simpa using HH.out.2.1
        · simpa using HH.out.2.2.1
        · simpa using HH.out.2.2.2
        · exact ((hkp.setCell (fun _ => rfl) _).setCell (fun _ => rfl) _).drew
        · exact S1.out.drew.congrL (by simp)
      case measure => simp [intOf]; omega
    · have key : X2 = [] ∧ Y2 = [] := by
        obtain ⟨rfl, rfl, h3, h4⟩ := HH.out
        have h5 := EM.out; have h6 := HX.out
        simp only [List.length_append] at h5 h6
        exact ⟨List.eq_nil_of_length_eq_zero (by omega), List.eq_nil_of_length_eq_zero (by omega)⟩
      obtain ⟨rfl, rfl⟩ := key
      go_wp2
      go_end0
      refine RetF.mk hkp ⟨rfl, ?_⟩
      obtain ⟨h1, h2, _, _⟩ := HH.out
      have h3 := hb.out
      rw [h1, h2]
      simpa using h3

theorem swapRangeStr_int (z : Nat → ByteArray) (g n cap : Nat) (rest : List Value) (fv : Value) (w0 w : World) (hk0 : Kp (fun k => k = g) w0 w) (p X M Y q : List Nat) (hXY : X.length = Y.length)
    (hn : (p ++ X ++ M ++ Y ++ q).length = n) (hB : Blk w g ((p ++ X ++ M ++ Y ++ q).map (valStr z) ++ rest) 9) (hm : n ≤ 4611686018427387904) (a b m : Int) (ea : a = (p.length : Nat)) (eb : b = (p.length + X.length + M.length : Nat)) (em : m = (X.length : Nat)) :
    Calls Tryz.prog 178 #[.slice (some ⟨g, 0, none⟩) n cap, .int .i64 a, .int .i64 b, .int .i64 m, fv] w
      (RetF (fun k => k = g) w0 fun w' v => v = .tuple #[] ∧ Blk w' g ((p ++ Y ++ M ++ X ++ q).map (valStr z) ++ rest) 9) := by
  subst ea eb em
  exact swapRangeStr_any z g n cap rest fv w0 w hk0 p X M Y q hXY hn hB hm _ _ _ rfl rfl rfl

set_option maxHeartbeats 1000000 in
theorem rotateStr_any (z : Nat → ByteArray) (g n cap : Nat) (rest : List Value) (fv : Value) (w0 w : World) (hk0 : Kp (fun k => k = g) w0 w) (p X Y q : List Nat) (hX : X ≠ []) (hY : Y ≠ [])
    (hn : (p ++ X ++ Y ++ q).length = n) (hB : Blk w g ((p ++ X ++ Y ++ q).map (valStr z) ++ rest) 9) (hm : n ≤ 4611686018427387904) (a m b : Nat) (ea : a = p.length) (em : m = p.length + X.length) (eb : b = p.length + X.length + Y.length) :
    Calls Tryz.prog 163 #[.slice (some ⟨g, 0, none⟩) n cap, .int .i64 a, .int .i64 m, .int .i64 b, fv] w
      (RetF (fun k => k = g) w0 fun w' v => v = .tuple #[] ∧ Blk w' g ((p ++ Y ++ X ++ q).map (valStr z) ++ rest) 9) := by
  have b1 : a < m := by have := List.length_pos_iff.2 hX; omega
  have b2 : m < b := by have := List.length_pos_iff.2 hY; omega
  have b3 : b ≤ n := by simp at hn; omega
  have HN := Lib.hid hn; clear hn
  have EA := Lib.hid ea; clear ea
  have EB := Lib.hid eb; clear eb
  have EM := Lib.hid em; clear em
  go_enter Tryz.func163, Tryz.ntmps163
  go_wp2
  go_loopw [10, 11] (fun i j wr => ∃ (x y : Nat) (p' X' Y' q' : List Nat), Hid (X'.length = x ∧ Y'.length = y ∧ p'.length + x = m ∧ p' ++ Y' ++ X' ++ q' = p ++ Y ++ X ++ q) ∧ 0 < x ∧ 0 < y ∧ x ≤ m ∧ m + y ≤ n ∧ i = .int .i64 x ∧ j = .int .i64 y ∧ Kp (fun k => k = g) w0 wr ∧ Hid (Blk wr g ((p' ++ X' ++ Y' ++ q').map (valStr z) ++ rest) 9)) (fun i j _ => (intOf i).toNat + (intOf j).toNat)
  case atStart =>
    have h1 := EA.out; have h2 := EB.out; have h3 := EM.out
    refine ⟨X.length, Y.length, p, X, Y, q, ⟨rfl, rfl, by omega, rfl⟩, by omega, by omega, by omega, by omega, ?_, ?_, hk0, hB⟩
    · congr 1; omega
    · congr 1; omega
  case round =>
    obtain ⟨x, y, p', X', Y', q', HH, hx, hy, hxm, hyn, rfl, rfl, hkp, hb⟩ := hrel
    have HNn : (p' ++ X' ++ Y' ++ q').length = n := by
      have h1 := congrArg List.length HH.out.2.2.2
      have h2 := HN.out
      simp at h1 h2 ⊢
      omega
    have HNN := Lib.hid HNn; clear HNn
    rcases Nat.lt_trichotomy y x with hlt | heq | hgt
    · have h1 : ((x : Int) != (y : Int)) = true := by rw [bne_iff_ne]; omega
      obtain ⟨hX1, hY1, hp1, ht⟩ := HH.out
      have HT := Lib.hid ht; clear ht
      have key : ∃ X1 X2, X' = X1 ++ X2 ∧ X1.length = y ∧ X2.length = x - y := ⟨_, _, (List.take_append_drop y X').symm, by simp; omega, by simp; omega⟩
      obtain ⟨X1, X2, rfl, lX1, lX2⟩ := key
      have HL := Lib.hid (And.intro hX1 (And.intro hY1 (And.intro hp1 (And.intro lX1 lX2))))
      clear hX1 hY1 hp1 lX1 lX2
      go_wp2_with fail
      refine (swapRangeStr_int z g n cap rest fv w0 wr hkp p' X1 X2 Y' q' (by have := HL.out; omega) (by simpa using HNN.out) (by simpa using hb.out) hm _ _ _ (by have := HL.out; omega) (by have := HL.out; omega) (by have := HL.out; omega)).mono ?_
      rintro e w1 ⟨v, rfl, hk1, rfl, hb1⟩
      have HB1 := Lib.hid hb1; clear hb1
      go_wp2
      go_roundw
      case rel =>
        refine ⟨x - y, y, p' ++ Y', X2, X1, q', ⟨by have := HL.out; omega, by have := HL.out; omega, by have := HL.out; simp; omega, by rw [← HT.out]; simp⟩, by omega, hy, by omega, hyn, ?_, rfl, hk1, HB1.out.congrL (by simp)⟩
        congr 1; omega
      case measure => simp [intOf]; omega
    · subst heq
      have h1 : ((y : Int) != (y : Int)) = false := by simp
      obtain ⟨hX1, hY1, hp1, ht⟩ := HH.out
      have HT := Lib.hid ht; clear ht
      have HL := Lib.hid (And.intro hX1 (And.intro hY1 hp1))
      clear hX1 hY1 hp1
      go_wp2_with fail
      refine (swapRangeStr_int z g n cap rest fv w0 wr hkp p' X' [] Y' q' (by have := HL.out; omega) (by simpa using HNN.out) (by simpa using hb.out) hm _ _ _ (by have := HL.out; omega) (by have := HL.out; simp; omega) (by have := HL.out; omega)).mono ?_
      rintro e w1 ⟨v, rfl, hk1, rfl, hb1⟩
      have HB1 := Lib.hid hb1; clear hb1
      go_wp2
      go_end0
      refine RetF.mk hk1 ⟨rfl, ?_⟩
      have := HT.out
      rw [← this]
      simpa using HB1.out
    · have h1 : ((x : Int) != (y : Int)) = true := by rw [bne_iff_ne]; omega
      obtain ⟨hX1, hY1, hp1, ht⟩ := HH.out
      have HT := Lib.hid ht; clear ht
      have key : ∃ Y1 Y2, Y' = Y1 ++ Y2 ∧ Y1.length = y - x ∧ Y2.length = x := ⟨_, _, (List.take_append_drop (y - x) Y').symm, by simp; omega, by simp; omega⟩
      obtain ⟨Y1, Y2, rfl, lY1, lY2⟩ := key
      have HL := Lib.hid (And.intro hX1 (And.intro hY1 (And.intro hp1 (And.intro lY1 lY2))))
      clear hX1 hY1 hp1 lY1 lY2
      go_wp2_with fail
      refine (swapRangeStr_int z g n cap rest fv w0 wr hkp p' X' Y1 Y2 q' (by have := HL.out; omega) (by simpa using HNN.out) (by simpa using hb.out) hm _ _ _ (by have := HL.out; omega) (by have := HL.out; omega) (by have := HL.out; omega)).mono ?_
      rintro e w1 ⟨v, rfl, hk1, rfl, hb1⟩
      have HB1 := Lib.hid hb1; clear hb1
      go_wp2
      go_roundw
      case rel =>
        refine ⟨x, y - x, p', Y2, Y1, X' ++ q', ⟨by have := HL.out; omega, by have := HL.out; omega, by have := HL.out; omega, by rw [← HT.out]; simp⟩, hx, by omega, by omega, by omega, rfl, ?_, hk1, HB1.out.congrL (by simp)⟩
        congr 1; omega
      case measure => simp [intOf]; omega
end Go.Proofs.YtfkhelihepbehaaGreat

/- slices.insertionSortCmpFunc at string. -/
namespace Go.Proofs.YtfkhelihepbehaaGreat
open Go.RowKit
set_option linter.unusedVariables false

set_option maxRecDepth 100000 in
set_option maxHeartbeats 2000000 in
theorem insSortStr_any (z : Nat → ByteArray) (g n cap N : Nat) (rest : List Value) (f : FuncId) (first captured : Array Value) (c : Nat → Nat → Int) (L : CmpLaw c) (w0 w : World)
    (hcmp : CmpOn Tryz.prog f first captured g N w0 (valStr z) c) (hk0 : Kp (fun k => k = g) w0 w) (p seg q : List Nat) (hN : ∀ i ∈ seg, i < N) (hinc : seg.Pairwise (· < ·))
    (hn : (p ++ seg ++ q).length = n) (hB : Blk w g ((p ++ seg ++ q).map (valStr z) ++ rest) 9) (hm : n ≤ 4611686018427387904) (a b : Nat) (ea : a = p.length) (eb : b = p.length + seg.length) :
    Calls Tryz.prog 139 #[.slice (some ⟨g, 0, none⟩) n cap, .int .i64 a, .int .i64 b, .func (Fn.func f) first captured] w
      (RetF (fun k => k = g) w0 fun w' v => v = .tuple #[] ∧ ∃ C, C.Perm seg ∧ Sorted c C ∧ Blk w' g ((p ++ C ++ q).map (valStr z) ++ rest) 9) := by
  simp only [List.length_append] at hn
  have b1 : a ≤ b := by omega
  have b2 : b ≤ n := by omega
  have HN := Lib.hid hn; clear hn
  have EA := Lib.hid ea; clear ea
  have EB := Lib.hid eb; clear eb
  have HI := Lib.hid hinc; clear hinc
  have HNs := Lib.hid hN; clear hN
  have hent := hcmp.1
  have HC := Lib.hid hcmp.2; clear hcmp
  go_enter Tryz.func139, Tryz.ntmps139
  go_wp2
  go_loopw [8] (fun i wr => ∃ (k : Nat) (S R : List Nat), Hid ((seg = [] ∧ S = [] ∧ R = [] ∧ b < k ∨ S ≠ [] ∧ k = a + S.length ∧ S.length + R.length = seg.length) ∧ (S ++ R).Perm seg ∧ Sorted c S ∧ R.Pairwise (· < ·) ∧ ∀ s ∈ S, ∀ r ∈ R, s < r) ∧ k ≤ b + 1 ∧ i = .int .i64 k ∧ Kp (fun k => k = g) w0 wr ∧ Hid (Blk wr g ((p ++ S ++ R ++ q).map (valStr z) ++ rest) 9)) (fun i _ => b + 1 - (intOf i).toNat)
  case atStart =>
    have h1 := EA.out; have h2 := EB.out
    cases seg with
    | nil => exact ⟨a + 1, [], [], ⟨.inl ⟨rfl, rfl, rfl, by simp at h2; omega⟩, List.Perm.refl _, Sorted.nil, List.Pairwise.nil, by simp⟩, by omega, by go_num, hk0, hB.congrL (by simp)⟩
    | cons x seg =>
      have hp := List.pairwise_cons.1 HI.out
      exact ⟨a + 1, [x], seg, ⟨.inr ⟨by simp, rfl, by simp; omega⟩, List.Perm.refl _, Sorted.one x, hp.2, by simpa using hp.1⟩, by simp at h2; omega, by go_num, hk0, hB.congrL (by simp)⟩
  case round =>
    obtain ⟨k, S, R, HH, hkb, rfl, hkp, hb⟩ := hrel
    by_cases hlt : k < b
    · have key : ∃ x R', R = x :: R' ∧ k = a + S.length ∧ S ≠ [] ∧ S.length + R'.length + 1 = seg.length := by
        obtain ⟨h1, h2, h3, h4, h5⟩ := HH.out
        have e2 := EB.out; have e1 := EA.out
        rcases h1 with ⟨_, _, _, h⟩ | ⟨h, h', h''⟩
        · omega
        · cases R with
          | nil => simp at h''; omega
          | cons x R => exact ⟨x, R, rfl, h', h, by simp at h''; omega⟩
      obtain ⟨x, R', rfl, ek, hS, hSR⟩ := key
      have EK := Lib.hid ek; clear ek
      have HSR := Lib.hid hSR; clear hSR
      have HS := Lib.hid hS; clear hS
      go_wp2
      obtain ⟨wo, rfl⟩ : ∃ wo : World, wo = wr := ⟨_, rfl⟩
      go_loopw [9] (fun jv wr => ∃ (j : Nat) (S1 S2 : List Nat), Hid (S = S1 ++ S2 ∧ j = a + S1.length ∧ ∀ y ∈ S2, c x y < 0) ∧ a ≤ j ∧ j ≤ k ∧ jv = .int .i64 j ∧ Kp (fun k => k = g) w0 wr ∧ Hid (Blk wr g ((p ++ S1 ++ x :: S2 ++ R' ++ q).map (valStr z) ++ rest) 9)) (fun j _ => (intOf j).toNat)
      case atStart => exact ⟨k, S, [], ⟨by simp, EK.out, by simp⟩, by have := EK.out; omega, Nat.le_refl _, rfl, hkp, hb.out.congrL (by simp)⟩
      case round =>
        obtain ⟨j, S1, S2, HJ, haj, hjk, rfl, hkp1, hb1⟩ := hrel
        by_cases hgt : a < j
        · obtain ⟨j, rfl⟩ : ∃ j', j = j' + 1 := ⟨j - 1, by omega⟩
          have key : ∃ S1' y, S1 = S1' ++ [y] ∧ j = a + S1'.length := by
            obtain ⟨h1, h2, h3⟩ := HJ.out
            rcases List.eq_nil_or_concat S1 with rfl | ⟨l, y, rfl⟩
            · simp at h2; omega
            · exact ⟨l, y, by simp, by simp at h2; omega⟩
          obtain ⟨S1', y, rfl, ej⟩ := key
          obtain ⟨s1, s2, c1, c2⟩ := swapCells (f := valStr z) (rest := rest) (u := p ++ S1') (v := []) (t := S2 ++ R' ++ q) (x := y) (y := x) (i := j) (j := j + 1) (hb1.out.congrL (by simp)) (by have := EA.out; simp; omega) (by have := EA.out; simp; omega)
          have f1 := hb1.out.free j
          have f2 := hb1.out.free (j + 1)
          have hxN : x < N ∧ y < N := by
            have hp := HH.out.2.1
            have h1 := HJ.out.1
            refine ⟨HNs.out x (hp.subset (by simp)), HNs.out y (hp.subset (by rw [h1]; simp))⟩
          have hcall := fun W hW => HC.out W hW x y hxN.1 hxN.2
          have HCall := Lib.hid hcall; clear hcall
          have S1H := Lib.hid s1; have S2H := Lib.hid s2
          have EJ := Lib.hid ej; clear ej
          clear s1 s2 hxN
          unfold valStr at c1 c2
          obtain ⟨i1, i2, i3, i4, i5, i6, i7⟩ := idx_pred (k := j) (n := n) (by omega) hm
          have g1 : decide ((a : Int) < (j : Int) + 1) = true := by simp; omega
          generalize hcc : c x y = cc at HCall
          have HCC := Lib.hid hcc; clear hcc
          by_cases hneg : cc < 0
          · go_wp2
            go_still_tail 14, (by kernel_rfl)
            go_wp2_with fail
            refine (HCall.out _ hkp1.drew).mono ?_
            rintro e w1 ⟨rfl, hk2⟩
            have hkp2 : Kp (fun k => k = g) w0 w1 := hkp1.drew.ext hk2
            have hb2 : Blk w1 g ((p ++ (S1' ++ [y]) ++ x :: S2 ++ R' ++ q).map (valStr z) ++ rest) 9 := hb1.out.drew.ext hk2
            clear c1 c2 f1 f2 S1H S2H hk2
            obtain ⟨s1, s2, c1, c2⟩ := swapCells (f := valStr z) (rest := rest) (u := p ++ S1') (v := []) (t := S2 ++ R' ++ q) (x := y) (y := x) (i := j) (j := j + 1) (hb2.congrL (by simp)) (by have := EA.out; have := EJ.out; simp; omega) (by have := EA.out; have := EJ.out; simp; omega)
            have f1 := hb2.free j
            have f2 := hb2.free (j + 1)
            have S1H := Lib.hid s1; have S2H := Lib.hid s2
            clear s1 s2 hb2
            unfold valStr at c1 c2
            go_wp2
            go_region
            clear i1 i2 i3 i4 i5 i6 i7
            go_wp2
            go_roundw
            case rel =>
              refine ⟨j, S1', y :: S2, ⟨by have := HJ.out.1; simpa using this, EJ.out, ?_⟩, by omega, by omega, by go_num, ?_, ?_⟩
              · intro y' hy'
                rcases List.mem_cons.1 hy' with rfl | h
                · rw [HCC.out]; exact hneg
                · exact HJ.out.2.2 y' h
              · first | exact ((hkp2.setCell (fun _ => rfl) _).setCell (fun _ => rfl) _).drew | exact ((hkp2.drew.setCell (fun _ => rfl) _).setCell (fun _ => rfl) _)
              · first | exact S1H.out.drew.congrL (by simp) | exact S2H.out.drew.congrL (by simp)
            case measure => first | (simp [intOf]; done) | (simp [intOf]; omega)
          · have hneg' : ¬ (cc < 0) := hneg
            go_wp2
            go_still_tail 14, (by kernel_rfl)
            go_wp2_with fail
            refine (HCall.out _ hkp1.drew).mono ?_
            rintro e w1 ⟨rfl, hk2⟩
            have hkp2 : Kp (fun k => k = g) w0 w1 := hkp1.drew.ext hk2
            have hb2 : Blk w1 g ((p ++ (S1' ++ [y]) ++ x :: S2 ++ R' ++ q).map (valStr z) ++ rest) 9 := hb1.out.drew.ext hk2
            have HB2 := Lib.hid hb2
            clear c1 c2 f1 f2 S1H S2H hk2 hb2 i1 i2 i3 i4 i5 i6 i7
            go_wp2
            go_roundw
            case rel =>
              have hs := ins_step L HH.out.2.1 HH.out.2.2.1 HH.out.2.2.2.1 HH.out.2.2.2.2 HJ.out.1 HJ.out.2.2 (by
                intro y' hy'; simp at hy'; subst hy'; rw [HCC.out]; omega)
              refine ⟨k + 1, S1' ++ [y] ++ x :: S2, R', ⟨.inr ⟨by simp, ?_, ?_⟩, hs⟩, by omega, by go_num, hkp2, HB2.out.congrL (by simp)⟩
              · have h1 := EK.out; have h2 := congrArg List.length HJ.out.1; simp at h2 ⊢; omega
              · have h1 := HSR.out; have h2 := congrArg List.length HJ.out.1; simp at h2 ⊢; omega
            case measure => first | (simp [intOf]; done) | (simp [intOf]; omega)
        · have hja : j = a := by omega
          subst hja
          have key : S1 = [] := by
            have := HJ.out.2.1
            exact List.eq_nil_of_length_eq_zero (by omega)
          subst key
          have g1 : decide ((j : Int) < (j : Int)) = false := by simp
          have HB1 := Lib.hid hb1.out
          go_wp2
          go_quiet (fail)
          go_wp2
          go_roundw
          case rel =>
            have hs := ins_step L HH.out.2.1 HH.out.2.2.1 HH.out.2.2.2.1 HH.out.2.2.2.2 HJ.out.1 HJ.out.2.2 (by
              intro y' hy'; simp at hy')
            refine ⟨k + 1, x :: S2, R', ⟨.inr ⟨by simp, ?_, ?_⟩, by simpa using hs⟩, by omega, by go_num, hkp1.drewN _, (HB1.out.drewN _).congrL (by simp)⟩
            · have h1 := EK.out; have h2 := congrArg List.length HJ.out.1; simp at h2 ⊢; omega
            · have h1 := HSR.out; have h2 := congrArg List.length HJ.out.1; simp at h2 ⊢; omega
          case measure => first | (simp [intOf]; done) | (simp [intOf]; omega)
    · go_wp2
      go_end0
      obtain ⟨h1, h2, h3, h4, h5⟩ := HH.out
      have e2 := EB.out; have e1 := EA.out
      have hR : R = [] := by
        rcases h1 with ⟨_, _, h, _⟩ | ⟨_, h, h'⟩
        · exact h
        · exact List.eq_nil_of_length_eq_zero (by omega)
      subst hR
      exact RetF.mk hkp ⟨rfl, S, by simpa using h2, h3, hb.out.congrL (by simp)⟩
end Go.Proofs.YtfkhelihepbehaaGreat

/- slices.symMergeCmpFunc at string, the right part of one element. -/
namespace Go.Proofs.YtfkhelihepbehaaGreat
open Go.RowKit
set_option linter.unusedVariables false

set_option maxRecDepth 100000 in
set_option maxHeartbeats 2000000 in
theorem symMergeStr_last (z : Nat → ByteArray) (g n cap N : Nat) (rest : List Value) (f : FuncId) (first captured : Array Value) (c : Nat → Nat → Int) (L : CmpLaw c) (w0 w : World)
    (hcmp : CmpOn Tryz.prog f first captured g N w0 (valStr z) c) (hm : n ≤ 4611686018427387904) (hk0 : Kp (fun k => k = g) w0 w) (p A : List Nat) (x : Nat) (q : List Nat) (hA2 : 2 ≤ A.length) (hN : ∀ i ∈ p ++ A ++ x :: q, i < N) (hs : Sorted c A) (hlr : ∀ v ∈ A, v < x)
    (hn : (p ++ A ++ x :: q).length = n) (hB : Blk w g ((p ++ A ++ x :: q).map (valStr z) ++ rest) 9) (a m b : Nat) (ea : a = p.length) (em : m = a + A.length) (eb : b = m + 1) :
    Calls Tryz.prog 140 #[.slice (some ⟨g, 0, none⟩) n cap, .int .i64 a, .int .i64 m, .int .i64 b, .func (Fn.func f) first captured] w
      (RetF (fun k => k = g) w0 fun w' v => v = .tuple #[] ∧ ∃ C, C.Perm (A ++ [x]) ∧ Sorted c C ∧ Blk w' g ((p ++ C ++ q).map (valStr z) ++ rest) 9) := by
  have b1 : m < b := by omega
  have b2 : b ≤ n := by simp at hn; omega
  have b3 : a + 1 < m := by omega
  have HN := Lib.hid hn; clear hn
  have EA := Lib.hid ea; clear ea
  have HNs := Lib.hid hN; clear hN
  have hent := hcmp.1
  have HC := Lib.hid hcmp.2; clear hcmp
  have t1 : ((m : Int) - a == 1) = false := by simp; omega
  have t2 : ((b : Int) - m == 1) = true := by simp; omega
  have EMM := Lib.hid em; clear em
  have EBB0 := Lib.hid eb; clear eb
  go_enter Tryz.func140, Tryz.ntmps140
  go_wp2
  obtain ⟨low, hlow⟩ : ∃ low : Nat → Prop, low = fun t => ¬ c x ((p ++ A ++ x :: q).getD t 0) < 0 := ⟨_, rfl⟩
  obtain ⟨high, hhigh⟩ : ∃ high : Nat → Prop, high = fun t => c x ((p ++ A ++ x :: q).getD t 0) < 0 := ⟨_, rfl⟩
  have HLO := Lib.hid hlow; have HHI := Lib.hid hhigh; clear hlow hhigh
  obtain ⟨cells, hcells⟩ : ∃ cells : List Value, cells = (p ++ A ++ x :: q).map (valStr z) ++ rest := ⟨_, rfl⟩
  have HCE := Lib.hid hcells; rw [← hcells] at hB; clear hcells
  go_loopw [14, 15] (Search a m low high (fun k => k = g) w0 g cells 9) (fun i j _ => (intOf j).toNat - (intOf i).toNat)
  case atStart => exact ⟨a, m, Nat.le_refl _, by omega, Nat.le_refl _, rfl, rfl, .inl rfl, .inl rfl, hk0, hB⟩
  case round =>
    obtain ⟨i, j, hi, hij, hj, rfl, rfl, hlo, hhi, hkp, hb⟩ := hrel
    have HLi := Lib.hid hlo; have HHj := Lib.hid hhi; clear hlo hhi
    have hb' := hb
    rw [HCE.out] at hb'
    by_cases hlt : i < j
    · have c1 := hb'.at ((i + j) / 2) (by have := HN.out; omega)
      have c2 := hb'.at m (by have := HN.out; omega)
      clear hb'
      have e2 : (p ++ A ++ x :: q).getD m 0 = x := getD_mid (by have := EA.out; have := EMM.out; simp; omega)
      rw [e2] at c2
      have hy : (p ++ A ++ x :: q).getD ((i + j) / 2) 0 < N := HNs.out _ (by
        have h : (i + j) / 2 < (p ++ A ++ x :: q).length := by have := HN.out; omega
        exact getD_mem h)
      have hx : x < N := HNs.out x (by simp)
      generalize hyy : (p ++ A ++ x :: q).getD ((i + j) / 2) 0 = y at c1 hy
      have HY := Lib.hid hyy; clear hyy
      have hcall := fun W hW => HC.out W hW x y hx hy
      have HCall := Lib.hid hcall; clear hcall e2
      unfold valStr at c1 c2
      obtain ⟨k1, k2, k3, k4⟩ := idx_half (i := i) (j := j) (n := n) (by omega) hm
      have hmn : m < n := by omega
      generalize hcc : c x y = cc at HCall
      have HCC := Lib.hid hcc; clear hcc
      by_cases hneg : cc < 0
      · go_wp2
        go_still_tail 9, (by kernel_rfl)
        go_wp2_with fail
        refine (HCall.out _ hkp.drew).mono ?_
        rintro e w1 ⟨rfl, hk2⟩
        have hkp2 : Kp (fun k => k = g) w0 w1 := hkp.drew.ext hk2
        have hb2 := hb.drew.ext hk2
        clear hk2 c1 c2
        go_wp2
        clear k1 k2 k3 k4
        go_roundw
        case rel =>
          refine ⟨i, (i + j) / 2, hi, by omega, by omega, rfl, by first | rfl | (congr 1; done) | (congr 1; omega), HLi.out, .inr ?_, hkp2, hb2⟩
          rw [HHI.out]; dsimp only; rw [HY.out, HCC.out]; omega
        case measure => simp [intOf]; omega
      · have hd : decide (cc < 0) = false := by simp; omega
        go_wp2
        go_still_tail 9, (by kernel_rfl)
        go_wp2_with fail
        refine (HCall.out _ hkp.drew).mono ?_
        rintro e w1 ⟨rfl, hk2⟩
        have hkp2 : Kp (fun k => k = g) w0 w1 := hkp.drew.ext hk2
        have hb2 := hb.drew.ext hk2
        clear hk2 c1 c2
        go_wp2
        clear k1 k2 k3 k4
        go_roundw
        case rel =>
          refine ⟨(i + j) / 2 + 1, j, by omega, by omega, hj, by first | rfl | (congr 1; done) | (congr 1; omega), rfl, .inr ?_, HHj.out, hkp2, hb2⟩
          rw [HLO.out]; dsimp only; rw [Nat.add_sub_cancel, HY.out, HCC.out]; omega
        case measure => simp [intOf]; omega
    · obtain rfl : i = j := by omega
      have HL1 := HLi.out; have HH1 := HHj.out
      rw [HLO.out] at HL1; rw [HHI.out] at HH1
      have key := part_above L hs (x := x) (i := i - a) (by have := EMM.out; omega) (by
        rcases HL1 with h | h
        · left; omega
        · by_cases e : i = a
          · left; omega
          · right
            try dsimp only at h
            rw [getD_in (by have := EA.out; omega) (by have := EA.out; have := EMM.out; omega)] at h
            rw [show i - a - 1 = i - 1 - p.length by have := EA.out; omega]
            omega) (by
        rcases HH1 with h | h
        · left; have := EMM.out; omega
        · by_cases e : i = m
          · left; have := EMM.out; omega
          · right
            try dsimp only at h
            rw [getD_in (by have := EA.out; omega) (by have := EA.out; have := EMM.out; omega)] at h
            rw [show i - a = i - p.length by have := EA.out; omega]
            exact h)
      obtain ⟨A1, A2, eA, lA, hA1, hA22⟩ := key
      have hmo := merge_last L (eA ▸ hs) (eA ▸ hlr) hA1 hA22
      have HM := Lib.hid hmo
      have EAA := Lib.hid eA
      have LA := Lib.hid lA
      clear hmo eA lA hA1 hA22 HL1 HH1
      obtain ⟨wo, rfl⟩ : ∃ wo : World, wo = wr := ⟨_, rfl⟩
      go_wp2
      obtain ⟨cl, hcl⟩ : ∃ cl : List Nat → List Nat → List Value, cl = fun U V => (p ++ A1 ++ U ++ x :: V ++ q).map (valStr z) ++ rest := ⟨_, rfl⟩
      have HCL := Lib.hid hcl; clear hcl
      go_loopw [17] (Sinking i m A2 w0 g cl 9) (fun k _ => (intOf k).toNat)
      case atStart =>
        exact ⟨m, A2, [], by omega, Nat.le_refl _, rfl, by simp, by have := EAA.out; have h2 := congrArg List.length this; have := LA.out; have := EMM.out; simp at h2; omega, hkp, by rw [HCL.out]; exact hb'.congrL (by rw [EAA.out]; simp)⟩
      case round =>
        obtain ⟨k, U, V, hik, hkm, rfl, hU1, hU2, hkp1, hb1⟩ := hrel
        rw [HCL.out] at hb1
        have HU := Lib.hid (And.intro hU1 hU2); clear hU1 hU2
        have HB1 := Lib.hid hb1; clear hb1
        by_cases hlt2 : i < k
        · obtain ⟨k, rfl⟩ : ∃ k', k = k' + 1 := ⟨k - 1, by omega⟩
          have key : ∃ y U', U = U' ++ [y] := by
            rcases List.eq_nil_or_concat U with rfl | ⟨l, y, rfl⟩
            · exfalso; have h1 := HU.out.2; simp at h1; omega
            · exact ⟨y, l, by simp⟩
          obtain ⟨y, U', rfl⟩ := key
          obtain ⟨s1, s2, c1, c2⟩ := swapCells (f := valStr z) (rest := rest) (u := p ++ A1 ++ U') (v := []) (t := V ++ q) (x := y) (y := x) (i := k) (j := k + 1) (HB1.out.congrL (by simp)) (by have := EA.out; have := HU.out.2; have := LA.out; simp at *; omega) (by have := EA.out; have := HU.out.2; have := LA.out; simp at *; omega)
          have f1 := HB1.out.free k
          have f2 := HB1.out.free (k + 1)
          have S1H := Lib.hid s1; have S2H := Lib.hid s2
          clear s1 s2
          unfold valStr at c1 c2
          obtain ⟨k1, k2, k3, k4, k5, k6, k7⟩ := idx_pred (k := k) (n := n) (by omega) hm
          go_wp2
          go_region
          clear k1 k2 k3 k4 k5 k6 k7
          go_wp2
          go_roundw
          case rel =>
            refine ⟨k, U', y :: V, by omega, by omega, by go_num, by simpa using HU.out.1, by have := HU.out.2; simp at this; omega, ?_, ?_⟩
            · exact ((hkp1.setCell (fun _ => rfl) _).setCell (fun _ => rfl) _).drew
            · rw [HCL.out]; first | exact S1H.out.drew.congrL (by simp) | exact S2H.out.drew.congrL (by simp)
          case measure => first | (simp [intOf]; done) | (simp [intOf]; omega)
        · go_wp2
          go_end0
          have key : U = [] := by
            have h1 := HU.out.2
            exact List.eq_nil_of_length_eq_zero (by omega)
          subst key
          refine RetF.mk hkp1 ⟨rfl, A1 ++ x :: A2, by rw [EAA.out]; exact HM.out.1, HM.out.2, HB1.out.congrL ?_⟩
          have h1 := HU.out.1
          simp at h1
          rw [h1]; simp
end Go.Proofs.YtfkhelihepbehaaGreat

/- slices.symMergeCmpFunc at string. -/
namespace Go.Proofs.YtfkhelihepbehaaGreat
open Go.RowKit
set_option linter.unusedVariables false

set_option maxRecDepth 100000 in
set_option maxHeartbeats 2000000 in
theorem symMergeStr_one (z : Nat → ByteArray) (g n cap N : Nat) (rest : List Value) (f : FuncId) (first captured : Array Value) (c : Nat → Nat → Int) (L : CmpLaw c) (w0 w : World)
    (hcmp : CmpOn Tryz.prog f first captured g N w0 (valStr z) c) (hm : n ≤ 4611686018427387904) (hk0 : Kp (fun k => k = g) w0 w) (p : List Nat) (x : Nat) (B q : List Nat) (hBne : B ≠ []) (hN : ∀ i ∈ p ++ x :: B ++ q, i < N) (hs : Sorted c B) (hlr : ∀ v ∈ B, x < v)
    (hn : (p ++ x :: B ++ q).length = n) (hB : Blk w g ((p ++ x :: B ++ q).map (valStr z) ++ rest) 9) (a m b : Nat) (ea : a = p.length) (em : m = a + 1) (eb : b = m + B.length) :
    Calls Tryz.prog 140 #[.slice (some ⟨g, 0, none⟩) n cap, .int .i64 a, .int .i64 m, .int .i64 b, .func (Fn.func f) first captured] w
      (RetF (fun k => k = g) w0 fun w' v => v = .tuple #[] ∧ ∃ C, C.Perm (x :: B) ∧ Sorted c C ∧ Blk w' g ((p ++ C ++ q).map (valStr z) ++ rest) 9) := by
  have b1 : m < b := by have := List.length_pos_iff.2 hBne; omega
  have b2 : b ≤ n := by simp at hn; omega
  have HN := Lib.hid hn; clear hn
  have EA := Lib.hid ea; clear ea
  have EB := Lib.hid eb; clear eb
  have HNs := Lib.hid hN; clear hN
  have hent := hcmp.1
  have HC := Lib.hid hcmp.2; clear hcmp
  have b3 : a < m := by omega
  have t1 : ((m : Int) - a == 1) = true := by simp; omega
  have EMM := Lib.hid em; clear em
  go_enter Tryz.func140, Tryz.ntmps140
  go_wp2
  obtain ⟨low, hlow⟩ : ∃ low : Nat → Prop, low = fun t => c ((p ++ x :: B ++ q).getD t 0) x < 0 := ⟨_, rfl⟩
  obtain ⟨high, hhigh⟩ : ∃ high : Nat → Prop, high = fun t => ¬ c ((p ++ x :: B ++ q).getD t 0) x < 0 := ⟨_, rfl⟩
  have HLO := Lib.hid hlow; have HHI := Lib.hid hhigh; clear hlow hhigh
  obtain ⟨cells, hcells⟩ : ∃ cells : List Value, cells = (p ++ x :: B ++ q).map (valStr z) ++ rest := ⟨_, rfl⟩
  have HCE := Lib.hid hcells; rw [← hcells] at hB; clear hcells
  go_loopw [10, 11] (Search m b low high (fun k => k = g) w0 g cells 9) (fun i j _ => (intOf j).toNat - (intOf i).toNat)
  case atStart => exact ⟨m, b, Nat.le_refl _, by omega, Nat.le_refl _, rfl, rfl, .inl rfl, .inl rfl, hk0, hB⟩
  case round =>
    obtain ⟨i, j, hi, hij, hj, rfl, rfl, hlo, hhi, hkp, hb⟩ := hrel
    have HLi := Lib.hid hlo; have HHj := Lib.hid hhi; clear hlo hhi
    have hb' := hb
    rw [HCE.out] at hb'
    by_cases hlt : i < j
    · have c1 := hb'.at ((i + j) / 2) (by have := HN.out; omega)
      have c2 := hb'.at a (by have := HN.out; omega)
      clear hb'
      have e2 : (p ++ x :: B ++ q).getD a 0 = x := by rw [List.append_assoc]; exact getD_mid EA.out
      rw [e2] at c2
      have hy : (p ++ x :: B ++ q).getD ((i + j) / 2) 0 < N := HNs.out _ (by
        have h : (i + j) / 2 < (p ++ x :: B ++ q).length := by have := HN.out; omega
        exact getD_mem h)
      have hx : x < N := HNs.out x (by simp)
      generalize hyy : (p ++ x :: B ++ q).getD ((i + j) / 2) 0 = y at c1 hy
      have HY := Lib.hid hyy; clear hyy
      have hcall := fun W hW => HC.out W hW y x hy hx
      have HCall := Lib.hid hcall; clear hcall e2
      unfold valStr at c1 c2
      obtain ⟨k1, k2, k3, k4⟩ := idx_half (i := i) (j := j) (n := n) (by omega) hm
      have han : a < n := by omega
      generalize hcc : c y x = cc at HCall
      have HCC := Lib.hid hcc; clear hcc
      by_cases hneg : cc < 0
      all_goals
        go_wp2
        go_still_tail 9, (by kernel_rfl)
        go_wp2_with fail
        refine (HCall.out _ hkp.drew).mono ?_
        rintro e w1 ⟨rfl, hk2⟩
        have hkp2 : Kp (fun k => k = g) w0 w1 := hkp.drew.ext hk2
        have hb2 := hb.drew.ext hk2
        clear hk2 c1 c2
        go_wp2
        clear k1 k2 k3 k4
        go_roundw
      case rel =>
        refine ⟨(i + j) / 2 + 1, j, by omega, by omega, hj, by first | rfl | (congr 1; done) | (congr 1; omega), rfl, .inr ?_, HHj.out, hkp2, hb2⟩
        rw [HLO.out]; dsimp only; rw [Nat.add_sub_cancel, HY.out, HCC.out]; omega
      case measure => simp [intOf]; omega
      case rel =>
        refine ⟨i, (i + j) / 2, hi, by omega, by omega, rfl, by first | rfl | (congr 1; done) | (congr 1; omega), HLi.out, .inr ?_, hkp2, hb2⟩
        rw [HHI.out]; dsimp only; rw [HY.out, HCC.out]; omega
      case measure => simp [intOf]; omega
    · obtain rfl : i = j := by omega
      have HL1 := HLi.out; have HH1 := HHj.out
      rw [HLO.out] at HL1; rw [HHI.out] at HH1
      have key := part_below L hs (x := x) (i := i - m) (by have := EB.out; omega) (by
        rcases HL1 with h | h
        · left; omega
        · by_cases e : i = m
          · left; omega
          · right
            rw [show p ++ x :: B ++ q = (p ++ [x]) ++ B ++ q by simp, getD_in (by have := EA.out; have := EMM.out; simp; omega) (by have := EA.out; have := EB.out; have := EMM.out; simp; omega)] at h
            rw [show i - m - 1 = i - 1 - (p ++ [x]).length by have := EA.out; have := EMM.out; simp; omega]
            exact h) (by
        rcases HH1 with h | h
        · left; have := EB.out; omega
        · by_cases e : i = b
          · left; have := EB.out; omega
          · right
            rw [show p ++ x :: B ++ q = (p ++ [x]) ++ B ++ q by simp, getD_in (by have := EA.out; have := EMM.out; simp; omega) (by have := EA.out; have := EB.out; have := EMM.out; simp; omega)] at h
            rw [show i - m = i - (p ++ [x]).length by have := EA.out; have := EMM.out; simp; omega]
            exact h)
      obtain ⟨B1, B2, eB, lB, hB1, hB2⟩ := key
      have hmo := merge_one L (eB ▸ hs) (eB ▸ hlr) hB1 hB2
      have HM := Lib.hid hmo
      have EBB := Lib.hid eB
      have LB := Lib.hid lB
      clear hmo eB lB hB1 hB2 HL1 HH1
      obtain ⟨wo, rfl⟩ : ∃ wo : World, wo = wr := ⟨_, rfl⟩
      go_wp2
      obtain ⟨cl, hcl⟩ : ∃ cl : List Nat → List Nat → List Value, cl = fun U V => (p ++ U ++ x :: V ++ B2 ++ q).map (valStr z) ++ rest := ⟨_, rfl⟩
      have HCL := Lib.hid hcl; clear hcl
      go_loopw [13] (Sinking a (i - 1) B1 w0 g cl 9) (fun k _ => i - (intOf k).toNat)
      case atStart => exact ⟨a, [], B1, Nat.le_refl _, by omega, rfl, rfl, rfl, hkp, by rw [HCL.out]; exact hb'.congrL (by rw [EBB.out]; simp)⟩
      case round =>
        obtain ⟨k, U, V, hak, hki, rfl, hU1, hU2, hkp1, hb1⟩ := hrel
        rw [HCL.out] at hb1
        have HU := Lib.hid (And.intro hU1 hU2); clear hU1 hU2
        have HB1 := Lib.hid hb1; clear hb1
        by_cases hlt2 : k + 1 < i
        · have key : ∃ y V', V = y :: V' := by
            cases V with
            | nil => exfalso; have h1 := HU.out; have h2 := LB.out; have h3 := EMM.out; simp at h1; obtain ⟨rfl, h1⟩ := h1; omega
            | cons y V' => exact ⟨y, V', rfl⟩
          obtain ⟨y, V', rfl⟩ := key
          obtain ⟨s1, s2, c1, c2⟩ := swapCells (f := valStr z) (rest := rest) (u := p ++ U) (v := []) (t := V' ++ B2 ++ q) (x := x) (y := y) (i := k) (j := k + 1) (HB1.out.congrL (by simp)) (by have := EA.out; have := HU.out.2; simp; omega) (by have := EA.out; have := HU.out.2; simp; omega)
          have f1 := HB1.out.free k
          have f2 := HB1.out.free (k + 1)
          have S1H := Lib.hid s1; have S2H := Lib.hid s2
          clear s1 s2
          unfold valStr at c1 c2
          obtain ⟨k1, k2, k3, k4, k5, k6, k7⟩ := idx_pred (k := k) (n := n) (by omega) hm
          go_wp2
          go_region
          clear k1 k2 k3 k4 k5 k6 k7
          go_wp2
          go_roundw
          case rel =>
            refine ⟨k + 1, U ++ [y], V', by omega, by omega, by go_num, by simpa using HU.out.1, by have := HU.out.2; simp; omega, ?_, ?_⟩
            · exact ((hkp1.setCell (fun _ => rfl) _).setCell (fun _ => rfl) _).drew
            · rw [HCL.out]; first | exact S1H.out.drew.congrL (by simp) | exact S2H.out.drew.congrL (by simp)
          case measure => simp [intOf]; omega
        · go_wp2
          go_end0
          have key : V = [] := by
            have h1 := HU.out; have h2 := LB.out; have h4 := EMM.out
            have h3 := congrArg List.length h1.1
            simp at h3
            exact List.eq_nil_of_length_eq_zero (by omega)
          subst key
          refine RetF.mk hkp1 ⟨rfl, B1 ++ x :: B2, by rw [EBB.out]; exact HM.out.1, HM.out.2, HB1.out.congrL ?_⟩
          have h1 := HU.out.1
          simp at h1
          rw [h1]; simp
end Go.Proofs.YtfkhelihepbehaaGreat

/- slices.symMergeCmpFunc at string, the great case. -/
namespace Go.Proofs.YtfkhelihepbehaaGreat
open Go.RowKit
set_option linter.unusedVariables false

/-- The search of the merge's cut, between two rounds. -/
def CutSearchStr (c : Nat → Nat → Int) (D : List Nat) (P lo hi : Nat) (w0 : World) (g : Nat) (cells : List Value) (e : TypeId) (iv jv : Value) (w : World) : Prop :=
  Search lo hi (fun t => ¬ c (D.getD (P - t) 0) (D.getD t 0) < 0) (fun t => c (D.getD (P - t) 0) (D.getD t 0) < 0) (fun k => k = g) w0 g cells e iv jv w
/-- What a row's block holds, the rest as it was. -/
def RowIsStr (w0 : World) (g : Nat) (e : TypeId) (cells : List Value) (w : World) : Prop := Kp (fun k => k = g) w0 w ∧ Blk w g cells e

/-- A stretch of the row has been put in its order. -/
def PartIsStr (c : Nat → Nat → Int) (w0 : World) (g : Nat) (e : TypeId) (S : List Nat) (cells : List Nat → List Value) (w : World) : Prop := ∃ C, C.Perm S ∧ Sorted c C ∧ RowIsStr w0 g e (cells C) w

/-- What the merge of two sorted neighbours does. -/
def SymOKStr (P : Program) (z : Nat → ByteArray) (g n cap N : Nat) (rest : List Value) (f : FuncId) (first captured : Array Value) (c : Nat → Nat → Int) (w0 : World) (k : Nat) : Prop :=
  ∀ (w : World) (p A B q : List Nat), A.length + B.length ≤ k → A ≠ [] → B ≠ [] → Kp (fun k => k = g) w0 w → (∀ i ∈ p ++ A ++ B ++ q, i < N) → Sorted c A → Sorted c B → (∀ u ∈ A, ∀ v ∈ B, u < v) →
    (p ++ A ++ B ++ q).length = n → Blk w g ((p ++ A ++ B ++ q).map (valStr z) ++ rest) 9 → ∀ a m b : Nat, a = p.length → m = p.length + A.length → b = p.length + A.length + B.length →
    Calls P 140 #[.slice (some ⟨g, 0, none⟩) n cap, .int .i64 a, .int .i64 m, .int .i64 b, .func (Fn.func f) first captured] w
      (RetF (fun k => k = g) w0 fun w' v => v = .tuple #[] ∧ ∃ C, C.Perm (A ++ B) ∧ Sorted c C ∧ Blk w' g ((p ++ C ++ q).map (valStr z) ++ rest) 9)

set_option maxRecDepth 100000 in
set_option maxHeartbeats 4000000 in
theorem symMergeStr_great (z : Nat → ByteArray) (g n cap N : Nat) (rest : List Value) (f : FuncId) (first captured : Array Value) (c : Nat → Nat → Int) (L : CmpLaw c) (w0 w : World)
    (hcmp : CmpOn Tryz.prog f first captured g N w0 (valStr z) c) (hm : n ≤ 4611686018427387904) (hk0 : Kp (fun k => k = g) w0 w) (p A B q : List Nat) (hA2 : 2 ≤ A.length) (hB2 : 2 ≤ B.length)
    (ih : SymOKStr Tryz.prog z g n cap N rest f first captured c w0 (A.length + B.length - 1)) (hN : ∀ i ∈ p ++ A ++ B ++ q, i < N) (hsA : Sorted c A) (hsB : Sorted c B) (hlr : ∀ u ∈ A, ∀ v ∈ B, u < v)
    (hn : (p ++ A ++ B ++ q).length = n) (hB : Blk w g ((p ++ A ++ B ++ q).map (valStr z) ++ rest) 9) (a m b : Nat) (ea : a = p.length) (em : m = a + A.length) (eb : b = m + B.length) :
    Calls Tryz.prog 140 #[.slice (some ⟨g, 0, none⟩) n cap, .int .i64 a, .int .i64 m, .int .i64 b, .func (Fn.func f) first captured] w
      (RetF (fun k => k = g) w0 fun w' v => v = .tuple #[] ∧ ∃ C, C.Perm (A ++ B) ∧ Sorted c C ∧ Blk w' g ((p ++ C ++ q).map (valStr z) ++ rest) 9) := by
  have b1 : a + 1 < m := by omega
  have b2 : b ≤ n := by simp at hn; omega
  have b3 : m + 1 < b := by omega
  obtain ⟨mid, emid⟩ : ∃ mid, mid = (a + b) / 2 := ⟨_, rfl⟩
  obtain ⟨lo, hi, hc⟩ : ∃ lo hi, (mid < m ∧ lo = mid + m - b ∧ hi = mid) ∨ (m ≤ mid ∧ lo = a ∧ hi = m) := by
    by_cases h : mid < m
    · exact ⟨_, _, .inl ⟨h, rfl, rfl⟩⟩
    · exact ⟨_, _, .inr ⟨by omega, rfl, rfl⟩⟩
  have rmid : ((a : Int) + b) / 2 = (mid : Int) := by omega
  have hmb : mid < b := by omega
  have ham : a < mid := by omega
  have hlh : lo ≤ hi ∧ hi ≤ m ∧ a ≤ lo ∧ hi ≤ mid ∧ mid + m ≤ lo + b := by omega
  obtain ⟨P, eP⟩ : ∃ P, P + 1 = mid + m := ⟨mid + m - 1, by omega⟩
  have rP : (mid : Int) + m - 1 = (P : Int) := by omega
  have t1 : ((m : Int) - a == 1) = false := by simp; omega
  have t2 : ((b : Int) - m == 1) = false := by simp; omega
  have HN := Lib.hid hn; clear hn
  have EA := Lib.hid ea; clear ea
  have EM := Lib.hid em; clear em
  have EB := Lib.hid eb; clear eb
  have HNs := Lib.hid hN; clear hN
  have hent := hcmp.1
  have HC := Lib.hid hcmp.2; clear hcmp
  have HCC0 := Lib.hid hc
  have EMID := Lib.hid emid; clear emid
  have EP := Lib.hid eP; clear eP
  have IH := Lib.hid ih; clear ih
  go_enter Tryz.func140, Tryz.ntmps140
  go_upto_if 140 with (fail)
  go_cut [20, 21] (fun s r wx => s = .int .i64 lo ∧ r = .int .i64 hi ∧ w = wx)
  case first =>
    rcases hc with ⟨h1, h2, h3⟩ | ⟨h1, h2, h3⟩
    · have r1 : (mid : Int) + m - b = (lo : Int) := by omega
      have E1 := Lib.hid h2; have E2 := Lib.hid h3; clear h2 h3
      go_wp2_with fail
      go_meet
      exact ⟨rfl, by rw [E2.out], rfl⟩
    · have E1 := Lib.hid h2; have E2 := Lib.hid h3; clear h2 h3
      go_wp2_with fail
      go_meet
      exact ⟨by rw [E1.out], by rw [E2.out], rfl⟩
  case rest =>
    obtain ⟨rfl, rfl, rfl⟩ := hcut
    clear hc
    go_wp2
    obtain ⟨cells, hcells⟩ : ∃ cells : List Value, cells = (p ++ A ++ B ++ q).map (valStr z) ++ rest := ⟨_, rfl⟩
    have HCE := Lib.hid hcells; rw [← hcells] at hB; clear hcells
    obtain ⟨D, hD⟩ : ∃ D : List Nat, D = p ++ A ++ B ++ q := ⟨_, rfl⟩
    have HD := Lib.hid hD; clear hD
    go_loopw [20, 21] (CutSearchStr c D P lo hi w0 g cells 9) (fun i j _ => (intOf j).toNat - (intOf i).toNat)
    case atStart => exact ⟨lo, hi, Nat.le_refl _, by omega, Nat.le_refl _, rfl, rfl, .inl rfl, .inl rfl, hk0, hB⟩
    case round =>
      obtain ⟨i, j, hi1, hij, hj, rfl, rfl, hlo, hhi, hkp, hb⟩ := hrel
      have HLi := Lib.hid hlo; have HHj := Lib.hid hhi; clear hlo hhi
      have HB0 := Lib.hid hb
      by_cases hlt : i < j
      · obtain ⟨t, et⟩ : ∃ t, t = (i + j) / 2 := ⟨_, rfl⟩
        have ht1 : i ≤ t := by omega
        have ht2 : t < j := by omega
        have rt : ((i : Int) + j) / 2 = (t : Int) := by omega
        obtain ⟨d, ed⟩ : ∃ d, d + t = P := ⟨P - t, by have := EP.out; omega⟩
        have hd1 : m ≤ d ∧ d < b := by have := EP.out; omega
        have rd : (P : Int) - t = (d : Int) := by omega
        have rw1 : IntKind.i64.wrap ((P : Int) - t) = (d : Int) := by rw [rd]; exact IntWalk.i64_in _ (by omega)
        have rw2 : IntKind.i64.wrap (d : Int) = (d : Int) := IntWalk.i64_in _ (by omega)
        have htn : t < n := by omega
        have hdn : d < n := by omega
        clear et
        have ED := Lib.hid ed; clear ed
        have hb' := hb
        rw [HCE.out] at hb'
        have c1 := hb'.at t (by have := HN.out; omega)
        have c2 := hb'.at d (by have := HN.out; omega)
        clear hb'
        rw [← HD.out] at c1 c2
        have hx : D.getD t 0 < N := HNs.out _ (by rw [← HD.out]; exact getD_mem (by have := HN.out; rw [HD.out]; omega))
        have hy : D.getD d 0 < N := HNs.out _ (by rw [← HD.out]; exact getD_mem (by have := HN.out; rw [HD.out]; omega))
        generalize hxx : D.getD t 0 = x at c1 hx
        generalize hyy : D.getD d 0 = y at c2 hy
        have HX := Lib.hid hxx; have HY := Lib.hid hyy; clear hxx hyy
        have hcall := fun W hW => HC.out W hW y x hy hx
        have HCall := Lib.hid hcall; clear hcall
        unfold valStr at c1 c2
        generalize hcc : c y x = cc at HCall
        have HCC := Lib.hid hcc; clear hcc
        by_cases hneg : cc < 0
        · have hdc : decide (cc < 0) = true := by simpa using hneg
          go_wp2
          go_still_tail 11, (by kernel_rfl)
          go_wp2_with fail
          refine (HCall.out _ hkp.drew).mono ?_
          rintro e w1 ⟨rfl, hk2⟩
          have hkp2 : Kp (fun k => k = g) w0 w1 := hkp.drew.ext hk2
          have hb2 := hb.drew.ext hk2
          clear hk2 c1 c2 rw1 rw2
          go_wp2
          go_roundw
          case rel =>
            refine ⟨i, t, hi1, by omega, by omega, rfl, rfl, HLi.out.imp id (fun h => by dsimp only; omega), .inr ?_, hkp2, hb2⟩
            dsimp only
            rw [show P - t = d by have := ED.out; omega, HX.out, HY.out, HCC.out]; omega
          case measure => simp [intOf]; omega
        · have hdc : decide (cc < 0) = false := by simp; omega
          go_wp2
          go_still_tail 11, (by kernel_rfl)
          go_wp2_with fail
          refine (HCall.out _ hkp.drew).mono ?_
          rintro e w1 ⟨rfl, hk2⟩
          have hkp2 : Kp (fun k => k = g) w0 w1 := hkp.drew.ext hk2
          have hb2 := hb.drew.ext hk2
          clear hk2 c1 c2 rw1 rw2
          go_wp2
          go_roundw
          case rel =>
            refine ⟨t + 1, j, by omega, by omega, hj, by first | rfl | (congr 1; done) | (congr 1; omega), rfl, .inr ?_, HHj.out, hkp2, hb2⟩
            dsimp only
            rw [Nat.add_sub_cancel, show P - t = d by have := ED.out; omega, HX.out, HY.out, HCC.out]; omega
          case measure => simp [intOf]; omega
      · obtain rfl : i = j := by omega
        have h3 := HLi.out; have h4 := HHj.out
        rw [HD.out] at h3 h4
        rw [show P = mid + m - 1 by have := EP.out; omega] at h3 h4
        obtain ⟨A1, A2, B1, B2, eA, eB, lA, lB, hAh⟩ := merge_cut L EA.out EM.out EB.out EMID.out hsA hsB hlr (by omega) (by omega) HCC0.out hi1 hj h3 h4
        clear h3 h4
        obtain ⟨e, ee⟩ : ∃ e, e + i = mid + m := ⟨mid + m - i, by omega⟩
        have re : (mid : Int) + m - i = (e : Int) := by omega
        have hle : m ≤ e ∧ e ≤ b := by omega
        have HL := Lib.hid (And.intro eA (And.intro eB (And.intro lA (And.intro (show m + B1.length = e by omega) ee))))
        have HAh := Lib.hid hAh
        clear eA eB lA lB hAh ee
        have hsb : i ≤ m := by omega
        obtain ⟨wo, rfl⟩ : ∃ wo : World, wo = wr := ⟨_, rfl⟩
        have hb0 := HB0.out
        rw [HCE.out, HL.out.1, HL.out.2.1] at hb0
        have HB1 := Lib.hid hb0; clear hb0 hb
        have HNL : (p ++ (A1 ++ A2) ++ (B1 ++ B2) ++ q).length = n := by rw [← HL.out.1, ← HL.out.2.1]; exact HN.out
        have HNN := Lib.hid HNL; clear HNL
        have HNsL : ∀ x ∈ p ++ A1 ++ B1 ++ A2 ++ B2 ++ q, x < N := fun x hx => HNs.out x (by rw [HL.out.1, HL.out.2.1]; simp at hx ⊢; rcases hx with h | h | h | h | h | h <;> simp [h])
        have HNS := Lib.hid HNsL; clear HNsL
        have hlens : a + A1.length = i ∧ i + A2.length = m ∧ m + B1.length = e ∧ e + B2.length = b ∧ e + i = mid + m := by
          have h := HL.out; have h1 := EM.out; have h2 := EB.out
          have h3 := congrArg List.length h.1; have h4 := congrArg List.length h.2.1
          simp at h3 h4; omega
        have HLE := Lib.hid hlens
        by_cases h1 : i < m <;> by_cases h2 : m < e <;> by_cases h3 : a < i <;> by_cases h4 : e < b <;> try (exfalso; omega)
        all_goals
          have h5 : i < mid ∨ mid ≤ i := by omega
          have h6 : mid < e ∨ e ≤ mid := by omega
          clear hlens
          rcases h5 with h5 | h5 <;> rcases h6 with h6 | h6 <;> try (exfalso; have := HLE.out; omega)
        all_goals
          go_wp2_with fail
          first
            | (go_at_call 163
               refine (rotateStr_any z g n cap rest _ w0 _ hkp (p ++ A1) A2 B1 (B2 ++ q) (by rintro rfl; have := HLE.out; simp at this; omega) (by rintro rfl; have := HLE.out; simp at this; omega) (by have := HNN.out; simpa using this) (HB1.out.congrL (by simp)) hm _ _ _ (by have := HLE.out; have := EA.out; simp; omega) (by have := HLE.out; have := EA.out; simp; omega) (by have := HLE.out; have := EA.out; simp; omega)).mono ?_
               rintro e1 w1 ⟨v, rfl, hk1, rfl, hb1⟩
               have hb1' : Blk w1 g ((p ++ A1 ++ B1 ++ A2 ++ B2 ++ q).map (valStr z) ++ rest) 9 := hb1.congrL (by simp)
               have HB2 := Lib.hid hb1'
               clear hb1 hb1'
               go_wp2_with fail)
            | (obtain ⟨w1, rfl⟩ : ∃ w1 : World, w1 = wo := ⟨_, rfl⟩
               have hk1 := hkp
               have hb1' : Blk w1 g ((p ++ A1 ++ B1 ++ A2 ++ B2 ++ q).map (valStr z) ++ rest) 9 := by
                 have h7 : A2 = [] ∨ B1 = [] := by
                   have := HLE.out
                   by_cases h8 : A2 = []
                   · exact .inl h8
                   · right
                     have := List.length_pos_iff.2 h8
                     exact List.eq_nil_of_length_eq_zero (by omega)
                 rcases h7 with rfl | rfl
                 · exact HB1.out.congrL (by simp)
                 · exact HB1.out.congrL (by simp)
               have HB2 := Lib.hid hb1'
               clear hb1')
          first
            | (go_at_call_of 140 (Value.int IntKind.i64 (a : Int))
               refine (IH.out w1 p A1 B1 (A2 ++ B2 ++ q) (by have := HLE.out; have := HL.out; rw [this.1, this.2.1]; simp; omega) (by rintro rfl; have := HLE.out; simp at this; omega) (by rintro rfl; have := HLE.out; simp at this; omega) hk1 (fun x hx => HNS.out x (by simpa using hx)) (Sorted.append.1 (HL.out.1 ▸ hsA)).1 (Sorted.append.1 (HL.out.2.1 ▸ hsB)).1 (fun u hu v hv => hlr u (by rw [HL.out.1]; simp [hu]) v (by rw [HL.out.2.1]; simp [hv])) (by have := HNN.out; simp at this ⊢; omega) (HB2.out.congrL (by simp)) _ _ _ (by have := EA.out; omega) (by have := HLE.out; have := EA.out; omega) (by have := HLE.out; have := EA.out; omega)).mono ?_
               rintro e1 w2 ⟨v, rfl, hk2, rfl, C1, hp1, hs1, hb2⟩
               have HC1 := Lib.hid (And.intro hp1 (And.intro hs1 hb2))
               clear hp1 hs1 hb2
               go_wp2_with fail)
            | (obtain ⟨w2, rfl⟩ : ∃ w2 : World, w2 = w1 := ⟨_, rfl⟩
               have hk2 := hk1
               have HC1 : Hid (∃ C1, C1.Perm (A1 ++ B1) ∧ Sorted c C1 ∧ Blk w2 g ((p ++ C1 ++ (A2 ++ B2 ++ q)).map (valStr z) ++ rest) 9) := by
                 refine ⟨A1 ++ B1, List.Perm.refl _, ?_, HB2.out.congrL (by simp)⟩
                 have h7 : A1 = [] ∨ B1 = [] := by
                   have := HLE.out
                   by_cases h8 : A1 = []
                   · exact .inl h8
                   · right
                     have := List.length_pos_iff.2 h8
                     exact List.eq_nil_of_length_eq_zero (by omega)
                 rcases h7 with h7 | h7
                 · rw [h7]; exact (Sorted.append.1 (HL.out.2.1 ▸ hsB)).1
                 · rw [h7, List.append_nil]; exact (Sorted.append.1 (HL.out.1 ▸ hsA)).1
               obtain ⟨C1, HC1⟩ := HC1)
          have HC1' : Hid (C1.Perm (A1 ++ B1) ∧ Sorted c C1 ∧ Blk w2 g ((p ++ C1 ++ (A2 ++ B2 ++ q)).map (valStr z) ++ rest) 9) := HC1
          have hl1 : C1.length = A1.length + B1.length := by have := HC1'.out.1.length_eq; simpa using this
          have HL1 := Lib.hid hl1; clear hl1 HC1
          first
            | (go_at_call_of 140 (Value.int IntKind.i64 (b : Int))
               refine (IH.out w2 (p ++ C1) A2 B2 q (by have := HLE.out; have := HL.out; rw [this.1, this.2.1]; simp; omega) (by rintro rfl; have := HLE.out; simp at this; omega) (by rintro rfl; have := HLE.out; simp at this; omega) hk2 (fun x hx => HNS.out x (by
                   simp at hx ⊢
                   rcases hx with h | h | h | h | h
                   · simp [h]
                   · have := HC1'.out.1.subset h; simp at this; rcases this with h | h <;> simp [h]
                   · simp [h]
                   · simp [h]
                   · simp [h])) (Sorted.append.1 (HL.out.1 ▸ hsA)).2.1 (Sorted.append.1 (HL.out.2.1 ▸ hsB)).2.1 (fun u hu v hv => hlr u (by rw [HL.out.1]; simp [hu]) v (by rw [HL.out.2.1]; simp [hv])) (by have := HNN.out; have := HL1.out; simp at *; omega) (HC1'.out.2.2.congrL (by simp)) _ _ _ (by have := HLE.out; have := EA.out; have := HL1.out; simp; omega) (by have := HLE.out; have := EA.out; have := HL1.out; simp; omega) (by have := HLE.out; have := EA.out; have := HL1.out; simp; omega)).mono ?_
               rintro e1 w3 ⟨v, rfl, hk3, rfl, C2, hp2, hs2, hb3⟩
               have HC2 := Lib.hid (And.intro hp2 (And.intro hs2 hb3))
               clear hp2 hs2 hb3
               go_wp2_with fail)
            | (obtain ⟨w3, rfl⟩ : ∃ w3 : World, w3 = w2 := ⟨_, rfl⟩
               have hk3 := hk2
               have HC2 : Hid (∃ C2, C2.Perm (A2 ++ B2) ∧ Sorted c C2 ∧ Blk w3 g ((p ++ C1 ++ C2 ++ q).map (valStr z) ++ rest) 9) := by
                 refine ⟨A2 ++ B2, List.Perm.refl _, ?_, HC1'.out.2.2.congrL (by simp)⟩
                 have h7 : A2 = [] ∨ B2 = [] := by
                   have := HLE.out
                   by_cases h8 : A2 = []
                   · exact .inl h8
                   · right
                     have := List.length_pos_iff.2 h8
                     exact List.eq_nil_of_length_eq_zero (by omega)
                 rcases h7 with h7 | h7
                 · rw [h7]; exact (Sorted.append.1 (HL.out.2.1 ▸ hsB)).2.1
                 · rw [h7, List.append_nil]; exact (Sorted.append.1 (HL.out.1 ▸ hsA)).2.1
               obtain ⟨C2, HC2⟩ := HC2)
          have HC2' : Hid (C2.Perm (A2 ++ B2) ∧ Sorted c C2 ∧ Blk w3 g ((p ++ C1 ++ C2 ++ q).map (valStr z) ++ rest) 9) := HC2
          go_end0
          have hmb := merge_both HAh.out HC1'.out.1 HC1'.out.2.1 HC2'.out.1 HC2'.out.2.1
          refine RetF.mk hk3 ⟨rfl, C1 ++ C2, by rw [HL.out.1, HL.out.2.1]; exact hmb.1, hmb.2, HC2'.out.2.2.congrL (by simp)⟩
end Go.Proofs.YtfkhelihepbehaaGreat

/- slices.stableCmpFunc and slices.SortStableFunc at string. -/
namespace Go.Proofs.YtfkhelihepbehaaGreat
open Go.RowKit
set_option linter.unusedVariables false

theorem symMergeStr_any (z : Nat → ByteArray) (g n cap N : Nat) (rest : List Value) (f : FuncId) (first captured : Array Value) (c : Nat → Nat → Int) (L : CmpLaw c) (w0 : World)
    (hcmp : CmpOn Tryz.prog f first captured g N w0 (valStr z) c) (hm : n ≤ 4611686018427387904) : ∀ k, SymOKStr Tryz.prog z g n cap N rest f first captured c w0 k := by
  intro k
  induction k with
  | zero => intro w p A B q hk hA; have := List.length_pos_iff.2 hA; omega
  | succ k ih =>
    intro w p A B q hk hA hB hkp hN hsA hsB hlr hn hb a m b ea em eb
    have lA := List.length_pos_iff.2 hA
    have lB := List.length_pos_iff.2 hB
    by_cases h1 : A.length = 1
    · obtain ⟨x, rfl⟩ := List.length_eq_one_iff.1 h1
      refine (symMergeStr_one z g n cap N rest f first captured c L w0 w hcmp hm hkp p x B q hB (fun i hi => hN i (by simpa using hi)) hsB (fun v hv => hlr x (by simp) v hv) (by simpa using hn) (hb.congrL (by simp)) a m b ea (by simp at em; omega) (by simp at em eb; omega)).mono ?_
      rintro e w' ⟨v, rfl, h, hv, C, hp, hs, hb'⟩
      exact ⟨v, rfl, h, hv, C, by simpa using hp, hs, hb'⟩
    · by_cases h2 : B.length = 1
      · obtain ⟨x, rfl⟩ := List.length_eq_one_iff.1 h2
        refine (symMergeStr_last z g n cap N rest f first captured c L w0 w hcmp hm hkp p A x q (by omega) (fun i hi => hN i (by simpa using hi)) hsA (fun v hv => hlr v hv x (by simp)) (by simpa using hn) (hb.congrL (by simp)) a m b ea (by omega) (by simp at eb; omega)).mono ?_
        rintro e w' ⟨v, rfl, h, hv, C, hp, hs, hb'⟩
        exact ⟨v, rfl, h, hv, C, hp, hs, hb'⟩
      · refine (symMergeStr_great z g n cap N rest f first captured c L w0 w hcmp hm hkp p A B q (by omega) (by omega) (fun w p' A' B' q' h => ih w p' A' B' q' (by omega)) hN hsA hsB hlr hn hb a m b ea (by omega) (by omega)).mono ?_
        rintro e w' ⟨v, rfl, h, hv, C, hp, hs, hb'⟩
        exact ⟨v, rfl, h, hv, C, hp, hs, hb'⟩

theorem symMergeStr_int (z : Nat → ByteArray) (g n cap N : Nat) (rest : List Value) (f : FuncId) (first captured : Array Value) (c : Nat → Nat → Int) (L : CmpLaw c) (w0 : World)
    (hcmp : CmpOn Tryz.prog f first captured g N w0 (valStr z) c) (hm : n ≤ 4611686018427387904) (w : World) (p A B q : List Nat) (hA : A ≠ []) (hB : B ≠ []) (hkp : Kp (fun k => k = g) w0 w) (hN : ∀ i ∈ p ++ A ++ B ++ q, i < N) (hsA : Sorted c A) (hsB : Sorted c B) (hlr : ∀ u ∈ A, ∀ v ∈ B, u < v)
    (hn : (p ++ A ++ B ++ q).length = n) (hb : Blk w g ((p ++ A ++ B ++ q).map (valStr z) ++ rest) 9) (a m b : Int) (ea : a = (p.length : Nat)) (em : m = ((p.length + A.length : Nat) : Int)) (eb : b = ((p.length + A.length + B.length : Nat) : Int)) :
    Calls Tryz.prog 140 #[.slice (some ⟨g, 0, none⟩) n cap, .int .i64 a, .int .i64 m, .int .i64 b, .func (Fn.func f) first captured] w
      (RetF (fun k => k = g) w0 fun w' v => v = .tuple #[] ∧ ∃ C, C.Perm (A ++ B) ∧ Sorted c C ∧ Blk w' g ((p ++ C ++ q).map (valStr z) ++ rest) 9) := by
  subst ea em eb
  exact symMergeStr_any z g n cap N rest f first captured c L w0 hcmp hm _ w p A B q (Nat.le_refl _) hA hB hkp hN hsA hsB hlr hn hb _ _ _ rfl rfl rfl

set_option maxRecDepth 100000 in
set_option maxHeartbeats 8000000 in
theorem stableCmpStr_any (z : Nat → ByteArray) (g n cap : Nat) (rest : List Value) (f : FuncId) (first captured : Array Value) (c : Nat → Nat → Int) (L : CmpLaw c) (w : World)
    (hcmp : CmpOn Tryz.prog f first captured g n w (valStr z) c) (hm : n ≤ 1152921504606846976) (hB : Blk w g ((List.range n).map (valStr z) ++ rest) 9) :
    Calls Tryz.prog 106 #[.slice (some ⟨g, 0, none⟩) n cap, .int .i64 n, .func (Fn.func f) first captured] w
      (RetF (fun k => k = g) w fun w' v => v = .tuple #[] ∧ ∃ C, C.Perm (List.range n) ∧ Sorted c C ∧ Blk w' g (C.map (valStr z) ++ rest) 9) := by
  have hm' : n ≤ 4611686018427387904 := by omega
  have HCm := Lib.hid hcmp; clear hcmp
  have HBr : Blk w g ((List.range' 0 n).map (valStr z) ++ rest) 9 := by rw [← List.range_eq_range']; exact hB
  have HBr' := Lib.hid HBr; clear HBr hB
  go_enter Tryz.func106, Tryz.ntmps106
  go_wp2
  go_loopw [7, 8] (Stable1 c n w g (valStr z) rest 9) (fun a _ _ => n - (intOf a).toNat)
  case atStart => exact ⟨[], by simp, trivial, by simp, rfl, rfl, Kp.refl _, by simpa using HBr'.out⟩
  case round =>
    obtain ⟨dn, hd, hgood, hle, rfl, rfl, hkp, hb⟩ := hrel
    generalize hda : dn.flatten.length = a at *
    have HDA := Lib.hid hda; clear hda
    have HD := Lib.hid (And.intro hd hgood); clear hd hgood
    have HB1 := Lib.hid hb; clear hb
    by_cases hlt : a + 20 ≤ n
    · go_wp2_with fail
      refine (insSortStr_any z g n cap n rest f first captured c L w wr HCm.out hkp dn.flatten (List.range' a 20) (List.range' (a + 20) (n - (a + 20))) (fun i hi => by rw [List.mem_range'_1] at hi; omega) List.pairwise_lt_range' (by have := HDA.out; simp only [List.length_append, List.length_cons, List.length_nil, List.length_range', List.flatten_append, List.flatten_cons, List.flatten_nil, List.append_nil, List.nil_append]; omega) (HB1.out.congrL (by
          have e : List.range' a 20 ++ List.range' (a + 20) (n - (a + 20)) = List.range' a (n - a) := by rw [List.range'_append_1]; congr 1; omega
          rw [List.append_assoc, e])) hm' _ _ HDA.out.symm (by have := HDA.out; simp only [List.length_append, List.length_cons, List.length_nil, List.length_range', List.flatten_append, List.flatten_cons, List.flatten_nil, List.append_nil, List.nil_append]; omega)).mono ?_
      rintro e w1 ⟨v, rfl, hk1, rfl, C, hp, hs, hb1⟩
      have HC1 := Lib.hid (And.intro hp (And.intro hs hb1)); clear hp hs hb1
      go_wp2
      go_roundw
      case rel =>
        obtain ⟨hp, hs, hb1⟩ := HC1.out
        have hl : C.length = 20 := by have := hp.length_eq; simpa using this
        have hfl : (dn ++ [C]).flatten.length = a + 20 := by have := HDA.out; simp only [List.length_append, List.length_cons, List.length_nil, List.length_range', List.flatten_append, List.flatten_cons, List.flatten_nil, List.append_nil, List.nil_append]; omega
        refine ⟨dn ++ [C], ?_, Good.append.2 ⟨HD.out.2, ?_⟩, by omega, by rw [hfl]; go_num, by rw [hfl]; go_num, hk1, ?_⟩
        · intro A hA
          rcases List.mem_append.1 hA with hA | hA
          · exact HD.out.1 A hA
          · simp at hA; subst hA; exact hl
        · have := HDA.out; simp only [List.length_flatten] at this
          refine ⟨?_, hs, trivial⟩
          rw [hl, Nat.zero_add, HDA.out]; exact hp
        · rw [hfl]; exact hb1.congrL (by simp)
      case measure => simp [intOf]; omega
    · have hN : n - a < 20 := by omega
      go_wp2_with fail
      refine (insSortStr_any z g n cap n rest f first captured c L w wr HCm.out hkp dn.flatten (List.range' a (n - a)) [] (fun i hi => by rw [List.mem_range'_1] at hi; omega) List.pairwise_lt_range' (by have := HDA.out; simp only [List.length_append, List.length_cons, List.length_nil, List.length_range', List.flatten_append, List.flatten_cons, List.flatten_nil, List.append_nil, List.nil_append]; omega) (HB1.out.congrL (by simp)) hm' _ _ HDA.out.symm (by have := HDA.out; simp only [List.length_append, List.length_cons, List.length_nil, List.length_range', List.flatten_append, List.flatten_cons, List.flatten_nil, List.append_nil, List.nil_append]; omega)).mono ?_
      rintro e w1 ⟨v, rfl, hk1, rfl, C, hp, hs, hb1⟩
      have key : ∃ Cs, Full 20 Cs ∧ Good c 0 Cs ∧ Cs.flatten = dn.flatten ++ C := by
        have hl : C.length = n - a := by have := hp.length_eq; simpa using this
        by_cases h0 : C.length = 0
        · obtain rfl := List.eq_nil_of_length_eq_zero h0
          exact ⟨dn, Full.all' (by decide) HD.out.1, HD.out.2, by simp⟩
        · refine ⟨dn ++ [C], Full.all HD.out.1 (by omega) (by omega), Good.append.2 ⟨HD.out.2, ?_, hs, trivial⟩, by simp⟩
          rw [hl, Nat.zero_add, HDA.out]; exact hp
      obtain ⟨Cs, hf, hg2, he⟩ := key
      have hl : Cs.flatten.length = n := by
        rw [he]
        have h1 := hp.length_eq
        have := HDA.out
        simp only [List.length_range'] at h1
        simp only [List.length_append, List.length_cons, List.length_nil, List.length_range', List.flatten_append, List.flatten_cons, List.flatten_nil, List.append_nil, List.nil_append]; omega
      have hb2 : Blk w1 g (Cs.flatten.map (valStr z) ++ rest) 9 := by rw [he]; exact hb1.congrL (by simp)
      have HS := Lib.hid (And.intro hf (And.intro hg2 (And.intro hl hb2)))
      clear hp hs hb1 hf hg2 he hl hb2
      go_wp2
      go_loopw [6, 7, 8] (fun sv _ _ wx => Stable2 c n w g (valStr z) rest 9 sv wx) (fun s _ _ _ => n - (intOf s).toNat)
      case atStart =>
        obtain ⟨h1, h2, h3, h4⟩ := HS.out
        exact ⟨20, Cs, by decide, rfl, h1, h2, h3, by omega, hk1, h4⟩
      case round =>
        obtain ⟨bs, Cs2, hbs, rfl, hf, hg2, hl, hle2, hkp2, hb2⟩ := hrel
        have HF := Lib.hid (And.intro hf (And.intro hg2 (And.intro hl hb2)))
        clear hf hg2 hl hb2
        by_cases hlt2 : bs < n
        · obtain ⟨wo, rfl⟩ : ∃ wo : World, wo = wr := ⟨_, rfl⟩
          go_wp2
          go_loopw [7, 8] (Stable3 c n bs w g (valStr z) rest 9) (fun a _ _ => n - (intOf a).toNat)
          case atStart =>
            obtain ⟨h1, h2, h3, h4⟩ := HF.out
            exact ⟨[], Cs2, by simp, h1, h2, h3, rfl, by simp, hkp2, h4⟩
          case round =>
            obtain ⟨dn2, td, hd2, hft, hg3, hl3, rfl, rfl, hkp3, hb3⟩ := hrel
            have hle3 : dn2.flatten.length + td.flatten.length = n := by simpa only [List.flatten_append, List.length_append] using hl3
            generalize hda2 : dn2.flatten.length = a2 at *
            have HDA2 := Lib.hid hda2; clear hda2
            have HG := Lib.hid (And.intro hd2 (And.intro hft (And.intro hg3 (And.intro hl3 (And.intro hle3 hb3)))))
            clear hd2 hft hg3 hl3 hb3
            have ha2n : a2 ≤ n := by omega
            clear hle3
            by_cases hlt3 : a2 + 2 * bs ≤ n
            · obtain ⟨A, B, r, rfl, lA, lB, hfr⟩ := Full.two hbs HG.out.2.1 (by have := HG.out.2.2.2.2.1; omega)
              obtain ⟨q1, q2, q3, q4, q5, q6⟩ := HG.out
              have hgd := Good.append.1 q3
              obtain ⟨g1, g2, g4, g5, g6⟩ := hgd.2
              rw [HDA2.out, lA, Nat.zero_add] at g1
              rw [HDA2.out, lA, lB, Nat.zero_add] at g4
              rw [HDA2.out, lA, lB, Nat.zero_add] at g6
              have HQ := Lib.hid (And.intro q1 (And.intro q4 (And.intro q6 (And.intro hgd.1 (And.intro g1 (And.intro g2 (And.intro g4 (And.intro g5 (And.intro g6 (And.intro lA (And.intro lB hfr)))))))))))
              clear q1 q2 q3 q4 q5 q6 hgd g1 g2 g4 g5 g6 lA lB hfr
              go_wp2_with fail
              have lens : dn2.flatten.length = a2 ∧ A.length = bs ∧ B.length = bs ∧ a2 + (bs + (bs + r.flatten.length)) = n := by
                obtain ⟨q1, q4, q6, gd, g1, g2, g4, g5, g6, lA, lB, hfr⟩ := HQ.out
                have h := HDA2.out
                simp only [List.flatten_append, List.flatten_cons, List.length_append, lA, lB, h] at q4
                exact ⟨h, lA, lB, q4⟩
              have HLL := Lib.hid lens; clear lens
              have mem : ∀ i ∈ (dn2 ++ A :: B :: r).flatten, i < n := by
                obtain ⟨q1, q4, q6, gd, g1, g2, g4, g5, g6, lA, lB, hfr⟩ := HQ.out
                intro i hi
                have hall : Good c 0 (dn2 ++ A :: B :: r) := Good.append.2 ⟨gd, by rw [HDA2.out, lA, Nat.zero_add]; exact g1, g2, by rw [HDA2.out, lA, lB, Nat.zero_add]; exact g4, g5, by rw [HDA2.out, lA, lB, Nat.zero_add]; exact g6⟩
                have := Good.mem hall hi
                omega
              have HME := Lib.hid mem; clear mem
              refine (symMergeStr_int z g n cap n rest f first captured c L w HCm.out hm' wr dn2.flatten A B r.flatten (by have := HLL.out; rintro rfl; first | (simp at this; done) | (simp at this; omega)) (by have := HLL.out; rintro rfl; first | (simp at this; done) | (simp at this; omega)) hkp3 (fun i hi => HME.out i (by simpa using hi)) HQ.out.2.2.2.2.2.1 HQ.out.2.2.2.2.2.2.2.1 ?hLR (by have := HLL.out; simp only [List.length_append, List.length_cons, List.length_nil, List.length_range', List.flatten_append, List.flatten_cons, List.flatten_nil, List.append_nil, List.nil_append]; omega) (HQ.out.2.2.1.congrL (by simp)) _ _ _ (by rw [HDA2.out]) (by have := HLL.out; omega) (by have := HLL.out; omega)).mono ?_
              case hLR =>
                intro u hu v hv
                have h1 := range'_mem_lt HQ.out.2.2.2.2.1 hu
                have h2 := range'_mem_lt HQ.out.2.2.2.2.2.2.1 hv
                omega
              rintro e w1 ⟨v, rfl, hk1, rfl, C, hp, hs, hb1⟩
              have HC1 := Lib.hid (And.intro hp (And.intro hs hb1)); clear hp hs hb1
              go_wp2
              go_roundw
              case rel =>
                obtain ⟨q1, q4, q6, gd, g1, g2, g4, g5, g6, lA, lB, hfr⟩ := HQ.out
                obtain ⟨hp, hs, hb1⟩ := HC1.out
                obtain ⟨e1, e2, e3, e4⟩ := HLL.out
                have lC : C.length = 2 * bs := by have := hp.length_eq; simp only [List.length_append] at this; omega
                have pC := merge_range g1 g4 hp
                refine ⟨dn2 ++ [C], r, ?_, hfr, ?_, ?_, ?_, ?_, hk1, hb1.congrL (by simp)⟩
                · intro X hX
                  rcases List.mem_append.1 hX with hX | hX
                  · exact q1 X hX
                  · simp at hX; subst hX; exact lC
                · refine Good.append.2 ⟨Good.append.2 ⟨gd, ?_, hs, trivial⟩, ?_⟩
                  · rw [e1, lC, Nat.zero_add, show 2 * bs = bs + bs by omega]; exact pC
                  · rw [show 0 + (dn2 ++ [C]).flatten.length = a2 + bs + bs by simp only [List.length_append, List.length_cons, List.length_nil, List.length_range', List.flatten_append, List.flatten_cons, List.flatten_nil, List.append_nil, List.nil_append]; omega]; exact g6
                · simp only [List.length_append, List.length_cons, List.length_nil, List.length_range', List.flatten_append, List.flatten_cons, List.flatten_nil, List.append_nil, List.nil_append]; omega
                · rw [show (dn2 ++ [C]).flatten.length = a2 + 2 * bs by simp only [List.length_append, List.length_cons, List.length_nil, List.length_range', List.flatten_append, List.flatten_cons, List.flatten_nil, List.append_nil, List.nil_append]; omega]; go_num
                · rw [show (dn2 ++ [C]).flatten.length = a2 + 2 * bs by simp only [List.length_append, List.length_cons, List.length_nil, List.length_range', List.flatten_append, List.flatten_cons, List.flatten_nil, List.append_nil, List.nil_append]; omega]; go_num
              case measure => simp [intOf]; omega
            · have hrest := Full.rest hbs HG.out.2.1 (by have := HG.out.2.2.2.2.1; omega)
              by_cases hmn : a2 + bs < n
              · have h2 : ∃ A B, td = [A, B] ∧ A.length = bs ∧ 0 < B.length ∧ B.length < bs := by
                  have h5 := HG.out.2.2.2.2.1
                  rcases hrest with (rfl | ⟨A, rfl, h3, h4⟩) | h
                  · simp at h5; omega
                  · simp at h5; omega
                  · exact h
                obtain ⟨A, B, rfl, lA, lB, lB2⟩ := h2
                clear hrest
                obtain ⟨q1, q2, q3, q4, q5, q6⟩ := HG.out
                have hgd := Good.append.1 q3
                obtain ⟨g1, g2, g4, g5, _⟩ := hgd.2
                rw [HDA2.out, lA, Nat.zero_add] at g1
                rw [HDA2.out, lA, Nat.zero_add] at g4
                have mem : ∀ i ∈ (dn2 ++ [A, B]).flatten, i < n := fun i hi => by have := Good.mem q3 hi; omega
                have lens : dn2.flatten.length = a2 ∧ A.length = bs ∧ 0 < B.length ∧ B.length < bs ∧ a2 + (bs + B.length) = n := by
                  have h := HDA2.out
                  have q4' := q4
                  simp only [List.flatten_append, List.flatten_cons, List.flatten_nil, List.length_append, List.length_nil, lA, h] at q4'
                  exact ⟨h, lA, lB, lB2, q4'⟩
                have HQ := Lib.hid (And.intro q1 (And.intro q6 (And.intro hgd.1 (And.intro g1 (And.intro g2 (And.intro g4 (And.intro g5 mem)))))))
                have HLL := Lib.hid lens
                clear q1 q2 q3 q4 q5 q6 hgd g1 g2 g4 g5 mem lens lA lB lB2
                go_wp2_with fail
                refine (symMergeStr_int z g n cap n rest f first captured c L w HCm.out hm' wr dn2.flatten A B [] (by have := HLL.out; rintro rfl; first | (simp at this; done) | (simp at this; omega)) (by have := HLL.out; rintro rfl; first | (simp at this; done) | (simp at this; omega)) hkp3 (fun i hi => HQ.out.2.2.2.2.2.2.2 i (by simpa using hi)) HQ.out.2.2.2.2.1 HQ.out.2.2.2.2.2.2.1 ?hLR (by have := HLL.out; simp only [List.length_append, List.length_cons, List.length_nil, List.length_range', List.flatten_append, List.flatten_cons, List.flatten_nil, List.append_nil, List.nil_append]; omega) (HQ.out.2.1.congrL (by simp)) _ _ _ (by rw [HDA2.out]) (by have := HLL.out; omega) (by have := HLL.out; omega)).mono ?_
                case hLR =>
                  intro u hu v hv
                  have h1 := range'_mem_lt HQ.out.2.2.2.1 hu
                  have h2 := range'_mem_lt HQ.out.2.2.2.2.2.1 hv
                  omega
                rintro e w1 ⟨v, rfl, hk1, rfl, C, hp, hs, hb1⟩
                have HC1 := Lib.hid (And.intro hp (And.intro hs hb1)); clear hp hs hb1
                go_wp2
                go_roundw
                case rel =>
                  obtain ⟨q1, q6, gd, g1, g2, g4, g5, _⟩ := HQ.out
                  obtain ⟨hp, hs, hb1⟩ := HC1.out
                  obtain ⟨e1, e2, e3, e4, e5⟩ := HLL.out
                  have lC : C.length = bs + B.length := by have := hp.length_eq; simp only [List.length_append] at this; omega
                  have pC := merge_range g1 g4 hp
                  refine ⟨2 * bs, dn2 ++ [C], by omega, by go_num, Full.all q1 (by omega) (by omega), Good.append.2 ⟨gd, ?_, hs, trivial⟩, by simp only [List.length_append, List.length_cons, List.length_nil, List.length_range', List.flatten_append, List.flatten_cons, List.flatten_nil, List.append_nil, List.nil_append]; omega, by omega, hk1, hb1.congrL (by simp)⟩
                  rw [e1, lC, Nat.zero_add]; exact pC
                case measure => simp [intOf]; omega
              · have h2 : td = [] ∨ ∃ A, td = [A] ∧ 0 < A.length ∧ A.length ≤ bs := by
                  have h5 := HG.out.2.2.2.2.1
                  rcases hrest with h | ⟨A, B, rfl, h3, h4, h6⟩
                  · exact h
                  · simp at h5; omega
                have HTD := Lib.hid h2
                clear hrest h2
                go_wp2
                go_roundw
                case rel =>
                  obtain ⟨q1, q2, q3, q4, q5, q6⟩ := HG.out
                  refine ⟨2 * bs, dn2 ++ td, by omega, by go_num, ?_, q3, q4, by omega, hkp3, q6⟩
                  rcases HTD.out with rfl | ⟨A, rfl, h3, h4⟩
                  · rw [List.append_nil]; exact Full.all' (by omega) q1
                  · exact Full.all q1 h3 (by omega)
                case measure => simp [intOf]; omega
        · go_wp2
          go_end0
          obtain ⟨h1, h2, h3, h4⟩ := HF.out
          refine RetF.mk hkp2 ⟨rfl, ?_⟩
          rcases Full.one hbs h1 h3 (by omega) with rfl | ⟨A, rfl⟩
          · simp at h3; subst h3
            exact ⟨[], by simp, Sorted.nil, by simpa using h4⟩
          · simp at h3
            obtain ⟨q1, q2, _⟩ := h2
            refine ⟨A, by rw [List.range_eq_range', ← h3]; exact q1, q2, by simpa using h4⟩
theorem sortStableStr_any (z : Nat → ByteArray) (g n cap : Nat) (rest : List Value) (f : FuncId) (first captured : Array Value) (c : Nat → Nat → Int) (L : CmpLaw c) (w : World)
    (hcmp : CmpOn Tryz.prog f first captured g n w (valStr z) c) (hm : n ≤ 1152921504606846976) (hB : Blk w g ((List.range n).map (valStr z) ++ rest) 9) :
    Calls Tryz.prog 53 #[.slice (some ⟨g, 0, none⟩) n cap, .func (Fn.func f) first captured] w
      (RetF (fun k => k = g) w fun w' v => v = .tuple #[] ∧ ∃ C, C.Perm (List.range n) ∧ Sorted c C ∧ Blk w' g (C.map (valStr z) ++ rest) 9) := by
  go_enter Tryz.func53, Tryz.ntmps53
  go_wp2_with fail
  refine (stableCmpStr_any z g n cap rest f first captured c L w hcmp hm hB).mono ?_
  rintro e w1 ⟨v, rfl, hk, rfl, hC⟩
  have HC := Lib.hid hC; clear hC
  go_wp2
  go_end0
  exact RetF.mk hk ⟨rfl, HC.out⟩

/-- An empty slice, wherever it leads. -/
theorem insSortStr_nil (ao : Option Addr) (cap : Nat) (fv : Value) (w : World) :
    Calls Tryz.prog 139 #[.slice ao 0 cap, .int .i64 0, .int .i64 0, fv] w (Ret (.tuple #[]) w) := by
  go_enter Tryz.func139, Tryz.ntmps139
  go_wp2
  go_loop [8] (fun i => i = .int .i64 1) (fun _ => 0)
  case atStart => rfl
  case round =>
    subst hrel
    go_wp2
    go_end0
    exact Ret.mk rfl

theorem stableCmpStr_nil (ao : Option Addr) (cap : Nat) (fv : Value) (w : World) :
    Calls Tryz.prog 106 #[.slice ao 0 cap, .int .i64 0, fv] w (Ret (.tuple #[]) w) := by
  go_enter Tryz.func106, Tryz.ntmps106
  go_wp2
  go_loop [7, 8] (fun a b => a = .int .i64 0 ∧ b = .int .i64 20) (fun _ _ => 0)
  case atStart => exact ⟨rfl, rfl⟩
  case round =>
    obtain ⟨rfl, rfl⟩ := hrel
    go_wp2_with (go_at_call 139; (with_reducible refine (insSortStr_nil _ _ _ _).mono ?_); rintro e w' ⟨rfl, rfl⟩)
    go_loop [6] (fun s => s = .int .i64 20) (fun _ => 0)
    case atStart => rfl
    case round =>
      subst hrel
      go_wp2
      go_end0
      exact Ret.mk rfl

theorem sortStableStr_nil (ao : Option Addr) (cap : Nat) (fv : Value) (w : World) :
    Calls Tryz.prog 53 #[.slice ao 0 cap, fv] w (Ret (.tuple #[]) w) := by
  go_enter Tryz.func53, Tryz.ntmps53
  go_wp2_with (go_at_call 106; (with_reducible refine (stableCmpStr_nil _ _ _ _).mono ?_); rintro e w' ⟨rfl, rfl⟩)
  go_end0
  exact Ret.mk rfl
end Go.Proofs.YtfkhelihepbehaaGreat

/- slices.BinarySearchFunc at string, slices.Clone, slices.EqualFunc. -/
namespace Go.Proofs.YtfkhelihepbehaaGreat
open Go.RowKit
set_option linter.unusedVariables false

theorem elemStr : ElemT Tryz.prog 29 9 1 16 (.string ⟨#[]⟩) := ⟨by kernel_rfl, by kernel_rfl, rfl, by decide⟩

/-- A comparison with one value: of any of a list's values, in every world in which all old blocks are as they were. -/
def CmpToStr (P : Program) (f : FuncId) (first captured : Array Value) (w0 : World) (vs : List Value) (t : Value) (c : Nat → Int) : Prop :=
  (∀ args w, (callFunc f args).run P w = .ok (Next.enter f args) w) ∧ ∀ w, Ext w0 w → ∀ i v, vs[i]? = some v → Calls P f (first ++ (#[v, t] ++ captured)) w fun e w' => e = .returned (.int .i64 (c i)) ∧ Ext w w'

/-- The search, between two rounds. -/
def BinAtStr (n : Nat) (c : Nat → Int) (w0 : World) (iv jv : Value) (w : World) : Prop :=
  ∃ i j : Nat, i ≤ j ∧ j ≤ n ∧ iv = .int .i64 i ∧ jv = .int .i64 j ∧ (i = 0 ∨ c (i - 1) < 0) ∧ (j = n ∨ 0 ≤ c j) ∧ Ext w0 w

set_option maxRecDepth 100000 in
set_option maxHeartbeats 2000000 in
theorem binSearchStr_any (zs : List (ByteArray)) (z : Nat → ByteArray) (ao : Option Addr) (cap : Nat) (t : Value) (f : FuncId) (first captured : Array Value) (c : Nat → Int) (w : World) (n : Nat)
    (hc : CellsAt w ao ((List.range n).map fun i => (Value.string (z (i))))) (hcmp : CmpToStr Tryz.prog f first captured w ((List.range n).map fun i => (Value.string (z (i)))) t c) (hm : n ≤ 4611686018427387904) :
    Calls Tryz.prog 103 #[.slice ao n cap, t, .func (Fn.func f) first captured] w
      (RetF (fun _ => False) w fun w' v => ∃ i : Nat, i ≤ n ∧ (i = 0 ∨ c (i - 1) < 0) ∧ (i = n ∨ 0 ≤ c i) ∧ v = .tuple #[.int .i64 i, .bool (decide (i < n ∧ c i = 0))]) := by
  have hent := hcmp.1
  have HC := Lib.hid hcmp.2; clear hcmp
  have cell : ∀ W : World, Ext w W → ∀ i, i < n → ∃ b off, ao = some ⟨b, off, none⟩ ∧ W.cell? ⟨b, off + i, none⟩ = some ((Value.string (z (i)))) := fun W hW i hi => by
    have := hc.ext hW
    exact this i _ (by simp [hi])
  have HCELL := Lib.hid cell; clear cell
  go_enter Tryz.func103, Tryz.ntmps103
  go_wp2
  go_loopw [9, 10] (BinAtStr n c w) (fun i j _ => (intOf j).toNat - (intOf i).toNat)
  case atStart => exact ⟨0, n, Nat.zero_le _, Nat.le_refl _, rfl, rfl, .inl rfl, .inl rfl, Kp.refl _⟩
  case round =>
    obtain ⟨i, j, hij, hj, rfl, rfl, hlo, hhi, hkp⟩ := hrel
    have HL := Lib.hid (And.intro hlo hhi); clear hlo hhi
    by_cases hlt : i < j
    · obtain ⟨h, eh⟩ : ∃ h, h = (i + j) / 2 := ⟨_, rfl⟩
      have rh : ((i : Int) + j) / 2 = (h : Int) := by omega
      have hhn : h < n := by omega
      have h1 : i ≤ h := by omega
      have h2 : h < j := by omega
      clear eh
      obtain ⟨b, off, rfl, c1⟩ := HCELL.out _ hkp h hhn
      have hcall := fun W hW => HC.out W hW h ((Value.string (z (h)))) (by simp [hhn])
      have HCall := Lib.hid hcall; clear hcall
      generalize hcc : c h = cc at HCall
      have HCC := Lib.hid hcc; clear hcc
      by_cases hneg : cc < 0
      · go_wp2_with fail
        refine (HCall.out _ hkp).mono ?_
        rintro e w1 ⟨rfl, hk2⟩
        have hkp2 := hkp.ext hk2
        clear hk2 c1
        go_wp2
        go_roundw
        case rel => exact ⟨h + 1, j, by omega, hj, by first | rfl | (congr 1; done) | (congr 1; omega), rfl, .inr (by rw [Nat.add_sub_cancel, HCC.out]; omega), HL.out.2, hkp2⟩
        case measure => simp [intOf]; omega
      · go_wp2_with fail
        refine (HCall.out _ hkp).mono ?_
        rintro e w1 ⟨rfl, hk2⟩
        have hkp2 := hkp.ext hk2
        clear hk2 c1
        go_wp2
        go_roundw
        case rel => exact ⟨i, h, by omega, by omega, rfl, by first | rfl | (congr 1; done) | (congr 1; omega), HL.out.1, .inr (by rw [HCC.out]; omega), hkp2⟩
        case measure => simp [intOf]; omega
    · obtain rfl : i = j := by omega
      by_cases hin : i < n
      · obtain ⟨b, off, rfl, c1⟩ := HCELL.out _ hkp i hin
        have hcall := fun W hW => HC.out W hW i ((Value.string (z (i)))) (by simp [hin])
        have HCall := Lib.hid hcall; clear hcall
        generalize hcc : c i = cc at HCall
        have HCC := Lib.hid hcc; clear hcc
        have key : decide (i < n ∧ c i = 0) = (cc == 0) := by rw [HCC.out]; simp [hin]; rfl
        have HK := Lib.hid key; clear key
        generalize hbb : (cc == 0) = bb at HK
        go_wp2_with fail
        refine (HCall.out _ hkp).mono ?_
        rintro e w1 ⟨rfl, hk2⟩
        have hkp2 := hkp.ext hk2
        clear hk2 c1
        go_wp2
        go_ret2
        exact RetF.mk hkp2 ⟨i, by omega, HL.out.1, HL.out.2, tup_ib HK.out⟩
      · have key : decide (i < n ∧ c i = 0) = false := by simp; omega
        have HK := Lib.hid key; clear key
        go_wp2
        go_ret2
        exact RetF.mk hkp ⟨i, by omega, HL.out.1, HL.out.2, tup_ib HK.out⟩
end Go.Proofs.YtfkhelihepbehaaGreat

/- slices.CompactFunc at string. -/
namespace Go.Proofs.YtfkhelihepbehaaGreat
open Go.RowKit
set_option linter.unusedVariables false

set_option maxRecDepth 100000 in
set_option maxHeartbeats 4000000 in
theorem compactStr_any (z : Nat → ByteArray) (C : List Nat) (g n cap N : Nat) (rest : List Value) (f : FuncId) (first captured : Array Value) (q : Nat → Nat → Bool) (w : World)
    (hcmp : LikeOn Tryz.prog f first captured g N w (valStr z) q) (hn : n = C.length) (hC : ∀ i ∈ C, i < N) (hm : n ≤ 4611686018427387904) (hB : Blk w g (C.map (valStr z) ++ rest) 9) (hlen : (C.map (valStr z) ++ rest).length = cap) (hcm : cap ≤ maxLen) :
    Calls Tryz.prog 55 #[.slice (some ⟨g, 0, none⟩) n cap, .func (Fn.func f) first captured] w
      (RetF (fun k => k = g) w fun w' v => ∃ rest', v = .slice (some ⟨g, 0, none⟩) (keepTo q C n).length cap ∧ Blk w' g ((keepTo q C n).map (valStr z) ++ rest') 9 ∧ ((keepTo q C n).map (valStr z) ++ rest').length = cap) := by
  have hent := hcmp.1
  have HC := Lib.hid hcmp.2; clear hcmp
  have HN := Lib.hid (And.intro hn (And.intro hC hlen)); clear hn hC
  have hcap : n ≤ cap := by have := HN.out.1; simp at hlen; omega
  clear hlen
  have cell : ∀ W : World, Blk W g (C.map (valStr z) ++ rest) 9 → ∀ i, i < n → W.cell? ⟨g, i, none⟩ = some (valStr z (C.getD i 0)) := fun W h i hi => h.at i (by have := HN.out.1; omega)
  have HB := Lib.hid hB; clear hB
  by_cases hlt2 : n < 2
  · go_enter Tryz.func55, Tryz.ntmps55
    go_wp2
    go_ret
    have e : keepTo q C n = C := by
      rw [keepTo_all (by have := HN.out.1; omega) (fun j h1 h2 => by omega), List.take_of_length_le (by have := HN.out.1; omega)]
    refine RetF.mk (Kp.refl _) ⟨rest, ?_, by rw [e]; exact HB.out, by rw [e]; exact HN.out.2.2⟩
    rw [e, ← HN.out.1]; rfl
  · go_enter Tryz.func55, Tryz.ntmps55
    go_wp2
    go_loopw [5] (Compact1 n q C (fun k => False) w) (fun k _ => n - (intOf k).toNat)
    case atStart => exact ⟨1, Nat.le_refl _, by omega, rfl, fun j h1 h2 => by omega, Kp.refl _⟩
    case round =>
      obtain ⟨k, hk1, hkn, rfl, hq, hkp⟩ := hrel
      have HQ := Lib.hid hq; clear hq
      have hext : Kp (fun i => i = g) w wr := Ext.kp hkp
      by_cases hkl : k < n
      · have HBw : Blk wr g (C.map (valStr z) ++ rest) 9 := HB.out.ext hkp
        obtain ⟨p, rfl⟩ : ∃ p, k = p + 1 := ⟨k - 1, by omega⟩
        have c1 := cell wr HBw (p + 1) hkl
        have c2 := cell wr HBw p (by omega)
        have HBW := Lib.hid HBw; clear HBw
        have hx : C.getD (p + 1) 0 < N := HN.out.2.1 _ (getD_mem (by have := HN.out.1; omega))
        have hy : C.getD p 0 < N := HN.out.2.1 _ (getD_mem (by have := HN.out.1; omega))
        have hcall := fun W hW => HC.out W hW _ _ hx hy
        have HCall := Lib.hid hcall; clear hcall
        obtain ⟨x, ex⟩ : ∃ x, x = C.getD (p + 1) 0 := ⟨_, rfl⟩
        obtain ⟨y, ey⟩ : ∃ y, y = C.getD p 0 := ⟨_, rfl⟩
        rw [← ex, ← ey] at HCall
        rw [← ex] at c1
        rw [← ey] at c2
        have HE := Lib.hid (And.intro ex ey); clear ex ey hx hy
        unfold valStr at c1 c2
        obtain ⟨i1, i2, i3, i4, i5, i6, i7⟩ := idx_pred (k := p) (n := n) (by omega) hm
        cases hqk : q x y
        · rw [hqk] at HCall
          have HK := Lib.hid hqk; clear hqk
          go_wp2
          go_still_tail 10, (by kernel_rfl)
          go_wp2_with fail
          refine (HCall.out _ hext.drew).mono ?_
          rintro e w1 ⟨rfl, hk2⟩
          have hkp2 : Ext w w1 := hkp.drew.ext hk2
          clear hk2 c1 c2
          go_wp2
          go_roundw
          case rel =>
            refine ⟨p + 2, by omega, by omega, by first | rfl | (congr 1; done) | (congr 1; omega), fun j h1 h2 => ?_, hkp2⟩
            by_cases e : j = p + 1
            · subst e
              rw [← HE.out.1, Nat.add_sub_cancel, ← HE.out.2]; exact HK.out
            · exact HQ.out j h1 (by omega)
          case measure => simp [intOf]; omega
        · rw [hqk] at HCall
          have HK := Lib.hid hqk; clear hqk
          have start : Blk wr g ((keepTo q C (p + 1 + 1)).map (valStr z) ++ (C.map (valStr z) ++ rest).drop (p + 1)) 9 ∧ (keepTo q C (p + 1 + 1)).length = p + 1 := by
            have hn := HN.out.1
            have e : keepTo q C (p + 1 + 1) = C.take (p + 1) := by
              rw [keepTo_yes (by omega) (by rw [← HE.out.1, Nat.add_sub_cancel, ← HE.out.2]; exact HK.out), keepTo_all (by omega) HQ.out]
            rw [e]
            refine ⟨HBW.out.congrL ?_, by simp; omega⟩
            rw [List.drop_append_of_le_length (by simp; omega), ← List.append_assoc, ← List.map_drop, ← List.map_append, List.take_append_drop]
          have HS := Lib.hid start; clear start
          have hpc : (p : Int) + 1 ≤ (cap : Int) := by omega
          have hpn : (p : Int) + 1 ≤ (n : Int) := by omega
          go_wp2
          go_still_tail 10, (by kernel_rfl)
          go_wp2_with fail
          refine (HCall.out _ hext.drew).mono ?_
          rintro e w1 ⟨rfl, hk2⟩
          have hkp2 : Ext w w1 := hkp.drew.ext hk2
          have HS1 : Blk w1 g ((keepTo q C (p + 1 + 1)).map (valStr z) ++ (C.map (valStr z) ++ rest).drop (p + 1)) 9 := HS.out.1.drew.ext hk2
          have HS2 := Lib.hid (And.intro HS1 HS.out.2); clear HS1
          clear hk2 c1 c2
          obtain ⟨m, em⟩ : ∃ m, n - (p + 1) = m := ⟨_, rfl⟩
          have hcapk : ¬ cap = p + 1 := by omega
          go_wp2
          go_loopw [5, 7] (Compact2 n (p + 1) q C w g (valStr z) rest 9) (fun k j _ => n - (intOf j).toNat)
          case atStart => exact ⟨p + 1, 1, Nat.le_refl _, hkl, by go_num, rfl, Nat.le_refl _, by omega, HS2.out.2, Ext.kp hkp2, HS2.out.1⟩
          case round =>
            obtain ⟨k, j, hj1, hjn, rfl, rfl, hk0, hkj, hkl2, hkp3, hb3⟩ := hrel
            have f1 := hb3.free k
            have HB3 := Lib.hid (And.intro hkl2 hb3); clear hkl2
            by_cases hjm : j < m
            · obtain ⟨t, rfl⟩ : ∃ t, j = t + 1 := ⟨j - 1, by omega⟩
              have hCl := HN.out.1
              have c1 : wr.cell? ⟨g, p + 1 + (t + 1), none⟩ = some (valStr z (C.getD (p + 1 + (t + 1)) 0)) := by
                rw [hb3.cell']; exact compact_cell HB3.out.1 (by omega) (by omega)
              have c2 : wr.cell? ⟨g, p + 1 + t, none⟩ = some (valStr z (C.getD (p + 1 + t) 0)) := by
                rw [hb3.cell']; exact compact_cell HB3.out.1 (by omega) (by omega)
              have hx : C.getD (p + 1 + (t + 1)) 0 < N := HN.out.2.1 _ (getD_mem (by omega))
              have hy : C.getD (p + 1 + t) 0 < N := HN.out.2.1 _ (getD_mem (by omega))
              clear hCl hb3
              have hcall := fun W hW => HC.out W hW _ _ hx hy
              have HCall := Lib.hid hcall; clear hcall
              obtain ⟨x, ex⟩ : ∃ x, x = C.getD (p + 1 + (t + 1)) 0 := ⟨_, rfl⟩
              obtain ⟨y, ey⟩ : ∃ y, y = C.getD (p + 1 + t) 0 := ⟨_, rfl⟩
              rw [← ex, ← ey] at HCall
              rw [← ex] at c1
              rw [← ey] at c2
              have HE := Lib.hid (And.intro ex ey); clear ex ey hx hy
              unfold valStr at c1 c2
              obtain ⟨i1, i2, i3, i4, i5, i6, i7⟩ := idx_pred (k := t) (n := m) (by omega) (by omega)
              have hkn2 : k < n := by omega
              cases hqk : q x y
              · rw [hqk] at HCall
                have HK := Lib.hid hqk; clear hqk
                go_wp2
                go_still_tail 10, (by kernel_rfl)
                go_wp2_with fail
                refine (HCall.out _ hkp3.drew).mono ?_
                rintro e w2 ⟨rfl, hk2⟩
                have hkp4 : Kp (fun i => i = g) w w2 := hkp3.drew.ext hk2
                have d1 := hk2.cell c1 id
                have HB4 : Blk w2 g ((keepTo q C (p + 1 + (t + 1))).map (valStr z) ++ (C.map (valStr z) ++ rest).drop k) 9 := HB3.out.2.drew.ext hk2
                have f2 := HB4.free k
                have d2 : ∃ u, w2.cell? ⟨g, k, none⟩ = some u := ⟨_, HB4.cell k (by have h2 := HN.out.2.2; have h1 := HN.out.1; have h3 := HB3.out.1; simp at h2 ⊢; omega)⟩
                obtain ⟨u, d2⟩ := d2
                have HB5 := Lib.hid HB4; clear HB4
                clear hk2 c1 c2 f1
                go_wp2
                go_roundw
                case rel =>
                  have e : keepTo q C (p + 1 + (t + 2)) = keepTo q C (p + 1 + (t + 1)) ++ [x] := by
                    have := keepTo_no (q := q) (C := C) (k := p + 1 + (t + 1)) (by rw [← HE.out.1, show p + 1 + (t + 1) - 1 = p + 1 + t by omega, ← HE.out.2]; exact HK.out)
                    rw [HE.out.1, ← this]; rfl
                  refine ⟨k + 1, t + 2, by omega, by omega, by first | rfl | (congr 1; done) | (congr 1; omega), by first | rfl | (congr 1; done) | (congr 1; omega), by omega, by omega, by rw [e, List.length_append, HB3.out.1]; rfl, ?_, ?_⟩
                  · exact hkp4.setCell (fun _ => rfl) _
                  · rw [e]; exact (HB5.out.set k _).congrL (compact_set HB3.out.1 (by have := HN.out.1; omega))
                case measure => simp [intOf]; omega
              · rw [hqk] at HCall
                have HK := Lib.hid hqk; clear hqk
                go_wp2
                go_still_tail 10, (by kernel_rfl)
                go_wp2_with fail
                refine (HCall.out _ hkp3.drew).mono ?_
                rintro e w2 ⟨rfl, hk2⟩
                have hkp4 : Kp (fun i => i = g) w w2 := hkp3.drew.ext hk2
                have HB4 : Blk w2 g ((keepTo q C (p + 1 + (t + 1))).map (valStr z) ++ (C.map (valStr z) ++ rest).drop k) 9 := HB3.out.2.drew.ext hk2
                have HB5 := Lib.hid HB4; clear HB4
                clear hk2 c1 c2 f1
                go_wp2
                go_roundw
                case rel =>
                  have e : keepTo q C (p + 1 + (t + 2)) = keepTo q C (p + 1 + (t + 1)) := by
                    have := keepTo_yes (q := q) (C := C) (k := p + 1 + (t + 1)) (by omega) (by rw [← HE.out.1, show p + 1 + (t + 1) - 1 = p + 1 + t by omega, ← HE.out.2]; exact HK.out)
                    rw [← this]; rfl
                  exact ⟨k, t + 2, by omega, by omega, rfl, by first | rfl | (congr 1; done) | (congr 1; omega), hk0, by omega, by rw [e]; exact HB3.out.1, hkp4, by rw [e]; exact HB5.out⟩
                case measure => simp [intOf]; omega
            · have hjn' : p + 1 + j = n := by omega
              rw [hjn'] at HB3
              obtain ⟨w3, hrun, hk3, hb4⟩ := run_clearB elemStr rfl (fun w => by kernel_rfl) HB3.out.2 (off := k) (n := n - k) (c := cap - k) (sp := some ⟨g, k, none⟩) (fun _ => rfl) (by have := HB3.out.1; have h2 := HN.out.2.2; have h1 := HN.out.1; simp at h2 ⊢; omega)
              have HB4 := Lib.hid hb4; clear hb4 hb3
              have HK3 := Lib.hid hk3; clear hk3
              have hkc : ¬ cap = k := by omega
              have hkc2 : (k : Int) ≤ (cap : Int) := by omega
              have hkn2 : (k : Int) ≤ (n : Int) := by omega
              have hjj : j = m := by omega
              clear hjn'
              go_wp2
              go_ret
              have h2 := HN.out.2.2; have h1 := HN.out.1
              have hk := HB3.out.1
              refine RetF.mk (hkp3.trans HK3.out) ⟨List.replicate (n - k) (.string ⟨#[]⟩) ++ ((C.map (valStr z) ++ rest).drop k).drop (n - k), ?_, ?_, ?_⟩
              · rw [hk]; rfl
              · refine HB4.out.congrL ?_
                unfold splice
                rw [List.take_append_of_le_length (by simp; omega), List.take_of_length_le (by simp; omega), List.drop_append, List.drop_of_length_le (by simp; omega), List.length_map, hk, List.length_replicate, List.nil_append, Nat.add_sub_cancel_left]
              · simp at h2 ⊢; omega
      · go_wp2
        go_ret
        have e : keepTo q C n = C := by
          rw [keepTo_all (by have := HN.out.1; omega) (fun j h1 h2 => HQ.out j h1 (by omega)), List.take_of_length_le (by have := HN.out.1; omega)]
        refine RetF.mk hext ⟨rest, ?_, by rw [e]; exact HB.out.ext hkp, by rw [e]; exact HN.out.2.2⟩
        rw [e, ← HN.out.1]; rfl
end Go.Proofs.YtfkhelihepbehaaGreat
