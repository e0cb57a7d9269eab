/- A function that holds ranges over functions leaves with marks among its deferred calls; what an iterator over a slice keeps. No program in sight. -/
import Derived.Test.YtfkhelihepbehaaSame
import Derived.RangeFuncNested
import Derived.RangeFuncBound
import Derived.RangeFuncCalls
import Derived.RangeFuncLeaves
import Derived.Shelf.Abstract
import Derived.Shelf.RegionOpen
import Derived.OwnWalkIn
import Derived.TacticsInMore
import Derived.LoopNIn
import Derived.LoopIn
namespace Go.Proofs.Ytfkhelihepbehaa
open Go.RowKit Go.Shelf
set_option linter.unusedVariables false

/-- The blocks of S lie as they lay. -/
def SameOn (S : Nat → Prop) (w w' : World) : Prop := w.heap.size ≤ w'.heap.size ∧ ∀ k, S k → w'.heap[k]? = w.heap[k]?
theorem SameOn.refl (S : Nat → Prop) (w : World) : SameOn S w w := ⟨Nat.le_refl _, fun _ _ => rfl⟩
theorem SameOn.trans {S : Nat → Prop} {a b c : World} (h : SameOn S a b) (k : SameOn S b c) : SameOn S a c := ⟨Nat.le_trans h.1 k.1, fun i hi => (k.2 i hi).trans (h.2 i hi)⟩
theorem SameOn.put {S : Nat → Prop} {w : World} (hS : ∀ k, S k → k < w.heap.size) (W : World) (l : Nat) (o o' : Obj) (hl : w.heap.size ≤ l) (h : W.heap[l]? = some o) (_ : o.isCells = false) (_ : o.isWalk = false) : SameOn S W (W.putObj l o') := by
  have hg := grownBy_putObj' W l o'
  refine ⟨hg.size, fun k hk => hg.block k ?_ fun e => by have := hS k hk; cases e; omega⟩
  have := hS k hk
  have := (Array.getElem?_eq_some_iff.1 h).1
  omega
theorem SameOn.of_kp {F : Nat → Prop} {S : Nat → Prop} {w w' : World} (h : Kp F w w') (hS : ∀ k, S k → k < w.heap.size) (hd : ∀ k, S k → ¬ F k) : SameOn S w w' := ⟨h.size, fun k hk => h.block k (hS k hk) (hd k hk)⟩
theorem SameOn.cell {S : Nat → Prop} {w w' : World} (h : SameOn S w w') {b o : Nat} (hb : S b) : w'.cell? ⟨b, o, none⟩ = w.cell? ⟨b, o, none⟩ := World.cell?_of_block (h.2 b hb)

/-- Marks of loops that are over: their blocks are shut, came since lo, and none is there twice. -/
def Marks (lo : Nat) (w : World) (ds : List Deferred) : Prop :=
  ∃ Ds : List Nat, ds = Ds.map (fun D => { target := .collected D, args := #[] }) ∧ Ds.Nodup ∧ ∀ D ∈ Ds, lo ≤ D ∧ w.heap[D]? = some (.deferred (some []))
theorem Marks.nil (lo : Nat) (w : World) : Marks lo w [] := ⟨[], rfl, List.nodup_nil, by simp⟩
theorem Marks.kp {F : Nat → Prop} {lo : Nat} {w w' : World} {ds : List Deferred} (h : Marks lo w ds) (hk : Kp F w w') (hF : ∀ k, F k → k < lo) : Marks lo w' ds := by
  obtain ⟨Ds, e, hn, h⟩ := h
  refine ⟨Ds, e, hn, fun D hD => ⟨(h D hD).1, ?_⟩⟩
  obtain ⟨h1, h2⟩ := h D hD
  exact (hk.block D (lt_of_block h2) fun hf => by have := hF D hf; omega).trans h2
/-- Whatever is no cells lies as it lay. -/
theorem Marks.others {lo : Nat} {w w' : World} {ds : List Deferred} (h : Marks lo w ds) (hk : KeepsOthers w w') : Marks lo w' ds := by
  obtain ⟨Ds, e, hn, h⟩ := h
  exact ⟨Ds, e, hn, fun D hD => ⟨(h D hD).1, hk.same D _ (h D hD).2 rfl⟩⟩
theorem Marks.push {lo : Nat} {w w' : World} {ds : List Deferred} {D : Nat} (h : Marks lo w ds) (hk : ∀ (k : Nat) (o : Obj), w.heap[k]? = some o → o.isCells = false → w'.heap[k]? = some o) (hD : w.heap.size ≤ D) (hlo : lo ≤ D) (hd : w'.heap[D]? = some (.deferred (some []))) :
    Marks lo w' ({ target := .collected D, args := #[] } :: ds) := by
  obtain ⟨Ds, e, hn, h⟩ := h
  refine ⟨D :: Ds, by rw [e]; rfl, List.nodup_cons.2 ⟨fun hm => ?_, hn⟩, fun D' hD' => ?_⟩
  · have := lt_of_block (h D hm).2; omega
  · rcases List.mem_cons.1 hD' with rfl | hD'
    · exact ⟨hlo, hd⟩
    · exact ⟨(h D' hD').1, hk D' _ (h D' hD').2 rfl⟩

/-- The world behind the marks: blocks that came since lo and are no cells have turned alone. -/
theorem leaves_marks {P : Program} {F : Fence} {n : Nat} {fn : Func} {tmps : Array Value} {R : Ending → World → Prop} {lo : Nat} {w : World} {ds : List Deferred} (h : Marks lo w ds)
    (hR : ∀ w', w'.os = w.os → w'.tape = w.tape → w'.output = w.output → w'.heap.size = w.heap.size → (∀ k : Nat, k < lo → w'.heap[k]? = w.heap[k]?) → (∀ (k : Nat) (o : Obj), w.heap[k]? = some o → o.isCells = true → w'.heap[k]? = some o) →
      LeavesIn F n P fn tmps R [] .returning w') : LeavesInM F n P fn tmps R ds .returning w := by
  obtain ⟨Ds, rfl, hn, h⟩ := h
  induction Ds generalizing w with
  | nil => exact hR w rfl rfl rfl rfl (fun _ _ => rfl) (fun _ _ h _ => h)
  | cons D Ds ih =>
    obtain ⟨h1, h2⟩ := List.nodup_cons.1 hn
    obtain ⟨hlo, hD⟩ := h D (by simp)
    have hg := grownBy_putObj' w D (.deferred none)
    have hlt := lt_of_block hD
    refine ⟨by simp, .inl ⟨D, _, rfl, run_takeDeferred hD, ?_⟩⟩
    have hsz : (w.putObj D (.deferred none)).heap.size = w.heap.size := by simp [World.putObj]
    refine ih (fun w' e1 e2 e3 e4 e5 e6 => hR w' (e1.trans hg.os) (e2.trans hg.tape) (e3.trans hg.output) (e4.trans hsz) (fun k hk => (e5 k hk).trans (hg.block k (by omega) (by rintro ⟨⟩; omega))) (fun k o hk ho => ?_)) h2 (fun D' hD' => ?_)
    · refine e6 k o ((hg.block k (lt_of_block hk) ?_).trans hk) ho
      rintro ⟨⟩
      rw [hD] at hk; cases hk; cases ho
    · obtain ⟨h3, h4⟩ := h D' (List.mem_cons_of_mem _ hD')
      refine ⟨h3, (hg.block D' (lt_of_block h4) ?_).trans h4⟩
      rintro ⟨⟩
      exact h1 hD'

/-- wp_app inside a fence (in a round of a range over a function, say). -/
theorem wpIn_app {P : Program} {FF : Fence} {nF : Nat} {w : World} {t e : TypeId} {k bytes : Nat} {z : Value} (E : ElemT P t e k bytes z) {ops : Array Oper} {rest : List Oper} {o : Oper} {a : Act} {Q : Exit → Act → World → Prop} (hgd : o.guard = none) (s x : Operand)
    (ho : o.op = .call { callee := .builtin .append, args := #[s, x], argTypes := #[t, t] })
    {F : Nat → Prop} {w0 : World} (hkp : Kp F w0 w) {M : Nat → Prop} (hM : ∀ g, M g → g < w0.heap.size → F g) (hN : ∀ g, w.heap.size ≤ g → M g)
    {v : Value} {n : Nat} {xs : List Value} (hs : a.eval s = v) (hr : Row w e k v n xs M)
    {ao : Option Addr} {m c : Nat} {news : List Value} (hx : a.eval x = .slice ao m c) (hl : news.length = m * k) (hsrc : CellsAt w ao news) (h1 : ∀ u ∈ news, u.oneCell' = true)
    (hb : (n + m) * bytes ≤ 140737488355328) (h63 : n + m ≤ maxLen)
    (h : ∀ v' w', Row w' e k v' (n + m) (xs ++ news) M → Kp F w0 w' → Kp (fun g => v.ownBlock = some g) w w' → KeepsOthers w w' → (v' = .slice none 0 0 ↔ v = .slice none 0 0 ∧ m = 0) → wpListIn FF nF P ops Q rest (a.put o.dst v') w') : wpListIn FF nF P ops Q (o :: rest) a w := by
  refine wpListIn_plain hgd fun K hK => ?_
  obtain ⟨v', w', hrun, h2, h3, h4⟩ := run_app (P := P) E o.type hr hl hsrc h1 hb h63 (c := c)
  unfold Oper.wpIn
  refine ⟨by simp [Oper.about, ho, resolve, Target.leads, Sem.run_pure], ?_⟩
  rw [Oper.semAt_plain FF _ _ (by rw [ho]; intro c hc'; cases hc')]
  simp only [execOp, ho, resolve, invoke, builtin, Sem.run_bind, Sem.run_pure, Result.andThen_ok, List.map_toArray, List.map_cons, List.map_nil, hs, hx, hrun]
  refine hK _ _ (h v' w' (h2.mono fun g hg => ?_) (hkp.trans' h3 fun i hi hg => hM i (hr.block i hg) hi) h3 ⟨h3.size, fun k o hk ho => ?_⟩ h4)
  · rcases hg with hg | hg
    · exact hr.block g hg
    · exact hN g hg
  · refine (h3.block k (lt_of_block hk) fun hg => ?_).trans hk
    obtain ⟨_, ⟨rfl, _⟩ | ⟨g, cap, rest', rfl, _, hB, _⟩⟩ := hr
    · cases hg
    · cases hg
      unfold Blk at hB
      rw [hB] at hk; cases hk; cases ho

theorem Row.grown {e : TypeId} {k : Nat} {v : Value} {n : Nat} {xs : List Value} {M : Nat → Prop} {W W' : World} {row : Option Nat} (h : Row W e k v n xs M) (hg : W.grownBy W' row) (hr : ∀ r, row = some r → ∃ o : Obj, W.heap[r]? = some o ∧ o.isCells = false) : Row W' e k v n xs M := by
  refine h.kp' (F := fun i => row = some i) ((Kp.refl W).grown hg fun i e _ => e) fun g hv _ hrow => ?_
  obtain ⟨o, ho, hc⟩ := hr g hrow
  obtain ⟨_, ⟨rfl, _⟩ | ⟨g', cap, rest', rfl, _, hB, _⟩⟩ := h
  · cases hv
  · cases hv
    unfold Blk at hB
    rw [hB] at ho; cases ho; cases hc
theorem Blk.grown {g : Nat} {cs : List Value} {e : TypeId} {W W' : World} {row : Option Nat} (h : Blk W g cs e) (hg : W.grownBy W' row) (hr : ∀ r, row = some r → ∃ o : Obj, W.heap[r]? = some o ∧ o.isCells = false) : Blk W' g cs e := by
  refine h.kp (F := fun i => row = some i) ((Kp.refl W).grown hg fun i e _ => e) fun hrow => ?_
  obtain ⟨o, ho, hc⟩ := hr g hrow
  unfold Blk at h
  rw [h] at ho; cases ho; cases hc
end Go.Proofs.Ytfkhelihepbehaa
