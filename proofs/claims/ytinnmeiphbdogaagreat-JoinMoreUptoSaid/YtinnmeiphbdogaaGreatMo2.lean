/- Texts joined for a claim (Draw, RangeOwn, JoinV, JoinC, DrawIn, Make, Shelf, Ref14, Ref14b, Ref14c, Flat, LawMem, JLawA, Takes, MapRange, RuleFit, SwapRow, InsRow, SymLRow, SymRow, SymGRow). -/
import Derived.Test.YtinnmeiphbdogaaGreatMo1
import Derived.Deep.RegionHeld3
import Derived.RangeFuncWrites
import Derived.Laws.MakeOwn
import Derived.Ground.NamesProg
import Derived.Shelf.Bits.Mul64
import Derived.Shelf.SlGeneric
import Derived.Ground.SlsfProg
import Derived.Shelf.SlSortCmp.NoneTotal
import Derived.Test.YtinnmeiphbdogaaGreatProg
import Derived.Maps.RangeWalk
import Derived.BigRegion
import Derived.StillTailTactics
import Derived.Deep.QuietTactic
import Derived.BigQuiet
import Derived.Deep.DeepCutAuto
import Derived.Deep.RegionWith
set_option linter.unusedVariables false
set_option linter.unusedSimpArgs false
/- A region that draws its order: a condition S that holds behind every operation but the late ones (which wait for all that is taken first). The laws beneath the lines that drawn.py prints. No program in sight. -/
namespace Go.Proofs.YtinnmeiphbdogaaGreat
section
variable {P : Program} {ops : Array Oper} {Q : Exit -> Act -> World -> Prop} {md : Region.Mode} {S : World -> Prop} {lates : List Nat}
def eD (lates : List Nat) (listed : Array Bool) : Bool := lates.all fun d => !listed.getD d true
def cE (P : Program) (md : Region.Mode) (ops : Array Oper) (Q : Exit -> Act -> World -> Prop) (S : World -> Prop) (lates : List Nat) : Nat -> Array Bool -> Act -> World -> Prop
 | 0, listed, a, w => Region.ready md ops listed = [] /\ Q .normal a w
 | fuel + 1, listed, a, w => (Region.ready md ops listed = [] -> Q .normal a w) /\
  ∀ i ∈ Region.ready md ops listed, wpOp P ops Q i (fun a' w' => (eD lates (listed.setIfInBounds i true) = true -> S w') /\ cE P md ops Q S lates fuel (listed.setIfInBounds i true) a' w') a w
theorem pH : ∀ (fuel : Nat) (listed : Array Bool) (a : Act) (w : World), cE P md ops Q S lates fuel listed a w -> wpAny P md ops Q fuel listed a w
 | 0, _, _, _, h => h
 | fuel + 1, _, _, _, h => ⟨h.1, fun i hi => wpOp_mono (fun a' w' h' => pH fuel _ a' w' h'.2) (h.2 i hi)⟩
def aFn (md : Region.Mode) (ops : Array Oper) (i : Nat) : List Nat :=
 (List.range ops.size).foldl (fun D j => if j == i || (match ops[j]? with | some o => o.after.any (fun e => Region.binds md e && D.contains e.on) | none => false) then j :: D else D) []
def zK (md : Region.Mode) (ops : Array Oper) (listed : Array Bool) (lates : List Nat) (i : Nat) (D : List Nat) : Bool :=
 lates.all (fun d => D.contains d && d != i) && D.all fun d => !listed.getD d true && (d == i || match ops[d]? with | some o => o.after.any (fun e => Region.binds md e && D.contains e.on) | none => false)
theorem aDg {listed : Array Bool} {i : Nat} {D : List Nat} (h : zK md ops listed lates i D = true) :
 (∀ d ∈ lates, d ∈ D /\ d ≠ i) /\ (∀ d ∈ D, listed.getD d true = false) /\ ∀ d ∈ D, d ≠ i -> ∀ o, ops[d]? = some o -> ∃ e ∈ o.after, Region.binds md e = true /\ e.on ∈ D := by
 unfold zK at h
 rw [Bool.and_eq_true, List.all_eq_true, List.all_eq_true] at h
 refine ⟨fun d hd => ?_, fun d hd => ?_, fun d hd hne o ho => ?_⟩
 ·have := h.1 d hd
  simp only [Bool.and_eq_true, List.contains_iff_mem, bne_iff_ne, ne_eq] at this
  exact this
 ·have := h.2 d hd
  rw [Bool.and_eq_true] at this
  simpa using this.1
 ·have h1 := h.2 d hd
  rw [Bool.and_eq_true, Bool.or_eq_true, ho] at h1
  rcases h1.2 with h2 | h2
  ·exact absurd (by simpa using h2) hne
  ·obtain ⟨e, he, hb⟩ := Array.any_eq_true'.1 h2
   rw [Bool.and_eq_true, List.contains_iff_mem] at hb
   exact ⟨e, he, hb.1, hb.2⟩
theorem aG0 {listed : Array Bool} {D : List Nat} (hl : ∀ d ∈ lates, d ∈ D) (h : ∀ d ∈ D, listed.getD d true = false) : eD lates listed = true := by
 unfold eD
 rw [List.all_eq_true]
 intro d hd
 rw [h d (hl d hd)]; rfl
theorem lQ {listed : Array Bool} {i : Nat} (hi : i ∉ lates) : eD lates (listed.setIfInBounds i true) = eD lates listed := by
 unfold eD
 rw [Bool.eq_iff_iff, List.all_eq_true, List.all_eq_true]
 have h : ∀ d ∈ lates, (listed.setIfInBounds i true).getD d true = listed.getD d true := fun d hd => getD_set_ne true (fun e => hi (e ▸ hd))
 exact ⟨fun k d hd => by rw [<- h d hd]; exact k d hd, fun k d hd => by rw [h d hd]; exact k d hd⟩
theorem zJ {i : Nat} {oi : Oper} {v : Value} {D : List Nat} (hi : ops[i]? = some oi) (hsel : ∀ (j : Nat) (o : Oper) cs b, ops[j]? = some o -> o.op ≠ .select cs b)
 (hQ : ∀ c a w, Q (.panic c) (a.put oi.dst v) w -> Q (.panic c) a w) (hl : ∀ d ∈ lates, d ∈ D /\ d ≠ i) (hD : ∀ d ∈ D, d ≠ i -> ∀ o, ops[d]? = some o -> ∃ e ∈ o.after, Region.binds md e = true /\ e.on ∈ D) :
 ∀ (fuel : Nat) (listed : Array Bool) (a : Act) (w : World),
  (∀ j oj, ops[j]? = some oj -> j ≠ i -> listed.getD j true = false -> (∀ e ∈ oj.after, Region.binds md e = true -> e.on ≠ i) -> oi.apart ops oj = true) ->
  (∀ d ∈ D, listed.getD d true = false) ->
  i ∈ Region.ready md ops listed -> YieldsIf P ops S oi v a -> S w ->
  cE P md ops Q S lates fuel (listed.setIfInBounds i true) (a.put oi.dst v) w -> cE P md ops Q S lates (fuel + 1) listed a w := by
 have hil : i ∉ lates := fun h => (hl i h).2 rfl
 intro fuel
 induction fuel with
 | zero =>
  intro listed a w _ _ hr hy hS H
  refine ⟨fun h => (by rw [h] at hr; cases hr), fun j hj => ?_⟩
  by_cases hji : j = i
  ·subst hji; exact hy.wpOp hi hS ⟨fun _ => hS, H⟩
  ·have := ready_mono hj hji
   rw [H.1] at this
   cases this
 | succ fuel ih =>
  intro listed a w hfree hun0 hr hy hS H
  refine ⟨fun h => (by rw [h] at hr; cases hr), fun j hj => ?_⟩
  by_cases hji : j = i
  ·subst hji; exact hy.wpOp hi hS ⟨fun _ => hS, H⟩
  ·have h1 := H.2 j (ready_mono hj hji)
   obtain ⟨hjun, oj, hoj, hall⟩ := mem_ready.1 hj
   have hjD : j ∉ D := fun hjd => by
    obtain ⟨e, he, hb, heD⟩ := hD j hjd hji oj hoj
    have h2 := hall e he hb
    have h0 := hun0 e.on heD
    rcases Nat.lt_or_ge e.on listed.size with h' | h'
    ·simp [h'] at h0 h2; rw [h0] at h2; cases h2
    ·simp [Array.getElem?_eq_none h'] at h2
   have hnot : ∀ e ∈ oj.after, Region.binds md e = true -> e.on ≠ i := fun e he hb heq => by
    have h1 := hall e he hb
    have h0 := (mem_ready.1 hr).1
    rw [heq] at h1
    rcases Nat.lt_or_ge i listed.size with h' | h'
    ·simp [h'] at h0 h1; rw [h0] at h1; cases h1
    ·simp [Array.getElem?_eq_none h'] at h1
   have h2 := wpOp_putIf hoj (hfree j oj hoj hji hjun hnot) (fun cs b => hsel i oi cs b hi) (fun cs b => hsel j oj cs b hoj) hQ hy h1
   have hfree' : ∀ k ok, ops[k]? = some ok -> k ≠ i -> (listed.setIfInBounds j true).getD k true = false ->
    (∀ e ∈ ok.after, Region.binds md e = true -> e.on ≠ i) -> oi.apart ops ok = true := fun k ok hk hki hun hno => by
    refine hfree k ok hk hki ?_ hno
    by_cases hjk : j = k
    ·subst hjk; exact hjun
    ·rw [getD_set_ne true hjk] at hun; exact hun
   have hun' : ∀ d ∈ D, (listed.setIfInBounds j true).getD d true = false := fun d hd => by
    rw [getD_set_ne true (fun e : j = d => hjD (e.symm ▸ hd))]; exact hun0 d hd
   have hnl : eD lates (listed.setIfInBounds j true) = true := aG0 (fun d hd => (hl d hd).1) hun'
   have hnl2 : eD lates ((listed.setIfInBounds i true).setIfInBounds j true) = true := by
    rw [Array.setIfInBounds_comm _ _ (Ne.symm hji), lQ hil]; exact hnl
   refine wpOp_mono (fun a' w' h3 => ⟨fun _ => h3.2.1 hnl2, ih (listed.setIfInBounds j true) a' w' hfree' hun' (ready_mono hr (Ne.symm hji)) h3.1 (h3.2.1 hnl2) ?_⟩) h2
   rw [Array.setIfInBounds_comm _ _ hji]
   exact h3.2.2
theorem sK {i : Nat} {oi : Oper} {v : Value} (hi : ops[i]? = some oi) (hsel : ∀ (j : Nat) (o : Oper) cs b, ops[j]? = some o -> o.op ≠ .select cs b)
 (hQ : ∀ c a w, Q (.panic c) (a.put oi.dst v) w -> Q (.panic c) a w) (hil : i ∉ lates) :
 ∀ (fuel : Nat) (listed : Array Bool) (a : Act) (w : World),
  (∀ j oj, ops[j]? = some oj -> j ≠ i -> listed.getD j true = false -> (∀ e ∈ oj.after, Region.binds md e = true -> e.on ≠ i) -> oi.apart ops oj = true) ->
  i ∈ Region.ready md ops listed -> YieldsIf P ops (fun _ => True) oi v a -> (eD lates listed = true -> S w) ->
  cE P md ops Q S lates fuel (listed.setIfInBounds i true) (a.put oi.dst v) w -> cE P md ops Q S lates (fuel + 1) listed a w := by
 intro fuel
 induction fuel with
 | zero =>
  intro listed a w _ hr hy hS H
  refine ⟨fun h => (by rw [h] at hr; cases hr), fun j hj => ?_⟩
  by_cases hji : j = i
  ·subst hji; exact hy.wpOp hi trivial ⟨fun h => hS (by rw [lQ hil] at h; exact h), H⟩
  ·have := ready_mono hj hji
   rw [H.1] at this
   cases this
 | succ fuel ih =>
  intro listed a w hfree hr hy hS H
  refine ⟨fun h => (by rw [h] at hr; cases hr), fun j hj => ?_⟩
  by_cases hji : j = i
  ·subst hji; exact hy.wpOp hi trivial ⟨fun h => hS (by rw [lQ hil] at h; exact h), H⟩
  ·have h1 := H.2 j (ready_mono hj hji)
   obtain ⟨hjun, oj, hoj, hall⟩ := mem_ready.1 hj
   have hnot : ∀ e ∈ oj.after, Region.binds md e = true -> e.on ≠ i := fun e he hb heq => by
    have h1 := hall e he hb
    have h0 := (mem_ready.1 hr).1
    rw [heq] at h1
    rcases Nat.lt_or_ge i listed.size with h' | h'
    ·simp [h'] at h0 h1; rw [h0] at h1; cases h1
    ·simp [Array.getElem?_eq_none h'] at h1
   have h2 := wpOp_putIf hoj (hfree j oj hoj hji hjun hnot) (fun cs b => hsel i oi cs b hi) (fun cs b => hsel j oj cs b hoj) hQ hy h1
   have hfree' : ∀ k ok, ops[k]? = some ok -> k ≠ i -> (listed.setIfInBounds j true).getD k true = false ->
    (∀ e ∈ ok.after, Region.binds md e = true -> e.on ≠ i) -> oi.apart ops ok = true := fun k ok hk hki hun hno => by
    refine hfree k ok hk hki ?_ hno
    by_cases hjk : j = k
    ·subst hjk; exact hjun
    ·rw [getD_set_ne true hjk] at hun; exact hun
   have hcm : eD lates (listed.setIfInBounds j true) = true -> eD lates ((listed.setIfInBounds i true).setIfInBounds j true) = true := fun h => by
    rw [Array.setIfInBounds_comm _ _ (Ne.symm hji), lQ hil]; exact h
   refine wpOp_mono (fun a' w' h3 => ⟨fun h => h3.2.1 (hcm h), ih (listed.setIfInBounds j true) a' w' hfree' (ready_mono hr (Ne.symm hji)) h3.1 (fun h => h3.2.1 (hcm h)) ?_⟩) h2
   rw [Array.setIfInBounds_comm _ _ hji]
   exact h3.2.2
theorem aL {listed : Array Bool} {a : Act} {w : World} (hr : Region.ready md ops listed = []) (h : Q .normal a w) : ∀ fuel, cE P md ops Q S lates fuel listed a w
 | 0 => ⟨hr, h⟩
 | _ + 1 => ⟨fun _ => h, by rw [hr]; simp⟩
theorem bB {id : Nat} {a : Act} {w : World} (S : World -> Prop) (lates : List Nat) (hm : P.follows .mixedOrders = true) (hS : S w.drew)
 (h : S w.drew -> cE P .any ops Q S lates ops.size (Array.replicate ops.size false) a w.drew) : (Code.region id ops true).wp P Q a w :=
 wp_region_any hm (pH _ _ _ _ (h hS))
end
section
variable {P : Program} {l : List Oper} {Q : Exit -> Act -> World -> Prop} {md : Region.Mode} {S : World -> Prop} {lates : List Nat} {fuel : Nat} {listed : Array Bool} {a : Act} {w : World}
theorem uH {p : Prop} {b : Bool} (h : b = false) : b = true -> p := fun e => by rw [h] at e; cases e
theorem and4 {a b c d : Bool} (h : (a && b && c && d) = true) : a = true /\ b = true /\ c = true /\ d = true := by
 cases a <;> cases b <;> cases c <;> cases d <;> simp_all
theorem opAt {i : Nat} {oi : Oper} (hi : l[i]? = some oi) : l.toArray[i]? = some oi := by rw [List.getElem?_toArray]; exact hi
theorem aLe {i : Nat} {oi : Oper} {v : Value} (hi : l[i]? = some oi) (hy : ∀ w, S w -> (execOp a.eval oi).run P w = .ok (.value v) w)
 (h : cE P md l.toArray Q S lates fuel (listed.setIfInBounds i true) (a.put oi.dst v) w)
 (side : (Region.noSelect l.toArray && Region.free md l.toArray listed i && (Region.ready md l.toArray listed).contains i && zK md l.toArray listed lates i (aFn md l.toArray i)) = true := by kernel_rfl)
 (hw : Region.wanted oi (yielded l.toArray a.tmps) = true := by rfl) (hQ : ∀ c a w, Q (.panic c) (a.put oi.dst v) w -> Q (.panic c) a w := by exact fun _ _ _ h => h) (hS : S w := by assumption) :
 cE P md l.toArray Q S lates (fuel + 1) listed a w :=
 let c := and4 side
 let z := aDg c.2.2.2
 zJ (opAt hi) (Region.noSelect_spec c.1) hQ z.1 z.2.2 fuel listed a w (Region.free_spec (opAt hi) c.2.1) z.2.1 (by simpa using c.2.2.1) (.inl ⟨hw, hy⟩) hS h
theorem aHz {i : Nat} {oi : Oper} {v : Value} (hi : l[i]? = some oi) (hy : ∀ w, (execOp a.eval oi).run P w = .ok (.value v) w)
 (h : cE P md l.toArray Q S lates fuel (listed.setIfInBounds i true) (a.put oi.dst v) w)
 (side : (Region.noSelect l.toArray && Region.free md l.toArray listed i && (Region.ready md l.toArray listed).contains i && !lates.contains i) = true := by kernel_rfl)
 (hw : Region.wanted oi (yielded l.toArray a.tmps) = true := by rfl) (hQ : ∀ c a w, Q (.panic c) (a.put oi.dst v) w -> Q (.panic c) a w := by exact fun _ _ _ h => h) (hS : eD lates listed = true -> S w := by first | exact fun _ => by assumption | exact uH (by kernel_rfl)) :
 cE P md l.toArray Q S lates (fuel + 1) listed a w :=
 let c := and4 side
 sK (opAt hi) (Region.noSelect_spec c.1) hQ (by simpa using c.2.2.2) fuel listed a w (Region.free_spec (opAt hi) c.2.1) (by simpa using c.2.2.1) (.inl ⟨hw, fun w _ => hy w⟩) hS h
theorem aJ7 {i : Nat} {oi : Oper} (hi : l[i]? = some oi) (h : cE P md l.toArray Q S lates fuel (listed.setIfInBounds i true) (a.put oi.dst undef) w)
 (side : (Region.noSelect l.toArray && Region.free md l.toArray listed i && (Region.ready md l.toArray listed).contains i && !lates.contains i) = true := by kernel_rfl)
 (hw : Region.wanted oi (yielded l.toArray a.tmps) = false := by rfl) (hQ : ∀ c a w, Q (.panic c) (a.put oi.dst undef) w -> Q (.panic c) a w := by exact fun _ _ _ h => h) (hS : eD lates listed = true -> S w := by first | exact fun _ => by assumption | exact uH (by kernel_rfl)) :
 cE P md l.toArray Q S lates (fuel + 1) listed a w :=
 let c := and4 side
 sK (opAt hi) (Region.noSelect_spec c.1) hQ (by simpa using c.2.2.2) fuel listed a w (Region.free_spec (opAt hi) c.2.1) (by simpa using c.2.2.1) (.inr ⟨hw, rfl⟩) hS h
theorem dF (i : Nat) {oi : Oper} {v : Value} (h : cE P md l.toArray Q S lates fuel (listed.setIfInBounds i true) (a.put oi.dst v) w) (hi : l[i]? = some oi := by rfl)
 (hy : ∀ w, (execOp a.eval oi).run P w = .ok (.value v) w := by (intro w; go_simp; try with_reducible rfl))
 (side : (Region.noSelect l.toArray && Region.free md l.toArray listed i && (Region.ready md l.toArray listed).contains i && !lates.contains i) = true := by kernel_rfl)
 (hw : Region.wanted oi (yielded l.toArray a.tmps) = true := by rfl) (hQ : ∀ c a w, Q (.panic c) (a.put oi.dst v) w -> Q (.panic c) a w := by exact fun _ _ _ h => h) (hS : eD lates listed = true -> S w := by first | exact fun _ => by assumption | exact uH (by kernel_rfl)) :
 cE P md l.toArray Q S lates (fuel + 1) listed a w := aHz hi hy h side hw hQ hS
theorem dI (i : Nat) {oi : Oper} {v : Value} (h : cE P md l.toArray Q S lates fuel (listed.setIfInBounds i true) (a.put oi.dst v) w) (hi : l[i]? = some oi := by rfl)
 (hy : ∀ w, S w -> (execOp a.eval oi).run P w = .ok (.value v) w := by (intro w hSw; (try dsimp only at hSw); go_simp; try with_reducible rfl))
 (side : (Region.noSelect l.toArray && Region.free md l.toArray listed i && (Region.ready md l.toArray listed).contains i && zK md l.toArray listed lates i (aFn md l.toArray i)) = true := by kernel_rfl)
 (hw : Region.wanted oi (yielded l.toArray a.tmps) = true := by rfl) (hQ : ∀ c a w, Q (.panic c) (a.put oi.dst v) w -> Q (.panic c) a w := by exact fun _ _ _ h => h) (hS : S w := by assumption) :
 cE P md l.toArray Q S lates (fuel + 1) listed a w := aLe hi hy h side hw hQ hS
theorem dO (i : Nat) {oi : Oper} (h : cE P md l.toArray Q S lates fuel (listed.setIfInBounds i true) (a.put oi.dst undef) w) (hi : l[i]? = some oi := by rfl)
 (side : (Region.noSelect l.toArray && Region.free md l.toArray listed i && (Region.ready md l.toArray listed).contains i && !lates.contains i) = true := by kernel_rfl)
 (hw : Region.wanted oi (yielded l.toArray a.tmps) = false := by rfl) (hQ : ∀ c a w, Q (.panic c) (a.put oi.dst undef) w -> Q (.panic c) a w := by exact fun _ _ _ h => h) (hS : eD lates listed = true -> S w := by first | exact fun _ => by assumption | exact uH (by kernel_rfl)) :
 cE P md l.toArray Q S lates (fuel + 1) listed a w := aJ7 hi h side hw hQ hS
def Comes (P : Program) (md : Region.Mode) (l : List Oper) (Q : Exit -> Act -> World -> Prop) (S : World -> Prop) (lates : List Nat) (fuel : Nat) (listed : Array Bool) (a : Act) (w : World) (i : Nat) : Prop :=
 wpOp P l.toArray Q i (fun a' w' => (eD lates (listed.setIfInBounds i true) = true -> S w') /\ cE P md l.toArray Q S lates fuel (listed.setIfInBounds i true) a' w') a w
theorem aI {i : Nat} {o : Oper} (ho : l[i]? = some o)
 (h : ∀ K' : Act -> World -> Prop, Shut (∀ a w, S w -> (S w -> cE P md l.toArray Q S lates fuel (listed.setIfInBounds i true) a w) -> K' a w) -> if Region.wanted o (yielded l.toArray a.tmps) = true then Oper.wp P o a w K' Q else K' (a.put o.dst undef) w) : Comes P md l Q S lates fuel listed a w i :=
 wpOp_step (opAt ho) fun K' hK => h K' fun a w hS hW => hK a w ⟨fun _ => hS, hW hS⟩
theorem aK {i : Nat} {o : Oper} (ho : l[i]? = some o) (hi : eD lates (listed.setIfInBounds i true) = false)
 (h : ∀ K' : Act -> World -> Prop, Shut (∀ a w, cE P md l.toArray Q S lates fuel (listed.setIfInBounds i true) a w -> K' a w) -> if Region.wanted o (yielded l.toArray a.tmps) = true then Oper.wp P o a w K' Q else K' (a.put o.dst undef) w) : Comes P md l Q S lates fuel listed a w i :=
 wpOp_step (opAt ho) fun K' hK => h K' fun a w hW => hK a w ⟨fun hn => absurd (hn.symm.trans hi) Bool.noConfusion, hW⟩
theorem aF {i : Nat} (h : Comes P md l Q S lates fuel listed a w i) (hr : Region.ready md l.toArray listed = [i] := by kernel_rfl) : cE P md l.toArray Q S lates (fuel + 1) listed a w :=
 ⟨fun h0 => absurd (hr ▸ h0) (by simp), fun j hj => by rw [hr] at hj; simp at hj; subst hj; exact h⟩
theorem aCu {i k : Nat} (h : Comes P md l Q S lates fuel listed a w i) (h' : Comes P md l Q S lates fuel listed a w k) (hr : Region.ready md l.toArray listed = [i, k] := by kernel_rfl) : cE P md l.toArray Q S lates (fuel + 1) listed a w :=
 ⟨fun h0 => absurd (hr ▸ h0) (by simp), fun j hj => by
  rw [hr] at hj; simp at hj
  rcases hj with rfl | rfl
  ·exact h
  ·exact h'⟩
theorem aJ8 {o : Oper} {K : Act -> World -> Prop} {E : Prop} (hgd : o.guard = none) (s x : Operand) {t1 t2 : TypeId}
 (ho : o.op = .call { callee := .builtin .append, args := #[s, x], argTypes := #[t1, t2] }) {v u v' : Value} {w' : World} (hs : a.eval s = v) (hx : a.eval x = u)
 (hr : (Builtin.append_ #[t1, t2] o.type #[v, u]).run P w = .ok v' w') (h : K (a.put o.dst v') w') :
 if Region.wanted o (yielded l.toArray a.tmps) = true then Oper.wp P o a w K Q else E := by
 have hw : Region.wanted o (yielded l.toArray a.tmps) = true := by simp [Region.wanted, hgd]
 rw [if_pos hw]
 unfold Oper.wp execOp
 simp only [ho, resolve, invoke, builtin, Sem.run_bind, Sem.run_pure, Result.andThen_ok, List.map_toArray, List.map_cons, List.map_nil, hs, hx, hr]
 exact h
end
end Go.Proofs.YtinnmeiphbdogaaGreat
/- A range over a function whose iterator writes memory of its own between two rounds: our own law, beside the kit's. -/
namespace Go.Proofs.YtinnmeiphbdogaaGreat
open Go.RowKit
def zH (T : Nat -> Prop) (W W' : World) : Nat -> Prop := fun k => T k \/ (W.heap.size ≤ k /\ k < W'.heap.size)
def gH (Z T : Nat -> Prop) : Nat -> Prop := fun k => T k \/ Z k
def wT {α : Type} (F : Fence) (n : Nat) (P : Program) (g : Nat) (lb : Array Value) (encs : α -> Array Value) (Z : Nat -> Prop) (Gv : World -> (Nat -> Prop) -> World -> α -> Prop) (S Sp : List α -> Prop) (w : World) : Prop :=
 ∀ (l : Nat) (J Jx : (Nat -> Prop) -> List α -> World -> Prop) (W : World), Kp (fun k => ¬ Z k) w W ->
  (∀ T T' pre x W1 W2, J T pre W1 -> Kp T W1 W2 -> (∀ k, T' k -> zH T W1 W2 k) -> Gv W1 T' W2 x -> Sp (pre ++ [x]) -> YieldAt F (n - 1) P l (encs x) W2 fun e W' =>
   (e = .returned (.bool true) /\ J T' (pre ++ [x]) W' /\ Kp (fun k => ¬ gH Z T' k) W2 W') \/ (e = .returned (.bool false) /\ Jx T' (pre ++ [x]) W' /\ Kp (fun k => ¬ gH Z T' k) W2 W')) ->
  J (fun _ => False) [] W ->
  CallsIn F n P g (#[.func (.yield l) #[] #[]] ++ lb) W fun e W' => (∃ v, e = .returned v) /\ ∃ T W1, Kp T W1 W' /\ ((∃ xs, S xs /\ J T xs W1) \/ (∃ pre, Sp pre /\ Jx T pre W1))
def aL2 : Exit -> Option (Option Code)
 | .normal => some none
 | .ret => some (some .ret)
 | .exit id => some (some (.exit id))
 | .goto t => some (some (.goto t))
 | .panic _ => none
 | .outgrown => none
def aBq {α : Type} (Z : Nat -> Prop) (B : Nat) (T : Nat -> Prop) (I : (Nat -> Prop) -> List α -> World -> Prop) (Ix : Code -> (Nat -> Prop) -> List α -> World -> Prop) (xs : List α) (W : World) (e : Exit) (_ : Act) (W' : World) : Prop :=
 match aL2 e with
 | some none => KeepsFrom B W W' /\ Kp (fun k => ¬ gH Z T k) W W' /\ I T xs W'
 | some (some c) => KeepsFrom B W W' /\ Kp (fun k => ¬ gH Z T k) W W' /\ Ix c T xs W'
 | none => False
structure BookT (b : Nat) (r : Loop) (T : Nat -> Prop) (W : World) : Prop where
 loop : W.heap[b + 1]? = some (.loop r)
 later : W.heap[b]? = some (.deferred (some []))
 off : ∀ k, T k -> k ≠ b /\ k ≠ b + 1
theorem BookT.lt {b : Nat} {r : Loop} {T : Nat -> Prop} {W : World} (h : BookT b r T W) : b + 1 < W.heap.size := (Array.getElem?_eq_some_iff.1 h.loop).1
theorem BookT.step {b : Nat} {r : Loop} {T T' : Nat -> Prop} {W W' : World} (h : BookT b r T W) (hs : Kp T W W') (hT : ∀ k, T' k -> zH T W W' k) : BookT b r T' W' := by
 have hl := h.lt
 refine ⟨(hs.block _ hl fun e => (h.off _ e).2 rfl).trans h.loop, (hs.block _ (by omega) fun e => (h.off _ e).1 rfl).trans h.later, fun k hk => ?_⟩
 rcases hT k hk with hk | hk
 ·exact h.off k hk
 ·omega
theorem Kp.putF {F : Nat -> Prop} {W : World} {l : Nat} (hF : F l) (o : Obj) : Kp F W (W.putObj l o) :=
 ⟨rfl, rfl, rfl, by simp [World.putObj], fun k hk hf => World.putObj_heap_other (fun e => hf (by rw [e]; exact hF))⟩
theorem BookT.set {Z : Nat -> Prop} {b : Nat} {r : Loop} {T : Nat -> Prop} {W : World} (h : BookT b r T W) (hZ : ∀ k, Z k -> k < b) (r' : Loop) : BookT b r' T (W.putObj (b + 1) (.loop r')) /\ Kp (fun k => ¬ gH Z T k) W (W.putObj (b + 1) (.loop r')) :=
 ⟨⟨World.putObj_heap_same h.lt, (World.putObj_heap_other (by omega)).trans h.later, h.off⟩, Kp.putF (fun hk => by
  rcases hk with hk | hk
  ·exact (h.off _ hk).2 rfl
  ·have := hZ _ hk; omega) _⟩
theorem BookT.keeps {b : Nat} {r : Loop} {T : Nat -> Prop} {W W' : World} {B : Nat} (h : BookT b r T W) (hB : B ≤ b) (hk : KeepsFrom B W W') : BookT b r T W' :=
 ⟨hk.same _ _ (by omega) h.loop rfl, hk.same _ _ hB h.later rfl, h.off⟩
theorem size_put (W : World) (l : Nat) (o : Obj) : (W.putObj l o).heap.size = W.heap.size := by
 simp [World.putObj]
theorem Kp.put {F : Nat -> Prop} {W W' : World} (h : Kp F W W') (l : Nat) (o : Obj) (hl : l < W.heap.size) : Kp F (W.putObj l o) (W'.putObj l o) := by
 refine ⟨h.os, h.tape, h.output, by rw [size_put, size_put]; exact h.size, fun k hk hf => ?_⟩
 rw [size_put] at hk
 by_cases e : k = l
 ·subst e
  rw [World.putObj_heap_same hl, World.putObj_heap_same (Nat.lt_of_lt_of_le hl h.size)]
 ·rw [World.putObj_heap_other e, World.putObj_heap_other e]
  exact h.block k hk hf
section
variable {F : Fence} {n : Nat} {P : Program}
theorem oT {α : Type} {g : Operand} {ps : Array Tmp} {assign body : Code} {Q : Exit -> Act -> World -> Prop} {a : Act} {w : World}
 (hro : F.round = none) (h1 : 1 ≤ n) {gf : Nat} {lb : Array Value} (hg : a.eval g = .func (.func gf) #[] lb) (hFg : F.fn gf) (eg : ∀ args w, (callFunc gf args).run P w = .ok (.enter gf args) w)
 {encs : α -> Array Value} {Z : Nat -> Prop} {Gv : World -> (Nat -> Prop) -> World -> α -> Prop} {S Sp : List α -> Prop} {w0 : World} (hseq : wT F (n - 1) P gf lb encs Z Gv S Sp w0) (hb0 : Kp (fun k => ¬ Z k) w0 w) (hZ : ∀ k, Z k -> k < w.heap.size) (hps : ∀ x, (encs x).size = ps.size)
 (hGv : ∀ T W1 W2 x l r o, Gv W1 T W2 x -> W2.heap[l]? = some r -> r.isCells = false -> Gv (W1.putObj l o) T (W2.putObj l o) x)
 (I : (Nat -> Prop) -> List α -> World -> Prop) (Ix : Code -> (Nat -> Prop) -> List α -> World -> Prop)
 (hIB : ∀ T s W l o o', I T s W -> ¬ T l -> w.heap.size ≤ l -> W.heap[l]? = some o -> o.isCells = false -> I T s (W.putObj l o'))
 (hIxB : ∀ c T s W l o o', Ix c T s W -> ¬ T l -> w.heap.size ≤ l -> W.heap[l]? = some o -> o.isCells = false -> Ix c T s (W.putObj l o'))
 (hIA : ∀ W o, I (fun _ => False) [] W -> I (fun _ => False) [] (W.alloc o)) (h0 : I (fun _ => False) [] w) (a₁ : α -> Act)
 (hassign : ∀ (l : Nat) (x : α) (W : World) (K : Act -> World -> Prop), K (a₁ x) W ->
  assign.wpIn (F.inRound l) (n - 1 - 1) P (Exit.then K (fun _ _ _ => False)) { tmps := (ps.zip (encs x)).foldl (fun t (p, v) => t.setIfInBounds p v) a.tmps, defers := [] } W)
 (hbody : ∀ (l : Nat) (T T' : Nat -> Prop) (pre : List α) (x : α) (W1 W : World), I T pre W1 -> (∀ k, T k -> k < W1.heap.size) -> Kp T W1 W -> (∀ k, T' k -> zH T W1 W k) -> Gv W1 T' W x -> Sp (pre ++ [x]) -> body.wpIn (F.inRound l) (n - 1 - 1) P (aBq Z w.heap.size T' I Ix (pre ++ [x]) W) (a₁ x) W)
 (hdone : ∀ (D : Nat) (T : Nat -> Prop) (xs : List α) (W1 W : World), w.heap.size ≤ D -> S xs -> I T xs W1 -> (∀ k, T k -> k < W1.heap.size) -> Kp T W1 W -> W.heap[D]? = some (.deferred (some [])) -> Q .normal { a with defers := { target := .collected D, args := #[] } :: a.defers } W)
 (hstop : ∀ (D : Nat) (c : Code) (T : Nat -> Prop) (pre : List α) (W1 W : World), w.heap.size ≤ D -> Sp pre -> Ix c T pre W1 -> (∀ k, T k -> k < W1.heap.size) -> Kp T W1 W -> W.heap[D]? = some (.deferred (some [])) -> c.wpIn F n P Q { a with defers := { target := .collected D, args := #[] } :: a.defers } W) :
 (Code.rangeFunc g ps assign body).wpIn F n P Q a w := by
 refine wpIn_rangeFunc fun fn hfn => ?_
 rw [hro]
 obtain ⟨b, eb⟩ : ∃ b, w.heap.size = b := ⟨_, rfl⟩
 rw [eb] at hIB hIxB hbody hdone hstop hZ
 let rc (st : LoopState) (pe : Option Code) : Loop := { state := st, pending := pe, fn, tmps := a.tmps, params := ps, assign, body, defers := b }
 obtain ⟨W1, hW1⟩ : ∃ W1, (w.alloc (.deferred (some []))).alloc (.loop (rc .ready none)) = W1 := ⟨_, rfl⟩
 have hB1 : BookT b (rc .ready none) (fun _ => False) W1 := by
  refine ⟨?_, ?_, fun k hk => hk.elim⟩
  ·have h := World.alloc_heap_new (w.alloc (.deferred (some []))) (.loop (rc .ready none))
   rw [World.size_alloc, eb] at h
   rw [<- hW1]; exact h
  ·have h := World.alloc_heap_new w (.deferred (some []))
   rw [eb] at h
   rw [<- hW1, <- h]
   exact Below.heap_alloc _ _ _ (by rw [World.size_alloc]; omega)
 have hI1 : I (fun _ => False) [] W1 := by rw [<- hW1]; exact hIA _ _ (hIA _ _ h0)
 have hX1 : Kp (fun k => ¬ Z k) w0 W1 := by rw [<- hW1]; exact (hb0.alloc _).alloc _
 refine ⟨b + 1, [{ target := .collected b, args := #[] }], W1, { target := .fn (.func gf) lb, args := #[.func (.yield (b + 1)) #[] #[]] }, W1, gf, #[.func (.yield (b + 1)) #[] #[]] ++ lb, W1, ?_, ?_, ?_, ?_, fun _ => h1, ?_⟩
 ·have h := run_enterLoop_outer (P := P) (w := w) fn a.tmps ps assign body
  rw [eb] at h
  rw [<- hW1]; exact h
 ·simp only [resolve, hg]
  simp [go_sem]
 ·intro f' hf'
  simp [Target.leads] at hf'
  subst hf'; exact hFg
 ·simp [invoke, go_sem, eg]
 ·refine (hseq (b + 1) (fun T pre W => I T pre W /\ BookT b (rc .ready none) T W /\ ∀ k, T k -> k < W.heap.size) (fun T pre W => ∃ c, Ix c T pre W /\ BookT b (rc .done (some c)) T W /\ ∀ k, T k -> k < W.heap.size) W1 hX1 ?_ ⟨hI1, hB1, fun k hk => hk.elim⟩).mono ?_
  ·rintro T T' pre x V W ⟨hi, hbk0, hT0⟩ hkp hsub hgv hlen
   have hbk := hbk0.step hkp hsub
   have hT : ∀ k, T' k -> k < W.heap.size := fun k hk => by
    rcases hsub k hk with h | h
    ·exact Nat.lt_of_lt_of_le (hT0 k h) hkp.size
    ·exact h.2
   have hy := run_yield (P := P) (args := encs x) hbk.loop (by exact hps x)
   refine ⟨fn, _, assign, body, hy, roundIn_of_wpIn hfn (hassign _ x W _ ⟨_, run_beginRound hbk.loop rfl, ?_⟩)⟩
   obtain ⟨hbk2, hs2⟩ := hbk.set hZ { rc .ready none with state := .busy }
   have hi2 := hIB T pre V (b + 1) _ (.loop { rc .ready none with state := .busy }) hi (fun h => (hbk0.off _ h).2 rfl) (by omega) hbk0.loop rfl
   refine wpIn_mono (hbody _ T T' pre x _ _ hi2 (fun k hk => by rw [size_put]; exact hT0 k hk) (hkp.put _ _ hbk0.lt) (fun k hk => by
    rcases hsub k hk with h | h
    ·exact .inl h
    ·exact .inr (by rw [size_put, size_put]; exact h)) (hGv _ _ _ _ _ _ _ hgv hbk.loop rfl) hlen) ?_
   intro e a3 W3 hp
   unfold aBq at hp
   have fin : ∀ (jump : Option Code), KeepsFrom b (W.putObj (b + 1) (.loop { rc .ready none with state := .busy })) W3 -> Kp (fun k => ¬ gH Z T' k) (W.putObj (b + 1) (.loop { rc .ready none with state := .busy })) W3 ->
    (Instr.endRound (b + 1) jump).run P W3 = .ok (.bool jump.isNone) (W3.putObj (b + 1) (.loop (rc (if jump.isNone then .ready else .done) jump))) /\
    BookT b (rc (if jump.isNone then .ready else .done) jump) T' (W3.putObj (b + 1) (.loop (rc (if jump.isNone then .ready else .done) jump))) /\
    Kp (fun k => ¬ gH Z T' k) W (W3.putObj (b + 1) (.loop (rc (if jump.isNone then .ready else .done) jump))) /\ W3.heap[b + 1]? = some (.loop { rc .ready none with state := .busy }) := fun jump hk hs => by
    have hbk3 := hbk2.keeps (Nat.le_refl b) hk
    obtain ⟨hbk4, hs4⟩ := hbk3.set hZ (rc (if jump.isNone then .ready else .done) jump)
    exact ⟨run_endRound jump hbk3.loop, hbk4, (hs2.trans hs).trans hs4, hbk3.loop⟩
   have leave : ∀ c : Code, KeepsFrom b (W.putObj (b + 1) (.loop { rc .ready none with state := .busy })) W3 /\ Kp (fun k => ¬ gH Z T' k) (W.putObj (b + 1) (.loop { rc .ready none with state := .busy })) W3 /\ Ix c T' (pre ++ [x]) W3 ->
    ∃ v w', (Instr.endRound (b + 1) (some c)).run P W3 = .ok v w' /\ ((Ending.returned v = .returned (.bool true) /\ (I T' (pre ++ [x]) w' /\ BookT b (rc .ready none) T' w' /\ ∀ k, T' k -> k < w'.heap.size) /\ Kp (fun k => ¬ gH Z T' k) W w') \/
     (Ending.returned v = .returned (.bool false) /\ (∃ c, Ix c T' (pre ++ [x]) w' /\ BookT b (rc .done (some c)) T' w' /\ ∀ k, T' k -> k < w'.heap.size) /\ Kp (fun k => ¬ gH Z T' k) W w')) := fun c ⟨hk, hs, hx⟩ => by
    obtain ⟨hr, hbk4, hs4, hl3⟩ := fin (some c) hk hs
    exact ⟨_, _, hr, .inr ⟨rfl, ⟨c, hIxB c T' _ W3 (b + 1) _ _ hx (fun h => (hbk.off _ h).2 rfl) (by omega) hl3 rfl, hbk4, fun k hk => Nat.lt_of_lt_of_le (hT k hk) hs4.size⟩, hs4⟩⟩
   cases e with
   | normal =>
    obtain ⟨hk, hs, hx⟩ := hp
    obtain ⟨hr, hbk4, hs4, hl3⟩ := fin none hk hs
    exact ⟨_, _, hr, .inl ⟨rfl, ⟨hIB T' _ W3 (b + 1) _ _ hx (fun h => (hbk.off _ h).2 rfl) (by omega) hl3 rfl, hbk4, fun k hk => Nat.lt_of_lt_of_le (hT k hk) hs4.size⟩, hs4⟩⟩
   | ret => exact leave _ hp
   | exit id => exact leave _ hp
   | goto t => exact leave _ hp
   | panic ch => exact hp.elim
   | outgrown => exact hp.elim
  ·rintro e W2 ⟨⟨v, rfl⟩, T, V, hkp, (⟨xs, hS, hi, hbk, hT⟩ | ⟨pre, hSp, c, hi, hbk, hT⟩)⟩
   ·have hbk2 := hbk.step (T' := T) hkp fun k hk => .inl hk
    refine ⟨none, _, run_endLoop hbk2.loop (by simp [rc]), ?_⟩
    exact hdone b T xs _ _ (Nat.le_refl _) hS (hIB T _ V (b + 1) _ _ hi (fun h => (hbk.off _ h).2 rfl) (by omega) hbk.loop rfl) (fun k hk => by rw [size_put]; exact hT k hk) (hkp.put _ _ hbk.lt) ((World.putObj_heap_other (by omega)).trans hbk2.later)
   ·have hbk2 := hbk.step (T' := T) hkp fun k hk => .inl hk
    refine ⟨some c, _, run_endLoop hbk2.loop (by simp [rc]), ?_⟩
    exact hstop b c T pre _ _ (Nat.le_refl _) hSp (hIxB c T _ V (b + 1) _ _ hi (fun h => (hbk.off _ h).2 rfl) (by omega) hbk.loop rfl) (fun k hk => by rw [size_put]; exact hT k hk) (hkp.put _ _ hbk.lt) ((World.putObj_heap_other (by omega)).trans hbk2.later)
end
end Go.Proofs.YtinnmeiphbdogaaGreat
/- join: the variables of a rule's positive atoms. -/
namespace Go.Proofs.YtinnmeiphbdogaaGreat
open Go.RowKit
theorem aHv : dU Tryz.prog 34 9 1 16 (.string ⟨#[]⟩) := ⟨by kernel_rfl, by kernel_rfl, rfl, by decide⟩
theorem aC8 (a : List ByteArray) (t : aH) : (bK a t).length ≤ a.length + 1 /\ a.length ≤ (bK a t).length := by
 unfold bK; split <;> simp
theorem pO : ∀ (ts : List aH) (a : List ByteArray), (cQ a ts).length ≤ a.length + ts.length
 | [], a => by simp [cQ]
 | t :: ts, a => by
  have := pO ts (bK a t)
  have := (aC8 a t).1
  unfold cQ at *
  rw [List.foldl_cons]; simp only [List.length_cons]; omega
theorem aEa (a : List ByteArray) (l : aO) : (bV a l).length ≤ a.length + (aA l).length := by
 unfold bV; split
 ·exact pO _ _
 ·omega
theorem vK (M : Nat) : ∀ (ls : List aO) (a : List ByteArray), (∀ l ∈ ls, (aA l).length ≤ M) -> (ls.foldl bV a).length ≤ a.length + ls.length * M
 | [], a, _ => by simp
 | l :: ls, a, h => by
  have h1 := vK M ls (bV a l) fun x hx => h x (List.mem_cons_of_mem _ hx)
  have h2 := aEa a l
  have h3 := h l List.mem_cons_self
  rw [List.foldl_cons, List.length_cons, Nat.succ_mul]; omega
theorem vL {M : Nat} {ls : List aO} (h : ∀ l ∈ ls, (aA l).length ≤ M) : (aB ls).length ≤ ls.length * M := by
 have := vK M ls [] h; unfold aB; simpa using this
def dE (a : List ByteArray) (l : aO) (c : Nat) : List ByteArray := if l.1 = 1 then cQ a ((aA l).take c) else a
theorem aAb (a : List ByteArray) (l : aO) : dE a l 0 = a := by unfold dE; split <;> rfl
theorem aBz (a : List ByteArray) (l : aO) {c : Nat} (h : (aA l).length ≤ c) : dE a l c = bV a l := by
 unfold dE bV; rw [List.take_of_length_le h]
theorem aAc (a : List ByteArray) {l : aO} {c : Nat} {t : aH} (h : (aA l)[c]? = some t) : dE a l (c + 1) = if l.1 = 1 /\ t.1 = 1 /\ mF (dE a l c) t.2.1 = false then dE a l c ++ [t.2.1] else dE a l c := by
 unfold dE
 by_cases h1 : l.1 = 1
 ·simp only [h1, true_and]
  unfold cQ
  rw [yO _ _ h]
  rfl
 ·simp only [h1, false_and, if_false]
theorem aBy (a : List ByteArray) (l : aO) (c : Nat) : (dE a l c).length ≤ a.length + c := by
 unfold dE; split
 ·have := pO ((aA l).take c) a
  rw [List.length_take] at this; omega
 ·omega
theorem Row.old {w : World} {e : TypeId} {k : Nat} {v : Value} {n : Nat} {xs : List Value} {M : Nat -> Prop} (h : Row w e k v n xs M) : Row w e k v n xs (fun g => M g /\ g < w.heap.size) := by
 obtain ⟨h1, h2 | ⟨g, cap, rest, a, b, c, d⟩⟩ := h
 ·exact ⟨h1, .inl h2⟩
 ·exact ⟨h1, .inr ⟨g, cap, rest, a, ⟨b, c.lt⟩, c, d⟩⟩
theorem Row.beside {w w' : World} {e : TypeId} {k : Nat} {v : Value} {n : Nat} {xs : List Value} {M : Nat -> Prop} (h : Row w e k v n xs M) (hx : Ext w w') : Row w' e k v n xs (fun g => M g /\ g ≠ w.heap.size) :=
 (h.old.ext hx).mono fun g hg => ⟨hg.1, by omega⟩
theorem xT (ss : List ByteArray) (s : ByteArray) : strs ss ++ [.string s] = strs (ss ++ [s]) := by simp [strs]
structure Fit (ls : List aO) : Prop where
 len : ls.length ≤ 1048576
 terms : ∀ l ∈ ls, (aA l).length ≤ 1048576
def aLi (w0 : World) (ls : List aO) (n : Nat) (iv ov : Value) (w : World) : Prop := ∃ i : Nat, i ≤ n /\ iv = .int .i64 i /\ Hid (Row w 9 1 ov (aB (ls.take i)).length (strs (aB (ls.take i))) (New w0)) /\ Hid (Ext w0 w)
def aL6 (w0 : World) (a : List ByteArray) (l : aO) (g : Nat) (cs : List Value) (m : Nat) (iv ov : Value) (w : World) : Prop := ∃ i : Nat, i ≤ m /\ iv = .int .i64 i /\ Hid (Row w 9 1 ov (dE a l i).length (strs (dE a l i)) (fun k => New w0 k /\ k ≠ g)) /\ Hid (Ext w0 w) /\ Hid (Blk w g cs 40)
set_option maxRecDepth 100000 in
set_option maxHeartbeats 4000000 in
theorem aAw (p : ByteArray) (ha : Option Addr) (hn hcap : Nat) (ls : List aO) (ba : Option Addr) (n bcap : Nat) (w : World) (G : Nat -> Prop) (hbn : n = ls.length) (h : dN w G ba ls) (hf : Fit ls) :
 Calls Tryz.prog 62 #[eS p ha hn hcap ba n bcap] w (RetN w fun w' v => ∃ ao cap, v = .slice ao (aB ls).length cap /\ (aB ls).length ≤ cap /\ CellsAt w' ao (strs (aB ls))) := by
 have HN := qH hbn; have HE := qH h; have HF := qH hf; have hl : n ≤ 1048576 := by have := hf.len; omega
 clear hbn h hf
 go_enter Tryz.func62, Tryz.ntmps62
 go_wp2
 go_loopw [11, 3] (fun iv ov wr => aLi w ls n iv ov wr) (fun iv _ _ => n - (intOf iv).toNat)
 case atStart => exact ⟨0, Nat.zero_le _, rfl, Row.nil _ _ _ _, (Kp.refl w).alloc _⟩
 case round =>
  obtain ⟨i, hi, rfl, hrow, hex⟩ := hrel
  by_cases hlt : i < n
  ·have hlt' : i < ls.length := by rw [<- HN.out]; exact hlt
   obtain ⟨l, hli⟩ : ∃ l, ls[i]? = some l := ⟨_, qG hlt'⟩
   obtain ⟨b, off, a, cap, eao, hG, hb, hL, c0, c1, c2, c3, c4, c5, c6, c7⟩ := nG HE.out hli
   subst eao
   replace c0 := hex.out.cell c0 id
   replace c1 := hex.out.cell c1 id
   replace c2 := hex.out.cell c2 id
   replace c3 := hex.out.cell c3 id
   replace c4 := hex.out.cell c4 id
   replace c5 := hex.out.cell c5 id
   replace c6 := hex.out.cell c6 id
   replace c7 := hex.out.cell c7 id
   obtain ⟨m, em⟩ : ∃ m, m = (aA l).length := ⟨_, rfl⟩
   rw [<- em] at c2
   have hm : m ≤ 1048576 := by rw [em]; exact HF.out.terms l (List.mem_of_getElem? hli)
   have HL := qH (And.intro hli (And.intro hL em))
   clear hli hlt' hL em hG hb
   obtain ⟨k, ek⟩ : ∃ k, l.1 = k := ⟨_, rfl⟩
   rw [ek] at c0
   generalize aX l = s1 at c1
   generalize iI l = s3 at c3
   generalize (leftOf l).1 = s4 at c4
   generalize (leftOf l).2.1 = s5 at c5
   generalize (aR l).1 = s6 at c6
   generalize (aR l).2.1 = s7 at c7
   have HK := qH ek; clear ek
   go_wp2
   obtain ⟨wb, eb⟩ : ∃ wb, wr.alloc (.cells #[.int .i64 k, .string s1, .slice a m cap, .int .i64 s3, .int .i64 s4, .string s5, .int .i64 s6, .string s7] 40) = wb := ⟨_, rfl⟩
   rw [eb]
   have hB : Blk wb wr.heap.size [.int .i64 k, .string s1, .slice a m cap, .int .i64 s3, .int .i64 s4, .string s5, .int .i64 s6, .string s7] 40 := by rw [<- eb]; exact Blk.new wr [_, _, _, _, _, _, _, _] _
   have hx : Ext wr wb := by rw [<- eb]; exact (Kp.refl wr).alloc _
   have hrow2 : Row wb 9 1 u3 (dE (aB (ls.take i)) l 0).length (strs (dE (aB (ls.take i)) l 0)) (fun k => New w k /\ k ≠ wr.heap.size) := by
    rw [aAb]
    exact hrow.out.beside hx
   have HX := qH (hex.out.trans hx)
   have HB := qH hB
   have HR := qH hrow2
   have hnew : New w wr.heap.size := hex.out.size
   have HW := qH (And.intro hnew (Nat.lt_of_lt_of_le (Nat.lt_succ_self _) (by rw [<- eb, aN]; exact Nat.le_refl _) : wr.heap.size < wb.heap.size))
   have d0 : wb.cell? ⟨wr.heap.size, 2, none⟩ = some (.slice a m cap) := by rw [hB.cell']; rfl
   obtain ⟨g, eg⟩ : ∃ g, g = wr.heap.size := ⟨_, rfl⟩
   rw [<- eg] at HB HR HW d0
   have hlt2 : (i : Int) < (n : Int) := by omega
   clear hB hrow2 hx eb hnew c0 c1 c2 c3 c4 c5 c6 c7
   rw [<- eg]
   clear eg
   go_wp2
   clear d0
   go_loopw [19, 3] (fun iv ov wr => aL6 w (aB (ls.take i)) l g [.int .i64 k, .string s1, .slice a m cap, .int .i64 s3, .int .i64 s4, .string s5, .int .i64 s6, .string s7] m iv ov wr) (fun iv _ _ => m - (intOf iv).toNat)
   case atStart => exact ⟨0, Nat.zero_le _, rfl, HR.out, HX.out, HB.out⟩
   case round =>
    obtain ⟨j, hj, rfl, hrow3, hex3, hblk3⟩ := hrel
    by_cases hlt3 : j < m
    ·have hlt4 : j < (aA l).length := by rw [<- HL.out.2.2]; exact hlt3
     obtain ⟨t, ht⟩ : ∃ t, (aA l)[j]? = some t := ⟨_, qG hlt4⟩
     obtain ⟨b2, off2, eao2, f0, f1, _⟩ := jP (HL.out.2.1.terms.ext hex3.out) ht
     subst eao2
     obtain ⟨kt, st, ⟨⟩⟩ := t
     simp only at f0 f1
     have hs := aAc (aB (ls.take i)) ht
     have HT := qH hs
     clear ht hlt4 hs
     have e0 : (wr.alloc (.cells #[.int .i64 kt, .string st] 38)).cell? ⟨g, 0, none⟩ = some (.int .i64 k) := by rw [(hblk3.out.alloc _).cell']; rfl
     have hlen : (dE (aB (ls.take i)) l j).length ≤ 1099513724928 := by
      have h1 := aBy (aB (ls.take i)) l j
      have h2 : (aB (ls.take i)).length ≤ (ls.take i).length * 1048576 := vL fun x hx => HF.out.terms x (List.mem_of_mem_take hx)
      rw [List.length_take] at h2
      omega
     generalize eN : dE (aB (ls.take i)) l j = N at *
     by_cases h1 : k = 1
     ·subst h1
      by_cases h2 : kt = 1
      ·subst h2
       have hrow4 := hrow3.out
       obtain ⟨ao, cap4, eov, hcells, hle⟩ := hrow4.shape
       subst eov
       have HS := qH (fun (W : World) (hW : Ext wr W) => pE N st ao N.length cap4 W rfl (hcells.ext hW) (by omega))
       have HR4 := qH hrow4
       clear hcells hrow4 hrow3
       go_wp2_with fail
       refine (HS.out _ ((Kp.refl _).alloc _)).mono ?_
       rintro e w1 ⟨v, rfl, hk1, rfl⟩
       have bb := Blk.new wr [.int .i64 1, .string st] 38
       have f2 : w1.cell? ⟨wr.heap.size, 1, none⟩ = some (.string st) := by rw [(bb.ext hk1).cell']; rfl
       have HE1 := qH (((Kp.refl _).alloc _).trans hk1)
       clear hk1 bb
       cases hh : mF N st
       ·have HT2 := qH (HT.out.trans (if_pos ⟨HK.out, by first | rfl | trivial, hh⟩))
        go_wp2_with (first | (at_builtin; refine Halted.out ?_))
        refine Halted.mk (aDe aHv rfl _ _ rfl ((hex3.out.trans HE1.out).alloc _) (fun q h1 h2 => absurd h2 (Nat.not_lt.2 h1.1)) (fun q h1 => ?_) rfl ((HR4.out.ext HE1.out).alloc _) rfl (by rfl) (CellsAt.one _ _ _) (by simp [Value.oneCell']) (by omega) (by unfold maxLen; omega) ?_)
        ·have a1 := hex3.out.size
         have a2 := HE1.out.size
         have a3 := hblk3.out.lt
         rw [aN] at h1
         exact ⟨by unfold New; omega, by omega⟩
        ·intro v1 w2 hr1 hk1 hk2 _
         have hk3 := hk2
         have hb2 : Blk w2 g _ _ := ((hblk3.out.ext HE1.out).alloc _).kp hk2 (fun e => absurd rfl (HR4.out.block g e).2)
         have HR5 := qH (And.intro hr1 (And.intro hk1 hb2))
         clear hr1 hk1 hk2 hk3 hb2
         go_wp2
         go_roundw
         case rel =>
          refine ⟨j + 1, by omega, by first | rfl | (congr 1; done) | (congr 1; omega), ?_, HR5.out.2.1, HR5.out.2.2⟩
          have h := HR5.out.1
          rw [HT2.out, <- xT, List.length_append]
          exact h
         case measure => simp [intOf]; omega
       ·have HT2 := qH (HT.out.trans (if_neg fun x => by rw [hh] at x; cases x.2.2))
        go_wp2
        go_roundw
        case rel =>
         exact ⟨j + 1, by omega, by first | rfl | (congr 1; done) | (congr 1; omega), by rw [HT2.out]; exact HR4.out.ext HE1.out, hex3.out.trans HE1.out, hblk3.out.ext HE1.out⟩
        case measure => simp [intOf]; omega
      ·have HT2 := qH (HT.out.trans (if_neg fun x => h2 x.2.1))
       have b2 : (kt == 1) = false := by simp [h2]
       go_wp2
       go_roundw
       case rel =>
        exact ⟨j + 1, by omega, by first | rfl | (congr 1; done) | (congr 1; omega), by rw [HT2.out]; exact hrow3.out.alloc _, hex3.out.alloc _, hblk3.out.alloc _⟩
       case measure => simp [intOf]; omega
     ·have HT2 := qH (HT.out.trans (if_neg fun x => h1 (HK.out.symm.trans x.1)))
      have b2 : (k == 1) = false := by simp [h1]
      go_wp2
      go_roundw
      case rel =>
       exact ⟨j + 1, by omega, by first | rfl | (congr 1; done) | (congr 1; omega), by rw [HT2.out]; exact hrow3.out.alloc _, hex3.out.alloc _, hblk3.out.alloc _⟩
      case measure => simp [intOf]; omega
    ·have HA := qH (aBz (aB (ls.take i)) l (c := j) (by have := HL.out.2.2; omega))
     go_wp2
     go_roundw
     case rel =>
      refine ⟨i + 1, by omega, by first | rfl | (congr 1; done) | (congr 1; omega), ?_, hex3⟩
      have h := hrow3.out
      have e : aB (ls.take (i + 1)) = bV (aB (ls.take i)) l := yO _ _ HL.out.1
      rw [HA.out, <- e] at h
      exact h.mono fun _ x => x.1
     case measure => simp [intOf]; omega
  ·have e : ls.take i = ls := List.take_of_length_le (by have := HN.out; omega)
   have hrow4 := hrow.out
   rw [e] at hrow4
   obtain ⟨ao, cap4, eov, hcells, hle⟩ := hrow4.shape
   subst eov
   have HS := qH (fun (W : World) => zB ao (aB ls).length cap4 W hle)
   have HC := qH hcells
   clear hcells hrow4 hrow hle e
   go_wp2_with fail
   refine (HS.out _).mono ?_
   rintro e w1 ⟨v, rfl, hk1, rfl⟩
   go_wp2
   go_ret
   exact RetN.mk (hex.out.trans hk1) ⟨ao, _, rfl, Nat.le_refl _, HC.out.ext hk1⟩
end Go.Proofs.YtinnmeiphbdogaaGreat
/- join: Check, Vars. -/
namespace Go.Proofs.YtinnmeiphbdogaaGreat
open Go.RowKit
set_option maxRecDepth 100000 in
theorem aIw (N : List ByteArray) (ao : Option Addr) (m cap gb : Nat) (k : Int) (s : ByteArray) (blank : Bool) (w : World) (hm : m = N.length) (hc : w.cell? ⟨gb, 0, none⟩ = some (.slice ao m cap)) (h : CellsAt w ao (strs N)) (hl : m ≤ 4611686018427387904) :
 Calls Tryz.prog 65 #[xQ k s, .bool blank, .pointer (some ⟨gb, 0, none⟩)] w (RetN w fun w' v => v = .bool (fC N blank (k, s, ()))) := by
 by_cases h2 : k = 2
 ·subst h2
  go_enter Tryz.func65, Tryz.ntmps65
  go_wp2
  go_ret
  exact RetN.mk ((Kp.refl w).alloc _) (by unfold fC; simp)
 ·have b2 : (k == 2) = false := by simp [h2]
  by_cases h34 : k = 3 \/ k = 4
  ·rcases h34 with rfl | rfl
   all_goals
    clear h2 b2
    go_enter Tryz.func65, Tryz.ntmps65
    go_wp2
    go_ret
    exact RetN.mk ((Kp.refl w).alloc _) (by unfold fC; simp)
  ·have b3 : (k == 3) = false := by simp; exact fun e => h34 (.inl e)
   have b4 : (k == 4) = false := by simp; exact fun e => h34 (.inr e)
   have HS := qH (fun (W : World) (hW : Ext w W) => pE N s ao m cap W hm (h.ext hW) hl)
   have e0 : (w.alloc (.cells #[.int .i64 k, .string s] 38)).cell? ⟨gb, 0, none⟩ = some (.slice ao m cap) := ((Kp.refl (F := fun _ => False) w).alloc _).cell hc id
   have HH := qH (And.intro h2 h34); clear h2 h34 h hm hc
   go_enter Tryz.func65, Tryz.ntmps65
   go_wp2_with fail
   refine (HS.out _ ((Kp.refl _).alloc _)).mono ?_
   rintro e w1 ⟨v, rfl, hk1, rfl⟩
   go_wp2
   go_ret
   refine RetN.mk (((Kp.refl w).alloc _).trans hk1) ?_
   obtain ⟨h2, h34⟩ := HH.out
   show Value.bool (mF N s) = _
   refine congrArg Value.bool ?_
   unfold fC
   rw [if_neg h2]
   cases hh : mF N s
   ·symm; apply decide_eq_false; rintro (x | x | x)
    ·exact h34 (.inl x)
    ·exact h34 (.inr x)
    ·cases x
   ·symm; exact decide_eq_true (.inr (.inr rfl))
def aDd (w0 : World) {α : Type} (xs : List α) (q : α -> Bool) (n : Nat) (iv : Value) (w : World) : Prop := ∃ i : Nat, i ≤ n /\ iv = .int .i64 i /\ Hid ((xs.take i).all q = true) /\ Hid (Ext w0 w)
theorem iF {α : Type} {q : α -> Bool} {xs : List α} {i : Nat} {x : α} (h : xs[i]? = some x) : (xs.take (i + 1)).all q = ((xs.take i).all q && q x) := by
 rw [List.take_add_one, h, List.all_append]; simp
theorem oD {α : Type} {q : α -> Bool} {xs : List α} {i : Nat} {x : α} (h : xs[i]? = some x) (hq : q x = false) : xs.all q = false := by
 rw [List.all_eq_false]; exact ⟨x, List.mem_of_getElem? h, by rw [hq]; decide⟩
set_option maxRecDepth 100000 in
set_option maxHeartbeats 8000000 in
theorem aH5 (p : ByteArray) (hs : List aH) (ls : List aO) (ha : Option Addr) (hn hcap : Nat) (ba : Option Addr) (n bcap : Nat) (w : World) (G : Nat -> Prop) (hhn : hn = hs.length) (hh : bE w G ha hs) (hhl : hn ≤ 1048576) (hbn : n = ls.length) (h : dN w G ba ls) (hf : Fit ls) :
 Calls Tryz.prog 15 #[eS p ha hn hcap ba n bcap] w (RetN w fun w' v => v = .int .i64 (bO ((p, hs, ()), ls, ()))) := by
 have HN := qH hbn; have HE := qH h; have HF := qH hf; have hl : n ≤ 1048576 := by have := hf.len; omega
 have HHN := qH hhn; have HHE := qH hh
 have HHead := qH (fun (W : World) (hW : Ext w W) => aJv hs ha hn hcap W G hhn (hh.ext hW) hhl)
 obtain ⟨m, em⟩ : ∃ m, m = (aB ls).length := ⟨_, rfl⟩
 have HVars0 := fun (W : World) (hW : Ext w W) => aAw p ha hn hcap ls ba n bcap W G hbn (h.ext hW) hf
 rw [<- em] at HVars0
 have HVars := qH HVars0
 have EM := qH em
 clear HVars0 em
 have HLit := qH (fun (W : World) (hW : Ext w W) (l : aO) (hl : l ∈ ls) (a : Option Addr) (cap : Nat) (hin : LitIn w G l a cap) => aB1 l.1 (aX l) (aA l) a (aA l).length cap (iI l) (leftOf l).1 (leftOf l).2.1 (aR l).1 (aR l).2.1 W G rfl (hin.terms.ext hW) (hf.terms l hl) hin.left.1 hin.left.2 hin.right.1 hin.right.2)
 clear hbn h hf hhn hh
 go_enter Tryz.func15, Tryz.ntmps15
 go_wp2_with fail
 refine (HHead.out _ ((Kp.refl _).alloc _)).mono ?_
 rintro e w1 ⟨v, rfl, hk1, rfl⟩
 have bb := Blk.new w [.string p, .slice ha hn hcap, .slice ba n bcap] 27
 have B1 := qH (bb.ext hk1)
 have b1 : w1.cell? ⟨w.heap.size, 2, none⟩ = some (.slice ba n bcap) := by rw [B1.out.cell']; rfl
 have X1 := qH (((Kp.refl _).alloc _).trans hk1)
 clear hk1 bb
 cases hhd : nP hs
 ·go_wp2
  go_ret
  exact RetN.mk X1.out (by unfold bO gB; rw [if_neg (by rw [hhd]; simp)]; rfl)
 ·go_wp2
  clear b1
  go_loopw [21] (fun iv wr => aDd w1 ls kS n iv wr) (fun iv _ => n - (intOf iv).toNat)
  case atStart => exact ⟨0, Nat.zero_le _, rfl, rfl, Kp.refl _⟩
  case round =>
   obtain ⟨i, hi, rfl, hall, hex⟩ := hrel
   have XR := qH (X1.out.trans hex.out)
   by_cases hlt : i < n
   ·have hlt' : i < ls.length := by rw [<- HN.out]; exact hlt
    obtain ⟨l, hli⟩ : ∃ l, ls[i]? = some l := ⟨_, qG hlt'⟩
    obtain ⟨b, off, a, cap, eao, hG, hb, hL, c0, c1, c2, c3, c4, c5, c6, c7⟩ := nG HE.out hli
    subst eao
    replace c0 := XR.out.cell c0 id
    replace c1 := XR.out.cell c1 id
    replace c2 := XR.out.cell c2 id
    replace c3 := XR.out.cell c3 id
    replace c4 := XR.out.cell c4 id
    replace c5 := XR.out.cell c5 id
    replace c6 := XR.out.cell c6 id
    replace c7 := XR.out.cell c7 id
    have HL := qH hli
    have HC := qH (fun (W : World) (hW : Ext w W) => HLit.out W hW l (List.mem_of_getElem? hli) a cap hL)
    clear hli hlt' hL hG hb
    go_wp2_with fail
    refine (HC.out _ (XR.out.alloc _)).mono ?_
    rintro e w2 ⟨v, rfl, hk2, rfl⟩
    have X2 := qH ((hex.out.alloc _).trans hk2)
    clear hk2 c0 c1 c2 c3 c4 c5 c6 c7
    cases hq : kS l
    ·go_wp2
     go_ret
     refine RetN.mk (X1.out.trans X2.out) ?_
     unfold bO gB
     rw [if_neg (by rw [oD HL.out hq]; simp)]; rfl
    ·go_wp2
     go_roundw
     case rel => exact ⟨i + 1, by omega, by first | rfl | (congr 1; done) | (congr 1; omega), by rw [iF HL.out, hall.out, hq]; rfl, X2⟩
     case measure => simp [intOf]; omega
   ·have e : ls.take i = ls := List.take_of_length_le (by have := HN.out; omega)
    have HA := qH hall.out
    rw [e] at HA
    have c0 : wr.cell? ⟨w.heap.size, 0, none⟩ = some (.string p) := by rw [(B1.out.ext hex.out).cell']; rfl
    have c1 : wr.cell? ⟨w.heap.size, 1, none⟩ = some (.slice ha hn hcap) := by rw [(B1.out.ext hex.out).cell']; rfl
    have c2 : wr.cell? ⟨w.heap.size, 2, none⟩ = some (.slice ba n bcap) := by rw [(B1.out.ext hex.out).cell']; rfl
    clear e hall
    go_wp2_with fail
    refine (HVars.out _ XR.out).mono ?_
    rintro e w2 ⟨v, rfl, hk2, ao, cap, rfl, hle, hcells⟩
    have hm : m ≤ 4611686018427387904 := by
     have h1 := vL HF.out.terms
     have h2 := HF.out.len
     have h3 := Nat.mul_le_mul_right 1048576 h2
     have h4 := EM.out
     omega
    clear c0 c1 c2
    have B2 := qH (B1.out.ext (hex.out.trans hk2))
    have hx2 : Ext w (w2.alloc (.cells #[.slice ao m cap] 34)) := (XR.out.trans hk2).alloc _
    obtain ⟨wb, eb⟩ : ∃ wb, w2.alloc (.cells #[.slice ao m cap] 34) = wb := ⟨_, rfl⟩
    have bn := Blk.new w2 [.slice ao m cap] 34
    have HSafe := qH (fun (W : World) (hW : Ext wb W) (k : Int) (s : ByteArray) (blank : Bool) => aIw (aB ls) ao m cap w2.heap.size k s blank W EM.out (by
     have := bn.cell 0 (by simp)
     rw [<- eb] at hW
     exact hW.cell this id) ((hcells.alloc _).ext (eb ▸ hW)) hm)
    have HX2 := qH hx2
    rw [eb] at HX2
    have C1 := qH (B2.out.alloc (.cells #[.slice ao m cap] 34))
    rw [eb] at C1
    have c1 : (w2.alloc (.cells #[.slice ao m cap] 34)).cell? ⟨w.heap.size, 1, none⟩ = some (.slice ha hn hcap) := by rw [eb, C1.out.cell']; rfl
    clear hk2 hle hcells hx2 bn
    have EB := qH eb; clear eb
    go_wp2
    rw [EB.out]
    clear c1
    go_loopw [36] (fun iv wr => aDd wb hs (fC (aB ls) false) hn iv wr) (fun iv _ => hn - (intOf iv).toNat)
    case atStart => exact ⟨0, Nat.zero_le _, rfl, rfl, Kp.refl _⟩
    case round =>
     obtain ⟨j, hj, rfl, hall3, hex3⟩ := hrel
     have X3 := qH (HX2.out.trans hex3.out)
     by_cases hlt3 : j < hn
     ·have hlt4 : j < hs.length := by rw [<- HHN.out]; exact hlt3
      obtain ⟨t, ht⟩ : ∃ t, hs[j]? = some t := ⟨_, qG hlt4⟩
      obtain ⟨b2, off2, eao2, f0, f1, _⟩ := jP (HHE.out.ext X3.out) ht
      subst eao2
      obtain ⟨kt, st, ⟨⟩⟩ := t
      simp only at f0 f1
      have HT := qH ht
      clear ht hlt4
      go_wp2_with fail
      refine (HSafe.out _ (hex3.out.alloc _) kt st false).mono ?_
      rintro e w3 ⟨v, rfl, hk3, rfl⟩
      have X4 := qH ((hex3.out.alloc _).trans hk3)
      clear hk3 f0 f1
      cases hq : fC (aB ls) false (kt, st, ())
      ·go_wp2
       go_ret
       refine RetN.mk (HX2.out.trans X4.out) ?_
       unfold bO qD gB
       rw [if_pos (by simp only [Bool.and_eq_true]; exact ⟨hhd, HA.out⟩), if_neg (by rw [oD HT.out hq]; simp)]; rfl
      ·go_wp2
       go_roundw
       case rel => exact ⟨j + 1, by omega, by first | rfl | (congr 1; done) | (congr 1; omega), by rw [iF HT.out, hall3.out, hq]; rfl, X4⟩
       case measure => simp [intOf]; omega
     ·have e : hs.take j = hs := List.take_of_length_le (by have := HHN.out; omega)
      have HB := qH hall3.out
      rw [e] at HB
      have c2 : wr.cell? ⟨w.heap.size, 2, none⟩ = some (.slice ba n bcap) := by rw [(C1.out.ext hex3.out).cell']; rfl
      clear e hall3
      have hltn : ¬ (j : Int) < (hn : Int) := by omega
      go_wp2
      clear c2
      go_loopw [48] (fun iv wr => aDd wb ls (jS (aB ls)) n iv wr) (fun iv _ => n - (intOf iv).toNat)
      case atStart => exact ⟨0, Nat.zero_le _, rfl, rfl, hex3⟩
      case round =>
       obtain ⟨q, hq, rfl, hall4, hex4⟩ := hrel
       have X5 := qH (HX2.out.trans hex4.out)
       by_cases hlt5 : q < n
       ·have hlt6 : q < ls.length := by rw [<- HN.out]; exact hlt5
        obtain ⟨l, hli⟩ : ∃ l, ls[q]? = some l := ⟨_, qG hlt6⟩
        obtain ⟨b, off, a, cap2, eao, hG, hb, hL, c0, c1, c2, c3, c4, c5, c6, c7⟩ := nG HE.out hli
        subst eao
        replace c0 := X5.out.cell c0 id
        replace c1 := X5.out.cell c1 id
        replace c2 := X5.out.cell c2 id
        replace c3 := X5.out.cell c3 id
        replace c4 := X5.out.cell c4 id
        replace c5 := X5.out.cell c5 id
        replace c6 := X5.out.cell c6 id
        replace c7 := X5.out.cell c7 id
        have HL := qH (And.intro hli hL)
        have hq2 : (q : Int) < (n : Int) := by omega
        obtain ⟨mm, emm⟩ : ∃ mm, mm = (aA l).length := ⟨_, rfl⟩
        rw [<- emm] at c2
        have HM := qH emm
        have hmm : mm ≤ 1048576 := by rw [emm]; exact HF.out.terms l (List.mem_of_getElem? hli)
        clear hli hlt6 hL hG hb emm
        have HSafe2 := HSafe
        obtain ⟨k, ek⟩ : ∃ k, l.1 = k := ⟨_, rfl⟩
        obtain ⟨lk, elk⟩ : ∃ lk, (leftOf l).1 = lk := ⟨_, rfl⟩
        obtain ⟨lt, elt⟩ : ∃ lt, (leftOf l).2.1 = lt := ⟨_, rfl⟩
        obtain ⟨rk, erk⟩ : ∃ rk, (aR l).1 = rk := ⟨_, rfl⟩
        obtain ⟨rt, ert⟩ : ∃ rt, (aR l).2.1 = rt := ⟨_, rfl⟩
        rw [ek] at c0
        rw [elk] at c4
        rw [elt] at c5
        rw [erk] at c6
        rw [ert] at c7
        have eleft : leftOf l = (lk, lt, ()) := by rw [<- elk, <- elt]
        have eright : aR l = (rk, rt, ()) := by rw [<- erk, <- ert]
        generalize aX l = s1 at c1
        generalize iI l = s3 at c3
        have HK := qH (And.intro ek (And.intro eleft eright)); clear ek elk elt erk ert eleft eright
        obtain ⟨wx, ewx⟩ : ∃ wx, wr.alloc (.cells #[.int .i64 k, .string s1, .slice a mm cap2, .int .i64 s3, .int .i64 lk, .string lt, .int .i64 rk, .string rt] 40) = wx := ⟨_, rfl⟩
        have hB := Blk.new wr [.int .i64 k, .string s1, .slice a mm cap2, .int .i64 s3, .int .i64 lk, .string lt, .int .i64 rk, .string rt] 40
        have hWX : Ext wb wx := by rw [<- ewx]; exact hex4.out.alloc _
        have hXX : Ext w wx := HX2.out.trans hWX
        obtain ⟨g, eg⟩ : ∃ g, g = wr.heap.size := ⟨_, rfl⟩
        have HGB := qH hB
        rw [<- eg] at HGB
        have ewx2 : wr.alloc (.cells [Value.int .i64 k, .string s1, .slice a mm cap2, .int .i64 s3, .int .i64 lk, .string lt, .int .i64 rk, .string rt].toArray 40) = wx := ewx
        rw [ewx2] at HGB
        have HWX := qH hWX
        have HXX := qH hXX
        have EG := qH (And.intro eg ewx)
        clear hB hWX hXX eg ewx ewx2
        by_cases h3 : k = 3
        ·have b3 : (k == 3) = true := by simp [h3]
         have n2 : ¬ k = 2 := by omega
         have HH3 := qH (And.intro h3 n2); clear h3 n2
         go_wp2_with fail
         rw [EG.out.2, <- EG.out.1]
         refine (HSafe.out _ HWX.out lk lt false).mono ?_
         rintro e w5 ⟨v, rfl, hk5, rfl⟩
         have X6 := qH hk5
         have d6 : w5.cell? ⟨g, 6, none⟩ = some (.int .i64 rk) := by rw [(HGB.out.ext hk5).cell']; rfl
         have d7 : w5.cell? ⟨g, 7, none⟩ = some (.string rt) := by rw [(HGB.out.ext hk5).cell']; rfl
         clear hk5 c0 c1 c2 c3 c4 c5 c6 c7
         cases hsl : fC (aB ls) false (lk, lt, ())
         ·go_wp2
          go_ret
          refine RetN.mk (HXX.out.trans X6.out) ?_
          have hno : jS (aB ls) l = false := by unfold jS; rw [if_pos (HK.out.1.trans HH3.out.1), HK.out.2.1, hsl]; rfl
          unfold bO qD gB
          rw [if_pos (by simp only [Bool.and_eq_true]; exact ⟨hhd, HA.out⟩), if_neg (by rw [oD HL.out.1 hno]; simp)]; rfl
         ·go_wp2_with fail
          refine (HSafe.out _ (HWX.out.trans X6.out) rk rt false).mono ?_
          rintro e w7 ⟨v, rfl, hk7, rfl⟩
          have X7 := qH (X6.out.trans hk7)
          clear hk7 d6 d7
          cases hsr : fC (aB ls) false (rk, rt, ())
          ·go_wp2
           go_ret
           refine RetN.mk (HXX.out.trans X7.out) ?_
           have hno : jS (aB ls) l = false := by unfold jS; rw [if_pos (HK.out.1.trans HH3.out.1), HK.out.2.1, HK.out.2.2, hsr, Bool.and_false]
           unfold bO qD gB
           rw [if_pos (by simp only [Bool.and_eq_true]; exact ⟨hhd, HA.out⟩), if_neg (by rw [oD HL.out.1 hno]; simp)]; rfl
          ·have HSL := qH (show jS (aB ls) l = (aA l).all (fun t => if k = 2 then fC (aB ls) true t else true) by
            unfold jS; rw [if_pos (HK.out.1.trans HH3.out.1), HK.out.2.1, HK.out.2.2, hsl, hsr]
            exact (List.all_eq_true.2 (fun t _ => if_neg HH3.out.2)).symm)
           have d0 : w7.cell? ⟨g, 2, none⟩ = some (.slice a mm cap2) := by rw [(HGB.out.ext X7.out).cell']; rfl
           have HX7 := X7
           clear X7
           go_wp2
           clear d0
           go_loopw [73] (fun iv wr => aDd wx (aA l) (fun t => if k = 2 then fC (aB ls) true t else true) mm iv wr) (fun iv _ => mm - (intOf iv).toNat)
           case atStart => exact ⟨0, Nat.zero_le _, rfl, rfl, HX7.out⟩
           case round =>
            obtain ⟨z, hz, rfl, hall8, hex8⟩ := hrel
            have X8 := qH (HXX.out.trans hex8.out)
            by_cases hlt7 : z < mm
            ·have hlt8 : z < (aA l).length := by rw [<- HM.out]; exact hlt7
             obtain ⟨t, ht⟩ : ∃ t, (aA l)[z]? = some t := ⟨_, qG hlt8⟩
             obtain ⟨b9, off9, eao9, f0, f1, _⟩ := jP (HL.out.2.terms.ext X8.out) ht
             subst eao9
             obtain ⟨kt, st, ⟨⟩⟩ := t
             simp only at f0 f1
             have HT := qH ht
             have e0 : (wr.alloc (.cells #[.int .i64 kt, .string st] 38)).cell? ⟨g, 0, none⟩ = some (.int .i64 k) := by rw [((HGB.out.ext hex8.out).alloc _).cell']; rfl
             clear ht hlt8
             by_cases h2 : k = 2
             ·have b2 : (k == 2) = true := by simp [h2]
              have HH2 := qH h2; clear h2
              go_wp2_with fail
              refine (HSafe.out _ ((HWX.out.trans hex8.out).alloc _) kt st true).mono ?_
              rintro e w9 ⟨v, rfl, hk9, rfl⟩
              have X9 := qH ((hex8.out.alloc _).trans hk9)
              clear hk9 f0 f1 e0
              cases hqq : fC (aB ls) true (kt, st, ())
              ·go_wp2
               go_ret
               refine RetN.mk (HXX.out.trans X9.out) ?_
               have hno : jS (aB ls) l = false := by rw [HSL.out]; exact oD HT.out (by show (if k = 2 then _ else _) = false; rw [if_pos HH2.out]; exact hqq)
               unfold bO qD gB
               rw [if_pos (by simp only [Bool.and_eq_true]; exact ⟨hhd, HA.out⟩), if_neg (by rw [oD HL.out.1 hno]; simp)]; rfl
              ·go_wp2
               go_roundw
               case rel => exact ⟨z + 1, by omega, by first | rfl | (congr 1; done) | (congr 1; omega), by rw [iF HT.out, hall8.out]; show (if k = 2 then _ else _) = true; rw [if_pos HH2.out]; exact hqq, X9⟩
               case measure => simp [intOf]; omega
             ·have b2 : (k == 2) = false := by simp [h2]
              have HH2 := qH h2; clear h2
              go_wp2
              go_roundw
              case rel => exact ⟨z + 1, by omega, by first | rfl | (congr 1; done) | (congr 1; omega), by rw [iF HT.out, hall8.out]; show (if k = 2 then _ else _) = true; rw [if_neg HH2.out], hex8.out.alloc _⟩
              case measure => simp [intOf]; omega
            ·have e : (aA l).take z = aA l := List.take_of_length_le (by have := HM.out; omega)
             have H9 := qH hall8.out
             rw [e] at H9
             clear e hall8
             have hzm : ¬ (z : Int) < (mm : Int) := by omega
             go_wp2
             go_roundw
             case rel => exact ⟨q + 1, by omega, by first | rfl | (congr 1; done) | (congr 1; omega), by rw [iF HL.out.1, hall4.out, HSL.out, H9.out]; rfl, HWX.out.trans hex8.out⟩
             case measure => simp [intOf]; omega
        ·have b3 : (k == 3) = false := by simp [h3]
         have HSL := qH (show jS (aB ls) l = (aA l).all (fun t => if k = 2 then fC (aB ls) true t else true) by
          unfold jS; rw [if_neg (fun x => h3 (HK.out.1.symm.trans x)), HK.out.1]
          by_cases h2 : k = 2
          ·rw [if_pos h2]; congr 1; funext t; rw [if_pos h2]
          ·rw [if_neg h2]; symm; rw [List.all_eq_true]; intro t _; rw [if_neg h2])
         have HH3 := qH h3; clear h3
         have d0 : (wr.alloc (.cells #[.int .i64 k, .string s1, .slice a mm cap2, .int .i64 s3, .int .i64 lk, .string lt, .int .i64 rk, .string rt] 40)).cell? ⟨wr.heap.size, 2, none⟩ = some (.slice a mm cap2) := by rw [EG.out.2, <- EG.out.1, HGB.out.cell']; rfl
         go_wp2
         rw [EG.out.2, <- EG.out.1]
         have HX7 := qH (Kp.refl (F := fun _ => False) wx)
         clear c0 c1 c2 c3 c4 c5 c6 c7
         clear d0
         go_loopw [73] (fun iv wr => aDd wx (aA l) (fun t => if k = 2 then fC (aB ls) true t else true) mm iv wr) (fun iv _ => mm - (intOf iv).toNat)
         case atStart => exact ⟨0, Nat.zero_le _, rfl, rfl, HX7.out⟩
         case round =>
          obtain ⟨z, hz, rfl, hall8, hex8⟩ := hrel
          have X8 := qH (HXX.out.trans hex8.out)
          by_cases hlt7 : z < mm
          ·have hlt8 : z < (aA l).length := by rw [<- HM.out]; exact hlt7
           obtain ⟨t, ht⟩ : ∃ t, (aA l)[z]? = some t := ⟨_, qG hlt8⟩
           obtain ⟨b9, off9, eao9, f0, f1, _⟩ := jP (HL.out.2.terms.ext X8.out) ht
           subst eao9
           obtain ⟨kt, st, ⟨⟩⟩ := t
           simp only at f0 f1
           have HT := qH ht
           have e0 : (wr.alloc (.cells #[.int .i64 kt, .string st] 38)).cell? ⟨g, 0, none⟩ = some (.int .i64 k) := by rw [((HGB.out.ext hex8.out).alloc _).cell']; rfl
           clear ht hlt8
           by_cases h2 : k = 2
           ·have b2 : (k == 2) = true := by simp [h2]
            have HH2 := qH h2; clear h2
            go_wp2_with fail
            refine (HSafe.out _ ((HWX.out.trans hex8.out).alloc _) kt st true).mono ?_
            rintro e w9 ⟨v, rfl, hk9, rfl⟩
            have X9 := qH ((hex8.out.alloc _).trans hk9)
            clear hk9 f0 f1 e0
            cases hqq : fC (aB ls) true (kt, st, ())
            ·go_wp2
             go_ret
             refine RetN.mk (HXX.out.trans X9.out) ?_
             have hno : jS (aB ls) l = false := by rw [HSL.out]; exact oD HT.out (by show (if k = 2 then _ else _) = false; rw [if_pos HH2.out]; exact hqq)
             unfold bO qD gB
             rw [if_pos (by simp only [Bool.and_eq_true]; exact ⟨hhd, HA.out⟩), if_neg (by rw [oD HL.out.1 hno]; simp)]; rfl
            ·go_wp2
             go_roundw
             case rel => exact ⟨z + 1, by omega, by first | rfl | (congr 1; done) | (congr 1; omega), by rw [iF HT.out, hall8.out]; show (if k = 2 then _ else _) = true; rw [if_pos HH2.out]; exact hqq, X9⟩
             case measure => simp [intOf]; omega
           ·have b2 : (k == 2) = false := by simp [h2]
            have HH2 := qH h2; clear h2
            go_wp2
            go_roundw
            case rel => exact ⟨z + 1, by omega, by first | rfl | (congr 1; done) | (congr 1; omega), by rw [iF HT.out, hall8.out]; show (if k = 2 then _ else _) = true; rw [if_neg HH2.out], hex8.out.alloc _⟩
            case measure => simp [intOf]; omega
          ·have e : (aA l).take z = aA l := List.take_of_length_le (by have := HM.out; omega)
           have H9 := qH hall8.out
           rw [e] at H9
           clear e hall8
           have hzm : ¬ (z : Int) < (mm : Int) := by omega
           go_wp2
           go_roundw
           case rel => exact ⟨q + 1, by omega, by first | rfl | (congr 1; done) | (congr 1; omega), by rw [iF HL.out.1, hall4.out, HSL.out, H9.out]; rfl, HWX.out.trans hex8.out⟩
           case measure => simp [intOf]; omega
       ·have e : ls.take q = ls := List.take_of_length_le (by have := HN.out; omega)
        have HC := qH hall4.out
        rw [e] at HC
        clear e hall4
        have hqn : ¬ (q : Int) < (n : Int) := by omega
        go_wp2
        go_ret
        refine RetN.mk X5.out ?_
        unfold bO qD gB
        rw [if_pos (by simp only [Bool.and_eq_true]; exact ⟨hhd, HA.out⟩), if_pos (by simp only [Bool.and_eq_true]; exact ⟨HB.out, HC.out⟩)]; rfl
end Go.Proofs.YtinnmeiphbdogaaGreat
/- A region that draws its order, inside the round of a range over a function: out of the plain laws. No program in sight. -/
namespace Go.Proofs.YtinnmeiphbdogaaGreat
theorem aBg {n : Nat} {P : Program} {row : String} {args : Array Value} {w : World} {R : Value -> World -> Prop} (h : Rows P row args w R) : RowsIn Fence.wide n P row args w R :=
 fun c cs _ => let ⟨v, w', r, s⟩ := h c cs; ⟨v, w', r, stepsIn_wide.2 s⟩
section
variable {P : Program} {l n : Nat}
theorem Oper.wpIn_of_wp {o : Oper} {a : Act} {w : World} {K : Act -> World -> Prop} {Q : Exit -> Act -> World -> Prop} (hd : ∀ c, o.op ≠ .defer c) (h : o.wp P a w K Q) : o.wpIn (Fence.wide.inRound l) n P a w K Q := by
 refine ⟨fun f _ => trivial, ?_⟩
 rw [Oper.semAt_plain _ _ _ hd]
 unfold Oper.wp at h
 generalize (execOp a.eval o).run P w = r at *
 cases r with
 | ok x w' =>
  cases x with
  | value v => exact h
  | skip => exact h
  | defer d => exact h
  | enter f args => exact ⟨fun e => (by cases e), CallsIn.inRound l (callsIn_wide.2 h)⟩
  | row row args => exact ⟨fun e => (by cases e), aBg h⟩
  | _ => exact h.elim
 | halt x w' =>
  cases x with
  | panic v => exact h
  | _ => exact h.elim
def zZ (ops : List Oper) : Bool := ops.all fun o => match o.op with | .defer _ => false | _ => true
theorem aD7 {ops : List Oper} (h : zZ ops = true) {i : Nat} {o : Oper} (ho : ops.toArray[i]? = some o) : ∀ c, o.op ≠ .defer c := fun c e => by
 rw [List.getElem?_toArray] at ho
 have := List.all_eq_true.1 h o (List.mem_of_getElem? ho)
 rw [e] at this
 cases this
theorem fW {md : Region.Mode} {ops : List Oper} {Q : Exit -> Act -> World -> Prop} (hd : zZ ops = true) (hQ : ∀ a w, ¬ Q .outgrown a w) : ∀ (fuel : Nat) (listed : Array Bool) (a : Act) (w : World), wpAny P md ops.toArray Q fuel listed a w -> wpAnyIn (Fence.wide.inRound l) n P md ops.toArray Q fuel listed a w
 | 0, _, _, _, h => h
 | fuel + 1, listed, a, w, h => by
  refine ⟨h.1, fun i hi => ?_⟩
  have h1 := h.2 i hi
  unfold wpOp at h1
  unfold wpOpIn
  cases ho : ops.toArray[i]? with
  | none =>
   rw [ho] at h1
   exact fW hd hQ fuel _ _ _ h1
  | some o =>
   rw [ho] at h1
   simp only at h1 ⊢
   split
   ·rename_i hw
    rw [if_pos hw] at h1
    replace h1 := h1.resolve_right fun h => by
     obtain ⟨_, a', w', h⟩ := h
     exact hQ a' w' h
    exact Oper.wpIn_mono (fun a w h => fW hd hQ fuel _ a w h) (Oper.wpIn_of_wp (aD7 hd ho) h1)
   ·rename_i hw
    rw [if_neg hw] at h1
    exact ⟨fun f _ => trivial, fW hd hQ fuel _ _ _ h1⟩
theorem dV {id : Nat} {ops : List Oper} {Q : Exit -> Act -> World -> Prop} {a : Act} {w : World} (S : World -> Prop) (lates : List Nat) (hm : P.follows .mixedOrders = true) (hS : S w.drew)
 (h : S w.drew -> cE P .any ops.toArray Q S lates ops.toArray.size (Array.replicate ops.toArray.size false) a w.drew) (hd : zZ ops = true := by kernel_rfl) (hQ : ∀ a w, ¬ Q .outgrown a w := by exact fun _ _ h => h) : (Code.region id ops.toArray true).wpIn (Fence.wide.inRound l) n P Q a w :=
 wpIn_region_any hm (fW hd hQ _ _ _ _ (pH _ _ _ _ (h hS)))
end
end Go.Proofs.YtinnmeiphbdogaaGreat
/- make: a row of zero values. -/
namespace Go.Proofs.YtinnmeiphbdogaaGreat
open Go.RowKit
theorem aHb {cs : Array Value} {c : Value} {k : Nat} (hk : 0 < k) (h : cs = (List.replicate k c).toArray) (m : Nat) : madeCells cs m = (List.replicate m c).toArray := by
 subst h
 apply Array.ext_getElem?
 intro j
 unfold madeCells
 rw [Array.getElem?_map]
 by_cases hj : j < m
 ·have h1 : (Array.range m)[j]? = some j := by simp [hj]
  have h2 : j % (List.replicate k c).toArray.size < (List.replicate k c).toArray.size := Nat.mod_lt _ (by simp; exact hk)
  rw [h1, Option.map_some, getElem!_pos (List.replicate k c).toArray (j % (List.replicate k c).toArray.size) h2]
  simp [hj]
 ·simp [hj]
theorem jF {P : Program} {t e : TypeId} {k bytes : Nat} {z c : Value} (E : dU P t e k bytes z) (hc : z.cells = (List.replicate k c).toArray) (n : Nat) (hb : bytes * n ≤ 281474976710656) (h63 : n ≤ maxLen) (w : World) :
 (Instr.makeSlice t (.int .i64 (n : Int)) (.int .i64 (n : Int))).run P w = .ok (.slice (some ⟨w.heap.size, 0, none⟩) n n) (w.alloc (.cells (List.replicate (n * k) c).toArray e)) := by
 obtain ⟨ht, hi, hz, hk⟩ := E
 obtain ⟨i, hi, h1, h2, h3⟩ := info_parts hi
 have hb' : (i.bytes : Int) * (n : Int) ≤ 281474976710656 := by
  have h : ((i.bytes * n : Nat) : Int) ≤ 281474976710656 := by rw [h3]; omega
  rwa [Int.natCast_mul] at h
 have hr := run_make (P := P) w t e i z ht hi h1 .i64 .i64 n n (by omega) (Int.le_refl _) hb' (by unfold maxLen at h63; omega)
 simp only [Int.toNat_natCast, h2] at hr
 rw [aHb hk hc] at hr
 exact hr
end Go.Proofs.YtinnmeiphbdogaaGreat
/-
  DERIVED: THE SHELF's CONTRACTS AT THIS DUMP, IN PLAIN WORDS (tools/lay-plain.mjs out of 'TryzShelf.lean', which tools/lay-shelf.mjs wrote): THE SAME DECLARATIONS UNDER THE SAME NAMES: 'import', 'namespace', 'open', 'def', 'theorem' AND NOTHING ELSE: no command of the shelf's: FOR A HAND-IN. Each laying: the table of numbers ('.._ren') and one theorem, a field a fact of the dump's own or the kernel's comparison; each contract: ONE APPLICATION.
-/
namespace Go.Proofs
open Go.Shelf
def Tryz.lays212_ren : Go.Shelf.Ren := ⟨fun | 212 => 131 | 263 => 166 | 264 => 167 | n => n, fun | 46 => 81 | 51 => 226 | 146 => 227 | 53 => 229 | 148 => 230 | n => n, fun | n => n⟩
theorem Tryz.lays212 : Go.Proofs.Lays.n212 Tryz.prog Tryz.lays212_ren := {
 mixed := by kernel_rfl
 f212 := Tryz.func131.trans (congrArg some (by kernel_rfl))
 f263 := Tryz.func166.trans (congrArg some (by kernel_rfl))
 f264 := Tryz.func167.trans (congrArg some (by kernel_rfl))
 t46 := Tryz.underlying81
 a46 := Tryz.isAgg81
 z46 := Tryz.sizeOf81
 v46 := Tryz.zeroValue81
 t51 := Tryz.underlying226
 a51 := Tryz.isAgg226
 z51 := Tryz.sizeOf226
 v51 := Tryz.zeroValue226
 t53 := Tryz.underlying229
 a53 := Tryz.isAgg229
 z53 := Tryz.sizeOf229
 v53 := Tryz.zeroValue229
 t146 := Tryz.underlying227
 a146 := Tryz.isAgg227
 z146 := Tryz.sizeOf227
 v146 := Tryz.zeroValue227
 t148 := Tryz.underlying230
 a148 := Tryz.isAgg230
 z148 := Tryz.sizeOf230
 v148 := Tryz.zeroValue230 }
open Go.RowKit Go.Lib in
theorem Tryz.bits_Mul (x y : Nat) (hx : x < 18446744073709551616) (hy : y < 18446744073709551616) (w : World) :
 Calls Tryz.prog 131 #[.int .u64 x, .int .u64 y] w fun e w' => e = .returned (.tuple #[.int .u64 ((x * y / 18446744073709551616 : Nat) : Int), .int .u64 ((x * y % 18446744073709551616 : Nat) : Int)]) /\ w' = w := Any.bits_Mul Tryz.lays212 x y hx hy w
def Tryz.laysSlF6_f199_ren : Go.Shelf.Ren := ⟨fun | 6 => 199 | 15 => 209 | 14 => 208 | 28 => 221 | 29 => 222 | 20 => 212 | 21 => 214 | 22 => 215 | 23 => 216 | 24 => 217 | 25 => 218 | 26 => 219 | 27 => 220 | 46 => 226 | 47 => 227 | 48 => 228 | 49 => 229 | 50 => 230 | 57 => 232 | n => n, fun | 22 => 69 | 24 => 34 | 25 => 131 | 3 => 3 | 39 => 81 | 0 => 0 | 53 => 226 | 55 => 229 | 4 => 4 | 46 => 271 | 45 => 270 | 50 => 221 | 5 => 5 | 9 => 9 | 66 => 279 | 70 => 283 | 76 => 285 | 77 => 286 | n => n, fun | n => n⟩
theorem Tryz.laysSlF6_f199 : Go.Proofs.SlLaysF.n6 Tryz.prog Tryz.laysSlF6_f199_ren := {
 mixed := by kernel_rfl
 f6 := ⟨Tryz.f199.name, by decide, Tryz.func199.trans (congrArg some (by kernel_rfl))⟩
 f14 := ⟨Tryz.f208.name, by decide, Tryz.func208.trans (congrArg some (by kernel_rfl))⟩
 f15 := Tryz.func209.trans (congrArg some (by kernel_rfl))
 f20 := ⟨Tryz.f212.name, by decide, Tryz.func212.trans (congrArg some (by kernel_rfl))⟩
 f21 := ⟨Tryz.f214.name, by decide, Tryz.func214.trans (congrArg some (by kernel_rfl))⟩
 f22 := ⟨Tryz.f215.name, by decide, Tryz.func215.trans (congrArg some (by kernel_rfl))⟩
 f23 := ⟨Tryz.f216.name, by decide, Tryz.func216.trans (congrArg some (by kernel_rfl))⟩
 f24 := ⟨Tryz.f217.name, by decide, Tryz.func217.trans (congrArg some (by kernel_rfl))⟩
 f25 := ⟨Tryz.f218.name, by decide, Tryz.func218.trans (congrArg some (by kernel_rfl))⟩
 f26 := ⟨Tryz.f219.name, by decide, Tryz.func219.trans (congrArg some (by kernel_rfl))⟩
 f27 := ⟨Tryz.f220.name, by decide, Tryz.func220.trans (congrArg some (by kernel_rfl))⟩
 f28 := Tryz.func221.trans (congrArg some (by kernel_rfl))
 f29 := Tryz.func222.trans (congrArg some (by kernel_rfl))
 f46 := ⟨Tryz.f226.name, by decide, Tryz.func226.trans (congrArg some (by kernel_rfl))⟩
 f47 := Tryz.func227.trans (congrArg some (by kernel_rfl))
 f48 := Tryz.func228.trans (congrArg some (by kernel_rfl))
 f49 := ⟨Tryz.f229.name, by decide, Tryz.func229.trans (congrArg some (by kernel_rfl))⟩
 f50 := ⟨Tryz.f230.name, by decide, Tryz.func230.trans (congrArg some (by kernel_rfl))⟩
 f57 := ⟨Tryz.f232.name, by decide, Tryz.func232.trans (congrArg some (by kernel_rfl))⟩
 t0 := Tryz.underlying0
 a0 := Tryz.isAgg0
 z0 := Tryz.sizeOf0
 v0 := Tryz.zeroValue0
 t3 := Tryz.underlying3
 a3 := Tryz.isAgg3
 z3 := Tryz.sizeOf3
 v3 := Tryz.zeroValue3
 t4 := Tryz.underlying4
 a4 := Tryz.isAgg4
 z4 := Tryz.sizeOf4
 v4 := Tryz.zeroValue4
 t5 := Tryz.underlying5
 a5 := Tryz.isAgg5
 z5 := Tryz.sizeOf5
 v5 := Tryz.zeroValue5
 t9 := Tryz.underlying9
 a9 := Tryz.isAgg9
 z9 := Tryz.sizeOf9
 v9 := Tryz.zeroValue9
 t22 := Tryz.underlying69
 a22 := Tryz.isAgg69
 z22 := Tryz.sizeOf69
 v22 := Tryz.zeroValue69
 a24 := Tryz.isAgg34
 z24 := Tryz.sizeOf34
 t25 := Tryz.underlying131
 a25 := Tryz.isAgg131
 z25 := Tryz.sizeOf131
 v25 := Tryz.zeroValue131
 t39 := Tryz.underlying81
 a39 := Tryz.isAgg81
 z39 := Tryz.sizeOf81
 v39 := Tryz.zeroValue81
 t45 := Tryz.underlying270
 a45 := Tryz.isAgg270
 z45 := Tryz.sizeOf270
 v45 := Tryz.zeroValue270
 t46 := Tryz.underlying271
 a46 := Tryz.isAgg271
 z46 := Tryz.sizeOf271
 v46 := Tryz.zeroValue271
 t50 := Tryz.underlying221
 a50 := Tryz.isAgg221
 z50 := Tryz.sizeOf221
 v50 := Tryz.zeroValue221
 t53 := Tryz.underlying226
 a53 := Tryz.isAgg226
 z53 := Tryz.sizeOf226
 v53 := Tryz.zeroValue226
 t55 := Tryz.underlying229
 a55 := Tryz.isAgg229
 z55 := Tryz.sizeOf229
 v55 := Tryz.zeroValue229
 t66 := Tryz.underlying279
 a66 := Tryz.isAgg279
 z66 := Tryz.sizeOf279
 v66 := Tryz.zeroValue279
 t70 := Tryz.underlying283
 a70 := Tryz.isAgg283
 z70 := Tryz.sizeOf283
 v70 := Tryz.zeroValue283
 t76 := Tryz.underlying285
 a76 := Tryz.isAgg285
 z76 := Tryz.sizeOf285
 v76 := Tryz.zeroValue285
 t77 := Tryz.underlying286
 a77 := Tryz.isAgg286
 z77 := Tryz.sizeOf286
 v77 := Tryz.zeroValue286 }
def Tryz.laysSlF06_f199_ren : Go.Shelf.Ren := ⟨fun | 6 => 199 | 15 => 209 | 14 => 208 | 28 => 221 | 29 => 222 | 20 => 212 | 21 => 214 | 22 => 215 | 23 => 216 | 24 => 217 | 25 => 218 | 26 => 219 | 27 => 220 | 46 => 226 | 47 => 227 | 48 => 228 | 49 => 229 | 50 => 230 | 57 => 232 | n => n, fun | 22 => 69 | 24 => 34 | 25 => 131 | 3 => 3 | 39 => 81 | 0 => 0 | 53 => 226 | 55 => 229 | 4 => 4 | 46 => 271 | 45 => 270 | 50 => 221 | 5 => 5 | 9 => 9 | 66 => 279 | 70 => 283 | 76 => 285 | 77 => 286 | n => n, fun | n => n⟩
theorem Tryz.laysSlF06_f199 : Go.Proofs.SlLaysF0.n6 Tryz.prog Tryz.laysSlF06_f199_ren := {
 mixed := by kernel_rfl
 f6 := ⟨Tryz.f199.name, by decide, Tryz.func199.trans (congrArg some (by kernel_rfl))⟩
 f14 := ⟨Tryz.f208.name, by decide, Tryz.func208.trans (congrArg some (by kernel_rfl))⟩
 f15 := Tryz.func209.trans (congrArg some (by kernel_rfl))
 f20 := ⟨Tryz.f212.name, by decide, Tryz.func212.trans (congrArg some (by kernel_rfl))⟩
 f21 := ⟨Tryz.f214.name, by decide, Tryz.func214.trans (congrArg some (by kernel_rfl))⟩
 f22 := ⟨Tryz.f215.name, by decide, Tryz.func215.trans (congrArg some (by kernel_rfl))⟩
 f23 := ⟨Tryz.f216.name, by decide, Tryz.func216.trans (congrArg some (by kernel_rfl))⟩
 f24 := ⟨Tryz.f217.name, by decide, Tryz.func217.trans (congrArg some (by kernel_rfl))⟩
 f25 := ⟨Tryz.f218.name, by decide, Tryz.func218.trans (congrArg some (by kernel_rfl))⟩
 f26 := ⟨Tryz.f219.name, by decide, Tryz.func219.trans (congrArg some (by kernel_rfl))⟩
 f27 := ⟨Tryz.f220.name, by decide, Tryz.func220.trans (congrArg some (by kernel_rfl))⟩
 f28 := Tryz.func221.trans (congrArg some (by kernel_rfl))
 f29 := Tryz.func222.trans (congrArg some (by kernel_rfl))
 f46 := ⟨Tryz.f226.name, by decide, Tryz.func226.trans (congrArg some (by kernel_rfl))⟩
 f47 := Tryz.func227.trans (congrArg some (by kernel_rfl))
 f48 := Tryz.func228.trans (congrArg some (by kernel_rfl))
 f49 := ⟨Tryz.f229.name, by decide, Tryz.func229.trans (congrArg some (by kernel_rfl))⟩
 f50 := ⟨Tryz.f230.name, by decide, Tryz.func230.trans (congrArg some (by kernel_rfl))⟩
 f57 := ⟨Tryz.f232.name, by decide, Tryz.func232.trans (congrArg some (by kernel_rfl))⟩
 t0 := Tryz.underlying0
 a0 := Tryz.isAgg0
 z0 := Tryz.sizeOf0
 v0 := Tryz.zeroValue0
 t3 := Tryz.underlying3
 a3 := Tryz.isAgg3
 z3 := Tryz.sizeOf3
 v3 := Tryz.zeroValue3
 t4 := Tryz.underlying4
 a4 := Tryz.isAgg4
 z4 := Tryz.sizeOf4
 v4 := Tryz.zeroValue4
 t5 := Tryz.underlying5
 a5 := Tryz.isAgg5
 z5 := Tryz.sizeOf5
 v5 := Tryz.zeroValue5
 t9 := Tryz.underlying9
 a9 := Tryz.isAgg9
 z9 := Tryz.sizeOf9
 v9 := Tryz.zeroValue9
 t22 := Tryz.underlying69
 a22 := Tryz.isAgg69
 z22 := Tryz.sizeOf69
 v22 := Tryz.zeroValue69
 t25 := Tryz.underlying131
 a25 := Tryz.isAgg131
 z25 := Tryz.sizeOf131
 v25 := Tryz.zeroValue131
 t39 := Tryz.underlying81
 a39 := Tryz.isAgg81
 z39 := Tryz.sizeOf81
 v39 := Tryz.zeroValue81
 t45 := Tryz.underlying270
 a45 := Tryz.isAgg270
 z45 := Tryz.sizeOf270
 v45 := Tryz.zeroValue270
 t46 := Tryz.underlying271
 a46 := Tryz.isAgg271
 z46 := Tryz.sizeOf271
 v46 := Tryz.zeroValue271
 t50 := Tryz.underlying221
 a50 := Tryz.isAgg221
 z50 := Tryz.sizeOf221
 v50 := Tryz.zeroValue221
 t53 := Tryz.underlying226
 a53 := Tryz.isAgg226
 z53 := Tryz.sizeOf226
 v53 := Tryz.zeroValue226
 t55 := Tryz.underlying229
 a55 := Tryz.isAgg229
 z55 := Tryz.sizeOf229
 v55 := Tryz.zeroValue229
 t66 := Tryz.underlying279
 a66 := Tryz.isAgg279
 z66 := Tryz.sizeOf279
 v66 := Tryz.zeroValue279
 t70 := Tryz.underlying283
 a70 := Tryz.isAgg283
 z70 := Tryz.sizeOf283
 v70 := Tryz.zeroValue283
 t76 := Tryz.underlying285
 a76 := Tryz.isAgg285
 z76 := Tryz.sizeOf285
 v76 := Tryz.zeroValue285
 t77 := Tryz.underlying286
 a77 := Tryz.isAgg286
 z77 := Tryz.sizeOf286
 v77 := Tryz.zeroValue286 }
end Go.Proofs
/- The document's answer for join: has, kinds, names. -/
namespace Go.Proofs.YtinnmeiphbdogaaGreat
open Go.RowKit
end Go.Proofs.YtinnmeiphbdogaaGreat
/- The document's answer for join: gB, bound, Check, Vars. -/
namespace Go.Proofs.YtinnmeiphbdogaaGreat
open Go.RowKit
end Go.Proofs.YtinnmeiphbdogaaGreat
/- The document's answer for join: Check, Vars. -/
namespace Go.Proofs.YtinnmeiphbdogaaGreat
open Go.RowKit
end Go.Proofs.YtinnmeiphbdogaaGreat
/- Lists of elements of several cells; rows of one's own and their blocks; appends in a region that draws its order. No program in sight. -/
namespace Go.Proofs.YtinnmeiphbdogaaGreat
open Go.RowKit
theorem flat_get {α : Type} (f : α -> List Value) (k : Nat) (hk : ∀ x, (f x).length = k) : ∀ (L : List α) (i : Nat) (x : α) (c : Nat), L[i]? = some x -> c < k -> (L.flatMap f)[i * k + c]? = (f x)[c]?
 | [], i, x, c, h, _ => by simp at h
 | a :: L, 0, x, c, h, hc => by
  simp at h; subst h
  rw [List.flatMap_cons, Nat.zero_mul, Nat.zero_add, List.getElem?_append_left (by rw [hk]; exact hc)]
 | a :: L, i + 1, x, c, h, hc => by
  rw [List.flatMap_cons, List.getElem?_append_right (by rw [hk, Nat.succ_mul]; omega), hk]
  have := flat_get f k hk L i x c (by simpa using h) hc
  rw [<- this]; congr 1; rw [Nat.succ_mul]; omega
theorem aCl {α : Type} (f : α -> List Value) (k : Nat) (hk : ∀ x, (f x).length = k) (L : List α) : (L.flatMap f).length = L.length * k := by
 induction L with
 | nil => simp
 | cons a L ih => rw [List.flatMap_cons, List.length_append, hk, ih, List.length_cons, Nat.succ_mul]; omega
theorem aKa {w : World} {g : Nat} {cs cs' : List Value} {e e' : TypeId} (h : Blk w g cs e) (h' : Blk w g cs' e') : e = e' := by
 unfold Blk at h h'; rw [h] at h'; injection h' with h'; injection h'
theorem CellsAt.new (w : World) (xs : List Value) (e : TypeId) : CellsAt (w.alloc (.cells xs.toArray e)) (some ⟨w.heap.size, 0, none⟩) xs := CellsAt.pre (rest := []) (by rw [List.append_nil]; exact Blk.new w xs e)
end Go.Proofs.YtinnmeiphbdogaaGreat
/- Rules as cells: terms, literals cell by cell. -/
namespace Go.Proofs.YtinnmeiphbdogaaGreat
open Go.RowKit
def aA4 (t : aH) : List Value := [.int .i64 t.1, .string t.2.1]
def aDl (ts : List aH) : List Value := ts.flatMap aA4
theorem aJ3 : dU Tryz.prog 25 40 8 104 (.agg #[.int .i64 0, .string ⟨#[]⟩, .slice none 0 0, .int .i64 0, .int .i64 0, .string ⟨#[]⟩, .int .i64 0, .string ⟨#[]⟩]) := ⟨by kernel_rfl, by kernel_rfl, rfl, by decide⟩
theorem aJ2 {α : Type} {s : Shp Tryz.prog α} {f : α -> List Value} {w : World} {G : Nat -> Prop} {g : Nat} {xs : List α} {rest : List Value} {e : TypeId} (hf : ∀ x, (f x).length = s.n) (hat : ∀ (i : Nat) x, xs[i]? = some x -> s.At w G (f x) x) (hG : G g) (hB : Blk w g (xs.flatMap f ++ rest) e) : ElemsAt s w G (some ⟨g, 0, none⟩) xs := fun i x hi => by
 refine ⟨g, 0, f x, rfl, hG, hB.lt, hat i x hi, fun c u hu => ?_⟩
 have hc : c < s.n := by rw [<- hf x]; exact (List.getElem?_eq_some_iff.1 hu).1
 have hg := flat_get f s.n hf xs i x c hi hc
 rw [hB.cell', Nat.zero_add, List.getElem?_append_left (by
  have := (List.getElem?_eq_some_iff.1 (hg.trans hu)).1
  exact this), hg, hu]
theorem pV {w : World} {G : Nat -> Prop} {t : aH} (h : gV t) : dJ.At w G (aA4 t) t := ⟨[.int .i64 t.1], [.string t.2.1], rfl, ⟨rfl, h.1⟩, [.string t.2.1], [], rfl, ⟨rfl, h.2⟩, rfl⟩
theorem aGj {w : World} {G : Nat -> Prop} {ao : Option Addr} {ts : List aH} (h : bE w G ao ts) : ∀ t ∈ ts, gV t := fun t ht => by
 obtain ⟨i, hi⟩ := List.mem_iff_getElem?.1 ht
 obtain ⟨b, off, es, e, _, _, ha, _⟩ := h i t hi
 exact iY ha
def nH (x : aO × (Option Addr × Nat)) : List Value := [.int .i64 x.1.1, .string (aX x.1), .slice x.2.1 (aA x.1).length x.2.2, .int .i64 (iI x.1), .int .i64 (leftOf x.1).1, .string (leftOf x.1).2.1, .int .i64 (aR x.1).1, .string (aR x.1).2.1]
theorem qS (x : aO × (Option Addr × Nat)) : (nH x).length = 8 := rfl
structure LitAll (l : aO) : Prop where
 kind : (Lit.int .i64 l.1).wf = true
 pred : (aX l).size ≤ maxLen
 terms : ∀ t ∈ aA l, gV t
 op : (Lit.int .i64 (iI l)).wf = true
 left : gV (leftOf l)
 right : gV (aR l)
theorem aJm {w : World} {G : Nat -> Prop} {ao : Option Addr} {ls : List aO} (h : dN w G ao ls) : ∀ l ∈ ls, LitAll l := fun l hl => by
 obtain ⟨i, hi⟩ := List.mem_iff_getElem?.1 hl
 obtain ⟨b, off, es, e, _, _, ha, _⟩ := h i l hi
 obtain ⟨a1, b1, e1, ⟨e2, k2⟩, ⟨a3, b3, e3, h3, ⟨a4, b4, e4, ⟨e5, k5⟩, ⟨a6, b6, e6, h6, ⟨a7, b7, e7, h7, e8⟩⟩⟩⟩⟩ := ha
 obtain ⟨c1, d1, f1, ⟨f2, g2⟩, ⟨c3, d3, f3, ⟨ao', cap, f4, g1, g3, g4⟩, f5⟩⟩ := h3
 exact ⟨k2, g2, aGj g4, k5, iY h6, iY h7⟩
theorem aL0 {w : World} {G : Nat -> Prop} {l : aO} (h : LitAll l) {a : Option Addr} {cap : Nat} (ht : bE w G a (aA l)) (h1 : (aA l).length ≤ cap) (h2 : cap ≤ maxLen) : jC.At w G (nH (l, (a, cap))) l :=
 ⟨[.int .i64 l.1], _, rfl, ⟨rfl, h.kind⟩, ⟨[.string (aX l), .slice a (aA l).length cap], _, rfl, ⟨[.string (aX l)], _, rfl, ⟨rfl, h.pred⟩, [.slice a (aA l).length cap], [], rfl, ⟨a, cap, rfl, h1, h2, ht⟩, rfl⟩,
   ⟨[.int .i64 (iI l)], _, rfl, ⟨rfl, h.op⟩, ⟨aA4 (leftOf l), _, rfl, pV h.left, ⟨aA4 (aR l), [], rfl, pV h.right, rfl⟩⟩⟩⟩⟩
theorem vN {w : World} {G : Nat -> Prop} {g : Nat} {ls : List aO} {vs : List (Option Addr × Nat)} {rest : List Value} {e : TypeId} (hl : vs.length = ls.length) (hall : ∀ l ∈ ls, LitAll l) (ht : ∀ x ∈ ls.zip vs, bE w G x.2.1 (aA x.1) /\ (aA x.1).length ≤ x.2.2 /\ x.2.2 ≤ maxLen) (hG : G g) (hB : Blk w g ((ls.zip vs).flatMap nH ++ rest) e) : dN w G (some ⟨g, 0, none⟩) ls := fun i l hi => by
 have hv : i < vs.length := by rw [hl]; exact (List.getElem?_eq_some_iff.1 hi).1
 have hz : (ls.zip vs)[i]? = some (l, vs[i]) := by rw [List.getElem?_zip_eq_some]; exact ⟨hi, qG hv⟩
 obtain ⟨t1, t2, t3⟩ := ht _ (List.mem_of_getElem? hz)
 refine ⟨g, 0, nH (l, vs[i]), rfl, hG, hB.lt, aL0 (hall l (List.mem_of_getElem? hi)) t1 t2 t3, fun c u hu => ?_⟩
 have hc : c < 8 := (List.getElem?_eq_some_iff.1 hu).1
 have hg := flat_get nH 8 qS (ls.zip vs) i _ c hz hc
 rw [show jC.n = 8 from rfl, hB.cell', Nat.zero_add, List.getElem?_append_left (List.getElem?_eq_some_iff.1 (hg.trans hu)).1, hg, hu]
theorem aFq : 40 ≠ 27 := by decide
theorem aJn (x : aO × (Option Addr × Nat)) : ∀ u ∈ nH x, u.oneCell' = true := fun u hu => by
 simp [nH] at hu
 rcases hu with rfl | rfl | rfl | rfl | rfl | rfl | rfl | rfl <;> rfl
end Go.Proofs.YtinnmeiphbdogaaGreat
/- The law of joins: num, v, c, blank, pos, neg, cmp, rule. -/
namespace Go.Proofs.YtinnmeiphbdogaaGreat
open Go.RowKit
set_option maxRecDepth 100000 in
theorem rU (k : Int) (w : World) : Calls Tryz.prog 20 #[.int .i64 k] w (RetN w fun w' u => u = .int .i64 k) := by
 go_enter Tryz.func20, Tryz.ntmps20
 go_wp2
 go_ret
 exact RetN.mk (Kp.refl _) rfl
set_option maxRecDepth 100000 in
theorem lI (s : ByteArray) (w : World) : Calls Tryz.prog 29 #[.string s] w (RetN w fun w' u => u = .agg #[.int .i64 1, .string s]) := by
 obtain ⟨g0, eg0⟩ : ∃ g, w.heap.size = g := ⟨_, rfl⟩
 obtain ⟨wb, eb⟩ : ∃ wb, (w.alloc (.cells #[.int .i64 0, .string ⟨#[]⟩] 38)) = wb := ⟨_, rfl⟩
 have hB : Blk wb (g0) [.int .i64 0, .string ⟨#[]⟩] 38 := by rw [<- eb, <- eg0]; exact Blk.new w _ _
 have HX := qH (show Ext w wb by rw [<- eb]; exact ((Kp.refl w).alloc _))
 have HB := qH (And.intro hB eg0)
 have f0 := hB.free 0
 have u0 : wb.cell? ⟨g0, 0, none⟩ = some (.int .i64 0) := by rw [hB.cell']; rfl
 have f1 := hB.free 1
 have u1 : wb.cell? ⟨g0, 1, none⟩ = some (.string ⟨#[]⟩) := by rw [hB.cell']; rfl
 clear hB
 go_enter Tryz.func29, Tryz.ntmps29
 go_wp2
 obtain ⟨W, eW⟩ : ∃ x, ((wb.setCell ⟨g0, 0, none⟩ (.int .i64 1)).setCell ⟨g0, 1, none⟩ (.string s)) = x := ⟨_, rfl⟩
 have hBW : Blk W (g0) [.int .i64 1, .string s] 38 := by rw [<- eW]; exact ((HB.out.1.set 0 _).set 1 _)
 have kW : Kp (fun k => k = g0) wb W := by rw [<- eW]; exact (Kp.setCell (F := fun k => k = g0) (p := ⟨g0, 1, none⟩) (Kp.setCell (F := fun k => k = g0) (p := ⟨g0, 0, none⟩) (Kp.refl wb) (fun _ => rfl) _) (fun _ => rfl) _)
 have d0 : W.cell? ⟨g0, 0, none⟩ = some (.int .i64 1) := by rw [hBW.cell']; rfl
 have d1 : W.cell? ⟨g0, 1, none⟩ = some (.string s) := by rw [hBW.cell']; rfl
 rw [eW]
 refine bodyPost_ret (v := .agg #[.int .i64 1, .string s]) (by simp [results, Tryz.results29, go_sem, d0, d1]) rfl ?_
 exact RetN.mk (HX.out.trans' kW fun i hi e => by have := HB.out.2; omega) rfl
set_option maxRecDepth 100000 in
theorem xY (p : ByteArray) (a : Option Addr) (n c : Nat) (w : World) : Calls Tryz.prog 31 #[.string p, .slice a n c] w (RetN w fun w' u => u = .agg #[.int .i64 1, .string p, .slice a n c, .int .i64 0, .int .i64 0, .string ⟨#[]⟩, .int .i64 0, .string ⟨#[]⟩]) := by
 obtain ⟨g0, eg0⟩ : ∃ g, w.heap.size = g := ⟨_, rfl⟩
 obtain ⟨wb, eb⟩ : ∃ wb, (w.alloc (.cells #[.int .i64 0, .string ⟨#[]⟩, .slice none 0 0, .int .i64 0, .int .i64 0, .string ⟨#[]⟩, .int .i64 0, .string ⟨#[]⟩] 40)) = wb := ⟨_, rfl⟩
 have hB : Blk wb (g0) [.int .i64 0, .string ⟨#[]⟩, .slice none 0 0, .int .i64 0, .int .i64 0, .string ⟨#[]⟩, .int .i64 0, .string ⟨#[]⟩] 40 := by rw [<- eb, <- eg0]; exact Blk.new w _ _
 have HX := qH (show Ext w wb by rw [<- eb]; exact ((Kp.refl w).alloc _))
 have HB := qH (And.intro hB eg0)
 have f0 := hB.free 0
 have u0 : wb.cell? ⟨g0, 0, none⟩ = some (.int .i64 0) := by rw [hB.cell']; rfl
 have f1 := hB.free 1
 have u1 : wb.cell? ⟨g0, 1, none⟩ = some (.string ⟨#[]⟩) := by rw [hB.cell']; rfl
 have f2 := hB.free 2
 have u2 : wb.cell? ⟨g0, 2, none⟩ = some (.slice none 0 0) := by rw [hB.cell']; rfl
 have f3 := hB.free 3
 have u3 : wb.cell? ⟨g0, 3, none⟩ = some (.int .i64 0) := by rw [hB.cell']; rfl
 have f4 := hB.free 4
 have u4 : wb.cell? ⟨g0, 4, none⟩ = some (.int .i64 0) := by rw [hB.cell']; rfl
 have f5 := hB.free 5
 have u5 : wb.cell? ⟨g0, 5, none⟩ = some (.string ⟨#[]⟩) := by rw [hB.cell']; rfl
 have f6 := hB.free 6
 have u6 : wb.cell? ⟨g0, 6, none⟩ = some (.int .i64 0) := by rw [hB.cell']; rfl
 have f7 := hB.free 7
 have u7 : wb.cell? ⟨g0, 7, none⟩ = some (.string ⟨#[]⟩) := by rw [hB.cell']; rfl
 clear hB
 go_enter Tryz.func31, Tryz.ntmps31
 go_wp2
 obtain ⟨W, eW⟩ : ∃ x, ((((((((wb.setCell ⟨g0, 0, none⟩ (.int .i64 1)).setCell ⟨g0, 1, none⟩ (.string p)).setCell ⟨g0, 2, none⟩ (.slice a n c)).setCell ⟨g0, 3, none⟩ (.int .i64 0)).setCell ⟨g0, 4, none⟩ (.int .i64 0)).setCell ⟨g0, 5, none⟩ (.string ⟨#[]⟩)).setCell ⟨g0, 6, none⟩ (.int .i64 0)).setCell ⟨g0, 7, none⟩ (.string ⟨#[]⟩)) = x := ⟨_, rfl⟩
 have hBW : Blk W (g0) [.int .i64 1, .string p, .slice a n c, .int .i64 0, .int .i64 0, .string ⟨#[]⟩, .int .i64 0, .string ⟨#[]⟩] 40 := by rw [<- eW]; exact ((((((((HB.out.1.set 0 _).set 1 _).set 2 _).set 3 _).set 4 _).set 5 _).set 6 _).set 7 _)
 have kW : Kp (fun k => k = g0) wb W := by rw [<- eW]; exact (Kp.setCell (F := fun k => k = g0) (p := ⟨g0, 7, none⟩) (Kp.setCell (F := fun k => k = g0) (p := ⟨g0, 6, none⟩) (Kp.setCell (F := fun k => k = g0) (p := ⟨g0, 5, none⟩) (Kp.setCell (F := fun k => k = g0) (p := ⟨g0, 4, none⟩) (Kp.setCell (F := fun k => k = g0) (p := ⟨g0, 3, none⟩) (Kp.setCell (F := fun k => k = g0) (p := ⟨g0, 2, none⟩) (Kp.setCell (F := fun k => k = g0) (p := ⟨g0, 1, none⟩) (Kp.setCell (F := fun k => k = g0) (p := ⟨g0, 0, none⟩) (Kp.refl wb) (fun _ => rfl) _) (fun _ => rfl) _) (fun _ => rfl) _) (fun _ => rfl) _) (fun _ => rfl) _) (fun _ => rfl) _) (fun _ => rfl) _) (fun _ => rfl) _)
 have d0 : W.cell? ⟨g0, 0, none⟩ = some (.int .i64 1) := by rw [hBW.cell']; rfl
 have d1 : W.cell? ⟨g0, 1, none⟩ = some (.string p) := by rw [hBW.cell']; rfl
 have d2 : W.cell? ⟨g0, 2, none⟩ = some (.slice a n c) := by rw [hBW.cell']; rfl
 have d3 : W.cell? ⟨g0, 3, none⟩ = some (.int .i64 0) := by rw [hBW.cell']; rfl
 have d4 : W.cell? ⟨g0, 4, none⟩ = some (.int .i64 0) := by rw [hBW.cell']; rfl
 have d5 : W.cell? ⟨g0, 5, none⟩ = some (.string ⟨#[]⟩) := by rw [hBW.cell']; rfl
 have d6 : W.cell? ⟨g0, 6, none⟩ = some (.int .i64 0) := by rw [hBW.cell']; rfl
 have d7 : W.cell? ⟨g0, 7, none⟩ = some (.string ⟨#[]⟩) := by rw [hBW.cell']; rfl
 rw [eW]
 refine bodyPost_ret (v := .agg #[.int .i64 1, .string p, .slice a n c, .int .i64 0, .int .i64 0, .string ⟨#[]⟩, .int .i64 0, .string ⟨#[]⟩]) (by simp [results, Tryz.results31, go_sem, d0, d1, d2, d3, d4, d5, d6, d7]) rfl ?_
 exact RetN.mk (HX.out.trans' kW fun i hi e => by have := HB.out.2; omega) rfl
set_option maxRecDepth 100000 in
theorem aG2 (p : ByteArray) (a : Option Addr) (n c : Nat) (w : World) : Calls Tryz.prog 32 #[.string p, .slice a n c] w (RetN w fun w' u => u = .agg #[.int .i64 2, .string p, .slice a n c, .int .i64 0, .int .i64 0, .string ⟨#[]⟩, .int .i64 0, .string ⟨#[]⟩]) := by
 obtain ⟨g0, eg0⟩ : ∃ g, w.heap.size = g := ⟨_, rfl⟩
 obtain ⟨wb, eb⟩ : ∃ wb, (w.alloc (.cells #[.int .i64 0, .string ⟨#[]⟩, .slice none 0 0, .int .i64 0, .int .i64 0, .string ⟨#[]⟩, .int .i64 0, .string ⟨#[]⟩] 40)) = wb := ⟨_, rfl⟩
 have hB : Blk wb (g0) [.int .i64 0, .string ⟨#[]⟩, .slice none 0 0, .int .i64 0, .int .i64 0, .string ⟨#[]⟩, .int .i64 0, .string ⟨#[]⟩] 40 := by rw [<- eb, <- eg0]; exact Blk.new w _ _
 have HX := qH (show Ext w wb by rw [<- eb]; exact ((Kp.refl w).alloc _))
 have HB := qH (And.intro hB eg0)
 have f0 := hB.free 0
 have u0 : wb.cell? ⟨g0, 0, none⟩ = some (.int .i64 0) := by rw [hB.cell']; rfl
 have f1 := hB.free 1
 have u1 : wb.cell? ⟨g0, 1, none⟩ = some (.string ⟨#[]⟩) := by rw [hB.cell']; rfl
 have f2 := hB.free 2
 have u2 : wb.cell? ⟨g0, 2, none⟩ = some (.slice none 0 0) := by rw [hB.cell']; rfl
 have f3 := hB.free 3
 have u3 : wb.cell? ⟨g0, 3, none⟩ = some (.int .i64 0) := by rw [hB.cell']; rfl
 have f4 := hB.free 4
 have u4 : wb.cell? ⟨g0, 4, none⟩ = some (.int .i64 0) := by rw [hB.cell']; rfl
 have f5 := hB.free 5
 have u5 : wb.cell? ⟨g0, 5, none⟩ = some (.string ⟨#[]⟩) := by rw [hB.cell']; rfl
 have f6 := hB.free 6
 have u6 : wb.cell? ⟨g0, 6, none⟩ = some (.int .i64 0) := by rw [hB.cell']; rfl
 have f7 := hB.free 7
 have u7 : wb.cell? ⟨g0, 7, none⟩ = some (.string ⟨#[]⟩) := by rw [hB.cell']; rfl
 clear hB
 go_enter Tryz.func32, Tryz.ntmps32
 go_wp2
 obtain ⟨W, eW⟩ : ∃ x, ((((((((wb.setCell ⟨g0, 0, none⟩ (.int .i64 2)).setCell ⟨g0, 1, none⟩ (.string p)).setCell ⟨g0, 2, none⟩ (.slice a n c)).setCell ⟨g0, 3, none⟩ (.int .i64 0)).setCell ⟨g0, 4, none⟩ (.int .i64 0)).setCell ⟨g0, 5, none⟩ (.string ⟨#[]⟩)).setCell ⟨g0, 6, none⟩ (.int .i64 0)).setCell ⟨g0, 7, none⟩ (.string ⟨#[]⟩)) = x := ⟨_, rfl⟩
 have hBW : Blk W (g0) [.int .i64 2, .string p, .slice a n c, .int .i64 0, .int .i64 0, .string ⟨#[]⟩, .int .i64 0, .string ⟨#[]⟩] 40 := by rw [<- eW]; exact ((((((((HB.out.1.set 0 _).set 1 _).set 2 _).set 3 _).set 4 _).set 5 _).set 6 _).set 7 _)
 have kW : Kp (fun k => k = g0) wb W := by rw [<- eW]; exact (Kp.setCell (F := fun k => k = g0) (p := ⟨g0, 7, none⟩) (Kp.setCell (F := fun k => k = g0) (p := ⟨g0, 6, none⟩) (Kp.setCell (F := fun k => k = g0) (p := ⟨g0, 5, none⟩) (Kp.setCell (F := fun k => k = g0) (p := ⟨g0, 4, none⟩) (Kp.setCell (F := fun k => k = g0) (p := ⟨g0, 3, none⟩) (Kp.setCell (F := fun k => k = g0) (p := ⟨g0, 2, none⟩) (Kp.setCell (F := fun k => k = g0) (p := ⟨g0, 1, none⟩) (Kp.setCell (F := fun k => k = g0) (p := ⟨g0, 0, none⟩) (Kp.refl wb) (fun _ => rfl) _) (fun _ => rfl) _) (fun _ => rfl) _) (fun _ => rfl) _) (fun _ => rfl) _) (fun _ => rfl) _) (fun _ => rfl) _) (fun _ => rfl) _)
 have d0 : W.cell? ⟨g0, 0, none⟩ = some (.int .i64 2) := by rw [hBW.cell']; rfl
 have d1 : W.cell? ⟨g0, 1, none⟩ = some (.string p) := by rw [hBW.cell']; rfl
 have d2 : W.cell? ⟨g0, 2, none⟩ = some (.slice a n c) := by rw [hBW.cell']; rfl
 have d3 : W.cell? ⟨g0, 3, none⟩ = some (.int .i64 0) := by rw [hBW.cell']; rfl
 have d4 : W.cell? ⟨g0, 4, none⟩ = some (.int .i64 0) := by rw [hBW.cell']; rfl
 have d5 : W.cell? ⟨g0, 5, none⟩ = some (.string ⟨#[]⟩) := by rw [hBW.cell']; rfl
 have d6 : W.cell? ⟨g0, 6, none⟩ = some (.int .i64 0) := by rw [hBW.cell']; rfl
 have d7 : W.cell? ⟨g0, 7, none⟩ = some (.string ⟨#[]⟩) := by rw [hBW.cell']; rfl
 rw [eW]
 refine bodyPost_ret (v := .agg #[.int .i64 2, .string p, .slice a n c, .int .i64 0, .int .i64 0, .string ⟨#[]⟩, .int .i64 0, .string ⟨#[]⟩]) (by simp [results, Tryz.results32, go_sem, d0, d1, d2, d3, d4, d5, d6, d7]) rfl ?_
 exact RetN.mk (HX.out.trans' kW fun i hi e => by have := HB.out.2; omega) rfl
set_option maxRecDepth 100000 in
theorem aDp (ha ba : Option Addr) (hn hc n c : Nat) (w : World) : Calls Tryz.prog 30 #[.slice ha hn hc, .slice ba n c] w (RetN w fun w' u => u = eS ⟨#[116]⟩ ha hn hc ba n c) := by
 obtain ⟨g0, eg0⟩ : ∃ g, w.heap.size = g := ⟨_, rfl⟩
 obtain ⟨wb, eb⟩ : ∃ wb, (w.alloc (.cells #[.string ⟨#[]⟩, .slice none 0 0, .slice none 0 0] 27)) = wb := ⟨_, rfl⟩
 have hB : Blk wb (g0) [.string ⟨#[]⟩, .slice none 0 0, .slice none 0 0] 27 := by rw [<- eb, <- eg0]; exact Blk.new w _ _
 have HX := qH (show Ext w wb by rw [<- eb]; exact ((Kp.refl w).alloc _))
 have HB := qH (And.intro hB eg0)
 have f0 := hB.free 0
 have u0 : wb.cell? ⟨g0, 0, none⟩ = some (.string ⟨#[]⟩) := by rw [hB.cell']; rfl
 have f1 := hB.free 1
 have u1 : wb.cell? ⟨g0, 1, none⟩ = some (.slice none 0 0) := by rw [hB.cell']; rfl
 have f2 := hB.free 2
 have u2 : wb.cell? ⟨g0, 2, none⟩ = some (.slice none 0 0) := by rw [hB.cell']; rfl
 clear hB
 go_enter Tryz.func30, Tryz.ntmps30
 go_wp2
 obtain ⟨W, eW⟩ : ∃ x, (((wb.setCell ⟨g0, 0, none⟩ (.string ⟨#[116]⟩)).setCell ⟨g0, 1, none⟩ (.slice ha hn hc)).setCell ⟨g0, 2, none⟩ (.slice ba n c)) = x := ⟨_, rfl⟩
 have hBW : Blk W (g0) [.string ⟨#[116]⟩, .slice ha hn hc, .slice ba n c] 27 := by rw [<- eW]; exact (((HB.out.1.set 0 _).set 1 _).set 2 _)
 have kW : Kp (fun k => k = g0) wb W := by rw [<- eW]; exact (Kp.setCell (F := fun k => k = g0) (p := ⟨g0, 2, none⟩) (Kp.setCell (F := fun k => k = g0) (p := ⟨g0, 1, none⟩) (Kp.setCell (F := fun k => k = g0) (p := ⟨g0, 0, none⟩) (Kp.refl wb) (fun _ => rfl) _) (fun _ => rfl) _) (fun _ => rfl) _)
 have d0 : W.cell? ⟨g0, 0, none⟩ = some (.string ⟨#[116]⟩) := by rw [hBW.cell']; rfl
 have d1 : W.cell? ⟨g0, 1, none⟩ = some (.slice ha hn hc) := by rw [hBW.cell']; rfl
 have d2 : W.cell? ⟨g0, 2, none⟩ = some (.slice ba n c) := by rw [hBW.cell']; rfl
 rw [eW]
 refine bodyPost_ret (v := eS ⟨#[116]⟩ ha hn hc ba n c) (by simp [results, Tryz.results30, go_sem, d0, d1, d2]) rfl ?_
 exact RetN.mk (HX.out.trans' kW fun i hi e => by have := HB.out.2; omega) rfl
end Go.Proofs.YtinnmeiphbdogaaGreat
/- A region that draws its order, walked in the text's order, guards and all: the laws beneath the lines that takes.py prints. No program in sight. -/
namespace Go.Proofs.YtinnmeiphbdogaaGreat
section
variable {P : Program} {l : List Oper} {Q : Exit -> Act -> World -> Prop} {md : Region.Mode} {S : World -> Prop} {fuel : Nat} {listed : Array Bool} {a : Act} {w : World}
end
end Go.Proofs.YtinnmeiphbdogaaGreat
/- Ranges over maps whose keys are texts and whose elements may be anything. No program in sight but for its types. -/
namespace Go.Proofs.YtinnmeiphbdogaaGreat
open Go.RowKit Go.Maps
open Go.WideElems (Fit rd rg rd_mk rg_of)
def pA : Value -> Option (DataW Value × List MemPlace) := fun v => some (.held v, [])
abbrev kH (s : ByteArray) : Lit := .string s.data.toList
theorem aA7 {a b : ByteArray} (h : kH a = kH b) : a = b := by
 have h1 : a.data.toList = b.data.toList := by injection h
 exact ByteArray.ext (Array.toList_inj.1 h1)
structure MapD (m : List (ByteArray × Value)) (D : DataW Value) : Prop where
 at_ : ∀ p ∈ m, ∀ zd, D.atKey (kH p.1) zd = .held p.2
 has : ∀ p ∈ m, Maps.has D (kH p.1) = true
 key : ∀ x c, (∀ zd, D.atKey (kH x) zd = .held c) -> (x, c) ∈ m
 size : Maps.size D = m.length
set_option maxRecDepth 10000 in
theorem aK6 {w : World} {r : Nat} {m : List (ByteArray × Value)} (hm : MapIs w r m) (hk : ∀ p ∈ m, p.1.size ≤ maxLen) (hl : m.length ≤ maxLen) :
 ∃ D : DataW Value, w.ownsMap Tryz.prog 9 pA r m.length D /\ MapD m D := by
 have hnd : (m.map (·.1)).Nodup := by obtain ⟨_, _, _, _, h, _⟩ := hm; exact h
 obtain ⟨es, c, h1, h2, h3, h4⟩ := hm
 have hlen : es.size = m.length := by simpa using congrArg List.length h2
 have hrd : ∀ x ∈ es.toList, ∃ p ∈ m, x.key = .string p.1 /\ x.val = p.2 /\ rd Tryz.prog 9 pA x = some (kH p.1, .held p.2) := fun x hx => by
  have h5 : (x.key, x.val) ∈ es.toList.map (fun e => (e.key, e.val)) := List.mem_map.2 ⟨x, hx, rfl⟩
  rw [h2] at h5
  obtain ⟨p, hp, e⟩ := List.mem_map.1 h5
  have e1 : x.key = .string p.1 := (congrArg Prod.fst e).symm
  have e2 : x.val = p.2 := (congrArg Prod.snd e).symm
  refine ⟨p, hp, e1, e2, ?_⟩
  have hkey : keyOf Tryz.prog 9 x.key = some (kH p.1) := by
   rw [e1]
   simp [keyOf, mapKey, Tryz.underlying9, hk p hp]
  have := rd_mk (P := Tryz.prog) (k := 9) (R := pA) (born := x.born) (val := x.val) hkey rfl
  rw [e2] at this
  rw [<- this]
  show rd _ _ _ x = rd _ _ _ ⟨x.key, p.2, x.born⟩
  rw [<- e2]
 have hfit : Go.WideElems.Fit Tryz.prog 9 pA es c := ⟨by omega, h4, fun x hx => by
  obtain ⟨p, _, _, _, h⟩ := hrd x hx
  exact ⟨_, h⟩⟩
 have hown : w.ownsMap Tryz.prog 9 pA r m.length (.map ((es.toList.map (rg Tryz.prog 9 pA)).foldr DataW.insert [])) := ⟨es, c, h1, hfit, by omega, rfl⟩
 obtain ⟨ents, hD, hpw, hkl⟩ := hown.entries (string_keyed Tryz.underlying9)
 have he : (es.toList.map (rg Tryz.prog 9 pA)).foldr DataW.insert [] = ents := by simpa using hD
 have hmem : ∀ l d, (l, d) ∈ ents ↔ ∃ p ∈ m, l = kH p.1 /\ d = .held p.2 := fun l d => by
  rw [<- he, mem_sorted, List.mem_map]
  constructor
  ·rintro ⟨x, hx, e⟩
   obtain ⟨p, hp, _, _, h⟩ := hrd x hx
   rw [rg_of h] at e
   cases e
   exact ⟨p, hp, rfl, rfl⟩
  ·rintro ⟨p, hp, rfl, rfl⟩
   have h6 : (Value.string p.1, p.2) ∈ es.toList.map (fun e => (e.key, e.val)) := by rw [h2]; exact List.mem_map.2 ⟨p, hp, rfl⟩
   obtain ⟨x, hx, e⟩ := List.mem_map.1 h6
   obtain ⟨p', hp', e1, e2, h⟩ := hrd x hx
   refine ⟨x, hx, ?_⟩
   rw [rg_of h]
   have e3 : x.key = .string p.1 := congrArg Prod.fst e
   have e4 : x.val = p.2 := congrArg Prod.snd e
   rw [e1] at e3
   rw [e2] at e4
   injection e3 with e3
   rw [e3, e4]
 refine ⟨.map ents, by rw [<- he]; exact hown, ?_⟩
 have hat : ∀ p ∈ m, ∀ zd, (DataW.map ents).atKey (kH p.1) zd = .held p.2 := fun p hp zd => by
  have h7 := (hmem (kH p.1) (.held p.2)).2 ⟨p, hp, rfl, rfl⟩
  exact WideAt.atKey_mem zd (hkl _ h7) hpw h7
 refine ⟨hat, fun p hp => has_true_of_atKey (hat p hp), fun x c hx => ?_, ?_⟩
 rotate_left
 ·show ents.length = _
  rw [<- he, (WideShapes.sorted_perm _).length_eq, List.length_map, Array.length_toList]; exact hlen
 by_cases hin : ∃ p ∈ m, p.1 = x
 ·obtain ⟨p, hp, rfl⟩ := hin
  have h8 := (hat p hp .nil).symm.trans (hx .nil)
  injection h8 with h8
  rw [<- h8]; exact hp
 ·have h9 := WideAt.atKey_none (entries := ents) (k := kH x) .nil fun q hq e => by
   obtain ⟨p, hp, e1, _⟩ := (hmem q.1 q.2).1 hq
   exact hin ⟨p, hp, aA7 (by rw [<- e1, e])⟩
  cases h9.symm.trans (hx .nil)
theorem keyV {key : Value} {kl : Lit} (h : keyOf Tryz.prog 9 key = some kl) : ∃ x, key = .string x /\ kl = kH x := by
 cases key <;> simp [keyOf, Tryz.underlying9, mapKey] at h
 rename_i s
 exact ⟨s, rfl, h.2.symm⟩
end Go.Proofs.YtinnmeiphbdogaaGreat
/- A rule, a binding that come in: not too big. -/
namespace Go.Proofs.YtinnmeiphbdogaaGreat
open Go.RowKit
theorem aIy {r : cO} (hb : kI.bulk r ≤ 1048576) : r.1.2.1.length ≤ 1048576 /\ Fit r.2.1 := by
 have e : kI.bulk r = (mP.bulk r.1 + ((dK jC.bulk r.2.1 + 1) + 0)) + 1 := rfl
 have ea : ∀ a : aGc, mP.bulk a = ((a.1.size + 1) + ((dK dJ.bulk a.2.1 + 1) + 0)) + 1 := fun _ => rfl
 have el : ∀ l : aO, jC.bulk l = (1 + (mP.bulk l.2.1 + (1 + (dJ.bulk l.2.2.2.1 + (dJ.bulk l.2.2.2.2.1 + 0))))) + 1 := fun _ => rfl
 have et : ∀ ts : List aH, ts.length ≤ dK dJ.bulk ts := fun ts => gR dJ.bulk (fun t => by show 1 ≤ _ + 1; omega) ts
 have h1 := ea r.1
 have h2 := et r.1.2.1
 have h3 := gR jC.bulk (fun l => by show 1 ≤ _ + 1; omega) r.2.1
 refine ⟨by omega, by omega, fun l hl => ?_⟩
 have h4 := oQ jC.bulk hl
 have h5 := el l
 have h6 := ea l.2.1
 have h7 := et (aA l)
 have h8 : dK dJ.bulk (aA l) = dK dJ.bulk l.2.1.2.1 := rfl
 omega
theorem aAq (a : List ByteArray) (t : aH) : (bK a t).length ≤ a.length + 1 := by
 unfold bK
 split
 ·rw [List.length_append]; exact Nat.le_refl _
 ·exact Nat.le_succ _
theorem sU : ∀ (ts : List aH) (a : List ByteArray), (cQ a ts).length ≤ a.length + ts.length
 | [], a => Nat.le_refl _
 | t :: ts, a => by
  have h1 := sU ts (bK a t)
  have h2 := aAq a t
  show (cQ (bK a t) ts).length ≤ _
  rw [List.length_cons]; omega
theorem sV : ∀ (ls : List aO) (a : List ByteArray), (ls.foldl bV a).length ≤ a.length + dK jC.bulk ls
 | [], a => Nat.le_refl _
 | l :: ls, a => by
  have h1 := sV ls (bV a l)
  have h2 : (bV a l).length ≤ a.length + (aA l).length := by
   unfold bV
   split
   ·exact sU _ _
   ·exact Nat.le_add_right _ _
  have h3 : (aA l).length ≤ jC.bulk l := by
   have el : jC.bulk l = (1 + (mP.bulk l.2.1 + (1 + (dJ.bulk l.2.2.2.1 + (dJ.bulk l.2.2.2.2.1 + 0))))) + 1 := rfl
   have ea : mP.bulk l.2.1 = ((l.2.1.1.size + 1) + ((dK dJ.bulk l.2.1.2.1 + 1) + 0)) + 1 := rfl
   have et : (aA l).length ≤ dK dJ.bulk l.2.1.2.1 := gR dJ.bulk (fun t => by show 1 ≤ _ + 1; omega) _
   omega
  rw [lZ]
  show (ls.foldl bV (bV a l)).length ≤ _
  omega
theorem aG5 {r : cO} (hb : kI.bulk r ≤ 1048576) : (aB r.2.1).length ≤ 1048576 := by
 have e : kI.bulk r = (mP.bulk r.1 + ((dK jC.bulk r.2.1 + 1) + 0)) + 1 := rfl
 have h1 := sV r.2.1 []
 have h2 : (aB r.2.1).length ≤ 0 + dK jC.bulk r.2.1 := h1
 omega
end Go.Proofs.YtinnmeiphbdogaaGreat
/- slices at []string: swapRangeCmpFunc and rotateCmpFunc: what they do to a row of cells. -/
namespace Go.Proofs.YtinnmeiphbdogaaGreat
open Go.RowKit
def aJ (z : Nat -> Option Addr × Nat × Nat) (i : Nat) : Value := (Value.slice (z (i)).1 (z (i)).2.1 (z (i)).2.2)
set_option maxHeartbeats 1000000 in
theorem rO (z : Nat -> Option Addr × Nat × Nat) (g n cap : Nat) (rest : List Value) (fv : Value) (w0 w : World) (hk0 : Kp (fun k => k = g) w0 w) (p X M Y q : List Nat) (hXY : X.length = Y.length)
 (hn : (p ++ X ++ M ++ Y ++ q).length = n) (hB : Blk w g ((p ++ X ++ M ++ Y ++ q).map (aJ z) ++ rest) 34) (hm : n ≤ 4611686018427387904) (a b m : Nat) (ea : a = p.length) (eb : b = (p.length + X.length + M.length : Nat)) (em : m = X.length) :
 Calls Tryz.prog 231 #[.slice (some ⟨g, 0, none⟩) n cap, .int .i64 a, .int .i64 b, .int .i64 m, fv] w
  (RetF (fun k => k = g) w0 fun w' v => v = .tuple #[] /\ Blk w' g ((p ++ Y ++ M ++ X ++ q).map (aJ z) ++ rest) 34) := by
 simp only [List.length_append] at hn
 have b1 : a ≤ n := by omega
 have b2 : b + m ≤ n := by omega
 have b3 : a + m ≤ b := by omega
 have HX := qH hXY; clear hXY
 have HN := qH hn; clear hn
 have EA := qH ea; clear ea
 have EB := qH eb; clear eb
 have EM := qH em; clear em
 go_enter Tryz.func231, Tryz.ntmps231
 go_wp2
 go_loopw [10] (fun i wr => ∃ (k : Nat) (X1 X2 Y1 Y2 : List Nat), Hid (X = X1 ++ X2 /\ Y = Y1 ++ Y2 /\ X1.length = k /\ Y1.length = k) /\ k ≤ m /\ i = .int .i64 k /\ Kp (fun k => k = g) w0 wr /\ Hid (Blk wr g ((p ++ Y1 ++ X2 ++ M ++ X1 ++ Y2 ++ q).map (aJ z) ++ rest) 34)) (fun i _ => m - (intOf i).toNat)
 case atStart => exact ⟨0, [], X, [], Y, ⟨rfl, rfl, rfl, rfl⟩, Nat.zero_le _, rfl, hk0, by show Blk _ _ _ _; simpa using hB⟩
 case round =>
  obtain ⟨k, X1, X2, Y1, Y2, HH, hkm, rfl, hkp, hb⟩ := hrel
  by_cases hlt : k < m
  ·have key : ∃ x y X2' Y2', X2 = x :: X2' /\ Y2 = y :: Y2' /\ X2'.length + k + 1 = m := by
    obtain ⟨rfl, rfl, h3, h4⟩ := HH.out
    have h5 := EM.out; have h6 := HX.out
    simp only [List.length_append] at h5 h6
    cases X2 with
    | nil => simp at h5; omega
    | cons x X2 =>
     cases Y2 with
     | nil => simp at h6; simp at h5; omega
     | cons y Y2 => exact ⟨x, y, X2, Y2, rfl, rfl, by simp at h5; omega⟩
   obtain ⟨x, y, X2', Y2', rfl, rfl, hl2⟩ := key
   obtain ⟨s1, s2, c1, c2⟩ := kK (u := p ++ Y1) (v := X2' ++ M ++ X1) (t := Y2' ++ q) (x := x) (y := y) (i := a + k) (j := b + k) (by simpa using hb.out) (by
    have := EA.out; have := HH.out.2.2.2; simp; omega) (by
    have := EA.out; have := EB.out; have := EM.out; have := HH.out.2.2; simp; omega)
   have f1 := hb.out.free (a + k)
   have f2 := hb.out.free (b + k)
   have S1 := qH s1; have S2 := qH s2
   clear s1 s2
   unfold aJ at c1 c2
   have hne : ¬ (a + k = b + k) := by omega
   have hne' : ¬ (b + k = a + k) := by omega
   have HL2 := qH hl2; clear hl2
   obtain ⟨i1, i2, i3, i4⟩ := yM (a := a) (b := k) (n := n) (by omega) hm
   obtain ⟨j1, j2, j3, j4⟩ := yM (a := b) (b := k) (n := n) (by omega) hm
   go_wp2
   go_region
   clear i1 i2 i3 i4 j1 j2 j3 j4
   go_wp2
   go_roundw
   case rel =>
    refine ⟨k + 1, X1 ++ [x], X2', Y1 ++ [y], Y2', ⟨?_, ?_, ?_, ?_⟩, by omega, by go_num, ?_, ?_⟩
    ·simpa using HH.out.1
    ·simpa using HH.out.2.1
    ·simpa using HH.out.2.2.1
    ·simpa using HH.out.2.2.2
    ·exact ((hkp.setCell (fun _ => rfl) _).setCell (fun _ => rfl) _).drew
    ·exact S1.out.drew.congrL (by simp)
   case measure => simp [intOf]; omega
  ·have key : X2 = [] /\ Y2 = [] := by
    obtain ⟨rfl, rfl, h3, h4⟩ := HH.out
    have h5 := EM.out; have h6 := HX.out
    simp only [List.length_append] at h5 h6
    exact ⟨List.eq_nil_of_length_eq_zero (by omega), List.eq_nil_of_length_eq_zero (by omega)⟩
   obtain ⟨rfl, rfl⟩ := key
   go_wp2
   go_end0
   refine RetF.mk hkp ⟨rfl, ?_⟩
   obtain ⟨h1, h2, _, _⟩ := HH.out
   have h3 := hb.out
   rw [h1, h2]
   simpa using h3
theorem gM (z : Nat -> Option Addr × Nat × Nat) (g n cap : Nat) (rest : List Value) (fv : Value) (w0 w : World) (hk0 : Kp (fun k => k = g) w0 w) (p X M Y q : List Nat) (hXY : X.length = Y.length)
 (hn : (p ++ X ++ M ++ Y ++ q).length = n) (hB : Blk w g ((p ++ X ++ M ++ Y ++ q).map (aJ z) ++ rest) 34) (hm : n ≤ 4611686018427387904) (a b m : Int) (ea : a = (p.length : Nat)) (eb : b = (p.length + X.length + M.length : Nat)) (em : m = (X.length : Nat)) :
 Calls Tryz.prog 231 #[.slice (some ⟨g, 0, none⟩) n cap, .int .i64 a, .int .i64 b, .int .i64 m, fv] w
  (RetF (fun k => k = g) w0 fun w' v => v = .tuple #[] /\ Blk w' g ((p ++ Y ++ M ++ X ++ q).map (aJ z) ++ rest) 34) := by
 subst ea eb em
 exact rO z g n cap rest fv w0 w hk0 p X M Y q hXY hn hB hm _ _ _ rfl rfl rfl
set_option maxHeartbeats 1000000 in
theorem wZ (z : Nat -> Option Addr × Nat × Nat) (g n cap : Nat) (rest : List Value) (fv : Value) (w0 w : World) (hk0 : Kp (fun k => k = g) w0 w) (p X Y q : List Nat) (hX : X ≠ []) (hY : Y ≠ [])
 (hn : (p ++ X ++ Y ++ q).length = n) (hB : Blk w g ((p ++ X ++ Y ++ q).map (aJ z) ++ rest) 34) (hm : n ≤ 4611686018427387904) (a m b : Nat) (ea : a = p.length) (em : m = p.length + X.length) (eb : b = p.length + X.length + Y.length) :
 Calls Tryz.prog 225 #[.slice (some ⟨g, 0, none⟩) n cap, .int .i64 a, .int .i64 m, .int .i64 b, fv] w
  (RetF (fun k => k = g) w0 fun w' v => v = .tuple #[] /\ Blk w' g ((p ++ Y ++ X ++ q).map (aJ z) ++ rest) 34) := by
 have b1 : a < m := by have := List.length_pos_iff.2 hX; omega
 have b2 : m < b := by have := List.length_pos_iff.2 hY; omega
 have b3 : b ≤ n := by simp at hn; omega
 have HN := qH hn; clear hn
 have EA := qH ea; clear ea
 have EB := qH eb; clear eb
 have EM := qH em; clear em
 go_enter Tryz.func225, Tryz.ntmps225
 go_wp2
 go_loopw [10, 11] (fun i j wr => ∃ (x y : Nat) (p' X' Y' q' : List Nat), Hid (X'.length = x /\ Y'.length = y /\ p'.length + x = m /\ p' ++ Y' ++ X' ++ q' = p ++ Y ++ X ++ q) /\ 0 < x /\ 0 < y /\ x ≤ m /\ m + y ≤ n /\ i = .int .i64 x /\ j = .int .i64 y /\ Kp (fun k => k = g) w0 wr /\ Hid (Blk wr g ((p' ++ X' ++ Y' ++ q').map (aJ z) ++ rest) 34)) (fun i j _ => (intOf i).toNat + (intOf j).toNat)
 case atStart =>
  have h1 := EA.out; have h2 := EB.out; have h3 := EM.out
  refine ⟨X.length, Y.length, p, X, Y, q, ⟨rfl, rfl, by omega, rfl⟩, by omega, by omega, by omega, by omega, ?_, ?_, hk0, hB⟩
  ·congr 1; omega
  ·congr 1; omega
 case round =>
  obtain ⟨x, y, p', X', Y', q', HH, hx, hy, hxm, hyn, rfl, rfl, hkp, hb⟩ := hrel
  have HNn : (p' ++ X' ++ Y' ++ q').length = n := by
   have h1 := congrArg List.length HH.out.2.2.2
   have h2 := HN.out
   simp at h1 h2 ⊢
   omega
  have HNN := qH HNn; clear HNn
  rcases Nat.lt_trichotomy y x with hlt | heq | hgt
  ·have h1 : ((x : Int) != (y : Int)) = true := by rw [bne_iff_ne]; omega
   obtain ⟨hX1, hY1, hp1, ht⟩ := HH.out
   have HT := qH ht; clear ht
   have key : ∃ X1 X2, X' = X1 ++ X2 /\ X1.length = y /\ X2.length = x - y := ⟨_, _, (List.take_append_drop y X').symm, by simp; omega, by simp; omega⟩
   obtain ⟨X1, X2, rfl, lX1, lX2⟩ := key
   have HL := qH (And.intro hX1 (And.intro hY1 (And.intro hp1 (And.intro lX1 lX2))))
   clear hX1 hY1 hp1 lX1 lX2
   go_wp2_with fail
   refine (gM z g n cap rest fv w0 wr hkp p' X1 X2 Y' q' (by have := HL.out; omega) (by simpa using HNN.out) (by simpa using hb.out) hm _ _ _ (by have := HL.out; omega) (by have := HL.out; omega) (by have := HL.out; omega)).mono ?_
   rintro e w1 ⟨v, rfl, hk1, rfl, hb1⟩
   have HB1 := qH hb1; clear hb1
   go_wp2
   go_roundw
   case rel =>
    refine ⟨x - y, y, p' ++ Y', X2, X1, q', ⟨by have := HL.out; omega, by have := HL.out; omega, by have := HL.out; simp; omega, by rw [<- HT.out]; simp⟩, by omega, hy, by omega, hyn, ?_, rfl, hk1, HB1.out.congrL (by simp)⟩
    congr 1; omega
   case measure => simp [intOf]; omega
  ·subst heq
   have h1 : ((y : Int) != (y : Int)) = false := by simp
   obtain ⟨hX1, hY1, hp1, ht⟩ := HH.out
   have HT := qH ht; clear ht
   have HL := qH (And.intro hX1 (And.intro hY1 hp1))
   clear hX1 hY1 hp1
   go_wp2_with fail
   refine (gM z g n cap rest fv w0 wr hkp p' X' [] Y' q' (by have := HL.out; omega) (by simpa using HNN.out) (by simpa using hb.out) hm _ _ _ (by have := HL.out; omega) (by have := HL.out; simp; omega) (by have := HL.out; omega)).mono ?_
   rintro e w1 ⟨v, rfl, hk1, rfl, hb1⟩
   have HB1 := qH hb1; clear hb1
   go_wp2
   go_end0
   refine RetF.mk hk1 ⟨rfl, ?_⟩
   have := HT.out
   rw [<- this]
   simpa using HB1.out
  ·have h1 : ((x : Int) != (y : Int)) = true := by rw [bne_iff_ne]; omega
   obtain ⟨hX1, hY1, hp1, ht⟩ := HH.out
   have HT := qH ht; clear ht
   have key : ∃ Y1 Y2, Y' = Y1 ++ Y2 /\ Y1.length = y - x /\ Y2.length = x := ⟨_, _, (List.take_append_drop (y - x) Y').symm, by simp; omega, by simp; omega⟩
   obtain ⟨Y1, Y2, rfl, lY1, lY2⟩ := key
   have HL := qH (And.intro hX1 (And.intro hY1 (And.intro hp1 (And.intro lY1 lY2))))
   clear hX1 hY1 hp1 lY1 lY2
   go_wp2_with fail
   refine (gM z g n cap rest fv w0 wr hkp p' X' Y1 Y2 q' (by have := HL.out; omega) (by simpa using HNN.out) (by simpa using hb.out) hm _ _ _ (by have := HL.out; omega) (by have := HL.out; omega) (by have := HL.out; omega)).mono ?_
   rintro e w1 ⟨v, rfl, hk1, rfl, hb1⟩
   have HB1 := qH hb1; clear hb1
   go_wp2
   go_roundw
   case rel =>
    refine ⟨x, y - x, p', Y2, Y1, X' ++ q', ⟨by have := HL.out; omega, by have := HL.out; omega, by have := HL.out; omega, by rw [<- HT.out]; simp⟩, hx, by omega, by omega, by omega, rfl, ?_, hk1, HB1.out.congrL (by simp)⟩
    congr 1; omega
   case measure => simp [intOf]; omega
end Go.Proofs.YtinnmeiphbdogaaGreat
/- slices.insertionSortCmpFunc at []string. -/
namespace Go.Proofs.YtinnmeiphbdogaaGreat
open Go.RowKit
set_option maxRecDepth 100000 in
set_option maxHeartbeats 2000000 in
theorem nK (z : Nat -> Option Addr × Nat × Nat) (g n cap N : Nat) (rest : List Value) (f : FuncId) (first captured : Array Value) (c : Nat -> Nat -> Int) (L : CmpLaw c) (w0 w : World)
 (hcmp : rI Tryz.prog f first captured g N w0 (aJ z) c) (hk0 : Kp (fun k => k = g) w0 w) (p seg q : List Nat) (hN : ∀ i ∈ seg, i < N) (hinc : seg.Pairwise (· < ·))
 (hn : (p ++ seg ++ q).length = n) (hB : Blk w g ((p ++ seg ++ q).map (aJ z) ++ rest) 34) (hm : n ≤ 4611686018427387904) (a b : Nat) (ea : a = p.length) (eb : b = p.length + seg.length) :
 Calls Tryz.prog 212 #[.slice (some ⟨g, 0, none⟩) n cap, .int .i64 a, .int .i64 b, .func (Fn.func f) first captured] w
  (RetF (fun k => k = g) w0 fun w' v => v = .tuple #[] /\ ∃ C, C.Perm seg /\ Sorted c C /\ Blk w' g ((p ++ C ++ q).map (aJ z) ++ rest) 34) := by
 simp only [List.length_append] at hn
 have b1 : a ≤ b := by omega
 have b2 : b ≤ n := by omega
 have HN := qH hn; clear hn
 have EA := qH ea; clear ea
 have EB := qH eb; clear eb
 have HI := qH hinc; clear hinc
 have HNs := qH hN; clear hN
 have hent := hcmp.1
 have HC := qH hcmp.2; clear hcmp
 go_enter Tryz.func212, Tryz.ntmps212
 go_wp2
 go_loopw [8] (fun i wr => ∃ (k : Nat) (S R : List Nat), Hid ((seg = [] /\ S = [] /\ R = [] /\ b < k \/ S ≠ [] /\ k = a + S.length /\ S.length + R.length = seg.length) /\ (S ++ R).Perm seg /\ Sorted c S /\ R.Pairwise (· < ·) /\ ∀ s ∈ S, ∀ r ∈ R, s < r) /\ k ≤ b + 1 /\ i = .int .i64 k /\ Kp (fun k => k = g) w0 wr /\ Hid (Blk wr g ((p ++ S ++ R ++ q).map (aJ z) ++ rest) 34)) (fun i _ => b + 1 - (intOf i).toNat)
 case atStart =>
  have h1 := EA.out; have h2 := EB.out
  cases seg with
  | nil => exact ⟨a + 1, [], [], ⟨.inl ⟨rfl, rfl, rfl, by simp at h2; omega⟩, List.Perm.refl _, Sorted.nil, List.Pairwise.nil, by simp⟩, by omega, by go_num, hk0, hB.congrL (by simp)⟩
  | cons x seg =>
   have hp := List.pairwise_cons.1 HI.out
   exact ⟨a + 1, [x], seg, ⟨.inr ⟨by simp, rfl, by simp; omega⟩, List.Perm.refl _, Sorted.one x, hp.2, by simpa using hp.1⟩, by simp at h2; omega, by go_num, hk0, hB.congrL (by simp)⟩
 case round =>
  obtain ⟨k, S, R, HH, hkb, rfl, hkp, hb⟩ := hrel
  by_cases hlt : k < b
  ·have key : ∃ x R', R = x :: R' /\ k = a + S.length /\ S ≠ [] /\ S.length + R'.length + 1 = seg.length := by
    obtain ⟨h1, h2, h3, h4, h5⟩ := HH.out
    have e2 := EB.out; have e1 := EA.out
    rcases h1 with ⟨_, _, _, h⟩ | ⟨h, h', h''⟩
    ·omega
    ·cases R with
     | nil => simp at h''; omega
     | cons x R => exact ⟨x, R, rfl, h', h, by simp at h''; omega⟩
   obtain ⟨x, R', rfl, ek, hS, hSR⟩ := key
   have EK := qH ek; clear ek
   have HSR := qH hSR; clear hSR
   have HS := qH hS; clear hS
   go_wp2
   obtain ⟨wo, rfl⟩ : ∃ wo : World, wo = wr := ⟨_, rfl⟩
   go_loopw [9] (fun jv wr => ∃ (j : Nat) (S1 S2 : List Nat), Hid (S = S1 ++ S2 /\ j = a + S1.length /\ ∀ y ∈ S2, c x y < 0) /\ a ≤ j /\ j ≤ k /\ jv = .int .i64 j /\ Kp (fun k => k = g) w0 wr /\ Hid (Blk wr g ((p ++ S1 ++ x :: S2 ++ R' ++ q).map (aJ z) ++ rest) 34)) (fun j _ => (intOf j).toNat)
   case atStart => exact ⟨k, S, [], ⟨by simp, EK.out, by simp⟩, by have := EK.out; omega, Nat.le_refl _, rfl, hkp, hb.out.congrL (by simp)⟩
   case round =>
    obtain ⟨j, S1, S2, HJ, haj, hjk, rfl, hkp1, hb1⟩ := hrel
    by_cases hgt : a < j
    ·obtain ⟨j, rfl⟩ : ∃ j', j = j' + 1 := ⟨j - 1, by omega⟩
     have key : ∃ S1' y, S1 = S1' ++ [y] /\ j = a + S1'.length := by
      obtain ⟨h1, h2, h3⟩ := HJ.out
      rcases List.eq_nil_or_concat S1 with rfl | ⟨l, y, rfl⟩
      ·simp at h2; omega
      ·exact ⟨l, y, by simp, by simp at h2; omega⟩
     obtain ⟨S1', y, rfl, ej⟩ := key
     obtain ⟨s1, s2, c1, c2⟩ := kK (f := aJ z) (rest := rest) (u := p ++ S1') (v := []) (t := S2 ++ R' ++ q) (x := y) (y := x) (i := j) (j := j + 1) (hb1.out.congrL (by simp)) (by have := EA.out; simp; omega) (by have := EA.out; simp; omega)
     have f1 := hb1.out.free j
     have f2 := hb1.out.free (j + 1)
     have hxN : x < N /\ y < N := by
      have hp := HH.out.2.1
      have h1 := HJ.out.1
      refine ⟨HNs.out x (hp.subset (by simp)), HNs.out y (hp.subset (by rw [h1]; simp))⟩
     have hcall := fun W hW => HC.out W hW x y hxN.1 hxN.2
     have HCall := qH hcall; clear hcall
     have S1H := qH s1; have S2H := qH s2
     have EJ := qH ej; clear ej
     clear s1 s2 hxN
     unfold aJ at c1 c2
     obtain ⟨i1, i2, i3, i4, i5, i6, i7⟩ := nO (k := j) (n := n) (by omega) hm
     have g1 : decide ((a : Int) < (j : Int) + 1) = true := by simp; omega
     generalize hcc : c x y = cc at HCall
     have HCC := qH hcc; clear hcc
     by_cases hneg : cc < 0
     ·go_wp2
      go_still_tail 14, (by kernel_rfl)
      go_wp2_with fail
      refine (HCall.out _ hkp1.drew).mono ?_
      rintro e w1 ⟨rfl, hk2⟩
      have hkp2 : Kp (fun k => k = g) w0 w1 := hkp1.drew.ext hk2
      have hb2 : Blk w1 g ((p ++ (S1' ++ [y]) ++ x :: S2 ++ R' ++ q).map (aJ z) ++ rest) 34 := hb1.out.drew.ext hk2
      clear c1 c2 f1 f2 S1H S2H hk2
      obtain ⟨s1, s2, c1, c2⟩ := kK (f := aJ z) (rest := rest) (u := p ++ S1') (v := []) (t := S2 ++ R' ++ q) (x := y) (y := x) (i := j) (j := j + 1) (hb2.congrL (by simp)) (by have := EA.out; have := EJ.out; simp; omega) (by have := EA.out; have := EJ.out; simp; omega)
      have f1 := hb2.free j
      have f2 := hb2.free (j + 1)
      have S1H := qH s1; have S2H := qH s2
      clear s1 s2 hb2
      unfold aJ at c1 c2
      go_wp2
      go_region
      clear i1 i2 i3 i4 i5 i6 i7
      go_wp2
      go_roundw
      case rel =>
       refine ⟨j, S1', y :: S2, ⟨by have := HJ.out.1; simpa using this, EJ.out, ?_⟩, by omega, by omega, by go_num, ?_, ?_⟩
       ·intro y' hy'
        rcases List.mem_cons.1 hy' with rfl | h
        ·rw [HCC.out]; exact hneg
        ·exact HJ.out.2.2 y' h
       ·first | exact ((hkp2.setCell (fun _ => rfl) _).setCell (fun _ => rfl) _).drew | exact ((hkp2.drew.setCell (fun _ => rfl) _).setCell (fun _ => rfl) _)
       ·first | exact S1H.out.drew.congrL (by simp) | exact S2H.out.drew.congrL (by simp)
      case measure => first | (simp [intOf]; done) | (simp [intOf]; omega)
     ·have hneg' : ¬ (cc < 0) := hneg
      go_wp2
      go_still_tail 14, (by kernel_rfl)
      go_wp2_with fail
      refine (HCall.out _ hkp1.drew).mono ?_
      rintro e w1 ⟨rfl, hk2⟩
      have hkp2 : Kp (fun k => k = g) w0 w1 := hkp1.drew.ext hk2
      have hb2 : Blk w1 g ((p ++ (S1' ++ [y]) ++ x :: S2 ++ R' ++ q).map (aJ z) ++ rest) 34 := hb1.out.drew.ext hk2
      have HB2 := qH hb2
      clear c1 c2 f1 f2 S1H S2H hk2 hb2 i1 i2 i3 i4 i5 i6 i7
      go_wp2
      go_roundw
      case rel =>
       have hs := aCa L HH.out.2.1 HH.out.2.2.1 HH.out.2.2.2.1 HH.out.2.2.2.2 HJ.out.1 HJ.out.2.2 (by
        intro y' hy'; simp at hy'; subst hy'; rw [HCC.out]; omega)
       refine ⟨k + 1, S1' ++ [y] ++ x :: S2, R', ⟨.inr ⟨by simp, ?_, ?_⟩, hs⟩, by omega, by go_num, hkp2, HB2.out.congrL (by simp)⟩
       ·have h1 := EK.out; have h2 := congrArg List.length HJ.out.1; simp at h2 ⊢; omega
       ·have h1 := HSR.out; have h2 := congrArg List.length HJ.out.1; simp at h2 ⊢; omega
      case measure => first | (simp [intOf]; done) | (simp [intOf]; omega)
    ·have hja : j = a := by omega
     subst hja
     have key : S1 = [] := by
      have := HJ.out.2.1
      exact List.eq_nil_of_length_eq_zero (by omega)
     subst key
     have g1 : decide ((j : Int) < (j : Int)) = false := by simp
     have HB1 := qH hb1.out
     go_wp2
     go_quiet (fail)
     go_wp2
     go_roundw
     case rel =>
      have hs := aCa L HH.out.2.1 HH.out.2.2.1 HH.out.2.2.2.1 HH.out.2.2.2.2 HJ.out.1 HJ.out.2.2 (by
       intro y' hy'; simp at hy')
      refine ⟨k + 1, x :: S2, R', ⟨.inr ⟨by simp, ?_, ?_⟩, by simpa using hs⟩, by omega, by go_num, hkp1.drewN _, (HB1.out.drewN _).congrL (by simp)⟩
      ·have h1 := EK.out; have h2 := congrArg List.length HJ.out.1; simp at h2 ⊢; omega
      ·have h1 := HSR.out; have h2 := congrArg List.length HJ.out.1; simp at h2 ⊢; omega
     case measure => first | (simp [intOf]; done) | (simp [intOf]; omega)
  ·go_wp2
   go_end0
   obtain ⟨h1, h2, h3, h4, h5⟩ := HH.out
   have e2 := EB.out; have e1 := EA.out
   have hR : R = [] := by
    rcases h1 with ⟨_, _, h, _⟩ | ⟨_, h, h'⟩
    ·exact h
    ·exact List.eq_nil_of_length_eq_zero (by omega)
   subst hR
   exact RetF.mk hkp ⟨rfl, S, by simpa using h2, h3, hb.out.congrL (by simp)⟩
end Go.Proofs.YtinnmeiphbdogaaGreat
/- slices.symMergeCmpFunc at []string, the right part of one element. -/
namespace Go.Proofs.YtinnmeiphbdogaaGreat
open Go.RowKit
set_option maxRecDepth 100000 in
set_option maxHeartbeats 2000000 in
theorem rN (z : Nat -> Option Addr × Nat × Nat) (g n cap N : Nat) (rest : List Value) (f : FuncId) (first captured : Array Value) (c : Nat -> Nat -> Int) (L : CmpLaw c) (w0 w : World)
 (hcmp : rI Tryz.prog f first captured g N w0 (aJ z) c) (hm : n ≤ 4611686018427387904) (hk0 : Kp (fun k => k = g) w0 w) (p A : List Nat) (x : Nat) (q : List Nat) (hA2 : 2 ≤ A.length) (hN : ∀ i ∈ p ++ A ++ x :: q, i < N) (hs : Sorted c A) (hlr : ∀ v ∈ A, v < x)
 (hn : (p ++ A ++ x :: q).length = n) (hB : Blk w g ((p ++ A ++ x :: q).map (aJ z) ++ rest) 34) (a m b : Nat) (ea : a = p.length) (em : m = a + A.length) (eb : b = m + 1) :
 Calls Tryz.prog 213 #[.slice (some ⟨g, 0, none⟩) n cap, .int .i64 a, .int .i64 m, .int .i64 b, .func (Fn.func f) first captured] w
  (RetF (fun k => k = g) w0 fun w' v => v = .tuple #[] /\ ∃ C, C.Perm (A ++ [x]) /\ Sorted c C /\ Blk w' g ((p ++ C ++ q).map (aJ z) ++ rest) 34) := by
 have b1 : m < b := by omega
 have b2 : b ≤ n := by simp at hn; omega
 have b3 : a + 1 < m := by omega
 have HN := qH hn; clear hn
 have EA := qH ea; clear ea
 have HNs := qH hN; clear hN
 have hent := hcmp.1
 have HC := qH hcmp.2; clear hcmp
 have t1 : ((m : Int) - a == 1) = false := by simp; omega
 have t2 : ((b : Int) - m == 1) = true := by simp; omega
 have EMM := qH em; clear em
 have EBB0 := qH eb; clear eb
 go_enter Tryz.func213, Tryz.ntmps213
 go_wp2
 obtain ⟨low, hlow⟩ : ∃ low : Nat -> Prop, low = fun t => ¬ c x ((p ++ A ++ x :: q).getD t 0) < 0 := ⟨_, rfl⟩
 obtain ⟨high, hhigh⟩ : ∃ high : Nat -> Prop, high = fun t => c x ((p ++ A ++ x :: q).getD t 0) < 0 := ⟨_, rfl⟩
 have HLO := qH hlow; have HHI := qH hhigh; clear hlow hhigh
 obtain ⟨cells, hcells⟩ : ∃ cells : List Value, cells = (p ++ A ++ x :: q).map (aJ z) ++ rest := ⟨_, rfl⟩
 have HCE := qH hcells; rw [<- hcells] at hB; clear hcells
 go_loopw [14, 15] (aFg a m low high (fun k => k = g) w0 g cells 34) (fun i j _ => (intOf j).toNat - (intOf i).toNat)
 case atStart => exact ⟨a, m, Nat.le_refl _, by omega, Nat.le_refl _, rfl, rfl, .inl rfl, .inl rfl, hk0, hB⟩
 case round =>
  obtain ⟨i, j, hi, hij, hj, rfl, rfl, hlo, hhi, hkp, hb⟩ := hrel
  have HLi := qH hlo; have HHj := qH hhi; clear hlo hhi
  have hb' := hb
  rw [HCE.out] at hb'
  by_cases hlt : i < j
  ·have c1 := hb'.at ((i + j) / 2) (by have := HN.out; omega)
   have c2 := hb'.at m (by have := HN.out; omega)
   clear hb'
   have e2 : (p ++ A ++ x :: q).getD m 0 = x := fJ (by have := EA.out; have := EMM.out; simp; omega)
   rw [e2] at c2
   have hy : (p ++ A ++ x :: q).getD ((i + j) / 2) 0 < N := HNs.out _ (by
    have h : (i + j) / 2 < (p ++ A ++ x :: q).length := by have := HN.out; omega
    exact iC h)
   have hx : x < N := HNs.out x (by simp)
   generalize hyy : (p ++ A ++ x :: q).getD ((i + j) / 2) 0 = y at c1 hy
   have HY := qH hyy; clear hyy
   have hcall := fun W hW => HC.out W hW x y hx hy
   have HCall := qH hcall; clear hcall e2
   unfold aJ at c1 c2
   obtain ⟨k1, k2, k3, k4⟩ := aCb (i := i) (j := j) (n := n) (by omega) hm
   have hmn : m < n := by omega
   generalize hcc : c x y = cc at HCall
   have HCC := qH hcc; clear hcc
   by_cases hneg : cc < 0
   ·go_wp2
    go_still_tail 9, (by kernel_rfl)
    go_wp2_with fail
    refine (HCall.out _ hkp.drew).mono ?_
    rintro e w1 ⟨rfl, hk2⟩
    have hkp2 : Kp (fun k => k = g) w0 w1 := hkp.drew.ext hk2
    have hb2 := hb.drew.ext hk2
    clear hk2 c1 c2
    go_wp2
    clear k1 k2 k3 k4
    go_roundw
    case rel =>
     refine ⟨i, (i + j) / 2, hi, by omega, by omega, rfl, by first | rfl | (congr 1; done) | (congr 1; omega), HLi.out, .inr ?_, hkp2, hb2⟩
     rw [HHI.out]; dsimp only; rw [HY.out, HCC.out]; omega
    case measure => simp [intOf]; omega
   ·have hd : decide (cc < 0) = false := by simp; omega
    go_wp2
    go_still_tail 9, (by kernel_rfl)
    go_wp2_with fail
    refine (HCall.out _ hkp.drew).mono ?_
    rintro e w1 ⟨rfl, hk2⟩
    have hkp2 : Kp (fun k => k = g) w0 w1 := hkp.drew.ext hk2
    have hb2 := hb.drew.ext hk2
    clear hk2 c1 c2
    go_wp2
    clear k1 k2 k3 k4
    go_roundw
    case rel =>
     refine ⟨(i + j) / 2 + 1, j, by omega, by omega, hj, by first | rfl | (congr 1; done) | (congr 1; omega), rfl, .inr ?_, HHj.out, hkp2, hb2⟩
     rw [HLO.out]; dsimp only; rw [Nat.add_sub_cancel, HY.out, HCC.out]; omega
    case measure => simp [intOf]; omega
  ·obtain rfl : i = j := by omega
   have HL1 := HLi.out; have HH1 := HHj.out
   rw [HLO.out] at HL1; rw [HHI.out] at HH1
   have key := aD1 L hs (x := x) (i := i - a) (by have := EMM.out; omega) (by
    rcases HL1 with h | h
    ·left; omega
    ·by_cases e : i = a
     ·left; omega
     ·right
      try dsimp only at h
      rw [getD_in (by have := EA.out; omega) (by have := EA.out; have := EMM.out; omega)] at h
      rw [show i - a - 1 = i - 1 - p.length by have := EA.out; omega]
      omega) (by
    rcases HH1 with h | h
    ·left; have := EMM.out; omega
    ·by_cases e : i = m
     ·left; have := EMM.out; omega
     ·right
      try dsimp only at h
      rw [getD_in (by have := EA.out; omega) (by have := EA.out; have := EMM.out; omega)] at h
      rw [show i - a = i - p.length by have := EA.out; omega]
      exact h)
   obtain ⟨A1, A2, eA, lA, hA1, hA22⟩ := key
   have hmo := aEf L (eA ▸ hs) (eA ▸ hlr) hA1 hA22
   have HM := qH hmo
   have EAA := qH eA
   have LA := qH lA
   clear hmo eA lA hA1 hA22 HL1 HH1
   obtain ⟨wo, rfl⟩ : ∃ wo : World, wo = wr := ⟨_, rfl⟩
   go_wp2
   obtain ⟨cl, hcl⟩ : ∃ cl : List Nat -> List Nat -> List Value, cl = fun U V => (p ++ A1 ++ U ++ x :: V ++ q).map (aJ z) ++ rest := ⟨_, rfl⟩
   have HCL := qH hcl; clear hcl
   go_loopw [17] (aF9 i m A2 w0 g cl 34) (fun k _ => (intOf k).toNat)
   case atStart =>
    exact ⟨m, A2, [], by omega, Nat.le_refl _, rfl, by simp, by have := EAA.out; have h2 := congrArg List.length this; have := LA.out; have := EMM.out; simp at h2; omega, hkp, by rw [HCL.out]; exact hb'.congrL (by rw [EAA.out]; simp)⟩
   case round =>
    obtain ⟨k, U, V, hik, hkm, rfl, hU1, hU2, hkp1, hb1⟩ := hrel
    rw [HCL.out] at hb1
    have HU := qH (And.intro hU1 hU2); clear hU1 hU2
    have HB1 := qH hb1; clear hb1
    by_cases hlt2 : i < k
    ·obtain ⟨k, rfl⟩ : ∃ k', k = k' + 1 := ⟨k - 1, by omega⟩
     have key : ∃ y U', U = U' ++ [y] := by
      rcases List.eq_nil_or_concat U with rfl | ⟨l, y, rfl⟩
      ·exfalso; have h1 := HU.out.2; simp at h1; omega
      ·exact ⟨y, l, by simp⟩
     obtain ⟨y, U', rfl⟩ := key
     obtain ⟨s1, s2, c1, c2⟩ := kK (f := aJ z) (rest := rest) (u := p ++ A1 ++ U') (v := []) (t := V ++ q) (x := y) (y := x) (i := k) (j := k + 1) (HB1.out.congrL (by simp)) (by have := EA.out; have := HU.out.2; have := LA.out; simp at *; omega) (by have := EA.out; have := HU.out.2; have := LA.out; simp at *; omega)
     have f1 := HB1.out.free k
     have f2 := HB1.out.free (k + 1)
     have S1H := qH s1; have S2H := qH s2
     clear s1 s2
     unfold aJ at c1 c2
     obtain ⟨k1, k2, k3, k4, k5, k6, k7⟩ := nO (k := k) (n := n) (by omega) hm
     go_wp2
     go_region
     clear k1 k2 k3 k4 k5 k6 k7
     go_wp2
     go_roundw
     case rel =>
      refine ⟨k, U', y :: V, by omega, by omega, by go_num, by simpa using HU.out.1, by have := HU.out.2; simp at this; omega, ?_, ?_⟩
      ·exact ((hkp1.setCell (fun _ => rfl) _).setCell (fun _ => rfl) _).drew
      ·rw [HCL.out]; first | exact S1H.out.drew.congrL (by simp) | exact S2H.out.drew.congrL (by simp)
     case measure => first | (simp [intOf]; done) | (simp [intOf]; omega)
    ·go_wp2
     go_end0
     have key : U = [] := by
      have h1 := HU.out.2
      exact List.eq_nil_of_length_eq_zero (by omega)
     subst key
     refine RetF.mk hkp1 ⟨rfl, A1 ++ x :: A2, by rw [EAA.out]; exact HM.out.1, HM.out.2, HB1.out.congrL ?_⟩
     have h1 := HU.out.1
     simp at h1
     rw [h1]; simp
end Go.Proofs.YtinnmeiphbdogaaGreat
/- slices.symMergeCmpFunc at []string. -/
namespace Go.Proofs.YtinnmeiphbdogaaGreat
open Go.RowKit
set_option maxRecDepth 100000 in
set_option maxHeartbeats 2000000 in
theorem tU (z : Nat -> Option Addr × Nat × Nat) (g n cap N : Nat) (rest : List Value) (f : FuncId) (first captured : Array Value) (c : Nat -> Nat -> Int) (L : CmpLaw c) (w0 w : World)
 (hcmp : rI Tryz.prog f first captured g N w0 (aJ z) c) (hm : n ≤ 4611686018427387904) (hk0 : Kp (fun k => k = g) w0 w) (p : List Nat) (x : Nat) (B q : List Nat) (hBne : B ≠ []) (hN : ∀ i ∈ p ++ x :: B ++ q, i < N) (hs : Sorted c B) (hlr : ∀ v ∈ B, x < v)
 (hn : (p ++ x :: B ++ q).length = n) (hB : Blk w g ((p ++ x :: B ++ q).map (aJ z) ++ rest) 34) (a m b : Nat) (ea : a = p.length) (em : m = a + 1) (eb : b = m + B.length) :
 Calls Tryz.prog 213 #[.slice (some ⟨g, 0, none⟩) n cap, .int .i64 a, .int .i64 m, .int .i64 b, .func (Fn.func f) first captured] w
  (RetF (fun k => k = g) w0 fun w' v => v = .tuple #[] /\ ∃ C, C.Perm (x :: B) /\ Sorted c C /\ Blk w' g ((p ++ C ++ q).map (aJ z) ++ rest) 34) := by
 have b1 : m < b := by have := List.length_pos_iff.2 hBne; omega
 have b2 : b ≤ n := by simp at hn; omega
 have HN := qH hn; clear hn
 have EA := qH ea; clear ea
 have EB := qH eb; clear eb
 have HNs := qH hN; clear hN
 have hent := hcmp.1
 have HC := qH hcmp.2; clear hcmp
 have b3 : a < m := by omega
 have t1 : ((m : Int) - a == 1) = true := by simp; omega
 have EMM := qH em; clear em
 go_enter Tryz.func213, Tryz.ntmps213
 go_wp2
 obtain ⟨low, hlow⟩ : ∃ low : Nat -> Prop, low = fun t => c ((p ++ x :: B ++ q).getD t 0) x < 0 := ⟨_, rfl⟩
 obtain ⟨high, hhigh⟩ : ∃ high : Nat -> Prop, high = fun t => ¬ c ((p ++ x :: B ++ q).getD t 0) x < 0 := ⟨_, rfl⟩
 have HLO := qH hlow; have HHI := qH hhigh; clear hlow hhigh
 obtain ⟨cells, hcells⟩ : ∃ cells : List Value, cells = (p ++ x :: B ++ q).map (aJ z) ++ rest := ⟨_, rfl⟩
 have HCE := qH hcells; rw [<- hcells] at hB; clear hcells
 go_loopw [10, 11] (aFg m b low high (fun k => k = g) w0 g cells 34) (fun i j _ => (intOf j).toNat - (intOf i).toNat)
 case atStart => exact ⟨m, b, Nat.le_refl _, by omega, Nat.le_refl _, rfl, rfl, .inl rfl, .inl rfl, hk0, hB⟩
 case round =>
  obtain ⟨i, j, hi, hij, hj, rfl, rfl, hlo, hhi, hkp, hb⟩ := hrel
  have HLi := qH hlo; have HHj := qH hhi; clear hlo hhi
  have hb' := hb
  rw [HCE.out] at hb'
  by_cases hlt : i < j
  ·have c1 := hb'.at ((i + j) / 2) (by have := HN.out; omega)
   have c2 := hb'.at a (by have := HN.out; omega)
   clear hb'
   have e2 : (p ++ x :: B ++ q).getD a 0 = x := by rw [List.append_assoc]; exact fJ EA.out
   rw [e2] at c2
   have hy : (p ++ x :: B ++ q).getD ((i + j) / 2) 0 < N := HNs.out _ (by
    have h : (i + j) / 2 < (p ++ x :: B ++ q).length := by have := HN.out; omega
    exact iC h)
   have hx : x < N := HNs.out x (by simp)
   generalize hyy : (p ++ x :: B ++ q).getD ((i + j) / 2) 0 = y at c1 hy
   have HY := qH hyy; clear hyy
   have hcall := fun W hW => HC.out W hW y x hy hx
   have HCall := qH hcall; clear hcall e2
   unfold aJ at c1 c2
   obtain ⟨k1, k2, k3, k4⟩ := aCb (i := i) (j := j) (n := n) (by omega) hm
   have han : a < n := by omega
   generalize hcc : c y x = cc at HCall
   have HCC := qH hcc; clear hcc
   by_cases hneg : cc < 0
   all_goals
    go_wp2
    go_still_tail 9, (by kernel_rfl)
    go_wp2_with fail
    refine (HCall.out _ hkp.drew).mono ?_
    rintro e w1 ⟨rfl, hk2⟩
    have hkp2 : Kp (fun k => k = g) w0 w1 := hkp.drew.ext hk2
    have hb2 := hb.drew.ext hk2
    clear hk2 c1 c2
    go_wp2
    clear k1 k2 k3 k4
    go_roundw
   case rel =>
    refine ⟨(i + j) / 2 + 1, j, by omega, by omega, hj, by first | rfl | (congr 1; done) | (congr 1; omega), rfl, .inr ?_, HHj.out, hkp2, hb2⟩
    rw [HLO.out]; dsimp only; rw [Nat.add_sub_cancel, HY.out, HCC.out]; omega
   case measure => simp [intOf]; omega
   case rel =>
    refine ⟨i, (i + j) / 2, hi, by omega, by omega, rfl, by first | rfl | (congr 1; done) | (congr 1; omega), HLi.out, .inr ?_, hkp2, hb2⟩
    rw [HHI.out]; dsimp only; rw [HY.out, HCC.out]; omega
   case measure => simp [intOf]; omega
  ·obtain rfl : i = j := by omega
   have HL1 := HLi.out; have HH1 := HHj.out
   rw [HLO.out] at HL1; rw [HHI.out] at HH1
   have key := aD0 L hs (x := x) (i := i - m) (by have := EB.out; omega) (by
    rcases HL1 with h | h
    ·left; omega
    ·by_cases e : i = m
     ·left; omega
     ·right
      rw [show p ++ x :: B ++ q = (p ++ [x]) ++ B ++ q by simp, getD_in (by have := EA.out; have := EMM.out; simp; omega) (by have := EA.out; have := EB.out; have := EMM.out; simp; omega)] at h
      rw [show i - m - 1 = i - 1 - (p ++ [x]).length by have := EA.out; have := EMM.out; simp; omega]
      exact h) (by
    rcases HH1 with h | h
    ·left; have := EB.out; omega
    ·by_cases e : i = b
     ·left; have := EB.out; omega
     ·right
      rw [show p ++ x :: B ++ q = (p ++ [x]) ++ B ++ q by simp, getD_in (by have := EA.out; have := EMM.out; simp; omega) (by have := EA.out; have := EB.out; have := EMM.out; simp; omega)] at h
      rw [show i - m = i - (p ++ [x]).length by have := EA.out; have := EMM.out; simp; omega]
      exact h)
   obtain ⟨B1, B2, eB, lB, hB1, hB2⟩ := key
   have hmo := aG7 L (eB ▸ hs) (eB ▸ hlr) hB1 hB2
   have HM := qH hmo
   have EBB := qH eB
   have LB := qH lB
   clear hmo eB lB hB1 hB2 HL1 HH1
   obtain ⟨wo, rfl⟩ : ∃ wo : World, wo = wr := ⟨_, rfl⟩
   go_wp2
   obtain ⟨cl, hcl⟩ : ∃ cl : List Nat -> List Nat -> List Value, cl = fun U V => (p ++ U ++ x :: V ++ B2 ++ q).map (aJ z) ++ rest := ⟨_, rfl⟩
   have HCL := qH hcl; clear hcl
   go_loopw [13] (aF9 a (i - 1) B1 w0 g cl 34) (fun k _ => i - (intOf k).toNat)
   case atStart => exact ⟨a, [], B1, Nat.le_refl _, by omega, rfl, rfl, rfl, hkp, by rw [HCL.out]; exact hb'.congrL (by rw [EBB.out]; simp)⟩
   case round =>
    obtain ⟨k, U, V, hak, hki, rfl, hU1, hU2, hkp1, hb1⟩ := hrel
    rw [HCL.out] at hb1
    have HU := qH (And.intro hU1 hU2); clear hU1 hU2
    have HB1 := qH hb1; clear hb1
    by_cases hlt2 : k + 1 < i
    ·have key : ∃ y V', V = y :: V' := by
      cases V with
      | nil => exfalso; have h1 := HU.out; have h2 := LB.out; have h3 := EMM.out; simp at h1; obtain ⟨rfl, h1⟩ := h1; omega
      | cons y V' => exact ⟨y, V', rfl⟩
     obtain ⟨y, V', rfl⟩ := key
     obtain ⟨s1, s2, c1, c2⟩ := kK (f := aJ z) (rest := rest) (u := p ++ U) (v := []) (t := V' ++ B2 ++ q) (x := x) (y := y) (i := k) (j := k + 1) (HB1.out.congrL (by simp)) (by have := EA.out; have := HU.out.2; simp; omega) (by have := EA.out; have := HU.out.2; simp; omega)
     have f1 := HB1.out.free k
     have f2 := HB1.out.free (k + 1)
     have S1H := qH s1; have S2H := qH s2
     clear s1 s2
     unfold aJ at c1 c2
     obtain ⟨k1, k2, k3, k4, k5, k6, k7⟩ := nO (k := k) (n := n) (by omega) hm
     go_wp2
     go_region
     clear k1 k2 k3 k4 k5 k6 k7
     go_wp2
     go_roundw
     case rel =>
      refine ⟨k + 1, U ++ [y], V', by omega, by omega, by go_num, by simpa using HU.out.1, by have := HU.out.2; simp; omega, ?_, ?_⟩
      ·exact ((hkp1.setCell (fun _ => rfl) _).setCell (fun _ => rfl) _).drew
      ·rw [HCL.out]; first | exact S1H.out.drew.congrL (by simp) | exact S2H.out.drew.congrL (by simp)
     case measure => simp [intOf]; omega
    ·go_wp2
     go_end0
     have key : V = [] := by
      have h1 := HU.out; have h2 := LB.out; have h4 := EMM.out
      have h3 := congrArg List.length h1.1
      simp at h3
      exact List.eq_nil_of_length_eq_zero (by omega)
     subst key
     refine RetF.mk hkp1 ⟨rfl, B1 ++ x :: B2, by rw [EBB.out]; exact HM.out.1, HM.out.2, HB1.out.congrL ?_⟩
     have h1 := HU.out.1
     simp at h1
     rw [h1]; simp
end Go.Proofs.YtinnmeiphbdogaaGreat
/- slices.symMergeCmpFunc at []string, the great case. -/
namespace Go.Proofs.YtinnmeiphbdogaaGreat
open Go.RowKit
def aAu (c : Nat -> Nat -> Int) (D : List Nat) (P lo hi : Nat) (w0 : World) (g : Nat) (cells : List Value) (e : TypeId) (iv jv : Value) (w : World) : Prop :=
 aFg lo hi (fun t => ¬ c (D.getD (P - t) 0) (D.getD t 0) < 0) (fun t => c (D.getD (P - t) 0) (D.getD t 0) < 0) (fun k => k = g) w0 g cells e iv jv w
def aDb (P : Program) (z : Nat -> Option Addr × Nat × Nat) (g n cap N : Nat) (rest : List Value) (f : FuncId) (first captured : Array Value) (c : Nat -> Nat -> Int) (w0 : World) (k : Nat) : Prop :=
 ∀ (w : World) (p A B q : List Nat), A.length + B.length ≤ k -> A ≠ [] -> B ≠ [] -> Kp (fun k => k = g) w0 w -> (∀ i ∈ p ++ A ++ B ++ q, i < N) -> Sorted c A -> Sorted c B -> (∀ u ∈ A, ∀ v ∈ B, u < v) ->
  (p ++ A ++ B ++ q).length = n -> Blk w g ((p ++ A ++ B ++ q).map (aJ z) ++ rest) 34 -> ∀ a m b : Nat, a = p.length -> m = p.length + A.length -> b = p.length + A.length + B.length ->
  Calls P 213 #[.slice (some ⟨g, 0, none⟩) n cap, .int .i64 a, .int .i64 m, .int .i64 b, .func (Fn.func f) first captured] w
   (RetF (fun k => k = g) w0 fun w' v => v = .tuple #[] /\ ∃ C, C.Perm (A ++ B) /\ Sorted c C /\ Blk w' g ((p ++ C ++ q).map (aJ z) ++ rest) 34)
set_option maxRecDepth 100000 in
set_option maxHeartbeats 4000000 in
theorem pW (z : Nat -> Option Addr × Nat × Nat) (g n cap N : Nat) (rest : List Value) (f : FuncId) (first captured : Array Value) (c : Nat -> Nat -> Int) (L : CmpLaw c) (w0 w : World)
 (hcmp : rI Tryz.prog f first captured g N w0 (aJ z) c) (hm : n ≤ 4611686018427387904) (hk0 : Kp (fun k => k = g) w0 w) (p A B q : List Nat) (hA2 : 2 ≤ A.length) (hB2 : 2 ≤ B.length)
 (ih : aDb Tryz.prog z g n cap N rest f first captured c w0 (A.length + B.length - 1)) (hN : ∀ i ∈ p ++ A ++ B ++ q, i < N) (hsA : Sorted c A) (hsB : Sorted c B) (hlr : ∀ u ∈ A, ∀ v ∈ B, u < v)
 (hn : (p ++ A ++ B ++ q).length = n) (hB : Blk w g ((p ++ A ++ B ++ q).map (aJ z) ++ rest) 34) (a m b : Nat) (ea : a = p.length) (em : m = a + A.length) (eb : b = m + B.length) :
 Calls Tryz.prog 213 #[.slice (some ⟨g, 0, none⟩) n cap, .int .i64 a, .int .i64 m, .int .i64 b, .func (Fn.func f) first captured] w
  (RetF (fun k => k = g) w0 fun w' v => v = .tuple #[] /\ ∃ C, C.Perm (A ++ B) /\ Sorted c C /\ Blk w' g ((p ++ C ++ q).map (aJ z) ++ rest) 34) := by
 have b1 : a + 1 < m := by omega
 have b2 : b ≤ n := by simp at hn; omega
 have b3 : m + 1 < b := by omega
 obtain ⟨mid, emid⟩ : ∃ mid, mid = (a + b) / 2 := ⟨_, rfl⟩
 obtain ⟨lo, hi, hc⟩ : ∃ lo hi, (mid < m /\ lo = mid + m - b /\ hi = mid) \/ (m ≤ mid /\ lo = a /\ hi = m) := by
  by_cases h : mid < m
  ·exact ⟨_, _, .inl ⟨h, rfl, rfl⟩⟩
  ·exact ⟨_, _, .inr ⟨by omega, rfl, rfl⟩⟩
 have rmid : ((a : Int) + b) / 2 = (mid : Int) := by omega
 have hmb : mid < b := by omega
 have ham : a < mid := by omega
 have hlh : lo ≤ hi /\ hi ≤ m /\ a ≤ lo /\ hi ≤ mid /\ mid + m ≤ lo + b := by omega
 obtain ⟨P, eP⟩ : ∃ P, P + 1 = mid + m := ⟨mid + m - 1, by omega⟩
 have rP : (mid : Int) + m - 1 = (P : Int) := by omega
 have t1 : ((m : Int) - a == 1) = false := by simp; omega
 have t2 : ((b : Int) - m == 1) = false := by simp; omega
 have HN := qH hn; clear hn
 have EA := qH ea; clear ea
 have EM := qH em; clear em
 have EB := qH eb; clear eb
 have HNs := qH hN; clear hN
 have hent := hcmp.1
 have HC := qH hcmp.2; clear hcmp
 have HCC0 := qH hc
 have EMID := qH emid; clear emid
 have EP := qH eP; clear eP
 have IH := qH ih; clear ih
 go_enter Tryz.func213, Tryz.ntmps213
 go_upto_if 140 with (fail)
 go_cut [20, 21] (fun s r wx => s = .int .i64 lo /\ r = .int .i64 hi /\ w = wx)
 case first =>
  rcases hc with ⟨h1, h2, h3⟩ | ⟨h1, h2, h3⟩
  ·have r1 : (mid : Int) + m - b = (lo : Int) := by omega
   have E1 := qH h2; have E2 := qH h3; clear h2 h3
   go_wp2_with fail
   go_meet
   exact ⟨rfl, by rw [E2.out], rfl⟩
  ·have E1 := qH h2; have E2 := qH h3; clear h2 h3
   go_wp2_with fail
   go_meet
   exact ⟨by rw [E1.out], by rw [E2.out], rfl⟩
 case rest =>
  obtain ⟨rfl, rfl, rfl⟩ := hcut
  clear hc
  go_wp2
  obtain ⟨cells, hcells⟩ : ∃ cells : List Value, cells = (p ++ A ++ B ++ q).map (aJ z) ++ rest := ⟨_, rfl⟩
  have HCE := qH hcells; rw [<- hcells] at hB; clear hcells
  obtain ⟨D, hD⟩ : ∃ D : List Nat, D = p ++ A ++ B ++ q := ⟨_, rfl⟩
  have HD := qH hD; clear hD
  go_loopw [20, 21] (aAu c D P lo hi w0 g cells 34) (fun i j _ => (intOf j).toNat - (intOf i).toNat)
  case atStart => exact ⟨lo, hi, Nat.le_refl _, by omega, Nat.le_refl _, rfl, rfl, .inl rfl, .inl rfl, hk0, hB⟩
  case round =>
   obtain ⟨i, j, hi1, hij, hj, rfl, rfl, hlo, hhi, hkp, hb⟩ := hrel
   have HLi := qH hlo; have HHj := qH hhi; clear hlo hhi
   have HB0 := qH hb
   by_cases hlt : i < j
   ·obtain ⟨t, et⟩ : ∃ t, t = (i + j) / 2 := ⟨_, rfl⟩
    have ht1 : i ≤ t := by omega
    have ht2 : t < j := by omega
    have rt : ((i : Int) + j) / 2 = (t : Int) := by omega
    obtain ⟨d, ed⟩ : ∃ d, d + t = P := ⟨P - t, by have := EP.out; omega⟩
    have hd1 : m ≤ d /\ d < b := by have := EP.out; omega
    have rd : (P : Int) - t = (d : Int) := by omega
    have rw1 : IntKind.i64.wrap ((P : Int) - t) = (d : Int) := by rw [rd]; exact IntWalk.i64_in _ (by omega)
    have rw2 : IntKind.i64.wrap (d : Int) = (d : Int) := IntWalk.i64_in _ (by omega)
    have htn : t < n := by omega
    have hdn : d < n := by omega
    clear et
    have ED := qH ed; clear ed
    have hb' := hb
    rw [HCE.out] at hb'
    have c1 := hb'.at t (by have := HN.out; omega)
    have c2 := hb'.at d (by have := HN.out; omega)
    clear hb'
    rw [<- HD.out] at c1 c2
    have hx : D.getD t 0 < N := HNs.out _ (by rw [<- HD.out]; exact iC (by have := HN.out; rw [HD.out]; omega))
    have hy : D.getD d 0 < N := HNs.out _ (by rw [<- HD.out]; exact iC (by have := HN.out; rw [HD.out]; omega))
    generalize hxx : D.getD t 0 = x at c1 hx
    generalize hyy : D.getD d 0 = y at c2 hy
    have HX := qH hxx; have HY := qH hyy; clear hxx hyy
    have hcall := fun W hW => HC.out W hW y x hy hx
    have HCall := qH hcall; clear hcall
    unfold aJ at c1 c2
    generalize hcc : c y x = cc at HCall
    have HCC := qH hcc; clear hcc
    by_cases hneg : cc < 0
    ·have hdc : decide (cc < 0) = true := by simpa using hneg
     go_wp2
     go_still_tail 11, (by kernel_rfl)
     go_wp2_with fail
     refine (HCall.out _ hkp.drew).mono ?_
     rintro e w1 ⟨rfl, hk2⟩
     have hkp2 : Kp (fun k => k = g) w0 w1 := hkp.drew.ext hk2
     have hb2 := hb.drew.ext hk2
     clear hk2 c1 c2 rw1 rw2
     go_wp2
     go_roundw
     case rel =>
      refine ⟨i, t, hi1, by omega, by omega, rfl, rfl, HLi.out.imp id (fun h => by dsimp only; omega), .inr ?_, hkp2, hb2⟩
      dsimp only
      rw [show P - t = d by have := ED.out; omega, HX.out, HY.out, HCC.out]; omega
     case measure => simp [intOf]; omega
    ·have hdc : decide (cc < 0) = false := by simp; omega
     go_wp2
     go_still_tail 11, (by kernel_rfl)
     go_wp2_with fail
     refine (HCall.out _ hkp.drew).mono ?_
     rintro e w1 ⟨rfl, hk2⟩
     have hkp2 : Kp (fun k => k = g) w0 w1 := hkp.drew.ext hk2
     have hb2 := hb.drew.ext hk2
     clear hk2 c1 c2 rw1 rw2
     go_wp2
     go_roundw
     case rel =>
      refine ⟨t + 1, j, by omega, by omega, hj, by first | rfl | (congr 1; done) | (congr 1; omega), rfl, .inr ?_, HHj.out, hkp2, hb2⟩
      dsimp only
      rw [Nat.add_sub_cancel, show P - t = d by have := ED.out; omega, HX.out, HY.out, HCC.out]; omega
     case measure => simp [intOf]; omega
   ·obtain rfl : i = j := by omega
    have h3 := HLi.out; have h4 := HHj.out
    rw [HD.out] at h3 h4
    rw [show P = mid + m - 1 by have := EP.out; omega] at h3 h4
    obtain ⟨A1, A2, B1, B2, eA, eB, lA, lB, hAh⟩ := aG8 L EA.out EM.out EB.out EMID.out hsA hsB hlr (by omega) (by omega) HCC0.out hi1 hj h3 h4
    clear h3 h4
    obtain ⟨e, ee⟩ : ∃ e, e + i = mid + m := ⟨mid + m - i, by omega⟩
    have re : (mid : Int) + m - i = (e : Int) := by omega
    have hle : m ≤ e /\ e ≤ b := by omega
    have HL := qH (And.intro eA (And.intro eB (And.intro lA (And.intro (show m + B1.length = e by omega) ee))))
    have HAh := qH hAh
    clear eA eB lA lB hAh ee
    have hsb : i ≤ m := by omega
    obtain ⟨wo, rfl⟩ : ∃ wo : World, wo = wr := ⟨_, rfl⟩
    have hb0 := HB0.out
    rw [HCE.out, HL.out.1, HL.out.2.1] at hb0
    have HB1 := qH hb0; clear hb0 hb
    have HNL : (p ++ (A1 ++ A2) ++ (B1 ++ B2) ++ q).length = n := by rw [<- HL.out.1, <- HL.out.2.1]; exact HN.out
    have HNN := qH HNL; clear HNL
    have HNsL : ∀ x ∈ p ++ A1 ++ B1 ++ A2 ++ B2 ++ q, x < N := fun x hx => HNs.out x (by rw [HL.out.1, HL.out.2.1]; simp at hx ⊢; rcases hx with h | h | h | h | h | h <;> simp [h])
    have HNS := qH HNsL; clear HNsL
    have hlens : a + A1.length = i /\ i + A2.length = m /\ m + B1.length = e /\ e + B2.length = b /\ e + i = mid + m := by
     have h := HL.out; have h1 := EM.out; have h2 := EB.out
     have h3 := congrArg List.length h.1; have h4 := congrArg List.length h.2.1
     simp at h3 h4; omega
    have HLE := qH hlens
    by_cases h1 : i < m <;> by_cases h2 : m < e <;> by_cases h3 : a < i <;> by_cases h4 : e < b <;> try (exfalso; omega)
    all_goals
     have h5 : i < mid \/ mid ≤ i := by omega
     have h6 : mid < e \/ e ≤ mid := by omega
     clear hlens
     rcases h5 with h5 | h5 <;> rcases h6 with h6 | h6 <;> try (exfalso; have := HLE.out; omega)
    all_goals
     go_wp2_with fail
     first
      | (go_at_call 225
         refine (wZ z g n cap rest _ w0 _ hkp (p ++ A1) A2 B1 (B2 ++ q) (by rintro rfl; have := HLE.out; simp at this; omega) (by rintro rfl; have := HLE.out; simp at this; omega) (by have := HNN.out; simpa using this) (HB1.out.congrL (by simp)) hm _ _ _ (by have := HLE.out; have := EA.out; simp; omega) (by have := HLE.out; have := EA.out; simp; omega) (by have := HLE.out; have := EA.out; simp; omega)).mono ?_
         rintro e1 w1 ⟨v, rfl, hk1, rfl, hb1⟩
         have hb1' : Blk w1 g ((p ++ A1 ++ B1 ++ A2 ++ B2 ++ q).map (aJ z) ++ rest) 34 := hb1.congrL (by simp)
         have HB2 := qH hb1'
         clear hb1 hb1'
         go_wp2_with fail)
      | (obtain ⟨w1, rfl⟩ : ∃ w1 : World, w1 = wo := ⟨_, rfl⟩
         have hk1 := hkp
         have hb1' : Blk w1 g ((p ++ A1 ++ B1 ++ A2 ++ B2 ++ q).map (aJ z) ++ rest) 34 := by
          have h7 : A2 = [] \/ B1 = [] := by
           have := HLE.out
           by_cases h8 : A2 = []
           ·exact .inl h8
           ·right
            have := List.length_pos_iff.2 h8
            exact List.eq_nil_of_length_eq_zero (by omega)
          rcases h7 with rfl | rfl
          ·exact HB1.out.congrL (by simp)
          ·exact HB1.out.congrL (by simp)
         have HB2 := qH hb1'
         clear hb1')
     first
      | (go_at_call_of 213 (Value.int IntKind.i64 (a : Int))
         refine (IH.out w1 p A1 B1 (A2 ++ B2 ++ q) (by have := HLE.out; have := HL.out; rw [this.1, this.2.1]; simp; omega) (by rintro rfl; have := HLE.out; simp at this; omega) (by rintro rfl; have := HLE.out; simp at this; omega) hk1 (fun x hx => HNS.out x (by simpa using hx)) (Sorted.append.1 (HL.out.1 ▸ hsA)).1 (Sorted.append.1 (HL.out.2.1 ▸ hsB)).1 (fun u hu v hv => hlr u (by rw [HL.out.1]; simp [hu]) v (by rw [HL.out.2.1]; simp [hv])) (by have := HNN.out; simp at this ⊢; omega) (HB2.out.congrL (by simp)) _ _ _ (by have := EA.out; omega) (by have := HLE.out; have := EA.out; omega) (by have := HLE.out; have := EA.out; omega)).mono ?_
         rintro e1 w2 ⟨v, rfl, hk2, rfl, C1, hp1, hs1, hb2⟩
         have HC1 := qH (And.intro hp1 (And.intro hs1 hb2))
         clear hp1 hs1 hb2
         go_wp2_with fail)
      | (obtain ⟨w2, rfl⟩ : ∃ w2 : World, w2 = w1 := ⟨_, rfl⟩
         have hk2 := hk1
         have HC1 : Hid (∃ C1, C1.Perm (A1 ++ B1) /\ Sorted c C1 /\ Blk w2 g ((p ++ C1 ++ (A2 ++ B2 ++ q)).map (aJ z) ++ rest) 34) := by
          refine ⟨A1 ++ B1, List.Perm.refl _, ?_, HB2.out.congrL (by simp)⟩
          have h7 : A1 = [] \/ B1 = [] := by
           have := HLE.out
           by_cases h8 : A1 = []
           ·exact .inl h8
           ·right
            have := List.length_pos_iff.2 h8
            exact List.eq_nil_of_length_eq_zero (by omega)
          rcases h7 with h7 | h7
          ·rw [h7]; exact (Sorted.append.1 (HL.out.2.1 ▸ hsB)).1
          ·rw [h7, List.append_nil]; exact (Sorted.append.1 (HL.out.1 ▸ hsA)).1
         obtain ⟨C1, HC1⟩ := HC1)
     have HC1' : Hid (C1.Perm (A1 ++ B1) /\ Sorted c C1 /\ Blk w2 g ((p ++ C1 ++ (A2 ++ B2 ++ q)).map (aJ z) ++ rest) 34) := HC1
     have hl1 : C1.length = A1.length + B1.length := by have := HC1'.out.1.length_eq; simpa using this
     have HL1 := qH hl1; clear hl1 HC1
     first
      | (go_at_call_of 213 (Value.int IntKind.i64 (b : Int))
         refine (IH.out w2 (p ++ C1) A2 B2 q (by have := HLE.out; have := HL.out; rw [this.1, this.2.1]; simp; omega) (by rintro rfl; have := HLE.out; simp at this; omega) (by rintro rfl; have := HLE.out; simp at this; omega) hk2 (fun x hx => HNS.out x (by
          simp at hx ⊢
          rcases hx with h | h | h | h | h
          ·simp [h]
          ·have := HC1'.out.1.subset h; simp at this; rcases this with h | h <;> simp [h]
          ·simp [h]
          ·simp [h]
          ·simp [h])) (Sorted.append.1 (HL.out.1 ▸ hsA)).2.1 (Sorted.append.1 (HL.out.2.1 ▸ hsB)).2.1 (fun u hu v hv => hlr u (by rw [HL.out.1]; simp [hu]) v (by rw [HL.out.2.1]; simp [hv])) (by have := HNN.out; have := HL1.out; simp at *; omega) (HC1'.out.2.2.congrL (by simp)) _ _ _ (by have := HLE.out; have := EA.out; have := HL1.out; simp; omega) (by have := HLE.out; have := EA.out; have := HL1.out; simp; omega) (by have := HLE.out; have := EA.out; have := HL1.out; simp; omega)).mono ?_
         rintro e1 w3 ⟨v, rfl, hk3, rfl, C2, hp2, hs2, hb3⟩
         have HC2 := qH (And.intro hp2 (And.intro hs2 hb3))
         clear hp2 hs2 hb3
         go_wp2_with fail)
      | (obtain ⟨w3, rfl⟩ : ∃ w3 : World, w3 = w2 := ⟨_, rfl⟩
         have hk3 := hk2
         have HC2 : Hid (∃ C2, C2.Perm (A2 ++ B2) /\ Sorted c C2 /\ Blk w3 g ((p ++ C1 ++ C2 ++ q).map (aJ z) ++ rest) 34) := by
          refine ⟨A2 ++ B2, List.Perm.refl _, ?_, HC1'.out.2.2.congrL (by simp)⟩
          have h7 : A2 = [] \/ B2 = [] := by
           have := HLE.out
           by_cases h8 : A2 = []
           ·exact .inl h8
           ·right
            have := List.length_pos_iff.2 h8
            exact List.eq_nil_of_length_eq_zero (by omega)
          rcases h7 with h7 | h7
          ·rw [h7]; exact (Sorted.append.1 (HL.out.2.1 ▸ hsB)).2.1
          ·rw [h7, List.append_nil]; exact (Sorted.append.1 (HL.out.1 ▸ hsA)).2.1
         obtain ⟨C2, HC2⟩ := HC2)
     have HC2' : Hid (C2.Perm (A2 ++ B2) /\ Sorted c C2 /\ Blk w3 g ((p ++ C1 ++ C2 ++ q).map (aJ z) ++ rest) 34) := HC2
     go_end0
     have hmb := aEg HAh.out HC1'.out.1 HC1'.out.2.1 HC2'.out.1 HC2'.out.2.1
     refine RetF.mk hk3 ⟨rfl, C1 ++ C2, by rw [HL.out.1, HL.out.2.1]; exact hmb.1, hmb.2, HC2'.out.2.2.congrL (by simp)⟩
end Go.Proofs.YtinnmeiphbdogaaGreat
