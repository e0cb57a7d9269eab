/- Texts joined for a claim (JoinHead, AggPlain, AggInj, AggGrp, JoinStep, IndexX, BaseC2, BasePut, RowQ, RowQ2, RowQ3, RowOwn, RowAll, BaseAt, RowWith, BaseV, LaidPlain, TrieAt, CurAt, CurDo, AggTake, AggTell, AggBeg). -/
import Derived.Test.YtikgpedgmnbcaaaGreatDoorAw3
import Derived.Laws.EntriesVeiled
import Derived.Deep.RegionWith
import Derived.StillTailTactics
set_option linter.unusedVariables false
set_option linter.unusedSimpArgs false
set_option maxRecDepth 100000
namespace Go.Proofs.YtikgpedgmnbcaaaGreatDoor
section
def aY (N V : List ByteArray) (hs : List aE) : List ByteArray := hs.filterMap fun t => if t.1 = 3 then some t.2.1 else if t.1 = 1 then some (lS N V t) else none
theorem wW {r : bM} (h : aP r = 0) : ∀ t ∈ r.1.2.1, t.1 = 1 /\ t.2.1 ∈ aA r.2.1 \/ t.1 = 3 \/ 4 ≤ t.1 := fun t ht => by
 unfold aP at h
 split at h
 ·rename_i hp
  split at h
  ·rename_i hs
   unfold eE iX at hp
   unfold mF at hs
   rw [Bool.and_eq_true, Bool.and_eq_true, Bool.and_eq_true] at hp
   rw [Bool.and_eq_true] at hs
   have h1 := List.all_eq_true.1 hs.1 t ht
   have h2 := hp.1.1.1
   unfold kinds at h2
   have h3 := of_decide_eq_true (List.all_eq_true.1 h2 t ht)
   unfold dQ at h1
   split at h1
   ·cases h1
   ·rename_i h4
    rcases of_decide_eq_true h1 with h5 | h5 | h5
    ·exact .inr (.inl h5)
    ·exact .inr (.inr (by omega))
    ·by_cases h6 : t.1 = 1
     ·exact .inl ⟨h6, cJ.1 h5⟩
     ·by_cases h7 : t.1 = 3
      ·exact .inr (.inl h7)
      ·exact .inr (.inr (by omega))
  ·cases h
 ·cases h
abbrev fP := List ByteArray × aC
def cX : List fP -> List ByteArray -> List ByteArray -> List fP
 | [], h, V => [(h, [V])]
 | g :: gs, h, V => if g.1 = h then (g.1, g.2 ++ [V]) :: gs else g :: cX gs h V
def bQ (N : List ByteArray) (hs : List aE) (L : aC) : List fP := L.foldl (fun gs V => cX gs (aY N V hs) V) []
theorem aB0 (N : List ByteArray) (hs : List aE) (L : aC) (V : List ByteArray) : bQ N hs (L ++ [V]) = cX (bQ N hs L) (aY N V hs) V := by unfold bQ; rw [List.foldl_append]; rfl
def fK (gs : List fP) (h : List ByteArray) : Option Nat := gs.findIdx? fun g => decide (g.1 = h)
theorem gN : ∀ {gs : List fP} {h : List ByteArray} (V : List ByteArray), fK gs h = none -> cX gs h V = gs ++ [(h, [V])]
 | [], h, V, _ => rfl
 | g :: gs, h, V, hk => by
  unfold fK at hk
  rw [List.findIdx?_cons] at hk
  by_cases e : g.1 = h
  ·rw [if_pos (decide_eq_true e)] at hk; cases hk
  ·rw [if_neg (by simpa using e)] at hk
   have h2 : fK gs h = none := by unfold fK; simpa using hk
   unfold cX
   rw [if_neg e, gN V h2]; rfl
theorem mV : ∀ {gs : List fP} {h : List ByteArray} {k : Nat} (V : List ByteArray), fK gs h = some k -> ∃ B, gs[k]? = some (h, B) /\ cX gs h V = gs.set k (h, B ++ [V])
 | [], h, k, V, hk => by cases hk
 | g :: gs, h, k, V, hk => by
  unfold fK at hk
  rw [List.findIdx?_cons] at hk
  unfold cX
  by_cases e : g.1 = h
  ·rw [if_pos (decide_eq_true e)] at hk
   cases hk
   rw [if_pos e]
   exact ⟨g.2, by rw [<- e]; rfl, by rw [<- e]; rfl⟩
  ·rw [if_neg (by simpa using e)] at hk
   rw [if_neg e]
   obtain ⟨j, hj, rfl⟩ := Option.map_eq_some_iff.1 hk
   obtain ⟨B, h1, h2⟩ := mV V (show fK gs h = some j from hj)
   exact ⟨B, by simpa using h1, by rw [h2]; rfl⟩
theorem aEw (gs : List fP) (h V : List ByteArray) : (cX gs h V).length ≤ gs.length + 1 := by
 cases hk : fK gs h with
 | none => rw [gN V hk]; simp
 | some k => obtain ⟨B, _, h2⟩ := mV V hk; rw [h2]; simp
theorem vA (N : List ByteArray) (hs : List aE) (L : aC) : (bQ N hs L).length ≤ L.length := by
 unfold bQ
 have key : ∀ (L : aC) (gs : List fP), (L.foldl (fun gs V => cX gs (aY N V hs) V) gs).length ≤ gs.length + L.length := fun L => by
  induction L with
  | nil => intro gs; exact Nat.le_refl _
  | cons V L ih => intro gs; have h1 := ih (cX gs (aY N V hs) V); have h2 := aEw gs (aY N V hs) V; rw [List.foldl_cons, List.length_cons]; omega
 have := key L []
 simpa using this
def aBa (at_ : Nat) (V : List ByteArray) : Int × Bool := cS (aZ V at_).data.toList
def jG (at_ : Nat) (B : aC) : Int := (B.map fun V => (aBa at_ V).1).sum
def lO (kind : Int) (at_ : Nat) : aC -> ByteArray
 | [] => ByteArray.empty
 | V :: B => B.foldl (fun b V => if (kind = 6 /\ Op.bytesLess (aZ V at_).toList b.toList = true) \/ (kind = 7 /\ Op.bytesLess b.toList (aZ V at_).toList = true) then aZ V at_ else b) (aZ V at_)
def fQ (kind : Int) (at_ : Nat) (B : aC) : ByteArray × Nat :=
 if kind = 4 then (⟨(Lib.itoa B.length).toArray⟩, 0)
 else if kind = 5 then (if -9223372036854775808 ≤ jG at_ B /\ jG at_ B ≤ 9223372036854775807 then (⟨(Lib.itoa (jG at_ B)).toArray⟩, 0) else (ByteArray.empty, 151))
 else (lO kind at_ B, 0)
def takeA (kind : Int) (at_ : Nat) (V : List ByteArray) : Nat := if kind = 5 /\ (aBa at_ V).2 = false then 150 else 0
theorem aFx : ∀ {a b x y : List UInt8}, (∀ c ∈ a, c ≠ 32) -> (∀ c ∈ b, c ≠ 32) -> a ++ 32 :: x = b ++ 32 :: y -> a = b /\ x = y
 | [], [], x, y, _, _, h => ⟨rfl, by simpa using h⟩
 | [], c :: b, x, y, _, hb, h => by
  have h1 : (32 : UInt8) = c := by injection h
  exact absurd h1.symm (hb c (List.mem_cons_self ..))
 | c :: a, [], x, y, ha, _, h => by
  have h1 : c = 32 := by injection h
  exact absurd h1 (ha c (List.mem_cons_self ..))
 | c :: a, d :: b, x, y, ha, hb, h => by
  injection h with h1 h2
  obtain ⟨h3, h4⟩ := aFx (fun e he => ha e (List.mem_cons_of_mem _ he)) (fun e he => hb e (List.mem_cons_of_mem _ he)) h2
  exact ⟨by rw [h1, h3], h4⟩
theorem pU (n : Nat) : (∀ c ∈ Lib.itoa (n : Int), c ≠ 32) /\ aIk (Lib.itoa (n : Int)) = n := by
 have e : Lib.itoa (n : Int) = Lib.decDigits n := by
  unfold Lib.itoa
  simp
 have h := zQ n
 rw [e]
 refine ⟨fun c hc e2 => ?_, h.1⟩
 have h2 := List.all_eq_true.1 h.2.1 c hc
 subst e2
 exact absurd h2 (by decide)
theorem aBs : ∀ {r t : List ByteArray}, jH r = jH t -> r = t
 | [], [], _ => rfl
 | [], s :: t, h => by
  have h1 := congrArg List.length h
  have e : jH (s :: t) = Lib.itoa s.size ++ 32 :: s.data.toList ++ jH t := rfl
  rw [e] at h1
  simp [jH] at h1
 | s :: r, [], h => by
  have h1 := congrArg List.length h
  have e : jH (s :: r) = Lib.itoa s.size ++ 32 :: s.data.toList ++ jH r := rfl
  rw [e] at h1
  simp [jH] at h1
 | s :: r, u :: t, h => by
  have e : ∀ (s : ByteArray) r, jH (s :: r) = Lib.itoa s.size ++ 32 :: (s.data.toList ++ jH r) := fun s r => by
   show Lib.itoa s.size ++ 32 :: s.data.toList ++ jH r = _
   simp
  rw [e, e] at h
  obtain ⟨h1, h2⟩ := aFx (pU s.size).1 (pU u.size).1 h
  have h3 : s.size = u.size := by rw [<- (pU s.size).2, <- (pU u.size).2, h1]
  have h4 : s.data.toList.length = u.data.toList.length := h3
  obtain ⟨h5, h6⟩ := List.append_inj h2 h4
  have h7 : s = u := ByteArray.ext (Array.toList_inj.1 h5)
  rw [h7, aBs h6]
theorem aJn {r t : List ByteArray} (h : oA r = oA t) : r = t := by
 unfold oA at h
 injection h with h
 exact aBs (by simpa using h)
def uR : Nat -> List (List ByteArray) -> List (ByteArray × Value)
 | _, [] => []
 | i, h :: ks => (oA h, .int .i64 (i : Nat)) :: uR (i + 1) ks
def pT (gs : List fP) : List (ByteArray × Value) := uR 0 (gs.map (·.1))
theorem uQ : ∀ (ks : List (List ByteArray)) (i : Nat) (h : List ByteArray), uR i (ks ++ [h]) = uR i ks ++ [(oA h, .int .i64 ((i + ks.length : Nat) : Int))]
 | [], i, h => rfl
 | k :: ks, i, h => by
  show (oA k, _) :: uR (i + 1) (ks ++ [h]) = _
  rw [uQ ks (i + 1) h, List.length_cons, show i + 1 + ks.length = i + (ks.length + 1) by omega]
  rfl
theorem xF : ∀ (ks : List (List ByteArray)) (i : Nat) (h : List ByteArray), sQ (uR i ks) (oA h) = (ks.findIdx? fun g => decide (g = h)).map fun k => (.int .i64 ((i + k : Nat) : Int) : Value)
 | [], i, h => rfl
 | k :: ks, i, h => by
  unfold uR sQ
  rw [List.find?_cons, List.findIdx?_cons]
  by_cases e : k = h
  ·subst e
   simp
  ·have e2 : ¬ oA k = oA h := fun x => e (aJn x)
   have ih := xF ks (i + 1) h
   unfold sQ at ih
   simp only [e2, e, decide_false]
   rw [ih]
   cases ks.findIdx? fun g => decide (g = h) with
   | none => rfl
   | some j => simp; omega
theorem aBr (gs : List fP) (h : List ByteArray) : sQ (pT gs) (oA h) = (fK gs h).map fun k => (.int .i64 (k : Nat) : Value) := by
 unfold pT fK
 rw [xF, List.findIdx?_map]
 simp [Function.comp_def]
theorem aJk {gs : List fP} {h : List ByteArray} (hk : fK gs h = none) (V : List ByteArray) : lC (pT gs) (oA h) (.int .i64 (gs.length : Nat)) = pT (cX gs h V) := by
 unfold lC
 rw [aBr, hk, gN V hk]
 unfold pT
 rw [List.map_append, List.map_singleton, uQ, List.length_map, Nat.zero_add]
 rfl
end
section
open Go.RowKit
attribute [local go_sem] Oper.semAt_some
structure GrpB where
 g : Nat
 nb : Nat
 bb : Nat
 tb : Nat
 tot : Nat
 kb : Nat
 ab : Nat
def kT (k : Int) : Nat := if k = 4 then 166 else if k = 5 then 168 else 170
def kR (k : Int) : Nat := if k = 4 then 167 else if k = 5 then 169 else 172
def fM (b : Nat) : Value := .pointer (some ⟨b, 0, none⟩)
def nN (k : Int) (b : GrpB) : Array Value := if k = 4 then #[fM b.nb] else if k = 5 then #[fM b.ab, fM b.tb] else #[fM b.ab, fM b.bb, fM b.nb, fM b.kb]
def nM (k : Int) (b : GrpB) : Array Value := if k = 4 then #[fM b.nb] else if k = 5 then #[fM b.tb] else #[fM b.bb]
def wR (k : Int) (b : GrpB) : Value := .func (Fn.func (kT k)) #[] (nN k b)
def wQ (k : Int) (b : GrpB) : Value := .func (Fn.func (kR k)) #[] (nM k b)
theorem aIq (k : Int) : ∀ args w, (callFunc (kT k) args).run Tryz.prog w = .ok (Next.enter (kT k) args) w := by
 unfold kT
 split
 ·exact enters_of Tryz.func166 (by kernel_rfl) rfl
 ·split
  ·exact enters_of Tryz.func168 (by kernel_rfl) rfl
  ·exact enters_of Tryz.func170 (by kernel_rfl) rfl
theorem aIn (k : Int) : ∀ args w, (callFunc (kR k) args).run Tryz.prog w = .ok (Next.enter (kR k) args) w := by
 unfold kR
 split
 ·exact enters_of Tryz.func167 (by kernel_rfl) rfl
 ·split
  ·exact enters_of Tryz.func169 (by kernel_rfl) rfl
  ·exact enters_of Tryz.func172 (by kernel_rfl) rfl
def sR (k : Int) (B : aC) : Int := if k = 4 then B.length else if k = 5 then 0 else if B = [] then 0 else 1
def tO (k : Int) (at_ : Nat) (B : aC) : Int := if k = 5 then jG at_ B else 0
def jE (k : Int) (at_ : Nat) (B : aC) : ByteArray := if k = 4 \/ k = 5 then ByteArray.empty else lO k at_ B
structure GroupAt (W : World) (b : GrpB) (k : Int) (at_ : Int) (rv : Value) (B : aC) : Prop where
 blk : Blk W b.g [rv, wR k b, wQ k b] 128
 cnt : Blk W b.nb [.int .i64 (sR k B)] 2
 best : Blk W b.bb [.string (jE k at_.toNat B)] 9
 tbox : Blk W b.tb [.pointer (some ⟨b.tot, 0, none⟩)] 24
 tot : TotalAt W b.tot (tO k at_.toNat B)
 kind : Blk W b.kb [.int .i64 k] 3
 plc : Blk W b.ab [.int .i64 at_] 3
def GrpB.own (b : GrpB) : Nat -> Prop := fun k => k = b.g \/ k = b.nb \/ k = b.bb \/ k = b.tb \/ k = b.tot \/ k = b.kb \/ k = b.ab
theorem GroupAt.kp {W W' : World} {F : Nat -> Prop} {b : GrpB} {k at_ : Int} {rv : Value} {B : aC} (h : GroupAt W b k at_ rv B) (hk : Kp F W W') (hF : ∀ k, b.own k -> ¬ F k) : GroupAt W' b k at_ rv B :=
 ⟨h.blk.kp hk (hF _ (.inl rfl)), h.cnt.kp hk (hF _ (.inr (.inl rfl))), h.best.kp hk (hF _ (.inr (.inr (.inl rfl)))), h.tbox.kp hk (hF _ (.inr (.inr (.inr (.inl rfl))))), h.tot.kp hk (hF _ (.inr (.inr (.inr (.inr (.inl rfl)))))), h.kind.kp hk (hF _ (.inr (.inr (.inr (.inr (.inr (.inl rfl))))))), h.plc.kp hk (hF _ (.inr (.inr (.inr (.inr (.inr (.inr rfl))))))) ⟩
theorem GroupAt.ext {W W' : World} {b : GrpB} {k at_ : Int} {rv : Value} {B : aC} (h : GroupAt W b k at_ rv B) (hk : Ext W W') : GroupAt W' b k at_ rv B := h.kp hk fun _ _ => id
theorem GroupAt.lt {W : World} {b : GrpB} {k at_ : Int} {rv : Value} {B : aC} (h : GroupAt W b k at_ rv B) : ∀ k, b.own k -> k < W.heap.size /\ ∃ o : Obj, W.heap[k]? = some o /\ o.isCells = true := fun q hq => by
 rcases hq with rfl | rfl | rfl | rfl | rfl | rfl | rfl
 ·exact ⟨h.blk.lt, _, h.blk, rfl⟩
 ·exact ⟨h.cnt.lt, _, h.cnt, rfl⟩
 ·exact ⟨h.best.lt, _, h.best, rfl⟩
 ·exact ⟨h.tbox.lt, _, h.tbox, rfl⟩
 ·exact ⟨Blk.lt h.tot, _, h.tot, rfl⟩
 ·exact ⟨h.kind.lt, _, h.kind, rfl⟩
 ·exact ⟨h.plc.lt, _, h.plc, rfl⟩
theorem aFe (k : Int) (at_ : Nat) (V : List ByteArray) : ∀ (B : aC), B ≠ [] -> lO k at_ (B ++ [V]) = if (k = 6 /\ Op.bytesLess (aZ V at_).toList (lO k at_ B).toList = true) \/ (k = 7 /\ Op.bytesLess (lO k at_ B).toList (aZ V at_).toList = true) then aZ V at_ else lO k at_ B
 | [], h => absurd rfl h
 | U :: B, _ => by
  unfold lO
  rw [List.cons_append]
  simp only
  rw [List.foldl_append]
  rfl
theorem aGn (at_ : Nat) (B : aC) (V : List ByteArray) : jG at_ (B ++ [V]) = jG at_ B + (aBa at_ V).1 := by unfold jG; simp
end
section
theorem aL7 {W : aC} {d : Nat} (hW : WaysOk W d) {q : List ByteArray} {a b : Nat} (h : SpanOf W d q a b) (hq : q.length < d) : CurOk ⟨bJ W d q.length W.length, a, b⟩ :=
 ⟨h.le.1, by show b ≤ (bJ W d q.length W.length).length; rw [eJ]; exact h.le.2, fun k l x y h1 h2 h3 h4 h5 => h.rise hW hq h1 h2 h3 h4 h5⟩
theorem aFb {W : aC} {d : Nat} (hW : WaysOk W d) {q : List ByteArray} {a b : Nat} (h : SpanOf W d q a b) (hq : q.length < d) {r : List ByteArray} {x : ByteArray} (hr : r ∈ W) (he : r.take (q.length + 1) = q ++ [x]) : kM ⟨bJ W d q.length W.length, a, b⟩ a x := by
 obtain ⟨k, h1, h2, h3⟩ := h.all hW hq hr he
 exact ⟨k, h1, h2, h3⟩
def pV (N : List ByteArray) (t : aE) : Int := if t.1 = 1 /\ kK N t.2.1 = true then ((N.findIdx fun s => decide (s = t.2.1) : Nat) : Int) else -1
def iW (N : List ByteArray) (l : aM) : Int :=
 if l.1 = 2 then match (aV N (aB l)).getLast? with | some v => (v : Int) | none => -1
 else max (pV N (leftOf l)) (pV N (aS l))
theorem aB4 {V V' : List ByteArray} {k v : Nat} (h : V.take k = V'.take k) (hv : v < k) : aZ V v = aZ V' v := by
 unfold aZ
 rw [List.getD_eq_getElem?_getD, List.getD_eq_getElem?_getD, <- List.getElem?_take_of_lt hv, h, List.getElem?_take_of_lt hv]
theorem aAg {N V V' : List ByteArray} {k : Nat} (h : V.take k = V'.take k) {t : aE} (hk : pV N t < k) (hin : t.1 = 1 -> t.2.1 ∈ N) : lS N V t = lS N V' t := by
 unfold lS
 split
 ·rename_i h1
  refine aB4 h ?_
  unfold pV at hk
  rw [if_pos ⟨h1, cJ.2 (hin h1)⟩] at hk
  omega
 ·rfl
theorem aH5 {N V V' : List ByteArray} {R : aC} {l : aM} {k : Nat} (h : V.take k = V'.take k) (h1 : l.1 ≠ 1) (hk : iW N l < k) (hin : l.1 ≠ 2 -> (leftOf l).1 = 1 -> (leftOf l).2.1 ∈ N) (hin2 : l.1 ≠ 2 -> (aS l).1 = 1 -> (aS l).2.1 ∈ N) : jF N V R l ↔ jF N V' R l := by
 unfold jF
 rw [if_neg h1, if_neg h1]
 by_cases h2 : l.1 = 2
 ·rw [if_pos h2, if_pos h2]
  unfold iW at hk
  rw [if_pos h2] at hk
  have e : (aV N (aB l)).map (aZ V) = (aV N (aB l)).map (aZ V') := by
   refine List.map_congr_left fun v hv => aB4 h ?_
   obtain ⟨j, hj⟩ := List.mem_iff_getElem?.1 hv
   have hjl := List.getElem?_eq_some_iff.1 hj
   have hlast : (aV N (aB l)).getLast? = (aV N (aB l))[(aV N (aB l)).length - 1]? := List.getLast?_eq_getElem?
   obtain ⟨u, hu⟩ : ∃ u, (aV N (aB l))[(aV N (aB l)).length - 1]? = some u := ⟨_, qG (by have := hjl.1; omega)⟩
   rw [hlast, hu] at hk
   have hul := List.getElem?_eq_some_iff.1 hu
   have hk' : (u : Int) < k := hk
   rcases Nat.lt_or_ge j ((aV N (aB l)).length - 1) with h3 | h3
   ·have := List.pairwise_iff_getElem.1 (wL N (aB l)) j _ hjl.1 hul.1 h3
    rw [hjl.2, hul.2] at this
    omega
   ·have : j = (aV N (aB l)).length - 1 := by have := hjl.1; omega
    subst this
    rw [hj] at hu; cases hu
    omega
  rw [e]
 ·rw [if_neg h2, if_neg h2]
  unfold iW at hk
  rw [if_neg h2] at hk
  rw [aAg h (by omega) (hin h2), aAg h (by omega) (hin2 h2)]
theorem aF9 {N : List ByteArray} {l : aM} : iW N l < N.length := by
 have hi : ∀ t, pV N t < N.length := fun t => by
  unfold pV
  split
  ·rename_i h
   have := (List.getElem?_eq_some_iff.1 (aEs (cJ.1 h.2))).1
   omega
  ·omega
 unfold iW
 split
 ·split
  ·rename_i v hv
   have := (dC.1 (List.mem_of_getLast? hv)).1
   omega
  ·omega
 ·have h1 := hi (leftOf l)
  have h2 := hi (aS l)
  omega
end
section
open Go.RowKit
def bI {α : Type} (q : α -> Bool) (l : List α) : Int := if l.any q = true then ((l.findIdx q : Nat) : Int) else -1
theorem xR {α : Type} {q : α -> Bool} {l : List α} {i : Nat} {u : α} (hno : ∀ (j : Nat) x, j < i -> l[j]? = some x -> q x = false) (hi : l[i]? = some u) (hq : q u = true) : bI q l = i := by
 unfold bI
 rw [if_pos (nG hi hq)]
 have hl := List.getElem?_eq_some_iff.1 hi
 congr 1
 have h1 : l.findIdx q ≤ i := by
  refine Nat.not_lt.1 fun h => ?_
  have := List.not_of_lt_findIdx h
  rw [hl.2, hq] at this
  exact absurd this (by simp)
 rcases Nat.lt_or_eq_of_le h1 with h2 | h2
 ·have h3 : l.findIdx q < l.length := Nat.lt_trans h2 hl.1
  have h4 := List.findIdx_getElem (w := h3)
  rw [hno _ _ h2 (qG h3)] at h4
  cases h4
 ·exact h2
theorem sB {α : Type} {q : α -> Bool} {l : List α} (hno : ∀ (j : Nat) x, j < l.length -> l[j]? = some x -> q x = false) : bI q l = -1 := by
 unfold bI
 rw [rH rfl hno]; rfl
set_option maxHeartbeats 1000000 in
theorem fB (ss : List ByteArray) (s : ByteArray) (ao : Option Addr) (n cap : Nat) (w : World) (hn : n = ss.length) (h : CellsAt w ao (strs ss)) (hl : n ≤ 4611686018427387904) :
 Calls Tryz.prog 114 #[.slice ao n cap, .string s] w (RetN w fun w' v => v = .int .i64 (bI (fun x => decide (x = s)) ss)) := by
 have HN := qH hn; have HE := qH h; clear hn h
 go_enter Tryz.func114, Tryz.ntmps114
 go_wp2
 go_loopw [8] (fun iv wr => aLt w ss s n iv wr) (fun iv _ => n - (intOf iv).toNat)
 case atStart => exact ⟨0, Nat.zero_le _, rfl, fun j u h => by omega, Kp.refl w⟩
 case round =>
  obtain ⟨i, hi, rfl, hno, hex⟩ := hrel
  by_cases hlt : i < n
  ·have hlt' : i < ss.length := by rw [<- HN.out]; exact hlt
   obtain ⟨b, off, eao, hc0⟩ := (HE.out.ext hex.out).str hlt'
   subst eao
   have ht : ss[i]? = some ss[i] := qG hlt'
   generalize ss[i] = u at *
   by_cases hu : s = u
   ·have HT := qH (And.intro ht hu)
    clear ht hlt'
    subst hu
    have hb := str_eq s
    go_wp2
    go_ret
    exact RetN.mk hex.out (by rw [xR hno.out HT.out.1 (by simp)]; rfl)
   ·have HT := qH (And.intro ht hu)
    have hb := kU hu
    clear ht hlt' hu
    go_wp2
    go_roundw
    case rel =>
     refine ⟨i + 1, by omega, by first | rfl | (congr 1; done) | (congr 1; omega), fun j u hj hu => ?_, hex⟩
     by_cases e : j = i
     ·subst e; rw [HT.out.1] at hu; cases hu; exact decide_eq_false (fun e => HT.out.2 e.symm)
     ·exact hno.out j u (by omega) hu
    case measure => simp [intOf]; omega
  ·go_wp2
   go_ret
   exact RetN.mk hex.out (by rw [sB fun j u hj => hno.out j u (by have := HN.out; omega)]; rfl)
def isT (k : Int) (s : ByteArray) (t : aE) : Bool := decide (t.1 = k /\ t.2.1 = s)
def NoneX (w0 : World) (ts : List aE) (q : aE -> Bool) (n : Nat) (iv : Value) (w : World) : Prop := ∃ i : Nat, i ≤ n /\ iv = .int .i64 i /\ Hid (∀ (j : Nat) u, j < i -> ts[j]? = some u -> q u = false) /\ Hid (Ext w0 w)
set_option maxHeartbeats 2000000 in
theorem mU (ts : List aE) (k : Int) (s : ByteArray) (ao : Option Addr) (n cap : Nat) (w : World) (G : Nat -> Prop) (hn : n = ts.length) (h : aU w G ao ts) (hl : n ≤ 1048576) :
 Calls Tryz.prog 224 #[.slice ao n cap, wP k s] w (RetN w fun w' v => v = .int .i64 (bI (isT k s) ts)) := by
 have HN := qH hn; have HE := qH h; clear hn h
 go_enter Tryz.func224, Tryz.ntmps224
 obtain ⟨w1, e1⟩ : ∃ w1, w.alloc (.cells #[.int .i64 k, .string s] 58) = w1 := ⟨_, rfl⟩
 obtain ⟨g0, eg0⟩ : ∃ g, w.heap.size = g := ⟨_, rfl⟩
 have hB : Blk w1 g0 [.int .i64 k, .string s] 58 := by rw [<- e1, <- eg0]; exact Blk.new w _ _
 have hx : Ext w w1 := by rw [<- e1]; exact (Kp.refl w).alloc _
 have H1 := qH (And.intro hx hB)
 clear hx hB
 go_wp2
 clear e1 eg0
 go_loopw [8] (fun iv wr => NoneX w1 ts (isT k s) n iv wr) (fun iv _ => n - (intOf iv).toNat)
 case atStart => exact ⟨0, Nat.zero_le _, rfl, fun j u h => by omega, Kp.refl w1⟩
 case round =>
  obtain ⟨i, hi, rfl, hno, hex⟩ := hrel
  by_cases hlt : i < n
  ·obtain ⟨t, ht⟩ : ∃ t, ts[i]? = some t := ⟨_, qG (by rw [<- HN.out]; exact hlt)⟩
   obtain ⟨b, off, eao, f0, f1, -, -⟩ := dU ((HE.out.ext H1.out.1).ext hex.out) ht
   subst eao
   have hB := H1.out.2.ext hex.out
   have b0 := hB.c0
   have b1 := hB.c1
   obtain ⟨kt, st, ⟨⟩⟩ := t
   simp only at f0 f1
   clear hB
   by_cases hq : kt = k /\ st = s
   ·have HT := qH (And.intro ht (show isT k s (kt, st, ()) = true from decide_eq_true hq))
    obtain ⟨rfl, rfl⟩ := hq
    have hb := str_eq st
    clear ht
    go_wp2
    go_quiet (fail)
    go_wp2
    go_ret
    exact RetN.mk ((H1.out.1.trans hex.out).drewN _) (by rw [xR hno.out HT.out.1 HT.out.2]; rfl)
   ·have HT := qH (And.intro ht (show isT k s (kt, st, ()) = false from decide_eq_false hq))
    clear ht
    by_cases h1 : k = kt
    ·subst h1
     have hb := kU (a := s) (b := st) (fun e => hq ⟨rfl, e.symm⟩)
     have hb2 : (k == k) = true := by simp
     clear hq
     go_wp2
     go_quiet (fail)
     go_wp2
     go_roundw
     case rel =>
      refine ⟨i + 1, by omega, by first | rfl | (congr 1; done) | (congr 1; omega), fun j u hj hu => ?_, qH (hex.out.drewN _)⟩
      by_cases e : j = i
      ·subst e; rw [HT.out.1] at hu; cases hu; exact HT.out.2
      ·exact hno.out j u (by omega) hu
     case measure => simp [intOf]; omega
    ·have hb : (k == kt) = false := by simp [h1]
     clear hq h1
     go_wp2
     go_quiet (fail)
     go_wp2
     go_roundw
     case rel =>
      refine ⟨i + 1, by omega, by first | rfl | (congr 1; done) | (congr 1; omega), fun j u hj hu => ?_, qH (hex.out.drewN _)⟩
      by_cases e : j = i
      ·subst e; rw [HT.out.1] at hu; cases hu; exact HT.out.2
      ·exact hno.out j u (by omega) hu
     case measure => simp [intOf]; omega
  ·go_wp2
   go_ret
   exact RetN.mk (H1.out.1.trans hex.out) (by rw [sB fun j u hj => hno.out j u (by have := HN.out; omega)]; rfl)
theorem vP (ts : List aE) (k : Int) (s : ByteArray) (ao : Option Addr) (n cap : Nat) (w : World) (G : Nat -> Prop) (hn : n = ts.length) (h : aU w G ao ts) (hl : n ≤ 1048576) :
 Calls Tryz.prog 222 #[.slice ao n cap, wP k s] w (RetN w fun w' v => v = .bool (ts.any (isT k s))) := by
 have HI := qH (fun W (hW : Ext w W) => mU ts k s ao n cap W G hn (h.ext hW) hl)
 clear hn h hl
 go_enter Tryz.func222, Tryz.ntmps222
 obtain ⟨w1, e1⟩ : ∃ w1, w.alloc (.cells #[.int .i64 k, .string s] 58) = w1 := ⟨_, rfl⟩
 obtain ⟨g0, eg0⟩ : ∃ g, w.heap.size = g := ⟨_, rfl⟩
 have hB : Blk w1 g0 [.int .i64 k, .string s] 58 := by rw [<- e1, <- eg0]; exact Blk.new w _ _
 have hx : Ext w w1 := by rw [<- e1]; exact (Kp.refl w).alloc _
 have b0 := hB.c0
 have b1 := hB.c1
 have H1 := qH hx
 clear hx hB
 go_wp2_with fail
 refine (HI.out w1 H1.out).mono ?_
 rintro e w2 ⟨v, rfl, hk, rfl⟩
 go_wp2
 go_ret
 refine RetN.mk (H1.out.trans hk) (congrArg Value.bool ?_)
 unfold bI
 cases h2 : ts.any (isT k s)
 ·simp
 ·simp
end
section
theorem aEd : BaseOk [] := ⟨List.nodup_nil, fun p hp => by simp at hp, Nat.zero_le _⟩
end
section
open Go.RowKit
section
variable {w w' : World} {bb r : Nat} {n : Int} {m : List (ByteArray × Value)}
theorem fE (hB : Blk w bb [.map (some r), .int .i64 n] 153) (hm : MapIs w r m) (s : ByteArray) (p : Option Addr) :
 Calls Tryz.prog 103 #[.pointer (some ⟨bb, 0, none⟩), .string s, .pointer p] w (RetF (fun k => k = r) w fun w' v => MapIs w' r (lC m s (.pointer p))) := by
 have c0 := hB.c0
 obtain ⟨w2, hrun, hm2, hk2⟩ := mG (P := Tryz.prog) Tryz.underlying151 Tryz.underlying9 hm s (.pointer p)
 have hq : ∀ w : World, (binOp .eql 151 (.map (some r)) (.map none)).run Tryz.prog w = .ok (.bool false) w := fun w => by kernel_rfl
 have HM := qH (And.intro hm2 hk2)
 clear hB hm hm2 hk2
 go_enter Tryz.func103, Tryz.ntmps103
 go_wp2
 go_end0
 exact RetF.mk HM.out.2 HM.out.1
theorem aBd (w : World) : Calls Tryz.prog 55 #[] w (RetN w fun w' v => v = .pointer (some ⟨w.heap.size + 1, 0, none⟩) /\ Blk w' (w.heap.size + 1) [.map (some w.heap.size), .int .i64 0] 153 /\ MapIs w' w.heap.size []) := by
 have hmm := @run_makeMap Tryz.prog
 go_enter Tryz.func55, Tryz.ntmps55
 go_wp2
 go_ret
 have hB := Blk.new (w.alloc (.map #[] 0)) [.map (some w.heap.size), .int .i64 0] 153
 rw [aI] at hB
 exact RetN.mk (((Kp.refl w).alloc _).alloc _) ⟨rfl, hB, (MapIs.new w).ext ((Kp.refl _).alloc _)⟩
end
def RowsQ (z : Prop) (S : Nat -> Prop) (w : World) (b : Nat) (iv : Value) (arity : Nat) (LL : List (List ByteArray)) : Prop :=
 RowsAt S w b iv arity LL \/ (z /\ iv = .slice none 0 0 /\ LL = [] /\ Blk w b [.nilFunc, .slice none 0 0, .int .i64 arity] 138 /\ (∀ k, S k -> k < w.heap.size) /\ ¬ S b)
abbrev FQ (z : Prop) (b : Nat) : Nat -> Prop := fun k => z /\ k = b
theorem FQ.owns {z : Prop} {b : Nat} {iv : Value} : ∀ k, FQ z b k -> bN b iv k := fun k h => .inl h.2
theorem Kp.fq {b : Nat} {w w' : World} (h : Kp (FQ False b) w w') : Ext w w' := h.mono fun _ _ h => h.1
section
variable {z : Prop} {S : Nat -> Prop} {w w' : World} {b : Nat} {iv : Value} {arity : Nat} {LL : List (List ByteArray)}
theorem RowsAt.q (h : RowsAt S w b iv arity LL) : RowsQ z S w b iv arity LL := .inl h
theorem RowsQ.kp {F : Nat -> Prop} (h : RowsQ z S w b iv arity LL) (hk : Kp F w w') (hF : ∀ k, F k -> ¬ bN b iv k) (hS : ∀ k, F k -> ¬ S k) : RowsQ z S w' b iv arity LL := by
 rcases h with h | ⟨hz, e, el, hB, h1, h2⟩
 ·exact .inl (h.move hk hF hS (fun _ h => h) (fun k hk' => Nat.lt_of_lt_of_le (h.inS k hk') hk.size) h.notS)
 ·exact .inr ⟨hz, e, el, hB.kp hk (fun hf => hF _ hf (.inl rfl)), fun k hk' => Nat.lt_of_lt_of_le (h1 k hk') hk.size, h2⟩
theorem RowsQ.ext (h : RowsQ z S w b iv arity LL) (hk : Ext w w') : RowsQ z S w' b iv arity LL := h.kp hk (fun _ x => x.elim) (fun _ x => x.elim)
theorem RowsQ.blk' (h : RowsQ z S w b iv arity LL) : ∃ ov, Blk w b [ov, iv, .int .i64 arity] 138 := by
 rcases h with h | ⟨_, e, _, hB, _⟩
 ·exact ⟨_, h.blk⟩
 ·exact ⟨_, by rw [e]; exact hB⟩
theorem RowsQ.lt (h : RowsQ z S w b iv arity LL) : b < w.heap.size := by obtain ⟨ov, h⟩ := h.blk'; exact h.lt
theorem RowsQ.ar (h : RowsQ z S w b iv arity LL) : w.cell? ⟨b, 2, none⟩ = some (.int .i64 arity) := by obtain ⟨ov, h⟩ := h.blk'; rw [h.cell']; rfl
theorem RowsQ.inS (h : RowsQ z S w b iv arity LL) : ∀ k, S k -> k < w.heap.size := by
 rcases h with h | ⟨_, _, _, _, h, _⟩
 ·exact h.inS
 ·exact h
theorem RowsQ.notS (h : RowsQ z S w b iv arity LL) : ∀ k, bN b iv k -> ¬ S k := by
 rcases h with h | ⟨_, rfl, _, _, _, h⟩
 ·exact h.notS
 ·intro k hk hs
  rcases hk with rfl | hk
  ·exact h hs
  ·cases hk
theorem fX (h : RowsQ z S w b iv arity LL) :
 Calls Tryz.prog 70 #[.pointer (some ⟨b, 0, none⟩)] w (RetF (FQ z b) w fun w' v => v = .pointer (some ⟨b, 0, none⟩) /\ RowsAt S w' b iv arity LL) := by
 rcases h with h | ⟨hz, rfl, rfl, hB, h1, h2⟩
 ·refine (gH h).mono ?_
  rintro e w' ⟨rfl, rfl⟩
  exact RetF.mk (Kp.refl _) ⟨rfl, h⟩
 ·have c0 := hB.c0
  have f0 := hB.free 0
  have hq : ∀ w : World, (binOp .eql 132 .nilFunc .nilFunc).run Tryz.prog w = .ok (.bool true) w := fun _ => by kernel_rfl
  have HB := qH (And.intro hB (And.intro h1 h2))
  have HZ := qH hz
  clear hB h1 h2 hz
  go_enter Tryz.func70, Tryz.ntmps70
  go_wp2
  go_ret
  obtain ⟨hB, h1, h2⟩ := HB.out
  have hset := hB.set 0 (.func (Fn.func 120) #[] #[])
  have hk : Kp (FQ z b) w (w.setCell ⟨b, 0, none⟩ (.func (Fn.func 120) #[] #[])) := Kp.setCell (Kp.refl w) (fun _ => ⟨HZ.out, rfl⟩) _
  obtain ⟨con, hc⟩ := rB (w.setCell ⟨b, 0, none⟩ (.func (Fn.func 120) #[] #[]))
  refine RetF.mk hk ⟨rfl, con, [], hc, ⟨hset, Row.nil _ _ _ _, by simp [Value.ownBlock], fun k hk' => Nat.lt_of_lt_of_le (h1 k hk') hk.size, fun k ho hs => ?_, gG hc, by simp, by simp⟩, rfl⟩
  rcases ho with rfl | ho
  ·exact h2 hs
  ·cases ho
theorem nP (h : RowsQ z S w b iv arity LL) : Calls Tryz.prog 36 #[.pointer (some ⟨b, 0, none⟩)] w (RetF (FQ z b) w fun w' v => v = .int .i64 (LL.length : Nat) /\ RowsAt S w' b iv arity LL) := by
 have HS := qH (fX h); clear h
 go_enter Tryz.func36, Tryz.ntmps36
 go_wp2_with fail
 refine HS.out.mono ?_
 rintro e w1 ⟨v, rfl, hk, rfl, h1⟩
 have HK := qH (And.intro hk h1)
 obtain ⟨con, zs, hc, hs, hl⟩ := h1
 have HS1 := qH hs
 have HL := qH (show zs.length = LL.length by rw [<- hl]; simp)
 clear hk hs hc hl
 go_wp2_with fail
 refine (oE HS1.out).mono ?_
 rintro e w' ⟨rfl, rfl⟩
 go_wp2
 go_ret
 exact RetF.mk HK.out.1 ⟨by rw [<- HL.out]; rfl, HK.out.2⟩
theorem RowIn.kp {F : Nat -> Prop} {x : eZ} {ss : List ByteArray} (h : RowIn w x ss) (hk : Kp F w w') (ho : gC x F) : RowIn w' x ss :=
 ⟨⟨h.1.1, fun i u hu => by
  have hne : x.2.1 ≠ 0 := by
   have h1 := (List.getElem?_eq_some_iff.1 hu).1
   simp only [strs, List.length_map] at h1
   rw [h.1.1]; omega
  obtain ⟨b, o, e, c⟩ := h.1.2 i u hu
  exact ⟨b, o, e, hk.cell c (ho _ e hne)⟩⟩, h.2.1, fun a e hne => Nat.lt_of_lt_of_le (h.2.2 a e hne) hk.size⟩
theorem aGt (h : RowsQ z S w b iv arity LL) (hst : Strict aD LL) {x : eZ} {ss : List ByteArray} (hx : RowIn w x ss) (ho : gC x (bN b iv)) :
 Calls Tryz.prog 77 #[.pointer (some ⟨b, 0, none⟩), .slice x.1 x.2.1 x.2.2] w (RetF (FQ z b) w fun w' v => v = .bool (bA aD LL ss) /\ RowsAt S w' b iv arity LL) := by
 have HS := qH (fX h); clear h
 have HX := qH (And.intro hst (And.intro hx ho)); clear hst hx ho
 go_enter Tryz.func77, Tryz.ntmps77
 go_wp2_with fail
 refine HS.out.mono ?_
 rintro e w1 ⟨v, rfl, hk, rfl, h1⟩
 have hx1 := HX.out.2.1.kp hk (fun a e hne hf => HX.out.2.2 a e hne (.inl hf.2))
 obtain ⟨con, zs, hc, hs, hl, hd, ex, hz, e1, e2⟩ := h1.open HX.out.1 hx1 HX.out.2.2
 have HF := qH (oF (jB con) x hd hz hs)
 rw [e1] at HF
 have HK := qH (And.intro hk h1)
 clear hc hs hl hd ex hz e1 e2 hk h1 hx1
 go_wp2_with fail
 refine HF.out.mono ?_
 rintro e w2 ⟨v, rfl, hk2, rfl⟩
 have HK2 := qH hk2; clear hk2
 go_wp2
 go_ret
 exact RetF.mk (HK.out.1.ext HK2.out) ⟨rfl, HK.out.2.ext HK2.out⟩
theorem aAx (h : RowsQ z S w b iv arity LL) : Calls Tryz.prog 48 #[.pointer (some ⟨b, 0, none⟩)] w (Ret (.int .i64 arity) w) := by
 have c2 := h.ar
 clear h
 go_enter Tryz.func48, Tryz.ntmps48
 go_wp2
 go_ret
 exact Ret.mk rfl
def nQ (arity : Nat) (LL : List (List ByteArray)) (ss : List ByteArray) : Bool × Nat := if ss.length ≠ arity then (false, 30) else (bA aD LL ss, 0)
def fY (arity : Nat) (LL : List (List ByteArray)) (ss : List ByteArray) : List (List ByteArray) := if ss.length ≠ arity then LL else jA aD LL ss
theorem aHp {α β : Type} {c : α -> α -> Int} (f : β -> α) (L : List β) (i : β) : jA c (L.map f) (f i) = (jA (fun i j => c (f i) (f j)) L i).map f := by
 have e1 : bA c (L.map f) (f i) = bA (fun i j => c (f i) (f j)) L i := by simp [bA, List.any_map, Function.comp_def]
 have e2 : below c (L.map f) (f i) = below (fun i j => c (f i) (f j)) L i := by simp [below, List.filter_map, Function.comp_def]
 unfold jA
 rw [e1, e2]
 split <;> simp
end
section
variable {z : Prop} {S : Nat -> Prop} {w w' : World} {b : Nat} {iv : Value} {arity : Nat} {LL : List (List ByteArray)}
def RowsAddedQ (z : Prop) (S : Nat -> Prop) (w : World) (b : Nat) (iv : Value) (arity : Nat) (LL : List (List ByteArray)) (ss : List ByteArray) (w' : World) (v : Value) : Prop :=
 v = .tuple #[.bool (aL arity LL ss).1, .int .i64 ((aL arity LL ss).2 : Nat)] /\
  ∃ S' iv', (∀ k, S k -> S' k) /\ (∀ k, S' k -> S k \/ w.heap.size ≤ k) /\ RowsQ z S' w' b iv' arity (aX arity LL ss) /\ ∀ k, iv'.ownBlock = some k -> iv.ownBlock = some k \/ w.heap.size ≤ k
theorem RowsAddedQ.same (h : RowsQ z S w b iv arity LL) {ss : List ByteArray} {w1 : World} (hk : Ext w w1) {v : Value} (hv : v = .tuple #[.bool (aL arity LL ss).1, .int .i64 ((aL arity LL ss).2 : Nat)]) (h0 : aX arity LL ss = LL) : RowsAddedQ z S w b iv arity LL ss w1 v :=
 ⟨hv, S, iv, fun _ h => h, fun _ h => .inl h, by rw [h0]; exact h.ext hk, fun _ h => .inl h⟩
set_option maxHeartbeats 2000000 in
theorem nR (h : RowsQ z S w b iv arity LL) (hst : Strict aD LL) {ao : Option Addr} {n cap : Nat} {ss : List ByteArray} (hx : RowIn w (ao, n, cap) ss) (ho : gC (ao, n, cap) (bN b iv)) (hLL : LL.length + 1 ≤ 1048576 * 1048576) :
 Calls Tryz.prog 39 #[.pointer (some ⟨b, 0, none⟩), .slice ao n cap] w (RetF (bN b iv) w (RowsAddedQ z S w b iv arity LL ss)) := by
 rcases h with h | h0
 ·refine (mK h hst hx ho hLL).mono ?_
  rintro e w' ⟨v, rfl, hk, e1, S', iv', h1, h2, h3, h4⟩
  exact RetF.mk hk ⟨e1, S', iv', h1, h2, .inl h3, h4⟩
 have eLL : LL = [] := h0.2.2.1
 have h : RowsQ z S w b iv arity LL := .inr h0
 clear h0
 subst eLL
 have hn : n = ss.length := hx.1.1
 have hcs : CellsAt w ao (strs ss) := hx.1.2
 have hl : ss.length ≤ 8796093021952 := hx.2.1
 have c2 : w.cell? ⟨b, 2, none⟩ = some (.int .i64 arity) := h.ar
 have HT := qH (qJ ss ao n cap w hn hcs (by omega))
 have HLN := qH (fun w1 (hw : Ext w w1) => nP (h.ext hw))
 have hob : gC (ao, n, cap) (FQ z b) := fun a e hne hf => ho a e hne (.inl hf.2)
 have HCL := qH (fun w1 (hw : Kp (FQ z b) w w1) => iF (strs ss) ao cap w1 n (by simp [strs, hn]) (RowIn.kp hx hw hob).1.2 (pB ss) (by omega))
 have HP := qH (fun w0 w1 ao1 cap1 (h0 : RowsAt S w0 b iv arity []) (hk : Ext w0 w1) hr => aF1 (w := w0) (w1 := w1) (ao := ao1) (n := n) (cap := cap1) h0 hst hk hr hn (by omega) hLL)
 have H := qH h
 have HN := qH hn
 clear h hst hx ho hcs hn hLL hob
 by_cases h1 : n = arity
 ·have q1 : ((n : Int) != (arity : Int)) = false := by simp [h1]
  have H1 := qH h1; clear h1
  cases ht : bW ss with
  | false =>
   have HTX := qH ht
   rw [ht] at HT; clear ht
   go_enter Tryz.func39, Tryz.ntmps39
   go_wp2_with fail
   refine HT.out.mono ?_
   rintro e w1 ⟨v, rfl, hk, rfl⟩
   have HK := qH hk; clear hk
   go_wp2
   go_ret2
   have e0 : aL arity [] ss = (false, 31) := by unfold aL; rw [if_neg (by rw [<- HN.out, H1.out]; simp), if_pos HTX.out]
   exact RetF.mk (Ext.kp HK.out) (RowsAddedQ.same H.out HK.out (by rw [e0]; rfl) (by unfold aX; rw [e0]; rfl))
  | true =>
   have HTX := qH ht
   rw [ht] at HT; clear ht
   go_enter Tryz.func39, Tryz.ntmps39
   go_wp2_with fail
   refine HT.out.mono ?_
   rintro e w0 ⟨v, rfl, hk0, rfl⟩
   have HK0 := qH hk0; clear hk0
   go_wp2_with fail
   refine (HLN.out w0 HK0.out).mono ?_
   rintro e w1 ⟨v, rfl, hk1, rfl, hr1⟩
   have HK1 := qH (And.intro hk1 hr1); clear hk1 hr1
   go_wp2_with fail
   refine (gH HK1.out.2).mono ?_
   rintro e w' ⟨rfl, rfl⟩
   go_wp2_with fail
   refine (HCL.out w1 ((Ext.kp HK0.out).trans HK1.out.1)).mono ?_
   rintro e w2 ⟨v, rfl, hk2, hr2⟩
   obtain ⟨ao2, cap2, ev, _, _⟩ := hr2.shape
   subst ev
   go_wp2_with fail
   refine (HP.out w1 w2 ao2 cap2 HK1.out.2 hk2 hr2).mono ?_
   rintro e w3 ⟨v, rfl, hk3, rfl, iv', hrows, hiv⟩
   have HR := qH (And.intro hk3 (And.intro hrows hiv))
   have HB := qH (And.intro hk2 hr2.block)
   clear hk3 hrows hiv hr2 hk2
   go_wp2
   go_ret2
   have e0 : aL arity [] ss = (!bA aD [] ss, 0) := by unfold aL; rw [if_neg (by rw [<- HN.out, H1.out]; simp), if_neg (by rw [HTX.out]; simp), if_neg (fun h => by simp at h)]
   have z0 := HK0.out.size
   have z1 := HK1.out.1.size
   have z2 := HB.out.1.size
   refine RetF.mk ((((Ext.kp HK0.out).trans (HK1.out.1.mono fun k _ h => FQ.owns k h)).trans (Ext.kp HB.out.1)).trans HR.out.1) ⟨by rw [e0]; rfl, gY S (ao2, n, cap2), iv', fun k h => .inl h, fun k h => ?_, .inl (by unfold aX; rw [e0]; exact HR.out.2.1), fun k h => (HR.out.2.2 k h).imp id (fun h => by omega)⟩
   rcases h with h | ⟨a, e, _, rfl⟩
   ·exact .inl h
   ·have e' : ao2 = some a := e
    subst e'
    have := HB.out.2 a.block rfl
    exact .inr (by unfold New at this; omega)
 ·have q1 : ((n : Int) != (arity : Int)) = true := by rw [bne_iff_ne]; omega
  have HN1 := qH (show ss.length ≠ arity by have := HN.out; omega)
  clear h1
  go_enter Tryz.func39, Tryz.ntmps39
  go_wp2
  go_ret2
  have e0 : aL arity [] ss = (false, 30) := by unfold aL; rw [if_pos HN1.out]
  exact RetF.mk (Kp.refl _) (RowsAddedQ.same H.out (Kp.refl _) (by rw [e0]; rfl) (by unfold aX; rw [e0]; rfl))
end
section
variable {z : Prop} {S : Nat -> Prop} {w w' : World} {b : Nat} {iv : Value} {arity : Nat} {LL : List (List ByteArray)}
end
abbrev fO := eZ × List ByteArray
def eG (ps : List fO) : List Value := ps.map fun p => .slice p.1.1 p.1.2.1 p.1.2.2
theorem nS (ps : List fO) (k : Nat) (p : fO) (h : ps[k]? = some p) : (eG ps)[k]? = some (.slice p.1.1 p.1.2.1 p.1.2.2) := by simp [eG, h]
theorem yY (ps qs : List fO) : eG (ps ++ qs) = eG ps ++ eG qs := by simp [eG]
def RowsIn (S : Nat -> Prop) (w : World) (ao : Option Addr) (LL : List (List ByteArray)) : Prop :=
 ∃ ps : List fO, LL = ps.map Prod.snd /\ CellsAt w ao (eG ps) /\ (∀ a, ao = some a -> S a.block) /\
  ∀ p ∈ ps, ReadsAs w p.1 p.2 /\ p.2.length ≤ 8796093021952 /\ ∀ a, p.1.1 = some a -> S a.block
def OwnRows (lo : Nat) (w : World) (v : Value) (LL : List (List ByteArray)) : Prop :=
 ∃ ps : List fO, LL = ps.map Prod.snd /\ Row w 66 1 v ps.length (eG ps) (fun g => lo ≤ g) /\
  (∀ p ∈ ps, Row w 9 1 (.slice p.1.1 p.1.2.1 p.1.2.2) p.2.length (strs p.2) (fun g => lo ≤ g) /\ p.2.length ≤ 8796093021952) /\
  ps.Pairwise fun p q => ∀ g, (Value.slice p.1.1 p.1.2.1 p.1.2.2).ownBlock = some g -> (Value.slice q.1.1 q.1.2.1 q.1.2.2).ownBlock ≠ some g
section
variable {S S' : Nat -> Prop} {w w' : World} {ao : Option Addr} {LL : List (List ByteArray)} {v : Value} {lo : Nat}
theorem RowsIn.kp {F : Nat -> Prop} (h : RowsIn S w ao LL) (hk : Kp F w w') (hF : ∀ k, F k -> ¬ S k) : RowsIn S w' ao LL := by
 obtain ⟨ps, h1, h2, h3, h4⟩ := h
 exact ⟨ps, h1, h2.kp hk (fun a e hf => hF _ hf (h3 a e)), h3, fun p hp => ⟨⟨(h4 p hp).1.1, (h4 p hp).1.2.kp hk (fun a e hf => hF _ hf ((h4 p hp).2.2 a e))⟩, (h4 p hp).2⟩⟩
theorem RowsIn.ext (h : RowsIn S w ao LL) (hk : Ext w w') : RowsIn S w' ao LL := h.kp hk fun _ x => x.elim
theorem RowsIn.get (h : RowsIn S w ao LL) {k : Nat} {ss : List ByteArray} (hk : LL[k]? = some ss) :
 ∃ g o x cap, ao = some ⟨g, o, none⟩ /\ w.cell? ⟨g, o + k, none⟩ = some (.slice x ss.length cap) /\ CellsAt w x (strs ss) /\ ss.length ≤ 8796093021952 /\ ∀ a, x = some a -> S a.block := by
 obtain ⟨ps, rfl, h2, h3, h4⟩ := h
 rw [List.getElem?_map] at hk
 cases hp : ps[k]? with
 | none => rw [hp] at hk; cases hk
 | some p =>
  rw [hp] at hk; cases hk
  obtain ⟨g, o, e, c⟩ := h2 k _ (nS ps k p hp)
  obtain ⟨⟨h5, h6⟩, h7, h8⟩ := h4 p (List.mem_of_getElem? hp)
  exact ⟨g, o, p.1.1, p.1.2.2, e, by rw [c, h5], h6, h7, h8⟩
theorem Row.has {e : TypeId} {k : Nat} {n : Nat} {xs : List Value} {M : Nat -> Prop} (h : Row w e k v n xs M) {g : Nat} (hg : v.ownBlock = some g) : ∃ cs, Blk w g cs e /\ n * k ≤ cs.length /\ M g := by
 obtain ⟨h1, ⟨rfl, rfl⟩ | ⟨g', cap, rest, rfl, b, c, d, e, f⟩⟩ := h
 ·cases hg
 ·cases hg
  exact ⟨_, c, by simp at d ⊢; omega, b⟩
theorem Row.sort_ne {e e' : TypeId} {k k' : Nat} {n n' : Nat} {xs xs' : List Value} {M M' : Nat -> Prop} {v' : Value} (h : Row w e k v n xs M) (h' : Row w e' k' v' n' xs' M') (he : e ≠ e') {g : Nat} (hg : v.ownBlock = some g) : v'.ownBlock ≠ some g := by
 intro hg'
 obtain ⟨cs, hb, _⟩ := h.has hg
 obtain ⟨cs', hb', _⟩ := h'.has hg'
 unfold Blk at hb hb'
 rw [hb] at hb'
 simp only [Option.some.injEq, Obj.cells.injEq] at hb'
 exact he hb'.2.1
theorem OwnRows.nil (lo : Nat) (w : World) : OwnRows lo w (.slice none 0 0) [] := ⟨[], rfl, Row.nil _ _ _ _, by simp, List.Pairwise.nil⟩
theorem OwnRows.kp {F : Nat -> Prop} (h : OwnRows lo w v LL) (hk : Kp F w w') (hF : ∀ g, lo ≤ g -> ¬ F g) : OwnRows lo w' v LL := by
 obtain ⟨ps, h1, h2, h3, h4⟩ := h
 exact ⟨ps, h1, h2.kp hk hF, fun p hp => ⟨(h3 p hp).1.kp hk hF, (h3 p hp).2⟩, h4⟩
theorem OwnRows.ext (h : OwnRows lo w v LL) (hk : Ext w w') : OwnRows lo w' v LL := h.kp hk fun _ _ => id
theorem OwnRows.mono {lo' : Nat} (h : OwnRows lo w v LL) (hl : lo' ≤ lo) : OwnRows lo' w v LL := by
 obtain ⟨ps, h1, h2, h3, h4⟩ := h
 exact ⟨ps, h1, Row.mono h2 fun g hg => Nat.le_trans hl hg, fun p hp => ⟨Row.mono (h3 p hp).1 fun g hg => Nat.le_trans hl hg, (h3 p hp).2⟩, h4⟩
theorem Row.readsAs {e : TypeId} {x : eZ} {ss : List ByteArray} {M : Nat -> Prop} (h : Row w e 1 (.slice x.1 x.2.1 x.2.2) ss.length (strs ss) M) : ReadsAs w x ss /\ ∀ a, x.1 = some a -> M a.block /\ a.block < w.heap.size := by
 have hb := h.block
 have hl := h.lt
 obtain ⟨ao, cap, e, hc, _⟩ := h.shape
 obtain ⟨x1, x2, x3⟩ := x
 simp only [Value.slice.injEq] at e
 obtain ⟨rfl, e2, rfl⟩ := e
 refine ⟨⟨e2, hc⟩, fun a ea => ?_⟩
 simp only at ea
 subst ea
 exact ⟨hb a.block rfl, hl a.block rfl⟩
theorem OwnRows.shape (h : OwnRows lo w v LL) : ∃ ao cap, v = .slice ao LL.length cap /\ RowsIn (fun g => lo ≤ g /\ g < w.heap.size) w ao LL := by
 obtain ⟨ps, rfl, h2, h3, h4⟩ := h
 have hb := h2.block
 have hl := h2.lt
 obtain ⟨ao, cap, rfl, hc, _⟩ := h2.shape
 refine ⟨ao, cap, by simp, ps, rfl, hc, fun a e => ?_, fun p hp => ?_⟩
 ·subst e; exact ⟨hb a.block rfl, hl a.block rfl⟩
 ·obtain ⟨h5, h6⟩ := h3 p hp
  exact ⟨h5.readsAs.1, h6, fun a e => h5.readsAs.2 a e⟩
theorem OwnRows.push {ps : List fO} (h2 : Row w 66 1 v ps.length (eG ps) (fun g => lo ≤ g))
 (h3 : ∀ p ∈ ps, Row w 9 1 (.slice p.1.1 p.1.2.1 p.1.2.2) p.2.length (strs p.2) (fun g => lo ≤ g) /\ p.2.length ≤ 8796093021952)
 (h4 : ps.Pairwise fun p q => ∀ g, (Value.slice p.1.1 p.1.2.1 p.1.2.2).ownBlock = some g -> (Value.slice q.1.1 q.1.2.1 q.1.2.2).ownBlock ≠ some g)
 {B : Nat} (hB : ∀ p ∈ ps, ∀ g, (Value.slice p.1.1 p.1.2.1 p.1.2.2).ownBlock = some g -> g < B) (hlo : lo ≤ B) {x : eZ} {ss : List ByteArray} (hx : Row w 9 1 (.slice x.1 x.2.1 x.2.2) ss.length (strs ss) (fun g => B ≤ g)) (hss : ss.length ≤ 8796093021952)
 {v' : Value} (hr : Row w' 66 1 v' (ps.length + 1) (eG ps ++ [.slice x.1 x.2.1 x.2.2]) (fun g => lo ≤ g)) (hk : Kp (fun g => v.ownBlock = some g) w w') : OwnRows lo w' v' (ps.map Prod.snd ++ [ss]) := by
 have hne : 9 ≠ 66 := by decide
 refine ⟨ps ++ [(x, ss)], by simp, ?_, fun p hp => ?_, ?_⟩
 ·rw [yY]; simpa [eG] using hr
 ·rcases List.mem_append.1 hp with hp | hp
  ·exact ⟨(h3 p hp).1.kp' hk fun g hg _ hf => (h3 p hp).1.sort_ne h2 hne hg hf, (h3 p hp).2⟩
  ·obtain rfl := List.mem_singleton.1 hp
   exact ⟨Row.mono (hx.kp' hk fun g hg _ hf => hx.sort_ne h2 hne hg hf) fun g hg => Nat.le_trans hlo hg, hss⟩
 ·refine List.pairwise_append.2 ⟨h4, List.pairwise_singleton _ _, fun p hp q hq g hg hg' => ?_⟩
  obtain rfl := List.mem_singleton.1 hq
  have h1 := hB p hp g hg
  have h2 : B ≤ g := hx.block g hg'
  omega
end
end
section
open Go.RowKit Go.Shelf
attribute [local go_sem] Oper.semAt_some
def GotRows {α : Type} (f : α -> List ByteArray) (m : Nat) (w0 : World) (b : Nat) (pre : List α) (W : World) : Prop :=
 pre.length ≤ m /\ Kp (fun g => g = b) w0 W /\ ∃ v, Blk W b [v] 51 /\ OwnRows w0.heap.size W v (pre.map f)
theorem OwnRows.grown {lo : Nat} {W W' : World} {v : Value} {LL : List (List ByteArray)} {row : Option Nat} (h : OwnRows lo W v LL) (hg : W.grownBy W' row) (hr : ∀ r, row = some r -> ∃ o : Obj, W.heap[r]? = some o /\ o.isCells = false) : OwnRows lo W' v LL := by
 obtain ⟨ps, h1, h2, h3, h4⟩ := h
 exact ⟨ps, h1, h2.grown hg hr, fun p hp => ⟨(h3 p hp).1.grown hg hr, (h3 p hp).2⟩, h4⟩
theorem OwnRows.kpc {F : Nat -> Prop} {lo : Nat} {w w' : World} {v : Value} {LL : List (List ByteArray)} (h : OwnRows lo w v LL) (hk : Kp F w w') (hF : ∀ g, F g -> ¬ ∃ o : Obj, w.heap[g]? = some o /\ o.isCells = true) : OwnRows lo w' v LL := by
 obtain ⟨ps, h1, h2, h3, h4⟩ := h
 have key : ∀ {e : TypeId} {k n : Nat} {v : Value} {xs : List Value} {M : Nat -> Prop}, Row w e k v n xs M -> Row w' e k v n xs M := fun h => h.kp' hk fun g hg _ hf => by
  obtain ⟨cs, hb, _⟩ := h.has hg
  exact hF g hf ⟨_, hb, rfl⟩
 exact ⟨ps, h1, key h2, fun p hp => ⟨key (h3 p hp).1, (h3 p hp).2⟩, h4⟩
theorem GotRows.own {α : Type} {f : α -> List ByteArray} {m : Nat} {w0 : World} {b B : Nat} (hB : w0.heap.size ≤ B) : OwnFrom B (GotRows f m w0 b) := fun pre W W' row hs hg hr => by
 obtain ⟨h1, h2, v, h3, h4⟩ := hs
 refine ⟨h1, h2.grown hg fun k e hk => ?_, v, h3.grown hg fun r e => (hr r e).2, h4.grown hg fun r e => (hr r e).2⟩
 have := (hr k e).1
 omega
theorem KeepsOthers.of_ext {W W' : World} (h : Ext W W') : KeepsOthers W W' := ⟨h.size, fun k o hk _ => (h.block k (lt_of_block hk) id).trans hk⟩
theorem jM {α : Type} {f : α -> List ByteArray} {m : Nat} {w0 X X1 : World} {B : Nat} {ao : Option Addr} {n cap : Nat} {pre : List α} {x : eZ} {ss : List ByteArray} (hm : pre.length ≤ m /\ m ≤ 1048576 * 1048576) (hpk : Kp (fun g => g = B) w0 X) (hBlt : B < w0.heap.size)
 (hB : Blk X B [.slice ao n cap] 51) (hr : OwnRows w0.heap.size X (.slice ao n cap) (pre.map f)) (hk : Ext X X1) (hx : Row X1 9 1 (.slice x.1 x.2.1 x.2.2) ss.length (strs ss) (New X)) (hss : ss.length ≤ 8796093021952) :
 ∃ ao3 n3 cap3 w3, (Builtin.append_ #[51, 51] 51 #[.slice ao n cap, .slice (some ⟨X1.heap.size, 0, none⟩) 1 1]).run Tryz.prog (X1.alloc (.cells #[.slice x.1 x.2.1 x.2.2] 66)) = .ok (.slice ao3 n3 cap3) w3 /\
  w3.cell? ⟨B, 0, none⟩ = some (.slice ao n cap) /\ w3.frozen? ⟨B, 0, none⟩ = false /\ ∀ y, f y = ss -> KeepsOthers X (w3.setCell ⟨B, 0, none⟩ (.slice ao3 n3 cap3)) /\ Kp (fun g => g = B \/ w0.heap.size ≤ g) X (w3.setCell ⟨B, 0, none⟩ (.slice ao3 n3 cap3)) /\
   Kp (fun g => g = B) w0 (w3.setCell ⟨B, 0, none⟩ (.slice ao3 n3 cap3)) /\ ∃ v, Blk (w3.setCell ⟨B, 0, none⟩ (.slice ao3 n3 cap3)) B [v] 51 /\ OwnRows w0.heap.size (w3.setCell ⟨B, 0, none⟩ (.slice ao3 n3 cap3)) v ((pre ++ [y]).map f) := by
 obtain ⟨ps, e1, h2, h3, h4⟩ := hr
 have hlen : ps.length = pre.length := by have := congrArg List.length e1; simpa using this.symm
 obtain ⟨w2, ew2⟩ : ∃ w2, X1.alloc (.cells #[.slice x.1 x.2.1 x.2.2] 66) = w2 := ⟨_, rfl⟩
 have hk2 : Ext X w2 := by rw [<- ew2]; exact hk.alloc _
 have hx2 : Row w2 9 1 (.slice x.1 x.2.1 x.2.2) ss.length (strs ss) (New X) := by rw [<- ew2]; exact hx.alloc _
 have hsrc : CellsAt w2 (some ⟨X1.heap.size, 0, none⟩) [.slice x.1 x.2.1 x.2.2] := by rw [<- ew2]; exact CellsAt.one X1 _ _
 have h2' := h2.ext hk2
 obtain ⟨v3, w3, hrun, hr3, hk3, _⟩ := pI (P := Tryz.prog) eS 51 h2' (m := 1) (c := 1) rfl hsrc (by simp; rfl) (by omega) (by unfold maxLen; omega)
 obtain ⟨ao3, cap3, ev, _, _⟩ := hr3.shape
 subst ev
 have hBne : (Value.slice ao n cap).ownBlock ≠ some B := fun e => by have := h2.block B e; omega
 have hB3 : Blk w3 B [.slice ao n cap] 51 := (hB.ext hk2).kp hk3 hBne
 have hsz0 := hpk.size
 refine ⟨ao3, _, cap3, w3, by rw [ew2]; exact hrun, by rw [hB3.cell']; rfl, hB3.free 0, fun y hy => ?_⟩
 have hko : KeepsOthers w2 w3 := ⟨hk3.size, fun k o hk' ho => (hk3.block k (lt_of_block hk') (fun hg => by
  obtain ⟨cs, hb, _⟩ := h2'.has hg
  unfold Blk at hb
  rw [hb] at hk'; cases hk'; cases ho)).trans hk'⟩
 have kX : Kp (fun g => g = B \/ w0.heap.size ≤ g) X w3 := (Ext.kp hk2).trans (hk3.mono fun g _ hg => .inr (h2.block g hg))
 have k0 : Kp (fun g => g = B) w0 w3 := hpk.trans' kX fun i hi hg => by rcases hg with hg | hg; exact hg; omega
 refine ⟨((KeepsOthers.of_ext hk2).trans hko).trans (KeepsOthers.setCell _ _ _), kX.setCell (fun _ => .inl rfl) _, k0.setCell (fun _ => rfl) _, _, hB3.set 0 _, ?_⟩
 have hown : OwnRows w0.heap.size w3 (.slice ao3 (ps.length + 1) cap3) (ps.map Prod.snd ++ [ss]) :=
  OwnRows.push h2' (fun p hp => ⟨(h3 p hp).1.ext hk2, (h3 p hp).2⟩) h4 (B := X.heap.size) (fun p hp g hg => (h3 p hp).1.lt g hg) hsz0 hx2 hss
   (hr3.mono fun g hg => by rcases hg with hg | hg; exact h2.block g hg; exact Nat.le_trans hsz0 (Nat.le_trans hk2.size hg)) hk3
 rw [List.map_append, List.map_singleton, hy, e1]
 exact hown.kp (Kp.setCell (F := fun g => g = B) (Kp.refl _) (fun _ => rfl) _) fun g hg e => by omega
theorem kV {F : Fence} {n : Nat} {P : Program} {o : Oper} {a : Act} {w w' : World} {K : Act -> World -> Prop} {Q : Exit -> Act -> World -> Prop} {b : Bool} {p : Prop} [Decidable (b = true)] (s x : Operand) {t : TypeId} {v vx v' : Value}
 (ho : o.op = .call { callee := .builtin .append, args := #[s, x], argTypes := #[t, t] }) (hs : a.eval s = v) (hx : a.eval x = vx) (hb : b = true) (hrun : (Builtin.append_ #[t, t] o.type #[v, vx]).run P w = .ok v' w') (hK : K (a.put o.dst v') w') : if b = true then Oper.wpIn F n P o a w K Q else p := by
 rw [if_pos hb]
 unfold Oper.wpIn
 refine ⟨by simp [Oper.about, ho, resolve, Target.leads, Sem.run_pure], ?_⟩
 rw [Oper.semAt_plain F _ _ (by rw [ho]; intro c hc'; cases hc')]
 simp only [execOp, ho, resolve, invoke, builtin, Sem.run_bind, Sem.run_pure, Result.andThen_ok, List.map_toArray, List.map_cons, List.map_nil, hs, hx, hrun]
 exact hK
theorem aAy {F : Nat -> Prop} {w W : World} {P : World -> Value -> Prop} {tmps : Array Value} {ds : List Deferred} {lo : Nat} (hm : Marks lo W ds) (hk : Kp F w W) (hlo : w.heap.size ≤ lo) {v : Value} (ht : tmps.getD 2 undef = v)
 (hP : ∀ w', Kp (fun k => lo ≤ k /\ ¬ ∃ o : Obj, W.heap[k]? = some o /\ o.isCells = true) W w' -> P w' v) :
 bodyPostM Fence.wide 4 Tryz.prog Tryz.f38 (RetF F w P) .ret { tmps := tmps, defers := ds } W := by
 refine fJ hm fun w' e1 e2 e3 e4 e5 e6 => ?_
 have kx : Kp (fun k => lo ≤ k /\ ¬ ∃ o : Obj, W.heap[k]? = some o /\ o.isCells = true) W w' := ⟨e1, e2, e3, by omega, fun k hk hf => by
  by_cases h : lo ≤ k
  ·by_cases h2 : ∃ o : Obj, W.heap[k]? = some o /\ o.isCells = true
   ·obtain ⟨o, h2, h3⟩ := h2
    rw [h2]; exact e6 k o h2 h3
   ·exact absurd ⟨h, h2⟩ hf
  ·exact e5 k (by omega)⟩
 refine ⟨v, ?_, RetF.mk (hk.trans' kx fun i hi h => absurd h.1 (by omega)) (hP w' kx)⟩
 have ht' : tmps[2]?.getD undef = v := by simpa using ht
 simp [results, Tryz.f38, go_sem, ht']
section
variable {z : Prop} {S : Nat -> Prop} {w w' : World} {b : Nat} {iv : Value} {arity : Nat} {LL : List (List ByteArray)}
theorem RowsQ.ownLt (h : RowsQ z S w b iv arity LL) : ∀ k, bN b iv k -> k < w.heap.size := by
 rcases h with ⟨con, zs, hc, hs, hl⟩ | ⟨hz, rfl, rfl, hB, h1, h2⟩
 ·rintro k (rfl | hk)
  ·exact hs.blk.lt
  ·exact hs.row.lt k hk
 ·rintro k (rfl | hk)
  ·exact hB.lt
  ·cases hk
def aKe (w : World) (F : Nat -> Prop) (R : World -> Prop) (LL : List (List ByteArray)) (rv : Value) : Prop :=
 ∀ W, Ext w W -> Calls Tryz.prog 70 #[rv] W (RetF F W fun w' v => R w' /\ ∃ S con, ∃ zs : List eZ, PtrSetRow Tryz.prog S w' v zs /\ (∀ k, S k -> k < w.heap.size) /\ zs.map con = LL /\
  ∀ x ∈ zs, ∃ ss, ReadsAs w' x ss /\ ss.length ≤ 8796093021952 /\ (∀ a, x.1 = some a -> x.2.1 ≠ 0 -> S a.block) /\ con x = ss)
set_option maxHeartbeats 2000000 in
theorem tW {F : Nat -> Prop} {R : World -> Prop} {rv : Value} (hset : aKe w F R LL rv) (hF : ∀ k, F k -> k < w.heap.size) (hR : ∀ {W W' : World}, R W -> Kp (fun g => w.heap.size ≤ g) W W' -> R W') :
 Calls Tryz.prog 38 #[rv] w (RetF F w fun w' v => R w' /\ OwnRows w.heap.size w' v LL) := by
 refine callsIn_wide.1 (callsIn_of_wp_marks (n := 4) Tryz.func38 rfl trivial ?_ rfl)
 refine wpIn_wide.2 ?_
 obtain ⟨Q, eQ⟩ : ∃ Q, Q = bodyPostM Fence.wide 4 Tryz.prog Tryz.f38 (RetF F w fun w' v => R w' /\ OwnRows w.heap.size w' v LL) := ⟨_, rfl⟩
 rw [<- eQ]
 have EQ := qH eQ; clear eQ
 have H := qH hset
 have HR := qH (And.intro hF (@hR)); clear hset hF hR
 simp only [Tryz.ntmps38, List.size_toArray, List.length_cons, List.length_nil, Nat.reduceAdd, Nat.reduceSub, Array.replicate_succ, Array.replicate_zero, List.push_toArray, List.append_toArray, List.nil_append, List.cons_append]
 go_wp2_with fail
 have x0 : Ext w (w.alloc (.cells #[.slice none 0 0] 51)) := (Kp.refl w).alloc _
 have b0 : Blk (w.alloc (.cells #[.slice none 0 0] 51)) w.heap.size [.slice none 0 0] 51 := Blk.new w [_] _
 refine (H.out _ x0).mono ?_
 rintro e w1 ⟨v1, rfl, hk1, hR1, S, con, zs, hp, hSw, hl, hall⟩
 have k01 : Kp F w w1 := (Ext.kp x0).trans hk1
 have b1 := b0.kp hk1 (fun e => by have := HR.out.1 _ e; omega)
 have HK1 := qH (And.intro k01 hR1)
 have hlen := hp.len
 have HS := qH (And.intro hall hl)
 have HE := qH (tR hp)
 have B1 := qH b1
 have hsz1 := b1.lt
 clear hall hp hl b0 b1 hk1 k01 x0 H hR1
 go_wp2_with fail
 refine HE.out.mono ?_
 rintro e w2 ⟨v2, rfl, hk2, hit⟩
 obtain ⟨Bs, hv2, hseq⟩ := hit.sub.stops Fence.wide 3 trivial rfl (by omega)
 subst hv2
 have HQ := qH hseq; clear hseq hit
 have B2 := qH (B1.out.ext hk2)
 have HK2 := qH hk2
 have hsz2 := hk2.size
 have hn0 : zs.attach.length = zs.length := List.length_attach
 have HSW := qH hSw
 clear hk2 HE B1 hSw
 go_wp2_with fail
 refine' wpIn_wide.1 (wpIn_rangeFunc_ownG (F := Fence.wide) (n := 4) (w0 := w2) rfl (by omega) (gf := 177) (lb := #[.pointer (some ⟨Bs, 0, none⟩)]) rfl trivial (enters_of Tryz.func177 (by kernel_rfl) rfl)
  HQ.out SameOn.trans (SameOn.put (fun k h => h.2)) (Kp.refl w2).below (fun _ => rfl) (GotRows (fun x => con x.1) zs.length w2 w.heap.size) (fun _ _ _ => False) (GotRows.own (Nat.le_refl _)) (fun _ _ _ _ _ h _ _ => h) ⟨by simp, Kp.refl _, _, B2.out, OwnRows.nil _ _⟩ _ ?assign ?body ?done ?stop)
 case assign =>
  intro l x W K hK
  gi_wp2
  exact hK
 case body =>
  rintro l pre x X ⟨hpl, hpk, v, hB, hr⟩ hlen'
  obtain ⟨xv, xm⟩ := x
  obtain ⟨ao1, n1, cap1, ev, _⟩ : ∃ ao n cap, v = .slice ao n cap /\ True := by obtain ⟨ao, cap, e, _⟩ := hr.shape; exact ⟨_, _, _, e, trivial⟩
  subst ev
  have HPL := qH (And.intro hpl hlen)
  obtain ⟨ss, hrd, hss, hxS, hcx⟩ := HS.out.1 xv xm
  have hrd2 : ReadsAs X xv ss := ⟨hrd.1, fun i u hu => by
   have hne : xv.2.1 ≠ 0 := by
    have h1 := (List.getElem?_eq_some_iff.1 hu).1
    simp only [strs, List.length_map] at h1
    rw [hrd.1]; omega
   obtain ⟨b, o, e, c⟩ := (hrd.2.ext HK2.out) i u hu
   exact ⟨b, o, e, hpk.cell c fun hf => by have h8 : b < _ := HSW.out _ (hxS _ e hne); omega⟩⟩
  clear hrd hxS
  obtain ⟨ao, n, cap⟩ := xv
  obtain ⟨hn, hcs⟩ := hrd2
  simp only at hn hcs
  have hmix : Tryz.prog.follows .mixedOrders = true := by kernel_rfl
  have HCL := qH (iF (strs ss) ao cap X.drew n (by simp [strs, hn]) (hcs.ext (Kp.refl X).drew) (pB ss) (by omega))
  have hc0 := hB.cell 0 (by simp)
  have hf0 := hB.free 0
  simp only [List.getElem_cons_zero] at hc0
  have HB := qH (And.intro hB hr)
  have HCX := qH (And.intro hcx hn)
  clear hB hr hcx hn hcs
  gi_wp2
  refine wpIn_region_any (by kernel_rfl) ?_
  change wpAnyIn _ _ _ _ _ _ _ _ _ (World.drew _)
  refine wpAnyIn_ready (rs := [0, 1]) (by kernel_rfl) (by simp) (AllReadyIn.cons rfl (fun K hK => ?_) (AllReadyIn.cons rfl (fun K hK => ?_) AllReadyIn.nil))
  ·go_simp
   refine hK _ _ ?_
   clear hK K
   refine wpAnyIn_ready (rs := [1]) (by kernel_rfl) (by simp) (AllReadyIn.cons rfl (fun K hK => ?_) AllReadyIn.nil)
   go_simp
   refine hK _ _ ?_
   clear hK K
   refine wpAnyIn_ready (rs := [2]) (by kernel_rfl) (by simp) (AllReadyIn.cons rfl (fun K hK => ?_) AllReadyIn.nil)
   go_simp
   refine And.intro trivial ?_
   refine (CallsIn.inRound l (callsIn_wide.2 HCL.out)).mono ?_
   rintro e X1 ⟨v1, rfl, hk1, hr1⟩
   obtain ⟨ao2, cap2, ev, _, _⟩ := hr1.shape
   subst ev
   rw [HCX.out.2] at hr1
   obtain ⟨ao3, n3, cap3, w3, hrunA, d1, d2, HFIN⟩ := jM (x := (ao2, ss.length, cap2)) HPL.out hpk (by omega) HB.out.1 HB.out.2 ((Kp.refl X).drew.trans hk1) hr1 hss
   rw [<- HCX.out.2] at hrunA
   have HFI := qH HFIN
   clear HFIN hr1
   have e0 := hk1.cell (w := X.drew) hc0 id
   have e1 := (hk1.alloc (.cells #[.slice ao2 n cap2] 66)).cell (w := X.drew) hc0 id
   change K _ _
   refine hK _ _ ?_
   clear hK K
   refine wpAnyIn_ready (rs := [3]) (by kernel_rfl) (by simp) (AllReadyIn.cons rfl (fun K hK => ?_) AllReadyIn.nil)
   go_simp
   refine hK _ _ ?_
   clear hK K
   refine wpAnyIn_ready (rs := [4]) (by kernel_rfl) (by simp) (AllReadyIn.cons rfl (fun K hK => ?_) AllReadyIn.nil)
   refine kV (.tmp 9) (.tmp 12) rfl rfl rfl rfl hrunA ?_
   refine hK _ _ ?_
   clear hK K
   refine wpAnyIn_ready (rs := [5]) (by kernel_rfl) (by simp) (AllReadyIn.cons rfl (fun K hK => ?_) AllReadyIn.nil)
   go_simp
   refine hK _ _ ?_
   clear hK K
   refine wpAnyIn_done (by kernel_rfl) ?_ _
   obtain ⟨q1, q2, q3, q4⟩ := HFI.out ⟨(ao, n, cap), xm⟩ HCX.out.1
   refine And.intro (q1.from _) (And.intro (SameOn.of_kp q2 (fun k h => Nat.lt_of_lt_of_le h.2 hpk.size) (fun k h h' => by omega)) ⟨by rw [List.length_append]; simp; omega, q3, q4⟩)
  ·go_simp
   refine hK _ _ ?_
   clear hK K
   refine wpAnyIn_ready (rs := [0, 2]) (by kernel_rfl) (by simp) (AllReadyIn.cons rfl (fun K hK => ?_) (AllReadyIn.cons rfl (fun K hK => ?_) AllReadyIn.nil))
   ·go_simp
    refine hK _ _ ?_
    clear hK K
    refine wpAnyIn_ready (rs := [2]) (by kernel_rfl) (by simp) (AllReadyIn.cons rfl (fun K hK => ?_) AllReadyIn.nil)
    go_simp
    refine And.intro trivial ?_
    refine (CallsIn.inRound l (callsIn_wide.2 HCL.out)).mono ?_
    rintro e X1 ⟨v1, rfl, hk1, hr1⟩
    obtain ⟨ao2, cap2, ev, _, _⟩ := hr1.shape
    subst ev
    rw [HCX.out.2] at hr1
    obtain ⟨ao3, n3, cap3, w3, hrunA, d1, d2, HFIN⟩ := jM (x := (ao2, ss.length, cap2)) HPL.out hpk (by omega) HB.out.1 HB.out.2 ((Kp.refl X).drew.trans hk1) hr1 hss
    rw [<- HCX.out.2] at hrunA
    have HFI := qH HFIN
    clear HFIN hr1
    have e0 := hk1.cell (w := X.drew) hc0 id
    have e1 := (hk1.alloc (.cells #[.slice ao2 n cap2] 66)).cell (w := X.drew) hc0 id
    change K _ _
    refine hK _ _ ?_
    clear hK K
    refine wpAnyIn_ready (rs := [3]) (by kernel_rfl) (by simp) (AllReadyIn.cons rfl (fun K hK => ?_) AllReadyIn.nil)
    go_simp
    refine hK _ _ ?_
    clear hK K
    refine wpAnyIn_ready (rs := [4]) (by kernel_rfl) (by simp) (AllReadyIn.cons rfl (fun K hK => ?_) AllReadyIn.nil)
    refine kV (.tmp 9) (.tmp 12) rfl rfl rfl rfl hrunA ?_
    refine hK _ _ ?_
    clear hK K
    refine wpAnyIn_ready (rs := [5]) (by kernel_rfl) (by simp) (AllReadyIn.cons rfl (fun K hK => ?_) AllReadyIn.nil)
    go_simp
    refine hK _ _ ?_
    clear hK K
    refine wpAnyIn_done (by kernel_rfl) ?_ _
    obtain ⟨q1, q2, q3, q4⟩ := HFI.out ⟨(ao, n, cap), xm⟩ HCX.out.1
    refine And.intro (q1.from _) (And.intro (SameOn.of_kp q2 (fun k h => Nat.lt_of_lt_of_le h.2 hpk.size) (fun k h h' => by omega)) ⟨by rw [List.length_append]; simp; omega, q3, q4⟩)
   ·go_simp
    refine And.intro trivial ?_
    refine (CallsIn.inRound l (callsIn_wide.2 HCL.out)).mono ?_
    rintro e X1 ⟨v1, rfl, hk1, hr1⟩
    obtain ⟨ao2, cap2, ev, _, _⟩ := hr1.shape
    subst ev
    rw [HCX.out.2] at hr1
    obtain ⟨ao3, n3, cap3, w3, hrunA, d1, d2, HFIN⟩ := jM (x := (ao2, ss.length, cap2)) HPL.out hpk (by omega) HB.out.1 HB.out.2 ((Kp.refl X).drew.trans hk1) hr1 hss
    rw [<- HCX.out.2] at hrunA
    have HFI := qH HFIN
    clear HFIN hr1
    have e0 := hk1.cell (w := X.drew) hc0 id
    have e1 := (hk1.alloc (.cells #[.slice ao2 n cap2] 66)).cell (w := X.drew) hc0 id
    change K _ _
    refine hK _ _ ?_
    clear hK K
    refine wpAnyIn_ready (rs := [0, 3]) (by kernel_rfl) (by simp) (AllReadyIn.cons rfl (fun K hK => ?_) (AllReadyIn.cons rfl (fun K hK => ?_) AllReadyIn.nil))
    ·go_simp
     refine hK _ _ ?_
     clear hK K
     refine wpAnyIn_ready (rs := [3]) (by kernel_rfl) (by simp) (AllReadyIn.cons rfl (fun K hK => ?_) AllReadyIn.nil)
     go_simp
     refine hK _ _ ?_
     clear hK K
     refine wpAnyIn_ready (rs := [4]) (by kernel_rfl) (by simp) (AllReadyIn.cons rfl (fun K hK => ?_) AllReadyIn.nil)
     refine kV (.tmp 9) (.tmp 12) rfl rfl rfl rfl hrunA ?_
     refine hK _ _ ?_
     clear hK K
     refine wpAnyIn_ready (rs := [5]) (by kernel_rfl) (by simp) (AllReadyIn.cons rfl (fun K hK => ?_) AllReadyIn.nil)
     go_simp
     refine hK _ _ ?_
     clear hK K
     refine wpAnyIn_done (by kernel_rfl) ?_ _
     obtain ⟨q1, q2, q3, q4⟩ := HFI.out ⟨(ao, n, cap), xm⟩ HCX.out.1
     refine And.intro (q1.from _) (And.intro (SameOn.of_kp q2 (fun k h => Nat.lt_of_lt_of_le h.2 hpk.size) (fun k h h' => by omega)) ⟨by rw [List.length_append]; simp; omega, q3, q4⟩)
    ·go_simp
     refine hK _ _ ?_
     clear hK K
     refine wpAnyIn_ready (rs := [0]) (by kernel_rfl) (by simp) (AllReadyIn.cons rfl (fun K hK => ?_) AllReadyIn.nil)
     go_simp
     refine hK _ _ ?_
     clear hK K
     refine wpAnyIn_ready (rs := [4]) (by kernel_rfl) (by simp) (AllReadyIn.cons rfl (fun K hK => ?_) AllReadyIn.nil)
     refine kV (.tmp 9) (.tmp 12) rfl rfl rfl rfl hrunA ?_
     refine hK _ _ ?_
     clear hK K
     refine wpAnyIn_ready (rs := [5]) (by kernel_rfl) (by simp) (AllReadyIn.cons rfl (fun K hK => ?_) AllReadyIn.nil)
     go_simp
     refine hK _ _ ?_
     clear hK K
     refine wpAnyIn_done (by kernel_rfl) ?_ _
     obtain ⟨q1, q2, q3, q4⟩ := HFI.out ⟨(ao, n, cap), xm⟩ HCX.out.1
     refine And.intro (q1.from _) (And.intro (SameOn.of_kp q2 (fun k h => Nat.lt_of_lt_of_le h.2 hpk.size) (fun k h h' => by omega)) ⟨by rw [List.length_append]; simp; omega, q3, q4⟩)
 case stop =>
  rintro D c pre W _ _ h _
  exact h.elim
 case done =>
  rintro D ys W2 hD hys ⟨hl2, hkd, v, hBd, hrd⟩ hd
  subst hys
  have kw : Kp F w W2 := (HK1.out.1.ext HK2.out).trans' hkd fun k hk e => by omega
  have hra : R W2 := HR.out.2 HK1.out.2 ((Ext.kp HK2.out).trans (hkd.mono fun g _ e => by omega))
  have hown : OwnRows w.heap.size W2 v LL := by
   have e : zs.attach.map (fun x => con x.1) = LL := by
    rw [<- HS.out.2]
    have h : (zs.attach.map fun x : { x // x ∈ zs } => con x.1) = (zs.attach.map Subtype.val).map con := by rw [List.map_map]; rfl
    rw [h, List.attach_map_subtype_val]
   rw [e] at hrd
   exact hrd.mono (by omega)
  have hmk := (Marks.nil w2.heap.size w2).push (w' := W2) (D := D) (fun k o h ho => (hkd.block k (lt_of_block h) (fun e => by
   subst e; have hb := B2.out; unfold Blk at hb; rw [hb] at h; cases h; cases ho)).trans h) hD hD hd
  obtain ⟨ao4, cap4, ev, _⟩ := hown.shape
  subst ev
  have c0 := hBd.cell 0 (by simp)
  simp only [List.getElem_cons_zero] at c0
  have HF := qH (And.intro kw (And.intro hra (And.intro hown hmk)))
  clear kw hra hown hmk hrd hBd hkd hd
  go_wp2
  rw [EQ.out]
  obtain ⟨kw, hra, hown, hmk⟩ := HF.out
  refine aAy hmk kw (by omega) rfl fun w' kx => ⟨HR.out.2 hra (kx.mono fun g _ h => by omega), hown.kpc kx fun g h => h.2⟩
theorem RowsAt.tells (h : RowsAt S w b iv arity LL) : ∃ con, ∃ zs : List eZ, PtrSetRow Tryz.prog S w (.pointer (some ⟨b, 0, none⟩)) zs /\ zs.map con = LL /\
 ∀ x ∈ zs, ∃ ss, ReadsAs w x ss /\ ss.length ≤ 8796093021952 /\ (∀ a, x.1 = some a -> x.2.1 ≠ 0 -> S a.block) /\ con x = ss := by
 obtain ⟨con, zs, hc, hs, hl⟩ := h
 refine ⟨con, zs, .inr ⟨_, _, _, _, _, _, _, rfl, hs⟩, hl, fun x hx => ?_⟩
 obtain ⟨ss, h1, h2, h3⟩ := hs.all x hx
 exact ⟨ss, h1, h2, h3, hc x ss h1⟩
theorem qN (h : RowsQ z S w b iv arity LL) :
 Calls Tryz.prog 38 #[.pointer (some ⟨b, 0, none⟩)] w (RetF (FQ z b) w fun w' v => RowsAt S w' b iv arity LL /\ OwnRows w.heap.size w' v LL) := by
 refine tW (R := fun W => RowsAt S W b iv arity LL) (fun W hW => ?_) (fun k hk => by rw [hk.2]; exact h.lt) (fun {W W'} hr hk => ?_)
 ·refine (fX (h.ext hW)).mono ?_
  rintro e w1 ⟨v, rfl, hk, rfl, h1⟩
  obtain ⟨con, zs, hp, hl, hall⟩ := h1.tells
  exact RetF.mk hk ⟨h1, S, con, zs, hp, h.inS, hl, hall⟩
 ·exact hr.move hk (fun k hg ho => by have := h.ownLt k ho; omega) (fun k hg hS => by have := h.inS k hS; omega) (fun _ h => h) (fun k hS => Nat.lt_of_lt_of_le (hr.inS k hS) hk.size) hr.notS
theorem aAz (w : World) : Calls Tryz.prog 38 #[.pointer none] w (RetN w fun w' v => OwnRows w.heap.size w' v []) := by
 refine (tW (w := w) (F := fun _ => False) (R := fun _ => True) (LL := []) (fun W hW => ?_) (fun k hk => hk.elim) (fun _ _ => trivial)).mono ?_
 ·refine (rN W).mono ?_
  rintro e w1 ⟨rfl, rfl⟩
  exact RetF.mk (Kp.refl _) ⟨trivial, fun _ => False, fun _ => [], [], .inl ⟨rfl, rfl⟩, fun k hk => hk.elim, rfl, by simp⟩
 ·rintro e w' ⟨v, rfl, hk, _, h⟩
  exact RetN.mk hk h
end
end
section
open Go.RowKit
structure Ent where
 name : ByteArray
 b : Nat
 iv : Value
 ar : Nat
 LL : List (List ByteArray)
def Ent.ptr (e : Ent) : Value := .pointer (some ⟨e.b, 0, none⟩)
def Ent.cnt (e : Ent) : bG := (e.name, e.ar, e.LL)
def Ent.own (e : Ent) : Nat -> Prop := bN e.b e.iv
def gQ (E : List Ent) : List (ByteArray × Value) := E.map fun e => (e.name, e.ptr)
def aR (E : List Ent) : List bG := E.map Ent.cnt
def bP (E : List Ent) (s : ByteArray) : Option Ent := E.find? fun e => decide (e.name = s)
theorem mY (E : List Ent) (s : ByteArray) : sQ (gQ E) s = (bP E s).map Ent.ptr := by
 unfold sQ gQ bP
 rw [List.find?_map, Option.map_map]; rfl
theorem pY (E : List Ent) (s : ByteArray) : dG (aR E) s = (bP E s).map fun e => (e.ar, e.LL) := by
 unfold dG aR bP
 rw [List.find?_map, Option.map_map]; rfl
theorem vK (E : List Ent) : (gQ E).map (·.1) = (aR E).map (·.1) := by
 unfold gQ aR
 rw [List.map_map, List.map_map]; rfl
theorem cY {E : List Ent} {s : ByteArray} {e : Ent} (h : bP E s = some e) : e ∈ E /\ e.name = s := ⟨List.mem_of_find?_eq_some h, by have := List.find?_some h; simpa using this⟩
theorem dT {E : List Ent} {s : ByteArray} {e : Ent} (h : bP E s = some e) : dG (aR E) s = some (e.ar, e.LL) /\ bL (aR E) s = e.LL := by
 have h1 : dG (aR E) s = some (e.ar, e.LL) := by rw [pY, h]; rfl
 exact ⟨h1, jZ h1⟩
theorem eV {E : List Ent} {s : ByteArray} (h : bP E s = none) : dG (aR E) s = none /\ bL (aR E) s = [] := by
 have h1 : dG (aR E) s = none := by rw [pY, h]; rfl
 exact ⟨h1, kC h1⟩
theorem aBh {E : List Ent} {e : Ent} (h : e ∈ E) : e.cnt ∈ aR E := List.mem_map.2 ⟨e, h, rfl⟩
def OwnE (E : List Ent) (k : Nat) : Prop := ∃ e ∈ E, e.own k
def iG (bb r : Nat) (E : List Ent) (k : Nat) : Prop := k = bb \/ k = r \/ OwnE E k
structure BaseAt (S : Nat -> Prop) (w : World) (bb r : Nat) (E : List Ent) : Prop where
 blk : Blk w bb [.map (some r), .int .i64 (bH (aR E) : Nat)] 153
 map : MapIs w r (gQ E)
 rows : ∀ e ∈ E, RowsAt S w e.b e.iv e.ar e.LL
 apart : E.Pairwise fun e f => ∀ k, e.own k -> ¬ f.own k
 inS : ∀ k, S k -> k < w.heap.size
 notS : ¬ S bb /\ ¬ S r
 ne : bb ≠ r
 off : ∀ e ∈ E, ∀ k, e.own k -> k ≠ bb /\ k ≠ r
 ok : BaseOk (aR E)
section
variable {S S' : Nat -> Prop} {w w' : World} {bb r : Nat} {E : List Ent}
theorem BaseAt.kp {F : Nat -> Prop} (h : BaseAt S w bb r E) (hk : Kp F w w') (hF : ∀ k, F k -> ¬ iG bb r E k) (hS : ∀ k, F k -> ¬ S k) : BaseAt S w' bb r E :=
 {blk := h.blk.kp hk fun hf => hF _ hf (.inl rfl)
  map := h.map.kp hk fun hf => hF _ hf (.inr (.inl rfl))
  rows := fun e he => (h.rows e he).move hk (fun k hf ho => hF k hf (.inr (.inr ⟨e, he, ho⟩))) hS (fun _ x => x) (fun k hk' => Nat.lt_of_lt_of_le (h.inS k hk') hk.size) (h.rows e he).notS
  apart := h.apart
  inS := fun k hk' => Nat.lt_of_lt_of_le (h.inS k hk') hk.size
  notS := h.notS, ne := h.ne, off := h.off, ok := h.ok }
theorem BaseAt.ext (h : BaseAt S w bb r E) (hk : Ext w w') : BaseAt S w' bb r E := h.kp hk (fun _ x => x.elim) (fun _ x => x.elim)
theorem BaseAt.ownLt (h : BaseAt S w bb r E) : ∀ k, iG bb r E k -> k < w.heap.size := by
 rintro k (rfl | rfl | ⟨e, he, ho⟩)
 ·exact h.blk.lt
 ·exact h.map.lt
 ·exact (RowsQ.ownLt (z := True) (h.rows e he).q) k ho
theorem BaseAt.notOwn (h : BaseAt S w bb r E) : ∀ k, iG bb r E k -> ¬ S k := by
 rintro k (rfl | rfl | ⟨e, he, ho⟩)
 ·exact h.notS.1
 ·exact h.notS.2
 ·exact (h.rows e he).notS k ho
theorem BaseAt.strict (h : BaseAt S w bb r E) {e : Ent} (he : e ∈ E) : Strict aD e.LL := (h.ok.all _ (aBh he)).strict
theorem BaseAt.few (h : BaseAt S w bb r E) {e : Ent} (he : e ∈ E) : e.LL.length ≤ 65536 := (h.ok.all _ (aBh he)).few
theorem BaseAt.new (S : Nat -> Prop) (hS : ∀ k, S k -> k < w.heap.size) {wb : World} (hx : Ext w wb) {bb r : Nat} (hb : w.heap.size ≤ bb) (hr : w.heap.size ≤ r) (hne : bb ≠ r) (hB : Blk wb bb [.map (some r), .int .i64 0] 153) (hm : MapIs wb r []) : BaseAt S wb bb r [] :=
 {blk := hB, map := hm, rows := fun e he => by simp at he
  apart := List.Pairwise.nil
  inS := fun k hk => Nat.lt_of_lt_of_le (hS k hk) hx.size
  notS := ⟨fun h => by have := hS _ h; omega, fun h => by have := hS _ h; omega⟩
  ne := hne, off := fun e he => by simp at he, ok := aEd }
theorem BaseAt.turn {pre post : List Ent} {e : Ent} (h : BaseAt S w bb r (pre ++ e :: post)) {iv' : Value} {LL' : List (List ByteArray)} (hk : Kp e.own w w') (hs : ∀ k, S k -> S' k) (hnew : ∀ k, S' k -> S k \/ w.heap.size ≤ k)
 (hr : RowsAt S' w' e.b iv' e.ar LL') (hiv : ∀ k, iv'.ownBlock = some k -> e.iv.ownBlock = some k \/ w.heap.size ≤ k) {n : Nat} {W : World} (hW : Kp (fun k => k = bb \/ k = r) w' W) (hm : MapIs W r (gQ (pre ++ e :: post))) (hB : Blk W bb [.map (some r), .int .i64 (n : Nat)] 153) (hn : n = bH (aR (pre ++ { e with iv := iv', LL := LL' } :: post))) (hok : BaseOk (aR (pre ++ { e with iv := iv', LL := LL' } :: post))) :
 BaseAt S' W bb r (pre ++ { e with iv := iv', LL := LL' } :: post) := by
 have hin' := hr.inS
 have hown : ∀ f ∈ pre ++ e :: post, ∀ k, f.own k -> k < w.heap.size /\ ¬ S' k := fun f hf k ho => by
  have h1 := h.ownLt k (.inr (.inr ⟨f, hf, ho⟩))
  refine ⟨h1, fun hs' => ?_⟩
  rcases hnew k hs' with h2 | h2
  ·exact (h.rows f hf).notS k ho h2
  ·omega
 have hbb := h.ownLt bb (.inl rfl)
 have hrr := h.ownLt r (.inr (.inl rfl))
 have hem : e ∈ pre ++ e :: post := List.mem_append_right _ List.mem_cons_self
 have hebb : ¬ S' bb := fun hs' => by rcases hnew _ hs' with h2 | h2; exact h.notS.1 h2; omega
 have herr : ¬ S' r := fun hs' => by rcases hnew _ hs' with h2 | h2; exact h.notS.2 h2; omega
 have hiv2 : ∀ k, bN e.b iv' k -> e.own k \/ w.heap.size ≤ k := fun k ho => by
  rcases ho with ho | ho
  ·exact .inl (.inl ho)
  ·rcases hiv k ho with h2 | h2
   ·exact .inl (.inr h2)
   ·exact .inr h2
 have hoff' : ∀ k, bN e.b iv' k -> k ≠ bb /\ k ≠ r := fun k ho => by
  rcases hiv2 k ho with h2 | h2
  ·exact h.off e hem k h2
  ·omega
 obtain ⟨ap1, ap2, ap3⟩ := List.pairwise_append.1 h.apart
 obtain ⟨ap4, ap5⟩ := List.pairwise_cons.1 ap2
 have hother : ∀ f, (f ∈ pre \/ f ∈ post) -> (∀ k, e.own k -> ¬ f.own k) /\ f ∈ pre ++ e :: post := fun f hf => by
  rcases hf with hf | hf
  ·exact ⟨fun k h1 h2 => ap3 f hf e List.mem_cons_self k h2 h1, List.mem_append_left _ hf⟩
  ·exact ⟨fun k h1 h2 => ap4 f hf k h1 h2, List.mem_append_right _ (List.mem_cons_of_mem _ hf)⟩
 have hF : ∀ k, k = bb \/ k = r -> ¬ S' k := fun k e => by
  rcases e with rfl | rfl
  ·exact hebb
  ·exact herr
 have hrows : ∀ f, (f ∈ pre \/ f ∈ post) -> RowsAt S' W f.b f.iv f.ar f.LL := fun f hf => by
  obtain ⟨h1, h2⟩ := hother f hf
  have h3 := (h.rows f h2).move (S' := S') hk h1 (fun k hf => (h.rows e hem).notS k hf) hs (fun k hk' => hin' k hk') (fun k ho => (hown f h2 k ho).2)
  exact h3.move hW (fun k e2 ho => by
   have h4 := h.off f h2 k ho
   rcases e2 with e2 | e2
   ·exact h4.1 e2
   ·exact h4.2 e2) hF (fun _ x => x) (fun k hk' => Nat.lt_of_lt_of_le (hin' k hk') hW.size) h3.notS
 refine { blk := by rw [hn] at hB; exact hB, map := ?_, rows := fun f hf => ?_, apart := ?_, inS := fun k hk' => Nat.lt_of_lt_of_le (hin' k hk') hW.size, notS := ⟨hebb, herr⟩, ne := h.ne, off := fun f hf => ?_, ok := hok }
 ·have h2 : gQ (pre ++ { e with iv := iv', LL := LL' } :: post) = gQ (pre ++ e :: post) := by simp [gQ, Ent.ptr]
  rw [h2]; exact hm
 ·rcases List.mem_append.1 hf with hf | hf
  ·exact hrows f (.inl hf)
  ·rcases List.mem_cons.1 hf with rfl | hf
   ·exact hr.move hW (fun k e2 ho => by
     have h4 := hoff' k ho
     rcases e2 with e2 | e2
     ·exact h4.1 e2
     ·exact h4.2 e2) hF (fun _ x => x) (fun k hk' => Nat.lt_of_lt_of_le (hin' k hk') hW.size) hr.notS
   ·exact hrows f (.inr hf)
 ·refine List.pairwise_append.2 ⟨ap1, List.pairwise_cons.2 ⟨fun f hf k ho hf2 => ?_, ap5⟩, fun f hf g hg k ho hg2 => ?_⟩
  ·rcases hiv2 k ho with h2 | h2
   ·exact ap4 f hf k h2 hf2
   ·have := (hown f (hother f (.inr hf)).2 k hf2).1; omega
  ·rcases List.mem_cons.1 hg with rfl | hg
   ·rcases hiv2 k hg2 with h2 | h2
    ·exact ap3 f hf e List.mem_cons_self k ho h2
    ·have := (hown f (hother f (.inl hf)).2 k ho).1; omega
   ·exact ap3 f hf g (List.mem_cons_of_mem _ hg) k ho hg2
 ·rcases List.mem_append.1 hf with hf | hf
  ·exact h.off f (hother f (.inl hf)).2
  ·rcases List.mem_cons.1 hf with rfl | hf
   ·exact hoff'
   ·exact h.off f (hother f (.inr hf)).2
theorem BaseAt.push (h : BaseAt S w bb r E) {e : Ent} (hx : Ext w w') (hs : ∀ k, S k -> S' k) (hnew : ∀ k, S' k -> S k \/ w.heap.size ≤ k) (hr : RowsAt S' w' e.b e.iv e.ar e.LL) (ho : ∀ k, e.own k -> w.heap.size ≤ k)
 {n : Nat} {W : World} (hW : Kp (fun k => k = bb \/ k = r) w' W) (hB : Blk W bb [.map (some r), .int .i64 (n : Nat)] 153) (hm : MapIs W r (gQ (E ++ [e]))) (hn : n = bH (aR (E ++ [e]))) (hok : BaseOk (aR (E ++ [e]))) : BaseAt S' W bb r (E ++ [e]) := by
 have hbb := h.ownLt bb (.inl rfl)
 have hrr := h.ownLt r (.inr (.inl rfl))
 have hin' := hr.inS
 have hno : ∀ k, iG bb r E k -> ¬ S' k := fun k ho hs' => by
  rcases hnew k hs' with h2 | h2
  ·exact h.notOwn k ho h2
  ·have := h.ownLt k ho; omega
 have hF : ∀ k, k = bb \/ k = r -> ¬ S' k := fun k hk => hno k (hk.elim .inl fun h => .inr (.inl h))
 refine { blk := by rw [hn] at hB; exact hB, map := hm, rows := fun f hf => ?_, apart := ?_, inS := fun k hk' => Nat.lt_of_lt_of_le (hin' k hk') hW.size, notS := ⟨hF _ (.inl rfl), hF _ (.inr rfl)⟩, ne := h.ne, off := fun f hf => ?_, ok := hok }
 ·rcases List.mem_append.1 hf with hf | hf
  ·have h3 := (h.rows f hf).move (S' := S') hx (fun _ x => x.elim) (fun _ x => x.elim) hs (fun k hk' => hin' k hk') (fun k ho => hno k (.inr (.inr ⟨f, hf, ho⟩)))
   exact h3.move hW (fun k e2 ho => by
    have h4 := h.off f hf k ho
    rcases e2 with e2 | e2
    ·exact h4.1 e2
    ·exact h4.2 e2) hF (fun _ x => x) (fun k hk' => Nat.lt_of_lt_of_le (hin' k hk') hW.size) h3.notS
  ·obtain rfl := List.mem_singleton.1 hf
   exact hr.move hW (fun k e2 ho2 => by have := ho k ho2; omega) hF (fun _ x => x) (fun k hk' => Nat.lt_of_lt_of_le (hin' k hk') hW.size) hr.notS
 ·refine List.pairwise_append.2 ⟨h.apart, List.pairwise_singleton _ _, fun f hf g hg k h1 h2 => ?_⟩
  obtain rfl := List.mem_singleton.1 hg
  have h3 := h.ownLt k (.inr (.inr ⟨f, hf, h1⟩))
  have h4 := ho k h2
  omega
 ·rcases List.mem_append.1 hf with hf | hf
  ·exact h.off f hf
  ·obtain rfl := List.mem_singleton.1 hf
   intro k hk
   have := ho k hk
   omega
theorem jQ {E : List Ent} {s : ByteArray} {e : Ent} (h : bP E s = some e) : ∃ pre post, E = pre ++ e :: post := by
 obtain ⟨_, pre, post, h2, _⟩ := List.find?_eq_some_iff_append.1 h
 exact ⟨pre, post, h2⟩
theorem aCr {pre post : List Ent} {e : Ent} {s : ByteArray} (h : bP (pre ++ e :: post) s = some e) (hn : ((aR (pre ++ e :: post)).map (·.1)).Nodup) (iv' : Value) (LL' : List (List ByteArray)) : sM (aR (pre ++ e :: post)) s (e.ar, LL') = aR (pre ++ { e with iv := iv', LL := LL' } :: post) := by
 have hs : e.name = s := (cY h).2
 have h1 : (dG (aR (pre ++ e :: post)) s).isSome = true := by rw [pY, h]; rfl
 unfold sM
 rw [if_pos h1]
 have hid : ∀ q : Ent, q.name ≠ s -> (if q.cnt.1 = s then (q.cnt.1, (e.ar, LL')) else q.cnt) = q.cnt := fun q hq => if_neg hq
 unfold aR at hn ⊢
 rw [List.map_append, List.map_cons, List.map_append, List.map_cons] at hn
 obtain ⟨_, hn2, hn3⟩ := List.nodup_append.1 hn
 obtain ⟨hn4, _⟩ := List.nodup_cons.1 hn2
 rw [List.map_append, List.map_append, List.map_cons, List.map_cons, List.map_append, List.map_cons]
 congr 1
 ·rw [List.map_map]
  apply List.map_congr_left
  intro q hq
  refine hid q fun e2 => ?_
  exact hn3 q.name (List.mem_map.2 ⟨q.cnt, List.mem_map.2 ⟨q, hq, rfl⟩, rfl⟩) e.name List.mem_cons_self (by rw [e2, hs])
 ·congr 1
  ·show (if e.name = s then (e.name, (e.ar, LL')) else e.cnt) = _
   rw [if_pos hs]; rfl
  ·rw [List.map_map]
   apply List.map_congr_left
   intro q hq
   refine hid q fun e2 => ?_
   exact hn4 (List.mem_map.2 ⟨q.cnt, List.mem_map.2 ⟨q, hq, rfl⟩, by show q.name = e.name; rw [e2, hs]⟩)
theorem aHw {E : List Ent} {s : ByteArray} (h : bP E s = none) (b : Nat) (iv : Value) (ar : Nat) (LL : List (List ByteArray)) : sM (aR E) s (ar, LL) = aR (E ++ [{ name := s, b := b, iv := iv, ar := ar, LL := LL }]) := by
 unfold sM
 rw [(eV h).1, if_neg (by simp)]
 unfold aR
 rw [List.map_append]; rfl
theorem aCk {E : List Ent} {s : ByteArray} {e : Ent} (h : bP E s = some e) (hn : ((gQ E).map (·.1)).Nodup) : lC (gQ E) s e.ptr = gQ E := by
 obtain ⟨pre, post, rfl⟩ := jQ h
 have hs : e.name = s := (cY h).2
 unfold lC
 rw [mY, h, if_pos (by rfl)]
 unfold gQ at hn ⊢
 rw [List.map_append, List.map_cons, List.map_append, List.map_cons] at hn
 obtain ⟨_, hn2, hn3⟩ := List.nodup_append.1 hn
 obtain ⟨hn4, _⟩ := List.nodup_cons.1 hn2
 rw [List.map_append, List.map_append, List.map_cons, List.map_cons]
 have hid : ∀ q : Ent, q.name ≠ s -> (if (q.name, q.ptr).1 = s then ((q.name, q.ptr).1, e.ptr) else (q.name, q.ptr)) = (q.name, q.ptr) := fun q hq => if_neg hq
 congr 1
 ·rw [List.map_map]
  apply List.map_congr_left
  intro q hq
  refine hid q fun e2 => ?_
  exact hn3 q.name (List.mem_map.2 ⟨(q.name, q.ptr), List.mem_map.2 ⟨q, hq, rfl⟩, rfl⟩) e.name List.mem_cons_self (by rw [e2, hs])
 ·congr 1
  ·exact if_pos hs
  ·rw [List.map_map]
   apply List.map_congr_left
   intro q hq
   refine hid q fun e2 => ?_
   exact hn4 (List.mem_map.2 ⟨(q.name, q.ptr), List.mem_map.2 ⟨q, hq, rfl⟩, by show q.name = e.name; rw [e2, hs]⟩)
theorem xT {E : List Ent} {s : ByteArray} (h : bP E s = none) (b : Nat) (iv : Value) (ar : Nat) (LL : List (List ByteArray)) : lC (gQ E) s (.pointer (some ⟨b, 0, none⟩)) = gQ (E ++ [{ name := s, b := b, iv := iv, ar := ar, LL := LL }]) := by
 unfold lC
 rw [mY, h, if_neg (by simp)]
 unfold gQ
 rw [List.map_append]; rfl
end
end
section
open Go.RowKit Go.Shelf
def kN (lo : Nat) (w : World) (v : Value) (LL : List (List ByteArray)) : Prop :=
 ∃ Bs iv, v = .func (.func 177) #[] #[.pointer (some ⟨Bs, 0, none⟩)] /\ lo ≤ Bs /\ Blk w Bs [iv] 51 /\ OwnRows lo w iv LL /\ LL.length ≤ 1048576 * 1048576
section
variable {z z1 z2 : Prop} {S : Nat -> Prop} {w w' : World} {b b1 b2 : Nat} {iv iv1 iv2 : Value} {arity arity2 : Nat} {LL L1 L2 : List (List ByteArray)}
theorem RowsAt.len (h : RowsAt S w b iv arity LL) : LL.length ≤ 1048576 * 1048576 := by
 obtain ⟨con, zs, hc, hs, hl⟩ := h
 rw [<- hl, List.length_map]; exact hs.len
theorem yX (w : World) : Calls Tryz.prog 234 #[.pointer none] w (RetN w fun w' v => kN w.heap.size w' v []) := by
 go_enter Tryz.func234, Tryz.ntmps234
 go_wp2_with fail
 refine (aAz w).mono ?_
 rintro e w1 ⟨v, rfl, hk, h1⟩
 obtain ⟨ao, cap, ev, _⟩ := h1.shape
 subst ev
 have HK := qH (And.intro hk h1); clear hk h1
 go_wp2_with fail
 refine (jU _ _ _ w1).mono ?_
 rintro e w2 ⟨v, rfl, hk2, rfl, ew⟩
 subst ew
 go_wp2
 go_ret
 exact RetN.mk (HK.out.1.alloc _) ⟨_, _, rfl, HK.out.1.size, Blk.new w1 [_] _, HK.out.2.ext ((Kp.refl w1).alloc _), by simp⟩
theorem tV (h : RowsQ z S w b iv arity LL) :
 Calls Tryz.prog 234 #[.pointer (some ⟨b, 0, none⟩)] w (RetF (FQ z b) w fun w' v => RowsAt S w' b iv arity LL /\ kN w.heap.size w' v LL) := by
 have H := qH (qN h); clear h
 go_enter Tryz.func234, Tryz.ntmps234
 go_wp2_with fail
 refine H.out.mono ?_
 rintro e w1 ⟨v, rfl, hk, h1, h2⟩
 obtain ⟨ao, cap, ev, _⟩ := h2.shape
 subst ev
 have HK := qH (And.intro hk (And.intro h1 h2)); clear hk h1 h2
 go_wp2_with fail
 refine (jU _ _ _ w1).mono ?_
 rintro e w2 ⟨v, rfl, hk2, rfl, ew⟩
 subst ew
 go_wp2
 go_ret
 obtain ⟨hk, h1, h2⟩ := HK.out
 exact RetF.mk (hk.alloc _) ⟨h1.ext ((Kp.refl w1).alloc _), _, _, rfl, hk.size, Blk.new w1 [_] _, h2.ext ((Kp.refl w1).alloc _), h1.len⟩
theorem RowsAt.boxed {w0 : World} {con : eZ -> List ByteArray} {zs : List eZ} {te : TypeId} (h : SetAtRow Tryz.prog S w b (.func (Fn.func 120) #[] #[]) iv [] te (oY S w0) (fun x y => aD (con x) (con y)) zs) (h0 : Ext w0 w)
 (hc : ∀ x ss, ReadsAs w0 x ss -> con x = ss) (arity : Nat) : RowsAt S (w.alloc (.cells #[.func (Fn.func 120) #[] #[], iv, .int .i64 arity] 138)) w.heap.size iv arity (zs.map con) := by
 have hk : Ext w (w.alloc (.cells #[.func (Fn.func 120) #[] #[], iv, .int .i64 arity] 138)) := (Kp.refl w).alloc _
 obtain ⟨con', hc'⟩ := rB (w.alloc (.cells #[.func (Fn.func 120) #[] #[], iv, .int .i64 arity] 138))
 have e : ∀ x ∈ zs, con' x = con x := fun x hx => by
  obtain ⟨ss, h1, h2, h3⟩ := h.all x hx
  rw [hc x ss h1, hc' x ss ⟨h1.1, h1.2.ext (h0.trans hk)⟩]
 refine ⟨con', zs, hc', ⟨Blk.new w [_, _, _] _, h.row.ext hk, fun e => ?_, fun k hS => ?_, fun k ho hS => ?_, gG hc', fun x hx => ?_, h.len⟩, List.map_congr_left e⟩
 ·have := h.row.lt _ e; omega
 ·have := h.inS k hS; rw [aI]; omega
 ·rcases ho with rfl | ho
  ·have := h.inS _ hS; omega
  ·exact h.notS k (.inr ho) hS
 ·obtain ⟨ss, h1, h2, h3⟩ := h.all x hx
  exact ⟨ss, ⟨h1.1, h1.2.ext (h0.trans hk)⟩, h2, h3⟩
set_option maxHeartbeats 1000000 in
theorem aD1 (h : RowsQ z S w b iv arity LL) :
 Calls Tryz.prog 35 #[.pointer (some ⟨b, 0, none⟩)] w (RetF (FQ z b) w fun w' v => RowsAt S w' b iv arity LL /\
  ∃ b' iv', v = .pointer (some ⟨b', 0, none⟩) /\ w.heap.size ≤ b' /\ (∀ k, iv'.ownBlock = some k -> w.heap.size ≤ k) /\ RowsAt S w' b' iv' arity LL) := by
 have c2 := h.ar
 have HS := qH (fun W (hW : Ext w W) => fX (h.ext hW))
 clear h
 go_enter Tryz.func35, Tryz.ntmps35
 go_wp2_with fail
 go_region_with
  (first
   | (go_at_call 70; refine (HS.out _ ((Kp.refl w).drew)).mono ?_; rintro e w1 ⟨v1, rfl, hk1, rfl, h1⟩; have d2 := h1.q (z := False) |>.ar; have HK1 := qH (And.intro hk1 h1); obtain ⟨con, zs, hc, hs, hl⟩ := h1; have HC := qH (tT hs); have HE := qH (And.intro hc hl); clear hk1 hc hs hl)
   | (go_at_call 71; refine HC.out.mono ?_; rintro e w2 ⟨v2, rfl, hk2, b2, iv2, rfl, hb2, hi2, hs2⟩; have e2 := hk2.cell d2 id; obtain ⟨q1, q2⟩ := hs2.cells; obtain ⟨ao2, n2, cap2, ei, _⟩ : ∃ ao n cap, iv2 = .slice ao n cap /\ True := (by obtain ⟨ao, cap, e, _⟩ := hs2.row.shape; exact ⟨_, _, _, e, trivial⟩); subst ei; have HS2 := qH (And.intro hk2 (And.intro hb2 (And.intro hi2 hs2))); clear hk2 hb2 hi2 hs2))
 all_goals
  go_wp2
  go_ret
  obtain ⟨hk1, h1⟩ := HK1.out
  obtain ⟨hk2, hb2, hi2, hs2⟩ := HS2.out
  have hz1 := hk1.size
  have hz2 := hk2.size
  have hz0 : w.heap.size ≤ w1.heap.size := hz1
  refine RetF.mk (((Kp.refl w).drew.trans hk1).ext (hk2.alloc _)) ⟨h1.ext (hk2.alloc _), _, _, rfl, by omega, fun k hk => Nat.le_trans hz0 (hi2 k hk), ?_⟩
  have := RowsAt.boxed hs2 hk2 HE.out.1 arity
  rw [HE.out.2] at this
  exact this
theorem RowsAt.two (h1 : RowsAt S w b1 iv1 arity L1) (h2 : RowsAt S w b2 iv2 arity2 L2) : ∃ con, ∃ zs zs2 : List eZ, (∀ x ss, ReadsAs w x ss -> con x = ss) /\
 SetAtRow Tryz.prog S w b1 (.func (Fn.func 120) #[] #[]) iv1 [.int .i64 arity] 138 (oY S w) (fun x y => aD (con x) (con y)) zs /\
 PtrSetRow Tryz.prog S w (.pointer (some ⟨b2, 0, none⟩)) zs2 /\ (∀ x ∈ zs2, oY S w x) /\ zs.map con = L1 /\ zs2.map con = L2 := by
 obtain ⟨con, zs, hc, hs, hl⟩ := h1
 obtain ⟨con2, zs2, hc2, hs2, hl2⟩ := h2
 refine ⟨con, zs, zs2, hc, hs, .inr ⟨_, _, _, _, _, _, _, rfl, hs2⟩, hs2.all, hl, ?_⟩
 rw [<- hl2]
 refine List.map_congr_left fun x hx => ?_
 obtain ⟨ss, q1, q2, q3⟩ := hs2.all x hx
 rw [hc x ss q1, hc2 x ss q1]
end
end
section
open Go.RowKit
inductive BaseV (S : Nat -> Prop) (w : World) : Value -> List Ent -> Prop
 | nil : BaseV S w (.pointer none) []
 | zero (bb : Nat) : Blk w bb [.map none, .int .i64 0] 153 -> (∀ k, S k -> k < w.heap.size) -> ¬ S bb -> BaseV S w (.pointer (some ⟨bb, 0, none⟩)) []
 | full (bb r : Nat) (E : List Ent) : BaseAt S w bb r E -> BaseV S w (.pointer (some ⟨bb, 0, none⟩)) E
def yZ : Option Ent -> Value
 | some e => e.ptr
 | none => .pointer none
def fR : Option Ent -> List (List ByteArray)
 | some e => e.LL
 | none => []
def aKh (S : Nat -> Prop) (w : World) (o : Option Ent) : Prop := ∀ e, o = some e -> RowsAt S w e.b e.iv e.ar e.LL /\ Strict aD e.LL
section
variable {S : Nat -> Prop} {w w' : World} {o : Option Ent} {v : Value} {E : List Ent}
theorem BaseV.opt (h : BaseV S w v E) (s : ByteArray) : aKh S w (bP E s) := fun e he => by
 cases h with
 | nil => cases he
 | zero => cases he
 | full bb r E h =>
  have hm := (cY he).1
  exact ⟨h.rows e hm, h.strict hm⟩
theorem BaseV.ok (h : BaseV S w v E) : BaseOk (aR E) := by
 cases h with
 | nil => exact aEd
 | zero => exact aEd
 | full bb r E h => exact h.ok
theorem BaseV.ext (h : BaseV S w v E) (hk : Ext w w') : BaseV S w' v E := by
 cases h with
 | nil => exact .nil
 | zero bb hb hi hs => exact .zero bb (hb.ext hk) (fun k hk' => Nat.lt_of_lt_of_le (hi k hk') hk.size) hs
 | full bb r E h => exact .full bb r E (h.ext hk)
theorem sO {P : Program} {t k e : TypeId} (ht : P.underlying t = some (.map k e)) (hk : P.underlying k = some .string) {z : Value} (hz : (zeroValue e).run P w = .ok z w) (s : ByteArray) :
 (Instr.lookup t (.map none) (.string s) false).run P w = .ok z w := by
 have hc := gD (P := P) (w := w) hk s true 9999
 have hf := iB (P := P) (w := w) hk s (es := []) (r := none) rfl
 simp [Instr.lookup, run_underlying ht, hc, hz, hf, Result.andThen]
theorem aI7 (h : BaseV S w v E) (s : ByteArray) : Calls Tryz.prog 104 #[v, .string s] w (Ret (yZ (bP E s)) w) := by
 cases h with
 | nil =>
  go_enter Tryz.func104, Tryz.ntmps104
  go_wp2
  go_ret
  exact Ret.mk rfl
 | zero bb hb hi hs =>
  have c0 := hb.cell 0 (by simp)
  have hlk := sO (P := Tryz.prog) (w := w) Tryz.underlying151 Tryz.underlying9 (z := .pointer none) (by kernel_rfl) s
  simp only [List.getElem_cons_zero] at c0
  clear hb hi hs
  go_enter Tryz.func104, Tryz.ntmps104
  go_wp2
  go_ret
  exact Ret.mk rfl
 | full bb r E h =>
  have c0 := h.blk.cell 0 (by simp)
  have hlk := iT (P := Tryz.prog) Tryz.underlying151 Tryz.underlying9 (z := .pointer none) (by kernel_rfl) h.map s
  rw [mY] at hlk
  have he : ((bP E s).map Ent.ptr).getD (.pointer none) = yZ (bP E s) := by cases bP E s <;> rfl
  rw [he] at hlk
  simp only [List.getElem_cons_zero] at c0
  clear h he
  go_enter Tryz.func104, Tryz.ntmps104
  go_wp2
  go_ret
  exact Ret.mk rfl
theorem aEc (h : aKh S w o) : Calls Tryz.prog 36 #[yZ o] w (RetN w fun w' v => v = .int .i64 ((fR o).length : Nat)) := by
 cases o with
 | none =>
  refine (aAv w).mono ?_
  rintro e w' ⟨rfl, rfl⟩
  exact RetN.mk (Kp.refl _) rfl
 | some e =>
  refine (nP (z := False) (h e rfl).1.q).mono ?_
  rintro e w' ⟨v, rfl, hk, rfl, _⟩
  exact RetN.mk (Kp.fq hk) rfl
theorem aA7 (h : aKh S w o) : Calls Tryz.prog 234 #[yZ o] w (RetN w fun w' v => kN w.heap.size w' v (fR o)) := by
 cases o with
 | none => exact yX w
 | some e =>
  refine (tV (z := False) (h e rfl).1.q).mono ?_
  rintro e w' ⟨v, rfl, hk, _, h2⟩
  exact RetN.mk (Kp.fq hk) h2
theorem zU (h : BaseV S w v E) (s : ByteArray) :
 Calls Tryz.prog 58 #[v, .string s] w (RetN w fun w' v => v = .int .i64 ((fR (bP E s)).length : Nat)) := by
 have HO := qH (aI7 h s)
 have HH := qH (aEc (h.opt s))
 clear h
 go_enter Tryz.func58, Tryz.ntmps58
 go_wp2_with fail
 refine HO.out.mono ?_
 rintro e w1 ⟨rfl, rfl⟩
 go_wp2_with fail
 refine HH.out.mono ?_
 rintro e w1 ⟨v, rfl, hk, rfl⟩
 go_wp2
 go_ret
 exact RetN.mk hk rfl
theorem zV (h : BaseV S w v E) (s : ByteArray) :
 Calls Tryz.prog 223 #[v, .string s] w (RetN w fun w' v => kN w.heap.size w' v (fR (bP E s))) := by
 have HO := qH (aI7 h s)
 have HH := qH (aA7 (h.opt s))
 clear h
 go_enter Tryz.func223, Tryz.ntmps223
 go_wp2_with fail
 refine HO.out.mono ?_
 rintro e w1 ⟨rfl, rfl⟩
 go_wp2_with fail
 refine HH.out.mono ?_
 rintro e w1 ⟨v, rfl, hk, hc⟩
 go_wp2
 go_ret
 exact RetN.mk hk hc
end
def eD (N : List ByteArray) (ts : List aE) (i : Nat) : List Nat := (List.range i).filter fun j => ts.any (isV (N.getD j ByteArray.empty))
theorem aAf {N : List ByteArray} {ts : List aE} {i : Nat} {s : ByteArray} (h : N[i]? = some s) : eD N ts (i + 1) = if ts.any (isV s) = true then eD N ts i ++ [i] else eD N ts i := by
 unfold eD
 rw [List.range_succ, List.filter_append, List.filter_cons, List.filter_nil, bC h]
 split
 ·rfl
 ·rw [List.append_nil]
theorem aDl (N : List ByteArray) (ts : List aE) (i : Nat) : (eD N ts i).length ≤ i := by
 unfold eD
 exact Nat.le_trans (List.length_filter_le _ _) (by rw [List.length_range]; exact Nat.le_refl _)
theorem aK4 {α β : Type} [DecidableEq β] {l : List α} {m : List β} (f : α -> β) (hn : l.Nodup) (hi : ∀ a ∈ l, ∀ b ∈ l, f a = f b -> a = b) (hm : ∀ a ∈ l, f a ∈ m) : l.length ≤ m.length := by
 induction l generalizing m with
 | nil => exact Nat.zero_le _
 | cons a l ih =>
  obtain ⟨h1, h2⟩ := List.nodup_cons.1 hn
  have h3 := ih (m := m.erase (f a)) h2 (fun x hx y hy => hi x (List.mem_cons_of_mem _ hx) y (List.mem_cons_of_mem _ hy)) fun b hb => by
   have hne : f b ≠ f a := fun e => h1 (by rw [<- hi b (List.mem_cons_of_mem _ hb) a (List.mem_cons_self ..) e]; exact hb)
   exact (List.mem_erase_of_ne hne).2 (hm b (List.mem_cons_of_mem _ hb))
  have h4 := List.length_erase_of_mem (hm a (List.mem_cons_self ..))
  have h5 := List.length_pos_of_mem (hm a (List.mem_cons_self ..))
  rw [List.length_cons]; omega
theorem nK {N : List ByteArray} {ts : List aE} (hN : N.Nodup) : (aV N ts).length ≤ ts.length := by
 have hl : ∀ v ∈ aV N ts, N[v]? = some (aZ N v) := fun v hv => by
  have := (dC.1 hv).1
  unfold aZ
  rw [List.getD_eq_getElem?_getD, qG this]; rfl
 have h := aK4 (l := aV N ts) (m := ts.map fun t => t.2.1) (aZ N) ((List.nodup_range).filter _) (fun a ha b hb e => by
  have h1 := hl a ha
  have h2 := hl b hb
  rw [<- e] at h2
  exact (List.getElem?_inj (dC.1 ha).1 hN).1 (h1.trans h2.symm)) fun a ha => by
  obtain ⟨_, i, t, hi, _, h2⟩ := dC.1 ha
  exact List.mem_map.2 ⟨t, List.mem_of_getElem? hi, h2⟩
 rw [List.length_map] at h; exact h
open Classical in
theorem aAm (N : List ByteArray) (ts : List aE) (R : aC) (x : List ByteArray) : cV N ts (R ++ [x]) = if x.length = ts.length /\ oI ts x then cQ aD (cV N ts R) (gJ N ts x) else cV N ts R := by
 unfold cV
 rw [List.filter_append, List.filter_cons, List.filter_nil]
 by_cases h : x.length = ts.length /\ oI ts x
 ·rw [if_pos (by simpa using h), if_pos h, List.map_append, List.map_singleton]
  unfold zC
  rw [List.foldl_append]; rfl
 ·rw [if_neg (by simpa using h), if_neg h, List.append_nil]
theorem aKq (N : List ByteArray) (ts : List aE) : cV N ts [] = [] := by unfold cV; rfl
open Classical in
theorem aAn {N : List ByteArray} {ts : List aE} {R : aC} (h : ∀ x ∈ R, x.length ≠ ts.length) : cV N ts R = [] := by
 unfold cV
 have e : (R.filter fun x => decide (x.length = ts.length /\ oI ts x)) = [] := by
  rw [List.filter_eq_nil_iff]
  intro x hx
  simp only [decide_eq_true_eq, not_and]
  exact fun e => absurd e (h x hx)
 rw [e]; rfl
theorem aIb (l : aC) (x : List ByteArray) : (cQ aD l x).length ≤ l.length + 1 := by
 unfold cQ
 split
 ·omega
 ·rw [List.length_append, List.length_cons, List.length_take, List.length_drop]; omega
theorem xM : ∀ (xs acc : aC), (xs.foldl (cQ aD) acc).length ≤ acc.length + xs.length
 | [], acc => Nat.le_refl _
 | x :: xs, acc => by
  have h1 := xM xs (cQ aD acc x)
  have h2 := aIb acc x
  rw [List.foldl_cons, List.length_cons]; omega
open Classical in
theorem tB (N : List ByteArray) (ts : List aE) (R : aC) : (cV N ts R).length ≤ R.length := by
 unfold cV zC
 have h1 := xM ((R.filter fun x => decide (x.length = ts.length /\ oI ts x)).map (gJ N ts)) []
 have h2 := List.length_filter_le (fun x : List ByteArray => decide (x.length = ts.length /\ oI ts x)) R
 rw [List.length_map] at h1
 simp only [List.length_nil] at h1
 omega
theorem aK5 {x : List ByteArray} (h : bW x = true) (i : Nat) : (aZ x i).size ≤ 4096 := by
 unfold aZ
 rw [List.getD_eq_getElem?_getD]
 cases hx : x[i]? with
 | none => exact Nat.zero_le _
 | some s =>
  have := List.all_eq_true.1 h s (List.mem_of_getElem? hx)
  simpa using this
theorem aIz {N : List ByteArray} {ts : List aE} {x : List ByteArray} (h : bW x = true) : bW (gJ N ts x) = true := by
 refine List.all_eq_true.2 fun s hs => ?_
 unfold gJ at hs
 obtain ⟨v, _, rfl⟩ := List.mem_map.1 hs
 exact decide_eq_true (aK5 h _)
theorem aKb {N : List ByteArray} {ts : List aE} {R : aC} {x : List ByteArray} {n : Nat} (hn : n = (aV N ts).length) (hx : bW x = true) (hR : R.length < 65536) : aX n (cV N ts R) (gJ N ts x) = cQ aD (cV N ts R) (gJ N ts x) := by
 have h1 : (gJ N ts x).length = n := by unfold gJ; rw [List.length_map, hn]
 have h2 := tB N ts R
 have e : (aL n (cV N ts R) (gJ N ts x)).2 = 0 := by
  unfold aL
  rw [if_neg (by rw [h1]; simp), if_neg (by rw [aIz hx]; simp), if_neg (by omega)]
 unfold aX
 rw [if_pos e]
def vF (ts : List aE) (x : List ByteArray) (i : Nat) : Prop := ∀ (j : Nat) (t : aE), j < i -> ts[j]? = some t -> (t.1 = 3 -> aZ x j = t.2.1) /\ (t.1 = 1 -> aZ x (eF ts t.2.1) = aZ x j)
theorem aEz {ts : List aE} {x : List ByteArray} : vF ts x ts.length ↔ oI ts x := ⟨fun h i t hi => h i t (List.getElem?_eq_some_iff.1 hi).1 hi, fun h j t _ hi => h j t hi⟩
theorem aB8 (ts : List aE) (x : List ByteArray) : vF ts x 0 := fun j t h => by omega
theorem mW {ts : List aE} {x : List ByteArray} {i : Nat} {t : aE} (h : vF ts x i) (hi : ts[i]? = some t) (h3 : t.1 = 3 -> aZ x i = t.2.1) (h1 : t.1 = 1 -> aZ x (eF ts t.2.1) = aZ x i) : vF ts x (i + 1) := fun j u hj hu => by
 rcases Nat.lt_or_eq_of_le (Nat.le_of_lt_succ hj) with h2 | h2
 ·exact h j u h2 hu
 ·subst h2; rw [hi] at hu; cases hu; exact ⟨h3, h1⟩
theorem vJ {ts : List aE} {s : ByteArray} (h : ts.any (isV s) = true) : bI (isT 1 s) ts = (eF ts s : Nat) /\ eF ts s < ts.length := by
 refine ⟨?_, ?_⟩
 ·unfold bI eF
  rw [show isT 1 s = isV s from rfl, if_pos h]
 ·unfold eF
  obtain ⟨t, ht, hq⟩ := List.any_eq_true.1 h
  exact List.findIdx_lt_length_of_exists ⟨t, ht, hq⟩
def dN (w : World) : Nat -> Prop := fun k => ∃ o : Obj, w.heap[k]? = some o /\ o.isCells = true
theorem RowsAt.tight {S : Nat -> Prop} {w : World} {b : Nat} {iv : Value} {arity : Nat} {LL : aC} (h : RowsAt S w b iv arity LL) : RowsAt (fun k => S k /\ dN w k) w b iv arity LL := by
 obtain ⟨con, zs, hc, hs, hl⟩ := h
 refine ⟨con, zs, hc, ⟨hs.blk, hs.row, hs.apart, fun k hk => hs.inS k hk.1, fun k h1 h2 => hs.notS k h1 h2.1, gG hc, fun z hz => ?_, hs.len⟩, hl⟩
 obtain ⟨ss, h1, h2, h3⟩ := hs.all z hz
 refine ⟨ss, h1, h2, fun a e hne => ⟨h3 a e hne, ?_⟩⟩
 have hpos : 0 < ss.length := by rw [<- h1.1]; omega
 obtain ⟨b', o', e', c'⟩ := h1.2 0 (.string ss[0]) (by simp [strs, qG hpos])
 rw [e] at e'
 cases e'
 unfold World.cell? at c'
 unfold dN
 cases ho : w.heap[b']? with
 | none => rw [ho] at c'; simp at c'
 | some o =>
  refine ⟨o, rfl, ?_⟩
  rw [ho] at c'
  cases o <;> first | rfl | (simp at c')
theorem RowsAt.cellOwn {S : Nat -> Prop} {w : World} {b : Nat} {iv : Value} {arity : Nat} {LL : aC} (h : RowsAt S w b iv arity LL) : ∀ k, bN b iv k -> dN w k := by
 obtain ⟨con, zs, hc, hs, hl⟩ := h
 intro k hk
 rcases hk with rfl | hk
 ·exact ⟨_, hs.blk, rfl⟩
 ·obtain ⟨cs, hb, _⟩ := hs.row.has hk
  exact ⟨_, hb, rfl⟩
end
section
open Go.RowKit Go.Shelf
structure LevelAt (w : World) (b off i : Nat) (W : aC) (d : Nat) : Prop where
 ex : ∃ ka kc fa fc, w.cell? ⟨b, off + i * 2, none⟩ = some (.slice ka (aO W d i W.length) kc) /\ w.cell? ⟨b, off + i * 2 + 1, none⟩ = some (.slice fa (aO W d i W.length + 1) fc) /\ aO W d i W.length ≤ kc /\
  CellsAt w ka (strs (bJ W d i W.length)) /\ CellsAt w fa (ints (bT W d i W.length ++ [(aO W d (i + 1) W.length : Int)]))
theorem LevelAt.ext {w w' : World} {b off i : Nat} {W : aC} {d : Nat} (h : LevelAt w b off i W d) (hk : Ext w w') : LevelAt w' b off i W d := by
 obtain ⟨ka, kc, fa, fc, h1, h2, h3, h4, h5⟩ := h.ex
 exact ⟨ka, kc, fa, fc, hk.cell h1 id, hk.cell h2 id, h3, h4.ext hk, h5.ext hk⟩
structure TrieAt (w : World) (tb : Nat) (W : aC) (d : Nat) : Prop where
 ex : ∃ la lc, w.cell? ⟨tb, 0, none⟩ = some (.slice la d lc) /\ w.cell? ⟨tb, 1, none⟩ = some (.int .i64 W.length) /\ w.cell? ⟨tb, 2, none⟩ = some (.bool true) /\ ∀ i, i < d -> ∃ b off, la = some ⟨b, off, none⟩ /\ LevelAt w b off i W d
 few : W.length ≤ 1048576
 dep : d ≤ 1048576
theorem TrieAt.ext {w w' : World} {tb : Nat} {W : aC} {d : Nat} (h : TrieAt w tb W d) (hk : Ext w w') : TrieAt w' tb W d := by
 obtain ⟨⟨la, lc, h1, h2, h3, h4⟩, h5, h6⟩ := h
 exact ⟨⟨la, lc, hk.cell h1 id, hk.cell h2 id, hk.cell h3 id, fun i hi => by
  obtain ⟨b, off, e, hl⟩ := h4 i hi
  exact ⟨b, off, e, hl.ext hk⟩⟩, h5, h6⟩
theorem aGk (tb : Nat) (w : World) : (binOp .eql 287 (.pointer (some ⟨tb, 0, none⟩)) (.pointer none)).run Tryz.prog w = .ok (.bool false) w := by kernel_rfl
set_option maxHeartbeats 1000000 in
theorem uC {w : World} {tb : Nat} {W : aC} {d : Nat} (h : TrieAt w tb W d) : Calls Tryz.prog 229 #[.pointer (some ⟨tb, 0, none⟩)] w (RetN w fun w' v => v = .bool false) := by
 have hq := aGk tb
 obtain ⟨⟨la, lc, -, -, h3, -⟩, -, -⟩ := h
 go_enter Tryz.func229, Tryz.ntmps229
 go_wp2
 go_ret
 exact RetN.mk (Kp.refl _) rfl
set_option maxHeartbeats 1000000 in
theorem xY {w : World} {tb : Nat} {W : aC} {d : Nat} (h : TrieAt w tb W d) : Calls Tryz.prog 242 #[.pointer (some ⟨tb, 0, none⟩)] w (RetN w fun w' v => v = .int .i64 d) := by
 have HN := qH (uC h)
 have HT := qH h
 clear h
 go_enter Tryz.func242, Tryz.ntmps242
 go_wp2_with fail
 refine HN.out.mono ?_
 rintro e w1 ⟨v, rfl, hk, rfl⟩
 obtain ⟨⟨la, lc, h1, -, -, -⟩, -, -⟩ := HT.out.ext hk
 have HK := qH hk
 clear hk
 go_wp2
 go_ret
 exact RetN.mk HK.out rfl
set_option maxHeartbeats 1000000 in
theorem aF7 {w : World} {tb : Nat} {W : aC} {d : Nat} (h : TrieAt w tb W d) : Calls Tryz.prog 243 #[.pointer (some ⟨tb, 0, none⟩)] w (RetN w fun w' v => v = .int .i64 W.length) := by
 have HN := qH (uC h)
 have HT := qH h
 clear h
 go_enter Tryz.func243, Tryz.ntmps243
 go_wp2_with fail
 refine HN.out.mono ?_
 rintro e w1 ⟨v, rfl, hk, rfl⟩
 obtain ⟨⟨la, lc, -, h2, -, -⟩, -, -⟩ := HT.out.ext hk
 have HK := qH hk
 clear hk
 go_wp2
 go_ret
 exact RetN.mk HK.out rfl
def iQ (e : Nat × Nat) : List Value := [.int .i64 e.1, .int .i64 e.2]
theorem fW (e : Nat × Nat) : (iQ e).length = 2 := rfl
structure CurAt (w : World) (cb tb : Nat) (st : List (Nat × Nat)) (ov : Value) (M : Nat -> Prop) : Prop where
 box : Blk w cb [.pointer (some ⟨tb, 0, none⟩), ov] 307
 row : Row w 321 2 ov st.length (st.flatMap iQ) M
theorem CurAt.ext {w w' : World} {cb tb : Nat} {st : List (Nat × Nat)} {ov : Value} {M : Nat -> Prop} (h : CurAt w cb tb st ov M) (hk : Ext w w') : CurAt w' cb tb st ov M := ⟨h.box.ext hk, h.row.ext hk⟩
theorem mZ (cb : Nat) (w : World) : (binOp .eql 288 (.pointer (some ⟨cb, 0, none⟩)) (.pointer none)).run Tryz.prog w = .ok (.bool false) w := by kernel_rfl
theorem tX {w : World} {e : TypeId} {k : Nat} {v : Value} {n : Nat} {xs : List Value} {M : Nat -> Prop} (h : Row w e k v n xs M) : ∃ ao cap, v = .slice ao n cap /\ CellsAt w ao xs /\ n ≤ cap /\ cap ≤ maxLen := by
 obtain ⟨h1, ⟨rfl, rfl⟩ | ⟨g, cap, rest, rfl, b, c, d, e, f⟩⟩ := h
 ·have : xs = [] := List.eq_nil_of_length_eq_zero (by simpa using h1)
  subst this
  exact ⟨none, 0, rfl, CellsAt.nil _ _, Nat.le_refl _, Nat.zero_le _⟩
 ·exact ⟨_, cap, rfl, CellsAt.pre c, e, f⟩
set_option maxHeartbeats 1000000 in
theorem kI {w : World} {cb tb : Nat} {st : List (Nat × Nat)} {g c m : Nat} {M : Nat -> Prop} (h : CurAt w cb tb st (.slice (some ⟨g, 0, none⟩) (m + 1) c) M) :
 Calls Tryz.prog 244 #[.pointer (some ⟨cb, 0, none⟩)] w (RetN w fun w' v => v = .pointer (some ⟨g, m * 2, none⟩)) := by
 have hq := mZ cb
 have c1 := h.box.c1
 have hmx : m + 1 ≤ maxLen := by
  obtain ⟨a, cc, e, h1, h2, h3⟩ := tX h.row
  rw [Value.slice.injEq] at e
  omega
 have hw : IntKind.i64.wrap (m : Int) = (m : Int) := IntWalk.i64_in _ (by unfold maxLen at hmx; omega)
 have hz : ¬ ((m : Int) + 1) = 0 := by omega
 clear hmx
 clear h
 go_enter Tryz.func244, Tryz.ntmps244
 go_wp2
 go_quiet (fail)
 go_wp2
 go_ret
 exact RetN.mk ((Kp.refl _).drewN _) rfl
set_option maxHeartbeats 1000000 in
theorem xC {w : World} {cb tb : Nat} {ao : Option Addr} {c : Nat} {M : Nat -> Prop} (h : CurAt w cb tb [] (.slice ao 0 c) M) :
 Calls Tryz.prog 244 #[.pointer (some ⟨cb, 0, none⟩)] w (RetN w fun w' v => v = .pointer none) := by
 have hq := mZ cb
 have c1 := h.box.c1
 clear h
 go_enter Tryz.func244, Tryz.ntmps244
 go_wp2
 go_ret
 exact RetN.mk (Kp.refl _) rfl
structure CurIn (w : World) (cb tb : Nat) (st : List (Nat × Nat)) (g c m a b : Nat) (M : Nat -> Prop) : Prop where
 at_ : CurAt w cb tb st (.slice (some ⟨g, 0, none⟩) (m + 1) c) M
 last : st[m]? = some (a, b)
theorem CurIn.len {w : World} {cb tb : Nat} {st : List (Nat × Nat)} {g c m a b : Nat} {M : Nat -> Prop} (h : CurIn w cb tb st g c m a b M) : st.length = m + 1 := by
 obtain ⟨ao, cc, e, h1, h2, h3⟩ := tX h.at_.row
 rw [Value.slice.injEq] at e
 omega
theorem CurIn.ext {w w' : World} {cb tb : Nat} {st : List (Nat × Nat)} {g c m a b : Nat} {M : Nat -> Prop} (h : CurIn w cb tb st g c m a b M) (hk : Ext w w') : CurIn w' cb tb st g c m a b M := ⟨h.at_.ext hk, h.last⟩
theorem wU (st : List (Nat × Nat)) {m : Nat} {e : Nat × Nat} (h : st[m]? = some e) : (st.flatMap iQ)[m * 2]? = some (.int .i64 e.1) /\ (st.flatMap iQ)[m * 2 + 1]? = some (.int .i64 e.2) := by
 induction st generalizing m with
 | nil => simp at h
 | cons x st ih =>
  cases m with
  | zero => cases h; exact ⟨rfl, rfl⟩
  | succ m =>
   have h2 := ih (by simpa using h)
   refine ⟨?_, ?_⟩
   ·rw [List.flatMap_cons, List.getElem?_append_right (by rw [fW]; omega), fW, show (m + 1) * 2 - 2 = m * 2 by omega]; exact h2.1
   ·rw [List.flatMap_cons, List.getElem?_append_right (by rw [fW]; omega), fW, show (m + 1) * 2 + 1 - 2 = m * 2 + 1 by omega]; exact h2.2
theorem CurIn.cells {w : World} {cb tb : Nat} {st : List (Nat × Nat)} {g c m a b : Nat} {M : Nat -> Prop} (h : CurIn w cb tb st g c m a b M) : w.cell? ⟨g, m * 2, none⟩ = some (.int .i64 a) /\ w.cell? ⟨g, m * 2 + 1, none⟩ = some (.int .i64 b) /\ w.frozen? ⟨g, m * 2, none⟩ = false := by
 obtain ⟨h1, h2⟩ := wU st h.last
 obtain ⟨_, ⟨e1, _⟩ | ⟨g', cap, rest, e1, hM, hB, h3⟩⟩ := h.at_.row
 ·cases e1
 ·simp only [Value.slice.injEq, Option.some.injEq, Addr.mk.injEq, and_true] at e1
  obtain ⟨rfl, _⟩ := e1
  have l1 := (List.getElem?_eq_some_iff.1 h1).1
  have l2 := (List.getElem?_eq_some_iff.1 h2).1
  exact ⟨by rw [hB.cell', List.getElem?_append_left l1]; exact h1, by rw [hB.cell', List.getElem?_append_left l2]; exact h2, hB.free _⟩
theorem aLa (a b : Nat) : ((a : Int) == (b : Int)) = decide (a = b) := by
 by_cases h : a = b
 ·subst h; simp
 ·rw [decide_eq_false h]
  have : ¬ (a : Int) = b := by omega
  simp [this]
theorem wV (g o : Nat) (w : World) : (binOp .neq 322 (.pointer (some ⟨g, o, none⟩)) (.pointer none)).run Tryz.prog w = .ok (.bool true) w := by kernel_rfl
theorem lA (g o : Nat) (w : World) : (binOp .eql 322 (.pointer (some ⟨g, o, none⟩)) (.pointer none)).run Tryz.prog w = .ok (.bool false) w := by kernel_rfl
set_option maxHeartbeats 1000000 in
theorem gB {w : World} {cb tb : Nat} {st : List (Nat × Nat)} {g c m a b : Nat} {M : Nat -> Prop} (h : CurIn w cb tb st g c m a b M) :
 Calls Tryz.prog 240 #[.pointer (some ⟨cb, 0, none⟩)] w (RetN w fun w' v => v = .bool (decide (a = b))) := by
 have HL := qH (kI h.at_)
 have HC := qH h
 clear h
 go_enter Tryz.func240, Tryz.ntmps240
 go_wp2_with fail
 refine HL.out.mono ?_
 rintro e w1 ⟨v, rfl, hk, rfl⟩
 obtain ⟨z0, z1, -⟩ := (HC.out.ext hk).cells
 have hq := wV g (m * 2)
 have HK := qH hk
 clear hk
 go_wp2
 go_quiet (fail)
 go_wp2
 go_ret
 exact RetN.mk (HK.out.drewN _) (congrArg Value.bool (aLa a b))
theorem lR {m : Nat} (h : m ≤ maxLen) : IntKind.i64.wrap (m : Int) = (m : Int) := IntWalk.i64_in _ (by unfold maxLen at h; omega)
theorem CurIn.small {w : World} {cb tb : Nat} {st : List (Nat × Nat)} {g c m a b : Nat} {M : Nat -> Prop} (h : CurIn w cb tb st g c m a b M) : m ≤ maxLen := by
 obtain ⟨ao, cc, e, h1, h2, h3⟩ := tX h.at_.row
 rw [Value.slice.injEq] at e
 have := h.len
 omega
set_option maxHeartbeats 1000000 in
theorem aK2 {w : World} {cb tb : Nat} {st : List (Nat × Nat)} {g c m a b d : Nat} {W : aC} {M : Nat -> Prop} {x : ByteArray} (h : CurIn w cb tb st g c m a b M) (ht : TrieAt w tb W d) (hm : m < d) (hab : a ≠ b) (hx : (bJ W d m W.length)[a]? = some x) :
 Calls Tryz.prog 246 #[.pointer (some ⟨cb, 0, none⟩)] w (RetN w fun w' v => v = .string x) := by
 have HL := qH (kI h.at_)
 have HE := qH (fun (W : World) (hW : Ext w W) => gB (h.ext hW))
 have HC := qH h
 have HT := qH ht
 have hw := lR h.small
 have hn := (List.getElem?_eq_some_iff.1 hx).1
 rw [eJ] at hn
 have HX := qH hx
 have hd : decide (a = b) = false := decide_eq_false hab
 rw [hd] at HE
 clear h ht hx hab hd
 go_enter Tryz.func246, Tryz.ntmps246
 go_wp2_with fail
 refine HL.out.mono ?_
 rintro e w1 ⟨v, rfl, hk, rfl⟩
 have hq := lA g (m * 2)
 have H1 := qH hk
 clear hk
 go_wp2_with (go_at_call 240; refine Halted.out ?_)
 refine Halted.mk ((HE.out w1 H1.out).mono ?_)
 rintro e w2 ⟨v, rfl, hk, rfl⟩
 have H2 := qH (H1.out.trans hk)
 clear hk H1
 obtain ⟨z0, z1, -⟩ := (HC.out.ext H2.out).cells
 have hb := (HC.out.at_.box.ext H2.out)
 have c0 := hb.c0
 have c1 := hb.c1
 obtain ⟨⟨la, lc, t0, -, -, hlev⟩, -, -⟩ := HT.out.ext H2.out
 obtain ⟨bl, ol, ela, hL⟩ := hlev m hm
 subst ela
 obtain ⟨ka, kc, fa, fc, l0, -, -, hk1, -⟩ := hL.ex
 obtain ⟨kb, ko, eka, k0⟩ := hk1 a (.string x) (by simp [strs, HX.out])
 subst eka
 generalize aO W d m W.length = nk at *
 clear hL hk1 hlev hb z1
 go_wp2
 go_quiet (fail)
 go_wp2
 go_ret
 exact RetN.mk (H2.out.drewN _) rfl
theorem aLz {w : World} {e : TypeId} {k : Nat} {g m c n : Nat} {xs : List Value} {M : Nat -> Prop} (h : Row w e k (.slice (some ⟨g, 0, none⟩) m c) n xs M) (i : Nat) (hi : i < xs.length) (v : Value) : Row (w.setCell ⟨g, i, none⟩ v) e k (.slice (some ⟨g, 0, none⟩) m c) n (xs.set i v) M := by
 obtain ⟨h1, ⟨e1, _⟩ | ⟨g', cap, rest, e1, hM, hB, h2, h3⟩⟩ := h
 ·cases e1
 ·cases e1
  refine ⟨by rw [List.length_set]; exact h1, .inr ⟨g, c, rest, rfl, hM, ?_, by simpa using h2, h3⟩⟩
  have := hB.set i v
  rw [List.set_append_left _ _ hi] at this
  exact this
theorem aK {w : World} {g : Nat} {cs cs' : List Value} {e e' : TypeId} (h : Blk w g cs e) (h' : Blk w g cs' e') : e = e' := by
 unfold Blk at h h'
 rw [h] at h'
 cases h'; rfl
theorem qF : 307 ≠ 321 := by decide
theorem CurAt.apart {w : World} {cb tb g n c : Nat} {st : List (Nat × Nat)} {M : Nat -> Prop} (h : CurAt w cb tb st (.slice (some ⟨g, 0, none⟩) n c) M) : cb ≠ g /\ M g /\ g < w.heap.size := by
 obtain ⟨hb, _, ⟨e1, _⟩ | ⟨g', cap, rest, e1, hM, hB, h3⟩⟩ := h
 ·cases e1
 ·simp only [Value.slice.injEq, Option.some.injEq, Addr.mk.injEq, and_true] at e1
  obtain ⟨rfl, _⟩ := e1
  exact ⟨fun e => by subst e; exact qF (aK hb hB), hM, hB.lt⟩
theorem wT : ∀ (st : List (Nat × Nat)) (m a b a' : Nat), st[m]? = some (a, b) -> (st.set m (a', b)).flatMap iQ = (st.flatMap iQ).set (m * 2) (.int .i64 a')
 | [], m, a, b, a', h => by simp at h
 | x :: st, 0, a, b, a', h => by cases h; rfl
 | x :: st, m + 1, a, b, a', h => by
  rw [List.set_cons_succ, List.flatMap_cons, List.flatMap_cons, wT st m a b a' (by simpa using h), List.set_append_right _ _ (by rw [fW]; omega), fW]
  congr 2
  omega
theorem CurIn.put {w : World} {cb tb : Nat} {st : List (Nat × Nat)} {g c m a b : Nat} {M : Nat -> Prop} (h : CurIn w cb tb st g c m a b M) (a' : Nat) : CurIn (w.setCell ⟨g, m * 2, none⟩ (.int .i64 a')) cb tb (st.set m (a', b)) g c m a' b M := by
 have hap := h.at_.apart
 have hks : Kp (fun k => k = g) w (w.setCell ⟨g, m * 2, none⟩ (.int .i64 a')) := Kp.setCell (F := fun k => k = g) (p := ⟨g, m * 2, none⟩) (Kp.refl w) (fun _ => rfl) _
 have hml : m < st.length := (List.getElem?_eq_some_iff.1 h.last).1
 refine ⟨⟨h.at_.box.kp hks hap.1, ?_⟩, by rw [List.getElem?_set_self hml]⟩
 rw [wT st m a b a' h.last, List.length_set]
 exact aLz h.at_.row (m * 2) (List.getElem?_eq_some_iff.1 (wU st h.last).1).1 _
set_option maxHeartbeats 1000000 in
theorem aI9 {w : World} {cb tb : Nat} {st : List (Nat × Nat)} {g c m a b : Nat} {M : Nat -> Prop} (h : CurIn w cb tb st g c m a b M) (hab : a < b) (hb : b ≤ 1048576) :
 Calls Tryz.prog 248 #[.pointer (some ⟨cb, 0, none⟩)] w (RetF (fun k => k = g) w fun w' v => v = .bool (decide (a + 1 ≠ b)) /\ CurIn w' cb tb (st.set m (a + 1, b)) g c m (a + 1) b M) := by
 have HL := qH (kI h.at_)
 have HE := qH (fun (W : World) (hW : Ext w W) => gB (h.ext hW))
 have HC := qH h
 have hd : decide (a = b) = false := decide_eq_false (by omega)
 rw [hd] at HE
 clear h hd
 go_enter Tryz.func248, Tryz.ntmps248
 go_wp2_with fail
 refine HL.out.mono ?_
 rintro e w1 ⟨v, rfl, hk, rfl⟩
 have hq := lA g (m * 2)
 have H1 := qH hk
 clear hk
 go_wp2_with (go_at_call 240; refine Halted.out ?_)
 refine Halted.mk ((HE.out w1 H1.out).mono ?_)
 rintro e w2 ⟨v, rfl, hk, rfl⟩
 have H2 := qH (H1.out.trans hk)
 clear hk H1
 obtain ⟨z0, -, f0⟩ := (HC.out.ext H2.out).cells
 obtain ⟨w3, e3⟩ : ∃ x, w2.setCell ⟨g, m * 2, none⟩ (.int .i64 ((a : Int) + 1)) = x := ⟨_, rfl⟩
 have hc3 : CurIn w3 cb tb (st.set m (a + 1, b)) g c m (a + 1) b M := by rw [<- e3]; exact (HC.out.ext H2.out).put (a + 1)
 have H3 := qH (And.intro hc3 (show Kp (fun k => k = g) w w3 from by rw [<- e3]; exact Kp.setCell (F := fun k => k = g) (p := ⟨g, m * 2, none⟩) (Ext.kp H2.out) (fun _ => rfl) _))
 have HE3 := qH (gB hc3)
 clear hc3
 go_wp2_with fail
 refine HE3.out.mono ?_
 rintro e w4 ⟨v, rfl, hk, rfl⟩
 have H4 := qH (And.intro (H3.out.1.ext hk) (H3.out.2.ext hk))
 clear hk e3 z0 f0
 by_cases he : a + 1 = b
 ·rw [decide_eq_true he]
  have HE5 := qH (show decide (a + 1 ≠ b) = false from decide_eq_false fun h => h he)
  clear he
  go_wp2
  go_ret
  exact RetF.mk H4.out.2 ⟨by rw [HE5.out]; rfl, H4.out.1⟩
 ·rw [decide_eq_false he]
  have HE5 := qH (show decide (a + 1 ≠ b) = true from decide_eq_true he)
  clear he
  go_wp2
  go_ret
  exact RetF.mk H4.out.2 ⟨by rw [HE5.out]; rfl, H4.out.1⟩
theorem CurIn.up {w : World} {cb tb : Nat} {st : List (Nat × Nat)} {g c m a b : Nat} {M : Nat -> Prop} (h : CurIn w cb tb st g c m a b M) : CurAt (w.setCell ⟨cb, 1, none⟩ (.slice (some ⟨g, 0, none⟩) m c)) cb tb (st.take m) (.slice (some ⟨g, 0, none⟩) m c) M := by
 have hap := h.at_.apart
 have hks : Kp (fun k => k = cb) w (w.setCell ⟨cb, 1, none⟩ (.slice (some ⟨g, 0, none⟩) m c)) := kSa
 have hl := h.len
 refine ⟨?_, ?_⟩
 ·have := h.at_.box.set 1 (.slice (some ⟨g, 0, none⟩) m c)
  exact this
 ·have hr : Row w 321 2 (.slice (some ⟨g, 0, none⟩) m c) (st.take m).length ((st.take m).flatMap iQ) M := by
   have et : (st.take m).length = m := by rw [List.length_take]; omega
   rw [et]
   obtain ⟨h1, ⟨e1, _⟩ | ⟨g', cap, rest, e1, hM, hB, h2, h3, h4⟩⟩ := h.at_.row
   ·cases e1
   ·simp only [Value.slice.injEq, Option.some.injEq, Addr.mk.injEq, and_true] at e1
    obtain ⟨rfl, e2, rfl⟩ := e1
    have es : st.flatMap iQ = (st.take m).flatMap iQ ++ (st.drop m).flatMap iQ := by rw [<- List.flatMap_append, List.take_append_drop]
    rw [es, List.append_assoc] at hB
    rw [es] at h2
    have hfl : ∀ l : List (Nat × Nat), (l.flatMap iQ).length = l.length * 2 := fun l => by
     induction l with
     | nil => rfl
     | cons x l ih => rw [List.flatMap_cons, List.length_append, fW, ih, List.length_cons]; omega
    refine ⟨by rw [hfl, et], .inr ⟨g, c, _, rfl, hM, hB, ?_, by omega, h4⟩⟩
    rw [List.length_append] at h2 ⊢
    rw [List.length_append, <- Nat.add_assoc]
    rw [List.length_append] at h2
    omega
  exact hr.kp' hks fun g' hg _ e => by
   have e3 : some g = some g' := hg
   exact hap.1 (e.symm.trans (Option.some.inj e3).symm)
set_option maxHeartbeats 1000000 in
theorem aLv {w : World} {cb tb : Nat} {st : List (Nat × Nat)} {g c m a b : Nat} {M : Nat -> Prop} (h : CurIn w cb tb st g c m a b M) :
 Calls Tryz.prog 233 #[.pointer (some ⟨cb, 0, none⟩)] w (RetF (fun k => k = cb) w fun w' v => v = .bool true /\ CurAt w' cb tb (st.take m) (.slice (some ⟨g, 0, none⟩) m c) M) := by
 have HL := qH (kI h.at_)
 have HC := qH h
 have hw := lR h.small
 obtain ⟨hmc, hcm⟩ : m ≤ c /\ c ≤ maxLen := by
  obtain ⟨ao, cc, e, h1, h2, h3⟩ := tX h.at_.row
  rw [Value.slice.injEq] at e
  have := h.len
  omega
 clear h
 go_enter Tryz.func233, Tryz.ntmps233
 go_wp2_with fail
 refine HL.out.mono ?_
 rintro e w1 ⟨v, rfl, hk, rfl⟩
 have hq := lA g (m * 2)
 have H1 := qH hk
 have hb := HC.out.at_.box.ext hk
 have c1 := hb.c1
 have f1 := hb.free 1
 clear hb hk
 go_wp2
 go_still_tail 14, (by kernel_rfl)
 go_wp2
 go_ret
 exact RetF.mk ((Kp.setCell (F := fun k => k = cb) (p := ⟨cb, 1, none⟩) (Ext.kp H1.out) (fun _ => rfl) _).drew) ⟨rfl, (HC.out.ext H1.out).up.ext ((Kp.refl _).drew)⟩
set_option maxHeartbeats 1000000 in
theorem aIj {w : World} {tb : Nat} {W : aC} {d : Nat} (h : TrieAt w tb W d) : Calls Tryz.prog 214 #[.pointer (some ⟨tb, 0, none⟩)] w (RetN w fun w' v => ∃ cb, v = .pointer (some ⟨cb, 0, none⟩) /\ w.heap.size ≤ cb /\ CurAt w' cb tb [] (.slice none 0 0) (fun k => w.heap.size ≤ k)) := by
 have HN := qH (uC h)
 clear h
 go_enter Tryz.func214, Tryz.ntmps214
 go_wp2_with fail
 refine HN.out.mono ?_
 rintro e w1 ⟨v, rfl, hk, rfl⟩
 have HK := qH hk
 clear hk
 go_wp2
 go_ret
 exact RetN.mk (HK.out.alloc _) ⟨_, rfl, HK.out.size, Blk.new w1 _ _, Row.nil _ _ _ _⟩
end
section
open Go.RowKit
attribute [local go_sem] Oper.semAt_some
theorem uB (l : List UInt8) : -9223372036854775808 ≤ (cS l).1 /\ (cS l).1 ≤ 9223372036854775807 := by
 unfold cS
 cases hp : Lib.parseIntB 64 l with
 | ok v =>
  have hb := Lib.parseIntB_bounds hp
  simp only
  split
  ·exact ⟨by have := hb.1; show _ ≤ v; omega, by have := hb.2; show v ≤ _; omega⟩
  ·exact ⟨by show (-9223372036854775808 : Int) ≤ 0; decide, by show (0 : Int) ≤ 9223372036854775807; decide⟩
 | _ => exact ⟨by show (-9223372036854775808 : Int) ≤ 0; decide, by show (0 : Int) ≤ 9223372036854775807; decide⟩
theorem aCv : ∀ a b : List UInt8, (Lib.compareBytes a b < 0 ↔ Op.bytesLess a b = true) /\ (0 < Lib.compareBytes a b ↔ Op.bytesLess b a = true)
 | [], [] => by simp [Lib.compareBytes, Op.bytesLess]
 | [], _ :: _ => by simp [Lib.compareBytes, Op.bytesLess]
 | _ :: _, [] => by simp [Lib.compareBytes, Op.bytesLess]
 | a :: x, b :: y => by
  have ih := aCv x y
  unfold Lib.compareBytes Op.bytesLess
  by_cases h1 : a < b
  ·have h2 : ¬ b < a := fun h => by rw [UInt8.lt_iff_toNat_lt] at h h1; omega
   have h3 : a ≠ b := fun e => by rw [UInt8.lt_iff_toNat_lt, e] at h1; omega
   simp [h1, h2, h3, h3.symm]
  ·by_cases h2 : b < a
   ·have h3 : a ≠ b := fun e => by rw [UInt8.lt_iff_toNat_lt, e] at h2; omega
    simp [h1, h2, h3, h3.symm]
   ·have e : a = b := by
     rw [UInt8.lt_iff_toNat_lt] at h1 h2
     exact UInt8.toNat_inj.1 (by omega)
    subst e
    simp [h1, ih]
theorem aEf {l : List UInt8} (h : (cS l).2 = false) : (cS l).1 = 0 := by
 unfold cS at h ⊢
 cases hp : Lib.parseIntB 64 l with
 | ok v =>
  rw [hp] at h
  simp only at h ⊢
  split at h
  ·cases h
  ·rename_i h2; rw [if_neg h2]
 | _ => rfl
theorem aKr (at_ : Nat) (B : aC) : -9223372036854775808 * (B.length : Int) ≤ jG at_ B /\ jG at_ B ≤ 9223372036854775807 * (B.length : Int) := by
 induction B with
 | nil => exact ⟨by unfold jG; simp, by unfold jG; simp⟩
 | cons V B ih =>
  have h := uB (aZ V at_).data.toList
  have e : jG at_ (V :: B) = (aBa at_ V).1 + jG at_ B := by unfold jG; simp
  rw [e]
  unfold aBa
  rw [List.length_cons]
  constructor <;> (push_cast; omega)
set_option maxHeartbeats 4000000 in
theorem aC9 {w : World} {b : GrpB} {k : Int} {at_ : Int} {rv : Value} {B : aC} {va : Option Addr} {n vc : Nat} {V : List ByteArray} (hk : 4 ≤ k /\ k ≤ 7) (hG : GroupAt w b k at_ rv B) (hn : n = V.length) (hV : CellsAt w va (strs V)) (hat : k ≠ 4 -> 0 ≤ at_ /\ at_ < n) (hN : NumW w) (hVs : ∀ s ∈ V, s.size ≤ 1048576) (hB : B.length ≤ 1048576) :
 Calls Tryz.prog (kT k) (#[.slice va n vc] ++ nN k b) w (RetF (fun q => q = b.nb \/ q = b.bb \/ q = b.tot) w fun w' v => v = .int .i64 (takeA k at_.toNat V : Nat) /\ GroupAt w' b k at_ rv (B ++ [V])) := by
 have hfin : ∀ (w' : World), Kp (fun q => q = b.nb \/ q = b.bb \/ q = b.tot) w w' -> Blk w' b.nb [.int .i64 (sR k (B ++ [V]))] 2 -> Blk w' b.bb [.string (jE k at_.toNat (B ++ [V]))] 9 -> TotalAt w' b.tot (tO k at_.toNat (B ++ [V])) -> GroupAt w' b k at_ rv (B ++ [V]) := fun w' hkp h1 h2 h3 => by
  have hd : ∀ q cs (e : TypeId), Blk w q cs e -> e ≠ 2 -> e ≠ 9 -> e ≠ 98 -> ¬ (q = b.nb \/ q = b.bb \/ q = b.tot) := fun q cs e hb n1 n2 n3 hq => by
   rcases hq with rfl | rfl | rfl
   ·exact n1 (aK hb hG.cnt)
   ·exact n2 (aK hb hG.best)
   ·exact n3 (aK hb hG.tot)
  exact ⟨hG.blk.kp hkp (hd _ _ _ hG.blk (by decide) (by decide) (by decide)), h1, h2, hG.tbox.kp hkp (hd _ _ _ hG.tbox (by decide) (by decide) (by decide)), h3, hG.kind.kp hkp (hd _ _ _ hG.kind (by decide) (by decide) (by decide)), hG.plc.kp hkp (hd _ _ _ hG.plc (by decide) (by decide) (by decide))⟩
 have HF := qH hfin
 have HG := qH hG
 have HN := qH hN
 clear hfin
 by_cases h4 : k = 4
 ·subst h4
  have c0 : w.cell? ⟨b.nb, 0, none⟩ = some (.int .i64 (B.length : Int)) := by rw [hG.cnt.cell']; rfl
  have f0 := hG.cnt.free 0
  have e1 : IntKind.i64.wrap ((B.length : Int) + 1) = (B.length : Int) + 1 := IntWalk.i64_in _ (by omega)
  obtain ⟨m, em⟩ : ∃ m, B.length = m := ⟨_, rfl⟩
  rw [em] at c0 e1
  have HM := qH em
  clear hG hn hV hat hN hVs hB em
  show Calls Tryz.prog 166 #[.slice va n vc, .pointer (some ⟨b.nb, 0, none⟩)] w _
  go_enter Tryz.func166, Tryz.ntmps166
  go_wp2
  go_ret
  have ks : Kp (fun q => q = b.nb) w (w.setCell ⟨b.nb, 0, none⟩ (.int .i64 ((m : Int) + 1))) := kSa
  have hne : ∀ q cs (e : TypeId), Blk w q cs e -> e ≠ 2 -> q ≠ b.nb := fun q cs e hb n1 hq => by subst hq; exact n1 (aK hb HG.out.cnt)
  refine RetF.mk (ks.mono fun q _ e => .inl e) ⟨by unfold takeA; rw [if_neg (fun h => absurd h.1 (by decide))]; rfl, HF.out _ (ks.mono fun q _ e => .inl e) ?_ (HG.out.best.kp ks (hne _ _ _ HG.out.best (by decide))) (Blk.kp HG.out.tot ks (hne _ _ _ HG.out.tot (by decide)))⟩
  have h := HG.out.cnt.set 0 (.int .i64 ((m : Int) + 1))
  have e2 : sR 4 (B ++ [V]) = (m : Int) + 1 := by unfold sR; rw [if_pos rfl, List.length_append, HM.out]; rfl
  rw [e2]; exact h
 ·by_cases h5 : k = 5
  ·subst h5
   obtain ⟨a0, a1⟩ := hat (by decide)
   obtain ⟨a, rfl⟩ : ∃ a : Nat, at_ = a := ⟨at_.toNat, by omega⟩
   have hal : a < V.length := by omega
   obtain ⟨s, hs⟩ : ∃ s, V[a]? = some s := ⟨_, qG hal⟩
   have hgs : aZ V a = s := by unfold aZ; rw [List.getD_eq_getElem?_getD, hs]; rfl
   obtain ⟨vb, vo, eva, c2⟩ := hV a (.string s) (by simp [strs, hs])
   subst eva
   have hss := hVs s (List.mem_of_getElem? hs)
   have HNu := qH (fun (W : World) (hW : Ext w W) => aEe s (by omega) W (HN.out.ext hW))
   have hb := uB s.data.toList
   obtain ⟨v, ev⟩ : ∃ v, (cS s.data.toList).1 = v := ⟨_, rfl⟩
   obtain ⟨ok, eok⟩ : ∃ v, (cS s.data.toList).2 = v := ⟨_, rfl⟩
   rw [ev] at hb
   rw [ev, eok] at HNu
   have HV := qH (show (aBa a V).1 = v /\ (aBa a V).2 = ok from by unfold aBa; rw [hgs]; exact ⟨ev, eok⟩)
   have c0 := hG.plc.c0
   have c1 := hG.tbox.c0
   have i1 : (a : Int) < (n : Int) := a1
   have HZ : tO 5 a B = jG a B := if_pos rfl
   have HA := qH (fun (W : World) (hT : TotalAt W b.tot (jG a B)) => aDs b.tot (jG a B) v hb.1 hb.2 W hT)
   have H0 := qH (show ∀ k : Bool, ok = k -> k = false -> v = 0 from fun k e1 e => by rw [<- ev]; exact aEf (eok.trans (e1.trans e)))
   have HS := qH (show jG a (B ++ [V]) = jG a B + v from by rw [aGn, HV.out.1])
   clear hG hn hV hat hN hVs hB h4 hs hgs hss ev eok hb a0 a1 hal
   show Calls Tryz.prog 168 #[.slice (some ⟨vb, vo, none⟩) n vc, .pointer (some ⟨b.ab, 0, none⟩), .pointer (some ⟨b.tb, 0, none⟩)] w _
   go_enter Tryz.func168, Tryz.ntmps168
   go_wp2_with fail
   refine (HNu.out w (Kp.refl w)).mono ?_
   rintro e w1 ⟨v1, rfl, hk1, rfl⟩
   have c1' : w1.cell? ⟨b.tb, 0, none⟩ = some (.pointer (some ⟨b.tot, 0, none⟩)) := hk1.cell c1 id
   have HX := qH hk1
   clear hk1 c0 c1 c2
   have hbest : jE 5 a (B ++ [V]) = jE 5 a B := rfl
   have hcnt : sR 5 (B ++ [V]) = sR 5 B := rfl
   cases ok
   ·go_wp2
    go_ret
    refine RetF.mk (Ext.kp HX.out) ⟨by unfold takeA; rw [if_pos ⟨rfl, HV.out.2⟩]; rfl, HF.out _ (Ext.kp HX.out) (by rw [hcnt]; exact HG.out.cnt.ext HX.out) (by rw [show (a : Int).toNat = a from rfl, hbest]; exact HG.out.best.ext HX.out) ?_⟩
    have h := Blk.ext HG.out.tot HX.out
    have e2 : tO 5 (a : Int).toNat (B ++ [V]) = tO 5 (a : Int).toNat B := by
     show jG a (B ++ [V]) = jG a B
     rw [HS.out, H0.out false (by first | rfl | trivial) rfl]; omega
    rw [e2]; exact h
   ·go_wp2_with fail
    refine (HA.out w1 (by have h := Blk.ext HG.out.tot HX.out; exact h)).mono ?_
    rintro e w2 ⟨rfl, hk2, hT2⟩
    have H2 := qH (And.intro hk2 hT2)
    clear hk2 hT2 c1'
    go_wp2
    go_ret
    have ks := H2.out.1
    have kx : Kp (fun q => q = b.nb \/ q = b.bb \/ q = b.tot) w w2 := (Ext.kp HX.out).trans (ks.mono fun q _ e => .inr (.inr e))
    have hne : ∀ q cs (e : TypeId), Blk w q cs e -> e ≠ 98 -> q ≠ b.tot := fun q cs e hb n1 hq => by subst hq; exact n1 (aK hb HG.out.tot)
    refine RetF.mk kx ⟨by unfold takeA; rw [if_neg (fun h => by rw [show (a : Int).toNat = a from rfl, HV.out.2] at h; cases h.2)]; rfl, HF.out _ kx (by rw [hcnt]; exact (HG.out.cnt.ext HX.out).kp ks (hne _ _ _ HG.out.cnt (by decide))) (by rw [show (a : Int).toNat = a from rfl, hbest]; exact (HG.out.best.ext HX.out).kp ks (hne _ _ _ HG.out.best (by decide))) ?_⟩
    have h := H2.out.2
    rw [<- HS.out] at h
    exact h
  ·obtain ⟨a0, a1⟩ := hat h4
   obtain ⟨a, rfl⟩ : ∃ a : Nat, at_ = a := ⟨at_.toNat, by omega⟩
   have hal : a < V.length := by omega
   obtain ⟨s, hs⟩ : ∃ s, V[a]? = some s := ⟨_, qG hal⟩
   have hgs : aZ V a = s := by unfold aZ; rw [List.getD_eq_getElem?_getD, hs]; rfl
   obtain ⟨vb, vo, eva, c2⟩ := hV a (.string s) (by simp [strs, hs])
   subst eva
   obtain ⟨bs, ebs⟩ : ∃ x, jE k a B = x := ⟨_, rfl⟩
   obtain ⟨ct, ect⟩ : ∃ x, sR k B = x := ⟨_, rfl⟩
   have c0 := hG.plc.c0
   have c1 : w.cell? ⟨b.bb, 0, none⟩ = some (.string bs) := by rw [hG.best.cell', show (a : Int).toNat = a from rfl, ebs]; rfl
   have c3 : w.cell? ⟨b.nb, 0, none⟩ = some (.int .i64 ct) := by rw [hG.cnt.cell', ect]; rfl
   have c4 := hG.kind.c0
   have f1 := hG.best.free 0
   have f3 := hG.cnt.free 0
   have i1 : (a : Int) < (n : Int) := a1
   have ef : kT k = 170 := by unfold kT; rw [if_neg h4, if_neg h5]
   have ec : nN k b = #[fM b.ab, fM b.bb, fM b.nb, fM b.kb] := by unfold nN; rw [if_neg h4, if_neg h5]
   rw [ef, ec]
   have HK := qH (And.intro h4 (And.intro h5 hk))
   have HS := qH (And.intro hgs (And.intro ebs ect))
   clear hG hn hV hat hN hVs hB h4 h5 hs hgs a0 a1 hal ef ec hk ebs ect
   show Calls Tryz.prog 170 #[.slice (some ⟨vb, vo, none⟩) n vc, .pointer (some ⟨b.ab, 0, none⟩), .pointer (some ⟨b.bb, 0, none⟩), .pointer (some ⟨b.nb, 0, none⟩), .pointer (some ⟨b.kb, 0, none⟩)] w _
   go_enter Tryz.func170, Tryz.ntmps170
   have HJ := qH (And.intro c0 (And.intro c1 c2))
   go_wp2
   refine bB (fun w' : World => w'.cell? ⟨b.ab, 0, none⟩ = some (.int .i64 a) /\ w'.cell? ⟨b.bb, 0, none⟩ = some (.string bs) /\ w'.cell? ⟨vb, vo + a, none⟩ = some (.string s)) [5] (by kernel_rfl) HJ.out (fun hHeld => ?_)
   refine dF 0 ?_; try simp only [Act.put,sI,sZ,sS]
   refine dI 1 ?_; try simp only [Act.put,sI,sZ,sS]
   refine dI 2 ?_; try simp only [Act.put,sI,sZ,sS]
   refine dI 3 ?_; try simp only [Act.put,sI,sZ,sS]
   refine dI 4 ?_; try simp only [Act.put,sI,sZ,sS]
   refine aF (i := 5) ?_
   refine aJ (i := 5) rfl (by kernel_rfl) (fun K hK => ?_)
   go_simp
   (refine (Tryz.strings_Compare s bs _).mono ?_; rintro e w1 ⟨rfl, hw⟩; subst hw)
   go_wp2_with fail
   refine hK.out _ _ ?_
   clear hK K; (try simp only [Act.put,sI,sZ,sS])
   refine dF 6 ?_; try simp only [Act.put,sI,sZ,sS]
   refine aN (by kernel_rfl) ?_ _
   clear hHeld
   have hcm := aCv s.data.toList bs.data.toList
   obtain ⟨c, ec⟩ : ∃ c, Lib.compareBytes s.data.toList bs.data.toList = c := ⟨_, rfl⟩
   rw [ec] at hcm ⊢
   have HCm := qH hcm
   have hbk : jE k a (B ++ [V]) = if B = [] then s else if (k = 6 /\ c < 0) \/ (k = 7 /\ 0 < c) then s else bs := by
    have e1 : ∀ X, jE k a X = lO k a X := fun X => by unfold jE; rw [if_neg (fun h => by rcases h with h | h; exact HK.out.1 h; exact HK.out.2.1 h)]
    have e2 := HS.out.2.1
    rw [e1] at e2 ⊢
    by_cases hB : B = []
    ·rw [if_pos hB, hB]
     show aZ V a = s
     exact HS.out.1
    ·rw [if_neg hB, aFe k a V B hB, e2, HS.out.1]
     have t1 : s.toList = s.data.toList := ByteArray.toList_eq s
     have t2 : bs.toList = bs.data.toList := ByteArray.toList_eq bs
     simp only [t1, t2, HCm.out.1, HCm.out.2]
   have hct : ct = if B = [] then 0 else 1 := by
    rw [<- HS.out.2.2]; unfold sR; rw [if_neg HK.out.1, if_neg HK.out.2.1]
   have hct2 : sR k (B ++ [V]) = 1 := by unfold sR; rw [if_neg HK.out.1, if_neg HK.out.2.1, if_neg (by simp)]
   have htk : takeA k (a : Int).toNat V = 0 := by unfold takeA; rw [if_neg (fun h => HK.out.2.1 h.1)]
   have hsk : tO k a (B ++ [V]) = tO k a B := by unfold tO; rw [if_neg HK.out.2.1, if_neg HK.out.2.1]
   have hne : ∀ q cs (e : TypeId), Blk w q cs e -> e ≠ 2 -> e ≠ 9 -> ¬ (q = b.nb \/ q = b.bb) := fun q cs e hb n1 n2 hq => by
    rcases hq with rfl | rfl
    ·exact n1 (aK hb HG.out.cnt)
    ·exact n2 (aK hb HG.out.best)
   have hnb : b.nb ≠ b.bb := fun e => by have h := HG.out.cnt; rw [e] at h; exact absurd (aK h HG.out.best) (by decide)
   have HA := qH (show jE k a (B ++ [V]) = bs -> RetF (fun q => q = b.nb \/ q = b.bb \/ q = b.tot) w (fun w' v => v = .int .i64 (takeA k (a : Int).toNat V : Nat) /\ GroupAt w' b k a rv (B ++ [V])) (.returned (.int .i64 0)) (w.setCell ⟨b.nb, 0, none⟩ (.int .i64 1)).drew from fun hb => by
    have ks : Kp (fun q => q = b.nb \/ q = b.bb) w (w.setCell ⟨b.nb, 0, none⟩ (.int .i64 1)).drew := (Kp.setCell (F := fun q => q = b.nb \/ q = b.bb) (p := ⟨b.nb, 0, none⟩) (Kp.refl w) (fun _ => .inl rfl) _).drew
    have kx := ks.mono (G := fun q => q = b.nb \/ q = b.bb \/ q = b.tot) fun q _ e => e.imp id .inl
    refine RetF.mk kx ⟨by rw [htk]; rfl, HF.out _ kx ?_ ?_ (by rw [show (a : Int).toNat = a from rfl, hsk]; exact Blk.kp HG.out.tot ks (hne _ _ _ HG.out.tot (by decide) (by decide)))⟩
    ·rw [hct2]; exact (HG.out.cnt.set 0 (.int .i64 1)).drew
    ·rw [show (a : Int).toNat = a from rfl, hb, <- HS.out.2.1]; exact (HG.out.best.other hnb.symm _).drew)
   have HB := qH (show jE k a (B ++ [V]) = s -> RetF (fun q => q = b.nb \/ q = b.bb \/ q = b.tot) w (fun w' v => v = .int .i64 (takeA k (a : Int).toNat V : Nat) /\ GroupAt w' b k a rv (B ++ [V])) (.returned (.int .i64 0)) ((w.setCell ⟨b.bb, 0, none⟩ (.string s)).setCell ⟨b.nb, 0, none⟩ (.int .i64 1)).drew from fun hb => by
    have ks : Kp (fun q => q = b.nb \/ q = b.bb) w ((w.setCell ⟨b.bb, 0, none⟩ (.string s)).setCell ⟨b.nb, 0, none⟩ (.int .i64 1)).drew := (Kp.setCell (F := fun q => q = b.nb \/ q = b.bb) (p := ⟨b.nb, 0, none⟩) (Kp.setCell (F := fun q => q = b.nb \/ q = b.bb) (p := ⟨b.bb, 0, none⟩) (Kp.refl w) (fun _ => .inr rfl) _) (fun _ => .inl rfl) _).drew
    have kx := ks.mono (G := fun q => q = b.nb \/ q = b.bb \/ q = b.tot) fun q _ e => e.imp id .inl
    refine RetF.mk kx ⟨by rw [htk]; rfl, HF.out _ kx ?_ ?_ (by rw [show (a : Int).toNat = a from rfl, hsk]; exact Blk.kp HG.out.tot ks (hne _ _ _ HG.out.tot (by decide) (by decide)))⟩
    ·rw [hct2]; exact ((HG.out.cnt.other hnb _).set 0 (.int .i64 1)).drew
    ·rw [show (a : Int).toNat = a from rfl, hb]; exact ((HG.out.best.set 0 (.string s)).other hnb.symm _).drew)
   have HBk := qH hbk
   have hk67 : k = 6 \/ k = 7 := by have := HK.out; omega
   have HNb := qH hnb
   have z0 : (w.setCell ⟨b.bb, 0, none⟩ (.string s)).cell? ⟨b.nb, 0, none⟩ = some (.int .i64 ct) := by rw [(HG.out.cnt.other hnb _).cell', HS.out.2.2]; rfl
   have z1 := (HG.out.cnt.other (p := ⟨b.bb, 0, none⟩) hnb (.string s)).free 0
   clear hcm ec hbk hct2 htk hsk hne hnb
   by_cases hB : B = []
   ·have e0 : ct = 0 := by rw [hct, if_pos hB]
    subst e0
    have HF2 := qH (HB.out (by rw [HBk.out, if_pos hB]))
    clear hct hB hk67
    go_wp2
    go_ret
    exact HF2.out
   ·have e0 : ct = 1 := by rw [hct, if_neg hB]
    subst e0
    have HBk2 := qH (show jE k a (B ++ [V]) = if (k = 6 /\ c < 0) \/ (k = 7 /\ 0 < c) then s else bs from by rw [HBk.out, if_neg hB])
    clear hct hB
    rcases hk67 with rfl | rfl
    ·by_cases hc : c < 0
     ·have HF2 := qH (HB.out (by rw [HBk2.out, if_pos (.inl ⟨rfl, hc⟩)]))
      go_wp2
      go_ret
      exact HF2.out
     ·have HF2 := qH (HA.out (by rw [HBk2.out, if_neg (fun h => by rcases h with h | h; exact hc h.2; exact absurd h.1 (by decide))]))
      go_wp2
      go_ret
      exact HF2.out
    ·by_cases hc : 0 < c
     ·have HF2 := qH (HB.out (by rw [HBk2.out, if_pos (.inr ⟨rfl, hc⟩)]))
      go_wp2
      go_ret
      exact HF2.out
     ·have HF2 := qH (HA.out (by rw [HBk2.out, if_neg (fun h => by rcases h with h | h; exact absurd h.1 (by decide); exact hc h.2)]))
      go_wp2
      go_ret
      exact HF2.out
set_option maxHeartbeats 4000000 in
theorem aC8 {w : World} {b : GrpB} {k at_ : Int} {rv : Value} {B : aC} (hG : GroupAt w b k at_ rv B) (hN : NumW w) (hB : B.length ≤ 1048576) :
 Calls Tryz.prog (kR k) (nM k b) w (RetN w fun w' v => v = .tuple #[.string (fQ k at_.toNat B).1, .int .i64 ((fQ k at_.toNat B).2 : Nat)]) := by
 by_cases h4 : k = 4
 ·subst h4
  have c0 : w.cell? ⟨b.nb, 0, none⟩ = some (.int .i64 (B.length : Int)) := by rw [hG.cnt.cell']; rfl
  have HW := qH (lQ (B.length : Int) (by omega) (by omega) w hN)
  have HF := qH (show fQ 4 at_.toNat B = (⟨(Lib.itoa B.length).toArray⟩, 0) from by unfold fQ; rw [if_pos rfl])
  clear hG hN hB
  show Calls Tryz.prog 167 #[.pointer (some ⟨b.nb, 0, none⟩)] w _
  go_enter Tryz.func167, Tryz.ntmps167
  go_wp2_with fail
  refine HW.out.mono ?_
  rintro e w1 ⟨v1, rfl, hk1, rfl⟩
  go_wp2
  go_ret2
  exact RetN.mk hk1 (by rw [HF.out]; rfl)
 ·by_cases h5 : k = 5
  ·subst h5
   have c0 := hG.tbox.c0
   have hs := aKr at_.toNat B
   obtain ⟨z, ez⟩ : ∃ z, jG at_.toNat B = z := ⟨_, rfl⟩
   have hT : TotalAt w b.tot z := by have h := hG.tot; rw [show tO 5 at_.toNat B = z from ez] at h; exact h
   rw [ez] at hs
   have HS := qH (aDr b.tot z (by omega) (by omega) w hT)
   by_cases hz : -9223372036854775808 ≤ z /\ z ≤ 9223372036854775807
   ·have e1 : aAo z = (z, true) := if_pos hz
    rw [e1] at HS
    have HW := qH (lQ z hz.1 hz.2 w hN)
    have HF := qH (show fQ 5 at_.toNat B = (⟨(Lib.itoa z).toArray⟩, 0) from by unfold fQ; rw [if_neg (by decide), if_pos rfl, ez, if_pos hz])
    clear hG hN hB hs ez hT h4 hz e1
    show Calls Tryz.prog 169 #[.pointer (some ⟨b.tb, 0, none⟩)] w _
    go_enter Tryz.func169, Tryz.ntmps169
    go_wp2_with fail
    refine HS.out.mono ?_
    rintro e w1 ⟨rfl, rfl⟩
    go_wp2_with fail
    refine HW.out.mono ?_
    rintro e w1 ⟨v1, rfl, hk1, rfl⟩
    go_wp2
    go_ret2
    exact RetN.mk hk1 (by rw [HF.out]; rfl)
   ·have e1 : aAo z = (0, false) := if_neg hz
    rw [e1] at HS
    have HF := qH (show fQ 5 at_.toNat B = (ByteArray.empty, 151) from by unfold fQ; rw [if_neg (by decide), if_pos rfl, ez, if_neg hz])
    clear hG hN hB hs ez hT h4 hz e1
    show Calls Tryz.prog 169 #[.pointer (some ⟨b.tb, 0, none⟩)] w _
    go_enter Tryz.func169, Tryz.ntmps169
    go_wp2_with fail
    refine HS.out.mono ?_
    rintro e w1 ⟨rfl, rfl⟩
    go_wp2
    go_ret2
    exact RetN.mk (Kp.refl _) (by rw [HF.out]; rfl)
  ·have c0 : w.cell? ⟨b.bb, 0, none⟩ = some (.string (lO k at_.toNat B)) := by
    rw [hG.best.cell']
    have e : jE k at_.toNat B = lO k at_.toNat B := by unfold jE; rw [if_neg (fun h => by rcases h with h | h; exact h4 h; exact h5 h)]
    rw [e]; rfl
   have HF := qH (show fQ k at_.toNat B = (lO k at_.toNat B, 0) from by unfold fQ; rw [if_neg h4, if_neg h5])
   have ef : kR k = 172 := by unfold kR; rw [if_neg h4, if_neg h5]
   have ec : nM k b = #[fM b.bb] := by unfold nM; rw [if_neg h4, if_neg h5]
   rw [ef, ec]
   obtain ⟨x, ex⟩ : ∃ x, lO k at_.toNat B = x := ⟨_, rfl⟩
   rw [ex] at c0 HF
   clear hG hN hB h4 h5 ef ec ex
   show Calls Tryz.prog 172 #[.pointer (some ⟨b.bb, 0, none⟩)] w _
   go_enter Tryz.func172, Tryz.ntmps172
   go_wp2
   go_ret2
   exact RetN.mk (Kp.refl _) (by rw [HF.out]; rfl)
theorem wB {P : Program} {w : World} {a : Addr} {m : Mode} (f : Fn) (x y : Array Value) : (store a (.func f x y) m).run P w = stored P w a (.func f x y) m := run_store P w a _ m rfl
attribute [local go_sem] wB
set_option maxHeartbeats 4000000 in
theorem aH2 {w : World} {ra : Option Addr} {n c : Nat} {k at_ : Int} (hk : 4 ≤ k /\ k ≤ 7) : Calls Tryz.prog 117 #[.slice ra n c, .int .i64 k, .int .i64 at_] w (RetN w fun w' v => ∃ b : GrpB, v = .pointer (some ⟨b.g, 0, none⟩) /\ GroupAt w' b k at_ (.slice ra n c) [] /\ ∀ q, b.own q -> w.heap.size ≤ q) := by
 obtain ⟨kb, ekb⟩ : ∃ g, w.heap.size = g := ⟨_, rfl⟩
 obtain ⟨x1, e1⟩ : ∃ x, w.alloc (.cells #[.int .i64 k] 3) = x := ⟨_, rfl⟩
 obtain ⟨x2, e2⟩ : ∃ x, x1.alloc (.cells #[.int .i64 at_] 3) = x := ⟨_, rfl⟩
 obtain ⟨x3, e3⟩ : ∃ x, x2.alloc (.cells #[.slice ra n c, .nilFunc, .nilFunc] 128) = x := ⟨_, rfl⟩
 obtain ⟨x4, e4⟩ : ∃ x, x3.alloc (.cells #[.int .i64 0] 2) = x := ⟨_, rfl⟩
 obtain ⟨x5, e5⟩ : ∃ x, x4.alloc (.cells #[.string ⟨#[]⟩] 9) = x := ⟨_, rfl⟩
 have s1 : x1.heap.size = kb + 1 := by rw [<- e1, aI, ekb]
 have s2 : x2.heap.size = kb + 1 + 1 := by rw [<- e2, aI, s1]
 have s3 : x3.heap.size = kb + 1 + 1 + 1 := by rw [<- e3, aI, s2]
 have s4 : x4.heap.size = kb + 1 + 1 + 1 + 1 := by rw [<- e4, aI, s3]
 have s5 : x5.heap.size = kb + 1 + 1 + 1 + 1 + 1 := by rw [<- e5, aI, s4]
 have k1 : Ext w x1 := by rw [<- e1]; exact (Kp.refl w).alloc _
 have k2 : Ext x1 x2 := by rw [<- e2]; exact (Kp.refl x1).alloc _
 have k3 : Ext x2 x3 := by rw [<- e3]; exact (Kp.refl x2).alloc _
 have k4 : Ext x3 x4 := by rw [<- e4]; exact (Kp.refl x3).alloc _
 have k5 : Ext x4 x5 := by rw [<- e5]; exact (Kp.refl x4).alloc _
 have b1 : Blk x1 kb [.int .i64 k] 3 := by rw [<- e1, <- ekb]; exact Blk.new w _ _
 have b2 : Blk x2 (kb + 1) [.int .i64 at_] 3 := by have h := Blk.new x1 [.int .i64 at_] 3; rw [s1] at h; rw [<- e2]; exact h
 have b3 : Blk x3 (kb + 1 + 1) [.slice ra n c, .nilFunc, .nilFunc] 128 := by have h := Blk.new x2 [.slice ra n c, .nilFunc, .nilFunc] 128; rw [s2] at h; rw [<- e3]; exact h
 have b4 : Blk x4 (kb + 1 + 1 + 1) [.int .i64 0] 2 := by have h := Blk.new x3 [.int .i64 0] 2; rw [s3] at h; rw [<- e4]; exact h
 have b5 : Blk x5 (kb + 1 + 1 + 1 + 1) [.string ⟨#[]⟩] 9 := by have h := Blk.new x4 [.string ⟨#[]⟩] 9; rw [s4] at h; rw [<- e5]; exact h
 obtain ⟨ab, eab⟩ : ∃ g, kb + 1 = g := ⟨_, rfl⟩
 rw [eab] at s1 s2 s3 s4 s5 b2 b3 b4 b5
 obtain ⟨gb, egb⟩ : ∃ g, ab + 1 = g := ⟨_, rfl⟩
 rw [egb] at s2 s3 s4 s5 b3 b4 b5
 obtain ⟨nb, enb⟩ : ∃ g, gb + 1 = g := ⟨_, rfl⟩
 rw [enb] at s3 s4 s5 b4 b5
 obtain ⟨bb, ebb⟩ : ∃ g, nb + 1 = g := ⟨_, rfl⟩
 rw [ebb] at s4 s5 b5
 have H5 := qH (show Ext w x5 /\ Blk x5 kb [.int .i64 k] 3 /\ Blk x5 ab [.int .i64 at_] 3 /\ Blk x5 gb [.slice ra n c, .nilFunc, .nilFunc] 128 /\ Blk x5 nb [.int .i64 0] 2 /\ Blk x5 bb [.string ⟨#[]⟩] 9 /\ x5.heap.size = bb + 1 /\ kb = w.heap.size from
  ⟨k1.trans (k2.trans (k3.trans (k4.trans k5))), b1.ext (k2.trans (k3.trans (k4.trans k5))), b2.ext (k3.trans (k4.trans k5)), b3.ext (k4.trans k5), b4.ext k5, b5, s5, ekb.symm⟩)
 have HO := qH (show ab = kb + 1 /\ gb = ab + 1 /\ nb = gb + 1 /\ bb = nb + 1 from ⟨eab.symm, egb.symm, enb.symm, ebb.symm⟩)
 have HK := qH hk
 have HEq := qH (And.intro ekb (And.intro e1 (And.intro e2 (And.intro e3 (And.intro e4 (And.intro e5 (And.intro eab (And.intro egb (And.intro enb ebb)))))))))
 clear ekb e1 e2 e3 e4 e5 eab egb enb ebb s1 s2 s3 s4 s5 k1 k2 k3 k4 k5 b1 b2 b3 b4 b5 hk
 go_enter Tryz.func117, Tryz.ntmps117
 go_wp2_with fail
 obtain ⟨ekb, e1, e2, e3, e4, e5, eab, egb, enb, ebb⟩ := HEq.out
 simp only [ekb, e1, e2, e3, e4, e5, eab, egb, enb, ebb]
 clear e1 e2 e3 e4 e5 ekb eab egb enb ebb
 refine (zB x5).mono ?_
 rintro e w6 ⟨v6, rfl, hk6, rfl, hs6, hT6⟩
 obtain ⟨tot, etot⟩ : ∃ g, x5.heap.size = g := ⟨_, rfl⟩
 rw [etot] at hT6 ⊢
 rw [etot] at hs6
 obtain ⟨tb, etb⟩ : ∃ g, tot + 1 = g := ⟨_, rfl⟩
 obtain ⟨w7, e7⟩ : ∃ x, w6.alloc (.cells #[.pointer (some ⟨tot, 0, none⟩)] 24) = x := ⟨_, rfl⟩
 have k7 : Ext w6 w7 := by rw [<- e7]; exact (Kp.refl w6).alloc _
 have b7 : Blk w7 tb [.pointer (some ⟨tot, 0, none⟩)] 24 := by have h := Blk.new w6 [.pointer (some ⟨tot, 0, none⟩)] 24; rw [hs6, etb] at h; rw [<- e7]; exact h
 have H7 := qH (show Ext x5 w7 /\ TotalAt w7 tot 0 /\ Blk w7 tb [.pointer (some ⟨tot, 0, none⟩)] 24 /\ tot = bb + 1 /\ tb = tot + 1 from ⟨hk6.trans k7, Blk.ext hT6 k7, b7, by rw [<- etot]; exact H5.out.2.2.2.2.2.2.1, etb.symm⟩)
 have hGA := qH (show ∀ tf tl : Value, tf = wR k ⟨gb, nb, bb, tb, tot, kb, ab⟩ -> tl = wQ k ⟨gb, nb, bb, tb, tot, kb, ab⟩ -> RetN w (fun w' v => ∃ b : GrpB, v = .pointer (some ⟨b.g, 0, none⟩) /\ GroupAt w' b k at_ (.slice ra n c) [] /\ ∀ q, b.own q -> w.heap.size ≤ q) (.returned (.pointer (some ⟨gb, 0, none⟩))) ((w7.setCell ⟨gb, 1, none⟩ tf).setCell ⟨gb, 2, none⟩ tl) from fun tf tl etf etl => by
  have ks : Kp (fun q => q = gb) w7 ((w7.setCell ⟨gb, 1, none⟩ tf).setCell ⟨gb, 2, none⟩ tl) := kSb
  obtain ⟨q1, q2, q3, q4, q5, q6, q7, q8⟩ := H5.out
  obtain ⟨p1, p2, p3, p4, p5⟩ := H7.out
  obtain ⟨o1, o2, o3, o4⟩ := HO.out
  have hx := q1.trans p1
  have hkk := HK.out
  refine RetN.mk (hx.trans' ks fun i hi e => by have e' : i = gb := e; omega) ⟨⟨gb, nb, bb, tb, tot, kb, ab⟩, rfl, ⟨?_, ?_, ?_, p3.kp ks (fun e => by have e' : tb = gb := e; omega), ?_, (q2.ext p1).kp ks (fun e => by have e' : kb = gb := e; omega), (q3.ext p1).kp ks (fun e => by have e' : ab = gb := e; omega)⟩, fun q hq => ?_⟩
  ·have h := ((q4.ext p1).set 1 tf).set 2 tl
   rw [<- etf, <- etl]
   exact h
  ·have h := (q5.ext p1).kp ks (fun e => by have e' : nb = gb := e; omega)
   have e0 : sR k [] = 0 := by unfold sR; split; rfl; split; rfl; simp
   rw [e0]; exact h
  ·have h := (q6.ext p1).kp ks (fun e => by have e' : bb = gb := e; omega)
   have e0 : jE k at_.toNat [] = ByteArray.empty := by unfold jE; split; rfl; rfl
   rw [e0]; exact h
  ·have h := p2.kp ks (fun e => by have e' : tot = gb := e; omega)
   have e0 : tO k at_.toNat [] = 0 := by unfold tO; split; rfl; rfl
   rw [e0]; exact h
  ·rcases hq with e | e | e | e | e | e | e <;> (simp only at e; omega))
 have c0 := ((H5.out.2.1).ext H7.out.1).c0
 have g1 := ((H5.out.2.2.2.1).ext H7.out.1).c1
 have g2 := ((H5.out.2.2.2.1).ext H7.out.1).c2
 have f1 := ((H5.out.2.2.2.1).ext H7.out.1).free 1
 have f2 := ((H5.out.2.2.2.1).ext H7.out.1).free 2
 clear hk6 hT6 k7 b7
 by_cases h4 : k = 4
 ·have G := hGA
  have E4 := qH h4
  rw [h4] at c0
  clear h4 hGA
  go_wp2
  go_ret
  exact G.out _ _ (by rw [E4.out]; rfl) (by rw [E4.out]; rfl)
 ·have E4 := qH h4
  have hk0 : (k == 4) = false := by simpa using h4
  by_cases h5 : k = 5
  ·have G := hGA
   have E5 := qH h5
   rw [h5] at c0
   clear h5 hGA h4 hk0
   go_wp2
   go_ret
   exact G.out _ _ (by rw [E5.out]; rfl) (by rw [E5.out]; rfl)
  ·have hk1 : (k == 5) = false := by simpa using h5
   have e1 : wR k ⟨gb, nb, bb, tb, tot, kb, ab⟩ = .func (Fn.func 170) #[] #[fM ab, fM bb, fM nb, fM kb] := by unfold wR kT nN; rw [if_neg h4, if_neg h5, if_neg h4, if_neg h5]
   have e2 : wQ k ⟨gb, nb, bb, tb, tot, kb, ab⟩ = .func (Fn.func 172) #[] #[fM bb] := by unfold wQ kR nM; rw [if_neg h4, if_neg h5, if_neg h4, if_neg h5]
   have G := qH (hGA.out _ _ e1.symm e2.symm)
   clear h5 hGA h4 e1 e2
   go_wp2
   go_ret
   exact G.out
end
end Go.Proofs.YtikgpedgmnbcaaaGreatDoor
