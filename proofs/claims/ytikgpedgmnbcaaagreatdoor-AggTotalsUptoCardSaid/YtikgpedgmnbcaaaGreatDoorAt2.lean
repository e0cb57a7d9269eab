/- Texts joined for a claim (Sl, Sl2, Cmp, SetLaw2, Lend, LawsPlain, Flo, CostPlain, Map, FloCmp, CostPlain2, Read, Bulk, Shape, Arg, Rule, JoinT, JoinL, SearchS, RangeOwn, JoinV, JoinC, DrawIn, Make, Flat, NoPanic, LawMem, Takes, SwapRow, InsRow, SymLRow, SymRow, SymGRow, SortRow, BinRow). -/
import Derived.Test.YtikgpedgmnbcaaaGreatDoorAt1
import Derived.Lib.SliceRun
import Derived.Lib.Overlaps
import Derived.Lib.AppendZerosOnto
import Derived.Laws.Externs
import Derived.Laws.CopyOwn
import Derived.StillTailTactics
import Derived.Deep.QuietTactic
import Derived.BigQuiet
import Derived.Test.YtikgpedgmnbcaaaGreatDoorProg
import Derived.Laws.FloatArith
import Derived.WideKeyRuns
import Derived.MapKept
import Derived.ProofKit
import Derived.OpenShut
import Derived.ShutString
import Derived.ChangeOld
import Derived.Carry
import Derived.SliceStrings
import Derived.SizedLaws
import Derived.JoinedCond
import Derived.Deep.Slices
import Derived.Test.YtikgpedgmnbcaaaGreatDoorRows
import Derived.ChangeArms
import Derived.Shelf.Abstract
import Derived.RangeFuncWrites
import Derived.Laws.MakeOwn
import Derived.Deep.RegionHeld3
import Derived.BigRegion
import Derived.Deep.DeepCutAuto
import Derived.Deep.RegionWith
set_option linter.unusedVariables false
set_option linter.unusedSimpArgs false
set_option maxRecDepth 100000
namespace Go.Proofs.YtikgpedgmnbcaaaGreatDoor
section
open Go.RowKit
theorem aBe {i : Int} {b b' : Bool} (h : b' = b) : Value.tuple #[.int .i64 i, .bool b] = .tuple #[.int .i64 i, .bool b'] := by rw [h]
section
variable {P : Program} {w : World} {t e : TypeId} {bytes : Nat} {z : Value}
theorem nB {g : Nat} {cur cs : List Value} (h : Blk w g cur e) : Blk (w.setRow g cs.toArray) g cs e := setRow_heap w g _ _ e _ h
theorem oV (g : Nat) (cs : Array Value) : Kp (fun k => k = g) w (w.setRow g cs) :=
 ⟨rfl, rfl, rfl, by simp [World.setRow], fun k _ hf => setRow_other w g k cs hf⟩
theorem tZ {ops : Array Oper} {rest : List Oper} {o : Oper} {a : Act} {Q : Exit -> Act -> World -> Prop} (hgd : o.guard = none) (s x : Operand) {t1 t2 : TypeId}
 (ho : o.op = .call { callee := .builtin .append, args := #[s, x], argTypes := #[t1, t2] }) {v u : Value} (hs : a.eval s = v) (hx : a.eval x = u) {v' : Value} {w' : World}
 (hr : ∀ ty, (Builtin.append_ #[t1, t2] ty #[v, u]).run P w = .ok v' w') (h : wpList P ops Q rest (a.put o.dst v') w') : wpList P ops Q (o :: rest) a w := by
 refine wpList_plain hgd fun K hK => ?_
 unfold Oper.wp execOp
 simp only [ho, resolve, invoke, builtin, Sem.run_bind, Sem.run_pure, Result.andThen_ok, List.map_toArray, List.map_cons, List.map_nil, hs, hx, hr]
 exact hK _ _ h
theorem rA (E : cP P t e 1 bytes z) {ops : Array Oper} {rest : List Oper} {o : Oper} {a : Act} {Q : Exit -> Act -> World -> Prop} (hgd : o.guard = none) (d s : Operand)
 (ho : o.op = .call { callee := .builtin .copy, args := #[d, s], argTypes := #[t, t] })
 {g off dLen dCap : Nat} {cur : List Value} {e' : TypeId} (hB : Blk w g cur e') {dp : Option Addr} (hd : a.eval d = .slice dp dLen dCap) {sp : Option Addr} {sLen sCap : Nat} (hs : a.eval s = .slice sp sLen sCap)
 {cs : List Value} (hl : cs.length = Nat.min sLen dLen) (hdp : 0 < cs.length -> dp = some ⟨g, off, none⟩) (hsrc : CellsAt w sp cs) (hfit : off + cs.length ≤ cur.length) (h1 : ∀ u ∈ cs, u.oneCell' = true)
 (h : ∀ w', Kp (fun k => k = g) w w' -> Blk w' g (splice cur off cs) e' -> wpList P ops Q rest (a.put o.dst (goInt cs.length)) w') : wpList P ops Q (o :: rest) a w := by
 obtain ⟨ht, hi, hz, hk⟩ := E
 obtain ⟨i, hi, hz1, hz2, hz3⟩ := info_parts hi
 have hsz : (P.info? e).map (·.size) = some 1 := by rw [hi]; simp [hz2]
 by_cases h0 : cs.length = 0
 ·obtain rfl : cs = [] := List.eq_nil_of_length_eq_zero h0
  refine wpList_copy_nothing hgd d s t t ho e ht hsz dp sp dLen dCap sLen sCap hd hs (by simpa using hl.symm) ?_
  exact h w (Kp.refl w) (hB.congrL (by simp [splice]))
 ·have hdp := hdp (by omega)
  subst hdp
  obtain ⟨b, off', rfl, hlt⟩ := hsrc.off (by rintro rfl; simp at h0)
  refine wpList_copy_own hgd d s t t ho e ht hsz g off dLen dCap ⟨b, off', none⟩ sLen sCap hd hs cur.toArray e' hB cs hl (fun j v hj => ?_) (by simpa using hfit) h1 ?_
  ·obtain ⟨b', o', he, hc⟩ := hsrc j v hj
   cases he
   rw [Addr.add_lit]; exact hc
  ·have hb := nB (cs := cur.take off ++ (cs ++ cur.drop (off + cs.length))) hB
   exact h _ (oV g _) (by simpa [splice] using hb)
theorem aBk (E : cP P t e 1 bytes z) (hz1 : z.oneCell' = true) (hzv : ∀ w, (zeroValue e).run P w = .ok z w) {g off n c : Nat} {cur : List Value} {e' : TypeId} (hB : Blk w g cur e') {sp : Option Addr} (hsp : 0 < n -> sp = some ⟨g, off, none⟩) (hfit : off + n ≤ cur.length) :
 ∃ w', (∀ ty, (Builtin.clear_ #[t] ty #[.slice sp n c]).run P w = .ok (.tuple #[]) w') /\ Kp (fun k => k = g) w w' /\ Blk w' g (splice cur off (List.replicate n z)) e' := by
 obtain ⟨ht, hi, hzz, hk⟩ := E
 by_cases h0 : n = 0
 ·subst h0
  refine ⟨w, fun ty => ?_, Kp.refl w, hB.congrL (by simp [splice])⟩
  cases sp <;> simp [Builtin.clear_, run_underlying ht]
 ·have hsp := hsp (by omega)
  subst hsp
  have hzc : z.cells = #[z] := by cases z <;> simp_all [Value.cells, Value.oneCell']
  have hzz' : (Builtin.zeroCells z.cells n).toList = List.replicate n z := by
   rw [hzc]
   simp [Builtin.zeroCells]
   apply List.ext_getElem
   ·simp
   ·intro i h1 h2
    simp [Nat.mod_one]
  have hst := run_storeCells_at P g off e' (List.replicate n z) 0 cur.toArray w hB (by simpa using hfit) (by intro v hv'; rw [List.eq_of_mem_replicate hv']; exact hz1)
  simp only [Nat.add_zero] at hst
  obtain ⟨m, rfl⟩ : ∃ m, n = m + 1 := ⟨n - 1, by omega⟩
  have hb := nB (cs := cur.take off ++ (List.replicate (m + 1) z ++ cur.drop (off + (m + 1)))) hB
  refine ⟨_, fun ty => by simp [Builtin.clear_, run_underlying ht, hzv, hzz', hst]; rfl, oV g _, ?_⟩
  simpa [splice] using hb
theorem mJ (E : cP P t e 1 bytes z) (hzo : z.oneCell' = true) {tn : TypeId} {kn : IntKind} (htn : P.underlying tn = some (.int kn)) {ao : Option Addr} {n cap : Nat} {olds : List Value} (hs : CellsAt w ao olds) (hl : olds.length = n)
 {k : Nat} (h0 : 0 < k) (hg : cap < n + k) (hb : (n + k) * bytes ≤ 140737488355328) (h63 : n + k ≤ maxLen) :
 ∃ w' G, (∀ ty, (Builtin.append_ #[t, tn] ty #[.slice ao n cap, .int .i64 k]).run P w = .ok (.slice (some ⟨w.heap.size, 0, none⟩) (n + k) G) w') /\ n + k ≤ G /\ G ≤ maxLen /\ Ext w w' /\ w'.heap.size = w.heap.size + 1 /\ Blk w' w.heap.size (olds ++ List.replicate (G - n) z) e := by
 obtain ⟨ht, hi, hzz, hk⟩ := E
 obtain ⟨i, hi, hz1, hz2, hz3⟩ := info_parts hi
 have hold : (Builtin.firstCells i.size n (.slice ao n cap)).run P w.drew = .ok olds.toArray w.drew := by
  by_cases h00 : olds = []
  ·subst h00
   simp at hl; subst hl
   cases ao <;> simp [Builtin.firstCells, loadCells, loadCellsFrom]
  ·obtain ⟨b, off, rfl, _⟩ := hs.off h00
   exact run_firstCells_some w.drew i.size n _ n cap olds (by rw [hz2, hl, Nat.mul_one]) (fun j v hj => by
    obtain ⟨b', o', he, hc⟩ := hs j v hj
    cases he
    rw [Addr.add_lit]; exact hc)
 have hrun := fun ty => Lib.run_append_grow_zeros (P := P) w t tn ty e i z .i64 kn ht htn hi hz1 ao n cap olds hold k h0 (by omega) hg (by unfold maxLen at h63; omega) (by rw [hz3]; have : k * bytes ≤ (n + k) * bytes := Nat.mul_le_mul_right _ (by omega); omega) (by rw [hz3]; exact growslice_fits hg hb)
 have hge := grownCap_ge w (n + k) cap e
 refine ⟨_, _, hrun, hge, grownCap_le_maxLen w (n + k) cap e h63, ⟨rfl, rfl, rfl, by simp, fun k hk _ => Below.heap_alloc w.drew _ k hk⟩, by simp, ?_⟩
 have hzc : z.cells = #[z] := by
  cases z <;> simp_all [Value.cells, Value.oneCell']
 have hzr : ∀ m, (Builtin.zeroCells z.cells m).toList = List.replicate m z := fun m => by
  rw [hzc]
  simp [Builtin.zeroCells]
  apply List.ext_getElem
  ·simp
  ·intro i h1 h2
   simp [Nat.mod_one]
 show (w.heap.push _)[w.heap.size]? = _
 rw [Array.getElem?_push_size]
 congr 2
 apply Array.ext'
 simp only [Array.toList_append, hzr]
 rw [List.append_assoc, List.replicate_append_replicate]
 congr 2; omega
end
section
variable {P : Program} {w : World} {t e : TypeId} {bytes : Nat} {z : Value}
theorem Row.own {k : Nat} {v : Value} {n : Nat} {xs : List Value} {M : Nat -> Prop} (h : Row w e k v n xs M) : Row w e k v n xs (fun g => v.ownBlock = some g) := by
 obtain ⟨h1, h2 | ⟨g, cap, rest, a, b, c⟩⟩ := h
 ·exact ⟨h1, .inl h2⟩
 ·exact ⟨h1, .inr ⟨g, cap, rest, a, by rw [a]; rfl, c⟩⟩
theorem iQ (E : cP P t e 1 bytes z) {g off dLen dCap : Nat} {cur : List Value} {e' : TypeId} (hB : Blk w g cur e') {dp sp : Option Addr} {sLen sCap : Nat}
 {cs : List Value} (hl : cs.length = Nat.min sLen dLen) (hdp : 0 < cs.length -> dp = some ⟨g, off, none⟩) (hsrc : CellsAt w sp cs) (hfit : off + cs.length ≤ cur.length) (h1 : ∀ u ∈ cs, u.oneCell' = true) :
 ∃ w', (∀ ty, (Builtin.copy_ #[t, t] ty #[.slice dp dLen dCap, .slice sp sLen sCap]).run P w = .ok (goInt cs.length) w') /\ Kp (fun k => k = g) w w' /\ Blk w' g (splice cur off cs) e' := by
 obtain ⟨ht, hi, hz, hk⟩ := E
 obtain ⟨i, hi, hz1, hz2, hz3⟩ := info_parts hi
 have hsz : (P.info? e).map (·.size) = some 1 := by rw [hi]; simp [hz2]
 by_cases h0 : cs.length = 0
 ·obtain rfl : cs = [] := List.eq_nil_of_length_eq_zero h0
  exact ⟨w, fun ty => run_copy_none (P := P) w t t ty e dp sp dLen dCap sLen sCap ht hsz (by simpa using hl.symm), Kp.refl w, hB.congrL (by simp [splice])⟩
 ·have hdp := hdp (by omega)
  subst hdp
  obtain ⟨b, off', rfl, hlt⟩ := hsrc.off (by rintro rfl; simp at h0)
  have hb := nB (cs := cur.take off ++ (cs ++ cur.drop (off + cs.length))) hB
  refine ⟨_, fun ty => run_copy_row (P := P) w t t ty e g off dLen dCap ⟨b, off', none⟩ sLen sCap cur.toArray e' cs ht hsz hB hl (fun j v hj => ?_) (by simpa using hfit) h1, oV g _, by simpa [splice] using hb⟩
  obtain ⟨b', o', he, hc⟩ := hsrc j v hj
  cases he
  rw [Addr.add_lit]; exact hc
theorem Blk.shape {g : Nat} {cs : List Value} (h : Blk w g cs e) : w.shape? g = some (e, cs.length) := by
 unfold Blk at h
 simp [World.shape?, h]
end
theorem lY {α : Type} (a b c cs : List α) (k : Nat) (hk : k = a.length) (h : b.length = cs.length) : splice (a ++ b ++ c) k cs = a ++ cs ++ c := by
 subst hk
 unfold splice
 rw [List.append_assoc, List.take_left, <- h, <- List.length_append, <- List.append_assoc a b c, List.drop_left, List.append_assoc]
theorem aBi {α : Type} (xs rest : List α) (x y : α) (i : Nat) (hi : i < xs.length) :
 splice (splice (xs ++ y :: rest) (i + 1) (xs.drop i)) i [x] = (xs.take i ++ x :: xs.drop i) ++ rest := by
 have h2 : (xs.take i).length = i := by simp; omega
 have e0 : xs ++ y :: rest = (xs.take i ++ [xs[i]]) ++ (xs.drop (i + 1) ++ [y]) ++ rest := by
  have : xs = xs.take i ++ xs[i] :: xs.drop (i + 1) := by rw [<- List.drop_eq_getElem_cons hi, List.take_append_drop]
  have h3 : xs ++ y :: rest = (xs.take i ++ xs[i] :: xs.drop (i + 1)) ++ y :: rest := by rw [<- this]
  rw [h3]
  simp only [List.append_assoc, List.cons_append, List.nil_append]
 rw [e0, lY _ _ _ _ _ (by simp; omega) (by simp; omega), List.append_assoc, List.append_assoc, <- List.append_assoc, lY _ _ _ _ _ h2.symm (by simp)]
 simp
theorem pM {α : Type} (xs : List α) (x z : α) (i G : Nat) (hi : i < xs.length) (hG : xs.length + 1 ≤ G) :
 splice (splice (xs.take i ++ List.replicate (G - i) z) i [x]) (i + 1) (xs.drop i) = (xs.take i ++ x :: xs.drop i) ++ List.replicate (G - (xs.length + 1)) z := by
 have h2 : (xs.take i).length = i := by simp; omega
 have e1 : List.replicate (G - i) z = [z] ++ (List.replicate (xs.length - i) z ++ List.replicate (G - (xs.length + 1)) z) := by
  rw [List.replicate_append_replicate, <- List.replicate_one, List.replicate_append_replicate]; congr 1; omega
 rw [e1, <- List.append_assoc, lY _ _ _ _ _ h2.symm (by simp), <- List.append_assoc, lY _ _ _ _ _ (by simp; omega) (by simp)]
 simp
theorem mN (a : List UInt8) : Op.bytesLess a [] = false := by cases a <;> simp [Op.bytesLess]
theorem dJ : ∀ a : List UInt8, Op.bytesLess a a = false
 | [] => by simp [Op.bytesLess]
 | a :: x => by simp [Op.bytesLess, dJ x]
theorem fS : ∀ {a b : List UInt8}, Op.bytesLess a b = false -> Op.bytesLess b a = false -> a = b
 | [], [], _, _ => rfl
 | [], _ :: _, h, _ => by simp [Op.bytesLess] at h
 | _ :: _, [], _, h => by simp [Op.bytesLess] at h
 | x :: xs, y :: ys, h1, h2 => by
  simp only [Op.bytesLess, Bool.or_eq_false_iff, decide_eq_false_iff_not, Bool.and_eq_false_iff] at h1 h2
  have e : x = y := by
   have := h1.1; have := h2.1
   simp only [UInt8.lt_iff_toNat_lt] at *
   exact UInt8.toNat_inj.1 (by omega)
  subst e
  simp at h1 h2
  rw [fS h1 h2]
theorem dT : ∀ {a b c : List UInt8}, Op.bytesLess a b = true -> Op.bytesLess b c = true -> Op.bytesLess a c = true
 | _, [], _, h, _ => by rw [mN] at h; cases h
 | _, _ :: _, [], _, h => by rw [mN] at h; cases h
 | [], _ :: _, _ :: _, _, _ => by simp [Op.bytesLess]
 | x :: xs, y :: ys, z :: zs, h1, h2 => by
  simp only [Op.bytesLess, Bool.or_eq_true, decide_eq_true_eq, Bool.and_eq_true, beq_iff_eq, UInt8.lt_iff_toNat_lt] at *
  rcases h1 with h1 | ⟨rfl, h1⟩ <;> rcases h2 with h2 | ⟨rfl, h2⟩
  ·left; omega
  ·left; omega
  ·left; omega
  ·right; exact ⟨rfl, dT h1 h2⟩
theorem qP {a b : List UInt8} (h : Op.bytesLess a b = true) : Op.bytesLess b a = false := by
 cases h2 : Op.bytesLess b a
 ·rfl
 ·have := dT h h2; rw [dJ] at this; cases this
def aZ (a b : List UInt8) : Int := if Op.bytesLess a b then -1 else if Op.bytesLess b a then 1 else 0
theorem mA {a b : List UInt8} (h : Op.bytesLess a b = true) : aZ a b = -1 := by simp [aZ, h]
theorem oD {a b : List UInt8} (h' : Op.bytesLess a b = false) (h : Op.bytesLess b a = true) : aZ a b = 1 := by simp [aZ, h, h']
theorem oE {a b : List UInt8} (h' : Op.bytesLess a b = false) (h : Op.bytesLess b a = false) : aZ a b = 0 := by simp [aZ, h, h']
theorem dH (a : List UInt8) : aZ a a = 0 := oE (dJ a) (dJ a)
theorem dZ {a b : List UInt8} (h : aZ a b = 0) : a = b := by
 cases h1 : Op.bytesLess a b
 ·cases h2 : Op.bytesLess b a
  ·exact fS h1 h2
  ·rw [oD h1 h2] at h; cases h
 ·rw [mA h1] at h; cases h
theorem fD (a b : List UInt8) : aZ b a = - aZ a b := by
 cases h1 : Op.bytesLess a b
 ·cases h2 : Op.bytesLess b a
  ·rw [oE h1 h2, oE h2 h1]; rfl
  ·rw [oD h1 h2, mA h2]
 ·rw [mA h1, oD (qP h1) h1]; rfl
theorem dS {a b : List UInt8} : aZ a b < 0 ↔ Op.bytesLess a b = true := by
 cases h1 : Op.bytesLess a b
 ·cases h2 : Op.bytesLess b a
  ·rw [oE h1 h2]; simp
  ·rw [oD h1 h2]; simp
 ·rw [mA h1]; simp
theorem gU (a b : List UInt8) : aZ a b = -1 \/ aZ a b = 0 \/ aZ a b = 1 := by
 unfold aZ; split
 ·simp
 ·split <;> simp
theorem cY {a b : ByteArray} (h : a.toList = b.toList) : a = b := by
 rw [ByteArray.toList_eq, ByteArray.toList_eq] at h
 exact ByteArray.ext (Array.toList_inj.1 h)
def aD : List ByteArray -> List ByteArray -> Int
 | [], [] => 0
 | [], _ :: _ => -1
 | _ :: _, [] => 1
 | x :: xs, y :: ys => if aZ x.toList y.toList ≠ 0 then aZ x.toList y.toList else aD xs ys
theorem lO : ∀ xs ys, aD ys xs = - aD xs ys
 | [], [] => rfl
 | [], _ :: _ => rfl
 | _ :: _, [] => rfl
 | x :: xs, y :: ys => by
  unfold aD
  rw [fD x.toList y.toList]
  by_cases h : aZ x.toList y.toList = 0
  ·rw [if_neg (by simp [h]), if_neg (by simp [h]), lO xs ys]
  ·rw [if_pos (by omega), if_pos h]
theorem pZ : ∀ xs, aD xs xs = 0
 | [] => rfl
 | x :: xs => by unfold aD; rw [if_neg (by simp [dH]), pZ xs]
theorem iL : ∀ {xs ys}, aD xs ys = 0 -> xs = ys
 | [], [], _ => rfl
 | [], _ :: _, h => by simp [aD] at h
 | _ :: _, [], h => by simp [aD] at h
 | x :: xs, y :: ys, h => by
  unfold aD at h
  by_cases h1 : aZ x.toList y.toList = 0
  ·rw [if_neg (by simp [h1])] at h
   rw [iL h, cY (dZ h1)]
  ·rw [if_pos h1] at h; exact absurd h h1
theorem oC : ∀ {xs ys zs}, aD xs ys ≤ 0 -> aD ys zs ≤ 0 -> aD xs zs ≤ 0
 | [], _, [], _, _ => by simp [aD]
 | [], _, _ :: _, _, _ => by simp [aD]
 | _ :: _, [], _, h, _ => by simp [aD] at h
 | _ :: _, _ :: _, [], _, h => by simp [aD] at h
 | x :: xs, y :: ys, z :: zs, h1, h2 => by
  unfold aD at h1 h2 ⊢
  have c1 := gU x.toList y.toList
  have c2 := gU y.toList z.toList
  by_cases e1 : aZ x.toList y.toList = 0
  ·rw [if_neg (by simp [e1])] at h1
   rw [dZ e1] at *
   by_cases e2 : aZ y.toList z.toList = 0
   ·rw [if_neg (by simp [e2])] at h2 ⊢
    exact oC h1 h2
   ·rw [if_pos e2] at h2 ⊢; exact h2
  ·rw [if_pos e1] at h1
   have l1 := dS.1 (show aZ x.toList y.toList < 0 by omega)
   by_cases e2 : aZ y.toList z.toList = 0
   ·rw [<- dZ e2, if_pos e1]; exact h1
   ·rw [if_pos e2] at h2
    have l2 := dS.1 (show aZ y.toList z.toList < 0 by omega)
    have l3 := mA (dT l1 l2)
    rw [if_pos (by omega), l3]; decide
theorem aAp (xs ys : List ByteArray) (k : Nat) (h1 : k < xs.length) (h2 : k < ys.length) : aD (xs.drop k) (ys.drop k) = if aZ xs[k].toList ys[k].toList ≠ 0 then aZ xs[k].toList ys[k].toList else aD (xs.drop (k+1)) (ys.drop (k+1)) := by
 rw [List.drop_eq_getElem_cons h1, List.drop_eq_getElem_cons h2]; rfl
theorem aCy (xs ys : List ByteArray) (k : Nat) (h1 : k < xs.length) (h2 : ys.length ≤ k) : aD (xs.drop k) (ys.drop k) = 1 := by
 rw [List.drop_eq_getElem_cons h1, List.drop_of_length_le h2]; rfl
theorem aAo (xs ys : List ByteArray) (k : Nat) (h1 : xs.length ≤ k) (h2 : k < ys.length) : aD (xs.drop k) (ys.drop k) = -1 := by
 rw [List.drop_eq_getElem_cons h2, List.drop_of_length_le h1]; rfl
theorem aAn (xs ys : List ByteArray) (k : Nat) (h1 : xs.length ≤ k) (h2 : ys.length ≤ k) : aD (xs.drop k) (ys.drop k) = 0 := by
 rw [List.drop_of_length_le h2, List.drop_of_length_le h1]; rfl
theorem iY (s : ByteArray) (w : World) : Calls Tryz.prog 220 #[.string s] w (Ret (.bool false) w) := by
 go_enter Tryz.func220, Tryz.ntmps220
 go_wp2
 go_ret
 exact Ret.mk (by simp)
theorem mM (s t : ByteArray) (w : World) : Calls Tryz.prog 204 #[.string s, .string t] w (Ret (.int .i64 (aZ s.toList t.toList)) w) := by
 cases h1 : Op.bytesLess s.toList t.toList
 ·cases h2 : Op.bytesLess t.toList s.toList
  ·rw [oE h1 h2]
   have h3 : (!(s.toList == t.toList)) = false := by simp [fS h1 h2]
   go_enter Tryz.func204, Tryz.ntmps204
   go_wp2_with (go_at_call 220; (with_reducible refine (iY _ _).mono ?_); rintro e w' ⟨rfl, rfl⟩)
   go_ret
   exact Ret.mk rfl
  ·rw [oD h1 h2]
   have h3 : (!(s.toList == t.toList)) = true := by
    cases h : (s.toList == t.toList)
    ·rfl
    ·rw [eq_of_beq h] at h1 h2; rw [h1] at h2; cases h2
   go_enter Tryz.func204, Tryz.ntmps204
   go_wp2_with (go_at_call 220; (with_reducible refine (iY _ _).mono ?_); rintro e w' ⟨rfl, rfl⟩)
   go_ret
   exact Ret.mk rfl
 ·rw [mA h1]
  go_enter Tryz.func204, Tryz.ntmps204
  go_wp2_with (go_at_call 220; (with_reducible refine (iY _ _).mono ?_); rintro e w' ⟨rfl, rfl⟩)
  go_ret
  exact Ret.mk rfl
set_option maxHeartbeats 400000 in
theorem iD (xs ys : List ByteArray) (a b : Option Addr) (c d : Nat) (w : World) (ha : CellsAt w a (strs xs)) (hb : CellsAt w b (strs ys)) (hx : xs.length ≤ maxLen) (hy : ys.length ≤ maxLen) :
 Calls Tryz.prog 174 #[.slice a xs.length c, .slice b ys.length d] w (Ret (.int .i64 (aD xs ys)) w) := by
 unfold maxLen at hx hy
 go_enter Tryz.func174, Tryz.ntmps174
 go_wp2
 go_loop [11] (fun i => ∃ k : Nat, k ≤ xs.length /\ k ≤ ys.length /\ i = .int .i64 k /\ aD xs ys = aD (xs.drop k) (ys.drop k)) (fun i => xs.length - (intOf i).toNat)
 case atStart => exact ⟨0, Nat.zero_le _, Nat.zero_le _, rfl, rfl⟩
 case round =>
  obtain ⟨k, hk, hk2, rfl, hr⟩ := hrel
  have H := qH hr; clear hr
  by_cases h1 : k < xs.length
  ·obtain ⟨b1, o1, rfl, c1⟩ := ha.str h1
   by_cases h2 : k < ys.length
   ·obtain ⟨b2, o2, rfl, c2⟩ := hb.str h2
    have hd := aAp xs ys k h1 h2
    generalize hc : aZ xs[k].toList ys[k].toList = c3 at hd
    by_cases h3 : c3 = 0
    ·rw [if_neg (by simp [h3])] at hd
     have HD := qH hd; clear hd
     subst h3
     have HC := qH hc; clear hc
     go_wp2_with (go_at_call 204; refine (mM _ _ _).mono ?_; rintro e w' ⟨rfl, rfl⟩; rw [HC.out])
     go_round
     case rel => exact ⟨k + 1, by omega, by omega, by go_num, by rw [H.out, HD.out]⟩
     case measure => simp [intOf]; omega
    ·rw [if_pos h3] at hd
     have HD := qH hd; clear hd
     have HC := qH hc; clear hc
     have h4 : (c3 != 0) = true := by simp [h3]
     go_wp2_with (go_at_call 204; refine (mM _ _ _).mono ?_; rintro e w' ⟨rfl, rfl⟩; rw [HC.out])
     go_ret
     exact Ret.mk (by rw [H.out, HD.out]; rfl)
   ·have hd := aCy xs ys k h1 (by omega)
    have HD := qH hd; clear hd
    go_wp2
    go_ret
    exact Ret.mk (by rw [H.out, HD.out]; rfl)
  ·by_cases h2 : k < ys.length
   ·have HD := qH (aAo xs ys k (by omega) h2)
    go_wp2
    go_ret
    exact Ret.mk (by rw [H.out, HD.out]; rfl)
   ·have HD := qH (aAn xs ys k (by omega) (by omega))
    go_wp2
    go_ret
    exact Ret.mk (by rw [H.out, HD.out]; rfl)
theorem oL (xs ys : List ByteArray) (a b : Option Addr) (c d : Nat) (w : World) (ha : CellsAt w a (strs xs)) (hb : CellsAt w b (strs ys)) (hx : xs.length ≤ maxLen) (hy : ys.length ≤ maxLen) :
 Calls Tryz.prog 120 #[.slice a xs.length c, .slice b ys.length d] w (Ret (.int .i64 (aD xs ys)) w) := by
 go_enter Tryz.func120, Tryz.ntmps120
 go_wp2_with (go_at_call 174; (with_reducible refine (iD _ _ _ _ _ _ _ ha hb hx hy).mono ?_); rintro e w' ⟨rfl, rfl⟩)
 go_ret
 exact Ret.mk rfl
end
section
section
variable {α : Type} {c : α -> α -> Int}
end
end
section
open Go.RowKit
theorem nF (ss : List ByteArray) : ∀ u ∈ strs ss, u.oneCell' = true := by
 intro u hu; obtain ⟨s, _, rfl⟩ := List.mem_map.1 hu; rfl
end
section
section
variable {α : Type} {c : α -> α -> Int}
def aD2 (c : α -> α -> Int) : Prop := ∀ x y, c x y = 0 -> x = y
theorem aG3 (O : OrdLaw c) (T : aD2 c) {L : List α} {x : α} : bA c L x = true ↔ x ∈ L := by
 rw [lF]
 constructor
 ·rintro ⟨y, hy, e⟩; rw [<- T y x e]; exact hy
 ·intro h; exact ⟨x, h, O.refl x⟩
theorem aG2 (O : OrdLaw c) (T : aD2 c) {L : List α} {x : α} : (!bA c L x) = true ↔ x ∉ L := by
 rw [<- aG3 O T (c := c)]; simp
variable (O : OrdLaw c) (T : aD2 c) {s o : List α} (hs : Strict c s) (ho : Strict c o)
end
end
section
open Ieee
end
section
abbrev aF := Int × ByteArray × Unit
abbrev aH6 := ByteArray × List aF × Unit
abbrev aQ := Int × aH6 × Int × aF × aF × Unit
abbrev cN := aH6 × List aQ × Unit
abbrev aB (l : aQ) : List aF := l.2.1.2.1
abbrev bM (l : aQ) : ByteArray := l.2.1.1
abbrev iA (l : aQ) : Int := l.2.2.1
abbrev leftOf (l : aQ) : aF := l.2.2.2.1
abbrev aU (l : aQ) : aF := l.2.2.2.2.1
theorem vF {α σ : Type} (f : σ -> α -> σ) (s : σ) {l : List α} {i : Nat} {x : α} (h : l[i]? = some x) : (l.take (i + 1)).foldl f s = f ((l.take i).foldl f s) x := by
 rw [List.take_add_one, h, List.foldl_append]; rfl
def iZ (a : List ByteArray) (s : ByteArray) : Bool := a.any fun x => decide (x = s)
theorem bX {a : List ByteArray} {s : ByteArray} : iZ a s = true ↔ s ∈ a := by
 unfold iZ
 rw [List.any_eq_true]
 exact ⟨fun ⟨x, h, e⟩ => of_decide_eq_true e ▸ h, fun h => ⟨s, h, decide_eq_true rfl⟩⟩
def bG (a : List ByteArray) (t : aF) : List ByteArray := if t.1 = 1 /\ iZ a t.2.1 = false then a ++ [t.2.1] else a
def cJ (a : List ByteArray) (ts : List aF) : List ByteArray := ts.foldl bG a
def bY (a : List ByteArray) (l : aQ) : List ByteArray := if l.1 = 1 then cJ a (aB l) else a
def aA (ls : List aQ) : List ByteArray := ls.foldl bY []
def kinds (ts : List aF) (up : Int) : Bool := ts.all fun t => decide (1 ≤ t.1 /\ t.1 ≤ up)
def qR (ts : List aF) : Nat := ts.countP fun t => decide (4 ≤ t.1)
def gR (ts : List aF) : Bool := kinds ts 7 && decide (qR ts < 2) && decide (ts.length ≤ 64)
def iU (l : aQ) : Bool := if l.1 = 1 \/ l.1 = 2 then decide ((aB l).length ≤ 64) && kinds (aB l) 3 else if l.1 = 3 then decide (1 ≤ iA l /\ iA l ≤ 4) && kinds [leftOf l, aU l] 3 else false
def dM (r : cN) : Bool := gR r.1.2.1 && r.2.1.all iU
def cZ (N : List ByteArray) (blank : Bool) (t : aF) : Bool := if t.1 = 2 then blank else decide (t.1 = 3 \/ t.1 = 4 \/ iZ N t.2.1 = true)
def iE (N : List ByteArray) (l : aQ) : Bool := if l.1 = 3 then cZ N false (leftOf l) && cZ N false (aU l) else if l.1 = 2 then (aB l).all (cZ N true) else true
def kR (r : cN) : Bool := r.1.2.1.all (cZ (aA r.2.1) false) && r.2.1.all (iE (aA r.2.1))
def aT (r : cN) : Nat := if dM r = true then if kR r = true then 0 else 111 else 2
end
section
open Go.RowKit
def qN (m : List (ByteArray × Value)) (s : ByteArray) : Option Value := (m.find? fun p => decide (p.1 = s)).map (·.2)
def jP (m : List (ByteArray × Value)) (s : ByteArray) (v : Value) : List (ByteArray × Value) := if (qN m s).isSome then m.map fun p => if p.1 = s then (p.1, v) else p else m ++ [(s, v)]
def MapIs (w : World) (r : Nat) (m : List (ByteArray × Value)) : Prop :=
 ∃ es clock, w.heap[r]? = some (.map es clock) /\ es.toList.map (fun e => (e.key, e.val)) = m.map (fun p => (Value.string p.1, p.2)) /\ (m.map (·.1)).Nodup /\ MapKept.Stamped es clock
section
variable {P : Program} {w w' : World} {r : Nat} {m : List (ByteArray × Value)}
theorem MapIs.kp {F : Nat -> Prop} (h : MapIs w r m) (hk : Kp F w w') (hf : ¬ F r) : MapIs w' r m := by
 obtain ⟨es, c, h1, h2⟩ := h
 exact ⟨es, c, (hk.block r (lt_of_block h1) hf).trans h1, h2⟩
theorem MapIs.ext (h : MapIs w r m) (hk : Ext w w') : MapIs w' r m := h.kp hk id
theorem MapIs.lt (h : MapIs w r m) : r < w.heap.size := by
 obtain ⟨es, c, h1, h2⟩ := h
 exact lt_of_block h1
theorem MapIs.new (w : World) : MapIs (w.alloc (.map #[] 0)) w.heap.size [] := by
 refine ⟨#[], 0, ?_, rfl, List.nodup_nil, MapKept.stamped_empty 0⟩
 show (w.heap.push _)[w.heap.size]? = _; simp
theorem aC3 (a b : ByteArray) : (a == b) = decide (a = b) := by
 rw [Bool.eq_iff_iff, MapKept.bytes_beq, decide_eq_true_iff]
theorem iI (s : ByteArray) : ∀ (es : List MapEntry) (m : List (ByteArray × Value)) (i : Nat), es.map (fun e => (e.key, e.val)) = m.map (fun p => (Value.string p.1, p.2)) ->
 Instr.findNow .string (.string s) es i = some ((m.findIdx? fun p => decide (p.1 = s)).bind fun k => (m[k]?).map fun p => (i + k, p.2))
 | [], [], i, _ => rfl
 | [], _ :: _, i, h => by simp at h
 | _ :: _, [], i, h => by simp at h
 | e :: es, p :: m, i, h => by
  simp only [List.map_cons, List.cons.injEq, Prod.mk.injEq] at h
  obtain ⟨⟨h1, h2⟩, h3⟩ := h
  have ih := iI s es m (i + 1) h3
  by_cases hs : s = p.1
  ·subst hs
   simp [Instr.findNow, Instr.sameNow, h1, h2, List.findIdx?_cons, aC3]
  ·have hb' : decide (p.1 = s) = false := by simp [Ne.symm hs]
   have hb : (s == p.1) = false := by rw [aC3]; simp [hs]
   simp only [Instr.findNow, Instr.sameNow, h1, hb, ih, List.findIdx?_cons, hb']
   cases hf : m.findIdx? (fun p => decide (p.1 = s)) with
   | none => simp
   | some k => simp [Nat.add_assoc, Nat.add_comm 1 k]
theorem sU (m : List (ByteArray × Value)) (s : ByteArray) : qN m s = (m.findIdx? fun p => decide (p.1 = s)).bind fun k => (m[k]?).map (·.2) := by
 unfold qN
 induction m with
 | nil => rfl
 | cons p m ih =>
  by_cases hs : p.1 = s
  ·simp [hs, List.findIdx?_cons]
  ·simp only [List.find?_cons, List.findIdx?_cons, hs, decide_false, Bool.false_eq_true, if_false]
   rw [ih]
   cases m.findIdx? (fun p => decide (p.1 = s)) <;> simp
theorem fF {k : TypeId} (hk : P.underlying k = some .string) (s : ByteArray) (em : Bool) (n : Nat) : (Instr.checkKey em (n + 1) k (.string s)).run P w = .ok () w := by
 simp [Instr.checkKey, run_underlying hk]
theorem fW {k : TypeId} (hk : P.underlying k = some .string) (s : ByteArray) {es : List MapEntry} {r : Option (Nat × Value)} (hf : Instr.findNow .string (.string s) es 0 = some r) : (Instr.findKey k (.string s) es).run P w = .ok r w := by
 simp [Instr.findKey, run_underlying hk, hf]
theorem gM {t k e : TypeId} (ht : P.underlying t = some (.map k e)) (hk : P.underlying k = some .string) {z : Value} (hz : (zeroValue e).run P w = .ok z w) (h : MapIs w r m) (s : ByteArray) :
 (Instr.lookup t (.map (some r)) (.string s) false).run P w = .ok ((qN m s).getD z) w := by
 obtain ⟨es, c, h1, h2, h3⟩ := h
 have hf := fW (w := w) hk s (iI s es.toList m 0 h2)
 have hg := sU m s
 have hc := fF (w := w) hk s es.isEmpty 9999
 cases hi : m.findIdx? (fun p => decide (p.1 = s)) with
 | none =>
  rw [hi] at hf hg
  simp only [Option.bind_none] at hf hg
  simp [Instr.lookup, run_underlying ht, MapKept.run_getObj_map h1, hc, hf, hg, hz, Result.andThen]
 | some i =>
  rw [hi] at hf hg
  simp only [Option.bind_some] at hf hg
  obtain ⟨hl, _⟩ := List.findIdx?_eq_some_iff_getElem.1 hi
  rw [qG hl] at hf hg
  simp only [Option.map_some] at hf hg
  simp [Instr.lookup, run_underlying ht, MapKept.run_getObj_map h1, hc, hf, hg, Result.andThen]
theorem nJ {t k e : TypeId} (ht : P.underlying t = some (.map k e)) (hk : P.underlying k = some .string) {z : Value} (hz : (zeroValue e).run P w = .ok z w) (h : MapIs w r m) (s : ByteArray) :
 (Instr.lookup t (.map (some r)) (.string s) true).run P w = .ok (.tuple #[(qN m s).getD z, .bool (qN m s).isSome]) w := by
 obtain ⟨es, c, h1, h2, h3⟩ := h
 have hf := fW (w := w) hk s (iI s es.toList m 0 h2)
 have hg := sU m s
 have hc := fF (w := w) hk s es.isEmpty 9999
 cases hi : m.findIdx? (fun p => decide (p.1 = s)) with
 | none =>
  rw [hi] at hf hg
  simp only [Option.bind_none] at hf hg
  simp [Instr.lookup, run_underlying ht, MapKept.run_getObj_map h1, hc, hf, hg, hz, Result.andThen]
 | some i =>
  rw [hi] at hf hg
  simp only [Option.bind_some] at hf hg
  obtain ⟨hl, _⟩ := List.findIdx?_eq_some_iff_getElem.1 hi
  rw [qG hl] at hf hg
  simp only [Option.map_some] at hf hg
  simp [Instr.lookup, run_underlying ht, MapKept.run_getObj_map h1, hc, hf, hg, Result.andThen]
theorem tS (s : ByteArray) : (Instr.keyThatStays (.string s) (.string s)).run P w = .ok (.string s) w := by
 have h : Instr.sameBits 10000 (.string s) (.string s) = true := by
  simp [Instr.sameBits, aC3]
 simp [Instr.keyThatStays, h]
def qM (w : World) (r : Nat) (o : Obj) : World := { w with heap := w.heap.setIfInBounds r o }
theorem aDw (w : World) (r : Nat) (o : Obj) : Kp (fun k => k = r) w (qM w r o) :=
 ⟨rfl, rfl, rfl, by simp [qM], fun k _ hk => by simp only [qM]; rw [Array.getElem?_setIfInBounds_ne (fun e => hk e.symm)]⟩
theorem uY (w : World) (r : Nat) (o : Obj) (h : r < w.heap.size) : (qM w r o).heap[r]? = some o := by
 simp [qM, h]
theorem kS {t k e : TypeId} (ht : P.underlying t = some (.map k e)) (hk : P.underlying k = some .string) (h : MapIs w r m) (s : ByteArray) (v : Value) :
 ∃ w', (Instr.mapUpdate t (.map (some r)) (.string s) v).run P w = .ok () w' /\ MapIs w' r (jP m s v) /\ Kp (fun k => k = r) w w' := by
 obtain ⟨es, c, h1, h2, h3, h4⟩ := h
 have hlt := lt_of_block h1
 have hf := fW (w := w) hk s (iI s es.toList m 0 h2)
 have hg := sU m s
 have hc := fF (w := w) hk s false 9999
 have hlen : es.size = m.length := by simpa using congrArg List.length h2
 cases hi : m.findIdx? (fun p => decide (p.1 = s)) with
 | none =>
  rw [hi] at hf hg
  simp only [Option.bind_none] at hf hg
  refine ⟨qM w r (.map (es.push { key := .string s, val := v, born := c }) (c + 1)), ?_, ⟨_, _, uY _ _ _ hlt, ?_, ?_, ?_⟩, aDw _ _ _⟩
  ·simp [Instr.mapUpdate, run_underlying ht, MapKept.run_getObj_map h1, hc, hf, Result.andThen, MapKept.run_setObj_map _ h1, qM]
  ·simp [jP, hg, h2]
  ·have hno := List.findIdx?_eq_none_iff.1 hi
   simp only [jP, hg, Option.isSome_none, Bool.false_eq_true, if_false, List.map_append, List.map_cons, List.map_nil]
   refine List.nodup_append.2 ⟨h3, by simp, ?_⟩
   intro a ha b hb
   simp only [List.mem_singleton] at hb
   subst hb
   obtain ⟨p, hp, rfl⟩ := List.mem_map.1 ha
   have := hno p hp
   simpa using this
  ·refine MapKept.stamped_push h4 fun x hx e => ?_
   have h5 : (x.key, x.val) ∈ es.toList.map (fun e => (e.key, e.val)) := List.mem_map.2 ⟨x, hx, rfl⟩
   rw [h2] at h5
   obtain ⟨p, hp, e2⟩ := List.mem_map.1 h5
   have h6 := List.findIdx?_eq_none_iff.1 hi p hp
   have h7 : Value.string p.1 = Value.string s := by rw [<- e]; exact congrArg Prod.fst e2
   simp at h6 h7
   exact h6 h7
 | some i =>
  rw [hi] at hf hg
  simp only [Option.bind_some] at hf hg
  obtain ⟨hl, hpi, hbefore⟩ := List.findIdx?_eq_some_iff_getElem.1 hi
  rw [qG hl] at hf hg
  simp only [Option.map_some, Nat.zero_add] at hf hg
  have hei : es[i]? = some (es[i]'(by omega)) := Array.getElem?_eq_getElem (by omega)
  have hpair := congrArg (fun l : List (Value × Value) => l[i]?) h2
  simp only [List.getElem?_map, Array.getElem?_toList, hei, qG hl, Option.map_some, Option.some.injEq, Prod.mk.injEq] at hpair
  have hps : m[i].1 = s := by simpa using hpi
  have hkey : (es[i]'(by omega)).key = .string s := by rw [hpair.1, hps]
  refine ⟨qM w r (.map (es.modify i fun e => { e with key := .string s, val := v }) c), ?_, ⟨_, _, uY _ _ _ hlt, ?_, ?_, ?_⟩, aDw _ _ _⟩
  ·simp [Instr.mapUpdate, run_underlying ht, MapKept.run_getObj_map h1, hc, hf, hei, hkey, tS, Result.andThen, MapKept.run_setObj_map _ h1, qM]
  ·simp only [jP, hg, Option.isSome_some, if_true]
   apply List.ext_getElem?
   intro q
   have hq := congrArg (fun l : List (Value × Value) => l[q]?) h2
   simp only [List.getElem?_map, Array.getElem?_toList] at hq
   simp only [List.getElem?_map, Array.getElem?_toList, Array.getElem?_modify]
   cases hmq : m[q]? with
   | none =>
    rw [hmq] at hq
    cases heq : es[q]? with
    | none => by_cases e : i = q <;> simp
    | some x => rw [heq] at hq; simp at hq
   | some p =>
    rw [hmq] at hq
    cases heq : es[q]? with
    | none => rw [heq] at hq; simp at hq
    | some x =>
     rw [heq] at hq
     simp only [Option.map_some, Option.some.injEq, Prod.mk.injEq] at hq
     by_cases e : i = q
     ·subst e
      have : p = m[i] := by rw [qG hl] at hmq; exact (Option.some.inj hmq).symm
      subst this
      simp [hps]
     ·have hne : p.1 ≠ s := by
       intro e2
       have h5 := List.pairwise_iff_getElem.1 h3
       obtain ⟨hql, hqe⟩ := List.getElem?_eq_some_iff.1 hmq
       rcases Nat.lt_or_gt_of_ne e with h6 | h6
       ·have := h5 i q (by simpa using hl) (by simpa using hql) h6
        simp only [List.getElem_map, hqe, hps, e2] at this
        exact this rfl
       ·have := h5 q i (by simpa using hql) (by simpa using hl) h6
        simp only [List.getElem_map, hqe, hps, e2] at this
        exact this rfl
      simp [e, hne, hq.1, hq.2]
  ·simp only [jP, hg, Option.isSome_some, if_true, List.map_map]
   have : (fun x : ByteArray × Value => x.1) ∘ (fun p => if p.1 = s then (p.1, v) else p) = fun x => x.1 := by
    funext p; simp only [Function.comp]; split <;> rfl
   rw [this]; exact h3
  ·refine MapKept.stamped_modify h4 i _ (fun _ _ => rfl) fun e _ he => ?_
   rw [hei] at he
   cases he
   exact hkey.symm
end
end
section
open Ieee
end
section
end
section
open Go.ChangeShapes Go.WideShapes Go.ChangeAt Go.RowKit
open Go.ChangeMaps (open_string shut_string)
section
variable {H : Type} {enc : TypeId × Value -> H} {P : Program} {W : World}
end
end
section
open Go.ChangeShapes Go.WideShapes Go.ChangeAt Go.RowKit
theorem aHn {H : Type} (d : DataW H) : 1 ≤ Rows.uptoBulk d := by
 cases d with
 | lit l => cases l <;> simp [Rows.uptoBulk]
 | nil => simp [Rows.uptoBulk]
 | ptr d => simp [Rows.uptoBulk]
 | slice elems spare => simp [Rows.uptoBulk]
 | agg parts => simp [Rows.uptoBulk]
 | iface t d => simp [Rows.uptoBulk]
 | map entries => simp [Rows.uptoBulk]
 | held h => simp [Rows.uptoBulk]
structure Shp (P : Program) (α : Type) where
 ty : TypeId
 n : Nat
 At : World -> (Nat -> Prop) -> List Value -> α -> Prop
 bulk : α -> Nat
 cells : P.cellsOf ty = n
 len : ∀ {w G cs x}, At w G cs x -> cs.length = n
 kp : ∀ {w w' G F cs x}, At w G cs x -> Kp F w w' -> (∀ k, G k -> ¬ F k) -> At w' G cs x
 mono : ∀ {w G G' cs x}, At w G cs x -> (∀ k, G k -> G' k) -> At w G' cs x
 read : ∀ {H : Type} {enc : TypeId × Value -> H} {w fuel cs d p}, DataW.trod enc P w 0 (fun _ => true) true fuel ty cs = some (d, p) -> ∃ x, At w (fun k => k < w.heap.size) cs x /\ bulk x ≤ Rows.uptoBulk d
section
variable {P : Program} {α β : Type}
def iP (t : TypeId) (k : IntKind) (hu : P.underlying t = some (.int k)) (hc : P.cellsOf t = 1) : Shp P Int where
 ty := t
 n := 1
 At := fun _ _ cs x => cs = [.int k x] /\ (Lit.int k x).wf = true
 bulk := fun _ => 1
 cells := hc
 len := fun h => by rw [h.1]; rfl
 kp := fun h _ _ => h
 mono := fun h _ => h
 read := fun h => by
  obtain ⟨n, rfl, e, hw⟩ := DataW.trod_int hu h
  cases e
  exact ⟨n, ⟨rfl, hw⟩, aHn _⟩
def aI3 (t : TypeId) (hu : P.underlying t = some .string) (hc : P.cellsOf t = 1) : Shp P ByteArray where
 ty := t
 n := 1
 At := fun _ _ cs x => cs = [.string x] /\ x.size ≤ maxLen
 bulk := fun x => x.size + 1
 cells := hc
 len := fun h => by rw [h.1]; rfl
 kp := fun h _ _ => h
 mono := fun h _ => h
 read := fun h => by
  obtain ⟨n, rfl, e, hw⟩ := DataW.trod_string hu h
  cases e
  refine ⟨n, ⟨rfl, hw⟩, ?_⟩
  rw [Rows.uptoBulk, Array.length_toList]; exact Nat.le_refl _
def ElemsAt (s : Shp P α) (w : World) (G : Nat -> Prop) (ao : Option Addr) (xs : List α) : Prop :=
 ∀ i x, xs[i]? = some x -> ∃ b off es, ao = some ⟨b, off, none⟩ /\ G b /\ b < w.heap.size /\ s.At w G es x /\ ∀ c u, es[c]? = some u -> w.cell? ⟨b, off + (i * s.n + c), none⟩ = some u
theorem ElemsAt.kp {s : Shp P α} {w w' : World} {G F : Nat -> Prop} {ao : Option Addr} {xs : List α} (h : ElemsAt s w G ao xs) (hk : Kp F w w') (hF : ∀ k, G k -> ¬ F k) : ElemsAt s w' G ao xs := fun i x hx => by
 obtain ⟨b, off, es, e, hg, hb, ha, hc⟩ := h i x hx
 exact ⟨b, off, es, e, hg, Nat.lt_of_lt_of_le hb hk.size, s.kp ha hk hF, fun c u hu => hk.cell (hc c u hu) (hF b hg)⟩
theorem ElemsAt.ext {s : Shp P α} {w w' : World} {G : Nat -> Prop} {ao : Option Addr} {xs : List α} (h : ElemsAt s w G ao xs) (hk : Ext w w') : ElemsAt s w' G ao xs := h.kp hk fun _ _ => id
theorem ElemsAt.mono {s : Shp P α} {w : World} {G G' : Nat -> Prop} {ao : Option Addr} {xs : List α} (h : ElemsAt s w G ao xs) (hG : ∀ k, G k -> G' k) : ElemsAt s w G' ao xs := fun i x hx => by
 obtain ⟨b, off, es, e, hg, hb, ha, hc⟩ := h i x hx
 exact ⟨b, off, es, e, hG b hg, hb, s.mono ha hG, hc⟩
def lQ (f : α -> Nat) (xs : List α) : Nat := (xs.map f).sum
theorem tJ (f : α -> Nat) (x : α) (xs : List α) : lQ f (x :: xs) = f x + lQ f xs := by simp [lQ]
theorem pE (f : α -> Nat) (hf : ∀ x, 1 ≤ f x) : ∀ xs : List α, xs.length ≤ lQ f xs
 | [] => by simp
 | x :: xs => by have := pE f hf xs; have := hf x; rw [tJ]; simp only [List.length_cons]; omega
theorem aAs {H : Type} (f : α -> Nat) : ∀ (xs : List α) (D : List (DataW H)), xs.length = D.length -> (∀ (i : Nat) x d, xs[i]? = some x -> D[i]? = some d -> f x ≤ Rows.uptoBulk d) -> lQ f xs ≤ Rows.uptoBulkAll D
 | [], [], _, _ => by simp [lQ]
 | x :: xs, d :: D, hl, h => by
  have h0 := h 0 x d rfl rfl
  have := aAs f xs D (by simpa using hl) (fun i y e hy he => h (i + 1) y e (by simpa using hy) (by simpa using he))
  rw [tJ]; simp only [Rows.uptoBulkAll]; omega
def aDl (t : TypeId) (s : Shp P α) (hu : P.underlying t = some (.slice s.ty)) (hc : P.cellsOf t = 1) (hn : 0 < s.n) : Shp P (List α) where
 ty := t
 n := 1
 At := fun w G cs xs => ∃ ao cap, cs = [.slice ao xs.length cap] /\ xs.length ≤ cap /\ cap ≤ maxLen /\ ElemsAt s w G ao xs
 bulk := fun xs => lQ s.bulk xs + 1
 cells := hc
 len := fun h => by obtain ⟨_, _, e, _⟩ := h; rw [e]; rfl
 kp := fun ⟨ao, cap, e, h1, h2, h⟩ hk hF => ⟨ao, cap, e, h1, h2, h.kp hk hF⟩
 mono := fun ⟨ao, cap, e, h1, h2, h⟩ hG => ⟨ao, cap, e, h1, h2, h.mono hG⟩
 read := fun {H enc w fuel cs d p} h => by
  rcases Go.Deep.open_slice hu h with ⟨hcs, hx⟩ | ⟨a, len, cap, m, n, D, Pl, hcs, _, hl, hm, hmm, hx, hel⟩
  ·cases hx
   exact ⟨[], ⟨none, 0, hcs, by simp, by simp [maxLen], fun i x hi => by simp at hi⟩, by simp [Rows.uptoBulk, lQ]⟩
  ·cases hx
   subst hcs
   simp only [if_true] at hmm
   have each : ∀ i, i < len -> ∃ q : α × List Value, (s.At w (fun k => k < w.heap.size) q.2 q.1 /\ s.bulk q.1 ≤ Rows.uptoBulk (D i)) /\ ∃ b off, a = ⟨b, off, none⟩ /\ b < w.heap.size /\ ∀ c u, q.2[c]? = some u -> w.cell? ⟨b, off + (i * s.n + c), none⟩ = some u := by
    intro i hi
    obtain ⟨cs, hcs, ht⟩ := hel i (by omega)
    obtain ⟨x, hx, hb⟩ := s.read ht
    rw [s.cells] at hcs
    obtain ⟨_, hlen, hcell⟩ := World.cells?_some hcs
    obtain ⟨b, off, spot⟩ := a
    have hspot : spot = none := by
     obtain ⟨cs0, hcs0, _⟩ := hel 0 (by omega)
     rw [s.cells] at hcs0
     obtain ⟨_, hlen0, hcell0⟩ := World.cells?_some hcs0
     have h0 := hcell0 0 hn
     rw [qG (by omega)] at h0
     have := World.cell?_spot h0
     simpa [Addr.add] using this
    subst hspot
    have cell : ∀ c, c < s.n -> w.cell? ⟨b, off + (i * s.n + c), none⟩ = cs[c]? := fun c hc => by
     have := hcell c hc
     rw [Go.Deep.add_add, Addr.add_lit] at this
     exact this
    refine ⟨(x, cs), ⟨hx, hb⟩, b, off, rfl, ?_, fun c u hu => ?_⟩
    ·have h0 := cell 0 hn
     rw [qG (by omega)] at h0
     exact World.block_lt_of_cell? _ _ h0
    ·have hc := (List.getElem?_eq_some_iff.1 hu).1
     rw [cell c (by simp only at hc; omega)]; exact hu
   have hex : ∃ q : List (α × List Value), q.length = len /\ ∀ (i : Nat) y, q[i]? = some y -> (s.At w (fun k => k < w.heap.size) y.2 y.1 /\ s.bulk y.1 ≤ Rows.uptoBulk (D i)) /\ ∃ b off, a = ⟨b, off, none⟩ /\ b < w.heap.size /\ ∀ c u, y.2[c]? = some u -> w.cell? ⟨b, off + (i * s.n + c), none⟩ = some u := by
    clear hel hmm hl hm h
    induction len with
    | zero => exact ⟨[], rfl, fun i y hy => by simp at hy⟩
    | succ len ih =>
     obtain ⟨q, h1, h2⟩ := ih (fun i hi => each i (by omega))
     obtain ⟨y, hy⟩ := each len (by omega)
     refine ⟨q ++ [y], by simp [h1], fun i z hz => ?_⟩
     by_cases hi : i < len
     ·rw [List.getElem?_append_left (by omega)] at hz; exact h2 i z hz
     ·have h3 := (List.getElem?_eq_some_iff.1 hz).1
      simp only [List.length_append, List.length_cons, List.length_nil] at h3
      have e : i = len := by omega
      subst e
      rw [List.getElem?_append_right (by omega)] at hz
      simp [h1] at hz
      subst hz; exact hy
   obtain ⟨q, hq, hall⟩ := hex
   refine ⟨q.map (·.1), ⟨some a, cap, by simp [hq], by simp [hq, hl], hm, fun i x hi => ?_⟩, ?_⟩
   ·rw [List.getElem?_map] at hi
    cases hy : q[i]? with
    | none => rw [hy] at hi; cases hi
    | some y =>
     rw [hy] at hi
     cases hi
     obtain ⟨⟨h1, _⟩, b, off, rfl, hb, hc⟩ := hall i y hy
     exact ⟨b, off, y.2, rfl, hb, hb, h1, hc⟩
   ·have := aAs (H := H) s.bulk (q.map (·.1)) ((List.range len).map D) (by simp [hq]) (fun i x d hx hd => by
     rw [List.getElem?_map] at hx hd
     cases hy : q[i]? with
     | none => rw [hy] at hx; cases hx
     | some y =>
      have hi := (List.getElem?_eq_some_iff.1 hy).1
      rw [hy] at hx
      rw [List.getElem?_range (by omega)] at hd
      cases hx; cases hd
      exact (hall i y hy).1.2)
    simp only [Rows.uptoBulk]
    omega
structure Flds (P : Program) (α : Type) where
 n : Nat
 At : World -> (Nat -> Prop) -> List Value -> α -> Prop
 bulk : α -> Nat
 ok : List Field -> Nat -> Prop
 len : ∀ {w G cs x}, At w G cs x -> cs.length = n
 kp : ∀ {w w' G F cs x}, At w G cs x -> Kp F w w' -> (∀ k, G k -> ¬ F k) -> At w' G cs x
 mono : ∀ {w G G' cs x}, At w G cs x -> (∀ k, G k -> G' k) -> At w G' cs x
 read : ∀ {H : Type} {enc : TypeId × Value -> H} {w : World} {fuel : Nat} {fs : List Field} {off : Nat} {cs : List Value} {xs : List (DataW H × List MemPlace)}, ok fs off -> off + n ≤ cs.length -> (fs.mapM fun f => DataW.trod enc P w 0 (fun _ => true) true fuel f.type ((cs.drop f.offset).take (P.cellsOf f.type))) = some xs ->
  ∃ x, At w (fun k => k < w.heap.size) ((cs.drop off).take n) x /\ bulk x ≤ Rows.uptoBulkAll (xs.map (·.1))
def aHf : Flds P Unit where
 n := 0
 At := fun _ _ cs _ => cs = []
 bulk := fun _ => 0
 ok := fun fs _ => fs = []
 len := fun h => by rw [h]; rfl
 kp := fun h _ _ => h
 mono := fun h _ => h
 read := fun h _ hm => by
  subst h
  exact ⟨(), by simp, by simp⟩
def jX (s : Shp P α) (r : Flds P β) : Flds P (α × β) where
 n := s.n + r.n
 At := fun w G cs x => ∃ a b, cs = a ++ b /\ s.At w G a x.1 /\ r.At w G b x.2
 bulk := fun x => s.bulk x.1 + r.bulk x.2
 ok := fun fs off => ∃ f fs', fs = f :: fs' /\ f.type = s.ty /\ f.offset = off /\ r.ok fs' (off + s.n)
 len := fun h => by obtain ⟨a, b, e, h1, h2⟩ := h; rw [e, List.length_append, s.len h1, r.len h2]
 kp := fun ⟨a, b, e, h1, h2⟩ hk hF => ⟨a, b, e, s.kp h1 hk hF, r.kp h2 hk hF⟩
 mono := fun ⟨a, b, e, h1, h2⟩ hG => ⟨a, b, e, s.mono h1 hG, r.mono h2 hG⟩
 read := fun {H enc w fuel fs off cs xs} ho hl hm => by
  obtain ⟨f, fs', rfl, h1, h2, h3⟩ := ho
  rw [List.mapM_cons] at hm
  obtain ⟨y, hy, hm⟩ := Option.bind_eq_some_iff.1 hm
  obtain ⟨ys, hys, hm⟩ := Option.bind_eq_some_iff.1 hm
  cases hm
  rw [h1, h2, s.cells] at hy
  obtain ⟨x, hx, hb⟩ := s.read (d := y.1) (p := y.2) hy
  obtain ⟨z, hz, hc⟩ := r.read h3 (by omega) hys
  refine ⟨(x, z), ⟨_, _, ?_, hx, hz⟩, ?_⟩
  ·rw [<- List.drop_drop, List.take_add]
  ·simp only [List.map_cons, Rows.uptoBulkAll]; omega
def rH (t : TypeId) (r : Flds P α) {fs : Array Field} (hu : P.underlying t = some (.struct fs)) (hok : r.ok fs.toList 0) (hc : P.cellsOf t = r.n) : Shp P α where
 ty := t
 n := r.n
 At := r.At
 bulk := fun x => r.bulk x + 1
 cells := hc
 len := r.len
 kp := r.kp
 mono := r.mono
 read := fun {H enc w fuel cs d p} h => by
  cases fuel with
  | zero => simp [DataW.trod] at h
  | succ fuel =>
   unfold DataW.trod at h
   rw [hu] at h
   simp only at h
   split at h
   ·rename_i hl
    rw [hc] at hl
    obtain ⟨xs, hm, e⟩ := Option.map_eq_some_iff.1 h
    cases e
    obtain ⟨x, hx, hb⟩ := r.read hok (by omega) hm
    rw [List.drop_zero, <- hl, List.take_length] at hx
    exact ⟨x, hx, by simp only [Rows.uptoBulk]; omega⟩
   ·cases h
theorem Shp.arg (s : Shp P α) {H : Type} {enc : TypeId × Value -> H} {W : World} {v : Value} {d : DataW H} {p : List MemPlace} (h : DataW.Trod enc P W 0 (fun _ => true) true s.ty v d p) {N : Nat} (hN : Rows.uptoBulk d ≤ N) :
 ∃ x, s.At W (fun k => k < W.heap.size) v.cells.toList x /\ s.bulk x ≤ N := by
 obtain ⟨fuel, hf⟩ := h
 obtain ⟨x, hx, hb⟩ := s.read hf
 exact ⟨x, hx, Nat.le_trans hb hN⟩
end
section
variable {P : Program} {α β : Type}
theorem vT {t : TypeId} {s : Shp P α} (hu : P.underlying t = some (.slice s.ty)) (hc : P.cellsOf t = 1) (hn : 0 < s.n) {H : Type} {enc : TypeId × Value -> H} {W : World} {base : Nat} {v : Value} {d : DataW H} {p : List MemPlace}
 (hok : Value.okWide P W .any base t v) (h : DataW.Trod enc P W 0 (fun _ => true) true t v d p) {N : Nat} (hN : Rows.uptoBulk d ≤ N) :
 ∃ ao cap xs, v = .slice ao xs.length cap /\ xs.length ≤ cap /\ ElemsAt s W (fun k => k < W.heap.size) ao xs /\ lQ s.bulk xs + 1 ≤ N := by
 obtain ⟨ao, len, cap, rfl⟩ := okWide_slice hu hok
 obtain ⟨x, ⟨ao', cap', e, hl, _, hx⟩, hb⟩ := (aDl t s hu hc hn).arg h hN
 simp [Value.cells] at e
 obtain ⟨rfl, rfl, rfl⟩ := e
 exact ⟨ao, cap, x, rfl, hl, hx, hb⟩
theorem aDy {H : Type} {l : List (DataW H)} {N : Nat} (h : Rows.uptoBulkAll l ≤ N) {d : DataW H} (hd : d ∈ l) : Rows.uptoBulk d ≤ N := by
 induction l with
 | nil => cases hd
 | cons x l ih =>
  simp only [Rows.uptoBulkAll] at h
  rcases List.mem_cons.1 hd with rfl | hd
  ·omega
  ·exact ih (by omega) hd
end
end
section
open Go.RowKit
theorem qV (a b : ByteArray) : (a.toList == b.toList) = decide (a = b) := by
 rw [Bool.eq_iff_iff, beq_iff_eq, decide_eq_true_iff]
 refine ⟨fun h => ?_, fun h => by rw [h]⟩
 rw [ByteArray.toList_eq, ByteArray.toList_eq] at h
 exact ByteArray.ext (Array.toList_inj.1 h)
theorem jI {a b : ByteArray} (h : ¬ a = b) : (a.toList == b.toList) = false := by rw [qV, decide_eq_false h]
theorem str_eq (a : ByteArray) : (a.toList == a.toList) = true := by rw [qV, decide_eq_true rfl]
noncomputable def jN : Shp Tryz.prog aF := rH 58 (jX (iP 3 .i64 Tryz.underlying3 (by kernel_rfl)) (jX (aI3 9 Tryz.underlying9 (by kernel_rfl)) aHf)) (fs := _) Tryz.underlying58 ⟨_, _, rfl, rfl, rfl, _, _, rfl, rfl, rfl, rfl⟩ (by kernel_rfl)
noncomputable def aIe : Shp Tryz.prog (List aF) := aDl 38 jN Tryz.underlying38 (by kernel_rfl) (by decide)
noncomputable def aJg : Shp Tryz.prog aH6 := rH 40 (jX (aI3 9 Tryz.underlying9 (by kernel_rfl)) (jX aIe aHf)) (fs := _) Tryz.underlying40 ⟨_, _, rfl, rfl, rfl, _, _, rfl, rfl, rfl, rfl⟩ (by kernel_rfl)
noncomputable def xZ : Shp Tryz.prog aQ := rH 60 (jX (iP 3 .i64 Tryz.underlying3 (by kernel_rfl)) (jX aJg (jX (iP 3 .i64 Tryz.underlying3 (by kernel_rfl)) (jX jN (jX jN aHf))))) (fs := _) Tryz.underlying60 ⟨_, _, rfl, rfl, rfl, _, _, rfl, rfl, rfl, _, _, rfl, rfl, rfl, _, _, rfl, rfl, rfl, _, _, rfl, rfl, rfl, rfl⟩ (by kernel_rfl)
abbrev bD (w : World) (G : Nat -> Prop) (ao : Option Addr) (ts : List aF) : Prop := ElemsAt jN w G ao ts
abbrev dC (w : World) (G : Nat -> Prop) (ao : Option Addr) (ls : List aQ) : Prop := ElemsAt xZ w G ao ls
def gC (t : aF) : Prop := (Lit.int .i64 t.1).wf = true /\ t.2.1.size ≤ maxLen
theorem xV {w : World} {G : Nat -> Prop} {cs : List Value} {t : aF} (h : jN.At w G cs t) : gC t := by
 obtain ⟨a1, b1, e1, ⟨e2, h2⟩, ⟨a3, b3, e3, ⟨e4, h4⟩, e5⟩⟩ := h
 exact ⟨h2, h4⟩
theorem mS {w : World} {G : Nat -> Prop} {cs : List Value} {t : aF} (h : jN.At w G cs t) : cs = [.int .i64 t.1, .string t.2.1] := by
 obtain ⟨a1, b1, e1, ⟨e2, _⟩, ⟨a3, b3, e3, ⟨e4, _⟩, e5⟩⟩ := h
 rw [e2, e3, e4, e5] at e1; exact e1
theorem eF {w : World} {G : Nat -> Prop} {ao : Option Addr} {ts : List aF} (h : bD w G ao ts) {i : Nat} {t : aF} (hi : ts[i]? = some t) :
 ∃ b off, ao = some ⟨b, off, none⟩ /\ w.cell? ⟨b, off + i * 2, none⟩ = some (.int .i64 t.1) /\ w.cell? ⟨b, off + i * 2 + 1, none⟩ = some (.string t.2.1) /\ G b /\ b < w.heap.size := by
 obtain ⟨b, off, es, e, hG, hb, ha, hcell⟩ := h i t hi
 rw [mS ha] at hcell
 have h0 := hcell 0 (.int .i64 t.1) rfl
 have h1 := hcell 1 (.string t.2.1) rfl
 rw [show jN.n = 2 from rfl] at h0 h1
 exact ⟨b, off, e, by simpa using h0, by rw [Nat.add_assoc]; exact h1, hG, hb⟩
structure LitIn (w : World) (G : Nat -> Prop) (l : aQ) (ao : Option Addr) (cap : Nat) : Prop where
 terms : bD w G ao (aB l)
 len : (aB l).length ≤ cap
 cap : cap ≤ maxLen
 left : gC (leftOf l)
 right : gC (aU l)
theorem aEp {w : World} {G : Nat -> Prop} {cs : List Value} {l : aQ} (h : xZ.At w G cs l) : ∃ ao cap, LitIn w G l ao cap /\
 cs = [.int .i64 l.1, .string (bM l), .slice ao (aB l).length cap, .int .i64 (iA l), .int .i64 (leftOf l).1, .string (leftOf l).2.1, .int .i64 (aU l).1, .string (aU l).2.1] := by
 obtain ⟨a1, b1, e1, ⟨e2, _⟩, ⟨a3, b3, e3, h3, ⟨a4, b4, e4, ⟨e5, _⟩, ⟨a6, b6, e6, h6, ⟨a7, b7, e7, h7, e8⟩⟩⟩⟩⟩ := h
 obtain ⟨c1, d1, f1, ⟨f2, _⟩, ⟨c3, d3, f3, ⟨ao, cap, f4, g1, g2, g3⟩, f5⟩⟩ := h3
 refine ⟨ao, cap, ⟨g3, g1, g2, xV h6, xV h7⟩, ?_⟩
 rw [e1, e2, e3, f1, f2, f3, f4, f5, e4, e5, e6, mS h6, e7, mS h7, e8]
 rfl
theorem wU {w : World} {G : Nat -> Prop} {ao : Option Addr} {ls : List aQ} (h : dC w G ao ls) {i : Nat} {l : aQ} (hi : ls[i]? = some l) :
 ∃ b off a cap, ao = some ⟨b, off, none⟩ /\ G b /\ b < w.heap.size /\ LitIn w G l a cap /\
  w.cell? ⟨b, off + i * 8, none⟩ = some (.int .i64 l.1) /\ w.cell? ⟨b, off + i * 8 + 1, none⟩ = some (.string (bM l)) /\ w.cell? ⟨b, off + i * 8 + 2, none⟩ = some (.slice a (aB l).length cap) /\
  w.cell? ⟨b, off + i * 8 + 3, none⟩ = some (.int .i64 (iA l)) /\ w.cell? ⟨b, off + i * 8 + 4, none⟩ = some (.int .i64 (leftOf l).1) /\ w.cell? ⟨b, off + i * 8 + 5, none⟩ = some (.string (leftOf l).2.1) /\
  w.cell? ⟨b, off + i * 8 + 6, none⟩ = some (.int .i64 (aU l).1) /\ w.cell? ⟨b, off + i * 8 + 7, none⟩ = some (.string (aU l).2.1) := by
 obtain ⟨b, off, es, e, hG, hb, ha, hcell⟩ := h i l hi
 obtain ⟨a, cap, hl, ec⟩ := aEp ha
 rw [ec, show xZ.n = 8 from rfl] at hcell
 refine ⟨b, off, a, cap, e, hG, hb, hl, ?_, ?_, ?_, ?_, ?_, ?_, ?_, ?_⟩
 ·simpa using hcell 0 _ rfl
 all_goals rw [Nat.add_assoc]
 ·exact hcell 1 _ rfl
 ·exact hcell 2 _ rfl
 ·exact hcell 3 _ rfl
 ·exact hcell 4 _ rfl
 ·exact hcell 5 _ rfl
 ·exact hcell 6 _ rfl
 ·exact hcell 7 _ rfl
abbrev litV (k : Int) (p : ByteArray) (a : Option Addr) (n cap : Nat) (op lk : Int) (lt : ByteArray) (rk : Int) (rt : ByteArray) : Value := .agg #[.int .i64 k, .string p, .slice a n cap, .int .i64 op, .int .i64 lk, .string lt, .int .i64 rk, .string rt]
structure RuleAt (w : World) (G : Nat -> Prop) (r : cN) (ha : Option Addr) (hcap : Nat) (ba : Option Addr) (bcap : Nat) : Prop where
 head : bD w G ha r.1.2.1
 hlen : r.1.2.1.length ≤ hcap
 hmax : hcap ≤ maxLen
 body : dC w G ba r.2.1
 blen : r.2.1.length ≤ bcap
 bmax : bcap ≤ maxLen
abbrev eV (p : ByteArray) (ha : Option Addr) (hn hcap : Nat) (ba : Option Addr) (bn bcap : Nat) : Value := .agg #[.string p, .slice ha hn hcap, .slice ba bn bcap]
abbrev uE (k : Int) (s : ByteArray) : Value := .agg #[.int .i64 k, .string s]
def aI8 (f : FuncId) (first captured : Array Value) (w0 : World) (q : aF -> Bool) : Prop :=
 (∀ args w, (callFunc f args).run Tryz.prog w = .ok (Next.enter f args) w) /\ ∀ w, Ext w0 w -> ∀ (k : Int) (s : ByteArray), Calls Tryz.prog f (first.push (uE k s) ++ captured) w (RetN w fun w' v => v = .bool (q (k, s, ())))
def NoneT (w0 : World) (ts : List aF) (q : aF -> Bool) (n : Nat) (iv : Value) (w : World) : Prop := ∃ i : Nat, i ≤ n /\ iv = .int .i64 i /\ Hid (∀ (j : Nat) u, j < i -> ts[j]? = some u -> q u = false) /\ Hid (Ext w0 w)
theorem pI {α : Type} {l : List α} {q : α -> Bool} {n : Nat} (hn : n = l.length) (h : ∀ (j : Nat) u, j < n -> l[j]? = some u -> q u = false) : l.any q = false := by
 rw [List.any_eq_false]
 intro t ht
 obtain ⟨j, hj, rfl⟩ := List.mem_iff_getElem.1 ht
 rw [h j _ (by omega) (qG hj)]; decide
theorem lT {α : Type} {l : List α} {q : α -> Bool} {i : Nat} {u : α} (h : l[i]? = some u) (hq : q u = true) : l.any q = true := List.any_eq_true.2 ⟨u, List.mem_of_getElem? h, hq⟩
set_option maxHeartbeats 1000000 in
theorem aCe (ts : List aF) (ao : Option Addr) (n cap : Nat) (f : FuncId) (first captured : Array Value) (q : aF -> Bool) (w : World) (G : Nat -> Prop) (hn : n = ts.length) (h : bD w G ao ts) (hq : aI8 f first captured w q) (hl : n ≤ 4611686018427387904) :
 Calls Tryz.prog 62 #[.slice ao n cap, .func (Fn.func f) first captured] w (RetN w fun w' v => ∃ z : Int, v = .int .i64 z /\ decide (0 ≤ z) = ts.any q) := by
 have HN := qH hn; have HE := qH h; clear hn h
 have hent := hq.1
 have HQ := qH hq.2; clear hq
 go_enter Tryz.func62, Tryz.ntmps62
 go_wp2
 go_loopw [8] (fun iv wr => NoneT w ts q n iv wr) (fun iv _ => n - (intOf iv).toNat)
 case atStart => exact ⟨0, Nat.zero_le _, rfl, fun j u h => by omega, Kp.refl w⟩
 case round =>
  obtain ⟨i, hi, rfl, hno, hex⟩ := hrel
  by_cases hlt : i < n
  ·have hlt' : i < ts.length := by rw [<- HN.out]; exact hlt
   obtain ⟨t, ht⟩ : ∃ t, ts[i]? = some t := ⟨_, qG hlt'⟩
   obtain ⟨b, off, eao, hc0, hc1, _⟩ := eF (HE.out.ext hex.out) ht
   subst eao
   obtain ⟨k, s, ⟨⟩⟩ := t
   simp only at hc0 hc1
   have HC := qH (HQ.out wr hex.out k s)
   obtain ⟨r, er⟩ : ∃ r : Bool, q (k, s, ()) = r := ⟨_, rfl⟩
   rw [er] at HC
   have HT := qH (And.intro ht er)
   clear ht hlt' er
   cases r
   ·go_wp2_with fail
    refine HC.out.mono ?_
    rintro e w1 ⟨v, rfl, hk1, rfl⟩
    have HX := qH (hex.out.trans hk1); clear hk1 hc0 hc1
    go_wp2
    go_roundw
    case rel =>
     refine ⟨i + 1, by omega, by first | rfl | (congr 1; done) | (congr 1; omega), fun j u hj hu => ?_, HX⟩
     by_cases e : j = i
     ·subst e; rw [HT.out.1] at hu; cases hu; exact HT.out.2
     ·exact hno.out j u (by omega) hu
    case measure => simp [intOf]; omega
   ·go_wp2_with fail
    refine HC.out.mono ?_
    rintro e w1 ⟨v, rfl, hk1, rfl⟩
    have HX := qH (hex.out.trans hk1); clear hk1 hc0 hc1
    go_wp2
    go_ret
    exact RetN.mk HX.out ⟨i, rfl, by rw [lT HT.out.1 HT.out.2]; simp⟩
  ·go_wp2
   go_ret
   exact RetN.mk hex.out ⟨-1, rfl, by rw [pI HN.out fun j u hj => hno.out j u (by omega)]; decide⟩
theorem tV (ts : List aF) (ao : Option Addr) (n cap : Nat) (f : FuncId) (first captured : Array Value) (q : aF -> Bool) (w : World) (G : Nat -> Prop) (hn : n = ts.length) (h : bD w G ao ts) (hq : aI8 f first captured w q) (hl : n ≤ 4611686018427387904) :
 Calls Tryz.prog 110 #[.slice ao n cap, .func (Fn.func f) first captured] w (RetN w fun w' v => v = .bool (ts.any q)) := by
 have HI := qH (aCe ts ao n cap f first captured q w G hn h hq hl)
 clear hn h hq hl
 go_enter Tryz.func110, Tryz.ntmps110
 go_wp2_with fail
 refine HI.out.mono ?_
 rintro e w1 ⟨v, rfl, hk, z, rfl, hz⟩
 go_wp2
 go_ret
 exact RetN.mk hk (congrArg Value.bool (by first | exact hz | simp [<- hz]))
theorem wH (k : Int) (s : ByteArray) (w : World) : Calls Tryz.prog 195 #[uE k s] w (RetN w fun w' v => v = .bool (decide (k < 1 \/ 3 < k))) := by
 by_cases h1 : k < 1
 ·go_enter Tryz.func195, Tryz.ntmps195
  go_wp2
  go_ret
  exact RetN.mk ((Kp.refl w).alloc _) (by simp [h1])
 ·go_enter Tryz.func195, Tryz.ntmps195
  go_wp2
  go_ret
  exact RetN.mk ((Kp.refl w).alloc _) (by simp; omega)
theorem aEu (ts : List aF) (up : Int) : (!ts.any fun t => decide (t.1 < 1 \/ up < t.1)) = kinds ts up := by
 unfold kinds
 induction ts with
 | nil => rfl
 | cons t ts ih =>
  rw [List.any_cons, List.all_cons, <- ih, Bool.not_or]
  congr 1
  rw [<- decide_not]
  apply decide_eq_decide.2; omega
theorem rG (ts : List aF) (ao : Option Addr) (n cap : Nat) (w : World) (G : Nat -> Prop) (hn : n = ts.length) (h : bD w G ao ts) (hl : n ≤ 4611686018427387904) :
 Calls Tryz.prog 158 #[.slice ao n cap] w (RetN w fun w' v => v = .bool (kinds ts 3)) := by
 have HI := qH (tV ts ao n cap 195 #[] #[] (fun t => decide (t.1 < 1 \/ 3 < t.1)) w G hn h ⟨enters_of Tryz.func195 (by kernel_rfl) rfl, fun w' _ k s => wH k s w'⟩ hl)
 clear hn h hl
 go_enter Tryz.func158, Tryz.ntmps158
 go_wp2_with fail
 refine HI.out.mono ?_
 rintro e w1 ⟨v, rfl, hk, rfl⟩
 go_wp2
 go_ret
 exact RetN.mk hk (congrArg Value.bool (by rw [<- aEu ts 3]; simp))
def aJw (w0 : World) (ts : List aF) (n : Nat) (iv av : Value) (w : World) : Prop := ∃ i a : Nat, i ≤ n /\ a ≤ i /\ iv = .int .i64 i /\ av = .int .i64 a /\ Hid (kinds (ts.take i) 7 = true /\ a = qR (ts.take i)) /\ Hid (Ext w0 w)
theorem sD {ts : List aF} {i : Nat} {t : aF} (up : Int) (h : ts[i]? = some t) : kinds (ts.take (i + 1)) up = (kinds (ts.take i) up && decide (1 ≤ t.1 /\ t.1 ≤ up)) := by
 unfold kinds; rw [List.take_add_one, h, List.all_append]; simp
theorem vU {ts : List aF} {i : Nat} {t : aF} (h : ts[i]? = some t) : qR (ts.take (i + 1)) = qR (ts.take i) + if 4 ≤ t.1 then 1 else 0 := by
 unfold qR; rw [List.take_add_one, h, List.countP_append]
 congr 1
 by_cases h4 : 4 ≤ t.1 <;> simp [h4]
theorem pV {ts : List aF} {i : Nat} {t : aF} {up : Int} (h : ts[i]? = some t) (ht : ¬ (1 ≤ t.1 /\ t.1 ≤ up)) : kinds ts up = false := by
 unfold kinds
 rw [List.all_eq_false]
 exact ⟨t, List.mem_of_getElem? h, by simp only [decide_eq_true_eq]; exact ht⟩
set_option maxHeartbeats 1000000 in
theorem aG7 (ts : List aF) (ao : Option Addr) (n cap : Nat) (w : World) (G : Nat -> Prop) (hn : n = ts.length) (h : bD w G ao ts) (hl : n ≤ 1048576) :
 Calls Tryz.prog 105 #[.slice ao n cap] w (RetN w fun w' v => v = .bool (gR ts)) := by
 have HN := qH hn; have HE := qH h; clear hn h
 go_enter Tryz.func105, Tryz.ntmps105
 go_wp2
 go_loopw [8, 3] (fun iv av wr => aJw w ts n iv av wr) (fun iv _ _ => n - (intOf iv).toNat)
 case atStart => exact ⟨0, 0, Nat.zero_le _, Nat.le_refl _, rfl, rfl, ⟨rfl, rfl⟩, Kp.refl w⟩
 case round =>
  obtain ⟨i, a, hi, hai, rfl, rfl, hst, hex⟩ := hrel
  by_cases hlt : i < n
  ·have hlt' : i < ts.length := by rw [<- HN.out]; exact hlt
   obtain ⟨t, ht⟩ : ∃ t, ts[i]? = some t := ⟨_, qG hlt'⟩
   obtain ⟨b, off, eao, hc0, hc1, _⟩ := eF (HE.out.ext hex.out) ht
   subst eao
   obtain ⟨k, s, ⟨⟩⟩ := t
   simp only at hc0 hc1
   have HT := qH ht
   clear ht hlt'
   by_cases h1 : k < 1
   ·go_wp2
    go_ret
    exact RetN.mk (by first | exact hex.out.alloc _ | exact (hex.out.alloc _).drew) (by rw [gR, pV HT.out (up := 7) (by simp only; omega)]; rfl)
   ·by_cases h7 : 7 < k
    ·go_wp2
     go_ret
     exact RetN.mk (by first | exact hex.out.alloc _ | exact (hex.out.alloc _).drew) (by rw [gR, pV HT.out (up := 7) (by simp only; omega)]; rfl)
    ·by_cases h4 : 4 ≤ k
     ·go_wp2
      go_roundw
      case rel =>
       refine ⟨i + 1, a + 1, by omega, by omega, by first | rfl | (congr 1; done) | (congr 1; omega), by first | rfl | (congr 1; done) | (congr 1; omega), ⟨?_, ?_⟩, by first | exact hex.out.alloc _ | exact (hex.out.alloc _).drew⟩
       ·rw [sD 7 HT.out, hst.out.1]; simp; omega
       ·rw [vU HT.out, <- hst.out.2]; simp [h4]
      case measure => simp [intOf]; omega
     ·go_wp2
      go_roundw
      case rel =>
       refine ⟨i + 1, a, by omega, by omega, by first | rfl | (congr 1; done) | (congr 1; omega), by first | rfl | trivial, ⟨?_, ?_⟩, by first | exact hex.out.alloc _ | exact (hex.out.alloc _).drew⟩
       ·rw [sD 7 HT.out, hst.out.1]; simp; omega
       ·rw [vU HT.out, <- hst.out.2]; simp [h4]
      case measure => simp [intOf]; omega
  ·have e : ts.take i = ts := List.take_of_length_le (by have := HN.out; omega)
   have HS := qH (And.intro hst.out e)
   have HN2 := qH (show n = ts.length from HN.out)
   by_cases h2 : a < 2
   ·by_cases h64 : n ≤ 64
    ·have h64' : (n : Int) ≤ 64 := by omega
     go_wp2
     go_ret
     refine RetN.mk hex.out ?_
     obtain ⟨⟨g1, g2⟩, g3⟩ := HS.out
     rw [g3] at g1 g2
     have g4 := HN2.out
     unfold gR; rw [g1, <- g2, <- g4]; simp [h2, h64]
    ·have h64' : ¬ (n : Int) ≤ 64 := by omega
     go_wp2
     go_ret
     refine RetN.mk hex.out ?_
     obtain ⟨⟨g1, g2⟩, g3⟩ := HS.out
     rw [g3] at g1 g2
     have g4 := HN2.out
     unfold gR; rw [g1, <- g2, <- g4]; simp [h64]
   ·go_wp2
    go_ret
    refine RetN.mk hex.out ?_
    obtain ⟨⟨g1, g2⟩, g3⟩ := HS.out
    rw [g3] at g1 g2
    have g4 := HN2.out
    unfold gR; rw [g1, <- g2, <- g4]; simp [h2]
theorem aD6 (w : World) (k1 : Int) (s1 : ByteArray) (k2 : Int) (s2 : ByteArray) (h1 : (Lit.int .i64 k1).wf = true) (h2 : (Lit.int .i64 k2).wf = true) (g1 : s1.size ≤ maxLen) (g2 : s2.size ≤ maxLen) (e : TypeId) :
 bD (w.alloc (.cells #[.int .i64 k1, .string s1, .int .i64 k2, .string s2] e)) (fun _ => True) (some ⟨w.heap.size, 0, none⟩) [(k1, s1, ()), (k2, s2, ())] := by
 have hB := Blk.new w [.int .i64 k1, .string s1, .int .i64 k2, .string s2] e
 have hlt := hB.lt
 intro i x hx
 match i, hx with
 | 0, hx =>
  cases hx
  refine ⟨_, 0, [.int .i64 k1, .string s1], rfl, trivial, hlt, ⟨[.int .i64 k1], [.string s1], rfl, ⟨rfl, h1⟩, [.string s1], [], rfl, ⟨rfl, g1⟩, rfl⟩, fun c u hu => ?_⟩
  match c, hu with
  | 0, hu => cases hu; exact hB.cell 0 (by simp)
  | 1, hu => cases hu; exact hB.cell 1 (by simp)
 | 1, hx =>
  cases hx
  refine ⟨_, 0, [.int .i64 k2, .string s2], rfl, trivial, hlt, ⟨[.int .i64 k2], [.string s2], rfl, ⟨rfl, h2⟩, [.string s2], [], rfl, ⟨rfl, g2⟩, rfl⟩, fun c u hu => ?_⟩
  match c, hu with
  | 0, hu => cases hu; exact hB.cell 2 (by simp)
  | 1, hu => cases hu; exact hB.cell 3 (by simp)
structure LitFit (l : aQ) : Prop where
 left : (Lit.int .i64 (leftOf l).1).wf = true /\ (leftOf l).2.1.size ≤ maxLen
 right : (Lit.int .i64 (aU l).1).wf = true /\ (aU l).2.1.size ≤ maxLen
set_option maxHeartbeats 1000000 in
theorem zE (k : Int) (p : ByteArray) (ts : List aF) (a : Option Addr) (n cap : Nat) (op lk : Int) (lt : ByteArray) (rk : Int) (rt : ByteArray) (w : World) (G : Nat -> Prop) (hn : n = ts.length) (h : bD w G a ts) (hl : n ≤ 1048576)
 (g1 : (Lit.int .i64 lk).wf = true) (g2 : lt.size ≤ maxLen) (g3 : (Lit.int .i64 rk).wf = true) (g4 : rt.size ≤ maxLen) :
 Calls Tryz.prog 106 #[litV k p a n cap op lk lt rk rt] w (RetN w fun w' v => v = .bool (iU (k, (p, ts, ()), op, (lk, lt, ()), (rk, rt, ()), ()))) := by
 have HN := qH hn; have HE := qH h
 have HG := qH (And.intro (And.intro g1 g2) (And.intro g3 g4)); clear g1 g2 g3 g4
 have HS := qH (fun (W : World) (hW : Ext w W) => rG ts a n cap W G hn (h.ext hW) (by omega))
 clear hn h
 have pos : ∀ k, k = 1 \/ k = 2 -> iU (k, (p, ts, ()), op, (lk, lt, ()), (rk, rt, ()), ()) = (decide (ts.length ≤ 64) && kinds ts 3) := fun k hk => by unfold iU; rw [if_pos hk]
 have cmp : iU (3, (p, ts, ()), op, (lk, lt, ()), (rk, rt, ()), ()) = (decide (1 ≤ op /\ op ≤ 4) && kinds [(lk, lt, ()), (rk, rt, ())] 3) := by unfold iU; rw [if_neg (by rintro (h | h) <;> cases h), if_pos rfl]
 have HP := qH (And.intro pos cmp); clear pos cmp
 by_cases hk1 : k = 1 \/ k = 2
 ·by_cases h64 : n ≤ 64
  ·have h64' : (n : Int) ≤ 64 := by omega
   rcases hk1 with rfl | rfl
   all_goals
    go_enter Tryz.func106, Tryz.ntmps106
    go_wp2_with fail
    refine (HS.out _ ((Kp.refl w).alloc _)).mono ?_
    rintro e w1 ⟨v, rfl, hk, rfl⟩
    go_wp2
    go_ret
    refine RetN.mk (((Kp.refl w).alloc _).trans hk) ?_
    have g := HN.out
    rw [HP.out.1 _ (by first | exact .inl rfl | exact .inr rfl), <- g]; simp [h64]
  ·have h64' : ¬ (n : Int) ≤ 64 := by omega
   rcases hk1 with rfl | rfl
   all_goals
    go_enter Tryz.func106, Tryz.ntmps106
    go_wp2
    go_ret
    refine RetN.mk ((Kp.refl w).alloc _) ?_
    have g := HN.out
    rw [HP.out.1 _ (by first | exact .inl rfl | exact .inr rfl), <- g]; simp [h64]
 ·have n1 : k ≠ 1 := fun e => hk1 (.inl e)
  have n2 : k ≠ 2 := fun e => hk1 (.inr e)
  by_cases h3 : k = 3
  ·subst h3
   clear hk1 n1 n2
   by_cases o1 : 1 ≤ op
   ·by_cases o4 : op ≤ 4
    ·have HT := qH (fun (W : World) (g : Nat) (hg : g = W.heap.size) => rG [(lk, lt, ()), (rk, rt, ())] (some ⟨g, 0, none⟩) 2 2 _ _ rfl (hg ▸ aD6 W lk lt rk rt HG.out.1.1 HG.out.2.1 HG.out.1.2 HG.out.2.2 58) (by decide))
     go_enter Tryz.func106, Tryz.ntmps106
     go_wp2_with fail
     refine (HT.out _ _ (aK _ _).symm).mono ?_
     rintro e w1 ⟨v, rfl, hk, rfl⟩
     go_wp2
     go_ret
     refine RetN.mk ((((Kp.refl w).alloc _).alloc _).trans hk) ?_
     rw [HP.out.2, decide_eq_true (And.intro o1 o4)]; rfl
    ·go_enter Tryz.func106, Tryz.ntmps106
     go_wp2
     go_ret
     refine RetN.mk ((Kp.refl w).alloc _) ?_
     rw [HP.out.2, decide_eq_false (by omega)]; rfl
   ·go_enter Tryz.func106, Tryz.ntmps106
    go_wp2
    go_ret
    refine RetN.mk ((Kp.refl w).alloc _) ?_
    rw [HP.out.2, decide_eq_false (by omega)]; rfl
  ·go_enter Tryz.func106, Tryz.ntmps106
   go_wp2
   go_ret
   refine RetN.mk ((Kp.refl w).alloc _) ?_
   unfold iU; rw [if_neg hk1, if_neg h3]; rfl
def aJb (w0 : World) (ss : List ByteArray) (s : ByteArray) (n : Nat) (iv : Value) (w : World) : Prop := ∃ i : Nat, i ≤ n /\ iv = .int .i64 i /\ Hid (∀ (j : Nat) u, j < i -> ss[j]? = some u -> decide (u = s) = false) /\ Hid (Ext w0 w)
set_option maxHeartbeats 1000000 in
theorem aCf (ss : List ByteArray) (s : ByteArray) (ao : Option Addr) (n cap : Nat) (w : World) (hn : n = ss.length) (h : CellsAt w ao (strs ss)) (hl : n ≤ 4611686018427387904) :
 Calls Tryz.prog 114 #[.slice ao n cap, .string s] w (RetN w fun w' v => ∃ z : Int, v = .int .i64 z /\ decide (0 ≤ z) = iZ ss s) := by
 have HN := qH hn; have HE := qH h; clear hn h
 go_enter Tryz.func114, Tryz.ntmps114
 go_wp2
 go_loopw [8] (fun iv wr => aJb w ss s n iv wr) (fun iv _ => n - (intOf iv).toNat)
 case atStart => exact ⟨0, Nat.zero_le _, rfl, fun j u h => by omega, Kp.refl w⟩
 case round =>
  obtain ⟨i, hi, rfl, hno, hex⟩ := hrel
  by_cases hlt : i < n
  ·have hlt' : i < ss.length := by rw [<- HN.out]; exact hlt
   obtain ⟨b, off, eao, hc0⟩ := (HE.out.ext hex.out).str hlt'
   subst eao
   have ht : ss[i]? = some ss[i] := qG hlt'
   generalize ss[i] = u at *
   by_cases hu : s = u
   ·have HT := qH (And.intro ht hu)
    clear ht hlt'
    subst hu
    have hb := str_eq s
    go_wp2
    go_ret
    exact RetN.mk hex.out ⟨i, rfl, by unfold iZ; rw [lT HT.out.1 (by simp)]; simp⟩
   ·have HT := qH (And.intro ht hu)
    have hb := jI hu
    clear ht hlt' hu
    go_wp2
    go_roundw
    case rel =>
     refine ⟨i + 1, by omega, by first | rfl | (congr 1; done) | (congr 1; omega), fun j u hj hu => ?_, hex⟩
     by_cases e : j = i
     ·subst e; rw [HT.out.1] at hu; cases hu; exact decide_eq_false (fun e => HT.out.2 e.symm)
     ·exact hno.out j u (by omega) hu
    case measure => simp [intOf]; omega
  ·go_wp2
   go_ret
   exact RetN.mk hex.out ⟨-1, rfl, by unfold iZ; rw [pI HN.out fun j u hj => hno.out j u (by omega)]; decide⟩
theorem mL (ss : List ByteArray) (s : ByteArray) (ao : Option Addr) (n cap : Nat) (w : World) (hn : n = ss.length) (h : CellsAt w ao (strs ss)) (hl : n ≤ 4611686018427387904) :
 Calls Tryz.prog 109 #[.slice ao n cap, .string s] w (RetN w fun w' v => v = .bool (iZ ss s)) := by
 have HI := qH (aCf ss s ao n cap w hn h hl)
 clear hn h hl
 go_enter Tryz.func109, Tryz.ntmps109
 go_wp2_with fail
 refine HI.out.mono ?_
 rintro e w1 ⟨v, rfl, hk, z, rfl, hz⟩
 go_wp2
 go_ret
 exact RetN.mk hk (congrArg Value.bool (by first | exact hz | simp [<- hz]))
theorem pC (ao : Option Addr) (n cap : Nat) (w : World) (h : n ≤ cap) :
 Calls Tryz.prog 159 #[.slice ao n cap] w (RetN w fun w' v => v = .slice ao n n) := by
 have h1 : (n : Int) ≤ (cap : Int) := by omega
 go_enter Tryz.func159, Tryz.ntmps159
 go_wp2
 go_ret
 exact RetN.mk (Kp.refl _) (by first | rfl | simp)
theorem lE (s t : ByteArray) (w : World) : Calls Tryz.prog 269 #[.string s, .string t] w (Ret (.bool (Op.bytesLess s.toList t.toList)) w) := by
 cases h : Op.bytesLess s.toList t.toList
 ·go_enter Tryz.func269, Tryz.ntmps269
  go_wp2_with (go_at_call 220; (with_reducible refine (iY _ _).mono ?_); rintro e w' ⟨rfl, rfl⟩)
  go_ret
  exact Ret.mk rfl
 ·go_enter Tryz.func269, Tryz.ntmps269
  go_wp2_with (go_at_call 220; (with_reducible refine (iY _ _).mono ?_); rintro e w' ⟨rfl, rfl⟩)
  go_ret
  exact Ret.mk rfl
theorem sK (s : ByteArray) (w : World) : Calls Tryz.prog 270 #[.string s] w (Ret (.bool false) w) := by
 go_enter Tryz.func270, Tryz.ntmps270
 go_wp2
 go_ret
 exact Ret.mk (by simp)
theorem aIc {a b : ByteArray} (h : ¬ a = b) : (a.toList == b.toList) = false := by
 cases hb : (a.toList == b.toList) with
 | false => rfl
 | true => exact absurd (cY (eq_of_beq hb)) h
theorem aId (a : ByteArray) : (a.toList == a.toList) = true := by simp
def SeekB (xs : List ByteArray) (t : ByteArray) (n : Nat) (w0 : World) (iv jv : Value) (w : World) : Prop :=
 ∃ i j : Nat, i ≤ j /\ j ≤ n /\ iv = .int .i64 i /\ jv = .int .i64 j /\ Hid ((∀ x, 0 < i -> xs[i - 1]? = some x -> aZ x.toList t.toList < 0) /\ ∀ x, xs[j]? = some x -> 0 ≤ aZ x.toList t.toList) /\ Hid (Ext w0 w)
def aIz (xs : List ByteArray) (t : ByteArray) (n : Nat) (_ : World) (v : Value) : Prop := ∃ (i : Nat) (b : Bool), v = .tuple #[.int .i64 i, .bool b] /\ i ≤ n /\ (∀ x, 0 < i -> xs[i - 1]? = some x -> aZ x.toList t.toList < 0) /\ ∀ x, xs[i]? = some x -> 0 ≤ aZ x.toList t.toList
set_option maxHeartbeats 2000000 in
theorem kQ (xs : List ByteArray) (t : ByteArray) (ao : Option Addr) (n cap : Nat) (w : World) (hn : n = xs.length) (h : CellsAt w ao (strs xs)) (hl : n ≤ 4611686018427387904) :
 Calls Tryz.prog 259 #[.slice ao n cap, .string t] w (RetN w (aIz xs t n)) := by
 have HN := qH hn
 have HC := qH h
 clear hn h
 go_enter Tryz.func259, Tryz.ntmps259
 go_wp2
 go_loopw [7, 8] (fun iv jv wr => SeekB xs t n w iv jv wr) (fun iv jv _ => (intOf jv).toNat - (intOf iv).toNat)
 case atStart => exact ⟨0, n, Nat.zero_le _, Nat.le_refl _, rfl, rfl, qH ⟨fun x hx => by omega, fun x hx => by have := (List.getElem?_eq_some_iff.1 hx).1; have := HN.out; omega⟩, qH (Kp.refl _)⟩
 case round =>
  obtain ⟨i, j, hij, hj, rfl, rfl, hb, hex⟩ := hrel
  by_cases hlt : i < j
  ·obtain ⟨m, em⟩ : ∃ m, m = (i + j) / 2 := ⟨_, rfl⟩
   have rm : ((i : Int) + j) / 2 = (m : Int) := by omega
   have h1 : i ≤ m := by omega
   have h2 : m < j := by omega
   clear em
   obtain ⟨x, hx⟩ : ∃ x, xs[m]? = some x := ⟨_, qG (by have := HN.out; omega)⟩
   obtain ⟨bk, off, eao, c0⟩ := HC.out m (.string x) (by simp [strs, hx])
   subst eao
   replace c0 := hex.out.cell c0 id
   have HX := qH hx
   clear hx
   by_cases hc : Op.bytesLess x.toList t.toList = true
   ·have HL := qH (lE x t wr)
    rw [hc] at HL
    have HCm := qH (dS.2 hc)
    clear hc
    go_wp2_with fail
    refine HL.out.mono ?_
    rintro e w' ⟨rfl, rfl⟩
    go_wp2
    go_roundw
    case rel => exact ⟨m + 1, j, by omega, hj, by first | rfl | (congr 1; done) | (congr 1; omega), rfl, qH ⟨fun y _ hy => by rw [Nat.add_sub_cancel, HX.out] at hy; cases hy; exact HCm.out, hb.out.2⟩, hex⟩
    case measure => simp [intOf]; omega
   ·have HL := qH (lE x t wr)
    rw [Bool.not_eq_true] at hc
    rw [hc] at HL
    have HCm := qH (show 0 ≤ aZ x.toList t.toList from Int.not_lt.1 fun h => by rw [dS, hc] at h; cases h)
    clear hc
    go_wp2_with fail
    refine HL.out.mono ?_
    rintro e w' ⟨rfl, rfl⟩
    go_wp2
    go_roundw
    case rel => exact ⟨i, m, by omega, by omega, rfl, by first | rfl | (congr 1; done) | (congr 1; omega), qH ⟨hb.out.1, fun y hy => by rw [HX.out] at hy; cases hy; exact HCm.out⟩, hex⟩
    case measure => simp [intOf]; omega
  ·have eij : i = j := by omega
   subst eij
   by_cases hin : i < n
   ·obtain ⟨x, hx⟩ : ∃ x, xs[i]? = some x := ⟨_, qG (by have := HN.out; omega)⟩
    obtain ⟨bk, off, eao, c0⟩ := HC.out i (.string x) (by simp [strs, hx])
    subst eao
    replace c0 := hex.out.cell c0 id
    have HI := qH hij
    clear hx hij
    by_cases he : x = t
    ·subst he
     have hq := aId x
     go_wp2_with (go_at_call 270; (with_reducible refine (sK _ _).mono ?_); rintro e w' ⟨rfl, rfl⟩)
     go_ret2
     exact RetN.mk hex.out ⟨i, _, rfl, hj, hb.out.1, hb.out.2⟩
    ·have hq := aIc he
     clear he
     go_wp2_with (go_at_call 270; (with_reducible refine (sK _ _).mono ?_); rintro e w' ⟨rfl, rfl⟩)
     go_ret2
     exact RetN.mk hex.out ⟨i, _, rfl, hj, hb.out.1, hb.out.2⟩
   ·go_wp2
    go_ret2
    exact RetN.mk hex.out ⟨i, _, rfl, hj, hb.out.1, hb.out.2⟩
def tM (T : Nat -> Prop) (W W' : World) : Nat -> Prop := fun k => T k \/ (W.heap.size ≤ k /\ k < W'.heap.size)
def fU (Z T : Nat -> Prop) : Nat -> Prop := fun k => T k \/ Z k
def xK {α : Type} (F : Fence) (n : Nat) (P : Program) (g : Nat) (lb : Array Value) (encs : α -> Array Value) (Z : Nat -> Prop) (Gv : World -> (Nat -> Prop) -> World -> α -> Prop) (S Sp : List α -> Prop) (w : World) : Prop :=
 ∀ (l : Nat) (J Jx : (Nat -> Prop) -> List α -> World -> Prop) (W : World), Kp (fun k => ¬ Z k) w W ->
  (∀ T T' pre x W1 W2, J T pre W1 -> Kp T W1 W2 -> (∀ k, T' k -> tM T W1 W2 k) -> Gv W1 T' W2 x -> Sp (pre ++ [x]) -> YieldAt F (n - 1) P l (encs x) W2 fun e W' =>
   (e = .returned (.bool true) /\ J T' (pre ++ [x]) W' /\ Kp (fun k => ¬ fU Z T' k) W2 W') \/ (e = .returned (.bool false) /\ Jx T' (pre ++ [x]) W' /\ Kp (fun k => ¬ fU Z T' k) W2 W')) ->
  J (fun _ => False) [] W ->
  CallsIn F n P g (#[.func (.yield l) #[] #[]] ++ lb) W fun e W' => (∃ v, e = .returned v) /\ ∃ T W1, Kp T W1 W' /\ ((∃ xs, S xs /\ J T xs W1) \/ (∃ pre, Sp pre /\ Jx T pre W1))
def aJm : Exit -> Option (Option Code)
 | .normal => some none
 | .ret => some (some .ret)
 | .exit id => some (some (.exit id))
 | .goto t => some (some (.goto t))
 | .panic _ => none
 | .outgrown => none
def yR {α : Type} (Z : Nat -> Prop) (B : Nat) (T : Nat -> Prop) (I : (Nat -> Prop) -> List α -> World -> Prop) (Ix : Code -> (Nat -> Prop) -> List α -> World -> Prop) (xs : List α) (W : World) (e : Exit) (_ : Act) (W' : World) : Prop :=
 match aJm e with
 | some none => KeepsFrom B W W' /\ Kp (fun k => ¬ fU Z T k) W W' /\ I T xs W'
 | some (some c) => KeepsFrom B W W' /\ Kp (fun k => ¬ fU Z T k) W W' /\ Ix c T xs W'
 | none => False
structure BookT (b : Nat) (r : Loop) (T : Nat -> Prop) (W : World) : Prop where
 loop : W.heap[b + 1]? = some (.loop r)
 later : W.heap[b]? = some (.deferred (some []))
 off : ∀ k, T k -> k ≠ b /\ k ≠ b + 1
theorem BookT.lt {b : Nat} {r : Loop} {T : Nat -> Prop} {W : World} (h : BookT b r T W) : b + 1 < W.heap.size := (Array.getElem?_eq_some_iff.1 h.loop).1
theorem BookT.step {b : Nat} {r : Loop} {T T' : Nat -> Prop} {W W' : World} (h : BookT b r T W) (hs : Kp T W W') (hT : ∀ k, T' k -> tM T W W' k) : BookT b r T' W' := by
 have hl := h.lt
 refine ⟨(hs.block _ hl fun e => (h.off _ e).2 rfl).trans h.loop, (hs.block _ (by omega) fun e => (h.off _ e).1 rfl).trans h.later, fun k hk => ?_⟩
 rcases hT k hk with hk | hk
 ·exact h.off k hk
 ·omega
theorem Kp.putF {F : Nat -> Prop} {W : World} {l : Nat} (hF : F l) (o : Obj) : Kp F W (W.putObj l o) :=
 ⟨rfl, rfl, rfl, by simp [World.putObj], fun k hk hf => World.putObj_heap_other (fun e => hf (by rw [e]; exact hF))⟩
theorem BookT.set {Z : Nat -> Prop} {b : Nat} {r : Loop} {T : Nat -> Prop} {W : World} (h : BookT b r T W) (hZ : ∀ k, Z k -> k < b) (r' : Loop) : BookT b r' T (W.putObj (b + 1) (.loop r')) /\ Kp (fun k => ¬ fU Z T k) W (W.putObj (b + 1) (.loop r')) :=
 ⟨⟨World.putObj_heap_same h.lt, (World.putObj_heap_other (by omega)).trans h.later, h.off⟩, Kp.putF (fun hk => by
  rcases hk with hk | hk
  ·exact (h.off _ hk).2 rfl
  ·have := hZ _ hk; omega) _⟩
theorem BookT.keeps {b : Nat} {r : Loop} {T : Nat -> Prop} {W W' : World} {B : Nat} (h : BookT b r T W) (hB : B ≤ b) (hk : KeepsFrom B W W') : BookT b r T W' :=
 ⟨hk.same _ _ (by omega) h.loop rfl, hk.same _ _ hB h.later rfl, h.off⟩
theorem size_put (W : World) (l : Nat) (o : Obj) : (W.putObj l o).heap.size = W.heap.size := by
 simp [World.putObj]
theorem Kp.put {F : Nat -> Prop} {W W' : World} (h : Kp F W W') (l : Nat) (o : Obj) (hl : l < W.heap.size) : Kp F (W.putObj l o) (W'.putObj l o) := by
 refine ⟨h.os, h.tape, h.output, by rw [size_put, size_put]; exact h.size, fun k hk hf => ?_⟩
 rw [size_put] at hk
 by_cases e : k = l
 ·subst e
  rw [World.putObj_heap_same hl, World.putObj_heap_same (Nat.lt_of_lt_of_le hl h.size)]
 ·rw [World.putObj_heap_other e, World.putObj_heap_other e]
  exact h.block k hk hf
section
variable {F : Fence} {n : Nat} {P : Program}
theorem tO {α : Type} {g : Operand} {ps : Array Tmp} {assign body : Code} {Q : Exit -> Act -> World -> Prop} {a : Act} {w : World}
 (hro : F.round = none) (h1 : 1 ≤ n) {gf : Nat} {lb : Array Value} (hg : a.eval g = .func (.func gf) #[] lb) (hFg : F.fn gf) (eg : ∀ args w, (callFunc gf args).run P w = .ok (.enter gf args) w)
 {encs : α -> Array Value} {Z : Nat -> Prop} {Gv : World -> (Nat -> Prop) -> World -> α -> Prop} {S Sp : List α -> Prop} {w0 : World} (hseq : xK F (n - 1) P gf lb encs Z Gv S Sp w0) (hb0 : Kp (fun k => ¬ Z k) w0 w) (hZ : ∀ k, Z k -> k < w.heap.size) (hps : ∀ x, (encs x).size = ps.size)
 (hGv : ∀ T W1 W2 x l r o, Gv W1 T W2 x -> W2.heap[l]? = some r -> r.isCells = false -> Gv (W1.putObj l o) T (W2.putObj l o) x)
 (I : (Nat -> Prop) -> List α -> World -> Prop) (Ix : Code -> (Nat -> Prop) -> List α -> World -> Prop)
 (hIB : ∀ T s W l o o', I T s W -> ¬ T l -> w.heap.size ≤ l -> W.heap[l]? = some o -> o.isCells = false -> I T s (W.putObj l o'))
 (hIxB : ∀ c T s W l o o', Ix c T s W -> ¬ T l -> w.heap.size ≤ l -> W.heap[l]? = some o -> o.isCells = false -> Ix c T s (W.putObj l o'))
 (hIA : ∀ W o, I (fun _ => False) [] W -> I (fun _ => False) [] (W.alloc o)) (h0 : I (fun _ => False) [] w) (a₁ : α -> Act)
 (hassign : ∀ (l : Nat) (x : α) (W : World) (K : Act -> World -> Prop), K (a₁ x) W ->
  assign.wpIn (F.inRound l) (n - 1 - 1) P (Exit.then K (fun _ _ _ => False)) { tmps := (ps.zip (encs x)).foldl (fun t (p, v) => t.setIfInBounds p v) a.tmps, defers := [] } W)
 (hbody : ∀ (l : Nat) (T T' : Nat -> Prop) (pre : List α) (x : α) (W1 W : World), I T pre W1 -> (∀ k, T k -> k < W1.heap.size) -> Kp T W1 W -> (∀ k, T' k -> tM T W1 W k) -> Gv W1 T' W x -> Sp (pre ++ [x]) -> body.wpIn (F.inRound l) (n - 1 - 1) P (yR Z w.heap.size T' I Ix (pre ++ [x]) W) (a₁ x) W)
 (hdone : ∀ (D : Nat) (T : Nat -> Prop) (xs : List α) (W1 W : World), w.heap.size ≤ D -> S xs -> I T xs W1 -> (∀ k, T k -> k < W1.heap.size) -> Kp T W1 W -> W.heap[D]? = some (.deferred (some [])) -> Q .normal { a with defers := { target := .collected D, args := #[] } :: a.defers } W)
 (hstop : ∀ (D : Nat) (c : Code) (T : Nat -> Prop) (pre : List α) (W1 W : World), w.heap.size ≤ D -> Sp pre -> Ix c T pre W1 -> (∀ k, T k -> k < W1.heap.size) -> Kp T W1 W -> W.heap[D]? = some (.deferred (some [])) -> c.wpIn F n P Q { a with defers := { target := .collected D, args := #[] } :: a.defers } W) :
 (Code.rangeFunc g ps assign body).wpIn F n P Q a w := by
 refine wpIn_rangeFunc fun fn hfn => ?_
 rw [hro]
 obtain ⟨b, eb⟩ : ∃ b, w.heap.size = b := ⟨_, rfl⟩
 rw [eb] at hIB hIxB hbody hdone hstop hZ
 let rc (st : LoopState) (pe : Option Code) : Loop := { state := st, pending := pe, fn, tmps := a.tmps, params := ps, assign, body, defers := b }
 obtain ⟨W1, hW1⟩ : ∃ W1, (w.alloc (.deferred (some []))).alloc (.loop (rc .ready none)) = W1 := ⟨_, rfl⟩
 have hB1 : BookT b (rc .ready none) (fun _ => False) W1 := by
  refine ⟨?_, ?_, fun k hk => hk.elim⟩
  ·have h := World.alloc_heap_new (w.alloc (.deferred (some []))) (.loop (rc .ready none))
   rw [World.size_alloc, eb] at h
   rw [<- hW1]; exact h
  ·have h := World.alloc_heap_new w (.deferred (some []))
   rw [eb] at h
   rw [<- hW1, <- h]
   exact Below.heap_alloc _ _ _ (by rw [World.size_alloc]; omega)
 have hI1 : I (fun _ => False) [] W1 := by rw [<- hW1]; exact hIA _ _ (hIA _ _ h0)
 have hX1 : Kp (fun k => ¬ Z k) w0 W1 := by rw [<- hW1]; exact (hb0.alloc _).alloc _
 refine ⟨b + 1, [{ target := .collected b, args := #[] }], W1, { target := .fn (.func gf) lb, args := #[.func (.yield (b + 1)) #[] #[]] }, W1, gf, #[.func (.yield (b + 1)) #[] #[]] ++ lb, W1, ?_, ?_, ?_, ?_, fun _ => h1, ?_⟩
 ·have h := run_enterLoop_outer (P := P) (w := w) fn a.tmps ps assign body
  rw [eb] at h
  rw [<- hW1]; exact h
 ·simp only [resolve, hg]
  simp [go_sem]
 ·intro f' hf'
  simp [Target.leads] at hf'
  subst hf'; exact hFg
 ·simp [invoke, go_sem, eg]
 ·refine (hseq (b + 1) (fun T pre W => I T pre W /\ BookT b (rc .ready none) T W /\ ∀ k, T k -> k < W.heap.size) (fun T pre W => ∃ c, Ix c T pre W /\ BookT b (rc .done (some c)) T W /\ ∀ k, T k -> k < W.heap.size) W1 hX1 ?_ ⟨hI1, hB1, fun k hk => hk.elim⟩).mono ?_
  ·rintro T T' pre x V W ⟨hi, hbk0, hT0⟩ hkp hsub hgv hlen
   have hbk := hbk0.step hkp hsub
   have hT : ∀ k, T' k -> k < W.heap.size := fun k hk => by
    rcases hsub k hk with h | h
    ·exact Nat.lt_of_lt_of_le (hT0 k h) hkp.size
    ·exact h.2
   have hy := run_yield (P := P) (args := encs x) hbk.loop (by exact hps x)
   refine ⟨fn, _, assign, body, hy, roundIn_of_wpIn hfn (hassign _ x W _ ⟨_, run_beginRound hbk.loop rfl, ?_⟩)⟩
   obtain ⟨hbk2, hs2⟩ := hbk.set hZ { rc .ready none with state := .busy }
   have hi2 := hIB T pre V (b + 1) _ (.loop { rc .ready none with state := .busy }) hi (fun h => (hbk0.off _ h).2 rfl) (by omega) hbk0.loop rfl
   refine wpIn_mono (hbody _ T T' pre x _ _ hi2 (fun k hk => by rw [size_put]; exact hT0 k hk) (hkp.put _ _ hbk0.lt) (fun k hk => by
    rcases hsub k hk with h | h
    ·exact .inl h
    ·exact .inr (by rw [size_put, size_put]; exact h)) (hGv _ _ _ _ _ _ _ hgv hbk.loop rfl) hlen) ?_
   intro e a3 W3 hp
   unfold yR at hp
   have fin : ∀ (jump : Option Code), KeepsFrom b (W.putObj (b + 1) (.loop { rc .ready none with state := .busy })) W3 -> Kp (fun k => ¬ fU Z T' k) (W.putObj (b + 1) (.loop { rc .ready none with state := .busy })) W3 ->
    (Instr.endRound (b + 1) jump).run P W3 = .ok (.bool jump.isNone) (W3.putObj (b + 1) (.loop (rc (if jump.isNone then .ready else .done) jump))) /\
    BookT b (rc (if jump.isNone then .ready else .done) jump) T' (W3.putObj (b + 1) (.loop (rc (if jump.isNone then .ready else .done) jump))) /\
    Kp (fun k => ¬ fU Z T' k) W (W3.putObj (b + 1) (.loop (rc (if jump.isNone then .ready else .done) jump))) /\ W3.heap[b + 1]? = some (.loop { rc .ready none with state := .busy }) := fun jump hk hs => by
    have hbk3 := hbk2.keeps (Nat.le_refl b) hk
    obtain ⟨hbk4, hs4⟩ := hbk3.set hZ (rc (if jump.isNone then .ready else .done) jump)
    exact ⟨run_endRound jump hbk3.loop, hbk4, (hs2.trans hs).trans hs4, hbk3.loop⟩
   have leave : ∀ c : Code, KeepsFrom b (W.putObj (b + 1) (.loop { rc .ready none with state := .busy })) W3 /\ Kp (fun k => ¬ fU Z T' k) (W.putObj (b + 1) (.loop { rc .ready none with state := .busy })) W3 /\ Ix c T' (pre ++ [x]) W3 ->
    ∃ v w', (Instr.endRound (b + 1) (some c)).run P W3 = .ok v w' /\ ((Ending.returned v = .returned (.bool true) /\ (I T' (pre ++ [x]) w' /\ BookT b (rc .ready none) T' w' /\ ∀ k, T' k -> k < w'.heap.size) /\ Kp (fun k => ¬ fU Z T' k) W w') \/
     (Ending.returned v = .returned (.bool false) /\ (∃ c, Ix c T' (pre ++ [x]) w' /\ BookT b (rc .done (some c)) T' w' /\ ∀ k, T' k -> k < w'.heap.size) /\ Kp (fun k => ¬ fU Z T' k) W w')) := fun c ⟨hk, hs, hx⟩ => by
    obtain ⟨hr, hbk4, hs4, hl3⟩ := fin (some c) hk hs
    exact ⟨_, _, hr, .inr ⟨rfl, ⟨c, hIxB c T' _ W3 (b + 1) _ _ hx (fun h => (hbk.off _ h).2 rfl) (by omega) hl3 rfl, hbk4, fun k hk => Nat.lt_of_lt_of_le (hT k hk) hs4.size⟩, hs4⟩⟩
   cases e with
   | normal =>
    obtain ⟨hk, hs, hx⟩ := hp
    obtain ⟨hr, hbk4, hs4, hl3⟩ := fin none hk hs
    exact ⟨_, _, hr, .inl ⟨rfl, ⟨hIB T' _ W3 (b + 1) _ _ hx (fun h => (hbk.off _ h).2 rfl) (by omega) hl3 rfl, hbk4, fun k hk => Nat.lt_of_lt_of_le (hT k hk) hs4.size⟩, hs4⟩⟩
   | ret => exact leave _ hp
   | exit id => exact leave _ hp
   | goto t => exact leave _ hp
   | panic ch => exact hp.elim
   | outgrown => exact hp.elim
  ·rintro e W2 ⟨⟨v, rfl⟩, T, V, hkp, (⟨xs, hS, hi, hbk, hT⟩ | ⟨pre, hSp, c, hi, hbk, hT⟩)⟩
   ·have hbk2 := hbk.step (T' := T) hkp fun k hk => .inl hk
    refine ⟨none, _, run_endLoop hbk2.loop (by simp [rc]), ?_⟩
    exact hdone b T xs _ _ (Nat.le_refl _) hS (hIB T _ V (b + 1) _ _ hi (fun h => (hbk.off _ h).2 rfl) (by omega) hbk.loop rfl) (fun k hk => by rw [size_put]; exact hT k hk) (hkp.put _ _ hbk.lt) ((World.putObj_heap_other (by omega)).trans hbk2.later)
   ·have hbk2 := hbk.step (T' := T) hkp fun k hk => .inl hk
    refine ⟨some c, _, run_endLoop hbk2.loop (by simp [rc]), ?_⟩
    exact hstop b c T pre _ _ (Nat.le_refl _) hSp (hIxB c T _ V (b + 1) _ _ hi (fun h => (hbk.off _ h).2 rfl) (by omega) hbk.loop rfl) (fun k hk => by rw [size_put]; exact hT k hk) (hkp.put _ _ hbk.lt) ((World.putObj_heap_other (by omega)).trans hbk2.later)
end
theorem aE2 : cP Tryz.prog 66 9 1 16 (.string ⟨#[]⟩) := ⟨by kernel_rfl, by kernel_rfl, rfl, by decide⟩
theorem aA3 (a : List ByteArray) (t : aF) : (bG a t).length ≤ a.length + 1 /\ a.length ≤ (bG a t).length := by
 unfold bG; split <;> simp
theorem mT : ∀ (ts : List aF) (a : List ByteArray), (cJ a ts).length ≤ a.length + ts.length
 | [], a => by simp [cJ]
 | t :: ts, a => by
  have := mT ts (bG a t)
  have := (aA3 a t).1
  unfold cJ at *
  rw [List.foldl_cons]; simp only [List.length_cons]; omega
theorem aB6 (a : List ByteArray) (l : aQ) : (bY a l).length ≤ a.length + (aB l).length := by
 unfold bY; split
 ·exact mT _ _
 ·omega
theorem rW (M : Nat) : ∀ (ls : List aQ) (a : List ByteArray), (∀ l ∈ ls, (aB l).length ≤ M) -> (ls.foldl bY a).length ≤ a.length + ls.length * M
 | [], a, _ => by simp
 | l :: ls, a, h => by
  have h1 := rW M ls (bY a l) fun x hx => h x (List.mem_cons_of_mem _ hx)
  have h2 := aB6 a l
  have h3 := h l List.mem_cons_self
  rw [List.foldl_cons, List.length_cons, Nat.succ_mul]; omega
theorem rX {M : Nat} {ls : List aQ} (h : ∀ l ∈ ls, (aB l).length ≤ M) : (aA ls).length ≤ ls.length * M := by
 have := rW M ls [] h; unfold aA; simpa using this
def cG (a : List ByteArray) (l : aQ) (c : Nat) : List ByteArray := if l.1 = 1 then cJ a ((aB l).take c) else a
theorem wQ (a : List ByteArray) (l : aQ) : cG a l 0 = a := by unfold cG; split <;> rfl
theorem zB (a : List ByteArray) (l : aQ) {c : Nat} (h : (aB l).length ≤ c) : cG a l c = bY a l := by
 unfold cG bY; rw [List.take_of_length_le h]
theorem wR (a : List ByteArray) {l : aQ} {c : Nat} {t : aF} (h : (aB l)[c]? = some t) : cG a l (c + 1) = if l.1 = 1 /\ t.1 = 1 /\ iZ (cG a l c) t.2.1 = false then cG a l c ++ [t.2.1] else cG a l c := by
 unfold cG
 by_cases h1 : l.1 = 1
 ·simp only [h1, true_and]
  unfold cJ
  rw [vF _ _ h]
  rfl
 ·simp only [h1, false_and, if_false]
theorem zA (a : List ByteArray) (l : aQ) (c : Nat) : (cG a l c).length ≤ a.length + c := by
 unfold cG; split
 ·have := mT ((aB l).take c) a
  rw [List.length_take] at this; omega
 ·omega
theorem Row.old {w : World} {e : TypeId} {k : Nat} {v : Value} {n : Nat} {xs : List Value} {M : Nat -> Prop} (h : Row w e k v n xs M) : Row w e k v n xs (fun g => M g /\ g < w.heap.size) := by
 obtain ⟨h1, h2 | ⟨g, cap, rest, a, b, c, d⟩⟩ := h
 ·exact ⟨h1, .inl h2⟩
 ·exact ⟨h1, .inr ⟨g, cap, rest, a, ⟨b, c.lt⟩, c, d⟩⟩
theorem Row.beside {w w' : World} {e : TypeId} {k : Nat} {v : Value} {n : Nat} {xs : List Value} {M : Nat -> Prop} (h : Row w e k v n xs M) (hx : Ext w w') : Row w' e k v n xs (fun g => M g /\ g ≠ w.heap.size) :=
 (h.old.ext hx).mono fun g hg => ⟨hg.1, by omega⟩
theorem uH (ss : List ByteArray) (s : ByteArray) : strs ss ++ [.string s] = strs (ss ++ [s]) := by simp [strs]
structure Fit (ls : List aQ) : Prop where
 len : ls.length ≤ 1048576
 terms : ∀ l ∈ ls, (aB l).length ≤ 1048576
def aIy (w0 : World) (ls : List aQ) (n : Nat) (iv ov : Value) (w : World) : Prop := ∃ i : Nat, i ≤ n /\ iv = .int .i64 i /\ Hid (Row w 9 1 ov (aA (ls.take i)).length (strs (aA (ls.take i))) (New w0)) /\ Hid (Ext w0 w)
def aJt (w0 : World) (a : List ByteArray) (l : aQ) (g : Nat) (cs : List Value) (m : Nat) (iv ov : Value) (w : World) : Prop := ∃ i : Nat, i ≤ m /\ iv = .int .i64 i /\ Hid (Row w 9 1 ov (cG a l i).length (strs (cG a l i)) (fun k => New w0 k /\ k ≠ g)) /\ Hid (Ext w0 w) /\ Hid (Blk w g cs 60)
def OwnSl (w0 w : World) (v : Value) (ss : List ByteArray) : Prop := ∃ a cap, v = .slice a ss.length cap /\ (a = none /\ ss = [] /\ cap = 0 \/ ∃ g rest, a = some ⟨g, 0, none⟩ /\ Blk w g (strs ss ++ rest) 9 /\ ss.length ≤ cap /\ cap ≤ (strs ss ++ rest).length /\ cap ≤ maxLen /\ w0.heap.size ≤ g)
theorem OwnSl.ext {w0 w w' : World} {v : Value} {ss : List ByteArray} (h : OwnSl w0 w v ss) (hk : Ext w w') : OwnSl w0 w' v ss := by
 obtain ⟨a, cap, e, h | ⟨g, rest, h1, h2, h3⟩⟩ := h
 ·exact ⟨a, cap, e, .inl h⟩
 ·exact ⟨a, cap, e, .inr ⟨g, rest, h1, h2.ext hk, h3⟩⟩
theorem OwnSl.old {w0 w1 w : World} {v : Value} {ss : List ByteArray} (h : OwnSl w1 w v ss) (hs : w0.heap.size ≤ w1.heap.size) : OwnSl w0 w v ss := by
 obtain ⟨a, cap, e, h | ⟨g, rest, h1, h2, h3, h4, h5, h6⟩⟩ := h
 ·exact ⟨a, cap, e, .inl h⟩
 ·exact ⟨a, cap, e, .inr ⟨g, rest, h1, h2, h3, h4, h5, Nat.le_trans hs h6⟩⟩
theorem Row.own' {w0 w : World} {v : Value} {ss : List ByteArray} (h : Row w 9 1 v ss.length (strs ss) (New w0)) : OwnSl w0 w v ss := by
 obtain ⟨h1, ⟨e, h0⟩ | ⟨g, cap, rest, e, hM, hB, hl, hc, hm⟩⟩ := h
 ·exact ⟨none, 0, by rw [e, h0], .inl ⟨rfl, List.eq_nil_of_length_eq_zero h0, rfl⟩⟩
 ·exact ⟨_, cap, e, .inr ⟨g, rest, rfl, hB, hc, by omega, hm, hM⟩⟩
theorem OwnSl.clip {w0 w : World} {a : Option Addr} {n cap : Nat} {ss : List ByteArray} (h : OwnSl w0 w (.slice a n cap) ss) : OwnSl w0 w (.slice a n n) ss := by
 obtain ⟨a', cap', e, h | ⟨g, rest, h1, h2, h3, h4, h5, h6⟩⟩ := h
 ·cases e
  obtain ⟨rfl, rfl, rfl⟩ := h
  exact ⟨none, 0, rfl, .inl ⟨rfl, rfl, rfl⟩⟩
 ·cases e
  exact ⟨a, _, rfl, .inr ⟨g, rest, h1, h2, Nat.le_refl _, by omega, by omega, h6⟩⟩
set_option maxHeartbeats 4000000 in
theorem xO (p : ByteArray) (ha : Option Addr) (hn hcap : Nat) (ls : List aQ) (ba : Option Addr) (n bcap : Nat) (w : World) (G : Nat -> Prop) (hbn : n = ls.length) (h : dC w G ba ls) (hf : Fit ls) :
 Calls Tryz.prog 107 #[eV p ha hn hcap ba n bcap] w (RetN w fun w' v => ∃ ao cap, v = .slice ao (aA ls).length cap /\ (aA ls).length ≤ cap /\ CellsAt w' ao (strs (aA ls)) /\ cap = (aA ls).length /\ OwnSl w w' v (aA ls)) := by
 have HN := qH hbn; have HE := qH h; have HF := qH hf; have hl : n ≤ 1048576 := by have := hf.len; omega
 clear hbn h hf
 go_enter Tryz.func107, Tryz.ntmps107
 go_wp2
 go_loopw [11, 3] (fun iv ov wr => aIy w ls n iv ov wr) (fun iv _ _ => n - (intOf iv).toNat)
 case atStart => exact ⟨0, Nat.zero_le _, rfl, Row.nil _ _ _ _, (Kp.refl w).alloc _⟩
 case round =>
  obtain ⟨i, hi, rfl, hrow, hex⟩ := hrel
  by_cases hlt : i < n
  ·have hlt' : i < ls.length := by rw [<- HN.out]; exact hlt
   obtain ⟨l, hli⟩ : ∃ l, ls[i]? = some l := ⟨_, qG hlt'⟩
   obtain ⟨b, off, a, cap, eao, hG, hb, hL, c0, c1, c2, c3, c4, c5, c6, c7⟩ := wU HE.out hli
   subst eao
   replace c0 := hex.out.cell c0 id
   replace c1 := hex.out.cell c1 id
   replace c2 := hex.out.cell c2 id
   replace c3 := hex.out.cell c3 id
   replace c4 := hex.out.cell c4 id
   replace c5 := hex.out.cell c5 id
   replace c6 := hex.out.cell c6 id
   replace c7 := hex.out.cell c7 id
   obtain ⟨m, em⟩ : ∃ m, m = (aB l).length := ⟨_, rfl⟩
   rw [<- em] at c2
   have hm : m ≤ 1048576 := by rw [em]; exact HF.out.terms l (List.mem_of_getElem? hli)
   have HL := qH (And.intro hli (And.intro hL em))
   clear hli hlt' hL em hG hb
   obtain ⟨k, ek⟩ : ∃ k, l.1 = k := ⟨_, rfl⟩
   rw [ek] at c0
   generalize bM l = s1 at c1
   generalize iA l = s3 at c3
   generalize (leftOf l).1 = s4 at c4
   generalize (leftOf l).2.1 = s5 at c5
   generalize (aU l).1 = s6 at c6
   generalize (aU l).2.1 = s7 at c7
   have HK := qH ek; clear ek
   go_wp2
   obtain ⟨wb, eb⟩ : ∃ wb, wr.alloc (.cells #[.int .i64 k, .string s1, .slice a m cap, .int .i64 s3, .int .i64 s4, .string s5, .int .i64 s6, .string s7] 60) = wb := ⟨_, rfl⟩
   rw [eb]
   have hB : Blk wb wr.heap.size [.int .i64 k, .string s1, .slice a m cap, .int .i64 s3, .int .i64 s4, .string s5, .int .i64 s6, .string s7] 60 := by rw [<- eb]; exact Blk.new wr [_, _, _, _, _, _, _, _] _
   have hx : Ext wr wb := by rw [<- eb]; exact (Kp.refl wr).alloc _
   have hrow2 : Row wb 9 1 u3 (cG (aA (ls.take i)) l 0).length (strs (cG (aA (ls.take i)) l 0)) (fun k => New w k /\ k ≠ wr.heap.size) := by
    rw [wQ]
    exact hrow.out.beside hx
   have HX := qH (hex.out.trans hx)
   have HB := qH hB
   have HR := qH hrow2
   have hnew : New w wr.heap.size := hex.out.size
   have HW := qH (And.intro hnew (Nat.lt_of_lt_of_le (Nat.lt_succ_self _) (by rw [<- eb, aK]; exact Nat.le_refl _) : wr.heap.size < wb.heap.size))
   have d0 : wb.cell? ⟨wr.heap.size, 2, none⟩ = some (.slice a m cap) := by rw [hB.cell']; rfl
   obtain ⟨g, eg⟩ : ∃ g, g = wr.heap.size := ⟨_, rfl⟩
   rw [<- eg] at HB HR HW d0
   have hlt2 : (i : Int) < (n : Int) := by omega
   clear hB hrow2 hx eb hnew c0 c1 c2 c3 c4 c5 c6 c7
   rw [<- eg]
   clear eg
   go_wp2
   clear d0
   go_loopw [19, 3] (fun iv ov wr => aJt w (aA (ls.take i)) l g [.int .i64 k, .string s1, .slice a m cap, .int .i64 s3, .int .i64 s4, .string s5, .int .i64 s6, .string s7] m iv ov wr) (fun iv _ _ => m - (intOf iv).toNat)
   case atStart => exact ⟨0, Nat.zero_le _, rfl, HR.out, HX.out, HB.out⟩
   case round =>
    obtain ⟨j, hj, rfl, hrow3, hex3, hblk3⟩ := hrel
    by_cases hlt3 : j < m
    ·have hlt4 : j < (aB l).length := by rw [<- HL.out.2.2]; exact hlt3
     obtain ⟨t, ht⟩ : ∃ t, (aB l)[j]? = some t := ⟨_, qG hlt4⟩
     obtain ⟨b2, off2, eao2, f0, f1, _⟩ := eF (HL.out.2.1.terms.ext hex3.out) ht
     subst eao2
     obtain ⟨kt, st, ⟨⟩⟩ := t
     simp only at f0 f1
     have hs := wR (aA (ls.take i)) ht
     have HT := qH hs
     clear ht hlt4 hs
     have e0 : (wr.alloc (.cells #[.int .i64 kt, .string st] 58)).cell? ⟨g, 0, none⟩ = some (.int .i64 k) := by rw [(hblk3.out.alloc _).cell']; rfl
     have hlen : (cG (aA (ls.take i)) l j).length ≤ 1099513724928 := by
      have h1 := zA (aA (ls.take i)) l j
      have h2 : (aA (ls.take i)).length ≤ (ls.take i).length * 1048576 := rX fun x hx => HF.out.terms x (List.mem_of_mem_take hx)
      rw [List.length_take] at h2
      omega
     generalize eN : cG (aA (ls.take i)) l j = N at *
     by_cases h1 : k = 1
     ·subst h1
      by_cases h2 : kt = 1
      ·subst h2
       have hrow4 := hrow3.out
       obtain ⟨ao, cap4, eov, hcells, hle⟩ := hrow4.shape
       subst eov
       have HS := qH (fun (W : World) (hW : Ext wr W) => mL N st ao N.length cap4 W rfl (hcells.ext hW) (by omega))
       have HR4 := qH hrow4
       clear hcells hrow4 hrow3
       go_wp2_with fail
       refine (HS.out _ ((Kp.refl _).alloc _)).mono ?_
       rintro e w1 ⟨v, rfl, hk1, rfl⟩
       have bb := Blk.new wr [.int .i64 1, .string st] 58
       have f2 : w1.cell? ⟨wr.heap.size, 1, none⟩ = some (.string st) := by rw [(bb.ext hk1).cell']; rfl
       have HE1 := qH (((Kp.refl _).alloc _).trans hk1)
       clear hk1 bb
       cases hh : iZ N st
       ·have HT2 := qH (HT.out.trans (if_pos ⟨HK.out, by first | rfl | trivial, hh⟩))
        go_wp2_with (first | (at_builtin; refine Halted.out ?_))
        refine Halted.mk (aA9 aE2 rfl _ _ rfl ((hex3.out.trans HE1.out).alloc _) (fun q h1 h2 => absurd h2 (Nat.not_lt.2 h1.1)) (fun q h1 => ?_) rfl ((HR4.out.ext HE1.out).alloc _) rfl (by rfl) (CellsAt.one _ _ _) (by simp [Value.oneCell']) (by omega) (by unfold maxLen; omega) ?_)
        ·have a1 := hex3.out.size
         have a2 := HE1.out.size
         have a3 := hblk3.out.lt
         rw [aK] at h1
         exact ⟨by unfold New; omega, by omega⟩
        ·intro v1 w2 hr1 hk1 hk2 _
         have hk3 := hk2
         have hb2 : Blk w2 g _ _ := ((hblk3.out.ext HE1.out).alloc _).kp hk2 (fun e => absurd rfl (HR4.out.block g e).2)
         have HR5 := qH (And.intro hr1 (And.intro hk1 hb2))
         clear hr1 hk1 hk2 hk3 hb2
         go_wp2
         go_roundw
         case rel =>
          refine ⟨j + 1, by omega, by first | rfl | (congr 1; done) | (congr 1; omega), ?_, HR5.out.2.1, HR5.out.2.2⟩
          have h := HR5.out.1
          rw [HT2.out, <- uH, List.length_append]
          exact h
         case measure => simp [intOf]; omega
       ·have HT2 := qH (HT.out.trans (if_neg fun x => by rw [hh] at x; cases x.2.2))
        go_wp2
        go_roundw
        case rel =>
         exact ⟨j + 1, by omega, by first | rfl | (congr 1; done) | (congr 1; omega), by rw [HT2.out]; exact HR4.out.ext HE1.out, hex3.out.trans HE1.out, hblk3.out.ext HE1.out⟩
        case measure => simp [intOf]; omega
      ·have HT2 := qH (HT.out.trans (if_neg fun x => h2 x.2.1))
       have b2 : (kt == 1) = false := by simp [h2]
       go_wp2
       go_roundw
       case rel =>
        exact ⟨j + 1, by omega, by first | rfl | (congr 1; done) | (congr 1; omega), by rw [HT2.out]; exact hrow3.out.alloc _, hex3.out.alloc _, hblk3.out.alloc _⟩
       case measure => simp [intOf]; omega
     ·have HT2 := qH (HT.out.trans (if_neg fun x => h1 (HK.out.symm.trans x.1)))
      have b2 : (k == 1) = false := by simp [h1]
      go_wp2
      go_roundw
      case rel =>
       exact ⟨j + 1, by omega, by first | rfl | (congr 1; done) | (congr 1; omega), by rw [HT2.out]; exact hrow3.out.alloc _, hex3.out.alloc _, hblk3.out.alloc _⟩
      case measure => simp [intOf]; omega
    ·have HA := qH (zB (aA (ls.take i)) l (c := j) (by have := HL.out.2.2; omega))
     go_wp2
     go_roundw
     case rel =>
      refine ⟨i + 1, by omega, by first | rfl | (congr 1; done) | (congr 1; omega), ?_, hex3⟩
      have h := hrow3.out
      have e : aA (ls.take (i + 1)) = bY (aA (ls.take i)) l := vF _ _ HL.out.1
      rw [HA.out, <- e] at h
      exact h.mono fun _ x => x.1
     case measure => simp [intOf]; omega
  ·have e : ls.take i = ls := List.take_of_length_le (by have := HN.out; omega)
   have hrow4 := hrow.out
   rw [e] at hrow4
   obtain ⟨ao, cap4, eov, hcells, hle⟩ := hrow4.shape
   subst eov
   have HS := qH (fun (W : World) => pC ao (aA ls).length cap4 W hle)
   have HC := qH (And.intro hcells hrow4.own')
   clear hcells hrow4 hrow hle e
   go_wp2_with fail
   refine (HS.out _).mono ?_
   rintro e w1 ⟨v, rfl, hk1, rfl⟩
   go_wp2
   go_ret
   exact RetN.mk (hex.out.trans hk1) ⟨ao, _, rfl, Nat.le_refl _, HC.out.1.ext hk1, rfl, (HC.out.2.ext hk1).clip⟩
theorem rC (p : ByteArray) (ha : Option Addr) (hn hcap : Nat) (ls : List aQ) (ba : Option Addr) (n bcap : Nat) (w : World) (G : Nat -> Prop) (hbn : n = ls.length) (h : dC w G ba ls) (hf : Fit ls) :
 Calls Tryz.prog 107 #[eV p ha hn hcap ba n bcap] w (RetN w fun w' v => ∃ ao cap, v = .slice ao (aA ls).length cap /\ (aA ls).length ≤ cap /\ CellsAt w' ao (strs (aA ls))) := by
 refine (xO p ha hn hcap ls ba n bcap w G hbn h hf).mono ?_
 rintro e w' ⟨v, rfl, hk, ao, cap, h1, h2, h3, -⟩
 exact RetN.mk hk ⟨ao, cap, h1, h2, h3⟩
theorem aF8 (N : List ByteArray) (ao : Option Addr) (m cap gb : Nat) (k : Int) (s : ByteArray) (blank : Bool) (w : World) (hm : m = N.length) (hc : w.cell? ⟨gb, 0, none⟩ = some (.slice ao m cap)) (h : CellsAt w ao (strs N)) (hl : m ≤ 4611686018427387904) :
 Calls Tryz.prog 108 #[uE k s, .bool blank, .pointer (some ⟨gb, 0, none⟩)] w (RetN w fun w' v => v = .bool (cZ N blank (k, s, ()))) := by
 by_cases h2 : k = 2
 ·subst h2
  go_enter Tryz.func108, Tryz.ntmps108
  go_wp2
  go_ret
  exact RetN.mk ((Kp.refl w).alloc _) (by unfold cZ; simp)
 ·have b2 : (k == 2) = false := by simp [h2]
  by_cases h34 : k = 3 \/ k = 4
  ·rcases h34 with rfl | rfl
   all_goals
    clear h2 b2
    go_enter Tryz.func108, Tryz.ntmps108
    go_wp2
    go_ret
    exact RetN.mk ((Kp.refl w).alloc _) (by unfold cZ; simp)
  ·have b3 : (k == 3) = false := by simp; exact fun e => h34 (.inl e)
   have b4 : (k == 4) = false := by simp; exact fun e => h34 (.inr e)
   have HS := qH (fun (W : World) (hW : Ext w W) => mL N s ao m cap W hm (h.ext hW) hl)
   have e0 : (w.alloc (.cells #[.int .i64 k, .string s] 58)).cell? ⟨gb, 0, none⟩ = some (.slice ao m cap) := ((Kp.refl (F := fun _ => False) w).alloc _).cell hc id
   have HH := qH (And.intro h2 h34); clear h2 h34 h hm hc
   go_enter Tryz.func108, Tryz.ntmps108
   go_wp2_with fail
   refine (HS.out _ ((Kp.refl _).alloc _)).mono ?_
   rintro e w1 ⟨v, rfl, hk1, rfl⟩
   go_wp2
   go_ret
   refine RetN.mk (((Kp.refl w).alloc _).trans hk1) ?_
   obtain ⟨h2, h34⟩ := HH.out
   show Value.bool (iZ N s) = _
   refine congrArg Value.bool ?_
   unfold cZ
   rw [if_neg h2]
   cases hh : iZ N s
   ·symm; apply decide_eq_false; rintro (x | x | x)
    ·exact h34 (.inl x)
    ·exact h34 (.inr x)
    ·cases x
   ·symm; exact decide_eq_true (.inr (.inr rfl))
def aA7 (w0 : World) {α : Type} (xs : List α) (q : α -> Bool) (n : Nat) (iv : Value) (w : World) : Prop := ∃ i : Nat, i ≤ n /\ iv = .int .i64 i /\ Hid ((xs.take i).all q = true) /\ Hid (Ext w0 w)
theorem fQ {α : Type} {q : α -> Bool} {xs : List α} {i : Nat} {x : α} (h : xs[i]? = some x) : (xs.take (i + 1)).all q = ((xs.take i).all q && q x) := by
 rw [List.take_add_one, h, List.all_append]; simp
theorem lU {α : Type} {q : α -> Bool} {xs : List α} {i : Nat} {x : α} (h : xs[i]? = some x) (hq : q x = false) : xs.all q = false := by
 rw [List.all_eq_false]; exact ⟨x, List.mem_of_getElem? h, by rw [hq]; decide⟩
set_option maxHeartbeats 8000000 in
theorem mB (p : ByteArray) (hs : List aF) (ls : List aQ) (ha : Option Addr) (hn hcap : Nat) (ba : Option Addr) (n bcap : Nat) (w : World) (G : Nat -> Prop) (hhn : hn = hs.length) (hh : bD w G ha hs) (hhl : hn ≤ 1048576) (hbn : n = ls.length) (h : dC w G ba ls) (hf : Fit ls) :
 Calls Tryz.prog 64 #[eV p ha hn hcap ba n bcap] w (RetN w fun w' v => v = .int .i64 (aT ((p, hs, ()), ls, ()))) := by
 have HN := qH hbn; have HE := qH h; have HF := qH hf; have hl : n ≤ 1048576 := by have := hf.len; omega
 have HHN := qH hhn; have HHE := qH hh
 have HHead := qH (fun (W : World) (hW : Ext w W) => aG7 hs ha hn hcap W G hhn (hh.ext hW) hhl)
 obtain ⟨m, em⟩ : ∃ m, m = (aA ls).length := ⟨_, rfl⟩
 have HVars0 := fun (W : World) (hW : Ext w W) => rC p ha hn hcap ls ba n bcap W G hbn (h.ext hW) hf
 rw [<- em] at HVars0
 have HVars := qH HVars0
 have EM := qH em
 clear HVars0 em
 have HLit := qH (fun (W : World) (hW : Ext w W) (l : aQ) (hl : l ∈ ls) (a : Option Addr) (cap : Nat) (hin : LitIn w G l a cap) => zE l.1 (bM l) (aB l) a (aB l).length cap (iA l) (leftOf l).1 (leftOf l).2.1 (aU l).1 (aU l).2.1 W G rfl (hin.terms.ext hW) (hf.terms l hl) hin.left.1 hin.left.2 hin.right.1 hin.right.2)
 clear hbn h hf hhn hh
 go_enter Tryz.func64, Tryz.ntmps64
 go_wp2_with fail
 refine (HHead.out _ ((Kp.refl _).alloc _)).mono ?_
 rintro e w1 ⟨v, rfl, hk1, rfl⟩
 have bb := Blk.new w [.string p, .slice ha hn hcap, .slice ba n bcap] 43
 have B1 := qH (bb.ext hk1)
 have b1 : w1.cell? ⟨w.heap.size, 2, none⟩ = some (.slice ba n bcap) := by rw [B1.out.cell']; rfl
 have X1 := qH (((Kp.refl _).alloc _).trans hk1)
 clear hk1 bb
 cases hhd : gR hs
 ·go_wp2
  go_ret
  exact RetN.mk X1.out (by unfold aT dM; rw [if_neg (by rw [hhd]; simp)]; rfl)
 ·go_wp2
  clear b1
  go_loopw [21] (fun iv wr => aA7 w1 ls iU n iv wr) (fun iv _ => n - (intOf iv).toNat)
  case atStart => exact ⟨0, Nat.zero_le _, rfl, rfl, Kp.refl _⟩
  case round =>
   obtain ⟨i, hi, rfl, hall, hex⟩ := hrel
   have XR := qH (X1.out.trans hex.out)
   by_cases hlt : i < n
   ·have hlt' : i < ls.length := by rw [<- HN.out]; exact hlt
    obtain ⟨l, hli⟩ : ∃ l, ls[i]? = some l := ⟨_, qG hlt'⟩
    obtain ⟨b, off, a, cap, eao, hG, hb, hL, c0, c1, c2, c3, c4, c5, c6, c7⟩ := wU HE.out hli
    subst eao
    replace c0 := XR.out.cell c0 id
    replace c1 := XR.out.cell c1 id
    replace c2 := XR.out.cell c2 id
    replace c3 := XR.out.cell c3 id
    replace c4 := XR.out.cell c4 id
    replace c5 := XR.out.cell c5 id
    replace c6 := XR.out.cell c6 id
    replace c7 := XR.out.cell c7 id
    have HL := qH hli
    have HC := qH (fun (W : World) (hW : Ext w W) => HLit.out W hW l (List.mem_of_getElem? hli) a cap hL)
    clear hli hlt' hL hG hb
    go_wp2_with fail
    refine (HC.out _ (XR.out.alloc _)).mono ?_
    rintro e w2 ⟨v, rfl, hk2, rfl⟩
    have X2 := qH ((hex.out.alloc _).trans hk2)
    clear hk2 c0 c1 c2 c3 c4 c5 c6 c7
    cases hq : iU l
    ·go_wp2
     go_ret
     refine RetN.mk (X1.out.trans X2.out) ?_
     unfold aT dM
     rw [if_neg (by rw [lU HL.out hq]; simp)]; rfl
    ·go_wp2
     go_roundw
     case rel => exact ⟨i + 1, by omega, by first | rfl | (congr 1; done) | (congr 1; omega), by rw [fQ HL.out, hall.out, hq]; rfl, X2⟩
     case measure => simp [intOf]; omega
   ·have e : ls.take i = ls := List.take_of_length_le (by have := HN.out; omega)
    have HA := qH hall.out
    rw [e] at HA
    have c0 : wr.cell? ⟨w.heap.size, 0, none⟩ = some (.string p) := by rw [(B1.out.ext hex.out).cell']; rfl
    have c1 : wr.cell? ⟨w.heap.size, 1, none⟩ = some (.slice ha hn hcap) := by rw [(B1.out.ext hex.out).cell']; rfl
    have c2 : wr.cell? ⟨w.heap.size, 2, none⟩ = some (.slice ba n bcap) := by rw [(B1.out.ext hex.out).cell']; rfl
    clear e hall
    go_wp2_with fail
    refine (HVars.out _ XR.out).mono ?_
    rintro e w2 ⟨v, rfl, hk2, ao, cap, rfl, hle, hcells⟩
    have hm : m ≤ 4611686018427387904 := by
     have h1 := rX HF.out.terms
     have h2 := HF.out.len
     have h3 := Nat.mul_le_mul_right 1048576 h2
     have h4 := EM.out
     omega
    clear c0 c1 c2
    have B2 := qH (B1.out.ext (hex.out.trans hk2))
    have hx2 : Ext w (w2.alloc (.cells #[.slice ao m cap] 66)) := (XR.out.trans hk2).alloc _
    obtain ⟨wb, eb⟩ : ∃ wb, w2.alloc (.cells #[.slice ao m cap] 66) = wb := ⟨_, rfl⟩
    have bn := Blk.new w2 [.slice ao m cap] 66
    have HSafe := qH (fun (W : World) (hW : Ext wb W) (k : Int) (s : ByteArray) (blank : Bool) => aF8 (aA ls) ao m cap w2.heap.size k s blank W EM.out (by
     have := bn.cell 0 (by simp)
     rw [<- eb] at hW
     exact hW.cell this id) ((hcells.alloc _).ext (eb ▸ hW)) hm)
    have HX2 := qH hx2
    rw [eb] at HX2
    have C1 := qH (B2.out.alloc (.cells #[.slice ao m cap] 66))
    rw [eb] at C1
    have c1 : (w2.alloc (.cells #[.slice ao m cap] 66)).cell? ⟨w.heap.size, 1, none⟩ = some (.slice ha hn hcap) := by rw [eb, C1.out.cell']; rfl
    clear hk2 hle hcells hx2 bn
    have EB := qH eb; clear eb
    go_wp2
    rw [EB.out]
    clear c1
    go_loopw [36] (fun iv wr => aA7 wb hs (cZ (aA ls) false) hn iv wr) (fun iv _ => hn - (intOf iv).toNat)
    case atStart => exact ⟨0, Nat.zero_le _, rfl, rfl, Kp.refl _⟩
    case round =>
     obtain ⟨j, hj, rfl, hall3, hex3⟩ := hrel
     have X3 := qH (HX2.out.trans hex3.out)
     by_cases hlt3 : j < hn
     ·have hlt4 : j < hs.length := by rw [<- HHN.out]; exact hlt3
      obtain ⟨t, ht⟩ : ∃ t, hs[j]? = some t := ⟨_, qG hlt4⟩
      obtain ⟨b2, off2, eao2, f0, f1, _⟩ := eF (HHE.out.ext X3.out) ht
      subst eao2
      obtain ⟨kt, st, ⟨⟩⟩ := t
      simp only at f0 f1
      have HT := qH ht
      clear ht hlt4
      go_wp2_with fail
      refine (HSafe.out _ (hex3.out.alloc _) kt st false).mono ?_
      rintro e w3 ⟨v, rfl, hk3, rfl⟩
      have X4 := qH ((hex3.out.alloc _).trans hk3)
      clear hk3 f0 f1
      cases hq : cZ (aA ls) false (kt, st, ())
      ·go_wp2
       go_ret
       refine RetN.mk (HX2.out.trans X4.out) ?_
       unfold aT kR dM
       rw [if_pos (by simp only [Bool.and_eq_true]; exact ⟨hhd, HA.out⟩), if_neg (by rw [lU HT.out hq]; simp)]; rfl
      ·go_wp2
       go_roundw
       case rel => exact ⟨j + 1, by omega, by first | rfl | (congr 1; done) | (congr 1; omega), by rw [fQ HT.out, hall3.out, hq]; rfl, X4⟩
       case measure => simp [intOf]; omega
     ·have e : hs.take j = hs := List.take_of_length_le (by have := HHN.out; omega)
      have HB := qH hall3.out
      rw [e] at HB
      have c2 : wr.cell? ⟨w.heap.size, 2, none⟩ = some (.slice ba n bcap) := by rw [(C1.out.ext hex3.out).cell']; rfl
      clear e hall3
      have hltn : ¬ (j : Int) < (hn : Int) := by omega
      go_wp2
      clear c2
      go_loopw [48] (fun iv wr => aA7 wb ls (iE (aA ls)) n iv wr) (fun iv _ => n - (intOf iv).toNat)
      case atStart => exact ⟨0, Nat.zero_le _, rfl, rfl, hex3⟩
      case round =>
       obtain ⟨q, hq, rfl, hall4, hex4⟩ := hrel
       have X5 := qH (HX2.out.trans hex4.out)
       by_cases hlt5 : q < n
       ·have hlt6 : q < ls.length := by rw [<- HN.out]; exact hlt5
        obtain ⟨l, hli⟩ : ∃ l, ls[q]? = some l := ⟨_, qG hlt6⟩
        obtain ⟨b, off, a, cap2, eao, hG, hb, hL, c0, c1, c2, c3, c4, c5, c6, c7⟩ := wU HE.out hli
        subst eao
        replace c0 := X5.out.cell c0 id
        replace c1 := X5.out.cell c1 id
        replace c2 := X5.out.cell c2 id
        replace c3 := X5.out.cell c3 id
        replace c4 := X5.out.cell c4 id
        replace c5 := X5.out.cell c5 id
        replace c6 := X5.out.cell c6 id
        replace c7 := X5.out.cell c7 id
        have HL := qH (And.intro hli hL)
        have hq2 : (q : Int) < (n : Int) := by omega
        obtain ⟨mm, emm⟩ : ∃ mm, mm = (aB l).length := ⟨_, rfl⟩
        rw [<- emm] at c2
        have HM := qH emm
        have hmm : mm ≤ 1048576 := by rw [emm]; exact HF.out.terms l (List.mem_of_getElem? hli)
        clear hli hlt6 hL hG hb emm
        have HSafe2 := HSafe
        obtain ⟨k, ek⟩ : ∃ k, l.1 = k := ⟨_, rfl⟩
        obtain ⟨lk, elk⟩ : ∃ lk, (leftOf l).1 = lk := ⟨_, rfl⟩
        obtain ⟨lt, elt⟩ : ∃ lt, (leftOf l).2.1 = lt := ⟨_, rfl⟩
        obtain ⟨rk, erk⟩ : ∃ rk, (aU l).1 = rk := ⟨_, rfl⟩
        obtain ⟨rt, ert⟩ : ∃ rt, (aU l).2.1 = rt := ⟨_, rfl⟩
        rw [ek] at c0
        rw [elk] at c4
        rw [elt] at c5
        rw [erk] at c6
        rw [ert] at c7
        have eleft : leftOf l = (lk, lt, ()) := by rw [<- elk, <- elt]
        have eright : aU l = (rk, rt, ()) := by rw [<- erk, <- ert]
        generalize bM l = s1 at c1
        generalize iA l = s3 at c3
        have HK := qH (And.intro ek (And.intro eleft eright)); clear ek elk elt erk ert eleft eright
        obtain ⟨wx, ewx⟩ : ∃ wx, wr.alloc (.cells #[.int .i64 k, .string s1, .slice a mm cap2, .int .i64 s3, .int .i64 lk, .string lt, .int .i64 rk, .string rt] 60) = wx := ⟨_, rfl⟩
        have hB := Blk.new wr [.int .i64 k, .string s1, .slice a mm cap2, .int .i64 s3, .int .i64 lk, .string lt, .int .i64 rk, .string rt] 60
        have hWX : Ext wb wx := by rw [<- ewx]; exact hex4.out.alloc _
        have hXX : Ext w wx := HX2.out.trans hWX
        obtain ⟨g, eg⟩ : ∃ g, g = wr.heap.size := ⟨_, rfl⟩
        have HGB := qH hB
        rw [<- eg] at HGB
        have ewx2 : wr.alloc (.cells [Value.int .i64 k, .string s1, .slice a mm cap2, .int .i64 s3, .int .i64 lk, .string lt, .int .i64 rk, .string rt].toArray 60) = wx := ewx
        rw [ewx2] at HGB
        have HWX := qH hWX
        have HXX := qH hXX
        have EG := qH (And.intro eg ewx)
        clear hB hWX hXX eg ewx ewx2
        by_cases h3 : k = 3
        ·have b3 : (k == 3) = true := by simp [h3]
         have n2 : ¬ k = 2 := by omega
         have HH3 := qH (And.intro h3 n2); clear h3 n2
         go_wp2_with fail
         rw [EG.out.2, <- EG.out.1]
         refine (HSafe.out _ HWX.out lk lt false).mono ?_
         rintro e w5 ⟨v, rfl, hk5, rfl⟩
         have X6 := qH hk5
         have d6 : w5.cell? ⟨g, 6, none⟩ = some (.int .i64 rk) := by rw [(HGB.out.ext hk5).cell']; rfl
         have d7 : w5.cell? ⟨g, 7, none⟩ = some (.string rt) := by rw [(HGB.out.ext hk5).cell']; rfl
         clear hk5 c0 c1 c2 c3 c4 c5 c6 c7
         cases hsl : cZ (aA ls) false (lk, lt, ())
         ·go_wp2
          go_ret
          refine RetN.mk (HXX.out.trans X6.out) ?_
          have hno : iE (aA ls) l = false := by unfold iE; rw [if_pos (HK.out.1.trans HH3.out.1), HK.out.2.1, hsl]; rfl
          unfold aT kR dM
          rw [if_pos (by simp only [Bool.and_eq_true]; exact ⟨hhd, HA.out⟩), if_neg (by rw [lU HL.out.1 hno]; simp)]; rfl
         ·go_wp2_with fail
          refine (HSafe.out _ (HWX.out.trans X6.out) rk rt false).mono ?_
          rintro e w7 ⟨v, rfl, hk7, rfl⟩
          have X7 := qH (X6.out.trans hk7)
          clear hk7 d6 d7
          cases hsr : cZ (aA ls) false (rk, rt, ())
          ·go_wp2
           go_ret
           refine RetN.mk (HXX.out.trans X7.out) ?_
           have hno : iE (aA ls) l = false := by unfold iE; rw [if_pos (HK.out.1.trans HH3.out.1), HK.out.2.1, HK.out.2.2, hsr, Bool.and_false]
           unfold aT kR dM
           rw [if_pos (by simp only [Bool.and_eq_true]; exact ⟨hhd, HA.out⟩), if_neg (by rw [lU HL.out.1 hno]; simp)]; rfl
          ·have HSL := qH (show iE (aA ls) l = (aB l).all (fun t => if k = 2 then cZ (aA ls) true t else true) by
            unfold iE; rw [if_pos (HK.out.1.trans HH3.out.1), HK.out.2.1, HK.out.2.2, hsl, hsr]
            exact (List.all_eq_true.2 (fun t _ => if_neg HH3.out.2)).symm)
           have d0 : w7.cell? ⟨g, 2, none⟩ = some (.slice a mm cap2) := by rw [(HGB.out.ext X7.out).cell']; rfl
           have HX7 := X7
           clear X7
           go_wp2
           clear d0
           go_loopw [73] (fun iv wr => aA7 wx (aB l) (fun t => if k = 2 then cZ (aA ls) true t else true) mm iv wr) (fun iv _ => mm - (intOf iv).toNat)
           case atStart => exact ⟨0, Nat.zero_le _, rfl, rfl, HX7.out⟩
           case round =>
            obtain ⟨z, hz, rfl, hall8, hex8⟩ := hrel
            have X8 := qH (HXX.out.trans hex8.out)
            by_cases hlt7 : z < mm
            ·have hlt8 : z < (aB l).length := by rw [<- HM.out]; exact hlt7
             obtain ⟨t, ht⟩ : ∃ t, (aB l)[z]? = some t := ⟨_, qG hlt8⟩
             obtain ⟨b9, off9, eao9, f0, f1, _⟩ := eF (HL.out.2.terms.ext X8.out) ht
             subst eao9
             obtain ⟨kt, st, ⟨⟩⟩ := t
             simp only at f0 f1
             have HT := qH ht
             have e0 : (wr.alloc (.cells #[.int .i64 kt, .string st] 58)).cell? ⟨g, 0, none⟩ = some (.int .i64 k) := by rw [((HGB.out.ext hex8.out).alloc _).cell']; rfl
             clear ht hlt8
             by_cases h2 : k = 2
             ·have b2 : (k == 2) = true := by simp [h2]
              have HH2 := qH h2; clear h2
              go_wp2_with fail
              refine (HSafe.out _ ((HWX.out.trans hex8.out).alloc _) kt st true).mono ?_
              rintro e w9 ⟨v, rfl, hk9, rfl⟩
              have X9 := qH ((hex8.out.alloc _).trans hk9)
              clear hk9 f0 f1 e0
              cases hqq : cZ (aA ls) true (kt, st, ())
              ·go_wp2
               go_ret
               refine RetN.mk (HXX.out.trans X9.out) ?_
               have hno : iE (aA ls) l = false := by rw [HSL.out]; exact lU HT.out (by show (if k = 2 then _ else _) = false; rw [if_pos HH2.out]; exact hqq)
               unfold aT kR dM
               rw [if_pos (by simp only [Bool.and_eq_true]; exact ⟨hhd, HA.out⟩), if_neg (by rw [lU HL.out.1 hno]; simp)]; rfl
              ·go_wp2
               go_roundw
               case rel => exact ⟨z + 1, by omega, by first | rfl | (congr 1; done) | (congr 1; omega), by rw [fQ HT.out, hall8.out]; show (if k = 2 then _ else _) = true; rw [if_pos HH2.out]; exact hqq, X9⟩
               case measure => simp [intOf]; omega
             ·have b2 : (k == 2) = false := by simp [h2]
              have HH2 := qH h2; clear h2
              go_wp2
              go_roundw
              case rel => exact ⟨z + 1, by omega, by first | rfl | (congr 1; done) | (congr 1; omega), by rw [fQ HT.out, hall8.out]; show (if k = 2 then _ else _) = true; rw [if_neg HH2.out], hex8.out.alloc _⟩
              case measure => simp [intOf]; omega
            ·have e : (aB l).take z = aB l := List.take_of_length_le (by have := HM.out; omega)
             have H9 := qH hall8.out
             rw [e] at H9
             clear e hall8
             have hzm : ¬ (z : Int) < (mm : Int) := by omega
             go_wp2
             go_roundw
             case rel => exact ⟨q + 1, by omega, by first | rfl | (congr 1; done) | (congr 1; omega), by rw [fQ HL.out.1, hall4.out, HSL.out, H9.out]; rfl, HWX.out.trans hex8.out⟩
             case measure => simp [intOf]; omega
        ·have b3 : (k == 3) = false := by simp [h3]
         have HSL := qH (show iE (aA ls) l = (aB l).all (fun t => if k = 2 then cZ (aA ls) true t else true) by
          unfold iE; rw [if_neg (fun x => h3 (HK.out.1.symm.trans x)), HK.out.1]
          by_cases h2 : k = 2
          ·rw [if_pos h2]; congr 1; funext t; rw [if_pos h2]
          ·rw [if_neg h2]; symm; rw [List.all_eq_true]; intro t _; rw [if_neg h2])
         have HH3 := qH h3; clear h3
         have d0 : (wr.alloc (.cells #[.int .i64 k, .string s1, .slice a mm cap2, .int .i64 s3, .int .i64 lk, .string lt, .int .i64 rk, .string rt] 60)).cell? ⟨wr.heap.size, 2, none⟩ = some (.slice a mm cap2) := by rw [EG.out.2, <- EG.out.1, HGB.out.cell']; rfl
         go_wp2
         rw [EG.out.2, <- EG.out.1]
         have HX7 := qH (Kp.refl (F := fun _ => False) wx)
         clear c0 c1 c2 c3 c4 c5 c6 c7
         clear d0
         go_loopw [73] (fun iv wr => aA7 wx (aB l) (fun t => if k = 2 then cZ (aA ls) true t else true) mm iv wr) (fun iv _ => mm - (intOf iv).toNat)
         case atStart => exact ⟨0, Nat.zero_le _, rfl, rfl, HX7.out⟩
         case round =>
          obtain ⟨z, hz, rfl, hall8, hex8⟩ := hrel
          have X8 := qH (HXX.out.trans hex8.out)
          by_cases hlt7 : z < mm
          ·have hlt8 : z < (aB l).length := by rw [<- HM.out]; exact hlt7
           obtain ⟨t, ht⟩ : ∃ t, (aB l)[z]? = some t := ⟨_, qG hlt8⟩
           obtain ⟨b9, off9, eao9, f0, f1, _⟩ := eF (HL.out.2.terms.ext X8.out) ht
           subst eao9
           obtain ⟨kt, st, ⟨⟩⟩ := t
           simp only at f0 f1
           have HT := qH ht
           have e0 : (wr.alloc (.cells #[.int .i64 kt, .string st] 58)).cell? ⟨g, 0, none⟩ = some (.int .i64 k) := by rw [((HGB.out.ext hex8.out).alloc _).cell']; rfl
           clear ht hlt8
           by_cases h2 : k = 2
           ·have b2 : (k == 2) = true := by simp [h2]
            have HH2 := qH h2; clear h2
            go_wp2_with fail
            refine (HSafe.out _ ((HWX.out.trans hex8.out).alloc _) kt st true).mono ?_
            rintro e w9 ⟨v, rfl, hk9, rfl⟩
            have X9 := qH ((hex8.out.alloc _).trans hk9)
            clear hk9 f0 f1 e0
            cases hqq : cZ (aA ls) true (kt, st, ())
            ·go_wp2
             go_ret
             refine RetN.mk (HXX.out.trans X9.out) ?_
             have hno : iE (aA ls) l = false := by rw [HSL.out]; exact lU HT.out (by show (if k = 2 then _ else _) = false; rw [if_pos HH2.out]; exact hqq)
             unfold aT kR dM
             rw [if_pos (by simp only [Bool.and_eq_true]; exact ⟨hhd, HA.out⟩), if_neg (by rw [lU HL.out.1 hno]; simp)]; rfl
            ·go_wp2
             go_roundw
             case rel => exact ⟨z + 1, by omega, by first | rfl | (congr 1; done) | (congr 1; omega), by rw [fQ HT.out, hall8.out]; show (if k = 2 then _ else _) = true; rw [if_pos HH2.out]; exact hqq, X9⟩
             case measure => simp [intOf]; omega
           ·have b2 : (k == 2) = false := by simp [h2]
            have HH2 := qH h2; clear h2
            go_wp2
            go_roundw
            case rel => exact ⟨z + 1, by omega, by first | rfl | (congr 1; done) | (congr 1; omega), by rw [fQ HT.out, hall8.out]; show (if k = 2 then _ else _) = true; rw [if_neg HH2.out], hex8.out.alloc _⟩
            case measure => simp [intOf]; omega
          ·have e : (aB l).take z = aB l := List.take_of_length_le (by have := HM.out; omega)
           have H9 := qH hall8.out
           rw [e] at H9
           clear e hall8
           have hzm : ¬ (z : Int) < (mm : Int) := by omega
           go_wp2
           go_roundw
           case rel => exact ⟨q + 1, by omega, by first | rfl | (congr 1; done) | (congr 1; omega), by rw [fQ HL.out.1, hall4.out, HSL.out, H9.out]; rfl, HWX.out.trans hex8.out⟩
           case measure => simp [intOf]; omega
       ·have e : ls.take q = ls := List.take_of_length_le (by have := HN.out; omega)
        have HC := qH hall4.out
        rw [e] at HC
        clear e hall4
        have hqn : ¬ (q : Int) < (n : Int) := by omega
        go_wp2
        go_ret
        refine RetN.mk X5.out ?_
        unfold aT kR dM
        rw [if_pos (by simp only [Bool.and_eq_true]; exact ⟨hhd, HA.out⟩), if_pos (by simp only [Bool.and_eq_true]; exact ⟨HB.out, HC.out⟩)]; rfl
theorem wV (p : ByteArray) (hs : List aF) (ls : List aQ) (ha : Option Addr) (hn hcap : Nat) (ba : Option Addr) (n bcap : Nat) (w : World) (G : Nat -> Prop) (hhn : hn = hs.length) (hh : bD w G ha hs) (hhl : hn ≤ 1048576) (hbn : n = ls.length) (h : dC w G ba ls) (hf : Fit ls) (hc : aT ((p, hs, ()), ls, ()) = 0) :
 Calls Tryz.prog 115 #[eV p ha hn hcap ba n bcap] w (RetN w fun w' v => ∃ ao cap, v = .slice ao (aA ls).length cap /\ (aA ls).length ≤ cap /\ CellsAt w' ao (strs (aA ls)) /\ cap = (aA ls).length /\ OwnSl w w' v (aA ls)) := by
 have h1 := fun (W : World) (hW : Ext w W) => mB p hs ls ha hn hcap ba n bcap W G hhn (hh.ext hW) hhl hbn (h.ext hW) hf
 rw [hc] at h1
 have HC := qH h1
 have HV := qH (fun (W : World) (hW : Ext w W) => xO p ha hn hcap ls ba n bcap W G hbn (h.ext hW) hf)
 clear h1 hhn hh hbn h hf hc
 go_enter Tryz.func115, Tryz.ntmps115
 go_wp2_with fail
 refine (HC.out _ ((Kp.refl _).alloc _)).mono ?_
 rintro e w1 ⟨v, rfl, hk1, rfl⟩
 have bb := (Blk.new w [.string p, .slice ha hn hcap, .slice ba n bcap] 43).ext hk1
 have c0 : w1.cell? ⟨w.heap.size, 0, none⟩ = some (.string p) := by rw [bb.cell']; rfl
 have c1 : w1.cell? ⟨w.heap.size, 1, none⟩ = some (.slice ha hn hcap) := by rw [bb.cell']; rfl
 have c2 : w1.cell? ⟨w.heap.size, 2, none⟩ = some (.slice ba n bcap) := by rw [bb.cell']; rfl
 have X1 := qH (((Kp.refl _).alloc _).trans hk1)
 clear hk1 bb
 go_wp2_with fail
 refine (HV.out _ X1.out).mono ?_
 rintro e w2 ⟨v, rfl, hk2, ao, cap, rfl, h1, h2⟩
 have X2 := qH (And.intro (X1.out.trans hk2) (And.intro h1 h2))
 clear hk2 h1 h2 c0 c1 c2
 go_wp2
 go_ret
 exact RetN.mk X2.out.1 ⟨ao, cap, rfl, X2.out.2.1, X2.out.2.2.1, X2.out.2.2.2.1, X2.out.2.2.2.2.old X1.out.size⟩
end
section
theorem yG {n : Nat} {P : Program} {row : String} {args : Array Value} {w : World} {R : Value -> World -> Prop} (h : Rows P row args w R) : RowsIn Fence.wide n P row args w R :=
 fun c cs _ => let ⟨v, w', r, s⟩ := h c cs; ⟨v, w', r, stepsIn_wide.2 s⟩
section
variable {P : Program} {l n : Nat}
theorem Oper.wpIn_of_wp {o : Oper} {a : Act} {w : World} {K : Act -> World -> Prop} {Q : Exit -> Act -> World -> Prop} (hd : ∀ c, o.op ≠ .defer c) (h : o.wp P a w K Q) : o.wpIn (Fence.wide.inRound l) n P a w K Q := by
 refine ⟨fun f _ => trivial, ?_⟩
 rw [Oper.semAt_plain _ _ _ hd]
 unfold Oper.wp at h
 generalize (execOp a.eval o).run P w = r at *
 cases r with
 | ok x w' =>
  cases x with
  | value v => exact h
  | skip => exact h
  | defer d => exact h
  | enter f args => exact ⟨fun e => (by cases e), CallsIn.inRound l (callsIn_wide.2 h)⟩
  | row row args => exact ⟨fun e => (by cases e), yG h⟩
  | _ => exact h.elim
 | halt x w' =>
  cases x with
  | panic v => exact h
  | _ => exact h.elim
def wO (ops : List Oper) : Bool := ops.all fun o => match o.op with | .defer _ => false | _ => true
theorem aB2 {ops : List Oper} (h : wO ops = true) {i : Nat} {o : Oper} (ho : ops.toArray[i]? = some o) : ∀ c, o.op ≠ .defer c := fun c e => by
 rw [List.getElem?_toArray] at ho
 have := List.all_eq_true.1 h o (List.mem_of_getElem? ho)
 rw [e] at this
 cases this
theorem eE {md : Region.Mode} {ops : List Oper} {Q : Exit -> Act -> World -> Prop} (hd : wO ops = true) (hQ : ∀ a w, ¬ Q .outgrown a w) : ∀ (fuel : Nat) (listed : Array Bool) (a : Act) (w : World), wpAny P md ops.toArray Q fuel listed a w -> wpAnyIn (Fence.wide.inRound l) n P md ops.toArray Q fuel listed a w
 | 0, _, _, _, h => h
 | fuel + 1, listed, a, w, h => by
  refine ⟨h.1, fun i hi => ?_⟩
  have h1 := h.2 i hi
  unfold wpOp at h1
  unfold wpOpIn
  cases ho : ops.toArray[i]? with
  | none =>
   rw [ho] at h1
   exact eE hd hQ fuel _ _ _ h1
  | some o =>
   rw [ho] at h1
   simp only at h1 ⊢
   split
   ·rename_i hw
    rw [if_pos hw] at h1
    replace h1 := h1.resolve_right fun h => by
     obtain ⟨_, a', w', h⟩ := h
     exact hQ a' w' h
    exact Oper.wpIn_mono (fun a w h => eE hd hQ fuel _ a w h) (Oper.wpIn_of_wp (aB2 hd ho) h1)
   ·rename_i hw
    rw [if_neg hw] at h1
    exact ⟨fun f _ => trivial, eE hd hQ fuel _ _ _ h1⟩
theorem bR {id : Nat} {ops : List Oper} {Q : Exit -> Act -> World -> Prop} {a : Act} {w : World} (S : World -> Prop) (lates : List Nat) (hm : P.follows .mixedOrders = true) (hS : S w.drew)
 (h : S w.drew -> bS P .any ops.toArray Q S lates ops.toArray.size (Array.replicate ops.toArray.size false) a w.drew) (hd : wO ops = true := by kernel_rfl) (hQ : ∀ a w, ¬ Q .outgrown a w := by exact fun _ _ h => h) : (Code.region id ops.toArray true).wpIn (Fence.wide.inRound l) n P Q a w :=
 wpIn_region_any hm (eE hd hQ _ _ _ _ (mO _ _ _ _ (h hS)))
end
end
section
open Go.RowKit
theorem aEn {cs : Array Value} {c : Value} {k : Nat} (hk : 0 < k) (h : cs = (List.replicate k c).toArray) (m : Nat) : madeCells cs m = (List.replicate m c).toArray := by
 subst h
 apply Array.ext_getElem?
 intro j
 unfold madeCells
 rw [Array.getElem?_map]
 by_cases hj : j < m
 ·have h1 : (Array.range m)[j]? = some j := by simp [hj]
  have h2 : j % (List.replicate k c).toArray.size < (List.replicate k c).toArray.size := Nat.mod_lt _ (by simp; exact hk)
  rw [h1, Option.map_some, getElem!_pos (List.replicate k c).toArray (j % (List.replicate k c).toArray.size) h2]
  simp [hj]
 ·simp [hj]
theorem gO {P : Program} {t e : TypeId} {k bytes : Nat} {z c : Value} (E : cP P t e k bytes z) (hc : z.cells = (List.replicate k c).toArray) (n : Nat) (hb : bytes * n ≤ 281474976710656) (h63 : n ≤ maxLen) (w : World) :
 (Instr.makeSlice t (.int .i64 (n : Int)) (.int .i64 (n : Int))).run P w = .ok (.slice (some ⟨w.heap.size, 0, none⟩) n n) (w.alloc (.cells (List.replicate (n * k) c).toArray e)) := by
 obtain ⟨ht, hi, hz, hk⟩ := E
 obtain ⟨i, hi, h1, h2, h3⟩ := info_parts hi
 have hb' : (i.bytes : Int) * (n : Int) ≤ 281474976710656 := by
  have h : ((i.bytes * n : Nat) : Int) ≤ 281474976710656 := by rw [h3]; omega
  rwa [Int.natCast_mul] at h
 have hr := run_make (P := P) w t e i z ht hi h1 .i64 .i64 n n (by omega) (Int.le_refl _) hb' (by unfold maxLen at h63; omega)
 simp only [Int.toNat_natCast, h2] at hr
 rw [aEn hk hc] at hr
 exact hr
theorem flat_get {α : Type} (f : α -> List Value) (k : Nat) (hk : ∀ x, (f x).length = k) : ∀ (L : List α) (i : Nat) (x : α) (c : Nat), L[i]? = some x -> c < k -> (L.flatMap f)[i * k + c]? = (f x)[c]?
 | [], i, x, c, h, _ => by simp at h
 | a :: L, 0, x, c, h, hc => by
  simp at h; subst h
  rw [List.flatMap_cons, Nat.zero_mul, Nat.zero_add, List.getElem?_append_left (by rw [hk]; exact hc)]
 | a :: L, i + 1, x, c, h, hc => by
  rw [List.flatMap_cons, List.getElem?_append_right (by rw [hk, Nat.succ_mul]; omega), hk]
  have := flat_get f k hk L i x c (by simpa using h) hc
  rw [<- this]; congr 1; rw [Nat.succ_mul]; omega
theorem CellsAt.new (w : World) (xs : List Value) (e : TypeId) : CellsAt (w.alloc (.cells xs.toArray e)) (some ⟨w.heap.size, 0, none⟩) xs := CellsAt.pre (rest := []) (by rw [List.append_nil]; exact Blk.new w xs e)
theorem nE {α : Type} {xs : List α} {k : Nat} {x : α} (h : xs[k]? = some x) : xs.take (k + 1) = xs.take k ++ [x] := by rw [List.take_add_one, h]; rfl
def NoPanic (Q : Exit -> Act -> World -> Prop) (e : Exit) (a : Act) (w : World) : Prop := match e with
 | .panic _ => False
 | e => Q e a w
theorem qZ {P : Program} {c : Code} {Q : Exit -> Act -> World -> Prop} {a : Act} {w : World} (h : c.wp P (NoPanic Q) a w) : c.wp P Q a w := wp_mono h fun e a w h => by
 cases e <;> first | exact h.elim | exact h
theorem eI {Q : Exit -> Act -> World -> Prop} {a : Act} {w : World} (h : Q .normal a w) : NoPanic Q .normal a w := h
def xW (t : aF) : List Value := [.int .i64 t.1, .string t.2.1]
def aF5 (ts : List aF) : List Value := ts.flatMap xW
theorem aHh {α : Type} {s : Shp Tryz.prog α} {f : α -> List Value} {w : World} {G : Nat -> Prop} {g : Nat} {xs : List α} {rest : List Value} {e : TypeId} (hf : ∀ x, (f x).length = s.n) (hat : ∀ (i : Nat) x, xs[i]? = some x -> s.At w G (f x) x) (hG : G g) (hB : Blk w g (xs.flatMap f ++ rest) e) : ElemsAt s w G (some ⟨g, 0, none⟩) xs := fun i x hi => by
 refine ⟨g, 0, f x, rfl, hG, hB.lt, hat i x hi, fun c u hu => ?_⟩
 have hc : c < s.n := by rw [<- hf x]; exact (List.getElem?_eq_some_iff.1 hu).1
 have hg := flat_get f s.n hf xs i x c hi hc
 rw [hB.cell', Nat.zero_add, List.getElem?_append_left (by
  have := (List.getElem?_eq_some_iff.1 (hg.trans hu)).1
  exact this), hg, hu]
theorem wG {w : World} {G : Nat -> Prop} {t : aF} (h : gC t) : jN.At w G (xW t) t := ⟨[.int .i64 t.1], [.string t.2.1], rfl, ⟨rfl, h.1⟩, [.string t.2.1], [], rfl, ⟨rfl, h.2⟩, rfl⟩
def aCb (x : aQ × (Option Addr × Nat)) : List Value := [.int .i64 x.1.1, .string (bM x.1), .slice x.2.1 (aB x.1).length x.2.2, .int .i64 (iA x.1), .int .i64 (leftOf x.1).1, .string (leftOf x.1).2.1, .int .i64 (aU x.1).1, .string (aU x.1).2.1]
theorem aGp (x : aQ × (Option Addr × Nat)) : (aCb x).length = 8 := rfl
structure LitAll (l : aQ) : Prop where
 kind : (Lit.int .i64 l.1).wf = true
 pred : (bM l).size ≤ maxLen
 terms : ∀ t ∈ aB l, gC t
 op : (Lit.int .i64 (iA l)).wf = true
 left : gC (leftOf l)
 right : gC (aU l)
theorem aJk {w : World} {G : Nat -> Prop} {l : aQ} (h : LitAll l) {a : Option Addr} {cap : Nat} (ht : bD w G a (aB l)) (h1 : (aB l).length ≤ cap) (h2 : cap ≤ maxLen) : xZ.At w G (aCb (l, (a, cap))) l :=
 ⟨[.int .i64 l.1], _, rfl, ⟨rfl, h.kind⟩, ⟨[.string (bM l), .slice a (aB l).length cap], _, rfl, ⟨[.string (bM l)], _, rfl, ⟨rfl, h.pred⟩, [.slice a (aB l).length cap], [], rfl, ⟨a, cap, rfl, h1, h2, ht⟩, rfl⟩,
   ⟨[.int .i64 (iA l)], _, rfl, ⟨rfl, h.op⟩, ⟨xW (leftOf l), _, rfl, wG h.left, ⟨xW (aU l), [], rfl, wG h.right, rfl⟩⟩⟩⟩⟩
theorem aCa {w : World} {G : Nat -> Prop} {g : Nat} {ls : List aQ} {vs : List (Option Addr × Nat)} {rest : List Value} {e : TypeId} (hl : vs.length = ls.length) (hall : ∀ l ∈ ls, LitAll l) (ht : ∀ x ∈ ls.zip vs, bD w G x.2.1 (aB x.1) /\ (aB x.1).length ≤ x.2.2 /\ x.2.2 ≤ maxLen) (hG : G g) (hB : Blk w g ((ls.zip vs).flatMap aCb ++ rest) e) : dC w G (some ⟨g, 0, none⟩) ls := fun i l hi => by
 have hv : i < vs.length := by rw [hl]; exact (List.getElem?_eq_some_iff.1 hi).1
 have hz : (ls.zip vs)[i]? = some (l, vs[i]) := by rw [List.getElem?_zip_eq_some]; exact ⟨hi, qG hv⟩
 obtain ⟨t1, t2, t3⟩ := ht _ (List.mem_of_getElem? hz)
 refine ⟨g, 0, aCb (l, vs[i]), rfl, hG, hB.lt, aJk (hall l (List.mem_of_getElem? hi)) t1 t2 t3, fun c u hu => ?_⟩
 have hc : c < 8 := (List.getElem?_eq_some_iff.1 hu).1
 have hg := flat_get aCb 8 aGp (ls.zip vs) i _ c hz hc
 rw [show xZ.n = 8 from rfl, hB.cell', Nat.zero_add, List.getElem?_append_left (List.getElem?_eq_some_iff.1 (hg.trans hu)).1, hg, hu]
end
section
section
variable {P : Program} {l : List Oper} {Q : Exit -> Act -> World -> Prop} {md : Region.Mode} {S : World -> Prop} {fuel : Nat} {listed : Array Bool} {a : Act} {w : World}
end
end
section
open Go.RowKit
def bO (z : Nat -> Option Addr × Nat × Nat) (i : Nat) : Value := (Value.slice (z (i)).1 (z (i)).2.1 (z (i)).2.2)
theorem fG : cP Tryz.prog 51 66 1 24 (.slice none 0 0) := ⟨by kernel_rfl, by kernel_rfl, rfl, by decide⟩
def aA6 (P : Program) (f : FuncId) (first captured : Array Value) (w0 : World) (vs : List Value) (t : Value) (c : Nat -> Int) : Prop :=
 (∀ args w, (callFunc f args).run P w = .ok (Next.enter f args) w) /\ ∀ w, Ext w0 w -> ∀ i v, vs[i]? = some v -> Calls P f (first ++ (#[v, t] ++ captured)) w fun e w' => e = .returned (.int .i64 (c i)) /\ Ext w w'
def aH5 (n : Nat) (c : Nat -> Int) (w0 : World) (iv jv : Value) (w : World) : Prop :=
 ∃ i j : Nat, i ≤ j /\ j ≤ n /\ iv = .int .i64 i /\ jv = .int .i64 j /\ (i = 0 \/ c (i - 1) < 0) /\ (j = n \/ 0 ≤ c j) /\ Ext w0 w
set_option maxHeartbeats 2000000 in
theorem pF (zs : List (Option Addr × Nat × Nat)) (z : Nat -> Option Addr × Nat × Nat) (ao : Option Addr) (cap : Nat) (t : Value) (f : FuncId) (first captured : Array Value) (c : Nat -> Int) (w : World) (n : Nat)
 (hc : CellsAt w ao ((List.range n).map fun i => (Value.slice (z (i)).1 (z (i)).2.1 (z (i)).2.2))) (hcmp : aA6 Tryz.prog f first captured w ((List.range n).map fun i => (Value.slice (z (i)).1 (z (i)).2.1 (z (i)).2.2)) t c) (hm : n ≤ 4611686018427387904) :
 Calls Tryz.prog 175 #[.slice ao n cap, t, .func (Fn.func f) first captured] w
  (RetF (fun _ => False) w fun w' v => ∃ i : Nat, i ≤ n /\ (i = 0 \/ c (i - 1) < 0) /\ (i = n \/ 0 ≤ c i) /\ v = .tuple #[.int .i64 i, .bool (decide (i < n /\ c i = 0))]) := by
 have hent := hcmp.1
 have HC := qH hcmp.2; clear hcmp
 have cell : ∀ W : World, Ext w W -> ∀ i, i < n -> ∃ b off, ao = some ⟨b, off, none⟩ /\ W.cell? ⟨b, off + i, none⟩ = some ((Value.slice (z (i)).1 (z (i)).2.1 (z (i)).2.2)) := fun W hW i hi => by
  have := hc.ext hW
  exact this i _ (by simp [hi])
 have HCELL := qH cell; clear cell
 go_enter Tryz.func175, Tryz.ntmps175
 go_wp2
 go_loopw [9, 10] (aH5 n c w) (fun i j _ => (intOf j).toNat - (intOf i).toNat)
 case atStart => exact ⟨0, n, Nat.zero_le _, Nat.le_refl _, rfl, rfl, .inl rfl, .inl rfl, Kp.refl _⟩
 case round =>
  obtain ⟨i, j, hij, hj, rfl, rfl, hlo, hhi, hkp⟩ := hrel
  have HL := qH (And.intro hlo hhi); clear hlo hhi
  by_cases hlt : i < j
  ·obtain ⟨h, eh⟩ : ∃ h, h = (i + j) / 2 := ⟨_, rfl⟩
   have rh : ((i : Int) + j) / 2 = (h : Int) := by omega
   have hhn : h < n := by omega
   have h1 : i ≤ h := by omega
   have h2 : h < j := by omega
   clear eh
   obtain ⟨b, off, rfl, c1⟩ := HCELL.out _ hkp h hhn
   have hcall := fun W hW => HC.out W hW h ((Value.slice (z (h)).1 (z (h)).2.1 (z (h)).2.2)) (by simp [hhn])
   have HCall := qH hcall; clear hcall
   generalize hcc : c h = cc at HCall
   have HCC := qH hcc; clear hcc
   by_cases hneg : cc < 0
   ·go_wp2_with fail
    refine (HCall.out _ hkp).mono ?_
    rintro e w1 ⟨rfl, hk2⟩
    have hkp2 := hkp.ext hk2
    clear hk2 c1
    go_wp2
    go_roundw
    case rel => exact ⟨h + 1, j, by omega, hj, by first | rfl | (congr 1; done) | (congr 1; omega), rfl, .inr (by rw [Nat.add_sub_cancel, HCC.out]; omega), HL.out.2, hkp2⟩
    case measure => simp [intOf]; omega
   ·go_wp2_with fail
    refine (HCall.out _ hkp).mono ?_
    rintro e w1 ⟨rfl, hk2⟩
    have hkp2 := hkp.ext hk2
    clear hk2 c1
    go_wp2
    go_roundw
    case rel => exact ⟨i, h, by omega, by omega, rfl, by first | rfl | (congr 1; done) | (congr 1; omega), HL.out.1, .inr (by rw [HCC.out]; omega), hkp2⟩
    case measure => simp [intOf]; omega
  ·obtain rfl : i = j := by omega
   by_cases hin : i < n
   ·obtain ⟨b, off, rfl, c1⟩ := HCELL.out _ hkp i hin
    have hcall := fun W hW => HC.out W hW i ((Value.slice (z (i)).1 (z (i)).2.1 (z (i)).2.2)) (by simp [hin])
    have HCall := qH hcall; clear hcall
    generalize hcc : c i = cc at HCall
    have HCC := qH hcc; clear hcc
    have key : decide (i < n /\ c i = 0) = (cc == 0) := by rw [HCC.out]; simp [hin]; rfl
    have HK := qH key; clear key
    generalize hbb : (cc == 0) = bb at HK
    go_wp2_with fail
    refine (HCall.out _ hkp).mono ?_
    rintro e w1 ⟨rfl, hk2⟩
    have hkp2 := hkp.ext hk2
    clear hk2 c1
    go_wp2
    go_ret2
    exact RetF.mk hkp2 ⟨i, by omega, HL.out.1, HL.out.2, aBe HK.out⟩
   ·have key : decide (i < n /\ c i = 0) = false := by simp; omega
    have HK := qH key; clear key
    go_wp2
    go_ret2
    exact RetF.mk hkp ⟨i, by omega, HL.out.1, HL.out.2, aBe HK.out⟩
end
end Go.Proofs.YtikgpedgmnbcaaaGreatDoor
