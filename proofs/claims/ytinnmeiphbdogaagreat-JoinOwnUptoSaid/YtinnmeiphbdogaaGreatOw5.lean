/- Texts joined for a claim (JoinList, CmpTest, MissTest, WalkPlain, Leap, LeapWalk, FromWalk). -/
import Derived.Test.YtinnmeiphbdogaaGreatOw4
set_option linter.unusedVariables false
set_option linter.unusedSimpArgs false
/- A rule's bindings as a list that can be reckoned: plain. -/
namespace Go.Proofs.YtinnmeiphbdogaaGreat
def jE (ts : List aG) (R : aD) : aD := R.filter fun x => decide (x.length = ts.length)
theorem jU {ts : List aG} {R : aD} (x : List ByteArray) : x ∈ jE ts R ↔ x ∈ R /\ x.length = ts.length := by
 unfold jE
 rw [List.mem_filter, decide_eq_true_iff]
def opB (op : Int) (x y : ByteArray) : Bool := if op = 1 then decide (x = y) else if op = 2 then decide (x ≠ y) else if op = 3 then Op.bytesLess x.toList y.toList else !Op.bytesLess y.toList x.toList
theorem yQ {op : Int} {x y : ByteArray} : opB op x y = true ↔ pR op x y := by
 unfold opB pR
 split
 ·exact decide_eq_true_iff
 ·split
  ·exact decide_eq_true_iff
  ·split
   ·exact Iff.rfl
   ·rw [Bool.not_eq_true']
def holdsB (e : cY) (R : aD) (l : aO) : Bool := if l.1 = 2 then R.all fun x => (jI e (aA l) x (aA l).length).isNone else opB (gK l) (aFj e (leftOf l)) (aFj e (aR l))
theorem uN {e : cY} {R : aD} {l : aO} : holdsB e R l = true ↔ uM e R l := by
 unfold holdsB uM
 split
 ·rw [List.all_eq_true]
  exact ⟨fun h x hx => Option.isNone_iff_eq_none.1 (h x hx), fun h x hx => Option.isNone_iff_eq_none.2 (h x hx)⟩
 ·exact yQ
def aA9 (e : cY) (R : Nat -> aD) : Nat -> List aO -> Bool
 | _, [] => true
 | i, l :: ls => (if l.1 = 1 then true else holdsB e (jE (aA l) (R i)) l) && aA9 e R (i + 1) ls
theorem xA {e : cY} {R : Nat -> aD} : ∀ {ls : List aO} {i : Nat}, aA9 e R i ls = true ↔ ∀ (j : Nat) (l : aO), ls[j]? = some l -> l.1 ≠ 1 -> uM e (jE (aA l) (R (i + j))) l
 | [], i => ⟨fun _ j l h => by simp at h, fun _ => rfl⟩
 | l :: ls, i => by
  unfold aA9
  rw [Bool.and_eq_true, xA]
  refine ⟨fun ⟨h1, h2⟩ j m hm hk => ?_, fun h => ⟨?_, fun j m hm hk => ?_⟩⟩
  ·cases j with
   | zero =>
    cases hm
    rw [if_neg hk] at h1
    exact uN.1 h1
   | succ j =>
    have := h2 j m (by simpa using hm) hk
    rw [show i + (j + 1) = i + 1 + j by omega]; exact this
  ·split
   ·rfl
   ·rename_i hk
    exact uN.2 (h 0 l rfl hk)
  ·have := h (j + 1) m (by simpa using hm) hk
   rw [show i + (j + 1) = i + 1 + j by omega] at this; exact this
def fS (all : List aO) (R : Nat -> aD) : List aO -> Nat -> cY -> aD
 | [], _, e => if aA9 e R 0 all then [e.2] else []
 | l :: rest, i, e => if l.1 = 1 then (cL e (aA l) (jE (aA l) (R i))).flatMap fun q => fS all R rest (i + 1) (namesT e.1 (aA l), q) else fS all R rest (i + 1) e
def aKg (r : cN) (R : Nat -> aD) : aD := fS r.2.1 R r.2.1 0 ([], [])
theorem mL {r : cN} (hc : bD r = 0) (R : Nat -> aD) : ∀ (rest : List aO) (i : Nat) (e : cY), r.2.1.drop i = rest -> i ≤ r.2.1.length -> FromOk r.2.1 R i e -> AllB (cE r.2.1 R) e.2 (fS r.2.1 R rest i e)
 | [], i, e, hd, hi, h => by
  have hil : i = r.2.1.length := by
   have := congrArg List.length hd
   rw [List.length_drop] at this
   simp at this; omega
  subst hil
  obtain ⟨hn, hb, hl⟩ := h.last
  unfold fS
  have hiff : aA9 e R 0 r.2.1 = true ↔ cE r.2.1 R e.2 := by
   rw [xA, hb]
   refine ⟨fun h1 j l hj hk => ?_, fun h1 j l hj hk => ?_⟩
   ·have h2 := h1 j l hj hk
    rw [Nat.zero_add] at h2
    exact (uL hc (List.mem_of_getElem? hj) hk h.ok hn fun x => jU x).1 h2
   ·rw [Nat.zero_add]
    exact (uL hc (List.mem_of_getElem? hj) hk h.ok hn fun x => jU x).2 (h1 j l hj hk)
  split
  ·rename_i h1
   exact AllB.one (hiff.1 h1) hl
  ·rename_i h1
   refine AllB.none fun V hV hp => h1 (hiff.2 ?_)
   have : V = e.2 := by rw [<- hp, <- hl V hV, List.take_length]
   rw [<- this]; exact hV
 | l :: rest, i, e, hd, hi, h => by
  have hl : r.2.1[i]? = some l := by
   have : (r.2.1.drop i)[0]? = some l := by rw [hd]; rfl
   rw [List.getElem?_drop] at this; exact this
  have hil := (List.getElem?_eq_some_iff.1 hl).1
  have hd2 : r.2.1.drop (i + 1) = rest := by
   have := congrArg (List.drop 1) hd
   rw [List.drop_drop] at this
   exact this
  unfold fS
  split
  ·rename_i hk
   have hnx : namesT e.1 (aA l) = aB (r.2.1.take (i + 1)) := by
    rw [h.names, fZ hl]; unfold bR; rw [if_pos hk]
   rw [hnx]
   refine aJt h hl hk (R' := jE (aA l) (R i)) (fun x => jU x) ?_
   have key : ∀ k, k ≤ (cL e (aA l) (jE (aA l) (R i))).length -> PartQ (cE r.2.1 R) e.2 (aB (r.2.1.take (i + 1))).length (fun y => y ∈ (cL e (aA l) (jE (aA l) (R i))).take k) (((cL e (aA l) (jE (aA l) (R i))).take k).flatMap fun q => fS r.2.1 R rest (i + 1) (aB (r.2.1.take (i + 1)), q)) := by
    intro k
    induction k with
    | zero => exact fun _ => PartQ.none.congr fun y => by simp
    | succ k ih =>
     intro hk2
     obtain ⟨q, hq⟩ : ∃ q, (cL e (aA l) (jE (aA l) (R i)))[k]? = some q := ⟨_, qG (by omega)⟩
     have hf := (h.each hl hk (fun x => jU x) (List.mem_of_getElem? hq)).1
     have h1 := aH4 h hl hk (fun x => jU x) hq (ih (by omega)) (mL hc R rest (i + 1) _ hd2 hil hf)
     have e1 : (cL e (aA l) (jE (aA l) (R i))).take (k + 1) = (cL e (aA l) (jE (aA l) (R i))).take k ++ [q] := by rw [List.take_add_one, hq]; rfl
     have e2 : ∀ (f : List ByteArray -> aD) (a : aD), (a ++ [q]).flatMap f = a.flatMap f ++ f q := fun f a => by simp
     rw [e1, e2, <- e1]
     exact h1
   have h2 := key _ (Nat.le_refl _)
   rw [List.take_length] at h2
   exact h2
  ·rename_i hk
   exact mL hc R rest (i + 1) e hd2 hil (h.skip hl hk)
theorem aI6 {r : cN} (hc : bD r = 0) (R : Nat -> aD) : IsBinds r.2.1 R (aKg r R) := mL hc R r.2.1 0 ([], []) rfl (Nat.zero_le _) (FromOk.start _ _)
end Go.Proofs.YtinnmeiphbdogaaGreat
/- join: comparisons as tests. -/
namespace Go.Proofs.YtinnmeiphbdogaaGreat
open Go.RowKit Go.Shelf
theorem pL {P : Program} {w : World} {a : Addr} {m : Mode} (f : Fn) (x y : Array Value) : (store a (.func f x y) m).run P w = stored P w a (.func f x y) m := run_store P w a _ m rfl
attribute [local go_sem] pL
def Fast (a b : Nat) (w : World) (P : World -> Prop) : Prop := ∀ W, Kp (fun k => ¬ (a ≤ k /\ k < b)) w W -> P W
theorem Fast.here {a b : Nat} {w : World} {P : World -> Prop} (h : Fast a b w P) : P w := h w (Kp.refl _)
theorem Fast.kp {a b : Nat} {w w' : World} {P : World -> Prop} {G : Nat -> Prop} (h : Fast a b w P) (hk : Kp G w w') (hG : ∀ k, G k -> ¬ (a ≤ k /\ k < b)) : Fast a b w' P := fun W hW => h W ((hk.mono fun k _ hg => hG k hg).trans hW)
theorem Fast.mono {a b a' b' : Nat} {w : World} {P : World -> Prop} (h : Fast a b w P) (ha : a' ≤ a) (hb : b ≤ b') : Fast a' b' w P := fun W hW => h W (hW.mono fun k _ hk h2 => hk ⟨by omega, by omega⟩)
theorem Fast.ext {a b : Nat} {w w' : World} {P : World -> Prop} (h : Fast a b w P) (hk : Ext w w') : Fast a b w' P := h.kp hk fun _ h => h.elim
def eH (V : List ByteArray) (a : Int) (s : ByteArray) : ByteArray := if a < 0 then s else bE V a.toNat
set_option maxHeartbeats 1000000 in
theorem xU {w : World} {ra : Option Addr} {cp nv : Nat} {V : List ByteArray} (a : Int) (k : Int) (s : ByteArray) (hV : V.length = nv) (hc : CellsAt w ra (strs V)) (ha : a < nv) (hn : nv ≤ 1048576) (ha2 : -1 ≤ a) :
 Calls Tryz.prog 153 #[.slice ra nv cp, .int .i64 a, wF k s] w (RetN w fun w' v => v = .string (eH V a s)) := by
 go_enter Tryz.func153, Tryz.ntmps153
 obtain ⟨w1, e1⟩ : ∃ w1, w.alloc (.cells #[.int .i64 k, .string s] 38) = w1 := ⟨_, rfl⟩
 obtain ⟨g0, eg0⟩ : ∃ g, w.heap.size = g := ⟨_, rfl⟩
 have hB : Blk w1 g0 [.int .i64 k, .string s] 38 := by rw [<- e1, <- eg0]; exact Blk.new w _ _
 have hx : Ext w w1 := by rw [<- e1]; exact (Kp.refl w).alloc _
 have b1 : w1.cell? ⟨g0, 1, none⟩ = some (.string s) := by rw [hB.cell']; rfl
 have H1 := qH hx
 have hc1 := hc.ext hx
 clear hx hB hc
 by_cases h0 : a < 0
 ·have HP := qH (show eH V a s = s from if_pos h0)
  clear hc1 ha ha2
  go_wp2
  go_ret
  exact RetN.mk H1.out (by rw [HP.out]; rfl)
 ·obtain ⟨i, rfl⟩ : ∃ i : Nat, a = i := ⟨a.toNat, by omega⟩
  have hi : i < nv := by omega
  obtain ⟨x, hx⟩ : ∃ x, V[i]? = some x := ⟨_, qG (by omega)⟩
  have HP := qH (show eH V (i : Int) s = x from by
   unfold eH bE
   rw [if_neg h0, Int.toNat_natCast, List.getD_eq_getElem?_getD, hx]; rfl)
  obtain ⟨b, o, e, c0⟩ := hc1 i (.string x) (by simp [strs, hx])
  subst e
  clear hc1 ha ha2 hx
  go_wp2
  go_ret
  exact RetN.mk H1.out (by rw [HP.out]; rfl)
theorem aJw (x y : ByteArray) : (Op.bytesLess x.toList y.toList || x.toList == y.toList) = !Op.bytesLess y.toList x.toList := by
 have sw := cI x.toList y.toList
 have no : ∀ {u v : List UInt8}, ¬ aZ u v < 0 -> Op.bytesLess u v = false := fun {u v} h => by
  cases h2 : Op.bytesLess u v with
  | false => rfl
  | true => exact absurd (eO.2 h2) h
 rcases jA x.toList y.toList with h | h | h
 ·rw [eO.1 (by omega : aZ x.toList y.toList < 0), no (by omega : ¬ aZ y.toList x.toList < 0)]; rfl
 ·have e := dD (dS h)
  subst e
  rw [no (by rw [dT]; omega : ¬ aZ x.toList x.toList < 0)]; simp
 ·have h2 : aZ y.toList x.toList < 0 := by omega
  have hne : ¬ x = y := fun e => by subst e; rw [dT] at h2; omega
  rw [eO.1 h2, no (by omega : ¬ aZ x.toList y.toList < 0), kP hne]; rfl
set_option maxRecDepth 100000 in
set_option maxHeartbeats 4000000 in
theorem aG7 {w : World} {ra : Option Addr} {cp nv ob ab lb bb : Nat} {V : List ByteArray} (a b op lk rk : Int) (lt rt : ByteArray) (hV : V.length = nv) (hc : CellsAt w ra (strs V)) (ha : a < nv) (hb : b < nv) (hn : nv ≤ 1048576) (ha2 : -1 ≤ a) (hb2 : -1 ≤ b)
 (o0 : w.cell? ⟨ob, 0, none⟩ = some (.func (Fn.func 153) #[] #[])) (a0 : w.cell? ⟨ab, 0, none⟩ = some (.int .i64 a)) (b0 : w.cell? ⟨bb, 0, none⟩ = some (.int .i64 b))
 (l3 : w.cell? ⟨lb, 3, none⟩ = some (.int .i64 op)) (l4 : w.cell? ⟨lb, 4, none⟩ = some (.int .i64 lk)) (l5 : w.cell? ⟨lb, 5, none⟩ = some (.string lt)) (l6 : w.cell? ⟨lb, 6, none⟩ = some (.int .i64 rk)) (l7 : w.cell? ⟨lb, 7, none⟩ = some (.string rt)) :
 Calls Tryz.prog 154 (#[.slice ra nv cp] ++ #[.pointer (some ⟨ob, 0, none⟩), .pointer (some ⟨ab, 0, none⟩), .pointer (some ⟨lb, 0, none⟩), .pointer (some ⟨bb, 0, none⟩)]) w (RetN w fun w' v => v = .bool (opB op (eH V a lt) (eH V b rt))) := by
 have HL := qH (fun W (hW : Ext w W) => xU (cp := cp) a lk lt hV (hc.ext hW) ha hn ha2)
 have HR := qH (fun W (hW : Ext w W) => xU (cp := cp) b rk rt hV (hc.ext hW) hb hn hb2)
 obtain ⟨x, ex⟩ : ∃ x, eH V a lt = x := ⟨_, rfl⟩
 obtain ⟨y, ey⟩ : ∃ y, eH V b rt = y := ⟨_, rfl⟩
 rw [ex] at HL
 rw [ey] at HR
 rw [ex, ey]
 have HJ := qH (show ∀ w', Ext w w' -> (fun w' : World => w'.cell? ⟨ob, 0, none⟩ = some (.func (Fn.func 153) #[] #[]) /\ w'.cell? ⟨ab, 0, none⟩ = some (.int .i64 a) /\ w'.cell? ⟨bb, 0, none⟩ = some (.int .i64 b) /\ w'.cell? ⟨lb, 4, none⟩ = some (.int .i64 lk) /\ w'.cell? ⟨lb, 5, none⟩ = some (.string lt) /\ w'.cell? ⟨lb, 6, none⟩ = some (.int .i64 rk) /\ w'.cell? ⟨lb, 7, none⟩ = some (.string rt)) w' from fun w' hw' =>
  ⟨hw'.cell o0 id, hw'.cell a0 id, hw'.cell b0 id, hw'.cell l4 id, hw'.cell l5 id, hw'.cell l6 id, hw'.cell l7 id⟩)
 have HL3 := qH l3
 clear hc ha hb ha2 hb2 hV ex ey l3
 go_enter Tryz.func154, Tryz.ntmps154
 go_wp2
 refine aT (fun w' : World => w'.cell? ⟨ob, 0, none⟩ = some (.func (Fn.func 153) #[] #[]) /\ w'.cell? ⟨ab, 0, none⟩ = some (.int .i64 a) /\ w'.cell? ⟨bb, 0, none⟩ = some (.int .i64 b) /\ w'.cell? ⟨lb, 4, none⟩ = some (.int .i64 lk) /\ w'.cell? ⟨lb, 5, none⟩ = some (.string lt) /\ w'.cell? ⟨lb, 6, none⟩ = some (.int .i64 rk) /\ w'.cell? ⟨lb, 7, none⟩ = some (.string rt)) [] (by kernel_rfl) (HJ.out _ (Kp.refl w).drew) (fun hHeld => ?_)
 refine dI 0 ?_; try simp only [Act.put,sI,sZ,sS]
 refine dF 1 ?_; try simp only [Act.put,sI,sZ,sS]
 refine dI 2 ?_; try simp only [Act.put,sI,sZ,sS]
 refine dF 3 ?_; try simp only [Act.put,sI,sZ,sS]
 refine dI 4 ?_; try simp only [Act.put,sI,sZ,sS]
 refine dI 6 ?_; try simp only [Act.put,sI,sZ,sS]
 refine dF 7 ?_; try simp only [Act.put,sI,sZ,sS]
 refine dI 8 ?_; try simp only [Act.put,sI,sZ,sS]
 refine dF 9 ?_; try simp only [Act.put,sI,sZ,sS]
 refine dI 10 ?_; try simp only [Act.put,sI,sZ,sS]
 refine aE (i := 5) ?_
 refine aF (i := 5) rfl (fun K hK => ?_)
 go_simp
 (refine (HL.out _ (Kp.refl w).drew).mono ?_; rintro e w1 ⟨v1, rfl, hk1, rfl⟩; have X1 := qH (show Ext w w1 from ((Kp.refl w).drew).trans hk1); clear hk1)
 go_wp2_with fail
 refine hK.out _ _ ?_ (fun hHeld => ?_)
 ·(try dsimp only); (exact HJ.out _ X1.out)
 clear hK K; (try simp only [Act.put,sI,sZ,sS])
 refine aE (i := 11) ?_
 refine aF (i := 11) rfl (fun K hK => ?_)
 go_simp
 (refine (HR.out _ X1.out).mono ?_; rintro e w2 ⟨v2, rfl, hk2, rfl⟩; have X2 := qH (show Ext w w2 from X1.out.trans hk2); clear hk2)
 go_wp2_with fail
 refine hK.out _ _ ?_ (fun hHeld => ?_)
 ·(try dsimp only); (exact HJ.out _ X2.out)
 clear hK K; (try simp only [Act.put,sI,sZ,sS])
 refine dF 12 ?_; try simp only [Act.put,sI,sZ,sS]
 refine dF 13 ?_; try simp only [Act.put,sI,sZ,sS]
 refine aK (by kernel_rfl) ?_ _
 clear hHeld
 have l3 := X2.out.cell HL3.out id
 by_cases h1 : op = 1
 ·subst h1
  have hq := sP x y
  go_wp2
  go_ret
  exact RetN.mk X2.out (congrArg Value.bool (by unfold opB; rw [if_pos rfl]))
 ·have g1 : (op == 1) = false := by simp [h1]
  by_cases h2 : op = 2
  ·subst h2
   have hq := sP x y
   go_wp2
   go_ret
   exact RetN.mk X2.out (congrArg Value.bool (by unfold opB; rw [if_neg (by decide), if_pos rfl]; simp))
  ·have g2 : (op == 2) = false := by simp [h2]
   by_cases h3 : op = 3
   ·subst h3
    clear h1 h2
    go_wp2
    go_ret
    exact RetN.mk X2.out (congrArg Value.bool (by unfold opB; rw [if_neg (by decide), if_neg (by decide), if_pos rfl]))
   ·have g3 : (op == 3) = false := by simp [h3]
    have HN := qH (And.intro h1 (And.intro h2 h3))
    clear h1 h2 h3
    go_wp2
    go_ret
    exact RetN.mk X2.out (congrArg Value.bool (by unfold opB; rw [if_neg HN.out.1, if_neg HN.out.2.1, if_neg HN.out.2.2]; exact aJw x y))
def cP (N : List ByteArray) (k : Int) (s : ByteArray) : Int := if k = 1 then cH (fun x => decide (x = s)) N else -1
theorem aGv {α : Type} (q : α -> Bool) (l : List α) : cH q l < l.length /\ -1 ≤ cH q l := by
 unfold cH
 split
 ·rename_i h
  obtain ⟨x, hx, hq⟩ := List.any_eq_true.1 h
  have := List.findIdx_lt_length_of_exists ⟨x, hx, hq⟩
  omega
 ·omega
theorem wO (N : List ByteArray) (k : Int) (s : ByteArray) : cP N k s < N.length /\ -1 ≤ cP N k s := by
 unfold cP
 split
 ·exact aGv _ _
 ·omega
structure CmpAt (w X : World) (g0 : Nat) (lc : List Value) (A B : Int) : Prop where
 lit : Blk X g0 lc 40
 res : Blk X (g0 + 1) [.int .i64 0, .nilFunc] 180
 a : Blk X (g0 + 1 + 1) [.int .i64 A] 3
 b : Blk X (g0 + 1 + 1 + 1) [.int .i64 B] 3
 kp : Ext w X
theorem CmpAt.ext {w X Y : World} {g0 : Nat} {lc : List Value} {A B : Int} (h : CmpAt w X g0 lc A B) (hk : Ext X Y) : CmpAt w Y g0 lc A B := ⟨h.lit.ext hk, h.res.ext hk, h.a.ext hk, h.b.ext hk, h.kp.trans hk⟩
theorem CmpAt.putA {w X : World} {g0 : Nat} {lc : List Value} {A B : Int} (h : CmpAt w X g0 lc A B) (hg : w.heap.size ≤ g0) (z : Int) : CmpAt w (X.setCell ⟨g0 + 1 + 1, 0, none⟩ (.int .i64 z)) g0 lc z B :=
 ⟨h.lit.other (by show g0 ≠ g0 + 1 + 1; omega) _, h.res.other (by show g0 + 1 ≠ g0 + 1 + 1; omega) _, h.a.set 0 _, h.b.other (by show g0 + 1 + 1 + 1 ≠ g0 + 1 + 1; omega) _, h.kp.setCell (p := ⟨g0 + 1 + 1, 0, none⟩) (fun h2 => by have h3 : g0 + 1 + 1 < w.heap.size := h2; omega) _⟩
theorem CmpAt.putB {w X : World} {g0 : Nat} {lc : List Value} {A B : Int} (h : CmpAt w X g0 lc A B) (hg : w.heap.size ≤ g0) (z : Int) : CmpAt w (X.setCell ⟨g0 + 1 + 1 + 1, 0, none⟩ (.int .i64 z)) g0 lc A z :=
 ⟨h.lit.other (by show g0 ≠ g0 + 1 + 1 + 1; omega) _, h.res.other (by show g0 + 1 ≠ g0 + 1 + 1 + 1; omega) _, h.a.other (by show g0 + 1 + 1 ≠ g0 + 1 + 1 + 1; omega) _, h.b.set 0 _, h.kp.setCell (p := ⟨g0 + 1 + 1 + 1, 0, none⟩) (fun h2 => by have h3 : g0 + 1 + 1 + 1 < w.heap.size := h2; omega) _⟩
theorem CmpAt.close {w X : World} {g0 nn : Nat} {k op lk rk : Int} {p lt rt : ByteArray} {sl : Value} {A B : Int} (h : CmpAt w X g0 [.int .i64 k, .string p, sl, .int .i64 op, .int .i64 lk, .string lt, .int .i64 rk, .string rt] A B) (hg : w.heap.size = g0) (hA : A < nn /\ -1 ≤ A) (hB : B < nn /\ -1 ≤ B) (hn : nn ≤ 1048576) :
 ∃ t : TestZ, Value.agg #[.int .i64 (max A B), .func (Fn.func 154) #[] #[.pointer (some ⟨X.heap.size, 0, none⟩), .pointer (some ⟨g0 + 1 + 1, 0, none⟩), .pointer (some ⟨g0, 0, none⟩), .pointer (some ⟨g0 + 1 + 1 + 1, 0, none⟩)]] = .agg #[.int .i64 t.last, t.val] /\ t.last = max A B /\ (∀ V, t.ask V = opB op (eH V A lt) (eH V B rt)) /\
  ∀ W, Blk W g0 [.int .i64 k, .string p, sl, .int .i64 op, .int .i64 lk, .string lt, .int .i64 rk, .string rt] 40 -> Blk W (g0 + 1 + 1) [.int .i64 A] 3 -> Blk W (g0 + 1 + 1 + 1) [.int .i64 B] 3 -> Blk W X.heap.size [.func (Fn.func 153) #[] #[]] 215 -> TestOk W nn t := by
 refine ⟨⟨154, #[.pointer (some ⟨X.heap.size, 0, none⟩), .pointer (some ⟨g0 + 1 + 1, 0, none⟩), .pointer (some ⟨g0, 0, none⟩), .pointer (some ⟨g0 + 1 + 1 + 1, 0, none⟩)], max A B, fun V => opB op (eH V A lt) (eH V B rt)⟩, rfl, rfl, fun V => rfl, fun W b1 b2 b3 b4 => ⟨enters_of Tryz.func154 (by kernel_rfl) rfl, fun W2 hW2 ra cp V hV hc => ?_⟩⟩
 replace b1 := b1.ext hW2
 replace b2 := b2.ext hW2
 replace b3 := b3.ext hW2
 replace b4 := b4.ext hW2
 exact aG7 A B op lk rk lt rt hV hc hA.1 hB.1 hn hA.2 hB.2 (by rw [b4.cell']; rfl) (by rw [b2.cell']; rfl) (by rw [b3.cell']; rfl) (by rw [b1.cell']; rfl) (by rw [b1.cell']; rfl) (by rw [b1.cell']; rfl) (by rw [b1.cell']; rfl) (by rw [b1.cell']; rfl)
theorem jL {w X9 : World} {g0 nn gX : Nat} {k op lk rk A B M : Int} {p lt rt : ByteArray} {sl : Value} {tm : Array Value} (H9 : CmpAt w X9 g0 [.int .i64 k, .string p, sl, .int .i64 op, .int .i64 lk, .string lt, .int .i64 rk, .string rt] A B /\ Blk X9 gX [.func (Fn.func 153) #[] #[]] 215) (hg : w.heap.size = g0) (hgX : g0 + 1 + 1 + 1 < gX) (hM : max A B = M) (ht : tm[4]?.getD undef = .pointer (some ⟨g0 + 1, 0, none⟩))
 (HT : ∃ t : TestZ, Value.agg #[.int .i64 (max A B), .func (Fn.func 154) #[] #[.pointer (some ⟨gX, 0, none⟩), .pointer (some ⟨g0 + 1 + 1, 0, none⟩), .pointer (some ⟨g0, 0, none⟩), .pointer (some ⟨g0 + 1 + 1 + 1, 0, none⟩)]] = .agg #[.int .i64 t.last, t.val] /\ t.last = max A B /\ (∀ V, t.ask V = opB op (eH V A lt) (eH V B rt)) /\
  ∀ W, Blk W g0 [.int .i64 k, .string p, sl, .int .i64 op, .int .i64 lk, .string lt, .int .i64 rk, .string rt] 40 -> Blk W (g0 + 1 + 1) [.int .i64 A] 3 -> Blk W (g0 + 1 + 1 + 1) [.int .i64 B] 3 -> Blk W gX [.func (Fn.func 153) #[] #[]] 215 -> TestOk W nn t) :
 bodyPost Tryz.prog Tryz.f121 (RetN w fun w' v => ∃ t : TestZ, v = .agg #[.int .i64 t.last, t.val] /\ t.last = max A B /\ (∀ V, t.ask V = opB op (eH V A lt) (eH V B rt)) /\ Fast g0 w'.heap.size w' fun W => TestOk W nn t) .ret
  {tmps := tm, defers := [] } ((X9.setCell ⟨g0 + 1, 0, none⟩ (.int .i64 M)).setCell ⟨g0 + 1, 1, none⟩ (.func (Fn.func 154) #[] #[.pointer (some ⟨gX, 0, none⟩), .pointer (some ⟨g0 + 1 + 1, 0, none⟩), .pointer (some ⟨g0, 0, none⟩), .pointer (some ⟨g0 + 1 + 1 + 1, 0, none⟩)])) := by
 obtain ⟨t, et, htl, hask, hok⟩ := HT
 obtain ⟨fv, efv⟩ : ∃ x, Value.func (Fn.func 154) #[] #[.pointer (some ⟨gX, 0, none⟩), .pointer (some ⟨g0 + 1 + 1, 0, none⟩), .pointer (some ⟨g0, 0, none⟩), .pointer (some ⟨g0 + 1 + 1 + 1, 0, none⟩)] = x := ⟨_, rfl⟩
 rw [efv, hM] at et
 rw [efv]
 obtain ⟨X, eX⟩ : ∃ x, (X9.setCell ⟨g0 + 1, 0, none⟩ (.int .i64 M)).setCell ⟨g0 + 1, 1, none⟩ fv = x := ⟨_, rfl⟩
 have hres : Blk X (g0 + 1) [.int .i64 M, fv] 180 := by rw [<- eX]; exact (H9.1.res.set 0 _).set 1 _
 have hkp : Kp (fun k => k = g0 + 1) X9 X := by rw [<- eX]; exact Kp.setCell (F := fun k => k = g0 + 1) (p := ⟨g0 + 1, 1, none⟩) (Kp.setCell (F := fun k => k = g0 + 1) (p := ⟨g0 + 1, 0, none⟩) (Kp.refl X9) (fun _ => rfl) _) (fun _ => rfl) _
 rw [eX]
 have u0 : X.cell? ⟨g0 + 1, 0, none⟩ = some (.int .i64 M) := by rw [hres.cell']; rfl
 have u1 : X.cell? ⟨g0 + 1, 1, none⟩ = some fv := by rw [hres.cell']; rfl
 refine bodyPost_ret (v := .agg #[.int .i64 M, fv]) (by simp [results, Tryz.results121, go_sem, ht, u0, u1]) rfl ?_
 refine RetN.mk (H9.1.kp.trans' hkp fun i hi e => ?_) ⟨t, et, htl, hask, fun W hW => ?_⟩
 ·have e' : i = g0 + 1 := e
  omega
 ·have inn : ∀ {g : Nat} {cs : List Value} {e : TypeId}, Blk X9 g cs e -> g ≠ g0 + 1 -> g0 ≤ g -> Blk W g cs e := fun {g cs e} hb hne hge => by
   have hbX := hb.kp hkp hne
   exact hbX.kp hW fun h => h ⟨by omega, hbX.lt⟩
  exact hok W (inn H9.1.lit (by omega) (Nat.le_refl _)) (inn H9.1.a (by omega) (by omega)) (inn H9.1.b (by omega) (by omega)) (inn H9.2 (by omega) (by omega))
set_option maxRecDepth 100000 in
set_option maxHeartbeats 4000000 in
theorem qD {w : World} {na a : Option Addr} {m cap nn nc : Nat} (N : List ByteArray) (k : Int) (p : ByteArray) (op lk : Int) (lt : ByteArray) (rk : Int) (rt : ByteArray) (hN : nn = N.length) (hc : CellsAt w na (strs N)) (hn : nn ≤ 1048576) :
 Calls Tryz.prog 121 #[litV k p a m cap op lk lt rk rt, .slice na nn nc] w (RetN w fun w' v => ∃ t : TestZ, v = .agg #[.int .i64 t.last, t.val] /\ t.last = max (cP N lk lt) (cP N rk rt) /\ (∀ V, t.ask V = opB op (eH V (cP N lk lt) lt) (eH V (cP N rk rt) rt)) /\ Fast w.heap.size w'.heap.size w' fun W => TestOk W nn t) := by
 have HIL := qH (fun W (hW : Ext w W) => mV N lt na nn nc W hN (hc.ext hW) (by omega))
 have HIR := qH (fun W (hW : Ext w W) => mV N rt na nn nc W hN (hc.ext hW) (by omega))
 have HPL := qH (show cP N lk lt < nn /\ -1 ≤ cP N lk lt from by rw [hN]; exact wO N lk lt)
 have HPR := qH (show cP N rk rt < nn /\ -1 ≤ cP N rk rt from by rw [hN]; exact wO N rk rt)
 clear hc hN
 obtain ⟨w4, e4⟩ : ∃ x, (((w.alloc (.cells #[.int .i64 k, .string p, .slice a m cap, .int .i64 op, .int .i64 lk, .string lt, .int .i64 rk, .string rt] 40)).alloc (.cells #[.int .i64 0, .nilFunc] 180)).alloc (.cells #[.int .i64 (-1)] 3)).alloc (.cells #[.int .i64 (-1)] 3) = x := ⟨_, rfl⟩
 obtain ⟨g0, eg0⟩ : ∃ g, w.heap.size = g := ⟨_, rfl⟩
 obtain ⟨w1, e1⟩ : ∃ x, w.alloc (.cells #[.int .i64 k, .string p, .slice a m cap, .int .i64 op, .int .i64 lk, .string lt, .int .i64 rk, .string rt] 40) = x := ⟨_, rfl⟩
 obtain ⟨w2, e2⟩ : ∃ x, w1.alloc (.cells #[.int .i64 0, .nilFunc] 180) = x := ⟨_, rfl⟩
 obtain ⟨w3, e3⟩ : ∃ x, w2.alloc (.cells #[.int .i64 (-1)] 3) = x := ⟨_, rfl⟩
 rw [e1, e2, e3] at e4
 have s1 : w1.heap.size = g0 + 1 := by rw [<- e1, aJ, eg0]
 have s2 : w2.heap.size = g0 + 1 + 1 := by rw [<- e2, aJ, s1]
 have s3 : w3.heap.size = g0 + 1 + 1 + 1 := by rw [<- e3, aJ, s2]
 have x1 : Ext w w1 := by rw [<- e1]; exact (Kp.refl w).alloc _
 have x2 : Ext w1 w2 := by rw [<- e2]; exact (Kp.refl w1).alloc _
 have x3 : Ext w2 w3 := by rw [<- e3]; exact (Kp.refl w2).alloc _
 have x4 : Ext w3 w4 := by rw [<- e4]; exact (Kp.refl w3).alloc _
 have hC := qH (show CmpAt w w4 g0 [.int .i64 k, .string p, .slice a m cap, .int .i64 op, .int .i64 lk, .string lt, .int .i64 rk, .string rt] (-1) (-1) from
  ⟨Blk.ext (by have h := Blk.new w [.int .i64 k, .string p, .slice a m cap, .int .i64 op, .int .i64 lk, .string lt, .int .i64 rk, .string rt] 40; rw [eg0] at h; rw [<- e1]; exact h) (x2.trans (x3.trans x4)),
   Blk.ext (by have h := Blk.new w1 [.int .i64 0, .nilFunc] 180; rw [s1] at h; rw [<- e2]; exact h) (x3.trans x4),
   Blk.ext (by have h := Blk.new w2 [.int .i64 (-1)] 3; rw [s2] at h; rw [<- e3]; exact h) x4,
   by have h := Blk.new w3 [.int .i64 (-1)] 3; rw [s3] at h; rw [<- e4]; exact h, x1.trans (x2.trans (x3.trans x4))⟩)
 clear x1 x2 x3 x4 s1 s2 s3
 have ew4 : (((w.alloc (.cells #[.int .i64 k, .string p, .slice a m cap, .int .i64 op, .int .i64 lk, .string lt, .int .i64 rk, .string rt] 40)).alloc (.cells #[.int .i64 0, .nilFunc] 180)).alloc (.cells #[.int .i64 (-1)] 3)).alloc (.cells #[.int .i64 (-1)] 3) = w4 := by rw [e1, e2, e3, e4]
 clear e1 e2 e3 e4 w1 w2 w3
 have t0 : w4.cell? ⟨g0, 4, none⟩ = some (.int .i64 lk) := by rw [hC.out.lit.cell']; rfl
 have t1 : w4.cell? ⟨g0, 5, none⟩ = some (.string lt) := by rw [hC.out.lit.cell']; rfl
 have t2 : w4.cell? ⟨g0, 6, none⟩ = some (.int .i64 rk) := by rw [hC.out.lit.cell']; rfl
 by_cases hl : lk = 1
 ·subst hl
  by_cases hr : rk = 1
  ·subst hr
   have eL : cP N 1 lt = cH (fun x => decide (x = lt)) N := if_pos rfl
   have eR : cP N 1 rt = cH (fun x => decide (x = rt)) N := if_pos rfl
   obtain ⟨za, eza⟩ : ∃ z, cH (fun x => decide (x = lt)) N = z := ⟨_, rfl⟩
   rw [eza] at HIL eL
   obtain ⟨zb, ezb⟩ : ∃ z, cH (fun x => decide (x = rt)) N = z := ⟨_, rfl⟩
   rw [ezb] at HIR eR
   rw [eL] at HPL ⊢
   rw [eR] at HPR ⊢
   clear eL eR eza ezb
   go_enter Tryz.func121, Tryz.ntmps121
   go_wp2_with fail
   refine (HIL.out w4 hC.out.kp).mono ?_
   rintro e w5 ⟨v, rfl, hk5, rfl⟩
   have H5 := qH (hC.out.ext hk5)
   obtain ⟨X5, eX5⟩ : ∃ x, w5.setCell ⟨g0 + 1 + 1, 0, none⟩ (.int .i64 za) = x := ⟨_, rfl⟩
   have H6 := qH (show CmpAt w X5 g0 [.int .i64 k, .string p, .slice a m cap, .int .i64 op, .int .i64 1, .string lt, .int .i64 1, .string rt] za (-1) from by rw [<- eX5]; exact H5.out.putA (by omega) za)
   have u0 : w5.cell? ⟨g0 + 1 + 1, 0, none⟩ = some (.int .i64 (-1)) := by rw [H5.out.a.cell']; rfl
   have u1 := H5.out.a.free 0
   clear hk5 t0 t1 t2
   have v2 : X5.cell? ⟨g0, 6, none⟩ = some (.int .i64 1) := by rw [H6.out.lit.cell']; rfl
   have v3 : X5.cell? ⟨g0, 7, none⟩ = some (.string rt) := by rw [H6.out.lit.cell']; rfl
   go_wp2_with fail
   refine (HIR.out X5 H6.out.kp).mono ?_
   rintro e w6 ⟨v, rfl, hk6, rfl⟩
   have H7 := qH (H6.out.ext hk6)
   obtain ⟨X7, eX7⟩ : ∃ x, w6.setCell ⟨g0 + 1 + 1 + 1, 0, none⟩ (.int .i64 zb) = x := ⟨_, rfl⟩
   have H8 := qH (show CmpAt w X7 g0 [.int .i64 k, .string p, .slice a m cap, .int .i64 op, .int .i64 1, .string lt, .int .i64 1, .string rt] za zb from by rw [<- eX7]; exact H7.out.putB (by omega) zb)
   have y0 : w6.cell? ⟨g0 + 1 + 1 + 1, 0, none⟩ = some (.int .i64 (-1)) := by rw [H7.out.b.cell']; rfl
   have y1 := H7.out.b.free 0
   clear hk6 v2 v3 u0 u1
   obtain ⟨X8, eX8⟩ : ∃ x, X7.alloc (.cells #[.nilFunc] 215) = x := ⟨_, rfl⟩
   obtain ⟨gX, egX⟩ : ∃ x, X7.heap.size = x := ⟨_, rfl⟩
   have B8 : Blk X8 gX [.nilFunc] 215 := by rw [<- eX8, <- egX]; exact Blk.new X7 _ _
   have x8 : Ext X7 X8 := by rw [<- eX8]; exact (Kp.refl X7).alloc _
   have z0 : X8.cell? ⟨gX, 0, none⟩ = some .nilFunc := by rw [B8.cell']; rfl
   have z1 := B8.free 0
   obtain ⟨X9, eX9⟩ : ∃ x, X8.setCell ⟨gX, 0, none⟩ (.func (Fn.func 153) #[] #[]) = x := ⟨_, rfl⟩
   have B9 : Blk X9 gX [.func (Fn.func 153) #[] #[]] 215 := by rw [<- eX9]; exact B8.set 0 _
   have hgX : g0 + 1 + 1 + 1 < gX := by rw [<- egX]; exact H8.out.b.lt
   have x9 : Ext X7 X9 := by rw [<- eX9]; exact x8.setCell (p := ⟨gX, 0, none⟩) (fun h2 => by have h3 : gX < X7.heap.size := h2; omega) _
   have H9 := qH (And.intro (H8.out.ext x9) B9)
   have a9 : X9.cell? ⟨g0 + 1 + 1, 0, none⟩ = some (.int .i64 za) := by rw [H9.out.1.a.cell']; rfl
   have b9 : X9.cell? ⟨g0 + 1 + 1 + 1, 0, none⟩ = some (.int .i64 zb) := by rw [H9.out.1.b.cell']; rfl
   have r0 : X9.cell? ⟨g0 + 1, 0, none⟩ = some (.int .i64 0) := by rw [H9.out.1.res.cell']; rfl
   have r1 : X9.cell? ⟨g0 + 1, 1, none⟩ = some .nilFunc := by rw [H9.out.1.res.cell']; rfl
   have rf0 := H9.out.1.res.free 0
   have rf1 := H9.out.1.res.free 1
   have HT := qH (CmpAt.close (nn := nn) H8.out eg0 HPL.out HPR.out hn)
   rw [egX] at HT
   have HGX := qH (And.intro hgX eg0)
   clear B8 x8 B9 x9 hgX
   go_wp2
   all_goals
    first | (rw [HGX.out.2]; refine jL H9.out HGX.out.2 HGX.out.1 ?_ rfl HT.out) | refine jL H9.out HGX.out.2 HGX.out.1 ?_ rfl HT.out
    omega
  ·skip
   have br : (rk == 1) = false := by simp [hr]
   have eL : cP N 1 lt = cH (fun x => decide (x = lt)) N := if_pos rfl
   have eR : cP N rk rt = -1 := if_neg hr
   obtain ⟨za, eza⟩ : ∃ z, cH (fun x => decide (x = lt)) N = z := ⟨_, rfl⟩
   rw [eza] at HIL eL
   rw [eL] at HPL ⊢
   rw [eR] at HPR ⊢
   clear eL eR eza hr
   go_enter Tryz.func121, Tryz.ntmps121
   go_wp2_with fail
   refine (HIL.out w4 hC.out.kp).mono ?_
   rintro e w5 ⟨v, rfl, hk5, rfl⟩
   have H5 := qH (hC.out.ext hk5)
   obtain ⟨X5, eX5⟩ : ∃ x, w5.setCell ⟨g0 + 1 + 1, 0, none⟩ (.int .i64 za) = x := ⟨_, rfl⟩
   have H6 := qH (show CmpAt w X5 g0 [.int .i64 k, .string p, .slice a m cap, .int .i64 op, .int .i64 1, .string lt, .int .i64 rk, .string rt] za (-1) from by rw [<- eX5]; exact H5.out.putA (by omega) za)
   have u0 : w5.cell? ⟨g0 + 1 + 1, 0, none⟩ = some (.int .i64 (-1)) := by rw [H5.out.a.cell']; rfl
   have u1 := H5.out.a.free 0
   clear hk5 t0 t1 t2
   have v2 : X5.cell? ⟨g0, 6, none⟩ = some (.int .i64 rk) := by rw [H6.out.lit.cell']; rfl
   have H8 := H6
   obtain ⟨X8, eX8⟩ : ∃ x, X5.alloc (.cells #[.nilFunc] 215) = x := ⟨_, rfl⟩
   obtain ⟨gX, egX⟩ : ∃ x, X5.heap.size = x := ⟨_, rfl⟩
   have B8 : Blk X8 gX [.nilFunc] 215 := by rw [<- eX8, <- egX]; exact Blk.new X5 _ _
   have x8 : Ext X5 X8 := by rw [<- eX8]; exact (Kp.refl X5).alloc _
   have z0 : X8.cell? ⟨gX, 0, none⟩ = some .nilFunc := by rw [B8.cell']; rfl
   have z1 := B8.free 0
   obtain ⟨X9, eX9⟩ : ∃ x, X8.setCell ⟨gX, 0, none⟩ (.func (Fn.func 153) #[] #[]) = x := ⟨_, rfl⟩
   have B9 : Blk X9 gX [.func (Fn.func 153) #[] #[]] 215 := by rw [<- eX9]; exact B8.set 0 _
   have hgX : g0 + 1 + 1 + 1 < gX := by rw [<- egX]; exact H8.out.b.lt
   have x9 : Ext X5 X9 := by rw [<- eX9]; exact x8.setCell (p := ⟨gX, 0, none⟩) (fun h2 => by have h3 : gX < X5.heap.size := h2; omega) _
   have H9 := qH (And.intro (H8.out.ext x9) B9)
   have a9 : X9.cell? ⟨g0 + 1 + 1, 0, none⟩ = some (.int .i64 za) := by rw [H9.out.1.a.cell']; rfl
   have b9 : X9.cell? ⟨g0 + 1 + 1 + 1, 0, none⟩ = some (.int .i64 (-1)) := by rw [H9.out.1.b.cell']; rfl
   have r0 : X9.cell? ⟨g0 + 1, 0, none⟩ = some (.int .i64 0) := by rw [H9.out.1.res.cell']; rfl
   have r1 : X9.cell? ⟨g0 + 1, 1, none⟩ = some .nilFunc := by rw [H9.out.1.res.cell']; rfl
   have rf0 := H9.out.1.res.free 0
   have rf1 := H9.out.1.res.free 1
   have HT := qH (CmpAt.close (nn := nn) H8.out eg0 HPL.out HPR.out hn)
   rw [egX] at HT
   have HGX := qH (And.intro hgX eg0)
   clear B8 x8 B9 x9 hgX
   go_wp2
   all_goals
    first | (rw [HGX.out.2]; refine jL H9.out HGX.out.2 HGX.out.1 ?_ rfl HT.out) | refine jL H9.out HGX.out.2 HGX.out.1 ?_ rfl HT.out
    omega
 ·by_cases hr : rk = 1
  ·subst hr
   have bl : (lk == 1) = false := by simp [hl]
   have eL : cP N lk lt = -1 := if_neg hl
   have eR : cP N 1 rt = cH (fun x => decide (x = rt)) N := if_pos rfl
   obtain ⟨zb, ezb⟩ : ∃ z, cH (fun x => decide (x = rt)) N = z := ⟨_, rfl⟩
   rw [ezb] at HIR eR
   rw [eL] at HPL ⊢
   rw [eR] at HPR ⊢
   clear eL eR hl ezb
   go_enter Tryz.func121, Tryz.ntmps121
   have H6 := hC
   clear t1
   have v2 : w4.cell? ⟨g0, 6, none⟩ = some (.int .i64 1) := by rw [H6.out.lit.cell']; rfl
   have v3 : w4.cell? ⟨g0, 7, none⟩ = some (.string rt) := by rw [H6.out.lit.cell']; rfl
   go_wp2_with fail
   refine (HIR.out w4 H6.out.kp).mono ?_
   rintro e w6 ⟨v, rfl, hk6, rfl⟩
   have H7 := qH (H6.out.ext hk6)
   obtain ⟨X7, eX7⟩ : ∃ x, w6.setCell ⟨g0 + 1 + 1 + 1, 0, none⟩ (.int .i64 zb) = x := ⟨_, rfl⟩
   have H8 := qH (show CmpAt w X7 g0 [.int .i64 k, .string p, .slice a m cap, .int .i64 op, .int .i64 lk, .string lt, .int .i64 1, .string rt] (-1) zb from by rw [<- eX7]; exact H7.out.putB (by omega) zb)
   have y0 : w6.cell? ⟨g0 + 1 + 1 + 1, 0, none⟩ = some (.int .i64 (-1)) := by rw [H7.out.b.cell']; rfl
   have y1 := H7.out.b.free 0
   clear hk6 v2 v3
   obtain ⟨X8, eX8⟩ : ∃ x, X7.alloc (.cells #[.nilFunc] 215) = x := ⟨_, rfl⟩
   obtain ⟨gX, egX⟩ : ∃ x, X7.heap.size = x := ⟨_, rfl⟩
   have B8 : Blk X8 gX [.nilFunc] 215 := by rw [<- eX8, <- egX]; exact Blk.new X7 _ _
   have x8 : Ext X7 X8 := by rw [<- eX8]; exact (Kp.refl X7).alloc _
   have z0 : X8.cell? ⟨gX, 0, none⟩ = some .nilFunc := by rw [B8.cell']; rfl
   have z1 := B8.free 0
   obtain ⟨X9, eX9⟩ : ∃ x, X8.setCell ⟨gX, 0, none⟩ (.func (Fn.func 153) #[] #[]) = x := ⟨_, rfl⟩
   have B9 : Blk X9 gX [.func (Fn.func 153) #[] #[]] 215 := by rw [<- eX9]; exact B8.set 0 _
   have hgX : g0 + 1 + 1 + 1 < gX := by rw [<- egX]; exact H8.out.b.lt
   have x9 : Ext X7 X9 := by rw [<- eX9]; exact x8.setCell (p := ⟨gX, 0, none⟩) (fun h2 => by have h3 : gX < X7.heap.size := h2; omega) _
   have H9 := qH (And.intro (H8.out.ext x9) B9)
   have a9 : X9.cell? ⟨g0 + 1 + 1, 0, none⟩ = some (.int .i64 (-1)) := by rw [H9.out.1.a.cell']; rfl
   have b9 : X9.cell? ⟨g0 + 1 + 1 + 1, 0, none⟩ = some (.int .i64 zb) := by rw [H9.out.1.b.cell']; rfl
   have r0 : X9.cell? ⟨g0 + 1, 0, none⟩ = some (.int .i64 0) := by rw [H9.out.1.res.cell']; rfl
   have r1 : X9.cell? ⟨g0 + 1, 1, none⟩ = some .nilFunc := by rw [H9.out.1.res.cell']; rfl
   have rf0 := H9.out.1.res.free 0
   have rf1 := H9.out.1.res.free 1
   have HT := qH (CmpAt.close (nn := nn) H8.out eg0 HPL.out HPR.out hn)
   rw [egX] at HT
   have HGX := qH (And.intro hgX eg0)
   clear B8 x8 B9 x9 hgX
   go_wp2
   all_goals
    first | (rw [HGX.out.2]; refine jL H9.out HGX.out.2 HGX.out.1 ?_ rfl HT.out) | refine jL H9.out HGX.out.2 HGX.out.1 ?_ rfl HT.out
    omega
  ·skip
   have bl : (lk == 1) = false := by simp [hl]
   have br : (rk == 1) = false := by simp [hr]
   have eL : cP N lk lt = -1 := if_neg hl
   have eR : cP N rk rt = -1 := if_neg hr
   rw [eL] at HPL ⊢
   rw [eR] at HPR ⊢
   clear eL eR hl hr
   go_enter Tryz.func121, Tryz.ntmps121
   have H6 := hC
   clear t1
   have v2 : w4.cell? ⟨g0, 6, none⟩ = some (.int .i64 rk) := by rw [H6.out.lit.cell']; rfl
   have H8 := H6
   obtain ⟨X8, eX8⟩ : ∃ x, w4.alloc (.cells #[.nilFunc] 215) = x := ⟨_, rfl⟩
   obtain ⟨gX, egX⟩ : ∃ x, w4.heap.size = x := ⟨_, rfl⟩
   have B8 : Blk X8 gX [.nilFunc] 215 := by rw [<- eX8, <- egX]; exact Blk.new w4 _ _
   have x8 : Ext w4 X8 := by rw [<- eX8]; exact (Kp.refl w4).alloc _
   have z0 : X8.cell? ⟨gX, 0, none⟩ = some .nilFunc := by rw [B8.cell']; rfl
   have z1 := B8.free 0
   obtain ⟨X9, eX9⟩ : ∃ x, X8.setCell ⟨gX, 0, none⟩ (.func (Fn.func 153) #[] #[]) = x := ⟨_, rfl⟩
   have B9 : Blk X9 gX [.func (Fn.func 153) #[] #[]] 215 := by rw [<- eX9]; exact B8.set 0 _
   have hgX : g0 + 1 + 1 + 1 < gX := by rw [<- egX]; exact H8.out.b.lt
   have x9 : Ext w4 X9 := by rw [<- eX9]; exact x8.setCell (p := ⟨gX, 0, none⟩) (fun h2 => by have h3 : gX < w4.heap.size := h2; omega) _
   have H9 := qH (And.intro (H8.out.ext x9) B9)
   have a9 : X9.cell? ⟨g0 + 1 + 1, 0, none⟩ = some (.int .i64 (-1)) := by rw [H9.out.1.a.cell']; rfl
   have b9 : X9.cell? ⟨g0 + 1 + 1 + 1, 0, none⟩ = some (.int .i64 (-1)) := by rw [H9.out.1.b.cell']; rfl
   have r0 : X9.cell? ⟨g0 + 1, 0, none⟩ = some (.int .i64 0) := by rw [H9.out.1.res.cell']; rfl
   have r1 : X9.cell? ⟨g0 + 1, 1, none⟩ = some .nilFunc := by rw [H9.out.1.res.cell']; rfl
   have rf0 := H9.out.1.res.free 0
   have rf1 := H9.out.1.res.free 1
   have HT := qH (CmpAt.close (nn := nn) H8.out eg0 HPL.out HPR.out hn)
   rw [egX] at HT
   have HGX := qH (And.intro hgX eg0)
   clear B8 x8 B9 x9 hgX
   go_wp2
   all_goals
    first | (rw [HGX.out.2]; refine jL H9.out HGX.out.2 HGX.out.1 ?_ rfl HT.out) | refine jL H9.out HGX.out.2 HGX.out.1 ?_ rfl HT.out
    omega
end Go.Proofs.YtinnmeiphbdogaaGreat
/- join: negated atoms as tests. -/
namespace Go.Proofs.YtinnmeiphbdogaaGreat
open Go.RowKit Go.Shelf
attribute [local go_sem] pL
def wX (vs : List Nat) : Int := match vs.getLast? with | some u => (u : Int) | none => -1
structure TableAt (S : Nat -> Prop) (w : World) (va : Option Addr) (rb : Nat) (iv : Value) (vs : List Nat) (LL : aD) : Prop where
 vars : CellsAt w va (ints (vs.map fun (v : Nat) => (v : Int)))
 rows : RowsAt S w rb iv vs.length LL
 rise : Strict aC LL
theorem TableAt.ext {S : Nat -> Prop} {w w' : World} {va : Option Addr} {rb : Nat} {iv : Value} {vs : List Nat} {LL : aD} (h : TableAt S w va rb iv vs LL) (hk : Ext w w') : TableAt S w' va rb iv vs LL := ⟨h.vars.ext hk, h.rows.ext hk, h.rise⟩
def aK2 (w0 : World) (V : List ByteArray) (vs : List Nat) (n : Nat) (xv iv : Value) (w : World) : Prop := ∃ i : Nat, i ≤ n /\ iv = .int .i64 i /\ Hid (Row w 9 1 xv i (strs ((vs.take i).map (bE V))) (New w0)) /\ Hid (Ext w0 w)
theorem CellsAt.of_eq {w : World} {ao : Option Addr} {xs ys : List Value} (h : CellsAt w ao xs) (e : xs = ys) : CellsAt w ao ys := e ▸ h
set_option maxRecDepth 100000 in
set_option maxHeartbeats 4000000 in
theorem aDg {S : Nat -> Prop} {w : World} {ra va : Option Addr} {cp nv tb n vc rb : Nat} {iv : Value} {V : List ByteArray} {vs : List Nat} {LL : aD} (hT : TableAt S w va rb iv vs LL) (hn : n = vs.length) (hsm : n ≤ 1048576) (hin : ∀ v ∈ vs, v < nv) (hV : V.length = nv) (hc : CellsAt w ra (strs V)) (hnv : nv ≤ 1048576)
 (t0 : w.cell? ⟨tb, 0, none⟩ = some (.slice va n vc)) (t1 : w.cell? ⟨tb, 1, none⟩ = some (.pointer (some ⟨rb, 0, none⟩))) :
 Calls Tryz.prog 152 (#[.slice ra nv cp] ++ #[.pointer (some ⟨tb, 0, none⟩)]) w (RetN w fun w' v => v = .bool (!bH aC LL (vs.map (bE V)))) := by
 have HT := qH hT
 have HN := qH (And.intro hn hin)
 have HV := qH (And.intro hV hc)
 have HT1 := qH t1
 clear hT hn hin hV hc t1
 go_enter Tryz.func152, Tryz.ntmps152
 go_wp2
 go_loopw [4, 10] (fun xv iv wr => aK2 w V vs n xv iv wr) (fun _ iv _ => n - (intOf iv).toNat)
 case atStart => exact ⟨0, Nat.zero_le _, rfl, Row.nil _ _ _ _, Kp.refl w⟩
 case round =>
  obtain ⟨i, hi, rfl, hrow, hex⟩ := hrel
  obtain ⟨xa, xc, exv, hxc, _⟩ := hrow.out.shape
  subst exv
  by_cases hlt : i < n
  ·obtain ⟨v, hv⟩ : ∃ v, vs[i]? = some v := ⟨_, qG (by rw [<- HN.out.1]; exact hlt)⟩
   have hvn : v < nv := HN.out.2 v (List.mem_of_getElem? hv)
   obtain ⟨x, hx⟩ : ∃ x, V[v]? = some x := ⟨_, qG (by rw [HV.out.1]; exact hvn)⟩
   obtain ⟨b1, o1, e1, c1⟩ := (HT.out.vars.ext hex.out) i (.int .i64 v) (by unfold ints; rw [List.map_map, List.getElem?_map, hv]; rfl)
   obtain ⟨b2, o2, e2, c2⟩ := (HV.out.2.ext hex.out) v (.string x) (by simp [strs, hx])
   have HX := qH (And.intro hv (show bE V v = x from bC hx))
   rw [e1, e2]
   clear hv hx hxc e1 e2
   go_wp2_with (first | (at_builtin; refine Halted.out ?_))
   refine Halted.mk (gV fU rfl _ _ rfl (hex.out.alloc _) rfl (hrow.out.alloc _) rfl (CellsAt.one wr _ _) rfl (by simp; rfl) (by omega) (by unfold maxLen; omega) ?_)
   intro v2 w2 hr2 hk2 _ _
   obtain ⟨la, lcap, elv, _, _⟩ := hr2.shape
   subst elv
   have HR2 := qH (And.intro hr2 hk2)
   clear hr2 hk2 c1 c2
   go_wp2
   go_roundw
   case rel =>
    refine ⟨i + 1, by omega, by first | rfl | (congr 1; done) | (congr 1; omega), qH ?_, qH HR2.out.2⟩
    have e : vs.take (i + 1) = vs.take i ++ [v] := by rw [List.take_add_one, HX.out.1]; rfl
    have h := HR2.out.1
    rw [wG, <- HX.out.2, <- List.map_singleton (f := bE V), <- List.map_append, <- e] at h
    exact h
   case measure => simp [intOf]; omega
  ·obtain rfl : i = n := by omega
   have hall : vs.take i = vs := List.take_of_length_le (by rw [<- HN.out.1]; exact Nat.le_refl _)
   have hrow2 := hrow.out
   rw [hall] at hrow2
   have t1 := hex.out.cell HT1.out id
   have hT := HT.out.ext hex.out
   have hlo : ∀ a, xa = some a -> i ≠ 0 -> w.heap.size ≤ a.block /\ a.block < wr.heap.size := fun a ha hne => by
    obtain ⟨g, c, e1, hM⟩ := nS hrow2 (by omega)
    simp only [Value.slice.injEq] at e1
    rw [ha] at e1
    cases e1.1
    obtain ⟨cs, hb⟩ := aP hrow2 (g := g) (by rw [ha]; rfl)
    exact ⟨hM, hb.lt⟩
   have hlen : ((vs.map (bE V)).length : Nat) = i := by rw [List.length_map]; exact HN.out.1.symm
   have hown : ∀ k, dW rb iv k -> k < w.heap.size := RowsQ.ownLt (z := False) HT.out.rows.q
   have HH := qH (aFw (z := False) (x := (xa, i, xc)) hT.rows.q hT.rise (ss := vs.map (bE V)) ⟨⟨hlen.symm, hxc.of_eq (by rw [hall])⟩, by rw [hlen]; omega, fun a ha hne => (hlo a ha hne).2⟩ (fun a ha hne ho => by
    have h1 := hown _ ho
    have h2 := (hlo a ha hne).1
    omega))
   clear hall hrow2 hT hlo hlen hown hxc
   go_wp2_with fail
   refine HH.out.mono ?_
   rintro e w3 ⟨v, rfl, hk3, rfl, -⟩
   have HK := qH (hex.out.trans (Kp.fq hk3))
   clear hk3 t1
   go_wp2
   go_ret
   exact RetN.mk HK.out rfl
theorem pW {S : Nat -> Prop} {w w2 : World} {va : Option Addr} {nv n vc rb lo g0 : Nat} {iv : Value} {vs : List Nat} {LL : aD} {M : Int} {tm : Array Value} (H2 : Ext w w2 /\ Blk w2 g0 [.slice va n vc, .pointer (some ⟨rb, 0, none⟩)] 175 /\ Blk w2 (g0 + 1) [.int .i64 0, .nilFunc] 180) (hg : w.heap.size = g0)
 (hT : Fast lo w.heap.size w fun W => TableAt S W va rb iv vs LL) (hn : n = vs.length) (hsm : n ≤ 1048576) (hin : ∀ v ∈ vs, v < nv) (hnv : nv ≤ 1048576) (hlo : lo ≤ w.heap.size) (hM : wX vs = M) (ht : tm[2]?.getD undef = .pointer (some ⟨g0 + 1, 0, none⟩)) :
 bodyPost Tryz.prog Tryz.f120 (RetN w fun w' v => ∃ t : TestZ, v = .agg #[.int .i64 t.last, t.val] /\ t.last = wX vs /\ (∀ V, t.ask V = !bH aC LL (vs.map (bE V))) /\ Fast lo w'.heap.size w' fun W => TestOk W nv t) .ret
  {tmps := tm, defers := [] } ((w2.setCell ⟨g0 + 1, 0, none⟩ (.int .i64 M)).setCell ⟨g0 + 1, 1, none⟩ (.func (Fn.func 152) #[] #[.pointer (some ⟨g0, 0, none⟩)])) := by
 obtain ⟨fv, efv⟩ : ∃ x, Value.func (Fn.func 152) #[] #[.pointer (some ⟨g0, 0, none⟩)] = x := ⟨_, rfl⟩
 rw [efv]
 obtain ⟨X, eX⟩ : ∃ x, (w2.setCell ⟨g0 + 1, 0, none⟩ (.int .i64 M)).setCell ⟨g0 + 1, 1, none⟩ fv = x := ⟨_, rfl⟩
 have hres : Blk X (g0 + 1) [.int .i64 M, fv] 180 := by rw [<- eX]; exact (H2.2.2.set 0 _).set 1 _
 have hkp : Kp (fun k => k = g0 + 1) w2 X := by rw [<- eX]; exact Kp.setCell (F := fun k => k = g0 + 1) (p := ⟨g0 + 1, 1, none⟩) (Kp.setCell (F := fun k => k = g0 + 1) (p := ⟨g0 + 1, 0, none⟩) (Kp.refl w2) (fun _ => rfl) _) (fun _ => rfl) _
 rw [eX]
 have u0 : X.cell? ⟨g0 + 1, 0, none⟩ = some (.int .i64 M) := by rw [hres.cell']; rfl
 have u1 : X.cell? ⟨g0 + 1, 1, none⟩ = some fv := by rw [hres.cell']; rfl
 have hx : Ext w X := H2.1.trans' hkp fun i hi e => by
  have e' : i = g0 + 1 := e
  omega
 have hbox : Blk X g0 [.slice va n vc, .pointer (some ⟨rb, 0, none⟩)] 175 := H2.2.1.kp hkp (by omega)
 refine bodyPost_ret (v := .agg #[.int .i64 M, fv]) (by simp [results, Tryz.results120, go_sem, ht, u0, u1]) rfl ?_
 refine RetN.mk hx ⟨⟨152, #[.pointer (some ⟨g0, 0, none⟩)], M, fun V => !bH aC LL (vs.map (bE V))⟩, by rw [<- efv]; rfl, hM.symm, fun V => rfl, fun W hW => ?_⟩
 refine ⟨enters_of Tryz.func152 (by kernel_rfl) rfl, fun W2 hW2 ra cp V hV hc => ?_⟩
 have hszX := hx.size
 have hlt := hbox.lt
 have hTX : Fast lo w.heap.size X fun W => TableAt S W va rb iv vs LL := hT.ext hx
 have hTW := (hTX.mono (Nat.le_refl _) hszX) W hW
 have hbW : Blk W g0 [.slice va n vc, .pointer (some ⟨rb, 0, none⟩)] 175 := hbox.kp hW fun h => h ⟨by omega, hlt⟩
 exact aDg (hTW.ext hW2) hn hsm hin hV hc hnv (by rw [(hbW.ext hW2).cell']; rfl) (by rw [(hbW.ext hW2).cell']; rfl)
set_option maxRecDepth 100000 in
set_option maxHeartbeats 4000000 in
theorem rR {S : Nat -> Prop} {w : World} {va : Option Addr} {nv n vc rb lo : Nat} {iv : Value} {vs : List Nat} {LL : aD} (hT : Fast lo w.heap.size w fun W => TableAt S W va rb iv vs LL) (hn : n = vs.length) (hsm : n ≤ 1048576) (hin : ∀ v ∈ vs, v < nv) (hnv : nv ≤ 1048576) (hlo : lo ≤ w.heap.size) :
 Calls Tryz.prog 120 #[.agg #[.slice va n vc, .pointer (some ⟨rb, 0, none⟩)]] w (RetN w fun w' v => ∃ t : TestZ, v = .agg #[.int .i64 t.last, t.val] /\ t.last = wX vs /\ (∀ V, t.ask V = !bH aC LL (vs.map (bE V))) /\ Fast lo w'.heap.size w' fun W => TestOk W nv t) := by
 have HT := qH hT
 have HN := qH (And.intro hn (And.intro hin hlo))
 obtain ⟨w1, e1⟩ : ∃ x, w.alloc (.cells #[.slice va n vc, .pointer (some ⟨rb, 0, none⟩)] 175) = x := ⟨_, rfl⟩
 obtain ⟨g0, eg0⟩ : ∃ x, w.heap.size = x := ⟨_, rfl⟩
 have B1 : Blk w1 g0 [.slice va n vc, .pointer (some ⟨rb, 0, none⟩)] 175 := by rw [<- e1, <- eg0]; exact Blk.new w _ _
 have x1 : Ext w w1 := by rw [<- e1]; exact (Kp.refl w).alloc _
 have s1 : w1.heap.size = g0 + 1 := by rw [<- e1, aJ, eg0]
 obtain ⟨w2, e2⟩ : ∃ x, w1.alloc (.cells #[.int .i64 0, .nilFunc] 180) = x := ⟨_, rfl⟩
 have B2 : Blk w2 (g0 + 1) [.int .i64 0, .nilFunc] 180 := by
  have h := Blk.new w1 [.int .i64 0, .nilFunc] 180
  rw [s1] at h
  rw [<- e2]; exact h
 have x2 : Ext w1 w2 := by rw [<- e2]; exact (Kp.refl w1).alloc _
 have H2 := qH (And.intro (x1.trans x2) (And.intro (B1.ext x2) B2))
 have c0 : w2.cell? ⟨g0, 0, none⟩ = some (.slice va n vc) := by rw [(B1.ext x2).cell']; rfl
 have r0 : w2.cell? ⟨g0 + 1, 0, none⟩ = some (.int .i64 0) := by rw [B2.cell']; rfl
 have r1 : w2.cell? ⟨g0 + 1, 1, none⟩ = some .nilFunc := by rw [B2.cell']; rfl
 have rf0 := B2.free 0
 have rf1 := B2.free 1
 clear hT hn hin hlo B1 x1 B2 x2
 by_cases h0 : n = 0
 ·have hvs : vs = [] := List.eq_nil_of_length_eq_zero (by rw [<- HN.out.1]; exact h0)
  have HV := qH (show wX vs = -1 from by rw [hvs]; rfl)
  subst h0
  clear hvs
  go_enter Tryz.func120, Tryz.ntmps120
  go_wp2
  first
   | (rw [eg0]; exact pW H2.out eg0 HT.out HN.out.1 hsm HN.out.2.1 hnv HN.out.2.2 HV.out rfl)
   | exact pW H2.out eg0 HT.out HN.out.1 hsm HN.out.2.1 hnv HN.out.2.2 HV.out rfl
 ·obtain ⟨m, rfl⟩ : ∃ m, n = m + 1 := ⟨n - 1, by omega⟩
  obtain ⟨u, hu⟩ : ∃ u, vs[m]? = some u := ⟨_, qG (by have := HN.out.1; omega)⟩
  have HV := qH (show wX vs = (u : Int) from by
   have e : vs.getLast? = some u := by rw [List.getLast?_eq_getElem?, <- HN.out.1, Nat.add_sub_cancel]; exact hu
   unfold wX; rw [e])
  obtain ⟨b1, o1, ev, c1⟩ := (HT.out.here.vars.ext H2.out.1) m (.int .i64 u) (by unfold ints; rw [List.map_map, List.getElem?_map, hu]; rfl)
  subst ev
  have hw := lU (m := m) (by unfold maxLen; omega)
  have hz : ¬ ((m : Int) + 1) = 0 := by omega
  have hp : (0 : Int) < (m : Int) + 1 := by omega
  clear hu h0
  go_enter Tryz.func120, Tryz.ntmps120
  go_wp2
  first
   | (rw [eg0]; exact pW H2.out eg0 HT.out HN.out.1 hsm HN.out.2.1 hnv HN.out.2.2 HV.out rfl)
   | exact pW H2.out eg0 HT.out HN.out.1 hsm HN.out.2.1 hnv HN.out.2.2 HV.out rfl
end Go.Proofs.YtinnmeiphbdogaaGreat
/- The walk through a matcher: plain. -/
namespace Go.Proofs.YtinnmeiphbdogaaGreat
open Go.RowKit
def dK (vs : List Nat) (v : Nat) (p : List ByteArray) : List ByteArray := (vs.filter fun x => decide (x < v)).map (bE p)
theorem mX : ∀ {vs : List Nat}, vs.Pairwise (· < ·) -> ∀ (v : Nat), v ∈ vs -> ∃ m : Nat, vs[m]? = some v /\ vs.filter (fun x => decide (x < v)) = vs.take m /\ vs.filter (fun x => decide (x < v + 1)) = vs.take (m + 1)
 | [], _, v, h => by simp at h
 | a :: vs, hp, v, h => by
  obtain ⟨h1, h2⟩ := List.pairwise_cons.1 hp
  rcases List.mem_cons.1 h with rfl | h3
  ·have nn : ∀ n, n ≤ v + 1 -> vs.filter (fun x => decide (x < n)) = [] := fun n hn => by
    rw [List.filter_eq_nil_iff]
    intro x hx
    have := h1 x hx
    simp; omega
   refine ⟨0, rfl, ?_, ?_⟩
   ·rw [List.filter_cons, if_neg (by simp), nn v (by omega)]; rfl
   ·rw [List.filter_cons, if_pos (by simp), nn _ (Nat.le_refl _)]; rfl
  ·obtain ⟨m, e1, e2, e3⟩ := mX h2 v h3
   have h4 := h1 v h3
   refine ⟨m + 1, by simpa using e1, ?_, ?_⟩
   ·rw [List.filter_cons, if_pos (by simp; omega), e2]; rfl
   ·rw [List.filter_cons, if_pos (by simp; omega), e3]; rfl
theorem rS {vs : List Nat} {v : Nat} {p V : List ByteArray} (hp : V.take v = p) : (vs.filter fun x => decide (x < v)).map (bE V) = dK vs v p := by
 refine List.map_congr_left fun x hx => ?_
 have hxv : x < v := by have := (List.mem_filter.1 hx).2; simpa using this
 unfold bE
 rw [List.getD_eq_getElem?_getD, List.getD_eq_getElem?_getD, <- hp, List.getElem?_take_of_lt hxv]
theorem sU {vs : List Nat} (hr : vs.Pairwise (· < ·)) {v : Nat} (hv : v ∈ vs) {p : List ByteArray} (hp : p.length = v) (x : ByteArray) : dK vs (v + 1) (p ++ [x]) = dK vs v p ++ [x] /\ (dK vs v p).length < vs.length := by
 obtain ⟨m, e1, e2, e3⟩ := mX hr v hv
 have hm := (List.getElem?_eq_some_iff.1 e1).1
 have e4 : (p ++ [x]).take v = p := by rw [<- hp]; exact List.take_left
 refine ⟨?_, ?_⟩
 ·rw [<- rS (V := p ++ [x]) e4]
  unfold dK
  rw [e3, e2, List.take_add_one, e1]
  simp only [Option.toList, List.map_append, List.map_cons, List.map_nil]
  congr 2
  unfold bE
  rw [List.getD_eq_getElem?_getD, List.getElem?_append_right (by omega), hp, Nat.sub_self]; rfl
 ·unfold dK
  rw [e2, List.length_map, List.length_take]; omega
theorem aI7 {vs : List Nat} {v : Nat} (hv : v ∉ vs) {p p' : List ByteArray} (hp : p'.take v = p) : dK vs (v + 1) p' = dK vs v p := by
 rw [<- rS hp]
 unfold dK
 congr 1
 refine List.filter_congr fun x hx => decide_eq_decide.2 ⟨fun h => ?_, fun h => by omega⟩
 have : x ≠ v := fun e => hv (e ▸ hx)
 omega
theorem aHc (vs : List Nat) : dK vs 0 [] = [] := by
 unfold dK
 rw [List.filter_eq_nil_iff.2 (by intro x _; simp)]; rfl
theorem aI8 {vs : List Nat} {p : List ByteArray} (h : ∀ x ∈ vs, x < p.length) : dK vs p.length p = vs.map (bE p) := by
 unfold dK
 rw [List.filter_eq_self.2 (by intro x hx; simpa using h x hx)]
theorem PathOk.way {W : aD} {d : Nat} (hW : WaysOk W d) {q : List ByteArray} {st : List (Nat × Nat)} (h : PathOk W d q st) (hq : q.length = d) (hd : 0 < d) : q ∈ W := by
 obtain ⟨m, rfl⟩ : ∃ m, d = m + 1 := ⟨d - 1, by omega⟩
 obtain ⟨e, he⟩ : ∃ e, st[m]? = some e := ⟨_, qG (by rw [h.len]; omega)⟩
 obtain ⟨a, x, h1, h2, h3, h4, h5⟩ := h.at_ m e he
 have hl : (q.take m).length = m := by rw [List.length_take]; omega
 obtain ⟨s, r, x', k1, k2, k3, k4, k5⟩ := h1.place hW (by omega) h2 h3
 rw [hl] at k3 k4
 rw [h5] at k4; cases k4
 have e1 : q.take m ++ [x] = q := by
  have : q.take (m + 1) = q.take m ++ [x] := by rw [List.take_add_one, h4]; rfl
  rw [<- this, <- hq, List.take_length]
 rw [e1] at k3
 have hrl := hW.len r (List.mem_of_getElem? k2)
 rw [List.take_of_length_le (by omega)] at k3
 rw [<- k3]; exact List.mem_of_getElem? k2
def PathsAt (M : MatchZ) (v : Nat) (p : List ByteArray) (st : Nat -> List (Nat × Nat)) : Prop := ∀ (j : Nat) t, M.Ts[j]? = some t -> PathOk t.W t.vs.length (dK t.vs v p) (st j)
def Seen (M : MatchZ) (v : Nat) (p : List ByteArray) : Prop := ∀ k, k < v -> ∀ t ∈ M.tests k, ∀ V : List ByteArray, V.length = M.N.length -> V.take v = p -> t.ask V = true
section
variable {M : MatchZ} {v : Nat} {p : List ByteArray}
theorem Seen.next (hM : MatchOk M) (h : Seen M v p) (hv : v ≤ M.N.length) {R : List ByteArray} (hR : R.length = M.N.length) (hp : R.take v = p) (ha : ∀ t ∈ M.tests v, t.ask R = true) {p' : List ByteArray} (hp' : p'.take v = p) : Seen M (v + 1) p' := fun k hk t ht V hV he => by
 have e1 : V.take v = p := by
  have := congrArg (List.take v) he
  rw [List.take_take, hp', show min v (v + 1) = v by omega] at this
  exact this
 rcases Nat.lt_or_eq_of_le (Nat.le_of_lt_succ hk) with h1 | h1
 ·exact h k h1 t ht V hV e1
 ·subst h1
  rw [hM.local_ k hv t ht V R hV hR (e1.trans hp.symm)]
  exact ha t ht
theorem aKq (hM : MatchOk M) (hv : v ≤ M.N.length) {R : List ByteArray} (hR : R.length = M.N.length) (hp : R.take v = p) {t : TestZ} (ht : t ∈ M.tests v) (ha : t.ask R = false) (hl : p.length = v) : AllB (lT M) p [] :=
 AllB.none fun V hV he => by
  rw [hl] at he
  have h1 := hV.2.2 v hv t ht
  rw [hM.local_ v hv t ht V R hV.1 hR (he.trans hp.symm), ha] at h1
  cases h1
theorem aIr (hM : MatchOk M) {st : Nat -> List (Nat × Nat)} (hs : Seen M M.N.length p) (hP : PathsAt M M.N.length p st) (hl : p.length = M.N.length) (ha : ∀ t ∈ M.tests M.N.length, t.ask p = true) : AllB (lT M) p [p] := by
 refine AllB.one ⟨hl, fun t ht => ?_, fun k hk t ht => ?_⟩ fun V hV => by rw [hV.1, hl]
 ·obtain ⟨j, hj⟩ := List.mem_iff_getElem?.1 ht
  obtain ⟨h1, h2, h3, h4, h5⟩ := hM.ways t ht
  have h6 := hP j t hj
  have e : dK t.vs M.N.length p = t.vs.map (bE p) := by
   rw [<- hl]
   exact aI8 fun x hx => by rw [hl]; exact h4 x hx
  rw [e] at h6
  exact h6.way h1 (by rw [List.length_map]) (by cases ht2 : t.vs with | nil => exact absurd ht2 h3 | cons a l => simp)
 ·rcases Nat.lt_or_eq_of_le hk with h1 | h1
  ·exact hs k h1 t ht p hl (by rw [<- hl, List.take_length])
  ·subst h1; exact ha t ht
theorem aG5 (hM : MatchOk M) (hv : v < M.N.length) (hl : p.length = v) {js : List Nat} (hjs : ∀ j ∈ js, ∃ t, M.Ts[j]? = some t /\ v ∈ t.vs) {sp : Nat -> Nat × Nat} {Cs : List CurZ} (hCs : Cs = js.map fun j => ⟨bM (M.Ts.getD j noT).W (M.Ts.getD j noT).vs.length (dK (M.Ts.getD j noT).vs v p).length (M.Ts.getD j noT).W.length, (sp j).1, (sp j).2⟩)
 (hsp : ∀ j ∈ js, SpanOf (M.Ts.getD j noT).W (M.Ts.getD j noT).vs.length (dK (M.Ts.getD j noT).vs v p) (sp j).1 (sp j).2) :
 (∀ c ∈ Cs, CurOk c) /\ ∀ V, lT M V -> V.take p.length = p -> ∃ x, V[p.length]? = some x /\ ∀ (k : Nat) (c : CurZ), Cs[k]? = some c -> kH c c.lo x := by
 subst hCs
 have key : ∀ j ∈ js, ∃ t, M.Ts[j]? = some t /\ M.Ts.getD j noT = t /\ v ∈ t.vs /\ WaysOk t.W t.vs.length /\ t.vs.Pairwise (· < ·) /\ (dK t.vs v p).length < t.vs.length := fun j hj => by
  obtain ⟨t, h1, h2⟩ := hjs j hj
  obtain ⟨h3, h4, h5, h6, h7⟩ := hM.ways t (List.mem_of_getElem? h1)
  exact ⟨t, h1, bC h1, h2, h3, h4, (sU h4 h2 hl ByteArray.empty).2⟩
 refine ⟨fun c hc => ?_, fun V hV he => ?_⟩
 ·obtain ⟨j, hj, rfl⟩ := List.mem_map.1 hc
  obtain ⟨t, h1, h2, h3, h4, h5, h6⟩ := key j hj
  have := hsp j hj
  rw [h2] at this ⊢
  exact aKu h4 this h6
 ·rw [hl] at he ⊢
  have hvl : v < V.length := by rw [hV.1]; exact hv
  refine ⟨V[v], qG hvl, fun k c hk => ?_⟩
  rw [List.getElem?_map] at hk
  cases hj : js[k]? with
  | none => rw [hj] at hk; cases hk
  | some j =>
   rw [hj] at hk
   cases hk
   have hjm := List.mem_of_getElem? hj
   obtain ⟨t, h1, h2, h3, h4, h5, h6⟩ := key j hjm
   have hs := hsp j hjm
   show kH ⟨bM (M.Ts.getD j noT).W (M.Ts.getD j noT).vs.length (dK (M.Ts.getD j noT).vs v p).length (M.Ts.getD j noT).W.length, (sp j).1, (sp j).2⟩ (sp j).1 V[v]
   rw [h2] at hs ⊢
   refine aD9 h4 hs h6 (hV.2.1 t (List.mem_of_getElem? h1)) ?_
   obtain ⟨m, e1, e2, e3⟩ := mX h5 v h3
   have e4 : (dK t.vs v p).length = m := by
    unfold dK
    rw [e2, List.length_map, List.length_take]
    have := (List.getElem?_eq_some_iff.1 e1).1
    omega
   have h7 := aCl h5 e1 he hvl
   rw [e4, h7]
   unfold dK
   rw [e2]
   congr 2
   unfold bE
   rw [List.getD_eq_getElem?_getD, qG hvl]; rfl
theorem PathsAt.next (hM : MatchOk M) {st0 st : Nat -> List (Nat × Nat)} (h : PathsAt M v p st0) (hl : p.length = v) {key : ByteArray} (hin : ∀ (j : Nat) t, M.Ts[j]? = some t -> v ∈ t.vs -> ∃ a b k, SpanOf t.W t.vs.length (dK t.vs v p) a b /\ a ≤ k /\ k < b /\ (bM t.W t.vs.length (dK t.vs v p).length t.W.length)[k]? = some key /\ st j = st0 j ++ [(k, b)])
 (hout : ∀ (j : Nat) t, M.Ts[j]? = some t -> v ∉ t.vs -> st j = st0 j) : PathsAt M (v + 1) (p ++ [key]) st := fun j t hj => by
 have ht := List.mem_of_getElem? hj
 obtain ⟨h3, h4, h5, h6, h7⟩ := hM.ways t ht
 by_cases hv : v ∈ t.vs
 ·obtain ⟨a, b, k, h8, h9, h10, h11, h12⟩ := hin j t hj hv
  obtain ⟨e1, e2⟩ := sU h4 hv hl key
  rw [e1, h12]
  exact (h j t hj).push e2 h8 h9 h10 h11
 ·rw [hout j t hj hv, aI7 hv (p := p) (by rw [<- hl]; exact List.take_left)]
  exact h j t hj
end
def pZ (Cs : List CurZ) (key : ByteArray) : Nat := (Cs.map fun c => ((c.keys.take c.hi).filter fun x => decide (aZ key.toList x.toList < 0)).length).sum
theorem sum_lt {α : Type} {f g : α -> Nat} : ∀ {l : List α}, (∀ x ∈ l, f x ≤ g x) -> (∃ x ∈ l, f x < g x) -> (l.map f).sum < (l.map g).sum
 | [], _, h => by obtain ⟨x, hx, _⟩ := h; simp at hx
 | y :: l, h, ⟨x, hx, hlt⟩ => by
  have le : ∀ l : List α, (∀ x ∈ l, f x ≤ g x) -> (l.map f).sum ≤ (l.map g).sum := fun l => by
   induction l with
   | nil => intro _; exact Nat.le_refl _
   | cons z l ih =>
    intro hz
    have h1 := hz z (List.mem_cons_self ..)
    have h2 := ih fun x hx => hz x (List.mem_cons_of_mem _ hx)
    simp only [List.map_cons, List.sum_cons]; omega
  simp only [List.map_cons, List.sum_cons]
  rcases List.mem_cons.1 hx with rfl | hx
  ·have := le l fun z hz => h z (List.mem_cons_of_mem _ hz)
   omega
  ·have h1 := h y (List.mem_cons_self ..)
   have h2 := sum_lt (fun z hz => h z (List.mem_cons_of_mem _ hz)) ⟨x, hx, hlt⟩
   omega
theorem aE8 {Cs : List CurZ} {key key2 : ByteArray} (h : aZ key.toList key2.toList < 0) {c : CurZ} (hc : c ∈ Cs) {m : Nat} (hm : m < c.hi) (hk : c.keys[m]? = some key2) : pZ Cs key2 < pZ Cs key := by
 have imp : ∀ x : ByteArray, aZ key2.toList x.toList < 0 -> aZ key.toList x.toList < 0 := fun x hx => iZ h hx
 have le : ∀ l : List ByteArray, (l.filter fun x => decide (aZ key2.toList x.toList < 0)).length ≤ (l.filter fun x => decide (aZ key.toList x.toList < 0)).length := fun l => by
  rw [<- List.countP_eq_length_filter, <- List.countP_eq_length_filter]
  exact List.countP_mono_left fun x _ hx => by simp at hx ⊢; exact imp x hx
 have lt : ∀ l : List ByteArray, key2 ∈ l -> (l.filter fun x => decide (aZ key2.toList x.toList < 0)).length < (l.filter fun x => decide (aZ key.toList x.toList < 0)).length := fun l => by
  induction l with
  | nil => intro h; simp at h
  | cons y l ih =>
   intro hy
   rcases List.mem_cons.1 hy with rfl | hy
   ·rw [List.filter_cons, if_neg (by rw [dT]; simp), List.filter_cons, if_pos (by simpa using h), List.length_cons]
    have := le l; omega
   ·have h1 := ih hy
    rw [List.filter_cons, List.filter_cons]
    by_cases h2 : aZ key2.toList y.toList < 0
    ·rw [if_pos (by simpa using h2), if_pos (by simpa using imp y h2)]
     simp only [List.length_cons]; omega
    ·rw [if_neg (by simpa using h2)]
     split
     ·simp only [List.length_cons]; omega
     ·exact h1
 unfold pZ
 refine sum_lt (fun x _ => le _) ⟨c, hc, lt _ ?_⟩
 refine List.mem_of_getElem? (i := m) ?_
 rw [List.getElem?_take_of_lt hm]; exact hk
theorem AllB.split {Sol : List ByteArray -> Prop} {p : List ByteArray} {D : ByteArray -> Prop} {key : ByteArray} {Lp Lk L : aD} (hp : AllB Sol p Lp) (h : PartB Sol p D L) (hk : AllB Sol (p ++ [key]) Lk) (hlow : ∀ V, Sol V -> V.take p.length = p -> ∀ y, V[p.length]? = some y -> D y -> aZ y.toList key.toList < 0)
 (hup : ∀ V, Sol V -> V.take p.length = p -> ∃ x, V[p.length]? = some x /\ (D x \/ ¬ aZ x.toList key.toList < 0)) : ∃ R, L ++ Lk ++ R = Lp := by
 classical
 have h2 := h.next hk hlow
 refine ⟨Lp.filter fun V => decide (¬ ∃ x, V[p.length]? = some x /\ (D x \/ x = key)), ?_⟩
 refine Strict.unique cX ?_ hp.rise fun V => ?_
 ·refine List.pairwise_append.2 ⟨h2.rise, hp.rise.filter _, fun a ha b hb => ?_⟩
  obtain ⟨hb1, hb2⟩ := List.mem_filter.1 hb
  have hb3 := of_decide_eq_true hb2
  obtain ⟨a1, a2, x, a3, a4⟩ := (h2.iff a).1 ha
  obtain ⟨b1, b2⟩ := (hp.iff b).1 hb1
  obtain ⟨y, b3, b4⟩ := hup b b1 b2
  have ny : ¬ (D y \/ y = key) := fun e => hb3 ⟨y, b3, e⟩
  have hky : aZ key.toList y.toList < 0 := by
   rcases b4 with b4 | b4
   ·exact absurd (.inl b4) ny
   ·rcases jA key.toList y.toList with h5 | h5 | h5
    ·omega
    ·exact absurd (.inr (dD (dS h5)).symm) ny
    ·have := cI key.toList y.toList; omega
  obtain ⟨r, rfl⟩ := pI a2 a3
  obtain ⟨s, rfl⟩ := pI b2 b3
  refine nE p x y r s ?_
  rcases a4 with a4 | a4
  ·exact iZ (hlow _ a1 a2 x a3 a4) hky
  ·rw [a4]; exact hky
 ·rw [List.mem_append, h2.iff V, List.mem_filter, hp.iff V, decide_eq_true_iff]
  refine ⟨fun h3 => ?_, fun h3 => ?_⟩
  ·rcases h3 with h3 | h3
   ·exact ⟨h3.1, h3.2.1⟩
   ·exact h3.1
  ·by_cases h4 : ∃ x, V[p.length]? = some x /\ (D x \/ x = key)
   ·exact .inl ⟨h3.1, h3.2, h4⟩
   ·exact .inr ⟨h3, h4⟩
end Go.Proofs.YtinnmeiphbdogaaGreat
/- The walk through a matcher: leap. -/
namespace Go.Proofs.YtinnmeiphbdogaaGreat
open Go.RowKit Go.Shelf
theorem aA6 {R : Nat -> Prop} : ∀ m, R m -> ∃ n, R n /\ ∀ k, R k -> n ≤ k := by
 intro m
 induction m using Nat.strongRecOn with
 | ind m ih =>
  intro h
  by_cases h2 : ∃ k, k < m /\ R k
  ·obtain ⟨k, hk, h3⟩ := h2
   exact ih k hk h3
  ·exact ⟨m, h, fun k hk => Nat.not_lt.1 fun h4 => h2 ⟨k, h4, hk⟩⟩
open Classical in
noncomputable def uF (R : Nat -> Prop) : Nat := if h : ∃ n, R n /\ ∀ k, R k -> n ≤ k then Classical.choose h else 0
theorem aIm {R : Nat -> Prop} (h : ∃ m, R m) : R (uF R) := by
 obtain ⟨m, hm⟩ := h
 have h2 := aA6 m hm
 unfold uF
 rw [dif_pos h2]; exact (Classical.choose_spec h2).1
theorem aA5 {R : Nat -> Prop} {m : Nat} (h : R m) : uF R ≤ m := by
 have h2 := aA6 m h
 unfold uF
 rw [dif_pos h2]; exact (Classical.choose_spec h2).2 m h
abbrev XB := fR × List ByteArray
def encX (x : XB) : Array Value := #[.slice x.1.1 x.1.2.1 x.1.2.2]
def GvRow (W1 : World) (T' : Nat -> Prop) (W2 : World) (x : XB) : Prop := x.1.2 = (x.2.length, x.2.length) /\ ((x.1.1 = none /\ x.2 = []) \/ ∃ g rest, x.1.1 = some ⟨g, 0, none⟩ /\ Blk W2 g (strs x.2 ++ rest) 9 /\ W1.heap.size ≤ g /\ ¬ T' g)
def Held (J : (Nat -> Prop) -> List XB -> World -> Prop) (E own : Nat -> Prop) (pre : List XB) (W : World) : Prop := ∃ T W1, J T pre W1 /\ Kp T W1 W /\ ∀ k, own k \/ E k -> T k \/ W1.heap.size ≤ k
theorem Held.step {J : (Nat -> Prop) -> List XB -> World -> Prop} {E E' own own' G : Nat -> Prop} {pre : List XB} {W W' : World} (h : Held J E own pre W) (hk : Kp G W W') (hG : ∀ k, G k -> own k \/ E k \/ W.heap.size ≤ k) (ho : ∀ k, own' k -> own k \/ W.heap.size ≤ k) (hE : ∀ k, E' k -> E k \/ W.heap.size ≤ k) : Held J E' own' pre W' := by
 obtain ⟨T, W1, h1, h2, h3⟩ := h
 have hs := h2.size
 refine ⟨T, W1, h1, h2.trans' hk fun i hi hg => ?_, fun k hk' => ?_⟩
 ·rcases hG i hg with h4 | h4 | h4
  ·rcases h3 i (.inl h4) with h5 | h5
   ·exact h5
   ·omega
  ·rcases h3 i (.inr h4) with h5 | h5
   ·exact h5
   ·omega
  ·omega
 ·rcases hk' with h4 | h4
  ·rcases ho k h4 with h5 | h5
   ·exact h3 k (.inl h5)
   ·exact .inr (by omega)
  ·rcases hE k h4 with h5 | h5
   ·exact h3 k (.inr h5)
   ·exact .inr (by omega)
structure WCtx where
 Z : Nat -> Prop
 lo : Nat
 M : MatchZ
 A : MAddr
 wb : Nat
 mb : Nat
 rb : Nat
 yv : Value
 cv : Value
 cb : Nat -> Nat
 J : (Nat -> Prop) -> List XB -> World -> Prop
 Jx : (Nat -> Prop) -> List XB -> World -> Prop
 Lall : aD
 w0 : World
structure WCtx.Ok (C : WCtx) : Prop where
 hZ : ∀ k, C.Z k -> k < C.lo
 mat : ∀ W, Kp (fun k => ¬ C.Z k) C.w0 W -> MatchAt W C.mb C.M C.A
 ok : MatchOk C.M
def WCtx.Own (C : WCtx) (ov : Nat -> Value) : Nat -> Prop := aHp C.wb C.rb C.M.Ts.length C.cv C.cb ov
structure WCtx.At (C : WCtx) (ov : Nat -> Value) (R : List ByteArray) (st : Nat -> List (Nat × Nat)) (W : World) : Prop where
 wlk : WalkAt W C.wb C.mb C.M C.yv C.cv C.rb R C.cb ov st
 new : ∀ k, C.Own ov k -> C.lo ≤ k
 w0k : Kp (fun k => ¬ C.Z k) C.w0 W
def WCtx.QE (C : WCtx) (E : Nat -> Prop) : Nat -> Prop := fun k => ¬ C.Z k /\ ¬ E k
def WCtx.Ends (C : WCtx) (E : Nat -> Prop) (pre : List XB) (L : aD) (ov : Nat -> Value) (b : Bool) (W : World) : Prop :=
 (b = true /\ ∃ xs : List XB, xs.map Prod.snd = L /\ Held C.J E (C.Own ov) (pre ++ xs) W) \/ (b = false /\ ∃ pre' : List XB, pre'.map Prod.snd <+: C.Lall /\ Held C.Jx E (C.Own ov) pre' W)
def WCtx.Post (C : WCtx) (E : Nat -> Prop) (v : Nat) (p : List ByteArray) (st : Nat -> List (Nat × Nat)) (pre : List XB) (L : aD) (W : World) (e : Ending) (W' : World) : Prop :=
 ∃ (b : Bool) (ov' : Nat -> Value) (R' : List ByteArray), e = .returned (.bool b) /\ Kp (C.QE E) W W' /\ C.At ov' R' st W' /\ R'.take v = p /\ (∀ k, C.Own ov' k -> ¬ E k) /\ C.Ends E pre L ov' b W'
structure WCtx.Fit (C : WCtx) (E : Nat -> Prop) (ov : Nat -> Value) (W : World) : Prop where
 lt : ∀ k, E k -> k < W.heap.size
 off : ∀ k, C.Own ov k -> ¬ E k
 lo : ∀ k, E k -> C.lo ≤ k
def WCtx.From (C : WCtx) (v : Nat) : Prop := ∀ (p : List ByteArray) (E : Nat -> Prop) (ov : Nat -> Value) (R : List ByteArray) (st : Nat -> List (Nat × Nat)) (pre : List XB) (L : aD) (W : World),
 p.length = v -> C.At ov R st W -> R.take v = p -> PathsAt C.M v p st -> Seen C.M v p -> AllB (lT C.M) p L -> (∃ R0, pre.map Prod.snd ++ L ++ R0 = C.Lall) -> Held C.J E (C.Own ov) pre W -> C.Fit E ov W ->
 Calls Tryz.prog 123 #[.pointer (some ⟨C.wb, 0, none⟩), .int .i64 v] W (C.Post E v p st pre L W)
def StOk (st0 : Nat -> List (Nat × Nat)) (js : List Nat) (Cs : List CurZ) (pos : Nat -> Nat) (st : Nat -> List (Nat × Nat)) : Prop := (∀ (k j : Nat) (c : CurZ), js[k]? = some j -> Cs[k]? = some c -> st j = st0 j ++ [(pos k, c.hi)]) /\ ∀ j, j ∉ js -> st j = st0 j
theorem StOk.turn {st0 : Nat -> List (Nat × Nat)} {js : List Nat} {Cs : List CurZ} {pos : Nat -> Nat} {st : Nat -> List (Nat × Nat)} (h : StOk st0 js Cs pos st) (hn : js.Nodup) {k j : Nat} {c : CurZ} (hj : js[k]? = some j) (hc : Cs[k]? = some c) (q : Nat) : StOk st0 js Cs (fun m => if m = k then q else pos m) (bP st j (st0 j ++ [(q, c.hi)])) := by
 refine ⟨fun m i d hi hd => ?_, fun i hi => ?_⟩
 ·by_cases e : m = k
  ·subst e
   rw [hj] at hi; cases hi
   rw [hc] at hd; cases hd
   show _ = st0 j ++ [((if m = m then q else pos m), c.hi)]
   rw [upd_same, if_pos rfl]
  ·show _ = st0 i ++ [((if m = k then q else pos m), d.hi)]
   rw [if_neg e, aH _ _ (fun e2 => e ?_)]
   ·exact h.1 m i d hi hd
   ·subst e2
    exact (List.getElem?_inj (List.getElem?_eq_some_iff.1 hi).1 hn).1 (hi.trans hj.symm)
 ·rw [aH _ _ (fun e => hi (by rw [e]; exact List.mem_of_getElem? hj))]
  exact h.2 i hi
def WCtx.LeapPost (C : WCtx) (E : Nat -> Prop) (v : Nat) (p : List ByteArray) (st0 : Nat -> List (Nat × Nat)) (js : List Nat) (Cs : List CurZ) (pre : List XB) (L : aD) (W : World) (e : Ending) (W' : World) : Prop :=
 ∃ (b : Bool) (ov' : Nat -> Value) (R' : List ByteArray) (st' : Nat -> List (Nat × Nat)) (pos' : Nat -> Nat), e = .returned (.bool b) /\ Kp (C.QE E) W W' /\ C.At ov' R' st' W' /\ R'.take v = p /\ (∀ k, C.Own ov' k -> ¬ E k) /\ StOk st0 js Cs pos' st' /\ C.Ends E pre L ov' b W'
structure WCtx.Turn (C : WCtx) (E : Nat -> Prop) (v : Nat) (p : List ByteArray) (st0 : Nat -> List (Nat × Nat)) (js : List Nat) (Cs : List CurZ) (pre : List XB) (W0 : World) (i : Nat) (pos : Nat -> Nat) (D : ByteArray -> Prop) (xs : List XB) (ov : Nat -> Value) (R : List ByteArray) (st : Nat -> List (Nat × Nat)) (W : World) : Prop where
 inv : LeapInv (lT C.M) p Cs pos i D (xs.map Prod.snd)
 at_ : C.At ov R st W
 row : R.take v = p
 st_ : StOk st0 js Cs pos st
 held : Held C.J E (C.Own ov) (pre ++ xs) W
 fit : C.Fit E ov W
 kp : Kp (C.QE E) W0 W
section
variable {C : WCtx} {E : Nat -> Prop} {v : Nat} {p : List ByteArray} {st0 st : Nat -> List (Nat × Nat)} {js : List Nat} {Cs : List CurZ} {pre xs : List XB} {W0 W W' : World} {i : Nat} {pos : Nat -> Nat} {D : ByteArray -> Prop} {ov : Nat -> Value} {R : List ByteArray}
theorem WCtx.At.ext (h : C.At ov R st W) (hk : Ext W W') : C.At ov R st W' := ⟨h.wlk.ext hk, h.new, h.w0k.ext hk⟩
theorem WCtx.Fit.ext (h : C.Fit E ov W) (hk : Ext W W') : C.Fit E ov W' := ⟨fun k hk' => Nat.lt_of_lt_of_le (h.lt k hk') hk.size, h.off, h.lo⟩
theorem WCtx.Turn.ext (h : C.Turn E v p st0 js Cs pre W0 i pos D xs ov R st W) (hk : Ext W W') : C.Turn E v p st0 js Cs pre W0 i pos D xs ov R st W' :=
 ⟨h.inv, h.at_.ext hk, h.row, h.st_, h.held.step (G := fun _ => False) hk (fun _ h => h.elim) (fun k h => .inl h) (fun k h => .inl h), h.fit.ext hk, h.kp.ext hk⟩
theorem WCtx.At.turn (hC : C.Ok) (h : C.At ov R st W) {j : Nat} {t : TrieZ} (ht : C.M.Ts[j]? = some t) (hk : Kp (gJ (C.cb j) (ov j)) W W') {ov' : Value} {st' : List (Nat × Nat)} (hc : CurS W' (C.cb j) t.tb st' ov') (ho : ∀ k, ov'.ownBlock = some k -> (ov j).ownBlock = some k \/ W.heap.size ≤ k) :
 C.At (bP ov j ov') R (bP st j st') W' /\ (∀ k, C.Own (bP ov j ov') k -> C.Own ov k \/ W.heap.size ≤ k) /\ (∀ k, gJ (C.cb j) (ov j) k -> C.Own ov k) := by
 have hown : ∀ k, gJ (C.cb j) (ov j) k -> C.Own ov k := fun k hk => .inr (.inr (.inr ⟨j, (List.getElem?_eq_some_iff.1 ht).1, hk⟩))
 have hnew : ∀ k, C.Own (bP ov j ov') k -> C.Own ov k \/ W.heap.size ≤ k := WalkAt.own_turn ho
 have hlo : C.lo ≤ W.heap.size := Nat.le_of_lt (Nat.lt_of_le_of_lt (h.new C.wb (.inl rfl)) (h.wlk.lt C.wb (.inl rfl)))
 refine ⟨⟨h.wlk.turn ht hk hc ho, fun k hk' => ?_, h.w0k.trans' hk fun i _ hf hz => ?_⟩, hnew, hown⟩
 ·rcases hnew k hk' with h1 | h1
  ·exact h.new k h1
  ·omega
 ·have := hC.hZ i hz
  have := h.new i (hown i hf)
  omega
theorem WCtx.Fit.turn (h : C.Fit E ov W) (hk : W.heap.size ≤ W'.heap.size) {ov2 : Nat -> Value} (ho : ∀ k, C.Own ov2 k -> C.Own ov k \/ W.heap.size ≤ k) : C.Fit E ov2 W' :=
 ⟨fun k hk' => Nat.lt_of_lt_of_le (h.lt k hk') hk, fun k h1 h2 => by
  rcases ho k h1 with h3 | h3
  ·exact h.off k h3 h2
  ·have := h.lt k h2; omega, h.lo⟩
theorem wC {α : Type} (f : Nat -> α) (j : Nat) : bP f j (f j) = f := by
 funext i
 unfold bP
 split
 ·rename_i e; rw [e]
 ·rfl
theorem aBr {c : CurZ} (hc : CurOk c) {t : ByteArray} {a q : Nat} (ha : c.lo ≤ a) (h : fW c.keys t a c.hi q) : ∀ k x, a ≤ k -> k < q -> c.keys[k]? = some x -> aZ x.toList t.toList < 0 := fun k x h1 h2 h3 => by
 obtain ⟨p1, p2, p3, p4⟩ := h
 have hq : q - 1 < c.keys.length := by have := hc.few; omega
 have h4 := p3 c.keys[q - 1] (by omega) (qG hq)
 by_cases e : k = q - 1
 ·subst e
  rw [qG hq] at h3; cases h3
  exact h4
 ·exact iZ (hc.rise k (q - 1) x _ (by omega) (by omega) (by omega) h3 (qG hq)) h4
theorem WCtx.QE_own (hC : C.Ok) (h : C.At ov R st W) (hf : C.Fit E ov W) : ∀ k, C.Own ov k -> C.QE E k := fun k hk => ⟨fun hz => by have := hC.hZ k hz; have := h.new k hk; omega, hf.off k hk⟩
theorem WCtx.Turn.seek (hC : C.Ok) (hn : js.Nodup) (h : C.Turn E v p st0 js Cs pre W0 i pos D xs ov R st W) {ci : CurZ} (hi : Cs[i]? = some ci) (hlt : pos i < ci.hi) {key : ByteArray} (hkey : ci.keys[pos i]? = some key) {k j q : Nat} {c : CurZ} {t : TrieZ} (hj : js[k]? = some j) (hc : Cs[k]? = some c) (ht : C.M.Ts[j]? = some t)
 (hk : Kp (gJ (C.cb j) (ov j)) W W') (hcur : CurS W' (C.cb j) t.tb (st0 j ++ [(q, c.hi)]) (ov j)) (hf : fW c.keys key (pos k) c.hi q) : C.Turn E v p st0 js Cs pre W0 i (fun m => if m = k then q else pos m) D xs ov R (bP st j (st0 j ++ [(q, c.hi)])) W' /\ (k = i -> q = pos i) := by
 obtain ⟨a1, a2, a3⟩ := h.at_.turn hC ht hk hcur (fun k h => .inl h)
 rw [wC] at a1 a2
 have hok := h.inv.ok c (List.mem_of_getElem? hc)
 have hb := aBr hok (h.inv.inn k c hc).1 hf
 have hki : k = i -> q = pos i := fun e => by
  subst e
  rw [hc] at hi; cases hi
  rcases Nat.lt_or_eq_of_le hf.1 with h1 | h1
  ·have := hb (pos k) key (Nat.le_refl _) h1 hkey
   rw [dT] at this; omega
  ·exact h1.symm
 exact ⟨⟨h.inv.seek hi hlt hkey hc hf.1 hf.2.1 hb hki, a1, h.row, h.st_.turn hn hj hc q, h.held.step hk (fun k hk => .inl (a3 k hk)) a2 (fun k h => .inl h), h.fit.turn hk.size a2, h.kp.trans' hk fun k _ hf => WCtx.QE_own hC h.at_ h.fit k (a3 k hf)⟩, hki⟩
theorem WCtx.next_turn (hC : C.Ok) (hn : js.Nodup) (inv : LeapInv (lT C.M) p Cs pos i D (xs.map Prod.snd)) {ci : CurZ} (hi : Cs[i]? = some ci) (hlt : pos i < ci.hi) {key : ByteArray} (hkey : ci.keys[pos i]? = some key) {xs' : List XB} (hk' : AllB (lT C.M) (p ++ [key]) (xs'.map Prod.snd))
 (hat : C.At ov R st W) (hrow : R.take v = p) (hst : StOk st0 js Cs pos st) (held : Held C.J E (C.Own ov) (pre ++ (xs ++ xs')) W) (fit : C.Fit E ov W) (kp : Kp (C.QE E) W0 W) {j : Nat} {t : TrieZ} (hj : js[i]? = some j) (ht : C.M.Ts[j]? = some t)
 (hk : Kp (gJ (C.cb j) (ov j)) W W') (hcur : CurS W' (C.cb j) t.tb (st0 j ++ [(pos i + 1, ci.hi)]) (ov j)) : C.Turn E v p st0 js Cs pre W0 i (fun m => if m = i then pos i + 1 else pos m) (fun y => D y \/ y = key) (xs ++ xs') ov R (bP st j (st0 j ++ [(pos i + 1, ci.hi)])) W' := by
 obtain ⟨a1, a2, a3⟩ := hat.turn hC ht hk hcur (fun k h => .inl h)
 rw [wC] at a1 a2
 refine ⟨?_, a1, hrow, hst.turn hn hj hi _, held.step hk (fun k hk => .inl (a3 k hk)) a2 (fun k h => .inl h), fit.turn hk.size a2, kp.trans' hk fun k _ hf => WCtx.QE_own hC hat fit k (a3 k hf)⟩
 rw [List.map_append]
 exact inv.next hi hlt hkey hk'
theorem WCtx.Turn.of_key (h : C.Turn E v p st0 js Cs pre W0 i pos D xs ov R st W) {ci : CurZ} (hi : Cs[i]? = some ci) (hlt : pos i < ci.hi) {key : ByteArray} (hkey : ci.keys[pos i]? = some key) {L : aD} (hL : AllB (lT C.M) p L) (hpre : ∃ R0, pre.map Prod.snd ++ L ++ R0 = C.Lall) :
 ∃ Lk, AllB (lT C.M) (p ++ [key]) Lk /\ ∃ R0, (pre ++ xs).map Prod.snd ++ Lk ++ R0 = C.Lall := by
 classical
 have hk : AllB (lT C.M) (p ++ [key]) (L.filter fun V => decide (V.take (p ++ [key]).length = p ++ [key])) := by
  refine ⟨hL.rise.filter _, fun V => ?_⟩
  rw [List.mem_filter, hL.iff V, decide_eq_true_iff]
  refine ⟨fun h1 => ⟨h1.1.1, h1.2⟩, fun h1 => ⟨⟨h1.1, ?_⟩, h1.2⟩⟩
  have := congrArg (List.take p.length) h1.2
  rw [List.take_take, List.take_left, List.length_append, List.length_singleton, show min p.length (p.length + 1) = p.length by omega] at this
  exact this
 generalize (L.filter fun V => decide (V.take (p ++ [key]).length = p ++ [key])) = Lk at hk
 obtain ⟨R1, e1⟩ := hL.split h.inv.told hk (fun V _ _ y hy hD => h.inv.below ci y key hi hD ⟨pos i, Nat.le_refl _, hlt, hkey⟩) fun V h1 h2 => by
  obtain ⟨x, hx, h3⟩ := h.inv.common V h1 h2
  refine ⟨x, hx, ?_⟩
  rcases h3 with h3 | h3
  ·exact .inl h3
  ·obtain ⟨m, h4, h5, h6⟩ := h3 i ci hi
   refine .inr ?_
   rcases Nat.lt_or_eq_of_le h4 with h7 | h7
   ·have h8 := (h.inv.ok ci (List.mem_of_getElem? hi)).rise (pos i) m key x (h.inv.inn i ci hi).1 h7 h5 hkey h6
    have := cI x.toList key.toList
    omega
   ·rw [h7] at hkey
    rw [hkey] at h6; cases h6
    rw [dT]; omega
 obtain ⟨R0, e0⟩ := hpre
 refine ⟨Lk, hk, R1 ++ R0, ?_⟩
 rw [<- e0, <- e1, List.map_append]
 simp only [List.append_assoc]
end
end Go.Proofs.YtinnmeiphbdogaaGreat
/- The walk through a matcher: leap, walked. -/
namespace Go.Proofs.YtinnmeiphbdogaaGreat
open Go.RowKit Go.Shelf
structure WCtx.Lay (C : WCtx) (v : Nat) (p : List ByteArray) (st0 : Nat -> List (Nat × Nat)) (js : List Nat) (Cs : List CurZ) : Prop where
 nd : js.Nodup
 len : Cs.length = js.length
 cur : ∀ k j : Nat, js[k]? = some j -> ∃ t a b, C.M.Ts[j]? = some t /\ v ∈ t.vs /\ SpanOf t.W t.vs.length (dK t.vs v p) a b /\ Cs[k]? = some ⟨bM t.W t.vs.length (dK t.vs v p).length t.W.length, a, b⟩
 paths : PathsAt C.M v p st0
 hl : p.length = v
 all : ∀ (j : Nat) t, C.M.Ts[j]? = some t -> v ∈ t.vs -> j ∈ js
theorem aHs {i k n : Nat} (hi : i < n) (hk : k < n) : ∃ m, m < n /\ (i + m) % n = k := by
 by_cases h : i ≤ k
 ·exact ⟨k - i, by omega, by rw [show i + (k - i) = k by omega]; exact Nat.mod_eq_of_lt hk⟩
 ·exact ⟨k + n - i, by omega, by rw [show i + (k + n - i) = k + n by omega, Nat.add_mod_right]; exact Nat.mod_eq_of_lt hk⟩
def rL (cb : Nat -> Nat) (js : List Nat) : List Value := js.map fun j => .pointer (some ⟨cb j, 0, none⟩)
section
variable {C : WCtx} {E : Nat -> Prop} {v : Nat} {p : List ByteArray} {st0 st : Nat -> List (Nat × Nat)} {js : List Nat} {Cs : List CurZ} {pre xs : List XB} {W0 W : World} {i : Nat} {pos : Nat -> Nat} {D : ByteArray -> Prop} {ov : Nat -> Value} {R : List ByteArray}
theorem WCtx.Turn.cur (hC : C.Ok) (hY : C.Lay v p st0 js Cs) (h : C.Turn E v p st0 js Cs pre W0 i pos D xs ov R st W) {k : Nat} (hk : k < js.length) :
 ∃ j t c, js[k]? = some j /\ C.M.Ts[j]? = some t /\ Cs[k]? = some c /\ CurS W (C.cb j) t.tb (st0 j ++ [(pos k, c.hi)]) (ov j) /\ TrieAt W t.tb t.W t.vs.length /\ (st0 j).length < t.vs.length /\ c.keys = bM t.W t.vs.length (st0 j).length t.W.length /\ c.hi ≤ aQ t.W t.vs.length (st0 j).length t.W.length /\ c.hi ≤ 1048576 := by
 obtain ⟨j, hj⟩ : ∃ j, js[k]? = some j := ⟨_, qG hk⟩
 obtain ⟨t, a, b, h1, h2, h3, h4⟩ := hY.cur k j hj
 have hT := (hC.mat W h.at_.w0k).tries t (List.mem_of_getElem? h1)
 have hlen := (hY.paths j t h1).len
 have hlt := (sU (hC.ok.ways t (List.mem_of_getElem? h1)).2.1 h2 hY.hl ByteArray.empty).2
 have hb := h3.le.2
 have hs := cU t.W t.vs.length (dK t.vs v p).length t.W.length
 have hw : aQ t.W t.vs.length (dK t.vs v p).length t.W.length ≤ t.W.length := hs
 have hcur := h.at_.wlk.cur j t h1
 rw [h.st_.1 k j _ hj h4] at hcur
 refine ⟨j, t, _, hj, h1, h4, hcur, hT, by omega, by rw [hlen], by rw [hlen]; exact hb, ?_⟩
 have := hT.few
 show b ≤ _
 omega
theorem WCtx.Turn.seekK (hC : C.Ok) (hY : C.Lay v p st0 js Cs) (h : C.Turn E v p st0 js Cs pre W0 i pos D xs ov R st W) {ci : CurZ} (hi : Cs[i]? = some ci) (hlt : pos i < ci.hi) {key : ByteArray} (hkey : ci.keys[pos i]? = some key) {k j : Nat} {c : CurZ} (hj : js[k]? = some j) (hc : Cs[k]? = some c) (hp : pos k < c.hi) :
 Calls Tryz.prog 188 #[.pointer (some ⟨C.cb j, 0, none⟩), .string key] W fun e W' => ∃ q st', e = .returned (.bool (decide (q ≠ c.hi))) /\ C.Turn E v p st0 js Cs pre W0 i (fun m => if m = k then q else pos m) D xs ov R st' W' /\ fW c.keys key (pos k) c.hi q /\ (k = i -> q = pos i) := by
 obtain ⟨j', t, c', h1, h2, h3, h4, h5, h6, h7, h8, h9⟩ := h.cur hC hY (List.getElem?_eq_some_iff.1 hj).1
 rw [hj] at h1; cases h1
 rw [hc] at h3; cases h3
 refine (aFs key h4 h5 h6 hp h8).mono ?_
 rintro e W' ⟨_, rfl, hk, q, hf, rfl, hcur⟩
 rw [<- h7] at hf
 obtain ⟨a1, a2⟩ := h.seek hC hY.nd hi hlt hkey hj hc h2 hk hcur hf
 exact ⟨q, _, rfl, a1, hf, a2⟩
theorem WCtx.Turn.endK (hC : C.Ok) (hY : C.Lay v p st0 js Cs) (h : C.Turn E v p st0 js Cs pre W0 i pos D xs ov R st W) {k j : Nat} {c : CurZ} (hj : js[k]? = some j) (hc : Cs[k]? = some c) :
 Calls Tryz.prog 181 #[.pointer (some ⟨C.cb j, 0, none⟩)] W (RetN W fun W' v => v = .bool (decide (pos k = c.hi))) := by
 obtain ⟨j', t, c', h1, h2, h3, h4, h5, h6, h7, h8, h9⟩ := h.cur hC hY (List.getElem?_eq_some_iff.1 hj).1
 rw [hj] at h1; cases h1
 rw [hc] at h3; cases h3
 exact aIx h4
theorem WCtx.Turn.keyK (hC : C.Ok) (hY : C.Lay v p st0 js Cs) (h : C.Turn E v p st0 js Cs pre W0 i pos D xs ov R st W) {k j : Nat} {c : CurZ} (hj : js[k]? = some j) (hc : Cs[k]? = some c) (hp : pos k < c.hi) {key : ByteArray} (hkey : c.keys[pos k]? = some key) :
 Calls Tryz.prog 187 #[.pointer (some ⟨C.cb j, 0, none⟩)] W (RetN W fun W' v => v = .string key) := by
 obtain ⟨j', t, c', h1, h2, h3, h4, h5, h6, h7, h8, h9⟩ := h.cur hC hY (List.getElem?_eq_some_iff.1 hj).1
 rw [hj] at h1; cases h1
 rw [hc] at h3; cases h3
 exact aIp h4 h5 h6 (by omega) (by rw [<- h7]; exact hkey)
theorem WCtx.Turn.put (hC : C.Ok) (hl : p.length = v) (hv : v < C.M.N.length) (h : C.Turn E v p st0 js Cs pre W0 i pos D xs ov R st W) (key : ByteArray) :
 C.At ov (R.set v key) st (W.setCell ⟨C.rb, v, none⟩ (.string key)) /\ (R.set v key).take (v + 1) = p ++ [key] /\ Held C.J E (C.Own ov) (pre ++ xs) (W.setCell ⟨C.rb, v, none⟩ (.string key)) /\ C.Fit E ov (W.setCell ⟨C.rb, v, none⟩ (.string key)) /\ Kp (C.QE E) W0 (W.setCell ⟨C.rb, v, none⟩ (.string key)) := by
 obtain ⟨a1, a2⟩ := h.at_.wlk.put v key
 have own : C.Own ov C.rb := .inr (.inl rfl)
 have hq := WCtx.QE_own hC h.at_ h.fit C.rb own
 refine ⟨⟨a1, h.at_.new, h.at_.w0k.trans' a2 fun k _ e => ?_⟩, ?_, h.held.step a2 (fun k e => .inl ?_) (fun k h => .inl h) (fun k h => .inl h), ⟨fun k hk => by rw [show (W.setCell ⟨C.rb, v, none⟩ (.string key)).heap.size = W.heap.size by simp [World.setCell]]; exact h.fit.lt k hk, h.fit.off, h.fit.lo⟩, h.kp.trans' a2 fun k _ e => ?_⟩
 ·have e' : k = C.rb := e
  rw [e']; exact hq.1
 ·have hlR := h.at_.wlk.rowL
  rw [List.take_add_one, List.take_set, List.getElem?_set_self (by omega)]
  have e1 : (R.take v).set v key = R.take v := List.set_eq_of_length_le (by rw [List.length_take]; omega)
  rw [e1, h.row]; rfl
 ·have e' : k = C.rb := e
  rw [e']; exact own
 ·have e' : k = C.rb := e
  rw [e']; exact hq
theorem WCtx.Turn.lead (h : C.Turn E v p st0 js Cs pre W0 i pos D xs ov R st W) {ci : CurZ} (hi : Cs[i]? = some ci) (hlt : pos i < ci.hi) {key : ByteArray} (hk : ci.keys[pos i]? = some key) {j : Nat} {c : CurZ} (hj : Cs[j]? = some c) (hl2 : pos j < c.hi) {key2 : ByteArray} (hk2 : c.keys[pos j]? = some key2) (hge : ¬ aZ key2.toList key.toList < 0) : C.Turn E v p st0 js Cs pre W0 j pos D xs ov R st W :=
 ⟨h.inv.lead hi hlt hk hj hl2 hk2 hge, h.at_, h.row, h.st_, h.held, h.fit, h.kp⟩
theorem WCtx.nextK (hC : C.Ok) (hY : C.Lay v p st0 js Cs) (inv : LeapInv (lT C.M) p Cs pos i D (xs.map Prod.snd)) {ci : CurZ} (hi : Cs[i]? = some ci) (hlt : pos i < ci.hi) {key : ByteArray} (hkey : ci.keys[pos i]? = some key) {xs' : List XB} (hk' : AllB (lT C.M) (p ++ [key]) (xs'.map Prod.snd))
 (hat : C.At ov R st W) (hrow : R.take v = p) (hst : StOk st0 js Cs pos st) (held : Held C.J E (C.Own ov) (pre ++ (xs ++ xs')) W) (fit : C.Fit E ov W) (kp : Kp (C.QE E) W0 W) {j : Nat} (hj : js[i]? = some j) :
 Calls Tryz.prog 189 #[.pointer (some ⟨C.cb j, 0, none⟩)] W fun e W' => ∃ st', e = .returned (.bool (decide (pos i + 1 ≠ ci.hi))) /\ C.Turn E v p st0 js Cs pre W0 i (fun m => if m = i then pos i + 1 else pos m) (fun y => D y \/ y = key) (xs ++ xs') ov R st' W' := by
 obtain ⟨t, a, b, h1, h2, h3, h4⟩ := hY.cur i j hj
 have hT := (hC.mat W hat.w0k).tries t (List.mem_of_getElem? h1)
 have hs : aQ t.W t.vs.length (dK t.vs v p).length t.W.length ≤ t.W.length := cU t.W t.vs.length (dK t.vs v p).length t.W.length
 have hb := h3.le.2
 have hfw := hT.few
 rw [hi] at h4; cases h4
 have hcur := hat.wlk.cur j t h1
 rw [hst.1 i j _ hj hi] at hcur
 refine (aF6 hcur hlt (show b ≤ 1048576 by omega)).mono ?_
 rintro e W' ⟨_, rfl, hk, rfl, hc2⟩
 exact ⟨_, rfl, WCtx.next_turn hC hY.nd inv hi hlt hkey hk' hat hrow hst held fit kp hj h1 hk hc2⟩
def Before (Cs : List CurZ) (pos : Nat -> Nat) : Prop := ∀ (k : Nat) (c : CurZ), Cs[k]? = some c -> pos k < c.hi
def aKl (Cs : List CurZ) (pos : Nat -> Nat) (key : ByteArray) (k : Nat) : Prop := ∀ c, Cs[k]? = some c -> c.keys[pos k]? = some key
def zL (C : WCtx) (E : Nat -> Prop) (v : Nat) (p : List ByteArray) (st0 : Nat -> List (Nat × Nat)) (js : List Nat) (Cs : List CurZ) (pre : List XB) (W0 : World) (m : Nat) (x : Value × World) : Prop :=
 ∃ (i : Nat) (pos : Nat -> Nat) (D : ByteArray -> Prop) (xs : List XB) (ov : Nat -> Value) (R : List ByteArray) (st : Nat -> List (Nat × Nat)) (ci : CurZ) (key : ByteArray), x.1 = .int .i64 i /\ i < js.length /\ Hid (C.Turn E v p st0 js Cs pre W0 i pos D xs ov R st x.2) /\ Hid (Cs[i]? = some ci /\ ci.keys[pos i]? = some key /\ Before Cs pos /\ m = pZ Cs key)
def aEn (C : WCtx) (E : Nat -> Prop) (v : Nat) (p : List ByteArray) (st0 : Nat -> List (Nat × Nat)) (js : List Nat) (Cs : List CurZ) (pre : List XB) (W0 : World) (iv : Value) (w : World) : Prop := ∃ m, zL C E v p st0 js Cs pre W0 m (iv, w)
noncomputable def zM (C : WCtx) (E : Nat -> Prop) (v : Nat) (p : List ByteArray) (st0 : Nat -> List (Nat × Nat)) (js : List Nat) (Cs : List CurZ) (pre : List XB) (W0 : World) (iv : Value) (w : World) : Nat := uF fun m => zL C E v p st0 js Cs pre W0 m (iv, w)
theorem aC8 {iv : Value} (h : aEn C E v p st0 js Cs pre W0 iv W) : ∃ (i : Nat) (pos : Nat -> Nat) (D : ByteArray -> Prop) (xs : List XB) (ov : Nat -> Value) (R : List ByteArray) (st : Nat -> List (Nat × Nat)) (ci : CurZ) (key : ByteArray), iv = .int .i64 i /\ i < js.length /\ Hid (C.Turn E v p st0 js Cs pre W0 i pos D xs ov R st W) /\ Hid (Cs[i]? = some ci /\ ci.keys[pos i]? = some key /\ Before Cs pos /\ zM C E v p st0 js Cs pre W0 iv W = pZ Cs key) := aIm h
def aK4 (C : WCtx) (E : Nat -> Prop) (v : Nat) (p : List ByteArray) (st0 : Nat -> List (Nat × Nat)) (js : List Nat) (Cs : List CurZ) (pre : List XB) (W0 : World) (i pi : Nat) (D : ByteArray -> Prop) (xs : List XB) (ov : Nat -> Value) (R : List ByteArray) (key : ByteArray) (iv nv : Value) (w : World) : Prop :=
 ∃ (n : Nat) (pos : Nat -> Nat) (st : Nat -> List (Nat × Nat)), n ≤ js.length /\ iv = .int .i64 i /\ nv = .int .i64 n /\ Hid (C.Turn E v p st0 js Cs pre W0 i pos D xs ov R st w /\ Before Cs pos /\ pos i = pi /\ ∀ m, m < n -> aKl Cs pos key ((i + m) % js.length))
end
set_option maxRecDepth 100000 in
set_option maxHeartbeats 4000000 in
theorem aIn {C : WCtx} (hC : C.Ok) {v : Nat} (hv : v < C.M.N.length) (hF : C.From (v + 1)) {p : List ByteArray} {E : Nat -> Prop} {ov : Nat -> Value} {R : List ByteArray} {st0 st : Nat -> List (Nat × Nat)} {js : List Nat} {Cs : List CurZ} {pos0 : Nat -> Nat} {pre : List XB} {L : aD} {W : World} {lb lo lc : Nat}
 (hY : C.Lay v p st0 js Cs) (hne : 0 < js.length) (hsm : js.length ≤ 1048576) (hT : C.Turn E v p st0 js Cs pre W 0 pos0 (fun _ => False) [] ov R st W) (hB : Before Cs pos0) (hs : ∀ key, Seen C.M (v + 1) (p ++ [key])) (hL : AllB (lT C.M) p L) (hpre : ∃ R0, pre.map Prod.snd ++ L ++ R0 = C.Lall)
 (hcells : ∀ W', Kp (C.QE E) W W' -> ∀ k j : Nat, js[k]? = some j -> W'.cell? ⟨lb, lo + k, none⟩ = some (.pointer (some ⟨C.cb j, 0, none⟩))) :
 Calls Tryz.prog 158 #[.pointer (some ⟨C.wb, 0, none⟩), .int .i64 v, .slice (some ⟨lb, lo, none⟩) js.length lc] W (C.LeapPost E v p st0 js Cs pre L W) := by
 obtain ⟨wb, ewb⟩ : ∃ x, C.wb = x := ⟨_, rfl⟩
 obtain ⟨nl, enl⟩ : ∃ x, js.length = x := ⟨_, rfl⟩
 have HC := qH hcells
 have HT := qH hT
 have HB := qH hB
 have HN := qH enl
 have HP := qH hpre
 have hst0 : aEn C E v p st0 js Cs pre W (.int .i64 0) W := by
  obtain ⟨j, t, c, h1, h2, h3, h4, h5, h6, h7, h8, h9⟩ := hT.cur hC hY hne
  have hlt := hB 0 c h3
  obtain ⟨key, hk⟩ : ∃ key, c.keys[pos0 0]? = some key := ⟨_, qG (by rw [h7, eJ]; omega)⟩
  exact ⟨_, 0, pos0, _, [], ov, R, st, c, key, rfl, hne, qH hT, qH ⟨h3, hk, hB, rfl⟩⟩
 have HS := qH hst0
 clear hcells hT hB hpre hst0
 rw [enl, ewb]
 rw [enl] at hne hsm
 go_enter Tryz.func158, Tryz.ntmps158
 go_wp2
 go_step3
 go_wp2
 go_step3
 go_wp2
 go_loopw [7] (fun iv wr => aEn C E v p st0 js Cs pre W iv wr) (fun iv wr => zM C E v p st0 js Cs pre W iv wr)
 case atStart => exact HS.out
 case round =>
  obtain ⟨i, pos, D, xs, ov1, R1, st1, ci, key, rfl, hil, hT, hM⟩ := aC8 hrel
  rw [HN.out] at hil
  obtain ⟨j, hj⟩ : ∃ j, js[i]? = some j := ⟨_, qG (by rw [HN.out]; exact hil)⟩
  have HJ := qH hj
  have c0 := HC.out wr hT.out.kp i j hj
  have HE := qH (hT.out.endK hC hY hj hM.out.1)
  have hlt := hM.out.2.2.1 i ci hM.out.1
  have hd : decide (pos i = ci.hi) = false := decide_eq_false (by omega)
  rw [hd] at HE
  have HK := qH (fun W' (hW : Ext wr W') => (hT.out.ext hW).keyK hC hY hj hM.out.1 hlt hM.out.2.1)
  have HL := qH hlt
  have HR := qH hrel
  clear hd hj hlt hrel
  go_wp2_with fail
  refine HE.out.mono ?_
  rintro e w1 ⟨v1, rfl, hk1, rfl⟩
  have T1 := qH (hT.out.ext hk1)
  have K1 := qH hk1
  have c1 := HC.out w1 T1.out.kp i j HJ.out
  clear hk1 c0
  go_wp2_with fail
  refine (HK.out w1 K1.out).mono ?_
  rintro e w2 ⟨v1, rfl, hk2, rfl⟩
  have T2 := qH (T1.out.ext hk2)
  have K2 := qH (K1.out.trans hk2)
  clear hk2 c1
  go_wp2
  go_loopw [7, 24] (fun iv nv w => aK4 C E v p st0 js Cs pre W i (pos i) D xs ov1 R1 key iv nv w) (fun _ nv _ => nl - (intOf nv).toNat)
  case atStart => exact ⟨0, pos, st1, Nat.zero_le _, rfl, rfl, qH ⟨T2.out, hM.out.2.2.1, rfl, fun m hm => by omega⟩⟩
  case round =>
   obtain ⟨n, pos2, st2, hnl, rfl, rfl, HI⟩ := hrel
   rw [HN.out] at hnl
   by_cases hlt2 : n < nl
   ·obtain ⟨kk, ekk⟩ : ∃ kk, (i + n) % nl = kk := ⟨_, rfl⟩
    have hkk : kk < nl := by rw [<- ekk]; exact Nat.mod_lt _ hne
    obtain ⟨j2, t2, c2, h1, h2, h3, -⟩ := HI.out.1.cur hC hY (k := kk) (by rw [HN.out]; exact hkk)
    have d0 := HC.out wr HI.out.1.kp kk j2 h1
    have hp2 := HI.out.2.1 kk c2 h3
    have hci : pos2 i < ci.hi := by rw [HI.out.2.2.1]; exact HL.out
    have hkey : ci.keys[pos2 i]? = some key := by rw [HI.out.2.2.1]; exact hM.out.2.1
    have HSk := qH (HI.out.1.seekK hC hY hM.out.1 hci hkey h1 h3 hp2)
    have HX := qH (And.intro h1 (And.intro h3 (And.intro hp2 (And.intro hci hkey))))
    have hrem : ((i : Int) + (n : Int)) % (nl : Int) = (kk : Int) := by rw [<- ekk]; rfl
    have HKK := qH ekk
    clear h1 h2 h3 hp2 hci hkey ekk
    go_wp2_with fail
    refine HSk.out.mono ?_
    rintro e w3 ⟨q, st3, rfl, hT3, hf3, hq3⟩
    have HT3 := qH (And.intro hT3 (And.intro hf3 hq3))
    clear hT3 hf3 hq3 d0
    by_cases hqe : q = c2.hi
    ·have hd : decide (q ≠ c2.hi) = false := decide_eq_false fun h => h hqe
     have HQ := qH hqe
     rw [hd]
     clear hqe hd hrem
     go_wp2
     go_ret
     refine ⟨true, ov1, R1, st3, _, rfl, HT3.out.1.kp, HT3.out.1.at_, HT3.out.1.row, HT3.out.1.fit.off, HT3.out.1.st_, .inl ⟨rfl, xs, ?_, HT3.out.1.held⟩⟩
     refine AllB.unique (HT3.out.1.inv.end HX.out.2.1 ?_) hL
     show (if kk = kk then q else pos2 kk) = c2.hi
     rw [if_pos rfl]; exact HQ.out
    ·have hd : decide (q ≠ c2.hi) = true := decide_eq_true hqe
     have hqlt : q < c2.hi := by have := HT3.out.2.1.2.1; omega
     obtain ⟨key2, hk2⟩ : ∃ k2, c2.keys[q]? = some k2 := ⟨_, qG (by have := (HT3.out.1.inv.ok c2 (List.mem_of_getElem? HX.out.2.1)).few; omega)⟩
     have hge : 0 ≤ aZ key2.toList key.toList := HT3.out.2.1.2.2.2 key2 hqlt hk2
     have HQ := qH (And.intro hqlt (And.intro hk2 hge))
     have eupd : (if kk = kk then q else pos2 kk) = q := if_pos rfl
     have HKey := qH (fun W' (hW : Ext w3 W') => (HT3.out.1.ext hW).keyK hC hY HX.out.1 HX.out.2.1 (by show (if kk = kk then q else pos2 kk) < _; rw [eupd]; exact hqlt) (key := key2) (by show c2.keys[(if kk = kk then q else pos2 kk)]? = _; rw [eupd]; exact hk2))
     rw [hd]
     clear hqe hd hqlt hk2 hge eupd
     go_wp2_with fail
     refine (HKey.out w3 (Kp.refl _)).mono ?_
     rintro e w4 ⟨v1, rfl, hk4, rfl⟩
     have HT4 := qH (HT3.out.1.ext hk4)
     clear hk4
     have bef : Hid (Before Cs fun m => if m = kk then q else pos2 m) := qH fun m c hc => by
      show (if m = kk then q else pos2 m) < _
      split
      ·rename_i e; subst e
       rw [HX.out.2.1] at hc; cases hc
       exact HQ.out.1
      ·exact HI.out.2.1 m c hc
     by_cases hkk2 : key2 = key
     ·have hd : (key2.toList == key.toList) = true := by rw [hkk2]; exact beq_self_eq_true _
      have HEq := qH hkk2
      clear hkk2
      go_wp2
      go_roundw
      case rel =>
       refine ⟨n + 1, _, st3, by rw [HN.out]; omega, rfl, by first | rfl | (congr 1; done) | (congr 1; omega), qH ⟨HT4.out, bef.out, ?_, fun m hm => ?_⟩⟩
       ·show (if i = kk then q else pos2 i) = pos i
        split
        ·rename_i e
         rw [HT3.out.2.2 e.symm]; exact HI.out.2.2.1
        ·exact HI.out.2.2.1
       ·rw [HN.out]
        by_cases em : m = n
        ·rw [em, HKK.out]
         intro c hc
         rw [HX.out.2.1] at hc; cases hc
         show c2.keys[(if kk = kk then q else pos2 kk)]? = some key
         rw [if_pos rfl, <- HEq.out]; exact HQ.out.2.1
        ·intro c hc
         have h5 := HI.out.2.2.2 m (by omega) c (by rw [HN.out]; exact hc)
         rw [HN.out] at h5
         show c.keys[(if (i + m) % nl = kk then q else pos2 ((i + m) % nl))]? = some key
         split
         ·rename_i e
          rw [e, HX.out.2.1] at hc; cases hc
          rw [<- HEq.out]; exact HQ.out.2.1
         ·exact h5
      case measure => simp [intOf]; omega
     ·have hd : (key2.toList == key.toList) = false := by
       rw [beq_eq_false_iff_ne]
       exact fun h => hkk2 (dD h)
      have HNe := qH (show aZ key.toList key2.toList < 0 from by
       have h5 := cI key2.toList key.toList
       have h6 : aZ key2.toList key.toList ≠ 0 := fun h => hkk2 (dD (dS h))
       have h7 := HQ.out.2.2
       omega)
      clear hkk2
      have hpi : (if i = kk then q else pos2 i) = pos i := by
       split
       ·rename_i e
        rw [HT3.out.2.2 e.symm]; exact HI.out.2.2.1
       ·exact HI.out.2.2.1
      have HT5 := qH (HT4.out.lead hM.out.1 (by show (if i = kk then q else pos2 i) < _; rw [hpi]; exact HL.out) (key := key) (by show ci.keys[(if i = kk then q else pos2 i)]? = _; rw [hpi]; exact hM.out.2.1) HX.out.2.1 (by show (if kk = kk then q else pos2 kk) < _; rw [if_pos rfl]; exact HQ.out.1) (key2 := key2) (by show c2.keys[(if kk = kk then q else pos2 kk)]? = _; rw [if_pos rfl]; exact HQ.out.2.1) (by have := HQ.out.2.2; omega))
      have HO := qH (show zL C E v p st0 js Cs pre W (pZ Cs key2) (.int .i64 kk, w4) from ⟨kk, _, D, xs, ov1, R1, st3, c2, key2, rfl, by rw [HN.out]; exact hkk, HT5, qH ⟨HX.out.2.1, by show c2.keys[(if kk = kk then q else pos2 kk)]? = _; rw [if_pos rfl]; exact HQ.out.2.1, bef.out, rfl⟩⟩)
      clear hpi
      go_wp2
      go_roundw
      case rel => exact ⟨_, by rw [hrem]; exact HO.out⟩
      case measure =>
       have h8 : zM C E v p st0 js Cs pre W (.int .i64 kk) w4 ≤ pZ Cs key2 := aA5 HO.out
       have h9 := aE8 HNe.out (List.mem_of_getElem? HX.out.2.1) HQ.out.1 HQ.out.2.1
       have h10 := hM.out.2.2.2
       rw [hrem]
       omega
   ·obtain rfl : n = nl := by omega
    have hall : ∀ k, k < n -> aKl Cs pos2 key k := fun k hk => by
     obtain ⟨m, hm, e⟩ := aHs hil hk
     have h5 := HI.out.2.2.2 m hm
     rw [HN.out, e] at h5
     exact h5
    have hpath : PathsAt C.M (v + 1) (p ++ [key]) st2 := by
     refine hY.paths.next hC.ok hY.hl (fun j t hj hvt => ?_) fun j t hj hvt => HI.out.1.st_.2 j fun hm => ?_
     ·obtain ⟨k, hk⟩ := List.mem_iff_getElem?.1 (hY.all j t hj hvt)
      obtain ⟨t', a, b, h1, h2, h3, h4⟩ := hY.cur k j hk
      rw [hj] at h1; cases h1
      have hkn : k < n := by rw [<- HN.out]; exact (List.getElem?_eq_some_iff.1 hk).1
      exact ⟨a, b, pos2 k, h3, (HI.out.1.inv.inn k _ h4).1, HI.out.2.1 k _ h4, hall k hkn _ h4, HI.out.1.st_.1 k j _ hk h4⟩
     ·obtain ⟨k, hk⟩ := List.mem_iff_getElem?.1 hm
      obtain ⟨t', a, b, h1, h2, -⟩ := hY.cur k j hk
      rw [hj] at h1; cases h1
      exact hvt h2
    obtain ⟨Lk, hLk, hpre2⟩ := HI.out.1.of_key hM.out.1 (by rw [HI.out.2.2.1]; exact HL.out) (key := key) (by rw [HI.out.2.2.1]; exact hM.out.2.1) hL HP.out
    obtain ⟨q1, q2, q3, q4, q5⟩ := HI.out.1.put hC hY.hl hv key
    have HFr := qH (hF (p ++ [key]) E ov1 (R1.set v key) st2 (pre ++ xs) Lk _ (by rw [List.length_append, hY.hl]; rfl) q1 q2 hpath (hs key) hLk hpre2 q3 q4)
    have HLk := qH (And.intro hLk q5)
    have hwk := HI.out.1.at_.wlk
    have b2 : wr.cell? ⟨wb, 2, none⟩ = some (.slice (some ⟨C.rb, 0, none⟩) C.M.N.length C.M.N.length) := by
     rw [<- ewb, hwk.box.cell']; rfl
    obtain ⟨ox, hox⟩ : ∃ x, R1[v]? = some x := ⟨_, qG (by rw [hwk.rowL]; exact hv)⟩
    have r0 : wr.cell? ⟨C.rb, v, none⟩ = some (.string ox) := by rw [hwk.rowB.cell']; unfold strs; rw [List.getElem?_map, hox]; rfl
    have f0 := hwk.rowB.free v
    obtain ⟨rb, erb⟩ : ∃ x, C.rb = x := ⟨_, rfl⟩
    obtain ⟨nv, env⟩ : ∃ x, C.M.N.length = x := ⟨_, rfl⟩
    have hfew := (hC.mat _ HI.out.1.at_.w0k).few.1
    rw [env] at b2 hv hfew
    rw [erb] at b2 r0 f0 HFr HLk
    rw [ewb] at HFr
    obtain ⟨w5, e5⟩ : ∃ x, wr.setCell ⟨rb, v, none⟩ (.string key) = x := ⟨_, rfl⟩
    rw [e5] at HFr HLk
    have HFs := qH (show Calls Tryz.prog 123 #[.pointer (some ⟨wb, 0, none⟩), .int .i64 ((v : Int) + 1)] w5 _ from HFr.out)
    clear hox hwk q1 q2 q3 q4 q5 hpath hall hLk hpre2 hnl hlt2 HFr
    go_wp2_with fail
    refine HFs.out.mono ?_
    rintro e w6 ⟨b, ov6, R6, rfl, hk6, hat6, hrow6, hoff6, hends⟩
    have hrow : R6.take v = p := by
     have := congrArg (List.take v) hrow6
     rw [List.take_take, show min v (v + 1) = v by omega, <- hY.hl, List.take_left] at this
     rw [<- hY.hl]; exact this
    have hkp := HLk.out.2.trans hk6
    have H6 := qH (And.intro hat6 (And.intro hrow (And.intro hoff6 hkp)))
    clear hk6 hat6 hrow6 hoff6 hkp hrow b2 r0 f0 e5
    rcases hends with ⟨rfl, xs', hxs, hheld⟩ | ⟨rfl, pre2, hpre2, hheld⟩
    ·have hfit : C.Fit E ov6 w6 := ⟨fun k hk => Nat.lt_of_lt_of_le (HT.out.fit.lt k hk) H6.out.2.2.2.size, H6.out.2.2.1, HT.out.fit.lo⟩
     rw [List.append_assoc] at hheld
     have hLk := HLk.out.1
     rw [<- hxs] at hLk
     have hci : pos2 i < ci.hi := by rw [HI.out.2.2.1]; exact HL.out
     have HNx := qH (WCtx.nextK hC hY HI.out.1.inv hM.out.1 hci (key := key) (by rw [HI.out.2.2.1]; exact hM.out.2.1) hLk H6.out.1 H6.out.2.1 HI.out.1.st_ hheld hfit H6.out.2.2.2 HJ.out)
     have c6 := HC.out w6 H6.out.2.2.2 i j HJ.out
     clear hfit hxs hheld hLk hci
     go_wp2_with fail
     refine HNx.out.mono ?_
     rintro e w7 ⟨st7, rfl, hT7⟩
     have HT7 := qH hT7
     clear hT7 c6
     by_cases hend : pos2 i + 1 = ci.hi
     ·have hd : decide (pos2 i + 1 ≠ ci.hi) = false := decide_eq_false fun h => h hend
      have HE7 := qH hend
      rw [hd]
      clear hend hd
      go_wp2
      go_ret
      refine ⟨true, ov6, R6, st7, _, rfl, HT7.out.kp, HT7.out.at_, HT7.out.row, HT7.out.fit.off, HT7.out.st_, .inl ⟨rfl, xs ++ xs', ?_, HT7.out.held⟩⟩
      refine AllB.unique (HT7.out.inv.end hM.out.1 ?_) hL
      show (if i = i then pos2 i + 1 else pos2 i) = ci.hi
      rw [if_pos rfl]; exact HE7.out
     ·have hd : decide (pos2 i + 1 ≠ ci.hi) = true := decide_eq_true hend
      have hlt7 : pos2 i + 1 < ci.hi := by have := HI.out.2.1 i ci hM.out.1; omega
      have hok := HT7.out.inv.ok ci (List.mem_of_getElem? hM.out.1)
      obtain ⟨key2, hk2⟩ : ∃ k2, ci.keys[pos2 i + 1]? = some k2 := ⟨_, qG (by have := hok.few; omega)⟩
      have hlow : aZ key.toList key2.toList < 0 := hok.rise (pos2 i) (pos2 i + 1) key key2 (HI.out.1.inv.inn i ci hM.out.1).1 (by omega) hlt7 (by rw [HI.out.2.2.1]; exact hM.out.2.1) hk2
      have HO := qH (show zL C E v p st0 js Cs pre W (pZ Cs key2) (.int .i64 i, w7) from ⟨i, _, _, xs ++ xs', ov6, R6, st7, ci, key2, rfl, by rw [HN.out]; exact hil, HT7, qH ⟨hM.out.1, by show ci.keys[(if i = i then pos2 i + 1 else pos2 i)]? = _; rw [if_pos rfl]; exact hk2, fun m c hc => by
       show (if m = i then pos2 i + 1 else pos2 m) < _
       split
       ·rename_i e; subst e
        rw [hM.out.1] at hc; cases hc
        exact hlt7
       ·exact HI.out.2.1 m c hc, rfl⟩⟩)
      have HLt := qH (aE8 hlow (List.mem_of_getElem? hM.out.1) hlt7 hk2)
      rw [hd]
      clear hend hd hlt7 hok hk2 hlow
      go_wp2
      go_roundw
      case rel => exact ⟨_, HO.out⟩
      case measure =>
       have h8 : zM C E v p st0 js Cs pre W (.int .i64 i) w7 ≤ pZ Cs key2 := aA5 HO.out
       have h9 := HLt.out
       have h10 := hM.out.2.2.2
       omega
    ·have HFin := qH (And.intro hpre2 hheld)
     clear hpre2 hheld
     go_wp2
     go_ret
     exact ⟨false, ov6, R6, st2, pos2, rfl, H6.out.2.2.2, H6.out.1, H6.out.2.1, H6.out.2.2.1, HI.out.1.st_, .inr ⟨rfl, pre2, HFin.out⟩⟩
end Go.Proofs.YtinnmeiphbdogaaGreat
/- The walk through a matcher: from. -/
namespace Go.Proofs.YtinnmeiphbdogaaGreat
open Go.RowKit Go.Shelf
structure WCtx.Yields (C : WCtx) (l n : Nat) : Prop where
 yv : C.yv = .func (.yield l) #[] #[]
 one : ∀ T T' pre x W1 W2, C.J T pre W1 -> Kp T W1 W2 -> (∀ k, T' k -> vI T W1 W2 k) -> GvRow W1 T' W2 x -> (pre ++ [x]).map Prod.snd <+: C.Lall -> YieldAt Fence.wide n Tryz.prog l (encX x) W2 fun e W' =>
  (e = .returned (.bool true) /\ C.J T' (pre ++ [x]) W' /\ Kp (fun k => ¬ eS C.Z T' k) W2 W') \/ (e = .returned (.bool false) /\ C.Jx T' (pre ++ [x]) W' /\ Kp (fun k => ¬ eS C.Z T' k) W2 W')
section
variable {C : WCtx} {E : Nat -> Prop} {v : Nat} {p : List ByteArray} {st0 st : Nat -> List (Nat × Nat)} {js : List Nat} {Cs : List CurZ} {pre xs : List XB} {W0 W W' : World} {i : Nat} {pos : Nat -> Nat} {D : ByteArray -> Prop} {ov : Nat -> Value} {R : List ByteArray}
theorem WCtx.passK (hC : C.Ok) (h : C.At ov R st W) (hv : v ≤ C.M.N.length) : Calls Tryz.prog 156 #[.pointer (some ⟨C.wb, 0, none⟩), .int .i64 v] W (RetN W fun W' u => u = .bool (!(C.M.tests v).any fun t => !t.ask R)) := by
 obtain ⟨h1, h2, h3, h4, h5, h6, h7, h8, h9, h10⟩ := hC.mat W h.w0k
 obtain ⟨b, o, e, c, d⟩ := h7 v hv
 rw [e] at h4
 have hb := h.wlk.box
 refine aC1 (tc := C.A.yc v) (C.M.tests v) rfl d (h9 v hv) (by rw [hb.cell']; rfl) h4 hv c (ra := some ⟨C.rb, 0, none⟩) (cp := C.M.N.length) (by rw [hb.cell']; rfl) ?_ h.wlk.rowL (h10.2.2 v hv) h10.1
 have := h.wlk.rowB
 have h11 : strs R ++ [] = strs R := List.append_nil _
 rw [<- h11] at this
 exact CellsAt.pre this
theorem aHu (hC : C.Ok) {l n : Nat} (hY : C.Yields l n) {w1 : World} (hat : C.At ov R st w1) (hfit : C.Fit E ov w1) (hheld : Held C.J E (C.Own ov) pre w1) (hkp : Kp (C.QE E) W w1) (hrow : R.take v = p) (hRp : R = p) {R0 : aD} (hpre : pre.map Prod.snd ++ [p] ++ R0 = C.Lall) :
 ∀ (ao : Option Addr) (W2 : World), Ext w1 W2 -> ((ao = none /\ strs R = []) \/ ∃ g rest, ao = some ⟨g, 0, none⟩ /\ Blk W2 g (strs R ++ rest) 9 /\ w1.heap.size ≤ g) -> YieldAt Fence.wide n Tryz.prog l #[.slice ao C.M.N.length C.M.N.length] W2 fun e W' => ∃ b, e = .returned (.bool b) /\ C.Post E v p st pre [p] W (.returned (.bool b)) W' := by
 intro ao W2 hx hB
 obtain ⟨T, W1, hJ, hT, hown⟩ := hheld
 have hlt : ∀ k, (C.Own ov k \/ E k) -> k < w1.heap.size := fun k hk => by
  rcases hk with hk | hk
  ·exact hat.wlk.lt k hk
  ·exact hfit.lt k hk
 have hlen : (pre ++ [((ao, C.M.N.length, C.M.N.length), R)]).map Prod.snd <+: C.Lall := by
  rw [<- hpre, List.map_append, <- hRp]
  exact List.prefix_append _ _
 have hsz := hT.size
 have hsz2 := hx.size
 have hRl := hat.wlk.rowL
 have hgv : GvRow W1 (fun k => C.Own ov k \/ E k) W2 ((ao, C.M.N.length, C.M.N.length), R) := ⟨by rw [hRl], by
  rcases hB with ⟨h1, h2⟩ | ⟨g, rest, h1, h2, h3⟩
  ·exact .inl ⟨h1, List.map_eq_nil_iff.1 h2⟩
  ·exact .inr ⟨g, rest, h1, h2, by omega, fun h => by have := hlt g h; omega⟩⟩
 obtain ⟨fn, tmps, assign, body, hy, hR⟩ := hY.one T (fun k => C.Own ov k \/ E k) pre ((ao, C.M.N.length, C.M.N.length), R) W1 W2 hJ (hT.ext hx) (fun k hk => by
  rcases hown k hk with h | h
  ·exact .inl h
  ·exact .inr ⟨h, Nat.lt_of_lt_of_le (hlt k hk) hsz2⟩) hgv hlen
 refine ⟨fn, tmps, assign, body, hy, hR.mono ?_⟩
 have fin : ∀ W', Kp (fun k => ¬ eS C.Z (fun k => C.Own ov k \/ E k) k) W2 W' -> Kp (C.QE E) W W' /\ C.At ov R st W' := fun W' hk =>
  ⟨(hkp.ext hx).trans' hk fun i _ hi => ⟨fun hz => hi (.inr hz), fun he => hi (.inl (.inr he))⟩, (hat.wlk.ext hx).kp hk fun k hk' hn => hn (.inl (.inl hk')), hat.new, (hat.w0k.ext hx).trans' hk fun i _ hi hz => hi (.inr hz)⟩
 rintro e W' (⟨rfl, hJ', hk⟩ | ⟨rfl, hJ', hk⟩)
 ·obtain ⟨f1, f2⟩ := fin W' hk
  exact ⟨true, rfl, true, ov, R, rfl, f1, f2, hrow, hfit.off, .inl ⟨rfl, [_], by rw [<- hRp]; rfl, _, W', hJ', Kp.refl _, fun k hk => .inl hk⟩⟩
 ·obtain ⟨f1, f2⟩ := fin W' hk
  refine ⟨false, rfl, false, ov, R, rfl, f1, f2, hrow, hfit.off, .inr ⟨rfl, _, ?_, _, W', hJ', Kp.refl _, fun k hk => .inl hk⟩⟩
  rw [<- hpre, List.map_append, <- hRp]
  exact List.prefix_append _ _
end
theorem sO {P : Program} {t e : TypeId} {k bytes : Nat} {z : Value} {w : World} (E : cO P t e k bytes z) {ops : Array Oper} {rest : List Oper} {o : Oper} {a : Act} {Q : Exit -> Act -> World -> Prop} (hgd : o.guard = none) (s x : Operand)
 (ho : o.op = .call { callee := .builtin .append, args := #[s, x], argTypes := #[t, t] })
 {v : Value} {n : Nat} {xs : List Value} {M : Nat -> Prop} (hs : a.eval s = v) (hr : Row w e k v n xs M)
 {ao : Option Addr} {m c : Nat} {news : List Value} (hx : a.eval x = .slice ao m c) (hsrc : CellsAt w ao news) (hl : news.length = m * k) (h1 : ∀ u ∈ news, u.oneCell' = true)
 (hb : (n + m) * bytes ≤ 140737488355328) (h63 : n + m ≤ maxLen)
 (h : ∀ v' w', Row w' e k v' (n + m) (xs ++ news) (fun g => v.ownBlock = some g \/ w.heap.size ≤ g) -> Kp (fun g => v.ownBlock = some g) w w' -> wpList P ops Q rest (a.put o.dst v') w') : wpList P ops Q (o :: rest) a w := by
 refine wpList_plain hgd fun K hK => ?_
 obtain ⟨v', w', hrun, h2, h3, h4⟩ := nR (P := P) E o.type hr hl hsrc h1 hb h63 (c := c)
 unfold Oper.wp execOp
 simp only [ho, resolve, invoke, builtin, Sem.run_bind, Sem.run_pure, Result.andThen_ok, List.map_toArray, List.map_cons, List.map_nil, hs, hx, hrun]
 exact hK _ _ (h v' w' h2 h3)
theorem xQ : cO Tryz.prog 184 188 1 8 (.pointer none) := ⟨by kernel_rfl, by kernel_rfl, rfl, by decide⟩
section
variable {C : WCtx} {E : Nat -> Prop} {v : Nat} {p : List ByteArray} {st0 st : Nat -> List (Nat × Nat)} {js : List Nat} {Cs : List CurZ} {pre xs : List XB} {W0 W W' : World} {i : Nat} {pos : Nat -> Nat} {D : ByteArray -> Prop} {ov : Nat -> Value} {R : List ByteArray}
def EL (E : Nat -> Prop) (lv : Value) : Nat -> Prop := fun k => E k \/ lv.ownBlock = some k
structure WCtx.Opened (C : WCtx) (E : Nat -> Prop) (v : Nat) (p R : List ByteArray) (st : Nat -> List (Nat × Nat)) (js : List Nat) (pre : List XB) (w1 : World) (m : Nat) (lv : Value) (ov : Nat -> Value) (st' : Nat -> List (Nat × Nat)) (sp : Nat -> Nat × Nat) (w : World) : Prop where
 row : Row w 188 1 lv m (rL C.cb (js.take m)) (fun g => w1.heap.size ≤ g)
 at_ : C.At ov R st' w
 held : Held C.J (EL E lv) (C.Own ov) pre w
 fit : C.Fit (EL E lv) ov w
 kp : Kp (C.QE E) w1 w
 done : ∀ k j : Nat, k < m -> js[k]? = some j -> ∃ t, C.M.Ts[j]? = some t /\ SpanOf t.W t.vs.length (dK t.vs v p) (sp j).1 (sp j).2 /\ (sp j).1 < (sp j).2 /\ st' j = st j ++ [sp j]
 rest : ∀ j, j ∉ js.take m -> st' j = st j
def OpenR (C : WCtx) (E : Nat -> Prop) (v : Nat) (p R : List ByteArray) (st : Nat -> List (Nat × Nat)) (js : List Nat) (pre : List XB) (w1 : World) (lv iv : Value) (w : World) : Prop :=
 ∃ (m : Nat) (ov : Nat -> Value) (st' : Nat -> List (Nat × Nat)) (sp : Nat -> Nat × Nat), m ≤ js.length /\ iv = .int .i64 m /\ Hid (C.Opened E v p R st js pre w1 m lv ov st' sp w)
theorem WCtx.At.ptrAt (h : C.At ov R st W) {ca : Option Addr} {n cc : Nat} (e : C.cv = .slice ca n cc) {j : Nat} (hj : j < C.M.Ts.length) : ∃ b o, ca = some ⟨b, o, none⟩ /\ W.cell? ⟨b, o + j, none⟩ = some (.pointer (some ⟨C.cb j, 0, none⟩)) := by
 obtain ⟨ca', cc', e', hp⟩ := h.wlk.ptr
 rw [e] at e'
 simp only [Value.slice.injEq] at e'
 obtain ⟨rfl, -, -⟩ := e'
 exact hp j hj
theorem WCtx.Opened.open (hC : C.Ok) (hn : js.Nodup) (hl : p.length = v) (hP : PathsAt C.M v p st) {w1 : World} {m j : Nat} {lv : Value} {sp : Nat -> Nat × Nat} (h : C.Opened E v p R st js pre w1 m lv ov st0 sp W) {t : TrieZ} (hj : js[m]? = some j) (ht : C.M.Ts[j]? = some t) (hv : v ∈ t.vs) :
 Calls Tryz.prog 157 #[.pointer (some ⟨C.cb j, 0, none⟩)] W fun e W' => ∃ (b : Bool) (ov' : Nat -> Value) (st' : Nat -> List (Nat × Nat)) (sp' : Nat -> Nat × Nat), e = .returned (.bool b) /\ W.heap.size ≤ W'.heap.size /\ Row W' 188 1 lv m (rL C.cb (js.take m)) (fun g => w1.heap.size ≤ g) /\ C.At ov' R st' W' /\ Held C.J (EL E lv) (C.Own ov') pre W' /\ C.Fit (EL E lv) ov' W' /\ Kp (C.QE E) w1 W' /\
  (∀ k i : Nat, k < m + 1 -> js[k]? = some i -> ∃ t, C.M.Ts[i]? = some t /\ SpanOf t.W t.vs.length (dK t.vs v p) (sp' i).1 (sp' i).2 /\ (sp' i).1 < (sp' i).2 /\ st' i = st i ++ [sp' i]) /\ ∀ i, i ∉ js.take (m + 1) -> st' i = st i := by
 have hnot : j ∉ js.take m := fun hm => by
  obtain ⟨k, hk⟩ := List.mem_iff_getElem?.1 hm
  have hkm : k < m := by
   have := (List.getElem?_eq_some_iff.1 hk).1
   rw [List.length_take] at this; omega
  rw [List.getElem?_take_of_lt hkm] at hk
  have := (List.getElem?_inj (List.getElem?_eq_some_iff.1 hk).1 hn).1 (hk.trans hj.symm)
  omega
 obtain ⟨w2, w3, w4, w5, w6⟩ := hC.ok.ways t (List.mem_of_getElem? ht)
 have hcur := h.at_.wlk.cur j t ht
 rw [h.rest j hnot] at hcur
 have hT := (hC.mat W h.at_.w0k).tries t (List.mem_of_getElem? ht)
 refine (aF3 hcur hT w2 w6 (hP j t ht) (sU w3 hv hl ByteArray.empty).2).mono ?_
 rintro e W' ⟨_, rfl, hk, rfl, ov2, f, u, hc2, hs, hft, ho⟩
 obtain ⟨a1, a2, a3⟩ := h.at_.turn hC ht hk hc2 ho
 refine ⟨true, bP ov j ov2, _, bP sp j (f, u), rfl, hk.size, h.row.kp' hk fun g hg _ hf => h.fit.off g (a3 g hf) (.inr hg), a1, h.held.step hk (fun k hk => .inl (a3 k hk)) a2 (fun k h => .inl h), h.fit.turn hk.size a2, h.kp.trans' hk fun k _ hf => ?_, fun k i hkm hi => ?_, fun i hi => ?_⟩
 ·have := WCtx.QE_own hC h.at_ h.fit k (a3 k hf)
  exact ⟨this.1, fun he => this.2 (.inl he)⟩
 ·by_cases e : i = j
  ·subst e
   rw [upd_same, upd_same]
   exact ⟨t, ht, hs, hft, rfl⟩
  ·have hkm' : k < m := by
    rcases Nat.lt_or_eq_of_le (Nat.le_of_lt_succ hkm) with h1 | h1
    ·exact h1
    ·subst h1; rw [hj] at hi; cases hi; exact absurd rfl e
   rw [aH _ _ e, aH _ _ e]
   exact h.done k i hkm' hi
 ·have e1 : js.take (m + 1) = js.take m ++ [j] := by rw [List.take_add_one, hj]; rfl
  rw [e1, List.mem_append, List.mem_singleton, not_or] at hi
  rw [aH _ _ hi.2]
  exact h.rest i hi.1
theorem WCtx.Opened.push (hC : C.Ok) {w1 w3 w4 : World} {m j : Nat} {lv lv4 : Value} {sp : Nat -> Nat × Nat} (hj : js[m]? = some j) (q2 : Row w3 188 1 lv m (rL C.cb (js.take m)) (fun g => w1.heap.size ≤ g)) (q3 : C.At ov R st0 w3) (q4 : Held C.J (EL E lv) (C.Own ov) pre w3) (q5 : C.Fit (EL E lv) ov w3) (q6 : Kp (C.QE E) w1 w3)
 (q7 : ∀ k i : Nat, k < m + 1 -> js[k]? = some i -> ∃ t, C.M.Ts[i]? = some t /\ SpanOf t.W t.vs.length (dK t.vs v p) (sp i).1 (sp i).2 /\ (sp i).1 < (sp i).2 /\ st0 i = st i ++ [sp i]) (q8 : ∀ i, i ∉ js.take (m + 1) -> st0 i = st i) (hr : Row w4 188 1 lv4 (m + 1) (rL C.cb (js.take m) ++ [.pointer (some ⟨C.cb j, 0, none⟩)]) (fun g => lv.ownBlock = some g \/ w3.heap.size ≤ g)) (hk : Kp (fun g => lv.ownBlock = some g) w3 w4) (hE : ∀ k, E k -> k < w1.heap.size) :
 C.Opened E v p R st js pre w1 (m + 1) lv4 ov st0 sp w4 := by
 have e1 : js.take (m + 1) = js.take m ++ [j] := by rw [List.take_add_one, hj]; rfl
 have e2 : rL C.cb (js.take m) ++ [.pointer (some ⟨C.cb j, 0, none⟩)] = rL C.cb (js.take (m + 1)) := by unfold rL; rw [e1, List.map_append]; rfl
 rw [e2] at hr
 have hs := q6.size
 have hlo : C.lo ≤ w3.heap.size := Nat.le_of_lt (Nat.lt_of_le_of_lt (q3.new C.wb (.inl rfl)) (q3.wlk.lt C.wb (.inl rfl)))
 refine ⟨hr.mono fun g hg => ?_, ⟨q3.wlk.kp hk fun k h1 h2 => q5.off k h1 (.inr h2), q3.new, q3.w0k.trans' hk fun k _ h1 h2 => ?_⟩, q4.step hk (fun k h => .inr (.inl (.inr h))) (fun k h => .inl h) (fun k h => ?_), ⟨fun k h => ?_, fun k h1 h2 => ?_, fun k h => ?_⟩, q6.trans' hk fun k h0 h1 => ?_, q7, q8⟩
 ·rcases hg with hg | hg
  ·exact q2.block g hg
  ·omega
 ·have := hC.hZ k h2
  have := q5.lo k (.inr h1)
  omega
 ·rcases h with h | h
  ·exact .inl (.inl h)
  ·rcases hr.block k h with h | h
   ·exact .inl (.inr h)
   ·exact .inr h
 ·rcases h with h | h
  ·have := q5.lt k (.inl h)
   have := hk.size
   omega
  ·obtain ⟨cs, hb⟩ := aP hr h
   exact hb.lt
 ·rcases h2 with h2 | h2
  ·exact q5.off k h1 (.inl h2)
  ·rcases hr.block k h2 with h | h
   ·exact q5.off k h1 (.inr h)
   ·have := q3.wlk.lt k h1; omega
 ·rcases h with h | h
  ·exact q5.lo k (.inl h)
  ·rcases hr.block k h with h | h
   ·exact q5.lo k (.inr h)
   ·omega
 ·refine ⟨fun hz => ?_, fun he => ?_⟩
  ·have := hC.hZ k hz
   have := q5.lo k (.inr h1)
   omega
  ·have := q2.block k h1
   have := hE k he
   omega
theorem WCtx.Ends.step {L : aD} {b : Bool} {E' G : Nat -> Prop} {ov2 : Nat -> Value} (h : C.Ends E pre L ov b W) (hk : Kp G W W') (hG : ∀ k, G k -> C.Own ov k \/ E k \/ W.heap.size ≤ k) (ho : ∀ k, C.Own ov2 k -> C.Own ov k \/ W.heap.size ≤ k) (hE : ∀ k, E' k -> E k \/ W.heap.size ≤ k) : C.Ends E' pre L ov2 b W' := by
 rcases h with ⟨h1, xs, h2, h3⟩ | ⟨h1, pre', h2, h3⟩
 ·exact .inl ⟨h1, xs, h2, h3.step hk hG ho hE⟩
 ·exact .inr ⟨h1, pre', h2, h3.step hk hG ho hE⟩
structure WCtx.Shut (C : WCtx) (E : Nat -> Prop) (v : Nat) (p : List ByteArray) (st : Nat -> List (Nat × Nat)) (js : List Nat) (pre : List XB) (L : aD) (b : Bool) (w1 : World) (m : Nat) (ov : Nat -> Value) (R : List ByteArray) (st' : Nat -> List (Nat × Nat)) (w : World) : Prop where
 at_ : C.At ov R st' w
 off : ∀ k, C.Own ov k -> ¬ E k
 kp : Kp (C.QE E) w1 w
 ends : C.Ends E pre L ov b w
 todo : ∀ k j : Nat, m ≤ k -> js[k]? = some j -> ∃ x, st' j = st j ++ [x]
 rest : ∀ j, j ∉ js.drop m -> st' j = st j
theorem WCtx.Shut.up (hC : C.Ok) (hn : js.Nodup) {L : aD} {b : Bool} (hE : ∀ k, E k -> k < W.heap.size) (h : C.Shut E v p st js pre L b W0 i ov R st0 W) {j : Nat} {t : TrieZ} (hj : js[i]? = some j) (ht : C.M.Ts[j]? = some t) :
 Calls Tryz.prog 159 #[.pointer (some ⟨C.cb j, 0, none⟩)] W fun e W' => ∃ (c : Bool) (ov' : Nat -> Value) (st' : Nat -> List (Nat × Nat)), e = .returned (.bool c) /\ W.heap.size ≤ W'.heap.size /\ C.Shut E v p st js pre L b W0 (i + 1) ov' R st' W' := by
 obtain ⟨⟨x1, x2⟩, hx⟩ := h.todo i j (Nat.le_refl _) hj
 have hcur := h.at_.wlk.cur j t ht
 rw [hx] at hcur
 refine (aJp hcur).mono ?_
 rintro e W' ⟨_, rfl, hk, rfl, ov2, ho2, hc2⟩
 obtain ⟨a1, a2, a3⟩ := h.at_.turn hC ht hk hc2 (fun k hk => .inl (by rw [<- ho2]; exact hk))
 have edrop : js.drop i = j :: js.drop (i + 1) := by
  have hl := List.getElem?_eq_some_iff.1 hj
  rw [List.drop_eq_getElem_cons hl.1, hl.2]
 have hjn : j ∉ js.drop (i + 1) := by
  have h1 : (js.drop i).Nodup := hn.sublist (List.drop_sublist _ _)
  rw [edrop] at h1
  exact (List.nodup_cons.1 h1).1
 refine ⟨true, bP ov j ov2, _, rfl, hk.size, a1, fun k hk2 he => ?_, h.kp.trans' hk fun k _ hf => ?_, h.ends.step hk (fun k hk => .inl (a3 k hk)) a2 (fun k h => .inl h), fun k i2 hik hi2 => ?_, fun i2 hi2 => ?_⟩
 ·rcases a2 k hk2 with h1 | h1
  ·exact h.off k h1 he
  ·have := hE k he; omega
 ·refine ⟨fun hz => ?_, h.off k (a3 k hf)⟩
  have := hC.hZ k hz
  have := h.at_.new k (a3 k hf)
  omega
 ·have hne : i2 ≠ j := fun e => hjn (by
   rw [<- e]
   refine List.mem_of_getElem? (i := k - (i + 1)) ?_
   rw [List.getElem?_drop, show i + 1 + (k - (i + 1)) = k by omega]; exact hi2)
  rw [aH _ _ hne]
  exact h.todo k i2 (by omega) hi2
 ·by_cases e : i2 = j
  ·subst e; rw [upd_same]
  ·rw [aH _ _ e]
   refine h.rest i2 fun hm => ?_
   rw [edrop] at hm
   rcases List.mem_cons.1 hm with h1 | h1
   ·exact e h1
   ·exact hi2 h1
def ShutR (C : WCtx) (E : Nat -> Prop) (v : Nat) (p : List ByteArray) (st : Nat -> List (Nat × Nat)) (js : List Nat) (pre : List XB) (L : aD) (b : Bool) (w1 : World) (R : List ByteArray) (iv : Value) (w : World) : Prop :=
 ∃ (m : Nat) (ov : Nat -> Value) (st' : Nat -> List (Nat × Nat)), m ≤ js.length /\ iv = .int .i64 m /\ Hid (C.Shut E v p st js pre L b w1 m ov R st' w)
theorem WCtx.Opened.start (hC : C.Ok) (hl : p.length = v) (hvn : v < C.M.N.length) (hP : PathsAt C.M v p st) (hrow : R.take v = p) (hj : atL C.M.Ts v = js) {w1 : World} {lv : Value} {sp : Nat -> Nat × Nat} (h : C.Opened E v p R st js pre w1 js.length lv ov st0 sp W) :
 0 < js.length /\ ∃ Cs pos0, C.Lay v p st js Cs /\ C.Turn (EL E lv) v p st js Cs pre W 0 pos0 (fun _ => False) [] ov R st0 W /\ Before Cs pos0 := by
 have hne : 0 < js.length := by
  obtain ⟨t, ht, hv⟩ := hC.ok.all v hvn
  obtain ⟨j, hj2⟩ := List.mem_iff_getElem?.1 ht
  have : j ∈ js := by rw [<- hj]; exact sV.2 ⟨t, hj2, hv⟩
  exact List.length_pos_of_mem this
 have hdone : ∀ j ∈ js, ∃ t, C.M.Ts[j]? = some t /\ v ∈ t.vs /\ SpanOf t.W t.vs.length (dK t.vs v p) (sp j).1 (sp j).2 /\ (sp j).1 < (sp j).2 /\ st0 j = st j ++ [sp j] := fun j hm => by
  obtain ⟨k, hk⟩ := List.mem_iff_getElem?.1 hm
  obtain ⟨t, h1, h2, h3, h4⟩ := h.done k j (List.getElem?_eq_some_iff.1 hk).1 hk
  rw [<- hj] at hm
  obtain ⟨t', h5, h6⟩ := sV.1 hm
  rw [h1] at h5; cases h5
  exact ⟨t, h1, h6, h2, h3, h4⟩
 obtain ⟨Cs, eCs⟩ : ∃ Cs, js.map (fun j => (⟨bM (C.M.Ts.getD j noT).W (C.M.Ts.getD j noT).vs.length (dK (C.M.Ts.getD j noT).vs v p).length (C.M.Ts.getD j noT).W.length, (sp j).1, (sp j).2⟩ : CurZ)) = Cs := ⟨_, rfl⟩
 obtain ⟨hok, hcom⟩ := aG5 hC.ok hvn hl (js := js) (fun j hm => by obtain ⟨t, h1, h2, -⟩ := hdone j hm; exact ⟨t, h1, h2⟩) (sp := sp) eCs.symm (fun j hm => by
  obtain ⟨t, h1, h2, h3, -⟩ := hdone j hm
  rw [bC h1]; exact h3)
 have hget : ∀ k j : Nat, js[k]? = some j -> ∃ t, C.M.Ts[j]? = some t /\ v ∈ t.vs /\ SpanOf t.W t.vs.length (dK t.vs v p) (sp j).1 (sp j).2 /\ (sp j).1 < (sp j).2 /\ st0 j = st j ++ [sp j] /\ Cs[k]? = some ⟨bM t.W t.vs.length (dK t.vs v p).length t.W.length, (sp j).1, (sp j).2⟩ := fun k j hk => by
  obtain ⟨t, h1, h2, h3, h4, h5⟩ := hdone j (List.mem_of_getElem? hk)
  refine ⟨t, h1, h2, h3, h4, h5, ?_⟩
  rw [<- eCs, List.getElem?_map, hk]
  simp only [Option.map_some, bC h1]
 have hlen : Cs.length = js.length := by rw [<- eCs, List.length_map]
 have hpos : ∀ (k : Nat) (c : CurZ), Cs[k]? = some c -> (Cs.getD k ⟨[], 0, 0⟩).lo = c.lo := fun k c hc => by rw [bC hc]
 refine ⟨hne, Cs, fun k => (Cs.getD k ⟨[], 0, 0⟩).lo, ⟨?_, hlen, fun k j hk => ?_, hP, hl, fun j t hjt hv => ?_⟩, ⟨LeapInv.start hok (by omega) hcom, h.at_, hrow, ⟨fun k j c hk hc => ?_, fun j hm => h.rest j (by rw [List.take_length]; exact hm)⟩, by rw [List.append_nil]; exact h.held, h.fit, Kp.refl _⟩, fun k c hc => ?_⟩
 ·rw [<- hj]; exact xX _ _
 ·obtain ⟨t, h1, h2, h3, h4, h5, h6⟩ := hget k j hk
  exact ⟨t, _, _, h1, h2, h3, h6⟩
 ·rw [<- hj]; exact sV.2 ⟨t, hjt, hv⟩
 ·obtain ⟨t, h1, h2, h3, h4, h5, h6⟩ := hget k j hk
  rw [h6] at hc
  cases hc
  show st0 j = st j ++ [((Cs.getD k ⟨[], 0, 0⟩).lo, (sp j).2)]
  rw [hpos k _ h6]; exact h5
 ·have hk : k < js.length := by rw [<- hlen]; exact (List.getElem?_eq_some_iff.1 hc).1
  obtain ⟨t, h1, h2, h3, h4, h5, h6⟩ := hget k _ (qG hk)
  show (Cs.getD k ⟨[], 0, 0⟩).lo < c.hi
  rw [hpos k c hc]
  rw [h6] at hc
  cases hc
  exact h4
end
theorem aB7 {w : World} {v : Value} {n : Nat} {xs : List Value} {e : TypeId} {w0 : World} (h : Row w e 1 v n xs (New w0)) : ∃ ao cap, v = .slice ao n cap /\ n ≤ cap /\ ((ao = none /\ xs = []) \/ ∃ g rest, ao = some ⟨g, 0, none⟩ /\ Blk w g (xs ++ rest) e /\ w0.heap.size ≤ g) := by
 obtain ⟨h1, ⟨h2, h3⟩ | ⟨g, cap, rest, e1, hM, hB, h3, h4, _⟩⟩ := h
 ·subst h3
  exact ⟨none, 0, h2, Nat.le_refl _, .inl ⟨rfl, List.eq_nil_of_length_eq_zero (by simpa using h1)⟩⟩
 ·exact ⟨_, cap, e1, h4, .inr ⟨g, rest, rfl, hB, hM⟩⟩
theorem aEb {w w' : World} {xs : List Value} {e : TypeId} {ao : Option Addr} {m m' : Nat} (h : (ao = none /\ xs = []) \/ ∃ g rest, ao = some ⟨g, 0, none⟩ /\ Blk w g (xs ++ rest) e /\ m ≤ g) (hk : Ext w w') (hm : m' ≤ m) : (ao = none /\ xs = []) \/ ∃ g rest, ao = some ⟨g, 0, none⟩ /\ Blk w' g (xs ++ rest) e /\ m' ≤ g := by
 rcases h with h | ⟨g, rest, h1, h2, h3⟩
 ·exact .inl h
 ·exact .inr ⟨g, rest, h1, h2.ext hk, by omega⟩
set_option maxRecDepth 100000 in
set_option maxHeartbeats 4000000 in
theorem pF {C : WCtx} (hC : C.Ok) {l n : Nat} (hY : C.Yields l n) {v : Nat} (hvn : v ≤ C.M.N.length) (hF : v < C.M.N.length -> C.From (v + 1)) : C.From v := by
 intro p E ov R st pre L W hl hat hrow hpath hseen hL hpre hheld hfit
 have HPs := qH (WCtx.passK hC hat hvn)
 have hb := hat.wlk.box
 obtain ⟨wb, ewb⟩ : ∃ x, C.wb = x := ⟨_, rfl⟩
 obtain ⟨nv, env⟩ : ∃ x, C.M.N.length = x := ⟨_, rfl⟩
 obtain ⟨r, er⟩ : ∃ r, ((C.M.tests v).any fun t => !t.ask R) = r := ⟨_, rfl⟩
 rw [er, ewb] at HPs
 rw [ewb]
 have HR := qH er
 have HA := qH (And.intro hat (And.intro hheld hfit))
 have HL := qH (And.intro hL hpre)
 clear hb hat hheld hfit hL hpre er
 go_enter Tryz.func123, Tryz.ntmps123
 go_wp2_with fail
 refine HPs.out.mono ?_
 rintro e w1 ⟨u, rfl, hk1, rfl⟩
 have H1 := qH (And.intro (HA.out.1.ext hk1) (And.intro (HA.out.2.1.step (G := fun _ => False) hk1 (fun _ h => h.elim) (fun k h => .inl h) (fun k h => .inl h) : Held C.J E (C.Own ov) pre w1) (And.intro (HA.out.2.2.ext hk1) (Ext.kp (F := C.QE E) hk1))))
 clear hk1
 cases r
 ·rw [Bool.not_false]
  have hall : ∀ t ∈ C.M.tests v, t.ask R = true := fun t ht => by
   have := List.any_eq_false.1 HR.out t ht
   simpa using this
  have HAll := qH hall
  clear hall
  have hb := H1.out.1.wlk.box
  obtain ⟨h1, h2, h3, h4, h5, h6, h7, h8, h9, h10⟩ := hC.mat w1 H1.out.1.w0k
  have b0 : w1.cell? ⟨wb, 0, none⟩ = some (.pointer (some ⟨C.mb, 0, none⟩)) := by rw [<- ewb, hb.cell']; rfl
  have b2 : w1.cell? ⟨wb, 2, none⟩ = some (.slice (some ⟨C.rb, 0, none⟩) nv nv) := by rw [<- ewb, hb.cell', env]; rfl
  have b3 : w1.cell? ⟨wb, 3, none⟩ = some (.func (.yield l) #[] #[]) := by rw [<- ewb, hb.cell', hY.yv]; rfl
  have HM := qH (And.intro h5 (And.intro h6 h10))
  rw [env] at h1 h3 hvn hF
  clear h2 h4 h5 h6 h7 h8 h9 h10 hb
  by_cases hvv : v = nv
  ·subst hvv
   have hRv : R = p := by rw [<- hrow, List.take_of_length_le (by have := HA.out.1.wlk.rowL; omega)]
   have hfull : AllB (lT C.M) p [p] := by
    have hs := hseen
    have hp := hpath
    rw [<- env] at hs hp
    exact aIr hC.ok hs hp (by omega) fun t ht => by rw [<- hRv]; rw [env] at ht; exact HAll.out t ht
   have eL : L = [p] := AllB.unique HL.out.1 hfull
   obtain ⟨R0, e0⟩ := HL.out.2
   rw [eL] at e0
   have HTell := qH (aHu hC hY H1.out.1 H1.out.2.2.1 H1.out.2.1 H1.out.2.2.2 hrow hRv (R0 := R0) e0)
   rw [<- eL] at HTell
   rw [env] at HTell
   clear hfull e0 hpath hseen HL hF
   have hrb := H1.out.1.wlk.rowB
   have hcells : CellsAt w1 (some ⟨C.rb, 0, none⟩) (strs R) := by
    have h11 : strs R ++ [] = strs R := List.append_nil _
    rw [<- h11] at hrb
    exact CellsAt.pre hrb
   have hRl := H1.out.1.wlk.rowL
   rw [env] at hRl
   have hfew := HM.out.2.2.1
   rw [env] at hfew
   have HCl := qH (hU (strs R) (some ⟨C.rb, 0, none⟩) v w1.drew v (by rw [eA, hRl]) (hcells.ext (Kp.refl w1).drew) (pH R) (by omega))
   have HRl := qH hRl
   clear hcells hrb hRl
   go_wp2
   refine (wpIn_wide (n := n + 1)).1 ?_
   gi_region_with (first
    | (refine And.intro trivial ?_; gi_at_call 101; refine (callsIn_wide.2 HCl.out).mono ?_; rintro e w2 ⟨v2, rfl, hk2, hr2⟩; obtain ⟨ao2, cap2, e2, hn2, hB2⟩ := aB7 hr2; subst e2; have HC2 := qH (And.intro hk2 hB2); have b3 := (show w2.cell? ⟨wb, 3, none⟩ = _ from hk2.cell b3 id); have HCp := qH (rE ao2 v cap2 w2 hn2); clear hk2 hr2 hB2)
    | (refine And.intro trivial ?_; gi_at_call 76; refine (callsIn_wide.2 HCp.out).mono ?_; rintro e w3 ⟨v3, rfl, hk3, rfl⟩; have b3 := (show w3.cell? ⟨wb, 3, none⟩ = _ from hk3.cell b3 id); obtain ⟨fn, tmps, assign, body, hy, hRd⟩ := HTell.out ao2 w3 ((Kp.refl w1).drew.trans (HC2.out.1.trans hk3)) (aEb HC2.out.2 hk3 (Nat.le_refl _)); clear hk3)
    | (refine hRd.mono ?_; rintro e w4 ⟨bb, rfl, hpost⟩; have HPost := qH hpost; clear hpost hy))
   all_goals
    go_wp2
    go_ret
    exact HPost.out
  ·have hvlt : v < nv := by omega
   obtain ⟨ab, ao, eaa, c6, hia⟩ := HM.out.2.1 v (by rw [env]; exact hvlt)
   rw [eaa] at h3
   obtain ⟨js, ejs⟩ : ∃ x, atL C.M.Ts v = x := ⟨_, rfl⟩
   rw [ejs] at c6 hia
   obtain ⟨n2, en2⟩ : ∃ x, js.length = x := ⟨_, rfl⟩
   rw [en2] at c6
   have hJ := qH (And.intro ejs (And.intro en2 hia))
   have hsm : n2 ≤ 1048576 := by
    have h20 : (atL C.M.Ts v).length ≤ C.M.Ts.length := Nat.le_trans (List.length_filter_le _ _) (by rw [List.length_range]; exact Nat.le_refl _)
    have h21 := HM.out.2.2.2.1
    rw [ejs, en2] at h20
    omega
   clear ejs en2 hia
   have hne : ((v : Int) == (nv : Int)) = false := by
    have : ¬ (v : Int) = nv := by omega
    simp [this]
   go_wp2
   go_loopw [5, 47] (fun lv iv wr => OpenR C E v p R st js pre w1 lv iv wr) (fun _ iv _ => n2 - (intOf iv).toNat)
   case atStart =>
    refine ⟨0, ov, st, fun _ => (0, 0), Nat.zero_le _, rfl, qH ⟨Row.nil _ _ _ _, H1.out.1, H1.out.2.1.step (G := fun _ => False) (Kp.refl _) (fun _ h => h.elim) (fun k h => .inl h) (fun k h => .inl ?_), ⟨fun k hk => ?_, fun k hk he => ?_, fun k hk => ?_⟩, Kp.refl _, fun k j hk => by omega, fun j _ => rfl⟩⟩
    ·exact h.resolve_right (by simp [Value.ownBlock])
    ·exact H1.out.2.2.1.lt k (hk.resolve_right (by simp [Value.ownBlock]))
    ·exact H1.out.2.2.1.off k hk (he.resolve_right (by simp [Value.ownBlock]))
    ·exact H1.out.2.2.1.lo k (hk.resolve_right (by simp [Value.ownBlock]))
   case round =>
    obtain ⟨m, ov2, st2, sp, hmn, rfl, HO⟩ := hrel
    rw [hJ.out.2.1] at hmn
    obtain ⟨la, lcap, elv, hlc, hlcap⟩ := HO.out.row.shape
    subst elv
    by_cases hlt : m < n2
    ·obtain ⟨j, hj⟩ : ∃ j, js[m]? = some j := ⟨_, qG (by rw [hJ.out.2.1]; exact hlt)⟩
     have hm0 : j ∈ atL C.M.Ts v := by rw [hJ.out.1]; exact List.mem_of_getElem? hj
     obtain ⟨t, ht, hvt⟩ := sV.1 hm0
     have hjT := (List.getElem?_eq_some_iff.1 ht).1
     have hnd : js.Nodup := by rw [<- hJ.out.1]; exact xX _ _
     have HOp := qH (HO.out.open hC hnd hl hpath hj ht hvt)
     have hmat := hC.mat wr HO.out.at_.w0k
     obtain ⟨_, _, _, _, hia2⟩ := hmat.ats v (by rw [env]; exact hvlt)
     rw [hJ.out.1] at hia2
     obtain ⟨ib, io, eia, i0⟩ := hia2 m (.int .i64 j) (by unfold ints; rw [List.map_map, List.getElem?_map, hj]; rfl)
     rw [eia]
     obtain ⟨ca, cc, ecv, -⟩ := HO.out.at_.wlk.ptr
     obtain ⟨cb, co, eca, p0⟩ := HO.out.at_.ptrAt ecv hjT
     have hb2 := HO.out.at_.wlk.box
     have b1 : wr.cell? ⟨wb, 1, none⟩ = some (.slice (some ⟨cb, co, none⟩) C.M.Ts.length cc) := by rw [<- ewb, hb2.cell', ecv, eca]; rfl
     obtain ⟨nT, enT⟩ : ∃ x, C.M.Ts.length = x := ⟨_, rfl⟩
     have HX := qH (And.intro hj (And.intro hjT (And.intro ecv eca)))
     rw [enT] at b1 hjT
     clear hj hm0 ht hvt hnd hmat hia2 hb2 hlc eia ecv eca
     go_wp2_with fail
     refine HOp.out.mono ?_
     rintro e w3 ⟨b, ov3, st3, sp3, rfl, q1, q2, q3, q4, q5, q6, q7, q8⟩
     obtain ⟨cb', co', eca, p3⟩ := q3.ptrAt HX.out.2.2.1 HX.out.2.1
     rw [HX.out.2.2.2] at eca
     cases eca
     have hb2 := q3.wlk.box
     have b3 : w3.cell? ⟨wb, 1, none⟩ = some (.slice (some ⟨cb, co, none⟩) nT cc) := by rw [<- ewb, hb2.cell', HX.out.2.2.1, HX.out.2.2.2, enT]; rfl
     have HQ := qH (And.intro q2 (And.intro q3 (And.intro q4 (And.intro q5 (And.intro q6 (And.intro q7 q8))))))
     clear q1 q2 q3 q4 q5 q6 q7 q8 hb2 i0 p0 b1
     go_wp2_with (first | (at_builtin; refine Halted.out ?_))
     refine Halted.mk (sO xQ rfl _ _ rfl rfl (HQ.out.1.alloc _) rfl (CellsAt.one w3 _ _) rfl (by simp; rfl) (by omega) (by unfold maxLen; omega) ?_)
     intro lv4 w4 hr4 hk4
     obtain ⟨la4, lcap4, elv4, _, _⟩ := hr4.shape
     subst elv4
     obtain ⟨a1, a2, a3, a4, a5, a6, a7⟩ := HQ.out
     have HP := qH (WCtx.Opened.push hC HX.out.1 a1 a2 a3 a4 a5 a6 a7 (hr4.mono fun g hg => by rcases hg with hg | hg; exact .inl hg; exact .inr (by rw [aJ] at hg; omega)) (((Kp.refl w3).alloc _).trans hk4) (fun k hk => Nat.lt_of_lt_of_le (H1.out.2.2.1.lt k hk) (Nat.le_refl _)))
     clear hr4 hk4 a1 a2 a3 a4 a5 a6 a7 p3 b3
     go_wp2
     go_roundw
     case rel => exact ⟨m + 1, ov3, st3, sp3, by rw [hJ.out.2.1]; omega, by first | rfl | (congr 1; done) | (congr 1; omega), HP⟩
     case measure => simp [intOf]; omega
    ·obtain rfl : m = n2 := by omega
     generalize hw4 : wr = w4 at *
     clear hw4
     have HO2 := HO.out
     rw [<- hJ.out.2.1] at HO2
     obtain ⟨hpos, Cs, pos0, hLay, hTurn, hBef⟩ := HO2.start hC hl (by rw [env]; exact hvlt) hpath hrow hJ.out.1
     rw [hJ.out.2.1] at hpos
     have hrow2 := HO.out.row
     obtain ⟨gl, cl, el, hMl⟩ := nS hrow2 hpos
     simp only [Value.slice.injEq] at el
     obtain ⟨rfl, -, rfl⟩ := el
     have hseen2 : ∀ key, Seen C.M (v + 1) (p ++ [key]) := fun key => hseen.next hC.ok (by rw [env]; omega) HA.out.1.wlk.rowL hrow HAll.out (by rw [<- hl]; exact List.take_left)
     have hcl : ∀ W', Kp (C.QE (EL E (.slice (some ⟨gl, 0, none⟩) js.length lcap))) w4 W' -> ∀ k j : Nat, js[k]? = some j -> W'.cell? ⟨gl, 0 + k, none⟩ = some (.pointer (some ⟨C.cb j, 0, none⟩)) := fun W' hW k j hk => by
      have hc := hlc.kp hW fun a ha hf => by
       cases ha
       exact hf.2 (.inr rfl)
      have hkm : k < m := by rw [<- hJ.out.2.1]; exact (List.getElem?_eq_some_iff.1 hk).1
      obtain ⟨b, o, e, c⟩ := hc k (.pointer (some ⟨C.cb j, 0, none⟩)) (by unfold rL; rw [List.getElem?_map, List.getElem?_take_of_lt hkm, hk]; rfl)
      cases e
      exact c
     have HLp := qH (aIn (lc := lcap) hC (by rw [env]; exact hvlt) (hF hvlt) hLay (by rw [hJ.out.2.1]; exact hpos) (by rw [hJ.out.2.1]; exact hsm) hTurn hBef hseen2 HL.out.1 HL.out.2 hcl)
     rw [ewb, hJ.out.2.1] at HLp
     have HCl := qH hcl
     have HLay := qH hLay
     have HFit := qH HO2.fit.lt
     have HKw := qH HO.out.kp
     clear HO2 hLay hTurn hBef hrow2 hseen2 hcl hlc hlt hmn
     go_wp2_with fail
     refine HLp.out.mono ?_
     rintro e w5 ⟨b, ov5, R5, st5, pos5, rfl, hk5, hat5, hrow5, hoff5, hst5, hends5⟩
     obtain ⟨EE, eEE⟩ : ∃ x, EL E (.slice (some ⟨gl, 0, none⟩) m lcap) = x := ⟨_, rfl⟩
     rw [eEE] at hk5 hoff5 hends5
     have HSh := qH (show C.Shut EE v p st js pre L b w5 0 ov5 R5 st5 w5 from ⟨hat5, hoff5, Kp.refl _, hends5, fun k j _ hk => by
      obtain ⟨t, a, c, h1, h2, h3, h4⟩ := HLay.out.cur k j hk
      exact ⟨_, hst5.1 k j _ hk h4⟩, fun j hm => hst5.2 j (by rw [List.drop_zero] at hm; exact hm)⟩)
     have H5 := qH (And.intro hk5 hrow5)
     have HEE := qH eEE
     clear hk5 hat5 hrow5 hoff5 hst5 hends5 eEE
     go_wp2
     go_loopw [76] (fun iv wr => ShutR C EE v p st js pre L b w5 R5 iv wr) (fun iv _ => m - (intOf iv).toNat)
     case atStart => exact ⟨0, ov5, st5, Nat.zero_le _, rfl, HSh⟩
     case round =>
      obtain ⟨m2, ov6, st6, hmn2, rfl, HS6⟩ := hrel
      rw [hJ.out.2.1] at hmn2
      by_cases hlt2 : m2 < m
      ·obtain ⟨j, hj⟩ : ∃ j, js[m2]? = some j := ⟨_, qG (by rw [hJ.out.2.1]; exact hlt2)⟩
       obtain ⟨t, -, -, ht, -⟩ := HLay.out.cur m2 j hj
       have hkw : Kp (C.QE EE) w4 wr := H5.out.1.trans HS6.out.kp
       have c0 := HCl.out wr (by rw [hJ.out.2.1, HEE.out]; exact hkw) m2 j hj
       rw [Nat.zero_add] at c0
       have HUp := qH (HS6.out.up hC HLay.out.nd (fun k hk => by
        have h8 := HFit.out k (by rw [hJ.out.2.1, HEE.out]; exact hk)
        have h9 := hkw.size
        omega) hj ht)
       clear hj ht hkw
       go_wp2_with fail
       refine HUp.out.mono ?_
       rintro e w7 ⟨c, ov7, st7, rfl, hz7, hs7⟩
       have HS7 := qH hs7
       clear hz7 hs7 c0
       go_wp2
       go_roundw
       case rel => exact ⟨m2 + 1, ov7, st7, by rw [hJ.out.2.1]; omega, by first | rfl | (congr 1; done) | (congr 1; omega), HS7⟩
       case measure => simp [intOf]; omega
      ·obtain rfl : m2 = m := by omega
       have est : st6 = st := by
        funext j
        refine HS6.out.rest j ?_
        rw [List.drop_of_length_le (by rw [hJ.out.2.1]; exact Nat.le_refl _)]
        simp
       have sub : ∀ k, E k -> EE k := fun k hk => by rw [<- HEE.out]; exact .inl hk
       have hQ : ∀ k, C.QE EE k -> C.QE E k := fun k hk => ⟨hk.1, fun he => hk.2 (sub k he)⟩
       have hFin := qH (show C.Post E v p st pre L W (.returned (.bool b)) wr from ⟨b, ov6, R5, rfl, ((H1.out.2.2.2.trans HKw.out).trans' H5.out.1 fun k _ h => hQ k h).trans' HS6.out.kp fun k _ h => hQ k h, by rw [<- est]; exact HS6.out.at_, H5.out.2, fun k hk he => HS6.out.off k hk (sub k he), HS6.out.ends.step (G := fun _ => False) (Kp.refl _) (fun _ h => h.elim) (fun k h => .inl h) (fun k h => .inl (sub k h))⟩)
       clear est hQ sub hlt2 hmn2
       go_wp2
       go_ret
       exact hFin.out
 ·rw [Bool.not_true]
  obtain ⟨t, ht, h2⟩ := List.any_eq_true.1 HR.out
  have h3 : t.ask R = false := by simpa using h2
  have he := AllB.unique HL.out.1 (aKq hC.ok hvn HA.out.1.wlk.rowL hrow ht h3 hl)
  clear ht h2 h3
  go_wp2
  go_ret
  exact ⟨true, ov, R, rfl, H1.out.2.2.2, H1.out.1, hrow, H1.out.2.2.1.off, .inl ⟨rfl, [], by rw [he]; rfl, by rw [List.append_nil]; exact H1.out.2.1⟩⟩
end Go.Proofs.YtinnmeiphbdogaaGreat
