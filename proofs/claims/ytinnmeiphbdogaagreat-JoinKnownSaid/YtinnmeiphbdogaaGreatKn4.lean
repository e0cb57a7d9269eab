/- Texts joined for a claim (BaseAt, RowWith, BaseV, LaidPlain, TrieAt, CurAt, CurDo, CurSeek, CurOpen, CurOpen0, CurStep, MatchAt, WalkAt, JoinRef, JoinRef2, JoinList). -/
import Derived.Test.YtinnmeiphbdogaaGreatKn3
import Derived.Deep.RegionWith
import Derived.StillTailTactics
/- tuple.Base in memory: a map of names to Rows, each in blocks of its own. -/
namespace Go.Proofs.YtinnmeiphbdogaaGreat
open Go.RowKit
set_option linter.unusedVariables false
structure Ent where
 name : ByteArray
 b : Nat
 iv : Value
 ar : Nat
 LL : List (List ByteArray)
def Ent.ptr (e : Ent) : Value := .pointer (some ⟨e.b, 0, none⟩)
def Ent.cnt (e : Ent) : CntZ := (e.name, e.ar, e.LL)
def Ent.own (e : Ent) : Nat -> Prop := Owns e.b e.iv
def entM (E : List Ent) : List (ByteArray × Value) := E.map fun e => (e.name, e.ptr)
def cntE (E : List Ent) : List CntZ := E.map Ent.cnt
def findE (E : List Ent) (s : ByteArray) : Option Ent := E.find? fun e => decide (e.name = s)
theorem entM_get (E : List Ent) (s : ByteArray) : getM (entM E) s = (findE E s).map Ent.ptr := by
 unfold getM entM findE
 rw [List.find?_map, Option.map_map]; rfl
theorem cntE_get (E : List Ent) (s : ByteArray) : getC (cntE E) s = (findE E s).map fun e => (e.ar, e.LL) := by
 unfold getC cntE findE
 rw [List.find?_map, Option.map_map]; rfl
theorem entM_names (E : List Ent) : (entM E).map (·.1) = (cntE E).map (·.1) := by
 unfold entM cntE
 rw [List.map_map, List.map_map]; rfl
theorem findE_some {E : List Ent} {s : ByteArray} {e : Ent} (h : findE E s = some e) : e ∈ E /\ e.name = s := ⟨List.mem_of_find?_eq_some h, by have := List.find?_some h; simpa using this⟩
theorem findE_rows {E : List Ent} {s : ByteArray} {e : Ent} (h : findE E s = some e) : getC (cntE E) s = some (e.ar, e.LL) /\ rowsC (cntE E) s = e.LL := by
 have h1 : getC (cntE E) s = some (e.ar, e.LL) := by rw [cntE_get, h]; rfl
 exact ⟨h1, rows_some h1⟩
theorem findE_none {E : List Ent} {s : ByteArray} (h : findE E s = none) : getC (cntE E) s = none /\ rowsC (cntE E) s = [] := by
 have h1 : getC (cntE E) s = none := by rw [cntE_get, h]; rfl
 exact ⟨h1, rows_none h1⟩
theorem mem_cntE {E : List Ent} {e : Ent} (h : e ∈ E) : e.cnt ∈ cntE E := List.mem_map.2 ⟨e, h, rfl⟩
def OwnE (E : List Ent) (k : Nat) : Prop := ∃ e ∈ E, e.own k
def OwnB (bb r : Nat) (E : List Ent) (k : Nat) : Prop := k = bb \/ k = r \/ OwnE E k
structure BaseAt (S : Nat -> Prop) (w : World) (bb r : Nat) (E : List Ent) : Prop where
 blk : Blk w bb [.map (some r), .int .i64 (totalC (cntE E) : Nat)] 129
 map : MapIs w r (entM E)
 rows : ∀ e ∈ E, RowsAt S w e.b e.iv e.ar e.LL
 apart : E.Pairwise fun e f => ∀ k, e.own k -> ¬ f.own k
 inS : ∀ k, S k -> k < w.heap.size
 notS : ¬ S bb /\ ¬ S r
 ne : bb ≠ r
 off : ∀ e ∈ E, ∀ k, e.own k -> k ≠ bb /\ k ≠ r
 ok : BaseOk (cntE E)
section
variable {S S' : Nat -> Prop} {w w' : World} {bb r : Nat} {E : List Ent}
theorem BaseAt.kp {F : Nat -> Prop} (h : BaseAt S w bb r E) (hk : Kp F w w') (hF : ∀ k, F k -> ¬ OwnB bb r E k) (hS : ∀ k, F k -> ¬ S k) : BaseAt S w' bb r E :=
 {blk := h.blk.kp hk fun hf => hF _ hf (.inl rfl)
  map := h.map.kp hk fun hf => hF _ hf (.inr (.inl rfl))
  rows := fun e he => (h.rows e he).move hk (fun k hf ho => hF k hf (.inr (.inr ⟨e, he, ho⟩))) hS (fun _ x => x) (fun k hk' => Nat.lt_of_lt_of_le (h.inS k hk') hk.size) (h.rows e he).notS
  apart := h.apart
  inS := fun k hk' => Nat.lt_of_lt_of_le (h.inS k hk') hk.size
  notS := h.notS, ne := h.ne, off := h.off, ok := h.ok }
theorem BaseAt.ext (h : BaseAt S w bb r E) (hk : Ext w w') : BaseAt S w' bb r E := h.kp hk (fun _ x => x.elim) (fun _ x => x.elim)
theorem BaseAt.ownLt (h : BaseAt S w bb r E) : ∀ k, OwnB bb r E k -> k < w.heap.size := by
 rintro k (rfl | rfl | ⟨e, he, ho⟩)
 ·exact h.blk.lt
 ·exact h.map.lt
 ·exact (RowsQ.ownLt (z := True) (h.rows e he).q) k ho
theorem BaseAt.notOwn (h : BaseAt S w bb r E) : ∀ k, OwnB bb r E k -> ¬ S k := by
 rintro k (rfl | rfl | ⟨e, he, ho⟩)
 ·exact h.notS.1
 ·exact h.notS.2
 ·exact (h.rows e he).notS k ho
theorem BaseAt.strict (h : BaseAt S w bb r E) {e : Ent} (he : e ∈ E) : Strict cmpRow e.LL := (h.ok.all _ (mem_cntE he)).strict
theorem BaseAt.few (h : BaseAt S w bb r E) {e : Ent} (he : e ∈ E) : e.LL.length ≤ 65536 := (h.ok.all _ (mem_cntE he)).few
theorem BaseAt.new (S : Nat -> Prop) (hS : ∀ k, S k -> k < w.heap.size) {wb : World} (hx : Ext w wb) {bb r : Nat} (hb : w.heap.size ≤ bb) (hr : w.heap.size ≤ r) (hne : bb ≠ r) (hB : Blk wb bb [.map (some r), .int .i64 0] 129) (hm : MapIs wb r []) : BaseAt S wb bb r [] :=
 {blk := hB, map := hm, rows := fun e he => by simp at he
  apart := List.Pairwise.nil
  inS := fun k hk => Nat.lt_of_lt_of_le (hS k hk) hx.size
  notS := ⟨fun h => by have := hS _ h; omega, fun h => by have := hS _ h; omega⟩
  ne := hne, off := fun e he => by simp at he, ok := ok_nil }
theorem BaseAt.turn {pre post : List Ent} {e : Ent} (h : BaseAt S w bb r (pre ++ e :: post)) {iv' : Value} {LL' : List (List ByteArray)} (hk : Kp e.own w w') (hs : ∀ k, S k -> S' k) (hnew : ∀ k, S' k -> S k \/ w.heap.size ≤ k)
 (hr : RowsAt S' w' e.b iv' e.ar LL') (hiv : ∀ k, iv'.ownBlock = some k -> e.iv.ownBlock = some k \/ w.heap.size ≤ k) {n : Nat} {W : World} (hW : Kp (fun k => k = bb \/ k = r) w' W) (hm : MapIs W r (entM (pre ++ e :: post))) (hB : Blk W bb [.map (some r), .int .i64 (n : Nat)] 129) (hn : n = totalC (cntE (pre ++ { e with iv := iv', LL := LL' } :: post))) (hok : BaseOk (cntE (pre ++ { e with iv := iv', LL := LL' } :: post))) :
 BaseAt S' W bb r (pre ++ { e with iv := iv', LL := LL' } :: post) := by
 have hin' := hr.inS
 have hown : ∀ f ∈ pre ++ e :: post, ∀ k, f.own k -> k < w.heap.size /\ ¬ S' k := fun f hf k ho => by
  have h1 := h.ownLt k (.inr (.inr ⟨f, hf, ho⟩))
  refine ⟨h1, fun hs' => ?_⟩
  rcases hnew k hs' with h2 | h2
  ·exact (h.rows f hf).notS k ho h2
  ·omega
 have hbb := h.ownLt bb (.inl rfl)
 have hrr := h.ownLt r (.inr (.inl rfl))
 have hem : e ∈ pre ++ e :: post := List.mem_append_right _ List.mem_cons_self
 have hebb : ¬ S' bb := fun hs' => by rcases hnew _ hs' with h2 | h2; exact h.notS.1 h2; omega
 have herr : ¬ S' r := fun hs' => by rcases hnew _ hs' with h2 | h2; exact h.notS.2 h2; omega
 have hiv2 : ∀ k, Owns e.b iv' k -> e.own k \/ w.heap.size ≤ k := fun k ho => by
  rcases ho with ho | ho
  ·exact .inl (.inl ho)
  ·rcases hiv k ho with h2 | h2
   ·exact .inl (.inr h2)
   ·exact .inr h2
 have hoff' : ∀ k, Owns e.b iv' k -> k ≠ bb /\ k ≠ r := fun k ho => by
  rcases hiv2 k ho with h2 | h2
  ·exact h.off e hem k h2
  ·omega
 obtain ⟨ap1, ap2, ap3⟩ := List.pairwise_append.1 h.apart
 obtain ⟨ap4, ap5⟩ := List.pairwise_cons.1 ap2
 have hother : ∀ f, (f ∈ pre \/ f ∈ post) -> (∀ k, e.own k -> ¬ f.own k) /\ f ∈ pre ++ e :: post := fun f hf => by
  rcases hf with hf | hf
  ·exact ⟨fun k h1 h2 => ap3 f hf e List.mem_cons_self k h2 h1, List.mem_append_left _ hf⟩
  ·exact ⟨fun k h1 h2 => ap4 f hf k h1 h2, List.mem_append_right _ (List.mem_cons_of_mem _ hf)⟩
 have hF : ∀ k, k = bb \/ k = r -> ¬ S' k := fun k e => by
  rcases e with rfl | rfl
  ·exact hebb
  ·exact herr
 have hrows : ∀ f, (f ∈ pre \/ f ∈ post) -> RowsAt S' W f.b f.iv f.ar f.LL := fun f hf => by
  obtain ⟨h1, h2⟩ := hother f hf
  have h3 := (h.rows f h2).move (S' := S') hk h1 (fun k hf => (h.rows e hem).notS k hf) hs (fun k hk' => hin' k hk') (fun k ho => (hown f h2 k ho).2)
  exact h3.move hW (fun k e2 ho => by
   have h4 := h.off f h2 k ho
   rcases e2 with e2 | e2
   ·exact h4.1 e2
   ·exact h4.2 e2) hF (fun _ x => x) (fun k hk' => Nat.lt_of_lt_of_le (hin' k hk') hW.size) h3.notS
 refine { blk := by rw [hn] at hB; exact hB, map := ?_, rows := fun f hf => ?_, apart := ?_, inS := fun k hk' => Nat.lt_of_lt_of_le (hin' k hk') hW.size, notS := ⟨hebb, herr⟩, ne := h.ne, off := fun f hf => ?_, ok := hok }
 ·have h2 : entM (pre ++ { e with iv := iv', LL := LL' } :: post) = entM (pre ++ e :: post) := by simp [entM, Ent.ptr]
  rw [h2]; exact hm
 ·rcases List.mem_append.1 hf with hf | hf
  ·exact hrows f (.inl hf)
  ·rcases List.mem_cons.1 hf with rfl | hf
   ·exact hr.move hW (fun k e2 ho => by
     have h4 := hoff' k ho
     rcases e2 with e2 | e2
     ·exact h4.1 e2
     ·exact h4.2 e2) hF (fun _ x => x) (fun k hk' => Nat.lt_of_lt_of_le (hin' k hk') hW.size) hr.notS
   ·exact hrows f (.inr hf)
 ·refine List.pairwise_append.2 ⟨ap1, List.pairwise_cons.2 ⟨fun f hf k ho hf2 => ?_, ap5⟩, fun f hf g hg k ho hg2 => ?_⟩
  ·rcases hiv2 k ho with h2 | h2
   ·exact ap4 f hf k h2 hf2
   ·have := (hown f (hother f (.inr hf)).2 k hf2).1; omega
  ·rcases List.mem_cons.1 hg with rfl | hg
   ·rcases hiv2 k hg2 with h2 | h2
    ·exact ap3 f hf e List.mem_cons_self k ho h2
    ·have := (hown f (hother f (.inl hf)).2 k ho).1; omega
   ·exact ap3 f hf g (List.mem_cons_of_mem _ hg) k ho hg2
 ·rcases List.mem_append.1 hf with hf | hf
  ·exact h.off f (hother f (.inl hf)).2
  ·rcases List.mem_cons.1 hf with rfl | hf
   ·exact hoff'
   ·exact h.off f (hother f (.inr hf)).2
theorem BaseAt.push (h : BaseAt S w bb r E) {e : Ent} (hx : Ext w w') (hs : ∀ k, S k -> S' k) (hnew : ∀ k, S' k -> S k \/ w.heap.size ≤ k) (hr : RowsAt S' w' e.b e.iv e.ar e.LL) (ho : ∀ k, e.own k -> w.heap.size ≤ k)
 {n : Nat} {W : World} (hW : Kp (fun k => k = bb \/ k = r) w' W) (hB : Blk W bb [.map (some r), .int .i64 (n : Nat)] 129) (hm : MapIs W r (entM (E ++ [e]))) (hn : n = totalC (cntE (E ++ [e]))) (hok : BaseOk (cntE (E ++ [e]))) : BaseAt S' W bb r (E ++ [e]) := by
 have hbb := h.ownLt bb (.inl rfl)
 have hrr := h.ownLt r (.inr (.inl rfl))
 have hin' := hr.inS
 have hno : ∀ k, OwnB bb r E k -> ¬ S' k := fun k ho hs' => by
  rcases hnew k hs' with h2 | h2
  ·exact h.notOwn k ho h2
  ·have := h.ownLt k ho; omega
 have hF : ∀ k, k = bb \/ k = r -> ¬ S' k := fun k hk => hno k (hk.elim .inl fun h => .inr (.inl h))
 refine { blk := by rw [hn] at hB; exact hB, map := hm, rows := fun f hf => ?_, apart := ?_, inS := fun k hk' => Nat.lt_of_lt_of_le (hin' k hk') hW.size, notS := ⟨hF _ (.inl rfl), hF _ (.inr rfl)⟩, ne := h.ne, off := fun f hf => ?_, ok := hok }
 ·rcases List.mem_append.1 hf with hf | hf
  ·have h3 := (h.rows f hf).move (S' := S') hx (fun _ x => x.elim) (fun _ x => x.elim) hs (fun k hk' => hin' k hk') (fun k ho => hno k (.inr (.inr ⟨f, hf, ho⟩)))
   exact h3.move hW (fun k e2 ho => by
    have h4 := h.off f hf k ho
    rcases e2 with e2 | e2
    ·exact h4.1 e2
    ·exact h4.2 e2) hF (fun _ x => x) (fun k hk' => Nat.lt_of_lt_of_le (hin' k hk') hW.size) h3.notS
  ·obtain rfl := List.mem_singleton.1 hf
   exact hr.move hW (fun k e2 ho2 => by have := ho k ho2; omega) hF (fun _ x => x) (fun k hk' => Nat.lt_of_lt_of_le (hin' k hk') hW.size) hr.notS
 ·refine List.pairwise_append.2 ⟨h.apart, List.pairwise_singleton _ _, fun f hf g hg k h1 h2 => ?_⟩
  obtain rfl := List.mem_singleton.1 hg
  have h3 := h.ownLt k (.inr (.inr ⟨f, hf, h1⟩))
  have h4 := ho k h2
  omega
 ·rcases List.mem_append.1 hf with hf | hf
  ·exact h.off f hf
  ·obtain rfl := List.mem_singleton.1 hf
   intro k hk
   have := ho k hk
   omega
theorem findE_split {E : List Ent} {s : ByteArray} {e : Ent} (h : findE E s = some e) : ∃ pre post, E = pre ++ e :: post := by
 obtain ⟨_, pre, post, h2, _⟩ := List.find?_eq_some_iff_append.1 h
 exact ⟨pre, post, h2⟩
theorem cntE_set {pre post : List Ent} {e : Ent} {s : ByteArray} (h : findE (pre ++ e :: post) s = some e) (hn : ((cntE (pre ++ e :: post)).map (·.1)).Nodup) (iv' : Value) (LL' : List (List ByteArray)) : setC (cntE (pre ++ e :: post)) s (e.ar, LL') = cntE (pre ++ { e with iv := iv', LL := LL' } :: post) := by
 have hs : e.name = s := (findE_some h).2
 have h1 : (getC (cntE (pre ++ e :: post)) s).isSome = true := by rw [cntE_get, h]; rfl
 unfold setC
 rw [if_pos h1]
 have hid : ∀ q : Ent, q.name ≠ s -> (if q.cnt.1 = s then (q.cnt.1, (e.ar, LL')) else q.cnt) = q.cnt := fun q hq => if_neg hq
 unfold cntE at hn ⊢
 rw [List.map_append, List.map_cons, List.map_append, List.map_cons] at hn
 obtain ⟨_, hn2, hn3⟩ := List.nodup_append.1 hn
 obtain ⟨hn4, _⟩ := List.nodup_cons.1 hn2
 rw [List.map_append, List.map_append, List.map_cons, List.map_cons, List.map_append, List.map_cons]
 congr 1
 ·rw [List.map_map]
  apply List.map_congr_left
  intro q hq
  refine hid q fun e2 => ?_
  exact hn3 q.name (List.mem_map.2 ⟨q.cnt, List.mem_map.2 ⟨q, hq, rfl⟩, rfl⟩) e.name List.mem_cons_self (by rw [e2, hs])
 ·congr 1
  ·show (if e.name = s then (e.name, (e.ar, LL')) else e.cnt) = _
   rw [if_pos hs]; rfl
  ·rw [List.map_map]
   apply List.map_congr_left
   intro q hq
   refine hid q fun e2 => ?_
   exact hn4 (List.mem_map.2 ⟨q.cnt, List.mem_map.2 ⟨q, hq, rfl⟩, by show q.name = e.name; rw [e2, hs]⟩)
theorem cntE_push {E : List Ent} {s : ByteArray} (h : findE E s = none) (b : Nat) (iv : Value) (ar : Nat) (LL : List (List ByteArray)) : setC (cntE E) s (ar, LL) = cntE (E ++ [{ name := s, b := b, iv := iv, ar := ar, LL := LL }]) := by
 unfold setC
 rw [(findE_none h).1, if_neg (by simp)]
 unfold cntE
 rw [List.map_append]; rfl
theorem entM_put {E : List Ent} {s : ByteArray} {e : Ent} (h : findE E s = some e) (hn : ((entM E).map (·.1)).Nodup) : putM (entM E) s e.ptr = entM E := by
 obtain ⟨pre, post, rfl⟩ := findE_split h
 have hs : e.name = s := (findE_some h).2
 unfold putM
 rw [entM_get, h, if_pos (by rfl)]
 unfold entM at hn ⊢
 rw [List.map_append, List.map_cons, List.map_append, List.map_cons] at hn
 obtain ⟨_, hn2, hn3⟩ := List.nodup_append.1 hn
 obtain ⟨hn4, _⟩ := List.nodup_cons.1 hn2
 rw [List.map_append, List.map_append, List.map_cons, List.map_cons]
 have hid : ∀ q : Ent, q.name ≠ s -> (if (q.name, q.ptr).1 = s then ((q.name, q.ptr).1, e.ptr) else (q.name, q.ptr)) = (q.name, q.ptr) := fun q hq => if_neg hq
 congr 1
 ·rw [List.map_map]
  apply List.map_congr_left
  intro q hq
  refine hid q fun e2 => ?_
  exact hn3 q.name (List.mem_map.2 ⟨(q.name, q.ptr), List.mem_map.2 ⟨q, hq, rfl⟩, rfl⟩) e.name List.mem_cons_self (by rw [e2, hs])
 ·congr 1
  ·exact if_pos hs
  ·rw [List.map_map]
   apply List.map_congr_left
   intro q hq
   refine hid q fun e2 => ?_
   exact hn4 (List.mem_map.2 ⟨(q.name, q.ptr), List.mem_map.2 ⟨q, hq, rfl⟩, by show q.name = e.name; rw [e2, hs]⟩)
theorem entM_push {E : List Ent} {s : ByteArray} (h : findE E s = none) (b : Nat) (iv : Value) (ar : Nat) (LL : List (List ByteArray)) : putM (entM E) s (.pointer (some ⟨b, 0, none⟩)) = entM (E ++ [{ name := s, b := b, iv := iv, ar := ar, LL := LL }]) := by
 unfold putM
 rw [entM_get, h, if_neg (by simp)]
 unfold entM
 rw [List.map_append]; rfl
end
end Go.Proofs.YtinnmeiphbdogaaGreat

/- tuple.Rows: Each, Copy, with: Union, Minus, Meet; Same. -/
namespace Go.Proofs.YtinnmeiphbdogaaGreat
open Go.RowKit Go.Shelf
set_option linter.unusedVariables false
def EachRows (lo : Nat) (w : World) (v : Value) (LL : List (List ByteArray)) : Prop :=
 ∃ Bs iv, v = .func (.func 171) #[] #[.pointer (some ⟨Bs, 0, none⟩)] /\ lo ≤ Bs /\ Blk w Bs [iv] 69 /\ OwnRows lo w iv LL /\ LL.length ≤ 1048576 * 1048576
section
variable {z z1 z2 : Prop} {S : Nat -> Prop} {w w' : World} {b b1 b2 : Nat} {iv iv1 iv2 : Value} {arity arity2 : Nat} {LL L1 L2 : List (List ByteArray)}
theorem RowsAt.len (h : RowsAt S w b iv arity LL) : LL.length ≤ 1048576 * 1048576 := by
 obtain ⟨con, zs, hc, hs, hl⟩ := h
 rw [<- hl, List.length_map]; exact hs.len
theorem rowsEach_nil (w : World) : Calls Tryz.prog 175 #[.pointer none] w (RetN w fun w' v => EachRows w.heap.size w' v []) := by
 go_enter Tryz.func175, Tryz.ntmps175
 go_wp2_with fail
 refine (rowsAll_nil w).mono ?_
 rintro e w1 ⟨v, rfl, hk, h1⟩
 obtain ⟨ao, cap, ev, _⟩ := h1.shape
 subst ev
 have HK := Lib.hid (And.intro hk h1); clear hk h1
 go_wp2_with fail
 refine (valuesRow_any _ _ _ w1).mono ?_
 rintro e w2 ⟨v, rfl, hk2, rfl, ew⟩
 subst ew
 go_wp2
 go_ret
 exact RetN.mk (HK.out.1.alloc _) ⟨_, _, rfl, HK.out.1.size, Blk.new w1 [_] _, HK.out.2.ext ((Kp.refl w1).alloc _), by simp⟩
theorem rowsEach_q (h : RowsQ z S w b iv arity LL) :
 Calls Tryz.prog 175 #[.pointer (some ⟨b, 0, none⟩)] w (RetF (FQ z b) w fun w' v => RowsAt S w' b iv arity LL /\ EachRows w.heap.size w' v LL) := by
 have H := Lib.hid (rowsAll_q h); clear h
 go_enter Tryz.func175, Tryz.ntmps175
 go_wp2_with fail
 refine H.out.mono ?_
 rintro e w1 ⟨v, rfl, hk, h1, h2⟩
 obtain ⟨ao, cap, ev, _⟩ := h2.shape
 subst ev
 have HK := Lib.hid (And.intro hk (And.intro h1 h2)); clear hk h1 h2
 go_wp2_with fail
 refine (valuesRow_any _ _ _ w1).mono ?_
 rintro e w2 ⟨v, rfl, hk2, rfl, ew⟩
 subst ew
 go_wp2
 go_ret
 obtain ⟨hk, h1, h2⟩ := HK.out
 exact RetF.mk (hk.alloc _) ⟨h1.ext ((Kp.refl w1).alloc _), _, _, rfl, hk.size, Blk.new w1 [_] _, h2.ext ((Kp.refl w1).alloc _), h1.len⟩
end
end Go.Proofs.YtinnmeiphbdogaaGreat

/- A base behind a pointer that may be nil, its map too: what is asked of it by name. -/
namespace Go.Proofs.YtinnmeiphbdogaaGreat
open Go.RowKit
set_option linter.unusedVariables false
inductive BaseV (S : Nat -> Prop) (w : World) : Value -> List Ent -> Prop
 | nil : BaseV S w (.pointer none) []
 | zero (bb : Nat) : Blk w bb [.map none, .int .i64 0] 129 -> (∀ k, S k -> k < w.heap.size) -> ¬ S bb -> BaseV S w (.pointer (some ⟨bb, 0, none⟩)) []
 | full (bb r : Nat) (E : List Ent) : BaseAt S w bb r E -> BaseV S w (.pointer (some ⟨bb, 0, none⟩)) E
def optPtr : Option Ent -> Value
 | some e => e.ptr
 | none => .pointer none
def optLL : Option Ent -> List (List ByteArray)
 | some e => e.LL
 | none => []
def OptAt (S : Nat -> Prop) (w : World) (o : Option Ent) : Prop := ∀ e, o = some e -> RowsAt S w e.b e.iv e.ar e.LL /\ Strict cmpRow e.LL
section
variable {S : Nat -> Prop} {w w' : World} {o : Option Ent} {v : Value} {E : List Ent}
theorem BaseV.opt (h : BaseV S w v E) (s : ByteArray) : OptAt S w (findE E s) := fun e he => by
 cases h with
 | nil => cases he
 | zero => cases he
 | full bb r E h =>
  have hm := (findE_some he).1
  exact ⟨h.rows e hm, h.strict hm⟩
theorem BaseV.ok (h : BaseV S w v E) : BaseOk (cntE E) := by
 cases h with
 | nil => exact ok_nil
 | zero => exact ok_nil
 | full bb r E h => exact h.ok
theorem BaseV.ext (h : BaseV S w v E) (hk : Ext w w') : BaseV S w' v E := by
 cases h with
 | nil => exact .nil
 | zero bb hb hi hs => exact .zero bb (hb.ext hk) (fun k hk' => Nat.lt_of_lt_of_le (hi k hk') hk.size) hs
 | full bb r E h => exact .full bb r E (h.ext hk)
theorem run_lookup_none {P : Program} {t k e : TypeId} (ht : P.underlying t = some (.map k e)) (hk : P.underlying k = some .string) {z : Value} (hz : (zeroValue e).run P w = .ok z w) (s : ByteArray) :
 (Instr.lookup t (.map none) (.string s) false).run P w = .ok z w := by
 have hc := run_check_str (P := P) (w := w) hk s true 9999
 have hf := run_find_str (P := P) (w := w) hk s (es := []) (r := none) rfl
 simp [Instr.lookup, run_underlying ht, hc, hz, hf, Result.andThen]
set_option maxRecDepth 100000 in
theorem of_any (h : BaseV S w v E) (s : ByteArray) : Calls Tryz.prog 108 #[v, .string s] w (Ret (optPtr (findE E s)) w) := by
 cases h with
 | nil =>
  go_enter Tryz.func108, Tryz.ntmps108
  go_wp2
  go_ret
  exact Ret.mk rfl
 | zero bb hb hi hs =>
  have c0 := hb.cell 0 (by simp)
  have hlk := run_lookup_none (P := Tryz.prog) (w := w) Tryz.underlying127 Tryz.underlying9 (z := .pointer none) (by kernel_rfl) s
  simp only [List.getElem_cons_zero] at c0
  clear hb hi hs
  go_enter Tryz.func108, Tryz.ntmps108
  go_wp2
  go_ret
  exact Ret.mk rfl
 | full bb r E h =>
  have c0 := h.blk.cell 0 (by simp)
  have hlk := run_lookup_str (P := Tryz.prog) Tryz.underlying127 Tryz.underlying9 (z := .pointer none) (by kernel_rfl) h.map s
  rw [entM_get] at hlk
  have he : ((findE E s).map Ent.ptr).getD (.pointer none) = optPtr (findE E s) := by cases findE E s <;> rfl
  rw [he] at hlk
  simp only [List.getElem_cons_zero] at c0
  clear h he
  go_enter Tryz.func108, Tryz.ntmps108
  go_wp2
  go_ret
  exact Ret.mk rfl
theorem optEach_any (h : OptAt S w o) : Calls Tryz.prog 175 #[optPtr o] w (RetN w fun w' v => EachRows w.heap.size w' v (optLL o)) := by
 cases o with
 | none => exact rowsEach_nil w
 | some e =>
  refine (rowsEach_q (z := False) (h e rfl).1.q).mono ?_
  rintro e w' ⟨v, rfl, hk, _, h2⟩
  exact RetN.mk (Kp.fq hk) h2
theorem baseEach_any (h : BaseV S w v E) (s : ByteArray) :
 Calls Tryz.prog 149 #[v, .string s] w (RetN w fun w' v => EachRows w.heap.size w' v (optLL (findE E s))) := by
 have HO := Lib.hid (of_any h s)
 have HH := Lib.hid (optEach_any (h.opt s))
 clear h
 go_enter Tryz.func149, Tryz.ntmps149
 go_wp2_with fail
 refine HO.out.mono ?_
 rintro e w1 ⟨rfl, rfl⟩
 go_wp2_with fail
 refine HH.out.mono ?_
 rintro e w1 ⟨v, rfl, hk, hc⟩
 go_wp2
 go_ret
 exact RetN.mk hk hc
end
end Go.Proofs.YtinnmeiphbdogaaGreat

/- A literal's table: plain. -/
namespace Go.Proofs.YtinnmeiphbdogaaGreat
open Go.RowKit
set_option linter.unusedVariables false
def varsTo (N : List ByteArray) (ts : List TermZ) (i : Nat) : List Nat := (List.range i).filter fun j => ts.any (isV (N.getD j ByteArray.empty))
theorem varsTo_succ {N : List ByteArray} {ts : List TermZ} {i : Nat} {s : ByteArray} (h : N[i]? = some s) : varsTo N ts (i + 1) = if ts.any (isV s) = true then varsTo N ts i ++ [i] else varsTo N ts i := by
 unfold varsTo
 rw [List.range_succ, List.filter_append, List.filter_cons, List.filter_nil, getD_some h]
 split
 ·rfl
 ·rw [List.append_nil]
theorem varsTo_len (N : List ByteArray) (ts : List TermZ) (i : Nat) : (varsTo N ts i).length ≤ i := by
 unfold varsTo
 exact Nat.le_trans (List.length_filter_le _ _) (by rw [List.length_range]; exact Nat.le_refl _)
theorem inj_len {α β : Type} [DecidableEq β] {l : List α} {m : List β} (f : α -> β) (hn : l.Nodup) (hi : ∀ a ∈ l, ∀ b ∈ l, f a = f b -> a = b) (hm : ∀ a ∈ l, f a ∈ m) : l.length ≤ m.length := by
 induction l generalizing m with
 | nil => exact Nat.zero_le _
 | cons a l ih =>
  obtain ⟨h1, h2⟩ := List.nodup_cons.1 hn
  have h3 := ih (m := m.erase (f a)) h2 (fun x hx y hy => hi x (List.mem_cons_of_mem _ hx) y (List.mem_cons_of_mem _ hy)) fun b hb => by
   have hne : f b ≠ f a := fun e => h1 (by rw [<- hi b (List.mem_cons_of_mem _ hb) a (List.mem_cons_self ..) e]; exact hb)
   exact (List.mem_erase_of_ne hne).2 (hm b (List.mem_cons_of_mem _ hb))
  have h4 := List.length_erase_of_mem (hm a (List.mem_cons_self ..))
  have h5 := List.length_pos_of_mem (hm a (List.mem_cons_self ..))
  rw [List.length_cons]; omega
theorem varsA_few {N : List ByteArray} {ts : List TermZ} (hN : N.Nodup) : (varsA N ts).length ≤ ts.length := by
 have hl : ∀ v ∈ varsA N ts, N[v]? = some (gotD N v) := fun v hv => by
  have := (vars_mem.1 hv).1
  unfold gotD
  rw [List.getD_eq_getElem?_getD, List.getElem?_eq_getElem this]; rfl
 have h := inj_len (l := varsA N ts) (m := ts.map fun t => t.2.1) (gotD N) ((List.nodup_range).filter _) (fun a ha b hb e => by
  have h1 := hl a ha
  have h2 := hl b hb
  rw [<- e] at h2
  exact (List.getElem?_inj (vars_mem.1 ha).1 hN).1 (h1.trans h2.symm)) fun a ha => by
  obtain ⟨_, i, t, hi, _, h2⟩ := vars_mem.1 ha
  exact List.mem_map.2 ⟨t, List.mem_of_getElem? hi, h2⟩
 rw [List.length_map] at h; exact h
open Classical in
theorem tab_snoc (N : List ByteArray) (ts : List TermZ) (R : Rows2) (x : List ByteArray) : tabA N ts (R ++ [x]) = if x.length = ts.length /\ fitsB ts x then addS cmpRow (tabA N ts R) (projA N ts x) else tabA N ts R := by
 unfold tabA
 rw [List.filter_append, List.filter_cons, List.filter_nil]
 by_cases h : x.length = ts.length /\ fitsB ts x
 ·rw [if_pos (by simpa using h), if_pos h, List.map_append, List.map_singleton]
  unfold newS
  rw [List.foldl_append]; rfl
 ·rw [if_neg (by simpa using h), if_neg h, List.append_nil]
theorem tab_nil (N : List ByteArray) (ts : List TermZ) : tabA N ts [] = [] := by unfold tabA; rfl
open Classical in
theorem tab_none {N : List ByteArray} {ts : List TermZ} {R : Rows2} (h : ∀ x ∈ R, x.length ≠ ts.length) : tabA N ts R = [] := by
 unfold tabA
 have e : (R.filter fun x => decide (x.length = ts.length /\ fitsB ts x)) = [] := by
  rw [List.filter_eq_nil_iff]
  intro x hx
  simp only [decide_eq_true_eq, not_and]
  exact fun e => absurd e (h x hx)
 rw [e]; rfl
theorem addS_most (l : Rows2) (x : List ByteArray) : (addS cmpRow l x).length ≤ l.length + 1 := by
 unfold addS
 split
 ·omega
 ·rw [List.length_append, List.length_cons, List.length_take, List.length_drop]; omega
theorem foldS_len : ∀ (xs acc : Rows2), (xs.foldl (addS cmpRow) acc).length ≤ acc.length + xs.length
 | [], acc => Nat.le_refl _
 | x :: xs, acc => by
  have h1 := foldS_len xs (addS cmpRow acc x)
  have h2 := addS_most acc x
  rw [List.foldl_cons, List.length_cons]; omega
open Classical in
theorem tab_few (N : List ByteArray) (ts : List TermZ) (R : Rows2) : (tabA N ts R).length ≤ R.length := by
 unfold tabA newS
 have h1 := foldS_len ((R.filter fun x => decide (x.length = ts.length /\ fitsB ts x)).map (projA N ts)) []
 have h2 := List.length_filter_le (fun x : List ByteArray => decide (x.length = ts.length /\ fitsB ts x)) R
 rw [List.length_map] at h1
 simp only [List.length_nil] at h1
 omega
theorem got_txt {x : List ByteArray} (h : textsC x = true) (i : Nat) : (gotD x i).size ≤ 4096 := by
 unfold gotD
 rw [List.getD_eq_getElem?_getD]
 cases hx : x[i]? with
 | none => exact Nat.zero_le _
 | some s =>
  have := List.all_eq_true.1 h s (List.mem_of_getElem? hx)
  simpa using this
theorem proj_txt {N : List ByteArray} {ts : List TermZ} {x : List ByteArray} (h : textsC x = true) : textsC (projA N ts x) = true := by
 refine List.all_eq_true.2 fun s hs => ?_
 unfold projA at hs
 obtain ⟨v, _, rfl⟩ := List.mem_map.1 hs
 exact decide_eq_true (got_txt h _)
theorem add_proj {N : List ByteArray} {ts : List TermZ} {R : Rows2} {x : List ByteArray} {n : Nat} (hn : n = (varsA N ts).length) (hx : textsC x = true) (hR : R.length < 65536) : rowsAddL n (tabA N ts R) (projA N ts x) = addS cmpRow (tabA N ts R) (projA N ts x) := by
 have h1 : (projA N ts x).length = n := by unfold projA; rw [List.length_map, hn]
 have h2 := tab_few N ts R
 have e : (rowsAddR n (tabA N ts R) (projA N ts x)).2 = 0 := by
  unfold rowsAddR
  rw [if_neg (by rw [h1]; simp), if_neg (by rw [proj_txt hx]; simp), if_neg (by omega)]
 unfold rowsAddL
 rw [if_pos e]
def fitsTo (ts : List TermZ) (x : List ByteArray) (i : Nat) : Prop := ∀ (j : Nat) (t : TermZ), j < i -> ts[j]? = some t -> (t.1 = 3 -> gotD x j = t.2.1) /\ (t.1 = 1 -> gotD x (firstV ts t.2.1) = gotD x j)
theorem fitsTo_all {ts : List TermZ} {x : List ByteArray} : fitsTo ts x ts.length ↔ fitsB ts x := ⟨fun h i t hi => h i t (List.getElem?_eq_some_iff.1 hi).1 hi, fun h j t _ hi => h j t hi⟩
theorem fitsTo_zero (ts : List TermZ) (x : List ByteArray) : fitsTo ts x 0 := fun j t h => by omega
theorem fitsTo_succ {ts : List TermZ} {x : List ByteArray} {i : Nat} {t : TermZ} (h : fitsTo ts x i) (hi : ts[i]? = some t) (h3 : t.1 = 3 -> gotD x i = t.2.1) (h1 : t.1 = 1 -> gotD x (firstV ts t.2.1) = gotD x i) : fitsTo ts x (i + 1) := fun j u hj hu => by
 rcases Nat.lt_or_eq_of_le (Nat.le_of_lt_succ hj) with h2 | h2
 ·exact h j u h2 hu
 ·subst h2; rw [hi] at hu; cases hu; exact ⟨h3, h1⟩
theorem firstI_var {ts : List TermZ} {s : ByteArray} (h : ts.any (isV s) = true) : firstI (isT 1 s) ts = (firstV ts s : Nat) /\ firstV ts s < ts.length := by
 refine ⟨?_, ?_⟩
 ·unfold firstI firstV
  rw [show isT 1 s = isV s from rfl, if_pos h]
 ·unfold firstV
  obtain ⟨t, ht, hq⟩ := List.any_eq_true.1 h
  exact List.findIdx_lt_length_of_exists ⟨t, ht, hq⟩
def CellB (w : World) : Nat -> Prop := fun k => ∃ o : Obj, w.heap[k]? = some o /\ o.isCells = true
theorem RowsAt.tight {S : Nat -> Prop} {w : World} {b : Nat} {iv : Value} {arity : Nat} {LL : Rows2} (h : RowsAt S w b iv arity LL) : RowsAt (fun k => S k /\ CellB w k) w b iv arity LL := by
 obtain ⟨con, zs, hc, hs, hl⟩ := h
 refine ⟨con, zs, hc, ⟨hs.blk, hs.row, hs.apart, fun k hk => hs.inS k hk.1, fun k h1 h2 => hs.notS k h1 h2.1, rows_ord hc, fun z hz => ?_, hs.len⟩, hl⟩
 obtain ⟨ss, h1, h2, h3⟩ := hs.all z hz
 refine ⟨ss, h1, h2, fun a e hne => ⟨h3 a e hne, ?_⟩⟩
 have hpos : 0 < ss.length := by rw [<- h1.1]; omega
 obtain ⟨b', o', e', c'⟩ := h1.2 0 (.string ss[0]) (by simp [strs, List.getElem?_eq_getElem hpos])
 rw [e] at e'
 cases e'
 unfold World.cell? at c'
 unfold CellB
 cases ho : w.heap[b']? with
 | none => rw [ho] at c'; simp at c'
 | some o =>
  refine ⟨o, rfl, ?_⟩
  rw [ho] at c'
  cases o <;> first | rfl | (simp at c')
theorem RowsAt.cellOwn {S : Nat -> Prop} {w : World} {b : Nat} {iv : Value} {arity : Nat} {LL : Rows2} (h : RowsAt S w b iv arity LL) : ∀ k, Owns b iv k -> CellB w k := by
 obtain ⟨con, zs, hc, hs, hl⟩ := h
 intro k hk
 rcases hk with rfl | hk
 ·exact ⟨_, hs.blk, rfl⟩
 ·obtain ⟨cs, hb, _⟩ := hs.row.has hk
  exact ⟨_, hb, rfl⟩
end Go.Proofs.YtinnmeiphbdogaaGreat

/- Tries in memory: what is read of them. -/
namespace Go.Proofs.YtinnmeiphbdogaaGreat
open Go.RowKit Go.Shelf
set_option linter.unusedVariables false
structure LevelAt (w : World) (b off i : Nat) (W : Rows2) (d : Nat) : Prop where
 ex : ∃ ka kc fa fc, w.cell? ⟨b, off + i * 2, none⟩ = some (.slice ka (widthW W d i W.length) kc) /\ w.cell? ⟨b, off + i * 2 + 1, none⟩ = some (.slice fa (widthW W d i W.length + 1) fc) /\ widthW W d i W.length ≤ kc /\
  CellsAt w ka (strs (keysW W d i W.length)) /\ CellsAt w fa (ints (fromW W d i W.length ++ [(widthW W d (i + 1) W.length : Int)]))
theorem LevelAt.ext {w w' : World} {b off i : Nat} {W : Rows2} {d : Nat} (h : LevelAt w b off i W d) (hk : Ext w w') : LevelAt w' b off i W d := by
 obtain ⟨ka, kc, fa, fc, h1, h2, h3, h4, h5⟩ := h.ex
 exact ⟨ka, kc, fa, fc, hk.cell h1 id, hk.cell h2 id, h3, h4.ext hk, h5.ext hk⟩
structure TrieAt (w : World) (tb : Nat) (W : Rows2) (d : Nat) : Prop where
 ex : ∃ la lc, w.cell? ⟨tb, 0, none⟩ = some (.slice la d lc) /\ w.cell? ⟨tb, 1, none⟩ = some (.int .i64 W.length) /\ w.cell? ⟨tb, 2, none⟩ = some (.bool true) /\ ∀ i, i < d -> ∃ b off, la = some ⟨b, off, none⟩ /\ LevelAt w b off i W d
 few : W.length ≤ 1048576
 dep : d ≤ 1048576
theorem TrieAt.ext {w w' : World} {tb : Nat} {W : Rows2} {d : Nat} (h : TrieAt w tb W d) (hk : Ext w w') : TrieAt w' tb W d := by
 obtain ⟨⟨la, lc, h1, h2, h3, h4⟩, h5, h6⟩ := h
 exact ⟨⟨la, lc, hk.cell h1 id, hk.cell h2 id, hk.cell h3 id, fun i hi => by
  obtain ⟨b, off, e, hl⟩ := h4 i hi
  exact ⟨b, off, e, hl.ext hk⟩⟩, h5, h6⟩
theorem trie_some (tb : Nat) (w : World) : (binOp .eql 187 (.pointer (some ⟨tb, 0, none⟩)) (.pointer none)).run Tryz.prog w = .ok (.bool false) w := by kernel_rfl
set_option maxHeartbeats 1000000 in
theorem none_any {w : World} {tb : Nat} {W : Rows2} {d : Nat} (h : TrieAt w tb W d) : Calls Tryz.prog 155 #[.pointer (some ⟨tb, 0, none⟩)] w (RetN w fun w' v => v = .bool false) := by
 have hq := trie_some tb
 obtain ⟨⟨la, lc, -, -, h3, -⟩, -, -⟩ := h
 go_enter Tryz.func155, Tryz.ntmps155
 go_wp2
 go_ret
 exact RetN.mk (Kp.refl _) rfl
set_option maxHeartbeats 1000000 in
theorem depth_any {w : World} {tb : Nat} {W : Rows2} {d : Nat} (h : TrieAt w tb W d) : Calls Tryz.prog 183 #[.pointer (some ⟨tb, 0, none⟩)] w (RetN w fun w' v => v = .int .i64 d) := by
 have HN := Lib.hid (none_any h)
 have HT := Lib.hid h
 clear h
 go_enter Tryz.func183, Tryz.ntmps183
 go_wp2_with fail
 refine HN.out.mono ?_
 rintro e w1 ⟨v, rfl, hk, rfl⟩
 obtain ⟨⟨la, lc, h1, -, -, -⟩, -, -⟩ := HT.out.ext hk
 have HK := Lib.hid hk
 clear hk
 go_wp2
 go_ret
 exact RetN.mk HK.out rfl
set_option maxHeartbeats 1000000 in
theorem len_any {w : World} {tb : Nat} {W : Rows2} {d : Nat} (h : TrieAt w tb W d) : Calls Tryz.prog 184 #[.pointer (some ⟨tb, 0, none⟩)] w (RetN w fun w' v => v = .int .i64 W.length) := by
 have HN := Lib.hid (none_any h)
 have HT := Lib.hid h
 clear h
 go_enter Tryz.func184, Tryz.ntmps184
 go_wp2_with fail
 refine HN.out.mono ?_
 rintro e w1 ⟨v, rfl, hk, rfl⟩
 obtain ⟨⟨la, lc, -, h2, -, -⟩, -, -⟩ := HT.out.ext hk
 have HK := Lib.hid hk
 clear hk
 go_wp2
 go_ret
 exact RetN.mk HK.out rfl
end Go.Proofs.YtinnmeiphbdogaaGreat

/- Cursors in memory. -/
namespace Go.Proofs.YtinnmeiphbdogaaGreat
open Go.RowKit Go.Shelf
set_option linter.unusedVariables false
def spanC (e : Nat × Nat) : List Value := [.int .i64 e.1, .int .i64 e.2]
theorem spanC_len (e : Nat × Nat) : (spanC e).length = 2 := rfl
structure CurAt (w : World) (cb tb : Nat) (st : List (Nat × Nat)) (ov : Value) (M : Nat -> Prop) : Prop where
 box : Blk w cb [.pointer (some ⟨tb, 0, none⟩), ov] 218
 row : Row w 249 2 ov st.length (st.flatMap spanC) M
theorem CurAt.ext {w w' : World} {cb tb : Nat} {st : List (Nat × Nat)} {ov : Value} {M : Nat -> Prop} (h : CurAt w cb tb st ov M) (hk : Ext w w') : CurAt w' cb tb st ov M := ⟨h.box.ext hk, h.row.ext hk⟩
theorem cur_some (cb : Nat) (w : World) : (binOp .eql 188 (.pointer (some ⟨cb, 0, none⟩)) (.pointer none)).run Tryz.prog w = .ok (.bool false) w := by kernel_rfl
theorem rowCap {w : World} {e : TypeId} {k : Nat} {v : Value} {n : Nat} {xs : List Value} {M : Nat -> Prop} (h : Row w e k v n xs M) : ∃ ao cap, v = .slice ao n cap /\ CellsAt w ao xs /\ n ≤ cap /\ cap ≤ maxLen := by
 obtain ⟨h1, ⟨rfl, rfl⟩ | ⟨g, cap, rest, rfl, b, c, d, e, f⟩⟩ := h
 ·have : xs = [] := List.eq_nil_of_length_eq_zero (by simpa using h1)
  subst this
  exact ⟨none, 0, rfl, CellsAt.nil _ _, Nat.le_refl _, Nat.zero_le _⟩
 ·exact ⟨_, cap, rfl, CellsAt.pre c, e, f⟩
set_option maxHeartbeats 1000000 in
theorem last_any {w : World} {cb tb : Nat} {st : List (Nat × Nat)} {g c m : Nat} {M : Nat -> Prop} (h : CurAt w cb tb st (.slice (some ⟨g, 0, none⟩) (m + 1) c) M) :
 Calls Tryz.prog 185 #[.pointer (some ⟨cb, 0, none⟩)] w (RetN w fun w' v => v = .pointer (some ⟨g, m * 2, none⟩)) := by
 have hq := cur_some cb
 have c1 : w.cell? ⟨cb, 1, none⟩ = some (.slice (some ⟨g, 0, none⟩) (m + 1) c) := by rw [h.box.cell']; rfl
 have hmx : m + 1 ≤ maxLen := by
  obtain ⟨a, cc, e, h1, h2, h3⟩ := rowCap h.row
  rw [Value.slice.injEq] at e
  omega
 have hw : IntKind.i64.wrap (m : Int) = (m : Int) := IntWalk.i64_in _ (by unfold maxLen at hmx; omega)
 have hz : ¬ ((m : Int) + 1) = 0 := by omega
 clear hmx
 clear h
 go_enter Tryz.func185, Tryz.ntmps185
 go_wp2
 go_quiet (fail)
 go_wp2
 go_ret
 exact RetN.mk ((Kp.refl _).drewN _) rfl
set_option maxHeartbeats 1000000 in
theorem last_none {w : World} {cb tb : Nat} {ao : Option Addr} {c : Nat} {M : Nat -> Prop} (h : CurAt w cb tb [] (.slice ao 0 c) M) :
 Calls Tryz.prog 185 #[.pointer (some ⟨cb, 0, none⟩)] w (RetN w fun w' v => v = .pointer none) := by
 have hq := cur_some cb
 have c1 : w.cell? ⟨cb, 1, none⟩ = some (.slice ao 0 c) := by rw [h.box.cell']; rfl
 clear h
 go_enter Tryz.func185, Tryz.ntmps185
 go_wp2
 go_ret
 exact RetN.mk (Kp.refl _) rfl
structure CurIn (w : World) (cb tb : Nat) (st : List (Nat × Nat)) (g c m a b : Nat) (M : Nat -> Prop) : Prop where
 at_ : CurAt w cb tb st (.slice (some ⟨g, 0, none⟩) (m + 1) c) M
 last : st[m]? = some (a, b)
theorem CurIn.len {w : World} {cb tb : Nat} {st : List (Nat × Nat)} {g c m a b : Nat} {M : Nat -> Prop} (h : CurIn w cb tb st g c m a b M) : st.length = m + 1 := by
 obtain ⟨ao, cc, e, h1, h2, h3⟩ := rowCap h.at_.row
 rw [Value.slice.injEq] at e
 omega
theorem CurIn.ext {w w' : World} {cb tb : Nat} {st : List (Nat × Nat)} {g c m a b : Nat} {M : Nat -> Prop} (h : CurIn w cb tb st g c m a b M) (hk : Ext w w') : CurIn w' cb tb st g c m a b M := ⟨h.at_.ext hk, h.last⟩
theorem spans_get (st : List (Nat × Nat)) {m : Nat} {e : Nat × Nat} (h : st[m]? = some e) : (st.flatMap spanC)[m * 2]? = some (.int .i64 e.1) /\ (st.flatMap spanC)[m * 2 + 1]? = some (.int .i64 e.2) := by
 induction st generalizing m with
 | nil => simp at h
 | cons x st ih =>
  cases m with
  | zero => cases h; exact ⟨rfl, rfl⟩
  | succ m =>
   have h2 := ih (by simpa using h)
   refine ⟨?_, ?_⟩
   ·rw [List.flatMap_cons, List.getElem?_append_right (by rw [spanC_len]; omega), spanC_len, show (m + 1) * 2 - 2 = m * 2 by omega]; exact h2.1
   ·rw [List.flatMap_cons, List.getElem?_append_right (by rw [spanC_len]; omega), spanC_len, show (m + 1) * 2 + 1 - 2 = m * 2 + 1 by omega]; exact h2.2
theorem CurIn.cells {w : World} {cb tb : Nat} {st : List (Nat × Nat)} {g c m a b : Nat} {M : Nat -> Prop} (h : CurIn w cb tb st g c m a b M) : w.cell? ⟨g, m * 2, none⟩ = some (.int .i64 a) /\ w.cell? ⟨g, m * 2 + 1, none⟩ = some (.int .i64 b) /\ w.frozen? ⟨g, m * 2, none⟩ = false := by
 obtain ⟨h1, h2⟩ := spans_get st h.last
 obtain ⟨_, ⟨e1, _⟩ | ⟨g', cap, rest, e1, hM, hB, h3⟩⟩ := h.at_.row
 ·cases e1
 ·simp only [Value.slice.injEq, Option.some.injEq, Addr.mk.injEq, and_true] at e1
  obtain ⟨rfl, _⟩ := e1
  have l1 := (List.getElem?_eq_some_iff.1 h1).1
  have l2 := (List.getElem?_eq_some_iff.1 h2).1
  exact ⟨by rw [hB.cell', List.getElem?_append_left l1]; exact h1, by rw [hB.cell', List.getElem?_append_left l2]; exact h2, hB.free _⟩
theorem beq_int (a b : Nat) : ((a : Int) == (b : Int)) = decide (a = b) := by
 by_cases h : a = b
 ·subst h; simp
 ·rw [decide_eq_false h]
  have : ¬ (a : Int) = b := by omega
  simp [this]
theorem span_some (g o : Nat) (w : World) : (binOp .neq 250 (.pointer (some ⟨g, o, none⟩)) (.pointer none)).run Tryz.prog w = .ok (.bool true) w := by kernel_rfl
theorem span_some' (g o : Nat) (w : World) : (binOp .eql 250 (.pointer (some ⟨g, o, none⟩)) (.pointer none)).run Tryz.prog w = .ok (.bool false) w := by kernel_rfl
set_option maxHeartbeats 1000000 in
theorem atEnd_any {w : World} {cb tb : Nat} {st : List (Nat × Nat)} {g c m a b : Nat} {M : Nat -> Prop} (h : CurIn w cb tb st g c m a b M) :
 Calls Tryz.prog 181 #[.pointer (some ⟨cb, 0, none⟩)] w (RetN w fun w' v => v = .bool (decide (a = b))) := by
 have HL := Lib.hid (last_any h.at_)
 have HC := Lib.hid h
 clear h
 go_enter Tryz.func181, Tryz.ntmps181
 go_wp2_with fail
 refine HL.out.mono ?_
 rintro e w1 ⟨v, rfl, hk, rfl⟩
 obtain ⟨z0, z1, -⟩ := (HC.out.ext hk).cells
 have hq := span_some g (m * 2)
 have HK := Lib.hid hk
 clear hk
 go_wp2
 go_quiet (fail)
 go_wp2
 go_ret
 exact RetN.mk (HK.out.drewN _) (congrArg Value.bool (beq_int a b))
theorem wrap_len {m : Nat} (h : m ≤ maxLen) : IntKind.i64.wrap (m : Int) = (m : Int) := IntWalk.i64_in _ (by unfold maxLen at h; omega)
theorem CurIn.small {w : World} {cb tb : Nat} {st : List (Nat × Nat)} {g c m a b : Nat} {M : Nat -> Prop} (h : CurIn w cb tb st g c m a b M) : m ≤ maxLen := by
 obtain ⟨ao, cc, e, h1, h2, h3⟩ := rowCap h.at_.row
 rw [Value.slice.injEq] at e
 have := h.len
 omega
set_option maxHeartbeats 1000000 in
theorem key_any {w : World} {cb tb : Nat} {st : List (Nat × Nat)} {g c m a b d : Nat} {W : Rows2} {M : Nat -> Prop} {x : ByteArray} (h : CurIn w cb tb st g c m a b M) (ht : TrieAt w tb W d) (hm : m < d) (hab : a ≠ b) (hx : (keysW W d m W.length)[a]? = some x) :
 Calls Tryz.prog 187 #[.pointer (some ⟨cb, 0, none⟩)] w (RetN w fun w' v => v = .string x) := by
 have HL := Lib.hid (last_any h.at_)
 have HE := Lib.hid (fun (W : World) (hW : Ext w W) => atEnd_any (h.ext hW))
 have HC := Lib.hid h
 have HT := Lib.hid ht
 have hw := wrap_len h.small
 have hn := (List.getElem?_eq_some_iff.1 hx).1
 rw [keys_len] at hn
 have HX := Lib.hid hx
 have hd : decide (a = b) = false := decide_eq_false hab
 rw [hd] at HE
 clear h ht hx hab hd
 go_enter Tryz.func187, Tryz.ntmps187
 go_wp2_with fail
 refine HL.out.mono ?_
 rintro e w1 ⟨v, rfl, hk, rfl⟩
 have hq := span_some' g (m * 2)
 have H1 := Lib.hid hk
 clear hk
 go_wp2_with (go_at_call 181; refine Halted.out ?_)
 refine Halted.mk ((HE.out w1 H1.out).mono ?_)
 rintro e w2 ⟨v, rfl, hk, rfl⟩
 have H2 := Lib.hid (H1.out.trans hk)
 clear hk H1
 obtain ⟨z0, z1, -⟩ := (HC.out.ext H2.out).cells
 have hb := (HC.out.at_.box.ext H2.out)
 have c0 : w2.cell? ⟨cb, 0, none⟩ = some (.pointer (some ⟨tb, 0, none⟩)) := by rw [hb.cell']; rfl
 have c1 : w2.cell? ⟨cb, 1, none⟩ = some (.slice (some ⟨g, 0, none⟩) (m + 1) c) := by rw [hb.cell']; rfl
 obtain ⟨⟨la, lc, t0, -, -, hlev⟩, -, -⟩ := HT.out.ext H2.out
 obtain ⟨bl, ol, ela, hL⟩ := hlev m hm
 subst ela
 obtain ⟨ka, kc, fa, fc, l0, -, -, hk1, -⟩ := hL.ex
 obtain ⟨kb, ko, eka, k0⟩ := hk1 a (.string x) (by simp [strs, HX.out])
 subst eka
 generalize widthW W d m W.length = nk at *
 clear hL hk1 hlev hb z1
 go_wp2
 go_quiet (fail)
 go_wp2
 go_ret
 exact RetN.mk (H2.out.drewN _) rfl
end Go.Proofs.YtinnmeiphbdogaaGreat

/- Cursors in memory: what turns them. -/
namespace Go.Proofs.YtinnmeiphbdogaaGreat
open Go.RowKit Go.Shelf
set_option linter.unusedVariables false
theorem rowPut {w : World} {e : TypeId} {k : Nat} {g m c n : Nat} {xs : List Value} {M : Nat -> Prop} (h : Row w e k (.slice (some ⟨g, 0, none⟩) m c) n xs M) (i : Nat) (hi : i < xs.length) (v : Value) : Row (w.setCell ⟨g, i, none⟩ v) e k (.slice (some ⟨g, 0, none⟩) m c) n (xs.set i v) M := by
 obtain ⟨h1, ⟨e1, _⟩ | ⟨g', cap, rest, e1, hM, hB, h2, h3⟩⟩ := h
 ·cases e1
 ·cases e1
  refine ⟨by rw [List.length_set]; exact h1, .inr ⟨g, c, rest, rfl, hM, ?_, by simpa using h2, h3⟩⟩
  have := hB.set i v
  rw [List.set_append_left _ _ hi] at this
  exact this
theorem blkOne {w : World} {g : Nat} {cs cs' : List Value} {e e' : TypeId} (h : Blk w g cs e) (h' : Blk w g cs' e') : e = e' := by
 unfold Blk at h h'
 rw [h] at h'
 cases h'; rfl
theorem typ_cs : 218 ≠ 249 := by decide
theorem CurAt.apart {w : World} {cb tb g n c : Nat} {st : List (Nat × Nat)} {M : Nat -> Prop} (h : CurAt w cb tb st (.slice (some ⟨g, 0, none⟩) n c) M) : cb ≠ g /\ M g /\ g < w.heap.size := by
 obtain ⟨hb, _, ⟨e1, _⟩ | ⟨g', cap, rest, e1, hM, hB, h3⟩⟩ := h
 ·cases e1
 ·simp only [Value.slice.injEq, Option.some.injEq, Addr.mk.injEq, and_true] at e1
  obtain ⟨rfl, _⟩ := e1
  exact ⟨fun e => by subst e; exact typ_cs (blkOne hb hB), hM, hB.lt⟩
theorem spans_set : ∀ (st : List (Nat × Nat)) (m a b a' : Nat), st[m]? = some (a, b) -> (st.set m (a', b)).flatMap spanC = (st.flatMap spanC).set (m * 2) (.int .i64 a')
 | [], m, a, b, a', h => by simp at h
 | x :: st, 0, a, b, a', h => by cases h; rfl
 | x :: st, m + 1, a, b, a', h => by
  rw [List.set_cons_succ, List.flatMap_cons, List.flatMap_cons, spans_set st m a b a' (by simpa using h), List.set_append_right _ _ (by rw [spanC_len]; omega), spanC_len]
  congr 2
  omega
theorem CurIn.put {w : World} {cb tb : Nat} {st : List (Nat × Nat)} {g c m a b : Nat} {M : Nat -> Prop} (h : CurIn w cb tb st g c m a b M) (a' : Nat) : CurIn (w.setCell ⟨g, m * 2, none⟩ (.int .i64 a')) cb tb (st.set m (a', b)) g c m a' b M := by
 have hap := h.at_.apart
 have hks : Kp (fun k => k = g) w (w.setCell ⟨g, m * 2, none⟩ (.int .i64 a')) := Kp.setCell (F := fun k => k = g) (p := ⟨g, m * 2, none⟩) (Kp.refl w) (fun _ => rfl) _
 have hml : m < st.length := (List.getElem?_eq_some_iff.1 h.last).1
 refine ⟨⟨h.at_.box.kp hks hap.1, ?_⟩, by rw [List.getElem?_set_self hml]⟩
 rw [spans_set st m a b a' h.last, List.length_set]
 exact rowPut h.at_.row (m * 2) (List.getElem?_eq_some_iff.1 (spans_get st h.last).1).1 _
set_option maxHeartbeats 1000000 in
theorem next_any {w : World} {cb tb : Nat} {st : List (Nat × Nat)} {g c m a b : Nat} {M : Nat -> Prop} (h : CurIn w cb tb st g c m a b M) (hab : a < b) (hb : b ≤ 1048576) :
 Calls Tryz.prog 189 #[.pointer (some ⟨cb, 0, none⟩)] w (RetF (fun k => k = g) w fun w' v => v = .bool (decide (a + 1 ≠ b)) /\ CurIn w' cb tb (st.set m (a + 1, b)) g c m (a + 1) b M) := by
 have HL := Lib.hid (last_any h.at_)
 have HE := Lib.hid (fun (W : World) (hW : Ext w W) => atEnd_any (h.ext hW))
 have HC := Lib.hid h
 have hd : decide (a = b) = false := decide_eq_false (by omega)
 rw [hd] at HE
 clear h hd
 go_enter Tryz.func189, Tryz.ntmps189
 go_wp2_with fail
 refine HL.out.mono ?_
 rintro e w1 ⟨v, rfl, hk, rfl⟩
 have hq := span_some' g (m * 2)
 have H1 := Lib.hid hk
 clear hk
 go_wp2_with (go_at_call 181; refine Halted.out ?_)
 refine Halted.mk ((HE.out w1 H1.out).mono ?_)
 rintro e w2 ⟨v, rfl, hk, rfl⟩
 have H2 := Lib.hid (H1.out.trans hk)
 clear hk H1
 obtain ⟨z0, -, f0⟩ := (HC.out.ext H2.out).cells
 obtain ⟨w3, e3⟩ : ∃ x, w2.setCell ⟨g, m * 2, none⟩ (.int .i64 ((a : Int) + 1)) = x := ⟨_, rfl⟩
 have hc3 : CurIn w3 cb tb (st.set m (a + 1, b)) g c m (a + 1) b M := by rw [<- e3]; exact (HC.out.ext H2.out).put (a + 1)
 have H3 := Lib.hid (And.intro hc3 (show Kp (fun k => k = g) w w3 from by rw [<- e3]; exact Kp.setCell (F := fun k => k = g) (p := ⟨g, m * 2, none⟩) (Ext.kp H2.out) (fun _ => rfl) _))
 have HE3 := Lib.hid (atEnd_any hc3)
 clear hc3
 go_wp2_with fail
 refine HE3.out.mono ?_
 rintro e w4 ⟨v, rfl, hk, rfl⟩
 have H4 := Lib.hid (And.intro (H3.out.1.ext hk) (H3.out.2.ext hk))
 clear hk e3 z0 f0
 by_cases he : a + 1 = b
 ·rw [decide_eq_true he]
  have HE5 := Lib.hid (show decide (a + 1 ≠ b) = false from decide_eq_false fun h => h he)
  clear he
  go_wp2
  go_ret
  exact RetF.mk H4.out.2 ⟨by rw [HE5.out]; rfl, H4.out.1⟩
 ·rw [decide_eq_false he]
  have HE5 := Lib.hid (show decide (a + 1 ≠ b) = true from decide_eq_true he)
  clear he
  go_wp2
  go_ret
  exact RetF.mk H4.out.2 ⟨by rw [HE5.out]; rfl, H4.out.1⟩
theorem CurIn.up {w : World} {cb tb : Nat} {st : List (Nat × Nat)} {g c m a b : Nat} {M : Nat -> Prop} (h : CurIn w cb tb st g c m a b M) : CurAt (w.setCell ⟨cb, 1, none⟩ (.slice (some ⟨g, 0, none⟩) m c)) cb tb (st.take m) (.slice (some ⟨g, 0, none⟩) m c) M := by
 have hap := h.at_.apart
 have hks : Kp (fun k => k = cb) w (w.setCell ⟨cb, 1, none⟩ (.slice (some ⟨g, 0, none⟩) m c)) := Kp.setCell (F := fun k => k = cb) (p := ⟨cb, 1, none⟩) (Kp.refl w) (fun _ => rfl) _
 have hl := h.len
 refine ⟨?_, ?_⟩
 ·have := h.at_.box.set 1 (.slice (some ⟨g, 0, none⟩) m c)
  exact this
 ·have hr : Row w 249 2 (.slice (some ⟨g, 0, none⟩) m c) (st.take m).length ((st.take m).flatMap spanC) M := by
   have et : (st.take m).length = m := by rw [List.length_take]; omega
   rw [et]
   obtain ⟨h1, ⟨e1, _⟩ | ⟨g', cap, rest, e1, hM, hB, h2, h3, h4⟩⟩ := h.at_.row
   ·cases e1
   ·simp only [Value.slice.injEq, Option.some.injEq, Addr.mk.injEq, and_true] at e1
    obtain ⟨rfl, e2, rfl⟩ := e1
    have es : st.flatMap spanC = (st.take m).flatMap spanC ++ (st.drop m).flatMap spanC := by rw [<- List.flatMap_append, List.take_append_drop]
    rw [es, List.append_assoc] at hB
    rw [es] at h2
    have hfl : ∀ l : List (Nat × Nat), (l.flatMap spanC).length = l.length * 2 := fun l => by
     induction l with
     | nil => rfl
     | cons x l ih => rw [List.flatMap_cons, List.length_append, spanC_len, ih, List.length_cons]; omega
    refine ⟨by rw [hfl, et], .inr ⟨g, c, _, rfl, hM, hB, ?_, by omega, h4⟩⟩
    rw [List.length_append] at h2 ⊢
    rw [List.length_append, <- Nat.add_assoc]
    rw [List.length_append] at h2
    omega
  exact hr.kp' hks fun g' hg _ e => by
   have e3 : some g = some g' := hg
   exact hap.1 (e.symm.trans (Option.some.inj e3).symm)
set_option maxRecDepth 100000 in
set_option maxHeartbeats 1000000 in
theorem up_any {w : World} {cb tb : Nat} {st : List (Nat × Nat)} {g c m a b : Nat} {M : Nat -> Prop} (h : CurIn w cb tb st g c m a b M) :
 Calls Tryz.prog 159 #[.pointer (some ⟨cb, 0, none⟩)] w (RetF (fun k => k = cb) w fun w' v => v = .bool true /\ CurAt w' cb tb (st.take m) (.slice (some ⟨g, 0, none⟩) m c) M) := by
 have HL := Lib.hid (last_any h.at_)
 have HC := Lib.hid h
 have hw := wrap_len h.small
 obtain ⟨hmc, hcm⟩ : m ≤ c /\ c ≤ maxLen := by
  obtain ⟨ao, cc, e, h1, h2, h3⟩ := rowCap h.at_.row
  rw [Value.slice.injEq] at e
  have := h.len
  omega
 clear h
 go_enter Tryz.func159, Tryz.ntmps159
 go_wp2_with fail
 refine HL.out.mono ?_
 rintro e w1 ⟨v, rfl, hk, rfl⟩
 have hq := span_some' g (m * 2)
 have H1 := Lib.hid hk
 have hb := HC.out.at_.box.ext hk
 have c1 : w1.cell? ⟨cb, 1, none⟩ = some (.slice (some ⟨g, 0, none⟩) (m + 1) c) := by rw [hb.cell']; rfl
 have f1 := hb.free 1
 clear hb hk
 go_wp2
 go_still_tail 14, (by kernel_rfl)
 go_wp2
 go_ret
 exact RetF.mk ((Kp.setCell (F := fun k => k = cb) (p := ⟨cb, 1, none⟩) (Ext.kp H1.out) (fun _ => rfl) _).drew) ⟨rfl, (HC.out.ext H1.out).up.ext ((Kp.refl _).drew)⟩
set_option maxHeartbeats 1000000 in
theorem walk_any {w : World} {tb : Nat} {W : Rows2} {d : Nat} (h : TrieAt w tb W d) : Calls Tryz.prog 122 #[.pointer (some ⟨tb, 0, none⟩)] w (RetN w fun w' v => ∃ cb, v = .pointer (some ⟨cb, 0, none⟩) /\ w.heap.size ≤ cb /\ CurAt w' cb tb [] (.slice none 0 0) (fun k => w.heap.size ≤ k)) := by
 have HN := Lib.hid (none_any h)
 clear h
 go_enter Tryz.func122, Tryz.ntmps122
 go_wp2_with fail
 refine HN.out.mono ?_
 rintro e w1 ⟨v, rfl, hk, rfl⟩
 have HK := Lib.hid hk
 clear hk
 go_wp2
 go_ret
 exact RetN.mk (HK.out.alloc _) ⟨_, rfl, HK.out.size, Blk.new w1 _ _, Row.nil _ _ _ _⟩
end Go.Proofs.YtinnmeiphbdogaaGreat

/- The trie's search in a span; Seek. -/
namespace Go.Proofs.YtinnmeiphbdogaaGreat
open Go.RowKit Go.Shelf
set_option linter.unusedVariables false
def DoubleTo (K : List ByteArray) (t : ByteArray) (a b : Nat) (w0 : World) (lv sv : Value) (w : World) : Prop := ∃ low : Nat, a ≤ low /\ low ≤ b /\ lv = .int .i64 low /\ sv = .int .i64 (low - a + 1 : Nat) /\ Hid (∀ x, a < low -> K[low - 1]? = some x -> cmpB x.toList t.toList < 0) /\ Hid (Ext w0 w)
def FirstAt (K : List ByteArray) (t : ByteArray) (a b p : Nat) : Prop := a ≤ p /\ p ≤ b /\ (∀ x, a < p -> K[p - 1]? = some x -> cmpB x.toList t.toList < 0) /\ ∀ x, p < b -> K[p]? = some x -> 0 ≤ cmpB x.toList t.toList
theorem drop_take_get {K : List ByteArray} {low mm j : Nat} (hj : j < mm - low) : ((K.drop low).take (mm - low))[j]? = K[low + j]? := by
 rw [List.getElem?_take_of_lt hj, List.getElem?_drop]
theorem first_of {K : List ByteArray} {t : ByteArray} {a b low mm n : Nat} (h1 : a ≤ low) (h2 : low ≤ mm) (h3 : mm ≤ b) (hbe : ∀ x, a < low -> K[low - 1]? = some x -> cmpB x.toList t.toList < 0) (hmm : mm = b \/ (low < mm /\ ∃ x, K[mm - 1]? = some x /\ 0 ≤ cmpB x.toList t.toList))
 (hn : n ≤ mm - low) (hs1 : ∀ x, 0 < n -> ((K.drop low).take (mm - low))[n - 1]? = some x -> cmpB x.toList t.toList < 0) (hs2 : ∀ x, ((K.drop low).take (mm - low))[n]? = some x -> 0 ≤ cmpB x.toList t.toList) : FirstAt K t a b (low + n) := by
 refine ⟨by omega, by omega, fun x hx he => ?_, fun x hx he => ?_⟩
 ·by_cases h0 : 0 < n
  ·refine hs1 x h0 ?_
   rw [drop_take_get (by omega), show low + (n - 1) = low + n - 1 by omega]; exact he
  ·have : n = 0 := by omega
   subst this
   exact hbe x (by omega) (by rw [Nat.add_zero] at he; exact he)
 ·by_cases hlt : n < mm - low
  ·exact hs2 x (by rw [drop_take_get hlt]; exact he)
  ·rcases hmm with h | ⟨h, y, hy, hy2⟩
   ·omega
   ·have h4 := hs1 y (by omega) (by rw [drop_take_get (by omega), show low + (n - 1) = mm - 1 by omega]; exact hy)
    omega
set_option maxRecDepth 100000 in
set_option maxHeartbeats 4000000 in
theorem seekT_any {w : World} {tb : Nat} {W : Rows2} {d i a b : Nat} (t : ByteArray) (h : TrieAt w tb W d) (hi : i < d) (hab : a < b) (hb : b ≤ widthW W d i W.length) :
 Calls Tryz.prog 204 #[.pointer (some ⟨tb, 0, none⟩), .int .i64 i, .agg #[.int .i64 a, .int .i64 b], .string t] w (RetN w fun w' v => ∃ p : Nat, v = .int .i64 p /\ FirstAt (keysW W d i W.length) t a b p) := by
 have hwl := starts_len W d i W.length
 have hbig : b ≤ 1048576 := by have := h.few; unfold widthW at hb; omega
 obtain ⟨⟨la, lc, t0, -, -, hlev⟩, -, -⟩ := h
 obtain ⟨bl, ol, ela, hL⟩ := hlev i hi
 subst ela
 obtain ⟨ka, kc, fa, fc, l0, -, hkc, hk1, -⟩ := hL.ex
 obtain ⟨nk, enk⟩ : ∃ n, widthW W d i W.length = n := ⟨_, rfl⟩
 have hkl : (keysW W d i W.length).length = nk := by rw [keys_len, enk]
 rw [enk] at l0 hkc hb
 obtain ⟨K, eK⟩ : ∃ K, keysW W d i W.length = K := ⟨_, rfl⟩
 rw [eK] at hk1 hkl ⊢
 have HK := Lib.hid (And.intro hk1 hkl)
 clear hk1 hkl eK enk hlev hL hwl
 obtain ⟨kb, ko, eka⟩ : ∃ kb ko, ka = some ⟨kb, ko, none⟩ := by
  obtain ⟨x, hx⟩ : ∃ x, K[0]? = some x := ⟨_, List.getElem?_eq_getElem (by have := HK.out.2; omega)⟩
  obtain ⟨kb, ko, e, -⟩ := HK.out.1 0 (.string x) (by simp [strs, hx])
  exact ⟨kb, ko, e⟩
 subst eka
 go_enter Tryz.func204, Tryz.ntmps204
 obtain ⟨w1, e1⟩ : ∃ w1, w.alloc (.cells #[.int .i64 a, .int .i64 b] 249) = w1 := ⟨_, rfl⟩
 obtain ⟨g0, eg0⟩ : ∃ g, w.heap.size = g := ⟨_, rfl⟩
 have hB : Blk w1 g0 [.int .i64 a, .int .i64 b] 249 := by rw [<- e1, <- eg0]; exact Blk.new w _ _
 have hx1 : Ext w w1 := by rw [<- e1]; exact (Kp.refl w).alloc _
 have s0 : w1.cell? ⟨g0, 0, none⟩ = some (.int .i64 a) := by rw [hB.cell']; rfl
 have s1 : w1.cell? ⟨g0, 1, none⟩ = some (.int .i64 b) := by rw [hB.cell']; rfl
 have t0' := hx1.cell t0 id
 have l0' := hx1.cell l0 id
 have H1 := Lib.hid (And.intro hx1 hB)
 clear hx1 hB t0 l0
 go_wp2
 go_step3
 go_wp2
 go_step3
 go_wp2
 clear e1 eg0 t0' l0'
 go_loopw [10, 11] (fun lv sv wr => DoubleTo K t a b w1 lv sv wr) (fun lv _ _ => b - (intOf lv).toNat)
 case atStart => exact ⟨a, Nat.le_refl _, Nat.le_of_lt hab, rfl, by rw [Nat.sub_self]; rfl, Lib.hid fun x hx => by omega, Lib.hid (Kp.refl _)⟩
 case round =>
  clear s0 s1
  obtain ⟨low, hlo, hhi, rfl, rfl, hbe, hex⟩ := hrel
  have hb2 := H1.out.2.ext hex.out
  have s1 : wr.cell? ⟨g0, 1, none⟩ = some (.int .i64 b) := by rw [hb2.cell']; rfl
  obtain ⟨st, est⟩ : ∃ st, low - a + 1 = st := ⟨_, rfl⟩
  rw [est]
  have hst1 : 1 ≤ st := by omega
  clear hb2
  by_cases hlt : low + st ≤ b
  ·obtain ⟨x, hx⟩ : ∃ x, K[low + st - 1]? = some x := ⟨_, List.getElem?_eq_getElem (by have := HK.out.2; omega)⟩
   obtain ⟨kb', ko', eka, k0⟩ := HK.out.1 (low + st - 1) (.string x) (by simp [strs, hx])
   cases eka
   replace k0 := hex.out.cell (H1.out.1.cell k0 id) id
   by_cases hc : Op.bytesLess x.toList t.toList = true
   ·have HX := Lib.hid (And.intro hx (cmpB_neg.2 hc))
    clear hx
    go_wp2
    go_roundw
    case rel => exact ⟨low + st, by omega, hlt, by first | rfl | (congr 1; done) | (congr 1; omega), by first | rfl | (congr 1; done) | (congr 1; omega), Lib.hid fun y _ hy => by rw [HX.out.1] at hy; cases hy; exact HX.out.2, hex⟩
    case measure => simp [intOf]; omega
   ·rw [Bool.not_eq_true] at hc
    have HX := Lib.hid (And.intro hx (show 0 ≤ cmpB x.toList t.toList from Int.not_lt.1 fun h => by rw [cmpB_neg, hc] at h; cases h))
    clear hx
    have HS := Lib.hid (fun (cp : Nat) => searchS_any ((K.drop low).take ((low + st) - low)) t (some ⟨kb, ko + low, none⟩) ((low + st) - low) cp wr (by have := HK.out.2; simp; omega) (fun j u hu => by
     obtain ⟨v, hv, ev⟩ := List.mem_map.1 (List.mem_of_getElem? hu)
     have hu2 := hu
     unfold strs at hu2
     rw [List.getElem?_map] at hu2
     have hj' : j < (low + st) - low := by
      rcases Nat.lt_or_ge j ((low + st) - low) with h | h
      ·exact h
      ·rw [List.getElem?_eq_none (by simp; omega)] at hu2; cases hu2
     rw [drop_take_get hj'] at hu2
     obtain ⟨kb', ko', ek, hc2⟩ := HK.out.1 (low + j) u (by unfold strs; rw [List.getElem?_map]; exact hu2)
     cases ek
     exact ⟨kb, ko + low, rfl, by rw [Nat.add_assoc]; exact hex.out.cell (H1.out.1.cell hc2 id) id⟩) (by omega))
    have HB := Lib.hid hbe.out
    clear hbe
    go_wp2_with (go_at_call 210; refine Halted.out ?_)
    clear hc k0
    rw [show (low + st - low) = st by omega] at HS
    try rw [show (min ((low : Int) + (st : Int)) (b : Int)).toNat - low = st by omega]
    refine Halted.mk ((HS.out _).mono ?_)
    rintro e w2 ⟨v, rfl, hk2, n, bb, rfl, hn, hs1, hs2⟩
    have HFin := Lib.hid (show FirstAt K t a b (low + n) from first_of (mm := low + st) hlo (by omega) hlt HB.out (.inr ⟨by omega, x, HX.out.1, HX.out.2⟩) (by omega) (by rw [show (low + st - low) = st by omega]; exact hs1) (by rw [show (low + st - low) = st by omega]; exact hs2))
    have HX2 := Lib.hid (H1.out.1.trans (hex.out.trans hk2))
    clear hs1 hs2 hk2
    go_wp2
    go_ret
    exact RetN.mk HX2.out ⟨low + n, rfl, HFin.out⟩
  ·have HB := Lib.hid hbe.out
   have HS := Lib.hid (fun (cp : Nat) => searchS_any ((K.drop low).take (b - low)) t (some ⟨kb, ko + low, none⟩) (b - low) cp wr (by have := HK.out.2; simp; omega) (fun j u hu => by
    obtain ⟨v, hv, ev⟩ := List.mem_map.1 (List.mem_of_getElem? hu)
    have hu2 := hu
    unfold strs at hu2
    rw [List.getElem?_map] at hu2
    have hj' : j < b - low := by
     rcases Nat.lt_or_ge j (b - low) with h | h
     ·exact h
     ·rw [List.getElem?_eq_none (by simp; omega)] at hu2; cases hu2
    rw [drop_take_get hj'] at hu2
    obtain ⟨kb', ko', ek, hc2⟩ := HK.out.1 (low + j) u (by unfold strs; rw [List.getElem?_map]; exact hu2)
    cases ek
    exact ⟨kb, ko + low, rfl, by rw [Nat.add_assoc]; exact hex.out.cell (H1.out.1.cell hc2 id) id⟩) (by omega))
   clear hbe
   by_cases hlk : low < kc
   ·go_wp2_with (go_at_call 210; refine Halted.out ?_)
    try rw [show (min ((low : Int) + (st : Int)) (b : Int)).toNat - low = b - low by omega]
    refine Halted.mk ((HS.out _).mono ?_)
    rintro e w2 ⟨v, rfl, hk2, n, bb, rfl, hn, hs1, hs2⟩
    have HFin := Lib.hid (show FirstAt K t a b (low + n) from first_of (mm := b) hlo hhi (Nat.le_refl _) HB.out (.inl rfl) hn hs1 hs2)
    have HX2 := Lib.hid (H1.out.1.trans (hex.out.trans hk2))
    clear hs1 hs2 hk2
    go_wp2
    go_ret
    exact RetN.mk HX2.out ⟨low + n, rfl, HFin.out⟩
   ·have elb : low = b := by omega
    subst elb
    rw [Nat.sub_self] at HS
    have HS2 := Lib.hid (searchS_any [] t (some ⟨kb, ko, none⟩) 0 0 wr rfl (CellsAt.nil _ _) (by omega))
    go_wp2_with (go_at_call 210; refine Halted.out ?_)
    try rw [show (min ((low : Int) + (st : Int)) (low : Int)).toNat - low = 0 by omega]
    refine Halted.mk ((HS2.out).mono ?_)
    rintro e w2 ⟨v, rfl, hk2, n, bb, rfl, hn, hs1, hs2⟩
    have hn0 : n = 0 := by omega
    subst hn0
    have HFin := Lib.hid (show FirstAt K t a low (low + 0) from first_of (mm := low) hlo (Nat.le_refl _) (Nat.le_refl _) HB.out (.inl rfl) (Nat.zero_le _) (fun x h => by omega) (fun x h => by rw [Nat.sub_self, List.take_zero] at h; simp at h))
    have HX2 := Lib.hid (H1.out.1.trans (hex.out.trans hk2))
    clear hs1 hs2 hk2
    go_wp2
    go_ret
    exact RetN.mk HX2.out ⟨low + 0, rfl, HFin.out⟩
set_option maxRecDepth 100000 in
set_option maxHeartbeats 4000000 in
theorem cseek_any {w : World} {cb tb : Nat} {st : List (Nat × Nat)} {g c m a b d : Nat} {W : Rows2} {M : Nat -> Prop} (t : ByteArray) (h : CurIn w cb tb st g c m a b M) (ht : TrieAt w tb W d) (hm : m < d) (hab : a < b) (hb : b ≤ widthW W d m W.length) :
 Calls Tryz.prog 188 #[.pointer (some ⟨cb, 0, none⟩), .string t] w (RetF (fun k => k = g) w fun w' v => ∃ p : Nat, FirstAt (keysW W d m W.length) t a b p /\ v = .bool (decide (p ≠ b)) /\ CurIn w' cb tb (st.set m (p, b)) g c m p b M) := by
 have HL := Lib.hid (last_any h.at_)
 have HE := Lib.hid (fun (W : World) (hW : Ext w W) => atEnd_any (h.ext hW))
 have HSk := Lib.hid (fun (W' : World) (hW : Ext w W') => seekT_any t (ht.ext hW) hm hab hb)
 have HC := Lib.hid h
 have hw := wrap_len h.small
 have hd : decide (a = b) = false := decide_eq_false (by omega)
 rw [hd] at HE
 clear h hd ht
 go_enter Tryz.func188, Tryz.ntmps188
 go_wp2_with fail
 refine HL.out.mono ?_
 rintro e w1 ⟨v, rfl, hk, rfl⟩
 have hq := span_some' g (m * 2)
 have H1 := Lib.hid hk
 clear hk
 go_wp2_with (go_at_call 181; refine Halted.out ?_)
 refine Halted.mk ((HE.out w1 H1.out).mono ?_)
 rintro e w2 ⟨v, rfl, hk, rfl⟩
 have H2 := Lib.hid (H1.out.trans hk)
 clear hk H1
 have HJ := Lib.hid (show ∀ w', Ext w2 w' -> (fun w' : World => w'.cell? ⟨cb, 0, none⟩ = some (.pointer (some ⟨tb, 0, none⟩)) /\ w'.cell? ⟨cb, 1, none⟩ = some (.slice (some ⟨g, 0, none⟩) (m + 1) c) /\ w'.cell? ⟨g, m * 2, none⟩ = some (.int .i64 a) /\ w'.cell? ⟨g, m * 2 + 1, none⟩ = some (.int .i64 b) /\ w'.frozen? ⟨g, m * 2, none⟩ = false) w' from fun w' hw' => by
  have hc := HC.out.ext (H2.out.trans hw')
  obtain ⟨z0, z1, f0⟩ := hc.cells
  exact ⟨by rw [hc.at_.box.cell']; rfl, by rw [hc.at_.box.cell']; rfl, z0, z1, f0⟩)
 go_wp2
 refine draw_begin (fun w' : World => w'.cell? ⟨cb, 0, none⟩ = some (.pointer (some ⟨tb, 0, none⟩)) /\ w'.cell? ⟨cb, 1, none⟩ = some (.slice (some ⟨g, 0, none⟩) (m + 1) c) /\ w'.cell? ⟨g, m * 2, none⟩ = some (.int .i64 a) /\ w'.cell? ⟨g, m * 2 + 1, none⟩ = some (.int .i64 b) /\ w'.frozen? ⟨g, m * 2, none⟩ = false) [18] (by kernel_rfl) (HJ.out _ (Kp.refl w2).drew) (fun hHeld => ?_)
 (refine draw_free (i := 0) (v := ?_) rfl ?_ ?_; rotate_left; (intro w; go_simp; try with_reducible rfl)); (try simp only [Act.put, List.setIfInBounds_toArray, List.set_cons_zero, List.set_cons_succ])
 (refine draw_free (i := 1) (v := ?_) rfl ?_ ?_; rotate_left; (intro w; go_simp; try with_reducible rfl)); (try simp only [Act.put, List.setIfInBounds_toArray, List.set_cons_zero, List.set_cons_succ])
 (refine draw_free (i := 2) (v := ?_) rfl ?_ ?_; rotate_left; (intro w; go_simp; try with_reducible rfl)); (try simp only [Act.put, List.setIfInBounds_toArray, List.set_cons_zero, List.set_cons_succ])
 (refine draw_free (i := 3) (v := ?_) rfl ?_ ?_; rotate_left; (intro w; go_simp; try with_reducible rfl)); (try simp only [Act.put, List.setIfInBounds_toArray, List.set_cons_zero, List.set_cons_succ])
 (refine draw_in (i := 4) (v := ?_) rfl ?_ ?_; rotate_left; (intro w hSw; (try dsimp only at hSw); go_simp; try with_reducible rfl)); (try simp only [Act.put, List.setIfInBounds_toArray, List.set_cons_zero, List.set_cons_succ])
 (refine draw_free (i := 5) (v := ?_) rfl ?_ ?_; rotate_left; (intro w; go_simp; try with_reducible rfl)); (try simp only [Act.put, List.setIfInBounds_toArray, List.set_cons_zero, List.set_cons_succ])
 (refine draw_free (i := 6) (v := ?_) rfl ?_ ?_; rotate_left; (intro w; go_simp; try with_reducible rfl)); (try simp only [Act.put, List.setIfInBounds_toArray, List.set_cons_zero, List.set_cons_succ])
 (refine draw_free (i := 7) (v := ?_) rfl ?_ ?_; rotate_left; (intro w; go_simp; try with_reducible rfl)); (try simp only [Act.put, List.setIfInBounds_toArray, List.set_cons_zero, List.set_cons_succ])
 (refine draw_in (i := 8) (v := ?_) rfl ?_ ?_; rotate_left; (intro w hSw; (try dsimp only at hSw); go_simp; try with_reducible rfl)); (try simp only [Act.put, List.setIfInBounds_toArray, List.set_cons_zero, List.set_cons_succ])
 (refine draw_in (i := 9) (v := ?_) rfl ?_ ?_; rotate_left; (intro w hSw; (try dsimp only at hSw); go_simp; try with_reducible rfl)); (try simp only [Act.put, List.setIfInBounds_toArray, List.set_cons_zero, List.set_cons_succ])
 (refine draw_free (i := 10) (v := ?_) rfl ?_ ?_; rotate_left; (intro w; go_simp; try with_reducible rfl)); (try simp only [Act.put, List.setIfInBounds_toArray, List.set_cons_zero, List.set_cons_succ])
 (refine draw_free (i := 11) (v := ?_) rfl ?_ ?_; rotate_left; (intro w; go_simp; try with_reducible rfl)); (try simp only [Act.put, List.setIfInBounds_toArray, List.set_cons_zero, List.set_cons_succ])
 (refine draw_free (i := 12) (v := ?_) rfl ?_ ?_; rotate_left; (intro w; go_simp; try with_reducible rfl)); (try simp only [Act.put, List.setIfInBounds_toArray, List.set_cons_zero, List.set_cons_succ])
 (refine draw_in (i := 13) (v := ?_) rfl ?_ ?_; rotate_left; (intro w hSw; (try dsimp only at hSw); go_simp; try with_reducible rfl)); (try simp only [Act.put, List.setIfInBounds_toArray, List.set_cons_zero, List.set_cons_succ])
 (refine draw_free (i := 14) (v := ?_) rfl ?_ ?_; rotate_left; (intro w; go_simp; try with_reducible rfl)); (try simp only [Act.put, List.setIfInBounds_toArray, List.set_cons_zero, List.set_cons_succ])
 refine draw_one (i := 15) ?_
 refine comes_turn (i := 15) rfl (fun K hK => ?_)
 go_simp
 (refine (HSk.out _ (H2.out.trans ((Kp.refl w2).drew))).mono ?_; rintro e w3 ⟨v, rfl, hk3, p, rfl, hp⟩; have X3 := Lib.hid (show Ext w2 w3 from ((Kp.refl w2).drew).trans hk3); have HP := Lib.hid hp; clear hk3 hp)
 go_wp2_with fail
 refine hK.out _ _ ?_ (fun hHeld => ?_)
 ·(try dsimp only); (exact HJ.out _ X3.out)
 clear hK K; (try simp only [Act.put, List.setIfInBounds_toArray, List.set_cons_zero, List.set_cons_succ])
 (refine draw_free (i := 16) (v := ?_) rfl ?_ ?_; rotate_left; (intro w; go_simp; try with_reducible rfl)); (try simp only [Act.put, List.setIfInBounds_toArray, List.set_cons_zero, List.set_cons_succ])
 (refine draw_free (i := 17) (v := ?_) rfl ?_ ?_; rotate_left; (intro w; go_simp; try with_reducible rfl)); (try simp only [Act.put, List.setIfInBounds_toArray, List.set_cons_zero, List.set_cons_succ])
 refine draw_one (i := 18) ?_
 refine comes_late (i := 18) rfl (by kernel_rfl) (fun K hK => ?_)
 go_simp
 refine hK.out _ _ ?_
 clear hK K; (try simp only [Act.put, List.setIfInBounds_toArray, List.set_cons_zero, List.set_cons_succ])
 refine wpAnyD_done (by kernel_rfl) ?_ _
 clear hHeld hw
 obtain ⟨w4, e4⟩ : ∃ x, w3.setCell ⟨g, m * 2, none⟩ (.int .i64 p) = x := ⟨_, rfl⟩
 have hc4 : CurIn w4 cb tb (st.set m (p, b)) g c m p b M := by rw [<- e4]; exact (HC.out.ext (H2.out.trans X3.out)).put p
 have H4 := Lib.hid (And.intro hc4 (show Kp (fun k => k = g) w w4 from by rw [<- e4]; exact Kp.setCell (F := fun k => k = g) (p := ⟨g, m * 2, none⟩) (Ext.kp (H2.out.trans X3.out)) (fun _ => rfl) _))
 have HE4 := Lib.hid (atEnd_any hc4)
 rw [e4]
 clear hc4 e4
 go_wp2_with fail
 refine HE4.out.mono ?_
 rintro e w5 ⟨v, rfl, hk, rfl⟩
 have H5 := Lib.hid (And.intro (H4.out.1.ext hk) (H4.out.2.ext hk))
 clear hk
 by_cases he : p = b
 ·rw [decide_eq_true he]
  have HE5 := Lib.hid (show decide (p ≠ b) = false from decide_eq_false fun h => h he)
  clear he
  go_wp2
  go_ret
  exact RetF.mk H5.out.2 ⟨p, HP.out, by rw [HE5.out]; rfl, H5.out.1⟩
 ·rw [decide_eq_false he]
  have HE5 := Lib.hid (show decide (p ≠ b) = true from decide_eq_true he)
  clear he
  go_wp2
  go_ret
  exact RetF.mk H5.out.2 ⟨p, HP.out, by rw [HE5.out]; rfl, H5.out.1⟩
end Go.Proofs.YtinnmeiphbdogaaGreat

/- The followers of a place; Open. -/
namespace Go.Proofs.YtinnmeiphbdogaaGreat
open Go.RowKit Go.Shelf
set_option linter.unusedVariables false
set_option maxHeartbeats 1000000 in
theorem at_any {w : World} {cb tb : Nat} {st : List (Nat × Nat)} {ao : Option Addr} {n c : Nat} {M : Nat -> Prop} (h : CurAt w cb tb st (.slice ao n c) M) :
 Calls Tryz.prog 182 #[.pointer (some ⟨cb, 0, none⟩)] w (RetN w fun w' v => v = .int .i64 n) := by
 have hq := cur_some cb
 have c1 : w.cell? ⟨cb, 1, none⟩ = some (.slice ao n c) := by rw [h.box.cell']; rfl
 clear h
 go_enter Tryz.func182, Tryz.ntmps182
 go_wp2
 go_ret
 exact RetN.mk (Kp.refl _) rfl
set_option maxRecDepth 100000 in
set_option maxHeartbeats 4000000 in
theorem below_any {w : World} {tb : Nat} {W : Rows2} {d i k f t : Nat} (h : TrieAt w tb W d) (hi : i < d) (hf : (fromW W d i W.length ++ [(widthW W d (i + 1) W.length : Int)])[k]? = some ((f : Nat) : Int)) (ht : (fromW W d i W.length ++ [(widthW W d (i + 1) W.length : Int)])[k + 1]? = some ((t : Nat) : Int)) :
 Calls Tryz.prog 186 #[.pointer (some ⟨tb, 0, none⟩), .int .i64 i, .int .i64 k] w (RetN w fun w' v => v = .agg #[.int .i64 f, .int .i64 t]) := by
 have hfew := h.few
 obtain ⟨⟨la, lc, t0, -, -, hlev⟩, -, -⟩ := h
 obtain ⟨bl, ol, ela, hL⟩ := hlev i hi
 subst ela
 obtain ⟨ka, kc, fa, fc, -, l1, -, -, hf1⟩ := hL.ex
 have hkl := (List.getElem?_eq_some_iff.1 ht).1
 rw [List.length_append, from_len, List.length_singleton] at hkl
 have hwl := starts_len W d i W.length
 obtain ⟨fb, fo, efa, k0⟩ := hf1 k (.int .i64 f) (by unfold ints; rw [List.getElem?_map, hf]; rfl)
 obtain ⟨fb', fo', efa', k1⟩ := hf1 (k + 1) (.int .i64 t) (by unfold ints; rw [List.getElem?_map, ht]; rfl)
 subst efa
 cases efa'
 obtain ⟨nk, enk⟩ : ∃ n, widthW W d i W.length = n := ⟨_, rfl⟩
 have hnk : nk ≤ 1048576 := by unfold widthW at enk; omega
 rw [enk] at l1 hkl
 have hw : IntKind.i64.wrap ((k : Int) + 1) = (k : Int) + 1 := IntWalk.i64_in _ (by omega)
 have hk1 : k < nk + 1 := by omega
 have hk5 : (k : Int) < (nk : Int) + 1 := by omega
 have hk6 : k < nk := by omega
 have hk7 : k ≤ nk := by omega
 have hk8 : (k : Int) < ((nk + 1 : Nat) : Int) := by omega
 have hk2 : (0 : Int) ≤ (k : Int) + 1 := by omega
 have hk3 : (k : Int) + 1 < ((nk + 1 : Nat) : Int) := by omega
 have hk4 : ((k : Int) + 1).toNat = k + 1 := by omega
 clear hf ht hlev hL hf1 hwl enk hfew
 go_enter Tryz.func186, Tryz.ntmps186
 obtain ⟨w1, e1⟩ : ∃ w1, w.alloc (.cells #[.int .i64 0, .int .i64 0] 249) = w1 := ⟨_, rfl⟩
 obtain ⟨g0, eg0⟩ : ∃ g, w.heap.size = g := ⟨_, rfl⟩
 have hB : Blk w1 g0 [.int .i64 0, .int .i64 0] 249 := by rw [<- e1, <- eg0]; exact Blk.new w _ _
 have hx1 : Ext w w1 := by rw [<- e1]; exact (Kp.refl w).alloc _
 have s0 : w1.cell? ⟨g0, 0, none⟩ = some (.int .i64 0) := by rw [hB.cell']; rfl
 have s1 : w1.cell? ⟨g0, 1, none⟩ = some (.int .i64 0) := by rw [hB.cell']; rfl
 have f0 := hB.free 0
 have f1 := hB.free 1
 replace t0 := hx1.cell t0 id
 replace l1 := hx1.cell l1 id
 replace k0 := hx1.cell k0 id
 replace k1 := hx1.cell k1 id
 have H1 := Lib.hid (And.intro hx1 (And.intro hB eg0))
 clear hx1 hB
 go_wp2
 go_still_tail 24, (by kernel_rfl)
 go_wp2
 generalize hw9 : World.setCell (World.setCell _ _ _) _ _ = w9
 have hD : Blk w9 g0 [.int .i64 f, .int .i64 t] 249 := by rw [<- hw9]; exact (H1.out.2.1.set 0 _).set 1 _
 have hk9 : Ext w w9 := by
  rw [<- hw9]
  have h := H1.out.2.2
  exact Kp.setCell (p := ⟨g0, 1, none⟩) (Kp.setCell (p := ⟨g0, 0, none⟩) H1.out.1 (fun h2 => by have h3 : g0 < w.heap.size := h2; omega) _) (fun h2 => by have h3 : g0 < w.heap.size := h2; omega) _
 have r0 : w9.drew.cell? ⟨g0, 0, none⟩ = some (.int .i64 f) := by rw [(hD.ext ((Kp.refl w9).drew)).cell']; rfl
 have r1 : w9.drew.cell? ⟨g0, 1, none⟩ = some (.int .i64 t) := by rw [(hD.ext ((Kp.refl w9).drew)).cell']; rfl
 clear hw9
 refine bodyPost_ret (v := .agg #[.int .i64 f, .int .i64 t]) (by simp [results, Tryz.results186, go_sem, r0, r1]) rfl ?_
 exact RetN.mk hk9.drew rfl
theorem drawApp {P : Program} {t e : TypeId} {k bytes : Nat} {z : Value} (E : ElemT P t e k bytes z) {l : List Oper} {a : Act} {w : World} {Q : Exit -> Act -> World -> Prop} {o : Oper} {K : Act -> World -> Prop} {El : Prop} (hgd : o.guard = none) (s x : Operand)
 (ho : o.op = .call { callee := .builtin .append, args := #[s, x], argTypes := #[t, t] })
 {v : Value} {n : Nat} {xs : List Value} {M : Nat -> Prop} (hs : a.eval s = v) (hr : Row w e k v n xs M)
 {ao : Option Addr} {m c : Nat} {news : List Value} (hx : a.eval x = .slice ao m c) (hsrc : CellsAt w ao news) (hl : news.length = m * k) (h1 : ∀ u ∈ news, u.oneCell' = true)
 (hb : (n + m) * bytes ≤ 140737488355328) (h63 : n + m ≤ maxLen)
 (h : ∀ v' w', Row w' e k v' (n + m) (xs ++ news) (fun g => v.ownBlock = some g \/ w.heap.size ≤ g) -> Kp (fun g => v.ownBlock = some g) w w' -> K (a.put o.dst v') w') :
 if Region.wanted o (yielded l.toArray a.tmps) = true then Oper.wp P o a w K Q else El := by
 obtain ⟨v', w', hrun, h2, h3, h4⟩ := run_app (P := P) E o.type hr hl hsrc h1 hb h63 (c := c)
 exact draw_app hgd s x ho hs hx hrun (h v' w' h2 h3)
theorem rowLies {w : World} {e : TypeId} {k : Nat} {v : Value} {n : Nat} {xs : List Value} {M : Nat -> Prop} (h : Row w e k v n xs M) (hn : 0 < n) : ∃ g c, v = .slice (some ⟨g, 0, none⟩) n c /\ M g := by
 obtain ⟨h1, ⟨e1, h0⟩ | ⟨g', cap, rest, e1, hM, _⟩⟩ := h
 ·omega
 ·exact ⟨g', cap, e1, hM⟩
theorem elem_span : ElemT Tryz.prog 216 249 2 16 (.agg #[.int .i64 0, .int .i64 0]) := ⟨by kernel_rfl, by kernel_rfl, rfl, by decide⟩
set_option maxRecDepth 100000 in
set_option maxHeartbeats 4000000 in
theorem open_any {w : World} {cb tb : Nat} {st : List (Nat × Nat)} {g c m a b d f t : Nat} {W : Rows2} {M : Nat -> Prop} (h : CurIn w cb tb st g c m a b M) (ht : TrieAt w tb W d) (hab : a ≠ b) (hm : m + 1 < d) (hW : 0 < W.length)
 (hf : (fromW W d m W.length ++ [(widthW W d (m + 1) W.length : Int)])[a]? = some ((f : Nat) : Int)) (hto : (fromW W d m W.length ++ [(widthW W d (m + 1) W.length : Int)])[a + 1]? = some ((t : Nat) : Int)) :
 Calls Tryz.prog 157 #[.pointer (some ⟨cb, 0, none⟩)] w (RetF (fun k => k = cb \/ k = g) w fun w' v => v = .bool true /\ ∃ g' c', CurAt w' cb tb (st ++ [(f, t)]) (.slice (some ⟨g', 0, none⟩) (m + 2) c') (fun k => k = g \/ w.heap.size ≤ k)) := by
 have HE := Lib.hid (fun (W : World) (hW : Ext w W) => atEnd_any (h.ext hW))
 have HA := Lib.hid (fun (W : World) (hW : Ext w W) => at_any (h.at_.ext hW))
 have HD := Lib.hid (fun (W' : World) (hW : Ext w W') => depth_any (ht.ext hW))
 have HLn := Lib.hid (fun (W' : World) (hW : Ext w W') => len_any (ht.ext hW))
 have hd : decide (a = b) = false := decide_eq_false hab
 rw [hd] at HE
 have hq := cur_some cb
 have HJ := Lib.hid (show ∀ w', Ext w w' -> (fun w' : World => w'.cell? ⟨cb, 0, none⟩ = some (.pointer (some ⟨tb, 0, none⟩))) w' from fun w' hw' => by
  show w'.cell? ⟨cb, 0, none⟩ = some (.pointer (some ⟨tb, 0, none⟩))
  rw [(h.at_.box.ext hw').cell']; rfl)
 have HC := Lib.hid h
 have HL := Lib.hid (fun (W : World) (hW : Ext w W) => last_any (h.at_.ext hW))
 have HBl := Lib.hid (fun (W' : World) (hW : Ext w W') => below_any (ht.ext hW) (by omega) hf hto)
 have HT := Lib.hid ht
 have c0 := HJ.out w (Kp.refl _)
 have hwl := wrap_len h.small
 have e1 : ((m : Int) + 1 == (d : Int)) = false := by
  have : ¬ (m : Int) + 1 = d := by omega
  simp [this]
 obtain ⟨nw, enw⟩ : ∃ n, W.length = n := ⟨_, rfl⟩
 have e2 : ((nw : Int) == 0) = false := by
  have hz : ¬ (nw : Int) = 0 := by omega
  have hz2 : ¬ nw = 0 := by omega
  simp [hz2]
 rw [enw] at HLn
 clear h hd
 go_enter Tryz.func157, Tryz.ntmps157
 go_wp2
 refine draw_begin (fun w' : World => w'.cell? ⟨cb, 0, none⟩ = some (.pointer (some ⟨tb, 0, none⟩))) [] (by kernel_rfl) (HJ.out _ (Kp.refl w).drew) (fun hHeld => ?_)
 (refine draw_free (i := 0) (v := ?_) rfl ?_ ?_; rotate_left; (intro w; go_simp; try with_reducible rfl)); (try simp only [Act.put, List.setIfInBounds_toArray, List.set_cons_zero, List.set_cons_succ])
 (refine draw_free (i := 1) (v := ?_) rfl ?_ ?_; rotate_left; (intro w; go_simp; try with_reducible rfl)); (try simp only [Act.put, List.setIfInBounds_toArray, List.set_cons_zero, List.set_cons_succ])
 (refine draw_free (i := 2) (v := ?_) rfl ?_ ?_; rotate_left; (intro w; go_simp; try with_reducible rfl)); (try simp only [Act.put, List.setIfInBounds_toArray, List.set_cons_zero, List.set_cons_succ])
 (first | (refine draw_free (i := 3) (v := ?_) rfl ?_ ?_; rotate_left; (intro w; go_simp; try with_reducible rfl)) | (refine draw_out (i := 3) rfl ?_)); (try simp only [Act.put, List.setIfInBounds_toArray, List.set_cons_zero, List.set_cons_succ])
 refine draw_one (i := 4) ?_
 refine comes_turn (i := 4) rfl (fun K hK => ?_)
 go_simp
 (refine (HE.out _ (Kp.refl w).drew).mono ?_; rintro e w1 ⟨v, rfl, hk1, rfl⟩; have X1 := Lib.hid (show Ext w w1 from ((Kp.refl w).drew).trans hk1); clear hk1)
 go_wp2_with fail
 refine hK.out _ _ ?_ (fun hHeld => ?_)
 ·(try dsimp only); (exact HJ.out _ X1.out)
 clear hK K; (try simp only [Act.put, List.setIfInBounds_toArray, List.set_cons_zero, List.set_cons_succ])
 (refine draw_free (i := 5) (v := ?_) rfl ?_ ?_; rotate_left; (intro w; go_simp; try with_reducible rfl)); (try simp only [Act.put, List.setIfInBounds_toArray, List.set_cons_zero, List.set_cons_succ])
 (refine draw_free (i := 6) (v := ?_) rfl ?_ ?_; rotate_left; (intro w; go_simp; try with_reducible rfl)); (try simp only [Act.put, List.setIfInBounds_toArray, List.set_cons_zero, List.set_cons_succ])
 (first | (refine draw_free (i := 7) (v := ?_) rfl ?_ ?_; rotate_left; (intro w; go_simp; try with_reducible rfl)) | (refine draw_out (i := 7) rfl ?_)); (try simp only [Act.put, List.setIfInBounds_toArray, List.set_cons_zero, List.set_cons_succ])
 (first | (refine draw_free (i := 9) (v := ?_) rfl ?_ ?_; rotate_left; (intro w; go_simp; try with_reducible rfl)) | (refine draw_out (i := 9) rfl ?_)); (try simp only [Act.put, List.setIfInBounds_toArray, List.set_cons_zero, List.set_cons_succ])
 (first | (refine draw_free (i := 10) (v := ?_) rfl ?_ ?_; rotate_left; (intro w; go_simp; try with_reducible rfl)) | (refine draw_out (i := 10) rfl ?_)); (try simp only [Act.put, List.setIfInBounds_toArray, List.set_cons_zero, List.set_cons_succ])
 (first | (refine draw_free (i := 11) (v := ?_) rfl ?_ ?_; rotate_left; (intro w; go_simp; try with_reducible rfl)) | (refine draw_out (i := 11) rfl ?_)); (try simp only [Act.put, List.setIfInBounds_toArray, List.set_cons_zero, List.set_cons_succ])
 (first | (refine draw_in (i := 12) (v := ?_) rfl ?_ ?_; rotate_left; (intro w hSw; (try dsimp only at hSw); go_simp; try with_reducible rfl)) | (refine draw_out (i := 12) rfl ?_)); (try simp only [Act.put, List.setIfInBounds_toArray, List.set_cons_zero, List.set_cons_succ])
 refine draw_one (i := 8) ?_
 refine comes_turn (i := 8) rfl (fun K hK => ?_)
 go_simp
 (refine (HA.out _ X1.out).mono ?_; rintro e w2 ⟨v, rfl, hk2, rfl⟩; have X2 := Lib.hid (show Ext w w2 from X1.out.trans hk2); clear hk2)
 go_wp2_with fail
 refine hK.out _ _ ?_ (fun hHeld => ?_)
 ·(try dsimp only); (exact HJ.out _ X2.out)
 clear hK K; (try simp only [Act.put, List.setIfInBounds_toArray, List.set_cons_zero, List.set_cons_succ])
 refine draw_one (i := 13) ?_
 refine comes_turn (i := 13) rfl (fun K hK => ?_)
 go_simp
 (refine (HD.out _ X2.out).mono ?_; rintro e w3 ⟨v, rfl, hk3, rfl⟩; have X3 := Lib.hid (show Ext w w3 from X2.out.trans hk3); clear hk3)
 go_wp2_with fail
 refine hK.out _ _ ?_ (fun hHeld => ?_)
 ·(try dsimp only); (exact HJ.out _ X3.out)
 clear hK K; (try simp only [Act.put, List.setIfInBounds_toArray, List.set_cons_zero, List.set_cons_succ])
 (first | (refine draw_free (i := 14) (v := ?_) rfl ?_ ?_; rotate_left; (intro w; go_simp; try with_reducible rfl)) | (refine draw_out (i := 14) rfl ?_)); (try simp only [Act.put, List.setIfInBounds_toArray, List.set_cons_zero, List.set_cons_succ])
 (refine draw_free (i := 15) (v := ?_) rfl ?_ ?_; rotate_left; (intro w; go_simp; try with_reducible rfl)); (try simp only [Act.put, List.setIfInBounds_toArray, List.set_cons_zero, List.set_cons_succ])
 (refine draw_free (i := 16) (v := ?_) rfl ?_ ?_; rotate_left; (intro w; go_simp; try with_reducible rfl)); (try simp only [Act.put, List.setIfInBounds_toArray, List.set_cons_zero, List.set_cons_succ])
 (first | (refine draw_free (i := 17) (v := ?_) rfl ?_ ?_; rotate_left; (intro w; go_simp; try with_reducible rfl)) | (refine draw_out (i := 17) rfl ?_)); (try simp only [Act.put, List.setIfInBounds_toArray, List.set_cons_zero, List.set_cons_succ])
 (first | (refine draw_free (i := 18) (v := ?_) rfl ?_ ?_; rotate_left; (intro w; go_simp; try with_reducible rfl)) | (refine draw_out (i := 18) rfl ?_)); (try simp only [Act.put, List.setIfInBounds_toArray, List.set_cons_zero, List.set_cons_succ])
 (first | (refine draw_free (i := 19) (v := ?_) rfl ?_ ?_; rotate_left; (intro w; go_simp; try with_reducible rfl)) | (refine draw_out (i := 19) rfl ?_)); (try simp only [Act.put, List.setIfInBounds_toArray, List.set_cons_zero, List.set_cons_succ])
 (first | (refine draw_in (i := 20) (v := ?_) rfl ?_ ?_; rotate_left; (intro w hSw; (try dsimp only at hSw); go_simp; try with_reducible rfl)) | (refine draw_out (i := 20) rfl ?_)); (try simp only [Act.put, List.setIfInBounds_toArray, List.set_cons_zero, List.set_cons_succ])
 refine draw_one (i := 21) ?_
 refine comes_turn (i := 21) rfl (fun K hK => ?_)
 go_simp
 (refine (HLn.out _ X3.out).mono ?_; rintro e w4 ⟨v, rfl, hk4, rfl⟩; have X4 := Lib.hid (show Ext w w4 from X3.out.trans hk4); clear hk4)
 go_wp2_with fail
 refine hK.out _ _ ?_ (fun hHeld => ?_)
 ·(try dsimp only); (exact HJ.out _ X4.out)
 clear hK K; (try simp only [Act.put, List.setIfInBounds_toArray, List.set_cons_zero, List.set_cons_succ])
 (first | (refine draw_free (i := 22) (v := ?_) rfl ?_ ?_; rotate_left; (intro w; go_simp; try with_reducible rfl)) | (refine draw_out (i := 22) rfl ?_)); (try simp only [Act.put, List.setIfInBounds_toArray, List.set_cons_zero, List.set_cons_succ])
 (refine draw_free (i := 23) (v := ?_) rfl ?_ ?_; rotate_left; (intro w; go_simp; try with_reducible rfl)); (try simp only [Act.put, List.setIfInBounds_toArray, List.set_cons_zero, List.set_cons_succ])
 refine wpAnyD_done (by kernel_rfl) ?_ _
 clear hHeld c0 e1 e2
 obtain ⟨⟨la, lc, t0, -, -, hlev⟩, -, -⟩ := HT.out.ext X4.out
 obtain ⟨bl, ol, ela, hL⟩ := hlev 0 (by omega)
 subst ela
 obtain ⟨ka, kc, fa, fc, l0, -, -, -, -⟩ := hL.ex
 rw [Nat.zero_mul, Nat.add_zero] at l0
 generalize widthW W d 0 W.length = nk at l0
 have c0 := HJ.out w4 X4.out
 have hd0 : 0 < d := by omega
 clear hL hlev hf hto
 obtain ⟨w5, e5⟩ : ∃ w5, w4.alloc (.cells #[.int .i64 0, .int .i64 0] 249) = w5 := ⟨_, rfl⟩
 obtain ⟨g5, eg5⟩ : ∃ g, w4.heap.size = g := ⟨_, rfl⟩
 have hB5 : Blk w5 g5 [.int .i64 0, .int .i64 0] 249 := by rw [<- e5, <- eg5]; exact Blk.new w4 _ _
 have hx5 : Ext w4 w5 := by rw [<- e5]; exact (Kp.refl w4).alloc _
 have s0 : w5.cell? ⟨g5, 0, none⟩ = some (.int .i64 0) := by rw [hB5.cell']; rfl
 have s1 : w5.cell? ⟨g5, 1, none⟩ = some (.int .i64 0) := by rw [hB5.cell']; rfl
 have f0 := hB5.free 0
 have f1 := hB5.free 1
 obtain ⟨w6, e6⟩ : ∃ x, (w5.setCell ⟨g5, 0, none⟩ (.int .i64 0)).setCell ⟨g5, 1, none⟩ (.int .i64 nk) = x := ⟨_, rfl⟩
 have hB6 : Blk w6 g5 [.int .i64 0, .int .i64 nk] 249 := by rw [<- e6]; exact (hB5.set 0 _).set 1 _
 have hx6 : Ext w w6 := by
  rw [<- e6]
  have h1 := X4.out.size
  exact Kp.setCell (p := ⟨g5, 1, none⟩) (Kp.setCell (p := ⟨g5, 0, none⟩) (X4.out.trans hx5) (fun h2 => by have h3 : g5 < w.heap.size := h2; omega) _) (fun h2 => by have h3 : g5 < w.heap.size := h2; omega) _
 have H6 := Lib.hid (And.intro hx6 (And.intro hB6 (show w.heap.size ≤ g5 by have h1 := X4.out.size; omega)))
 clear hB5 hx5 hB6 hx6
 go_wp2_with fail
 refine (HL.out w6 H6.out.1).mono ?_
 rintro e w7 ⟨v, rfl, hk7, rfl⟩
 have H7 := Lib.hid (And.intro (H6.out.1.trans hk7) (H6.out.2.1.ext hk7))
 have hq2 := span_some g (m * 2)
 have HJ7 := Lib.hid (show ∀ w', Ext w7 w' -> (fun w' : World => w'.cell? ⟨cb, 0, none⟩ = some (.pointer (some ⟨tb, 0, none⟩)) /\ w'.cell? ⟨cb, 1, none⟩ = some (.slice (some ⟨g, 0, none⟩) (m + 1) c) /\ w'.cell? ⟨g, m * 2, none⟩ = some (.int .i64 a)) w' from fun w' hw' => by
  have hc := HC.out.ext (H7.out.1.trans hw')
  obtain ⟨z0, z1, -⟩ := hc.cells
  exact ⟨by rw [hc.at_.box.cell']; rfl, by rw [hc.at_.box.cell']; rfl, z0⟩)
 clear hk7 e5 e6 eg5 s0 s1 f0 f1 c0 t0 l0 hd0
 go_wp2
 refine draw_begin (fun w' : World => w'.cell? ⟨cb, 0, none⟩ = some (.pointer (some ⟨tb, 0, none⟩)) /\ w'.cell? ⟨cb, 1, none⟩ = some (.slice (some ⟨g, 0, none⟩) (m + 1) c) /\ w'.cell? ⟨g, m * 2, none⟩ = some (.int .i64 a)) [15] (by kernel_rfl) (HJ7.out _ (Kp.refl w7).drew) (fun hHeld => ?_)
 (refine draw_free (i := 0) (v := ?_) rfl ?_ ?_; rotate_left; (intro w; go_simp; try with_reducible rfl)); (try simp only [Act.put, List.setIfInBounds_toArray, List.set_cons_zero, List.set_cons_succ])
 (refine draw_free (i := 1) (v := ?_) rfl ?_ ?_; rotate_left; (intro w; go_simp; try with_reducible rfl)); (try simp only [Act.put, List.setIfInBounds_toArray, List.set_cons_zero, List.set_cons_succ])
 (refine draw_free (i := 2) (v := ?_) rfl ?_ ?_; rotate_left; (intro w; go_simp; try with_reducible rfl)); (try simp only [Act.put, List.setIfInBounds_toArray, List.set_cons_zero, List.set_cons_succ])
 (refine draw_in (i := 3) (v := ?_) rfl ?_ ?_; rotate_left; (intro w hSw; (try dsimp only at hSw); go_simp; try with_reducible rfl)); (try simp only [Act.put, List.setIfInBounds_toArray, List.set_cons_zero, List.set_cons_succ])
 (refine draw_free (i := 4) (v := ?_) rfl ?_ ?_; rotate_left; (intro w; go_simp; try with_reducible rfl)); (try simp only [Act.put, List.setIfInBounds_toArray, List.set_cons_zero, List.set_cons_succ])
 (refine draw_free (i := 5) (v := ?_) rfl ?_ ?_; rotate_left; (intro w; go_simp; try with_reducible rfl)); (try simp only [Act.put, List.setIfInBounds_toArray, List.set_cons_zero, List.set_cons_succ])
 (refine draw_free (i := 6) (v := ?_) rfl ?_ ?_; rotate_left; (intro w; go_simp; try with_reducible rfl)); (try simp only [Act.put, List.setIfInBounds_toArray, List.set_cons_zero, List.set_cons_succ])
 (refine draw_in (i := 7) (v := ?_) rfl ?_ ?_; rotate_left; (intro w hSw; (try dsimp only at hSw); go_simp; try with_reducible rfl)); (try simp only [Act.put, List.setIfInBounds_toArray, List.set_cons_zero, List.set_cons_succ])
 (refine draw_in (i := 8) (v := ?_) rfl ?_ ?_; rotate_left; (intro w hSw; (try dsimp only at hSw); go_simp; try with_reducible rfl)); (try simp only [Act.put, List.setIfInBounds_toArray, List.set_cons_zero, List.set_cons_succ])
 (refine draw_free (i := 9) (v := ?_) rfl ?_ ?_; rotate_left; (intro w; go_simp; try with_reducible rfl)); (try simp only [Act.put, List.setIfInBounds_toArray, List.set_cons_zero, List.set_cons_succ])
 (refine draw_free (i := 10) (v := ?_) rfl ?_ ?_; rotate_left; (intro w; go_simp; try with_reducible rfl)); (try simp only [Act.put, List.setIfInBounds_toArray, List.set_cons_zero, List.set_cons_succ])
 (refine draw_free (i := 11) (v := ?_) rfl ?_ ?_; rotate_left; (intro w; go_simp; try with_reducible rfl)); (try simp only [Act.put, List.setIfInBounds_toArray, List.set_cons_zero, List.set_cons_succ])
 (refine draw_free (i := 12) (v := ?_) rfl ?_ ?_; rotate_left; (intro w; go_simp; try with_reducible rfl)); (try simp only [Act.put, List.setIfInBounds_toArray, List.set_cons_zero, List.set_cons_succ])
 (refine draw_in (i := 13) (v := ?_) rfl ?_ ?_; rotate_left; (intro w hSw; (try dsimp only at hSw); go_simp; try with_reducible rfl)); (try simp only [Act.put, List.setIfInBounds_toArray, List.set_cons_zero, List.set_cons_succ])
 refine draw_one (i := 14) ?_
 refine comes_turn (i := 14) rfl (fun K hK => ?_)
 go_simp
 (refine (HBl.out _ (H7.out.1.trans ((Kp.refl w7).drew))).mono ?_; rintro e w8 ⟨v, rfl, hk8, rfl⟩; have X8 := Lib.hid (show Ext w7 w8 from ((Kp.refl w7).drew).trans hk8); have s0 : w8.cell? ⟨g5, 0, none⟩ = some (.int .i64 0) := (by rw [(H7.out.2.ext X8.out).cell']; rfl); have s1 : w8.cell? ⟨g5, 1, none⟩ = some (.int .i64 nk) := (by rw [(H7.out.2.ext X8.out).cell']; rfl); have f0 := (H7.out.2.ext X8.out).free 0; have f1 := (H7.out.2.ext X8.out).free 1; clear hk8)
 go_wp2_with fail
 refine hK.out _ _ ?_ (fun hHeld => ?_)
 ·(try dsimp only); (exact HJ7.out _ X8.out)
 clear hK K; (try simp only [Act.put, List.setIfInBounds_toArray, List.set_cons_zero, List.set_cons_succ])
 refine draw_one (i := 15) ?_
 refine comes_late (i := 15) rfl (by kernel_rfl) (fun K hK => ?_)
 go_simp
 refine hK.out _ _ ?_
 clear hK K; (try simp only [Act.put, List.setIfInBounds_toArray, List.set_cons_zero, List.set_cons_succ])
 refine wpAnyD_done (by kernel_rfl) ?_ _
 clear hHeld
 obtain ⟨w9, e9⟩ : ∃ x, (w8.setCell ⟨g5, 0, none⟩ (.int .i64 f)).setCell ⟨g5, 1, none⟩ (.int .i64 t) = x := ⟨_, rfl⟩
 rw [e9]
 have hB9 : Blk w9 g5 [.int .i64 f, .int .i64 t] 249 := by rw [<- e9]; exact ((H7.out.2.ext X8.out).set 0 _).set 1 _
 have hx9 : Ext w w9 := by
  rw [<- e9]
  have h1 := H6.out.2.2
  exact Kp.setCell (p := ⟨g5, 1, none⟩) (Kp.setCell (p := ⟨g5, 0, none⟩) (H7.out.1.trans X8.out) (fun h2 => by have h3 : g5 < w.heap.size := h2; omega) _) (fun h2 => by have h3 : g5 < w.heap.size := h2; omega) _
 have hc9 := HC.out.ext hx9
 have hl9 := hc9.len
 have hr9 := hc9.at_.row
 rw [hl9] at hr9
 have hmx := hc9.small
 have hap := hc9.at_.apart
 have HR9 := Lib.hid (And.intro hr9 (And.intro hap (And.intro hx9 (And.intro hl9 hB9))))
 have HJ9 := Lib.hid (show ∀ w', Ext w9 w' -> (fun w' : World => w'.cell? ⟨cb, 1, none⟩ = some (.slice (some ⟨g, 0, none⟩) (m + 1) c) /\ w'.cell? ⟨g5, 0, none⟩ = some (.int .i64 f) /\ w'.cell? ⟨g5, 1, none⟩ = some (.int .i64 t)) w' from fun w' hw' => by
  have hc := HC.out.ext (HR9.out.2.2.1.trans hw')
  have hb := HR9.out.2.2.2.2.ext hw'
  exact ⟨by rw [hc.at_.box.cell']; rfl, by rw [hb.cell']; rfl, by rw [hb.cell']; rfl⟩)
 have hcb := hc9.at_.box
 have HCB := Lib.hid hcb
 clear hB9 hx9 hc9 hl9 hr9 hap hcb e9 s0 s1 f0 f1
 go_wp2
 refine draw_begin (fun w' : World => w'.cell? ⟨cb, 1, none⟩ = some (.slice (some ⟨g, 0, none⟩) (m + 1) c) /\ w'.cell? ⟨g5, 0, none⟩ = some (.int .i64 f) /\ w'.cell? ⟨g5, 1, none⟩ = some (.int .i64 t)) [7, 8, 9, 10] (by kernel_rfl) (HJ9.out _ (Kp.refl w9).drew) (fun hHeld => ?_)
 (refine draw_free (i := 0) (v := ?_) rfl ?_ ?_; rotate_left; (intro w; go_simp; try with_reducible rfl)); (try simp only [Act.put, List.setIfInBounds_toArray, List.set_cons_zero, List.set_cons_succ])
 (refine draw_free (i := 1) (v := ?_) rfl ?_ ?_; rotate_left; (intro w; go_simp; try with_reducible rfl)); (try simp only [Act.put, List.setIfInBounds_toArray, List.set_cons_zero, List.set_cons_succ])
 (refine draw_free (i := 2) (v := ?_) rfl ?_ ?_; rotate_left; (intro w; go_simp; try with_reducible rfl)); (try simp only [Act.put, List.setIfInBounds_toArray, List.set_cons_zero, List.set_cons_succ])
 (refine draw_free (i := 3) (v := ?_) rfl ?_ ?_; rotate_left; (intro w; go_simp; try with_reducible rfl)); (try simp only [Act.put, List.setIfInBounds_toArray, List.set_cons_zero, List.set_cons_succ])
 (refine draw_in (i := 4) (v := ?_) rfl ?_ ?_; rotate_left; (intro w hSw; (try dsimp only at hSw); go_simp; try with_reducible rfl)); (try simp only [Act.put, List.setIfInBounds_toArray, List.set_cons_zero, List.set_cons_succ])
 (refine draw_in (i := 5) (v := ?_) rfl ?_ ?_; rotate_left; (intro w hSw; (try dsimp only at hSw); go_simp; try with_reducible rfl)); (try simp only [Act.put, List.setIfInBounds_toArray, List.set_cons_zero, List.set_cons_succ])
 refine draw_one (i := 6) ?_
 refine comes_turn (i := 6) rfl (fun K hK => ?_)
 go_simp
 refine hK.out _ _ ?_ (fun hHeld => ?_)
 ·(try dsimp only); (exact HJ9.out _ (by first | exact ((Kp.refl w9).alloc _).drew | exact (Kp.refl w9).drew.alloc _))
 clear hK K; (try simp only [Act.put, List.setIfInBounds_toArray, List.set_cons_zero, List.set_cons_succ])
 refine draw_one (i := 7) ?_
 refine comes_late (i := 7) rfl (by kernel_rfl) (fun K hK => ?_)
 refine drawApp (m := 1) (n := m + 1) elem_span rfl _ _ rfl rfl ((HR9.out.1.alloc _).drew) rfl ((CellsAt.two w9 (.int .i64 f) (.int .i64 t) 249).ext ((Kp.refl _).drew)) (by rfl) (by simp [Value.oneCell']) (by have := HT.out.dep; omega) (by have := HT.out.dep; unfold maxLen; omega) ?_; intro v10 w10 hr10 hk10; obtain ⟨g10, c10, e10, hM10⟩ := rowLies hr10 (by omega); subst e10; have HB10 := Lib.hid (show Blk w10 cb [.pointer (some ⟨tb, 0, none⟩), .slice (some ⟨g, 0, none⟩) (m + 1) c] 218 from ((HCB.out.alloc _).ext ((Kp.refl _).drew)).kp hk10 (fun h2 => HR9.out.2.1.1 (by have h3 : some g = some cb := h2; exact (Option.some.inj h3).symm))); have HR10 := Lib.hid (And.intro hr10 hk10); have y1 : w10.cell? ⟨cb, 1, none⟩ = some (.slice (some ⟨g, 0, none⟩) (m + 1) c) := (by rw [HB10.out.cell']; rfl); have yf := HB10.out.free 1; clear hr10 hk10 hM10
 refine hK.out _ _ ?_
 clear hK K; (try simp only [Act.put, List.setIfInBounds_toArray, List.set_cons_zero, List.set_cons_succ])
 refine draw_one (i := 8) ?_
 refine comes_late (i := 8) rfl (by kernel_rfl) (fun K hK => ?_)
 go_simp
 refine hK.out _ _ ?_
 clear hK K; (try simp only [Act.put, List.setIfInBounds_toArray, List.set_cons_zero, List.set_cons_succ])
 refine draw_one (i := 9) ?_
 refine comes_late (i := 9) rfl (by kernel_rfl) (fun K hK => ?_)
 go_simp
 refine hK.out _ _ ?_
 clear hK K; (try simp only [Act.put, List.setIfInBounds_toArray, List.set_cons_zero, List.set_cons_succ])
 refine draw_one (i := 10) ?_
 refine comes_late (i := 10) rfl (by kernel_rfl) (fun K hK => ?_)
 go_simp
 refine hK.out _ _ ?_
 clear hK K; (try simp only [Act.put, List.setIfInBounds_toArray, List.set_cons_zero, List.set_cons_succ])
 refine wpAnyD_done (by kernel_rfl) ?_ _
 clear hHeld y1 yf
 obtain ⟨w11, e11⟩ : ∃ x, w10.setCell ⟨cb, 1, none⟩ (.slice (some ⟨g10, 0, none⟩) (m + 1 + 1) c10) = x := ⟨_, rfl⟩
 rw [e11]
 have hks : Kp (fun k => k = cb) w10 w11 := by rw [<- e11]; exact Kp.setCell (F := fun k => k = cb) (p := ⟨cb, 1, none⟩) (Kp.refl w10) (fun _ => rfl) _
 have hbx : Blk w11 cb [.pointer (some ⟨tb, 0, none⟩), .slice (some ⟨g10, 0, none⟩) (m + 1 + 1) c10] 218 := by rw [<- e11]; exact HB10.out.set 1 _
 have hpool : ∀ k, ((Value.slice (some ⟨g, 0, none⟩) (m + 1) c).ownBlock = some k \/ (w9.alloc (.cells #[.int .i64 f, .int .i64 t] 249)).drew.heap.size ≤ k) -> k = g \/ w.heap.size ≤ k := fun k hk => by
  rcases hk with hk | hk
  ·have h3 : some g = some k := hk
   exact .inl (Option.some.inj h3).symm
  ·refine .inr ?_
   have h4 := HR9.out.2.2.1.size
   have h5 : (w9.alloc (.cells #[.int .i64 f, .int .i64 t] 249)).heap.size ≤ k := hk
   rw [alloc_size] at h5
   omega
 have hrw : Row w11 249 2 (.slice (some ⟨g10, 0, none⟩) (m + 1 + 1) c10) (st ++ [(f, t)]).length ((st ++ [(f, t)]).flatMap spanC) (fun k => k = g \/ w.heap.size ≤ k) := by
  have e1 : (st ++ [(f, t)]).length = m + 1 + 1 := by rw [List.length_append, HR9.out.2.2.2.1]; rfl
  have e2 : (st ++ [(f, t)]).flatMap spanC = st.flatMap spanC ++ [.int .i64 f, .int .i64 t] := by rw [List.flatMap_append]; rfl
  rw [e1, e2]
  refine (HR10.out.1.mono hpool).kp' hks fun g' hg _ e => ?_
  have h3 : some g10 = some g' := hg
  have h4 := Option.some.inj h3
  obtain ⟨cs, hb⟩ : ∃ cs, Blk w10 g10 cs 249 := by
   obtain ⟨_, ⟨e1, h0⟩ | ⟨g', cap, rest, e1, hM, hB, _⟩⟩ := HR10.out.1
   ·omega
   ·simp only [Value.slice.injEq, Option.some.injEq, Addr.mk.injEq, and_true] at e1
    obtain ⟨rfl, _⟩ := e1
    exact ⟨_, hB⟩
  rw [h4, e] at hb
  exact typ_cs (blkOne HB10.out hb)
 have hkF : Kp (fun k => k = cb \/ k = g) w w11 := by
  have h1 : Kp (fun k => k = cb \/ k = g) w w10 := (Ext.kp ((HR9.out.2.2.1.alloc (.cells #[.int .i64 f, .int .i64 t] 249)).drew)).trans' HR10.out.2 fun k _ hk => by
   have h3 : some g = some k := hk
   exact .inr (Option.some.inj h3).symm
  exact h1.trans' hks fun k _ hk => .inl hk
 have HFin := Lib.hid (And.intro hbx (And.intro hrw hkF))
 clear e11 hks hbx hpool hrw hkF
 go_wp2
 go_ret
 exact RetF.mk HFin.out.2.2 ⟨rfl, g10, c10, HFin.out.1, HFin.out.2.1⟩
end Go.Proofs.YtinnmeiphbdogaaGreat

/- Open of a cursor at the start. -/
namespace Go.Proofs.YtinnmeiphbdogaaGreat
open Go.RowKit Go.Shelf
set_option linter.unusedVariables false
theorem rowBlk {w : World} {e : TypeId} {k : Nat} {v : Value} {n : Nat} {xs : List Value} {M : Nat -> Prop} (h : Row w e k v n xs M) {g : Nat} (hg : v.ownBlock = some g) : ∃ cs, Blk w g cs e := by
 obtain ⟨_, ⟨e1, _⟩ | ⟨g', cap, rest, e1, hM, hB, _⟩⟩ := h
 ·rw [e1] at hg; cases hg
 ·rw [e1] at hg; cases hg; exact ⟨_, hB⟩
set_option maxHeartbeats 1000000 in
theorem atEnd_none {w : World} {cb tb : Nat} {ao : Option Addr} {c : Nat} {M : Nat -> Prop} (h : CurAt w cb tb [] (.slice ao 0 c) M) :
 Calls Tryz.prog 181 #[.pointer (some ⟨cb, 0, none⟩)] w (RetN w fun w' v => v = .bool false) := by
 have HL := Lib.hid (last_none h)
 clear h
 go_enter Tryz.func181, Tryz.ntmps181
 go_wp2_with fail
 refine HL.out.mono ?_
 rintro e w1 ⟨v, rfl, hk, rfl⟩
 have hq : ∀ w : World, (binOp .neq 250 (.pointer none) (.pointer none)).run Tryz.prog w = .ok (.bool false) w := fun _ => by kernel_rfl
 have HK := Lib.hid hk
 clear hk
 go_wp2
 go_quiet (fail)
 go_wp2
 go_ret
 exact RetN.mk (HK.out.drewN _) rfl
set_option maxRecDepth 100000 in
set_option maxHeartbeats 4000000 in
theorem open_nil {w : World} {cb tb : Nat} {ao : Option Addr} {c d : Nat} {W : Rows2} {M : Nat -> Prop} (h : CurAt w cb tb [] (.slice ao 0 c) M) (ht : TrieAt w tb W d) (hm : 0 < d) (hW : 0 < W.length) :
 Calls Tryz.prog 157 #[.pointer (some ⟨cb, 0, none⟩)] w (RetF (fun k => k = cb \/ (Value.slice ao 0 c).ownBlock = some k) w fun w' v => v = .bool true /\ ∃ g' c', CurAt w' cb tb [(0, widthW W d 0 W.length)] (.slice (some ⟨g', 0, none⟩) 1 c') (fun k => (Value.slice ao 0 c).ownBlock = some k \/ w.heap.size ≤ k)) := by
 have HE := Lib.hid (fun (W : World) (hW : Ext w W) => atEnd_none (h.ext hW))
 have HA := Lib.hid (fun (W : World) (hW : Ext w W) => at_any (h.ext hW))
 have HD := Lib.hid (fun (W' : World) (hW : Ext w W') => depth_any (ht.ext hW))
 have HLn := Lib.hid (fun (W' : World) (hW : Ext w W') => len_any (ht.ext hW))
 have hq := cur_some cb
 have HJ := Lib.hid (show ∀ w', Ext w w' -> (fun w' : World => w'.cell? ⟨cb, 0, none⟩ = some (.pointer (some ⟨tb, 0, none⟩))) w' from fun w' hw' => by
  show w'.cell? ⟨cb, 0, none⟩ = some (.pointer (some ⟨tb, 0, none⟩))
  rw [(h.box.ext hw').cell']; rfl)
 have HC := Lib.hid h
 have HL := Lib.hid (fun (W : World) (hW : Ext w W) => last_none (h.ext hW))
 have HT := Lib.hid ht
 have c0 := HJ.out w (Kp.refl _)
 have e1 : ((0 : Int) == (d : Int)) = false := by
  have : ¬ (0 : Int) = d := by omega
  simp [this]
 obtain ⟨nw, enw⟩ : ∃ n, W.length = n := ⟨_, rfl⟩
 have e2 : ((nw : Int) == 0) = false := by
  have hz : ¬ (nw : Int) = 0 := by omega
  have hz2 : ¬ nw = 0 := by omega
  simp [hz2]
 rw [enw] at HLn
 clear h
 go_enter Tryz.func157, Tryz.ntmps157
 go_wp2
 refine draw_begin (fun w' : World => w'.cell? ⟨cb, 0, none⟩ = some (.pointer (some ⟨tb, 0, none⟩))) [] (by kernel_rfl) (HJ.out _ (Kp.refl w).drew) (fun hHeld => ?_)
 (refine draw_free (i := 0) (v := ?_) rfl ?_ ?_; rotate_left; (intro w; go_simp; try with_reducible rfl)); (try simp only [Act.put, List.setIfInBounds_toArray, List.set_cons_zero, List.set_cons_succ])
 (refine draw_free (i := 1) (v := ?_) rfl ?_ ?_; rotate_left; (intro w; go_simp; try with_reducible rfl)); (try simp only [Act.put, List.setIfInBounds_toArray, List.set_cons_zero, List.set_cons_succ])
 (refine draw_free (i := 2) (v := ?_) rfl ?_ ?_; rotate_left; (intro w; go_simp; try with_reducible rfl)); (try simp only [Act.put, List.setIfInBounds_toArray, List.set_cons_zero, List.set_cons_succ])
 (first | (refine draw_free (i := 3) (v := ?_) rfl ?_ ?_; rotate_left; (intro w; go_simp; try with_reducible rfl)) | (refine draw_out (i := 3) rfl ?_)); (try simp only [Act.put, List.setIfInBounds_toArray, List.set_cons_zero, List.set_cons_succ])
 refine draw_one (i := 4) ?_
 refine comes_turn (i := 4) rfl (fun K hK => ?_)
 go_simp
 (refine (HE.out _ (Kp.refl w).drew).mono ?_; rintro e w1 ⟨v, rfl, hk1, rfl⟩; have X1 := Lib.hid (show Ext w w1 from ((Kp.refl w).drew).trans hk1); clear hk1)
 go_wp2_with fail
 refine hK.out _ _ ?_ (fun hHeld => ?_)
 ·(try dsimp only); (exact HJ.out _ X1.out)
 clear hK K; (try simp only [Act.put, List.setIfInBounds_toArray, List.set_cons_zero, List.set_cons_succ])
 (refine draw_free (i := 5) (v := ?_) rfl ?_ ?_; rotate_left; (intro w; go_simp; try with_reducible rfl)); (try simp only [Act.put, List.setIfInBounds_toArray, List.set_cons_zero, List.set_cons_succ])
 (refine draw_free (i := 6) (v := ?_) rfl ?_ ?_; rotate_left; (intro w; go_simp; try with_reducible rfl)); (try simp only [Act.put, List.setIfInBounds_toArray, List.set_cons_zero, List.set_cons_succ])
 (first | (refine draw_free (i := 7) (v := ?_) rfl ?_ ?_; rotate_left; (intro w; go_simp; try with_reducible rfl)) | (refine draw_out (i := 7) rfl ?_)); (try simp only [Act.put, List.setIfInBounds_toArray, List.set_cons_zero, List.set_cons_succ])
 (first | (refine draw_free (i := 9) (v := ?_) rfl ?_ ?_; rotate_left; (intro w; go_simp; try with_reducible rfl)) | (refine draw_out (i := 9) rfl ?_)); (try simp only [Act.put, List.setIfInBounds_toArray, List.set_cons_zero, List.set_cons_succ])
 (first | (refine draw_free (i := 10) (v := ?_) rfl ?_ ?_; rotate_left; (intro w; go_simp; try with_reducible rfl)) | (refine draw_out (i := 10) rfl ?_)); (try simp only [Act.put, List.setIfInBounds_toArray, List.set_cons_zero, List.set_cons_succ])
 (first | (refine draw_free (i := 11) (v := ?_) rfl ?_ ?_; rotate_left; (intro w; go_simp; try with_reducible rfl)) | (refine draw_out (i := 11) rfl ?_)); (try simp only [Act.put, List.setIfInBounds_toArray, List.set_cons_zero, List.set_cons_succ])
 (first | (refine draw_in (i := 12) (v := ?_) rfl ?_ ?_; rotate_left; (intro w hSw; (try dsimp only at hSw); go_simp; try with_reducible rfl)) | (refine draw_out (i := 12) rfl ?_)); (try simp only [Act.put, List.setIfInBounds_toArray, List.set_cons_zero, List.set_cons_succ])
 refine draw_one (i := 8) ?_
 refine comes_turn (i := 8) rfl (fun K hK => ?_)
 go_simp
 (refine (HA.out _ X1.out).mono ?_; rintro e w2 ⟨v, rfl, hk2, rfl⟩; have X2 := Lib.hid (show Ext w w2 from X1.out.trans hk2); clear hk2)
 go_wp2_with fail
 refine hK.out _ _ ?_ (fun hHeld => ?_)
 ·(try dsimp only); (exact HJ.out _ X2.out)
 clear hK K; (try simp only [Act.put, List.setIfInBounds_toArray, List.set_cons_zero, List.set_cons_succ])
 refine draw_one (i := 13) ?_
 refine comes_turn (i := 13) rfl (fun K hK => ?_)
 go_simp
 (refine (HD.out _ X2.out).mono ?_; rintro e w3 ⟨v, rfl, hk3, rfl⟩; have X3 := Lib.hid (show Ext w w3 from X2.out.trans hk3); clear hk3)
 go_wp2_with fail
 refine hK.out _ _ ?_ (fun hHeld => ?_)
 ·(try dsimp only); (exact HJ.out _ X3.out)
 clear hK K; (try simp only [Act.put, List.setIfInBounds_toArray, List.set_cons_zero, List.set_cons_succ])
 (first | (refine draw_free (i := 14) (v := ?_) rfl ?_ ?_; rotate_left; (intro w; go_simp; try with_reducible rfl)) | (refine draw_out (i := 14) rfl ?_)); (try simp only [Act.put, List.setIfInBounds_toArray, List.set_cons_zero, List.set_cons_succ])
 (refine draw_free (i := 15) (v := ?_) rfl ?_ ?_; rotate_left; (intro w; go_simp; try with_reducible rfl)); (try simp only [Act.put, List.setIfInBounds_toArray, List.set_cons_zero, List.set_cons_succ])
 (refine draw_free (i := 16) (v := ?_) rfl ?_ ?_; rotate_left; (intro w; go_simp; try with_reducible rfl)); (try simp only [Act.put, List.setIfInBounds_toArray, List.set_cons_zero, List.set_cons_succ])
 (first | (refine draw_free (i := 17) (v := ?_) rfl ?_ ?_; rotate_left; (intro w; go_simp; try with_reducible rfl)) | (refine draw_out (i := 17) rfl ?_)); (try simp only [Act.put, List.setIfInBounds_toArray, List.set_cons_zero, List.set_cons_succ])
 (first | (refine draw_free (i := 18) (v := ?_) rfl ?_ ?_; rotate_left; (intro w; go_simp; try with_reducible rfl)) | (refine draw_out (i := 18) rfl ?_)); (try simp only [Act.put, List.setIfInBounds_toArray, List.set_cons_zero, List.set_cons_succ])
 (first | (refine draw_free (i := 19) (v := ?_) rfl ?_ ?_; rotate_left; (intro w; go_simp; try with_reducible rfl)) | (refine draw_out (i := 19) rfl ?_)); (try simp only [Act.put, List.setIfInBounds_toArray, List.set_cons_zero, List.set_cons_succ])
 (first | (refine draw_in (i := 20) (v := ?_) rfl ?_ ?_; rotate_left; (intro w hSw; (try dsimp only at hSw); go_simp; try with_reducible rfl)) | (refine draw_out (i := 20) rfl ?_)); (try simp only [Act.put, List.setIfInBounds_toArray, List.set_cons_zero, List.set_cons_succ])
 refine draw_one (i := 21) ?_
 refine comes_turn (i := 21) rfl (fun K hK => ?_)
 go_simp
 (refine (HLn.out _ X3.out).mono ?_; rintro e w4 ⟨v, rfl, hk4, rfl⟩; have X4 := Lib.hid (show Ext w w4 from X3.out.trans hk4); clear hk4)
 go_wp2_with fail
 refine hK.out _ _ ?_ (fun hHeld => ?_)
 ·(try dsimp only); (exact HJ.out _ X4.out)
 clear hK K; (try simp only [Act.put, List.setIfInBounds_toArray, List.set_cons_zero, List.set_cons_succ])
 (first | (refine draw_free (i := 22) (v := ?_) rfl ?_ ?_; rotate_left; (intro w; go_simp; try with_reducible rfl)) | (refine draw_out (i := 22) rfl ?_)); (try simp only [Act.put, List.setIfInBounds_toArray, List.set_cons_zero, List.set_cons_succ])
 (refine draw_free (i := 23) (v := ?_) rfl ?_ ?_; rotate_left; (intro w; go_simp; try with_reducible rfl)); (try simp only [Act.put, List.setIfInBounds_toArray, List.set_cons_zero, List.set_cons_succ])
 refine wpAnyD_done (by kernel_rfl) ?_ _
 clear hHeld c0 e1 e2
 obtain ⟨⟨la, lc, t0, -, -, hlev⟩, -, -⟩ := HT.out.ext X4.out
 obtain ⟨bl, ol, ela, hL⟩ := hlev 0 (by omega)
 subst ela
 obtain ⟨ka, kc, fa, fc, l0, -, -, -, -⟩ := hL.ex
 rw [Nat.zero_mul, Nat.add_zero] at l0
 obtain ⟨nk, enk⟩ : ∃ n, widthW W d 0 W.length = n := ⟨_, rfl⟩
 rw [enk] at l0
 have HNk := Lib.hid enk
 clear enk
 have c0 := HJ.out w4 X4.out
 have hd0 : 0 < d := by omega
 clear hL hlev
 obtain ⟨w5, e5⟩ : ∃ w5, w4.alloc (.cells #[.int .i64 0, .int .i64 0] 249) = w5 := ⟨_, rfl⟩
 obtain ⟨g5, eg5⟩ : ∃ g, w4.heap.size = g := ⟨_, rfl⟩
 have hB5 : Blk w5 g5 [.int .i64 0, .int .i64 0] 249 := by rw [<- e5, <- eg5]; exact Blk.new w4 _ _
 have hx5 : Ext w4 w5 := by rw [<- e5]; exact (Kp.refl w4).alloc _
 have s0 : w5.cell? ⟨g5, 0, none⟩ = some (.int .i64 0) := by rw [hB5.cell']; rfl
 have s1 : w5.cell? ⟨g5, 1, none⟩ = some (.int .i64 0) := by rw [hB5.cell']; rfl
 have f0 := hB5.free 0
 have f1 := hB5.free 1
 obtain ⟨w6, e6⟩ : ∃ x, (w5.setCell ⟨g5, 0, none⟩ (.int .i64 0)).setCell ⟨g5, 1, none⟩ (.int .i64 nk) = x := ⟨_, rfl⟩
 have hB6 : Blk w6 g5 [.int .i64 0, .int .i64 nk] 249 := by rw [<- e6]; exact (hB5.set 0 _).set 1 _
 have hx6 : Ext w w6 := by
  rw [<- e6]
  have h1 := X4.out.size
  exact Kp.setCell (p := ⟨g5, 1, none⟩) (Kp.setCell (p := ⟨g5, 0, none⟩) (X4.out.trans hx5) (fun h2 => by have h3 : g5 < w.heap.size := h2; omega) _) (fun h2 => by have h3 : g5 < w.heap.size := h2; omega) _
 have H6 := Lib.hid (And.intro hx6 (And.intro hB6 (show w.heap.size ≤ g5 by have h1 := X4.out.size; omega)))
 clear hB5 hx5 hB6 hx6
 go_wp2_with fail
 refine (HL.out w6 H6.out.1).mono ?_
 rintro e w7 ⟨v, rfl, hk7, rfl⟩
 have H7 := Lib.hid (And.intro (H6.out.1.trans hk7) (H6.out.2.1.ext hk7))
 have hq2 : ∀ w : World, (binOp .neq 250 (.pointer none) (.pointer none)).run Tryz.prog w = .ok (.bool false) w := fun _ => by kernel_rfl
 clear hk7 e5 e6 eg5 s0 s1 f0 f1 c0 t0 l0 hd0
 obtain ⟨w9, e9⟩ : ∃ x, x = w7 := ⟨_, rfl⟩
 subst e9
 have hB9 := H7.out.2
 have hx9 := H7.out.1
 have hc9 := HC.out.ext hx9
 have hr9 := hc9.row
 have hap : ∀ k, (Value.slice ao 0 c).ownBlock = some k -> k ≠ cb := fun k hk e => by
  subst e
  obtain ⟨cs, hb⟩ := rowBlk hc9.row hk
  exact typ_cs (blkOne hc9.box hb)
 have HR9 := Lib.hid (And.intro hr9 (And.intro hap (And.intro hx9 hB9)))
 have HJ9 := Lib.hid (show ∀ w', Ext w9 w' -> (fun w' : World => w'.cell? ⟨cb, 1, none⟩ = some (.slice ao 0 c) /\ w'.cell? ⟨g5, 0, none⟩ = some (.int .i64 0) /\ w'.cell? ⟨g5, 1, none⟩ = some (.int .i64 nk)) w' from fun w' hw' => by
  have hc := HC.out.ext (HR9.out.2.2.1.trans hw')
  have hb := HR9.out.2.2.2.ext hw'
  exact ⟨by rw [hc.box.cell']; rfl, by rw [hb.cell']; rfl, by rw [hb.cell']; rfl⟩)
 have hcb := hc9.box
 have HCB := Lib.hid hcb
 clear hB9 hx9 hc9 hr9 hap hcb
 go_wp2
 refine draw_begin (fun w' : World => w'.cell? ⟨cb, 1, none⟩ = some (.slice ao 0 c) /\ w'.cell? ⟨g5, 0, none⟩ = some (.int .i64 0) /\ w'.cell? ⟨g5, 1, none⟩ = some (.int .i64 nk)) [7, 8, 9, 10] (by kernel_rfl) (HJ9.out _ (Kp.refl w9).drew) (fun hHeld => ?_)
 (refine draw_free (i := 0) (v := ?_) rfl ?_ ?_; rotate_left; (intro w; go_simp; try with_reducible rfl)); (try simp only [Act.put, List.setIfInBounds_toArray, List.set_cons_zero, List.set_cons_succ])
 (refine draw_free (i := 1) (v := ?_) rfl ?_ ?_; rotate_left; (intro w; go_simp; try with_reducible rfl)); (try simp only [Act.put, List.setIfInBounds_toArray, List.set_cons_zero, List.set_cons_succ])
 (refine draw_free (i := 2) (v := ?_) rfl ?_ ?_; rotate_left; (intro w; go_simp; try with_reducible rfl)); (try simp only [Act.put, List.setIfInBounds_toArray, List.set_cons_zero, List.set_cons_succ])
 (refine draw_free (i := 3) (v := ?_) rfl ?_ ?_; rotate_left; (intro w; go_simp; try with_reducible rfl)); (try simp only [Act.put, List.setIfInBounds_toArray, List.set_cons_zero, List.set_cons_succ])
 (refine draw_in (i := 4) (v := ?_) rfl ?_ ?_; rotate_left; (intro w hSw; (try dsimp only at hSw); go_simp; try with_reducible rfl)); (try simp only [Act.put, List.setIfInBounds_toArray, List.set_cons_zero, List.set_cons_succ])
 (refine draw_in (i := 5) (v := ?_) rfl ?_ ?_; rotate_left; (intro w hSw; (try dsimp only at hSw); go_simp; try with_reducible rfl)); (try simp only [Act.put, List.setIfInBounds_toArray, List.set_cons_zero, List.set_cons_succ])
 refine draw_one (i := 6) ?_
 refine comes_turn (i := 6) rfl (fun K hK => ?_)
 go_simp
 refine hK.out _ _ ?_ (fun hHeld => ?_)
 ·(try dsimp only); (exact HJ9.out _ (by first | exact ((Kp.refl w9).alloc _).drew | exact (Kp.refl w9).drew.alloc _))
 clear hK K; (try simp only [Act.put, List.setIfInBounds_toArray, List.set_cons_zero, List.set_cons_succ])
 refine draw_one (i := 7) ?_
 refine comes_late (i := 7) rfl (by kernel_rfl) (fun K hK => ?_)
 refine drawApp (m := 1) (n := 0) elem_span rfl _ _ rfl rfl ((HR9.out.1.alloc _).drew) rfl ((CellsAt.two w9 (.int .i64 0) (.int .i64 nk) 249).ext ((Kp.refl _).drew)) (by rfl) (by simp [Value.oneCell']) (by have := HT.out.dep; omega) (by have := HT.out.dep; unfold maxLen; omega) ?_; intro v10 w10 hr10 hk10; obtain ⟨g10, c10, e10, hM10⟩ := rowLies hr10 (by omega); subst e10; have HB10 := Lib.hid (show Blk w10 cb [.pointer (some ⟨tb, 0, none⟩), .slice ao 0 c] 218 from ((HCB.out.alloc _).ext ((Kp.refl _).drew)).kp hk10 (fun h2 => HR9.out.2.1 cb h2 rfl)); have HR10 := Lib.hid (And.intro hr10 hk10); have y1 : w10.cell? ⟨cb, 1, none⟩ = some (.slice ao 0 c) := (by rw [HB10.out.cell']; rfl); have yf := HB10.out.free 1; clear hr10 hk10 hM10
 refine hK.out _ _ ?_
 clear hK K; (try simp only [Act.put, List.setIfInBounds_toArray, List.set_cons_zero, List.set_cons_succ])
 refine draw_one (i := 8) ?_
 refine comes_late (i := 8) rfl (by kernel_rfl) (fun K hK => ?_)
 go_simp
 refine hK.out _ _ ?_
 clear hK K; (try simp only [Act.put, List.setIfInBounds_toArray, List.set_cons_zero, List.set_cons_succ])
 refine draw_one (i := 9) ?_
 refine comes_late (i := 9) rfl (by kernel_rfl) (fun K hK => ?_)
 go_simp
 refine hK.out _ _ ?_
 clear hK K; (try simp only [Act.put, List.setIfInBounds_toArray, List.set_cons_zero, List.set_cons_succ])
 refine draw_one (i := 10) ?_
 refine comes_late (i := 10) rfl (by kernel_rfl) (fun K hK => ?_)
 go_simp
 refine hK.out _ _ ?_
 clear hK K; (try simp only [Act.put, List.setIfInBounds_toArray, List.set_cons_zero, List.set_cons_succ])
 refine wpAnyD_done (by kernel_rfl) ?_ _
 clear hHeld y1 yf
 obtain ⟨w11, e11⟩ : ∃ x, w10.setCell ⟨cb, 1, none⟩ (.slice (some ⟨g10, 0, none⟩) (0 + 1) c10) = x := ⟨_, rfl⟩
 rw [e11]
 have hks : Kp (fun k => k = cb) w10 w11 := by rw [<- e11]; exact Kp.setCell (F := fun k => k = cb) (p := ⟨cb, 1, none⟩) (Kp.refl w10) (fun _ => rfl) _
 have hbx : Blk w11 cb [.pointer (some ⟨tb, 0, none⟩), .slice (some ⟨g10, 0, none⟩) (0 + 1) c10] 218 := by rw [<- e11]; exact HB10.out.set 1 _
 have hpool : ∀ k, ((Value.slice ao 0 c).ownBlock = some k \/ (w9.alloc (.cells #[.int .i64 0, .int .i64 nk] 249)).drew.heap.size ≤ k) -> (Value.slice ao 0 c).ownBlock = some k \/ w.heap.size ≤ k := fun k hk => by
  rcases hk with hk | hk
  ·exact .inl hk
  ·refine .inr ?_
   have h4 := HR9.out.2.2.1.size
   have h5 : (w9.alloc (.cells #[.int .i64 0, .int .i64 nk] 249)).heap.size ≤ k := hk
   rw [alloc_size] at h5
   omega
 have hrw : Row w11 249 2 (.slice (some ⟨g10, 0, none⟩) (0 + 1) c10) [(0, nk)].length ([(0, nk)].flatMap spanC) (fun k => (Value.slice ao 0 c).ownBlock = some k \/ w.heap.size ≤ k) := by
  refine Row.kp' (HR10.out.1.mono hpool) hks fun g' hg _ e => ?_
  have h3 : some g10 = some g' := hg
  have h4 := Option.some.inj h3
  obtain ⟨cs, hb⟩ : ∃ cs, Blk w10 g10 cs 249 := by
   obtain ⟨_, ⟨e1, h0⟩ | ⟨g', cap, rest, e1, hM, hB, _⟩⟩ := HR10.out.1
   ·omega
   ·simp only [Value.slice.injEq, Option.some.injEq, Addr.mk.injEq, and_true] at e1
    obtain ⟨rfl, _⟩ := e1
    exact ⟨_, hB⟩
  rw [h4, e] at hb
  exact typ_cs (blkOne HB10.out hb)
 have hkF : Kp (fun k => k = cb \/ (Value.slice ao 0 c).ownBlock = some k) w w11 := by
  have h1 : Kp (fun k => k = cb \/ (Value.slice ao 0 c).ownBlock = some k) w w10 := (Ext.kp ((HR9.out.2.2.1.alloc (.cells #[.int .i64 0, .int .i64 nk] 249)).drew)).trans' HR10.out.2 fun k _ hk => .inr hk
  exact h1.trans' hks fun k _ hk => .inl hk
 have HFin := Lib.hid (And.intro hbx (And.intro hrw hkF))
 clear e11 hks hbx hpool hrw hkF
 go_wp2
 go_ret
 exact RetF.mk HFin.out.2.2 ⟨rfl, g10, c10, HFin.out.1, by rw [HNk.out]; exact HFin.out.2.1⟩
end Go.Proofs.YtinnmeiphbdogaaGreat

/- Cursors, each step as one contract. -/
namespace Go.Proofs.YtinnmeiphbdogaaGreat
open Go.RowKit Go.Shelf
set_option linter.unusedVariables false
abbrev CurS (w : World) (cb tb : Nat) (st : List (Nat × Nat)) (ov : Value) : Prop := CurAt w cb tb st ov (fun k => ov.ownBlock = some k)
def FootC (cb : Nat) (ov : Value) : Nat -> Prop := fun k => k = cb \/ ov.ownBlock = some k
theorem Row.ownB {w : World} {e : TypeId} {k n : Nat} {v : Value} {xs : List Value} {M : Nat -> Prop} (h : Row w e k v n xs M) : Row w e k v n xs (fun g => v.ownBlock = some g) := by
 obtain ⟨h1, h2 | ⟨g, cap, rest, rfl, b, c⟩⟩ := h
 ·exact ⟨h1, .inl h2⟩
 ·exact ⟨h1, .inr ⟨g, cap, rest, rfl, rfl, c⟩⟩
theorem CurAt.own {w : World} {cb tb : Nat} {st : List (Nat × Nat)} {ov : Value} {M : Nat -> Prop} (h : CurAt w cb tb st ov M) : CurS w cb tb st ov := ⟨h.box, h.row.ownB⟩
theorem CurAt.kp {F : Nat -> Prop} {w w' : World} {cb tb : Nat} {st : List (Nat × Nat)} {ov : Value} {M : Nat -> Prop} (h : CurAt w cb tb st ov M) (hk : Kp F w w') (hf : ∀ k, FootC cb ov k -> ¬ F k) : CurAt w' cb tb st ov M :=
 ⟨h.box.kp hk (hf _ (.inl rfl)), h.row.kp' hk fun g hg _ => hf g (.inr hg)⟩
theorem CurAt.foot {w : World} {cb tb : Nat} {st : List (Nat × Nat)} {ov : Value} {M : Nat -> Prop} (h : CurAt w cb tb st ov M) : ∀ k, FootC cb ov k -> k < w.heap.size := fun k hk => by
 rcases hk with rfl | hk
 ·exact h.box.lt
 ·obtain ⟨cs, hb⟩ := rowBlk h.row hk
  exact hb.lt
theorem CurS.inn {w : World} {cb tb a b : Nat} {st : List (Nat × Nat)} {ov : Value} (h : CurS w cb tb (st ++ [(a, b)]) ov) : ∃ g c, ov = .slice (some ⟨g, 0, none⟩) (st.length + 1) c /\ CurIn w cb tb (st ++ [(a, b)]) g c st.length a b (fun k => ov.ownBlock = some k) := by
 obtain ⟨g, c, e, _⟩ := rowLies h.row (by simp)
 have el : (st ++ [(a, b)]).length = st.length + 1 := by simp
 rw [el] at e
 subst e
 exact ⟨g, c, rfl, h, by simp⟩
theorem CurIn.outS {w : World} {cb tb g c m a b : Nat} {st : List (Nat × Nat)} {M : Nat -> Prop} (h : CurIn w cb tb st g c m a b M) : CurS w cb tb st (.slice (some ⟨g, 0, none⟩) (m + 1) c) := h.at_.own
section
variable {w : World} {cb tb a b d : Nat} {st : List (Nat × Nat)} {ov : Value} {W : Rows2}
theorem endS_any (h : CurS w cb tb (st ++ [(a, b)]) ov) : Calls Tryz.prog 181 #[.pointer (some ⟨cb, 0, none⟩)] w (RetN w fun w' v => v = .bool (decide (a = b))) := by
 obtain ⟨g, c, rfl, hi⟩ := h.inn
 exact atEnd_any hi
theorem keyS_any {x : ByteArray} (h : CurS w cb tb (st ++ [(a, b)]) ov) (ht : TrieAt w tb W d) (hm : st.length < d) (hab : a ≠ b) (hx : (keysW W d st.length W.length)[a]? = some x) :
 Calls Tryz.prog 187 #[.pointer (some ⟨cb, 0, none⟩)] w (RetN w fun w' v => v = .string x) := by
 obtain ⟨g, c, rfl, hi⟩ := h.inn
 exact key_any hi ht hm hab hx
theorem set_last (st : List (Nat × Nat)) (x y : Nat × Nat) : (st ++ [x]).set st.length y = st ++ [y] := by
 rw [List.set_append_right _ _ (Nat.le_refl _), Nat.sub_self]; rfl
theorem seekS_any (t : ByteArray) (h : CurS w cb tb (st ++ [(a, b)]) ov) (ht : TrieAt w tb W d) (hm : st.length < d) (hab : a < b) (hb : b ≤ widthW W d st.length W.length) :
 Calls Tryz.prog 188 #[.pointer (some ⟨cb, 0, none⟩), .string t] w (RetF (FootC cb ov) w fun w' v => ∃ p : Nat, FirstAt (keysW W d st.length W.length) t a b p /\ v = .bool (decide (p ≠ b)) /\ CurS w' cb tb (st ++ [(p, b)]) ov) := by
 obtain ⟨g, c, rfl, hi⟩ := h.inn
 refine (cseek_any t hi ht hm hab hb).mono ?_
 rintro e w' ⟨v, rfl, hk, p, h1, rfl, h2⟩
 rw [set_last] at h2
 exact RetF.mk (hk.mono fun k _ e => .inr (by rw [e]; rfl)) ⟨p, h1, rfl, h2.outS⟩
theorem nextS_any (h : CurS w cb tb (st ++ [(a, b)]) ov) (hab : a < b) (hb : b ≤ 1048576) :
 Calls Tryz.prog 189 #[.pointer (some ⟨cb, 0, none⟩)] w (RetF (FootC cb ov) w fun w' v => v = .bool (decide (a + 1 ≠ b)) /\ CurS w' cb tb (st ++ [(a + 1, b)]) ov) := by
 obtain ⟨g, c, rfl, hi⟩ := h.inn
 refine (next_any hi hab hb).mono ?_
 rintro e w' ⟨v, rfl, hk, rfl, h2⟩
 rw [set_last] at h2
 exact RetF.mk (hk.mono fun k _ e => .inr (by rw [e]; rfl)) ⟨rfl, h2.outS⟩
theorem upS_any (h : CurS w cb tb (st ++ [(a, b)]) ov) :
 Calls Tryz.prog 159 #[.pointer (some ⟨cb, 0, none⟩)] w (RetF (FootC cb ov) w fun w' v => v = .bool true /\ ∃ ov', ov'.ownBlock = ov.ownBlock /\ CurS w' cb tb st ov') := by
 obtain ⟨g, c, rfl, hi⟩ := h.inn
 refine (up_any hi).mono ?_
 rintro e w' ⟨v, rfl, hk, rfl, h2⟩
 rw [List.take_left] at h2
 exact RetF.mk (hk.mono fun k _ e => .inl e) ⟨rfl, .slice (some ⟨g, 0, none⟩) st.length c, rfl, h2.own⟩
theorem openS_any {q : List ByteArray} (h : CurS w cb tb st ov) (ht : TrieAt w tb W d) (hW : WaysOk W d) (hne : 0 < W.length) (hp : PathOk W d q st) (hq : q.length < d) :
 Calls Tryz.prog 157 #[.pointer (some ⟨cb, 0, none⟩)] w (RetF (FootC cb ov) w fun w' v => v = .bool true /\ ∃ ov' f t, CurS w' cb tb (st ++ [(f, t)]) ov' /\ SpanOf W d q f t /\ f < t /\ ∀ k, ov'.ownBlock = some k -> ov.ownBlock = some k \/ w.heap.size ≤ k) := by
 obtain ⟨f, t, hs, hft, h1 | ⟨m, e, hqm, he, h1, h2⟩⟩ := hp.open hW hne hq
 ·obtain ⟨rfl, rfl, rfl⟩ := h1
  have est : st = [] := List.eq_nil_of_length_eq_zero (by rw [hp.len]; rfl)
  subst est
  obtain ⟨ao, cap, rfl, _⟩ := rowCap h.row
  refine (open_nil h ht hq hne).mono ?_
  rintro e w' ⟨v, rfl, hk, rfl, g', c', h2⟩
  refine RetF.mk (hk.mono fun k _ e => e) ⟨rfl, _, 0, _, h2.own, hs, hft, fun k hk' => ?_⟩
  exact h2.row.block k hk'
 ·obtain ⟨a', x, p1, p2, p3, p4, p5⟩ := hp.at_ m e he
  obtain ⟨g, c, e1, hM⟩ := rowLies h.row (by rw [hp.len]; omega)
  rw [hp.len, hqm] at e1
  subst e1
  refine (open_any (a := e.1) (b := e.2) ⟨h, he⟩ ht (by omega) (by omega) hne h1 h2).mono ?_
  rintro e' w' ⟨v, rfl, hk, rfl, g', c', h3⟩
  refine RetF.mk (hk.mono fun k _ e => by rcases e with e | e; exact .inl e; exact .inr (by rw [e]; rfl)) ⟨rfl, _, f, t, h3.own, hs, hft, fun k hk' => ?_⟩
  rcases h3.row.block k hk' with h4 | h4
  ·exact .inl (by rw [h4]; rfl)
  ·exact .inr h4
end
end Go.Proofs.YtinnmeiphbdogaaGreat

/- The program's tests of a row: passes. -/
namespace Go.Proofs.YtinnmeiphbdogaaGreat
open Go.RowKit Go.Shelf
set_option linter.unusedVariables false
structure TestZ where
 fn : Nat
 cap : Array Value
 last : Int
 ask : List ByteArray -> Bool
def TestZ.val (t : TestZ) : Value := .func (Fn.func t.fn) #[] t.cap
def testC (t : TestZ) : List Value := [.int .i64 t.last, t.val]
structure TestOk (w : World) (nv : Nat) (t : TestZ) : Prop where
 ent : ∀ args w, (callFunc t.fn args).run Tryz.prog w = .ok (Next.enter t.fn args) w
 tells : ∀ W, Ext w W -> ∀ (ra : Option Addr) (cp : Nat) (V : List ByteArray), V.length = nv -> CellsAt W ra (strs V) -> Calls Tryz.prog t.fn (#[.slice ra nv cp] ++ t.cap) W (RetN W fun w' v => v = .bool (t.ask V))
theorem TestOk.ext {w w' : World} {nv : Nat} {t : TestZ} (h : TestOk w nv t) (hk : Ext w w') : TestOk w' nv t := ⟨h.ent, fun W hW => h.tells W (hk.trans hW)⟩
theorem two_get {α : Type} (f : α -> List Value) (hf : ∀ x, (f x).length = 2) : ∀ (l : List α) {m : Nat} {x : α}, l[m]? = some x -> ∀ (a b : Value), f x = [a, b] -> (l.flatMap f)[m * 2]? = some a /\ (l.flatMap f)[m * 2 + 1]? = some b
 | [], m, x, h, a, b, _ => by simp at h
 | y :: l, 0, x, h, a, b, e => by
  cases h
  rw [List.flatMap_cons, e]
  exact ⟨rfl, rfl⟩
 | y :: l, m + 1, x, h, a, b, e => by
  obtain ⟨h1, h2⟩ := two_get f hf l (m := m) (x := x) (by simpa using h) a b e
  have hl := hf y
  refine ⟨?_, ?_⟩
  ·rw [List.flatMap_cons, List.getElem?_append_right (by omega), hl, show (m + 1) * 2 - 2 = m * 2 by omega]; exact h1
  ·rw [List.flatMap_cons, List.getElem?_append_right (by omega), hl, show (m + 1) * 2 + 1 - 2 = m * 2 + 1 by omega]; exact h2
theorem tests_at {w : World} {ta : Option Addr} {ts : List TestZ} (h : CellsAt w ta (ts.flatMap testC)) {i : Nat} {t : TestZ} (hi : ts[i]? = some t) : ∃ b off, ta = some ⟨b, off, none⟩ /\ w.cell? ⟨b, off + i * 2, none⟩ = some (.int .i64 t.last) /\ w.cell? ⟨b, off + i * 2 + 1, none⟩ = some t.val := by
 obtain ⟨h1, h2⟩ := two_get testC (fun _ => rfl) ts hi _ _ rfl
 obtain ⟨b, off, e, c1⟩ := h _ _ h1
 obtain ⟨b', off', e', c2⟩ := h _ _ h2
 rw [e] at e'; cases e'
 exact ⟨b, off, e, c1, by rw [Nat.add_assoc]; exact c2⟩
set_option maxRecDepth 100000 in
set_option maxHeartbeats 1000000 in
theorem passFn_any {w : World} {nv bb wb cp : Nat} {ra : Option Addr} {V : List ByteArray} (t : TestZ) (ht : TestOk w nv t) (hb : w.cell? ⟨bb, 0, none⟩ = some (.pointer (some ⟨wb, 0, none⟩))) (hr : w.cell? ⟨wb, 2, none⟩ = some (.slice ra nv cp)) (hc : CellsAt w ra (strs V)) (hV : V.length = nv) :
 Calls Tryz.prog 180 #[.agg #[.int .i64 t.last, t.val], .pointer (some ⟨bb, 0, none⟩)] w (RetN w fun w' v => v = .bool (!t.ask V)) := by
 have HT := Lib.hid (fun W (hW : Ext w W) => ht.tells W hW ra cp V hV (hc.ext hW))
 have hent := ht.ent
 obtain ⟨f, cap, last, ask⟩ := t
 unfold TestZ.val at *
 simp only at HT hent
 clear ht hc hV
 obtain ⟨r, er⟩ : ∃ r, ask V = r := ⟨_, rfl⟩
 rw [er] at HT
 simp only [er]
 go_enter Tryz.func180, Tryz.ntmps180
 obtain ⟨w1, e1⟩ : ∃ w1, w.alloc (.cells #[.int .i64 last, .func (Fn.func f) #[] cap] 180) = w1 := ⟨_, rfl⟩
 obtain ⟨g0, eg0⟩ : ∃ g, w.heap.size = g := ⟨_, rfl⟩
 have hB : Blk w1 g0 [.int .i64 last, .func (Fn.func f) #[] cap] 180 := by rw [<- e1, <- eg0]; exact Blk.new w _ _
 have hx : Ext w w1 := by rw [<- e1]; exact (Kp.refl w).alloc _
 have b0 := hx.cell hb id
 have r0 := hx.cell hr id
 have f0 : w1.cell? ⟨g0, 1, none⟩ = some (.func (Fn.func f) #[] cap) := by rw [hB.cell']; rfl
 have HX := Lib.hid hx
 clear hx hB hb hr
 go_wp2
 go_still_tail 6, (by kernel_rfl)
 go_wp2_with fail
 refine (HT.out _ (HX.out.drew)).mono ?_
 rintro e w1 ⟨v, rfl, hk, rfl⟩
 have HK := Lib.hid (HX.out.drew.trans hk)
 clear hk b0 r0 f0
 go_wp2
 go_ret
 exact RetN.mk HK.out rfl
def NoneP (w0 : World) (V : List ByteArray) (ts : List TestZ) (n : Nat) (iv : Value) (w : World) : Prop := ∃ i : Nat, i ≤ n /\ iv = .int .i64 i /\ Hid (∀ (j : Nat) u, j < i -> ts[j]? = some u -> (!TestZ.ask u V) = false) /\ Hid (Ext w0 w)
theorem anyP_false {α : Type} {l : List α} {q : α -> Bool} {n : Nat} (hn : n = l.length) (h : ∀ (j : Nat) u, j < n -> l[j]? = some u -> q u = false) : l.any q = false := by
 rw [List.any_eq_false]
 intro t ht
 obtain ⟨j, hj, rfl⟩ := List.mem_iff_getElem.1 ht
 rw [h j _ (by omega) (List.getElem?_eq_getElem hj)]; decide
theorem anyP_true {α : Type} {l : List α} {q : α -> Bool} {i : Nat} {u : α} (h : l[i]? = some u) (hq : q u = true) : l.any q = true := List.any_eq_true.2 ⟨u, List.mem_of_getElem? h, hq⟩
set_option maxRecDepth 100000 in
set_option maxHeartbeats 1000000 in
theorem indexP_any {w : World} {nv bb wb cp n tc : Nat} {ra ta : Option Addr} {V : List ByteArray} (ts : List TestZ) (hn : n = ts.length) (h : CellsAt w ta (ts.flatMap testC)) (ht : ∀ t ∈ ts, TestOk w nv t) (hb : w.cell? ⟨bb, 0, none⟩ = some (.pointer (some ⟨wb, 0, none⟩))) (hr : w.cell? ⟨wb, 2, none⟩ = some (.slice ra nv cp)) (hc : CellsAt w ra (strs V)) (hV : V.length = nv) (hl : n ≤ 1048576) :
 Calls Tryz.prog 203 #[.slice ta n tc, .func (Fn.func 180) #[] #[.pointer (some ⟨bb, 0, none⟩)]] w (RetN w fun w' v => ∃ z : Int, v = .int .i64 z /\ decide (0 ≤ z) = ts.any fun t => !t.ask V) := by
 have HN := Lib.hid hn; have HE := Lib.hid h
 have HQ := Lib.hid (fun W (hW : Ext w W) t (hm : t ∈ ts) => passFn_any t ((ht t hm).ext hW) (hW.cell hb id) (hW.cell hr id) (hc.ext hW) hV)
 clear hn h ht hb hr hc hV
 go_enter Tryz.func203, Tryz.ntmps203
 go_wp2
 go_loopw [8] (fun iv wr => NoneP w V ts n iv wr) (fun iv _ => n - (intOf iv).toNat)
 case atStart => exact ⟨0, Nat.zero_le _, rfl, fun j u h => by omega, Kp.refl w⟩
 case round =>
  obtain ⟨i, hi, rfl, hno, hex⟩ := hrel
  by_cases hlt : i < n
  ·have hlt' : i < ts.length := by rw [<- HN.out]; exact hlt
   obtain ⟨t, ht⟩ : ∃ t, ts[i]? = some t := ⟨_, List.getElem?_eq_getElem hlt'⟩
   obtain ⟨b, off, eao, hc0, hc1⟩ := tests_at (HE.out.ext hex.out) ht
   subst eao
   have HC := Lib.hid (HQ.out wr hex.out t (List.mem_of_getElem? ht))
   obtain ⟨r, er⟩ : ∃ r : Bool, (!t.ask V) = r := ⟨_, rfl⟩
   rw [er] at HC
   obtain ⟨la, ela⟩ : ∃ x, t.last = x := ⟨_, rfl⟩
   obtain ⟨tv, etv⟩ : ∃ x, t.val = x := ⟨_, rfl⟩
   rw [ela] at hc0 HC
   rw [etv] at hc1 HC
   have HT := Lib.hid (And.intro ht er)
   clear ht hlt' er ela
   unfold TestZ.val at etv
   subst etv
   cases r
   ·go_wp2_with fail
    refine HC.out.mono ?_
    rintro e w1 ⟨v, rfl, hk1, rfl⟩
    have HX := Lib.hid (hex.out.trans hk1); clear hk1 hc0 hc1
    go_wp2
    go_roundw
    case rel =>
     refine ⟨i + 1, by omega, by first | rfl | (congr 1; done) | (congr 1; omega), fun j u hj hu => ?_, HX⟩
     by_cases e : j = i
     ·subst e; rw [HT.out.1] at hu; cases hu; exact HT.out.2
     ·exact hno.out j u (by omega) hu
    case measure => simp [intOf]; omega
   ·go_wp2_with fail
    refine HC.out.mono ?_
    rintro e w1 ⟨v, rfl, hk1, rfl⟩
    have HX := Lib.hid (hex.out.trans hk1); clear hk1 hc0 hc1
    go_wp2
    go_ret
    exact RetN.mk HX.out ⟨i, rfl, by rw [anyP_true HT.out.1 HT.out.2]; simp⟩
  ·go_wp2
   go_ret
   exact RetN.mk hex.out ⟨-1, rfl, by rw [anyP_false HN.out fun j u hj => hno.out j u (by omega)]; decide⟩
set_option maxRecDepth 100000 in
theorem containsP_any {w : World} {nv bb wb cp n tc : Nat} {ra ta : Option Addr} {V : List ByteArray} (ts : List TestZ) (hn : n = ts.length) (h : CellsAt w ta (ts.flatMap testC)) (ht : ∀ t ∈ ts, TestOk w nv t) (hb : w.cell? ⟨bb, 0, none⟩ = some (.pointer (some ⟨wb, 0, none⟩))) (hr : w.cell? ⟨wb, 2, none⟩ = some (.slice ra nv cp)) (hc : CellsAt w ra (strs V)) (hV : V.length = nv) (hl : n ≤ 1048576) :
 Calls Tryz.prog 179 #[.slice ta n tc, .func (Fn.func 180) #[] #[.pointer (some ⟨bb, 0, none⟩)]] w (RetN w fun w' v => v = .bool (ts.any fun t => !t.ask V)) := by
 have HI := Lib.hid (indexP_any (tc := tc) ts hn h ht hb hr hc hV hl)
 clear hn h ht hb hr hc hV hl
 go_enter Tryz.func179, Tryz.ntmps179
 go_wp2_with fail
 refine HI.out.mono ?_
 rintro e w1 ⟨v, rfl, hk, z, rfl, hz⟩
 go_wp2
 go_ret
 exact RetN.mk hk (congrArg Value.bool (by first | exact hz | simp [<- hz]))
set_option maxRecDepth 100000 in
set_option maxHeartbeats 1000000 in
theorem passes_any {w : World} {nv wb mb k cp n tc sc sb so : Nat} {ra ta : Option Addr} {V : List ByteArray} (ts : List TestZ) (hn : n = ts.length) (h : CellsAt w ta (ts.flatMap testC)) (ht : ∀ t ∈ ts, TestOk w nv t) (hm : w.cell? ⟨wb, 0, none⟩ = some (.pointer (some ⟨mb, 0, none⟩))) (hs : w.cell? ⟨mb, 3, none⟩ = some (.slice (some ⟨sb, so, none⟩) (nv + 1) sc)) (hk : k ≤ nv) (hk2 : w.cell? ⟨sb, so + k, none⟩ = some (.slice ta n tc)) (hr : w.cell? ⟨wb, 2, none⟩ = some (.slice ra nv cp)) (hc : CellsAt w ra (strs V)) (hV : V.length = nv) (hl : n ≤ 1048576) (hl2 : nv ≤ 1048576) :
 Calls Tryz.prog 156 #[.pointer (some ⟨wb, 0, none⟩), .int .i64 k] w (RetN w fun w' v => v = .bool (!ts.any fun t => !t.ask V)) := by
 go_enter Tryz.func156, Tryz.ntmps156
 obtain ⟨w1, e1⟩ : ∃ w1, w.alloc (.cells #[.pointer (some ⟨wb, 0, none⟩)] 183) = w1 := ⟨_, rfl⟩
 obtain ⟨g0, eg0⟩ : ∃ g, w.heap.size = g := ⟨_, rfl⟩
 have hB : Blk w1 g0 [.pointer (some ⟨wb, 0, none⟩)] 183 := by rw [<- e1, <- eg0]; exact Blk.new w _ _
 have hx : Ext w w1 := by rw [<- e1]; exact (Kp.refl w).alloc _
 have b0 : w1.cell? ⟨g0, 0, none⟩ = some (.pointer (some ⟨wb, 0, none⟩)) := by rw [hB.cell']; rfl
 have m0 := hx.cell hm id
 have s0 := hx.cell hs id
 have k0 := hx.cell hk2 id
 have HC := Lib.hid (containsP_any (tc := tc) ts hn (h.ext hx) (fun t hm => (ht t hm).ext hx) b0 (hx.cell hr id) (hc.ext hx) hV hl)
 have HX := Lib.hid hx
 clear hx hB hm hs hk2 hr hc hV ht h hn
 go_wp2_with fail
 refine HC.out.mono ?_
 rintro e w2 ⟨v, rfl, hk3, rfl⟩
 have HK := Lib.hid (HX.out.trans hk3)
 clear hk3
 go_wp2
 go_ret
 exact RetN.mk HK.out rfl
end Go.Proofs.YtinnmeiphbdogaaGreat

/- A rule's matcher and a walk through it, in memory. -/
namespace Go.Proofs.YtinnmeiphbdogaaGreat
open Go.RowKit Go.Shelf
set_option linter.unusedVariables false
structure TrieZ where
 tb : Nat
 vs : List Nat
 W : Rows2
structure MatchZ where
 N : List ByteArray
 Ts : List TrieZ
 tests : Nat -> List TestZ
def noT : TrieZ := ⟨0, [], []⟩
def atL (Ts : List TrieZ) (v : Nat) : List Nat := (List.range Ts.length).filter fun j => (Ts.getD j noT).vs.contains v
theorem atL_mem {Ts : List TrieZ} {v j : Nat} : j ∈ atL Ts v ↔ ∃ t, Ts[j]? = some t /\ v ∈ t.vs := by
 unfold atL
 rw [List.mem_filter, List.mem_range]
 refine ⟨fun ⟨h1, h2⟩ => ⟨Ts[j], List.getElem?_eq_getElem h1, ?_⟩, fun ⟨t, h1, h2⟩ => ⟨(List.getElem?_eq_some_iff.1 h1).1, ?_⟩⟩
 ·rw [getD_some (List.getElem?_eq_getElem h1)] at h2
  exact List.contains_iff_mem.1 h2
 ·rw [getD_some h1]; exact List.contains_iff_mem.2 h2
theorem atL_nodup (Ts : List TrieZ) (v : Nat) : (atL Ts v).Nodup := (List.nodup_range).filter _
def SolM (M : MatchZ) (V : List ByteArray) : Prop := V.length = M.N.length /\ (∀ t ∈ M.Ts, t.vs.map (gotD V) ∈ t.W) /\ ∀ k ≤ M.N.length, ∀ t ∈ M.tests k, t.ask V = true
structure MatchOk (M : MatchZ) : Prop where
 ways : ∀ t ∈ M.Ts, WaysOk t.W t.vs.length /\ t.vs.Pairwise (· < ·) /\ t.vs ≠ [] /\ (∀ x ∈ t.vs, x < M.N.length) /\ 0 < t.W.length
 all : ∀ v, v < M.N.length -> ∃ t ∈ M.Ts, v ∈ t.vs
 local_ : ∀ k ≤ M.N.length, ∀ t ∈ M.tests k, ∀ V V' : List ByteArray, V.length = M.N.length -> V'.length = M.N.length -> V.take k = V'.take k -> t.ask V = t.ask V'
def triePtr (t : TrieZ) : Value := .pointer (some ⟨t.tb, 0, none⟩)
structure MAddr where
 na : Option Addr
 nc : Nat
 ta : Option Addr
 tc : Nat
 aa : Option Addr
 ac : Nat
 sa : Option Addr
 sc : Nat
 ia : Nat -> Option Addr
 ic : Nat -> Nat
 ya : Nat -> Option Addr
 yc : Nat -> Nat
structure MatchAt (w : World) (mb : Nat) (M : MatchZ) (A : MAddr) : Prop where
 c0 : w.cell? ⟨mb, 0, none⟩ = some (.slice A.na M.N.length A.nc)
 c1 : w.cell? ⟨mb, 1, none⟩ = some (.slice A.ta M.Ts.length A.tc)
 c2 : w.cell? ⟨mb, 2, none⟩ = some (.slice A.aa M.N.length A.ac)
 c3 : w.cell? ⟨mb, 3, none⟩ = some (.slice A.sa (M.N.length + 1) A.sc)
 ptrs : CellsAt w A.ta (M.Ts.map triePtr)
 ats : ∀ v, v < M.N.length -> ∃ b o, A.aa = some ⟨b, o, none⟩ /\ w.cell? ⟨b, o + v, none⟩ = some (.slice (A.ia v) (atL M.Ts v).length (A.ic v)) /\ CellsAt w (A.ia v) (ints ((atL M.Ts v).map fun (j : Nat) => (j : Int)))
 slots : ∀ k, k ≤ M.N.length -> ∃ b o, A.sa = some ⟨b, o, none⟩ /\ w.cell? ⟨b, o + k, none⟩ = some (.slice (A.ya k) (M.tests k).length (A.yc k)) /\ CellsAt w (A.ya k) ((M.tests k).flatMap testC)
 tries : ∀ t ∈ M.Ts, TrieAt w t.tb t.W t.vs.length
 tests : ∀ k, k ≤ M.N.length -> ∀ t ∈ M.tests k, TestOk w M.N.length t
 few : M.N.length ≤ 1048576 /\ M.Ts.length ≤ 1048576 /\ ∀ k, k ≤ M.N.length -> (M.tests k).length ≤ 1048576
def cursC (cb : Nat -> Nat) (n : Nat) : List Value := (List.range n).map fun j => .pointer (some ⟨cb j, 0, none⟩)
structure WalkAt (w : World) (wb mb : Nat) (M : MatchZ) (yv cv : Value) (rb : Nat) (R : List ByteArray) (cb : Nat -> Nat) (ov : Nat -> Value) (st : Nat -> List (Nat × Nat)) : Prop where
 box : Blk w wb [.pointer (some ⟨mb, 0, none⟩), cv, .slice (some ⟨rb, 0, none⟩) M.N.length M.N.length, yv] 186
 rowB : Blk w rb (strs R) 9
 rowL : R.length = M.N.length
 curs : Row w 188 1 cv M.Ts.length (cursC cb M.Ts.length) (fun k => cv.ownBlock = some k)
 cur : ∀ (j : Nat) t, M.Ts[j]? = some t -> CurS w (cb j) t.tb (st j) (ov j)
 apart : ∀ i j, i < M.Ts.length -> j < M.Ts.length -> i ≠ j -> cb i ≠ cb j /\ ∀ k, (ov i).ownBlock = some k -> (ov j).ownBlock ≠ some k
def OwnW (wb rb n : Nat) (cv : Value) (cb : Nat -> Nat) (ov : Nat -> Value) : Nat -> Prop := fun k => k = wb \/ k = rb \/ cv.ownBlock = some k \/ ∃ j, j < n /\ FootC (cb j) (ov j) k
def updF {α : Type} (f : Nat -> α) (j : Nat) (x : α) : Nat -> α := fun i => if i = j then x else f i
theorem upd_same {α : Type} (f : Nat -> α) (j : Nat) (x : α) : updF f j x j = x := if_pos rfl
theorem upd_other {α : Type} (f : Nat -> α) {j i : Nat} (x : α) (h : i ≠ j) : updF f j x i = f i := if_neg h
section
variable {w w' : World} {wb mb rb : Nat} {M : MatchZ} {yv cv : Value} {R : List ByteArray} {cb : Nat -> Nat} {ov : Nat -> Value} {st : Nat -> List (Nat × Nat)}
theorem WalkAt.kp {F : Nat -> Prop} (h : WalkAt w wb mb M yv cv rb R cb ov st) (hk : Kp F w w') (hf : ∀ k, OwnW wb rb M.Ts.length cv cb ov k -> ¬ F k) : WalkAt w' wb mb M yv cv rb R cb ov st :=
 ⟨h.box.kp hk (hf _ (.inl rfl)), h.rowB.kp hk (hf _ (.inr (.inl rfl))), h.rowL, h.curs.kp' hk fun g hg _ => hf g (.inr (.inr (.inl hg))), fun j t ht => (h.cur j t ht).kp hk fun k hk' => hf k (.inr (.inr (.inr ⟨j, (List.getElem?_eq_some_iff.1 ht).1, hk'⟩))), h.apart⟩
theorem WalkAt.ext (h : WalkAt w wb mb M yv cv rb R cb ov st) (hk : Ext w w') : WalkAt w' wb mb M yv cv rb R cb ov st := h.kp hk fun _ _ => id
theorem WalkAt.lt (h : WalkAt w wb mb M yv cv rb R cb ov st) : ∀ k, OwnW wb rb M.Ts.length cv cb ov k -> k < w.heap.size := fun k hk => by
 rcases hk with rfl | rfl | hk | ⟨j, hj, hk⟩
 ·exact h.box.lt
 ·exact h.rowB.lt
 ·obtain ⟨cs, hb⟩ := rowBlk h.curs hk
  exact hb.lt
 ·exact (h.cur j _ (List.getElem?_eq_getElem hj)).foot k hk
theorem typ_w : 186 ≠ 218 /\ 186 ≠ 249 /\ 9 ≠ 218 /\ 9 ≠ 249 /\ 188 ≠ 218 /\ 188 ≠ 249 /\ 186 ≠ 9 /\ 188 ≠ 9 /\ 186 ≠ 188 := by decide
theorem CurAt.notB {tb : Nat} {c : Nat} {s : List (Nat × Nat)} {o : Value} {M' : Nat -> Prop} (h : CurAt w c tb s o M') {g : Nat} {cs : List Value} {e : TypeId} (hb : Blk w g cs e) (h1 : e ≠ 218) (h2 : e ≠ 249) : ¬ FootC c o g := fun hk => by
 rcases hk with rfl | hk
 ·exact h1 (blkOne hb h.box)
 ·obtain ⟨cs', hb'⟩ := rowBlk h.row hk
  exact h2 (blkOne hb hb')
theorem WalkAt.turn (h : WalkAt w wb mb M yv cv rb R cb ov st) {j : Nat} {t : TrieZ} (ht : M.Ts[j]? = some t) (hk : Kp (FootC (cb j) (ov j)) w w') {ov' : Value} {st' : List (Nat × Nat)} (hc : CurS w' (cb j) t.tb st' ov') (ho : ∀ k, ov'.ownBlock = some k -> (ov j).ownBlock = some k \/ w.heap.size ≤ k) :
 WalkAt w' wb mb M yv cv rb R cb (updF ov j ov') (updF st j st') := by
 have hcj := h.cur j t ht
 have hj := (List.getElem?_eq_some_iff.1 ht).1
 obtain ⟨t1, t2, t3, t4, t5, t6, -⟩ := typ_w
 have far : ∀ i, i < M.Ts.length -> i ≠ j -> ∀ k, FootC (cb i) (ov i) k -> ¬ FootC (cb j) (ov j) k := fun i hi hne k h1 h2 => by
  obtain ⟨a1, a2⟩ := h.apart i j hi hj hne
  rcases h1 with rfl | h1
  ·rcases h2 with h2 | h2
   ·exact a1 h2
   ·obtain ⟨cs, hb⟩ := rowBlk hcj.row h2
    exact typ_cs (blkOne (h.cur i _ (List.getElem?_eq_getElem hi)).box hb)
  ·rcases h2 with rfl | h2
   ·obtain ⟨cs, hb⟩ := rowBlk (h.cur i _ (List.getElem?_eq_getElem hi)).row h1
    exact typ_cs (blkOne hcj.box hb)
   ·exact a2 k h1 h2
 refine ⟨h.box.kp hk (hcj.notB h.box t1 t2), h.rowB.kp hk (hcj.notB h.rowB t3 t4), h.rowL, h.curs.kp' hk fun g hg _ => ?_, fun i u hi => ?_, fun i l hi hl hne => ⟨(h.apart i l hi hl hne).1, fun k h1 h2 => ?_⟩⟩
 ·obtain ⟨cs, hb⟩ := rowBlk h.curs hg
  exact hcj.notB hb t5 t6
 ·by_cases e : i = j
  ·subst e
   rw [ht] at hi; cases hi
   rw [upd_same, upd_same]; exact hc
  ·rw [upd_other _ _ e, upd_other _ _ e]
   exact (h.cur i u hi).kp hk (far i (List.getElem?_eq_some_iff.1 hi).1 e)
 ·have old : ∀ i, i < M.Ts.length -> ∀ k, (ov i).ownBlock = some k -> k < w.heap.size := fun i hi k hk => (h.cur i _ (List.getElem?_eq_getElem hi)).foot k (.inr hk)
  by_cases e : i = j
  ·subst e
   rw [upd_same] at h1
   rw [upd_other _ _ (fun e => hne e.symm)] at h2
   rcases ho k h1 with h3 | h3
   ·exact (h.apart i l hi hl hne).2 k h3 h2
   ·have := old l hl k h2; omega
  ·rw [upd_other _ _ e] at h1
   by_cases e2 : l = j
   ·subst e2
    rw [upd_same] at h2
    rcases ho k h2 with h3 | h3
    ·exact (h.apart i l hi hl hne).2 k h1 h3
    ·have := old i hi k h1; omega
   ·rw [upd_other _ _ e2] at h2
    exact (h.apart i l hi hl hne).2 k h1 h2
theorem WalkAt.own_turn {ov' : Value} {j n : Nat} (ho : ∀ k, ov'.ownBlock = some k -> (ov j).ownBlock = some k \/ w.heap.size ≤ k) : ∀ k, OwnW wb rb n cv cb (updF ov j ov') k -> OwnW wb rb n cv cb ov k \/ w.heap.size ≤ k := fun k hk => by
 rcases hk with hk | hk | hk | ⟨i, hi, hk⟩
 ·exact .inl (.inl hk)
 ·exact .inl (.inr (.inl hk))
 ·exact .inl (.inr (.inr (.inl hk)))
 ·by_cases e : i = j
  ·subst e
   rw [upd_same] at hk
   rcases hk with hk | hk
   ·exact .inl (.inr (.inr (.inr ⟨i, hi, .inl hk⟩)))
   ·rcases ho k hk with h | h
    ·exact .inl (.inr (.inr (.inr ⟨i, hi, .inr h⟩)))
    ·exact .inr h
  ·rw [upd_other _ _ e] at hk
   exact .inl (.inr (.inr (.inr ⟨i, hi, hk⟩)))
theorem WalkAt.put (h : WalkAt w wb mb M yv cv rb R cb ov st) (v : Nat) (x : ByteArray) : WalkAt (w.setCell ⟨rb, v, none⟩ (.string x)) wb mb M yv cv rb (R.set v x) cb ov st /\ Kp (fun k => k = rb) w (w.setCell ⟨rb, v, none⟩ (.string x)) := by
 have hk : Kp (fun k => k = rb) w (w.setCell ⟨rb, v, none⟩ (.string x)) := Kp.setCell (F := fun k => k = rb) (p := ⟨rb, v, none⟩) (Kp.refl w) (fun _ => rfl) _
 obtain ⟨t1, t2, t3, t4, t5, t6, t7, t8, t9⟩ := typ_w
 refine ⟨⟨h.box.kp hk fun e => ?_, ?_, by rw [List.length_set]; exact h.rowL, h.curs.kp' hk fun g hg _ e => ?_, fun j t ht => (h.cur j t ht).kp hk fun k hf e => ?_, h.apart⟩, hk⟩
 ·have h1 := h.box
  rw [e] at h1
  exact t7 (blkOne h1 h.rowB)
 ·have := h.rowB.set v (.string x)
  have e : (strs R).set v (.string x) = strs (R.set v x) := by unfold strs; rw [List.map_set]
  rw [e] at this; exact this
 ·obtain ⟨cs, hb⟩ := rowBlk h.curs hg
  rw [e] at hb
  exact t8 (blkOne hb h.rowB)
 ·have e' : k = rb := e
  rw [e'] at hf
  exact (h.cur j t ht).notB h.rowB t3 t4 hf
theorem WalkAt.ptr (h : WalkAt w wb mb M yv cv rb R cb ov st) : ∃ ca cc, cv = .slice ca M.Ts.length cc /\ ∀ j, j < M.Ts.length -> ∃ b o, ca = some ⟨b, o, none⟩ /\ w.cell? ⟨b, o + j, none⟩ = some (.pointer (some ⟨cb j, 0, none⟩)) := by
 obtain ⟨ca, cc, e, hc, _⟩ := h.curs.shape
 refine ⟨ca, cc, e, fun j hj => ?_⟩
 exact hc j _ (by unfold cursC; rw [List.getElem?_map, List.getElem?_range hj]; rfl)
end
end Go.Proofs.YtinnmeiphbdogaaGreat

/- The document's bindings, literal by literal: plain. -/
namespace Go.Proofs.YtinnmeiphbdogaaGreat
set_option linter.unusedVariables false
def unlikeE (e : EnvZ) (ts : List TermZ) (R : Rows2) : Rows2 := newS cmpRow (R.filterMap fun x => (fitsE e ts x ts.length).map (·.2))
theorem unlike_mem {e : EnvZ} {ts : List TermZ} {R : Rows2} {q : List ByteArray} : q ∈ unlikeE e ts R ↔ ∃ x ∈ R, ∃ f, fitsE e ts x ts.length = some f /\ f.2 = q := by
 unfold unlikeE
 rw [newS_has, List.mem_filterMap]
 refine ⟨fun ⟨x, hx, h⟩ => ?_, fun ⟨x, hx, f, hf, e⟩ => ⟨x, hx, by rw [hf, <- e]; rfl⟩⟩
 cases hf : fitsE e ts x ts.length with
 | none => rw [hf] at h; cases h
 | some f => rw [hf] at h; exact ⟨x, hx, f, hf, Option.some.inj h⟩
theorem unlike_rise (e : EnvZ) (ts : List TermZ) (R : Rows2) : Strict cmpRow (unlikeE e ts R) := Strict.new cmpRow_ord _
section
variable {ls : List LitZ} {R : Nat -> Rows2} {i : Nat} {e : EnvZ} {l : LitZ}
theorem FromOk.each (h : FromOk ls R i e) (hl : ls[i]? = some l) (hk : l.1 = 1) {R' : Rows2} (hR : ∀ x, x ∈ R' ↔ x ∈ R i /\ x.length = (termsOf l).length) {q : List ByteArray} (hq : q ∈ unlikeE e (termsOf l) R') :
 FromOk ls R (i + 1) (namesB (ls.take (i + 1)), q) /\ q.take e.2.length = e.2 /\ q.length = (namesB (ls.take (i + 1))).length := by
 obtain ⟨x, hx, f, hf, rfl⟩ := unlike_mem.1 hq
 obtain ⟨h1, h2⟩ := (hR x).1 hx
 obtain ⟨h3, h4⟩ := h.next hl hk h1 h2 hf
 have e1 : f = (namesB (ls.take (i + 1)), f.2) := by rw [<- h3.names]
 rw [<- e1]
 exact ⟨h3, h4.vals, h3.len⟩
theorem FromOk.whole (h : FromOk ls R i e) (hl : ls[i]? = some l) (hk : l.1 = 1) {R' : Rows2} (hR : ∀ x, x ∈ R' ↔ x ∈ R i /\ x.length = (termsOf l).length) {V : List ByteArray} (hV : BindOk ls R V) (hp : V.take e.2.length = e.2) : V.take (namesB (ls.take (i + 1))).length ∈ unlikeE e (termsOf l) R' := by
 obtain ⟨x, hx, hxl, f, hf, hfv⟩ := h.has hl hk hV hp
 obtain ⟨h3, h4⟩ := h.next hl hk hx hxl hf
 have e1 := h3.len
 rw [<- e1, hfv]
 exact unlike_mem.2 ⟨x, (hR x).2 ⟨hx, hxl⟩, f, hf, rfl⟩
theorem bind_long {V : List ByteArray} (hV : BindOk ls R V) (i : Nat) : (namesB (ls.take i)).length ≤ V.length := by
 have h := congrArg List.length (namesB_pre ls i)
 rw [List.length_take] at h
 rw [hV.1]; omega
theorem ref_next (h : FromOk ls R i e) (hl : ls[i]? = some l) (hk : l.1 = 1) {R' : Rows2} (hR : ∀ x, x ∈ R' ↔ x ∈ R i /\ x.length = (termsOf l).length) {k : Nat} {q : List ByteArray} (hq : (unlikeE e (termsOf l) R')[k]? = some q) {L L' : Rows2}
 (hL : PartQ (BindOk ls R) e.2 (namesB (ls.take (i + 1))).length (fun y => y ∈ (unlikeE e (termsOf l) R').take k) L) (hL' : AllB (BindOk ls R) q L') : PartQ (BindOk ls R) e.2 (namesB (ls.take (i + 1))).length (fun y => y ∈ (unlikeE e (termsOf l) R').take (k + 1)) (L ++ L') := by
 obtain ⟨h1, h2, h3⟩ := h.each hl hk hR (List.mem_of_getElem? hq)
 have hle : e.2.length ≤ (namesB (ls.take (i + 1))).length := by
  have := congrArg List.length h2
  rw [List.length_take] at this; omega
 refine (hL.next h3 h2 hle (fun V hV => bind_long hV _) hL' fun y hy => ?_).congr fun y => ?_
 ·obtain ⟨j, hj⟩ := List.mem_iff_getElem?.1 hy
  have hjk : j < k := by
   have := (List.getElem?_eq_some_iff.1 hj).1
   rw [List.length_take] at this; omega
  rw [List.getElem?_take_of_lt hjk] at hj
  obtain ⟨l1, e1⟩ := List.getElem?_eq_some_iff.1 hj
  obtain ⟨l2, e2⟩ := List.getElem?_eq_some_iff.1 hq
  have := List.pairwise_iff_getElem.1 (unlike_rise e (termsOf l) R') j k l1 l2 hjk
  rw [e1, e2] at this
  exact this
 ·rw [List.take_add_one, hq, List.mem_append]
  simp
theorem ref_all (h : FromOk ls R i e) (hl : ls[i]? = some l) (hk : l.1 = 1) {R' : Rows2} (hR : ∀ x, x ∈ R' ↔ x ∈ R i /\ x.length = (termsOf l).length) {L : Rows2}
 (hL : PartQ (BindOk ls R) e.2 (namesB (ls.take (i + 1))).length (fun y => y ∈ unlikeE e (termsOf l) R') L) : AllB (BindOk ls R) e.2 L := hL.all fun V hV hp => h.whole hl hk hR hV hp
end
end Go.Proofs.YtinnmeiphbdogaaGreat

/- The document's bindings: literals that are not positive. Plain. -/
namespace Go.Proofs.YtinnmeiphbdogaaGreat
set_option linter.unusedVariables false
theorem namesT_same : ∀ (ts : List TermZ) (a : List ByteArray), (∀ t ∈ ts, t.1 = 1 -> t.2.1 ∈ a) -> namesT a ts = a
 | [], _, _ => rfl
 | t :: ts, a, h => by
  have e : addName a t = a := by
   unfold addName
   refine if_neg fun h1 => ?_
   have h2 := hasT_iff.2 (h t (List.mem_cons_self ..) h1.1)
   rw [h2] at h1; cases h1.2
  show namesT (addName a t) ts = a
  rw [e]
  exact namesT_same ts a fun u hu => h u (List.mem_cons_of_mem _ hu)
theorem fitsE_iff {e : EnvZ} (he : EnvOk e) {ts : List TermZ} {x : List ByteArray} (hin : ∀ t ∈ ts, t.1 = 1 -> t.2.1 ∈ e.1) : (∃ f, fitsE e ts x ts.length = some f) ↔ fitA e.1 e.2 ts x := by
 refine ⟨fun ⟨f, hf⟩ => ?_, fun h => ?_⟩
 ·obtain ⟨h1, h2, h3, h4⟩ := fitsE_some he hf
  rw [List.take_length, namesT_same ts e.1 hin] at h3
  have hl : f.2.length = e.2.length := by rw [h1.len, h3, he.len]
  have h5 : f.2 = e.2 := by
   have := h2.vals
   rw [<- hl, List.take_length] at this; exact this
  have e1 : f = e := Prod.ext h3 h5
  subst e1
  exact fun i t hi => h4 i t (List.getElem?_eq_some_iff.1 hi).1 hi
 ·obtain ⟨f, hf, _⟩ := fitsE_has (x := x) he he (EnvLe.refl e) (Nat.le_refl ts.length) (by rw [List.take_length, namesT_same ts e.1 hin, List.take_length]) h
  exact ⟨f, hf⟩
def valE (e : EnvZ) (t : TermZ) : ByteArray := if t.1 = 3 then t.2.1 else (ofE e t.2.1).getD ByteArray.empty
theorem valE_eq {e : EnvZ} {t : TermZ} (h : t.1 = 1 /\ t.2.1 ∈ e.1 \/ t.1 = 3) : valE e t = valT e.1 e.2 t := by
 unfold valE valT
 rcases h with ⟨h1, h2⟩ | h1
 ·rw [if_neg (by omega), if_pos h1]
  unfold ofE
  rw [if_pos (hasT_iff.2 h2)]; rfl
 ·rw [if_pos h1, if_neg (by omega)]
theorem safe_cmp {r : RuleZ} (h : checkR r = 0) {l : LitZ} (hl : l ∈ r.2.1) (hk : l.1 = 3) : ∀ t, t = leftOf l \/ t = rightOf l -> t.1 = 1 /\ t.2.1 ∈ namesB r.2.1 \/ t.1 = 3 := fun t ht => by
 unfold checkR at h
 split at h
 ·rename_i hp
  split at h
  ·rename_i hs
   unfold parted at hp
   unfold safeR at hs
   rw [Bool.and_eq_true] at hp hs
   have h1 := List.all_eq_true.1 hp.2 l hl
   have h2 := List.all_eq_true.1 hs.2 l hl
   unfold litOk at h1
   rw [if_neg (by omega), if_pos hk, Bool.and_eq_true] at h1
   unfold safeL at h2
   rw [if_pos hk, Bool.and_eq_true] at h2
   have h3 : decide (1 ≤ t.1 /\ t.1 ≤ 3) = true := by
    have h4 := h1.2
    unfold kinds at h4
    rw [List.all_eq_true] at h4
    rcases ht with ht | ht
    ·rw [ht]; exact h4 _ (by simp)
    ·rw [ht]; exact h4 _ (by simp)
   have h5 := of_decide_eq_true h3
   have h6 : safeT (namesB r.2.1) false t = true := by
    rcases ht with ht | ht
    ·rw [ht]; exact h2.1
    ·rw [ht]; exact h2.2
   unfold safeT at h6
   split at h6
   ·cases h6
   ·rename_i h7
    rcases of_decide_eq_true h6 with h8 | h8 | h8
    ·exact .inr h8
    ·omega
    ·by_cases h9 : t.1 = 3
     ·exact .inr h9
     ·exact .inl ⟨by omega, hasT_iff.1 h8⟩
  ·cases h
 ·cases h
theorem lit_kinds {r : RuleZ} (h : checkR r = 0) {l : LitZ} (hl : l ∈ r.2.1) : l.1 = 1 \/ l.1 = 2 \/ (l.1 = 3 /\ 1 ≤ opOf l /\ opOf l ≤ 4) := by
 unfold checkR at h
 split at h
 ·rename_i hp
  unfold parted at hp
  rw [Bool.and_eq_true] at hp
  have h1 := List.all_eq_true.1 hp.2 l hl
  unfold litOk at h1
  split at h1
  ·rename_i h2; omega
  ·split at h1
   ·rename_i h3
    rw [Bool.and_eq_true] at h1
    have := of_decide_eq_true h1.1
    exact .inr (.inr ⟨h3, this⟩)
   ·cases h1
 ·cases h
def holdsE (e : EnvZ) (R : Rows2) (l : LitZ) : Prop :=
 if l.1 = 2 then ∀ x ∈ R, fitsE e (termsOf l) x (termsOf l).length = none
 else opHolds (opOf l) (valE e (leftOf l)) (valE e (rightOf l))
theorem holdsE_iff {r : RuleZ} (h : checkR r = 0) {l : LitZ} (hl : l ∈ r.2.1) (hk : l.1 ≠ 1) {e : EnvZ} (he : EnvOk e) (hn : e.1 = namesB r.2.1) {R R' : Rows2} (hR : ∀ x, x ∈ R' ↔ x ∈ R /\ x.length = (termsOf l).length) : holdsE e R' l ↔ holdsL (namesB r.2.1) e.2 R l := by
 unfold holdsE holdsL
 rw [if_neg hk]
 by_cases h2 : l.1 = 2
 ·rw [if_pos h2, if_pos h2]
  have hin : ∀ t ∈ termsOf l, t.1 = 1 -> t.2.1 ∈ e.1 := by rw [hn]; exact safe_in h hl (.inr h2)
  refine ⟨fun h3 ⟨x, hx, hxl, hf⟩ => ?_, fun h3 x hx => ?_⟩
  ·rw [<- hn] at hf
   obtain ⟨f, hf'⟩ := (fitsE_iff he hin).2 hf
   rw [h3 x ((hR x).2 ⟨hx, hxl⟩)] at hf'
   cases hf'
  ·cases hf : fitsE e (termsOf l) x (termsOf l).length with
   | none => rfl
   | some f =>
    have h4 := (fitsE_iff he hin).1 ⟨f, hf⟩
    obtain ⟨h5, h6⟩ := (hR x).1 hx
    rw [hn] at h4
    exact absurd ⟨x, h5, h6, h4⟩ h3
 ·rw [if_neg h2, if_neg h2]
  have h3 : l.1 = 3 := by
   rcases lit_kinds h hl with h4 | h4 | h4
   ·exact absurd h4 hk
   ·exact absurd h4 h2
   ·exact h4.1
  have hs := safe_cmp h hl h3
  rw [<- hn] at hs
  rw [valE_eq (hs _ (.inl rfl)), valE_eq (hs _ (.inr rfl)), hn]
end Go.Proofs.YtinnmeiphbdogaaGreat

/- A rule's bindings as a list that can be reckoned: plain. -/
namespace Go.Proofs.YtinnmeiphbdogaaGreat
set_option linter.unusedVariables false
def rowsA (ts : List TermZ) (R : Rows2) : Rows2 := R.filter fun x => decide (x.length = ts.length)
theorem rowsA_mem {ts : List TermZ} {R : Rows2} (x : List ByteArray) : x ∈ rowsA ts R ↔ x ∈ R /\ x.length = ts.length := by
 unfold rowsA
 rw [List.mem_filter, decide_eq_true_iff]
def opB (op : Int) (x y : ByteArray) : Bool := if op = 1 then decide (x = y) else if op = 2 then decide (x ≠ y) else if op = 3 then Op.bytesLess x.toList y.toList else !Op.bytesLess y.toList x.toList
theorem opB_iff {op : Int} {x y : ByteArray} : opB op x y = true ↔ opHolds op x y := by
 unfold opB opHolds
 split
 ·exact decide_eq_true_iff
 ·split
  ·exact decide_eq_true_iff
  ·split
   ·exact Iff.rfl
   ·rw [Bool.not_eq_true']
def holdsB (e : EnvZ) (R : Rows2) (l : LitZ) : Bool := if l.1 = 2 then R.all fun x => (fitsE e (termsOf l) x (termsOf l).length).isNone else opB (opOf l) (valE e (leftOf l)) (valE e (rightOf l))
theorem holdsB_iff {e : EnvZ} {R : Rows2} {l : LitZ} : holdsB e R l = true ↔ holdsE e R l := by
 unfold holdsB holdsE
 split
 ·rw [List.all_eq_true]
  exact ⟨fun h x hx => Option.isNone_iff_eq_none.1 (h x hx), fun h x hx => Option.isNone_iff_eq_none.2 (h x hx)⟩
 ·exact opB_iff
def keepB (e : EnvZ) (R : Nat -> Rows2) : Nat -> List LitZ -> Bool
 | _, [] => true
 | i, l :: ls => (if l.1 = 1 then true else holdsB e (rowsA (termsOf l) (R i)) l) && keepB e R (i + 1) ls
theorem keepB_iff {e : EnvZ} {R : Nat -> Rows2} : ∀ {ls : List LitZ} {i : Nat}, keepB e R i ls = true ↔ ∀ (j : Nat) (l : LitZ), ls[j]? = some l -> l.1 ≠ 1 -> holdsE e (rowsA (termsOf l) (R (i + j))) l
 | [], i => ⟨fun _ j l h => by simp at h, fun _ => rfl⟩
 | l :: ls, i => by
  unfold keepB
  rw [Bool.and_eq_true, keepB_iff]
  refine ⟨fun ⟨h1, h2⟩ j m hm hk => ?_, fun h => ⟨?_, fun j m hm hk => ?_⟩⟩
  ·cases j with
   | zero =>
    cases hm
    rw [if_neg hk] at h1
    exact holdsB_iff.1 h1
   | succ j =>
    have := h2 j m (by simpa using hm) hk
    rw [show i + (j + 1) = i + 1 + j by omega]; exact this
  ·split
   ·rfl
   ·rename_i hk
    exact holdsB_iff.2 (h 0 l rfl hk)
  ·have := h (j + 1) m (by simpa using hm) hk
   rw [show i + (j + 1) = i + 1 + j by omega] at this; exact this
def refFrom (all : List LitZ) (R : Nat -> Rows2) : List LitZ -> Nat -> EnvZ -> Rows2
 | [], _, e => if keepB e R 0 all then [e.2] else []
 | l :: rest, i, e => if l.1 = 1 then (unlikeE e (termsOf l) (rowsA (termsOf l) (R i))).flatMap fun q => refFrom all R rest (i + 1) (namesT e.1 (termsOf l), q) else refFrom all R rest (i + 1) e
def bindL (r : RuleZ) (R : Nat -> Rows2) : Rows2 := refFrom r.2.1 R r.2.1 0 ([], [])
theorem refFrom_all {r : RuleZ} (hc : checkR r = 0) (R : Nat -> Rows2) : ∀ (rest : List LitZ) (i : Nat) (e : EnvZ), r.2.1.drop i = rest -> i ≤ r.2.1.length -> FromOk r.2.1 R i e -> AllB (BindOk r.2.1 R) e.2 (refFrom r.2.1 R rest i e)
 | [], i, e, hd, hi, h => by
  have hil : i = r.2.1.length := by
   have := congrArg List.length hd
   rw [List.length_drop] at this
   simp at this; omega
  subst hil
  obtain ⟨hn, hb, hl⟩ := h.last
  unfold refFrom
  have hiff : keepB e R 0 r.2.1 = true ↔ BindOk r.2.1 R e.2 := by
   rw [keepB_iff, hb]
   refine ⟨fun h1 j l hj hk => ?_, fun h1 j l hj hk => ?_⟩
   ·have h2 := h1 j l hj hk
    rw [Nat.zero_add] at h2
    exact (holdsE_iff hc (List.mem_of_getElem? hj) hk h.ok hn fun x => rowsA_mem x).1 h2
   ·rw [Nat.zero_add]
    exact (holdsE_iff hc (List.mem_of_getElem? hj) hk h.ok hn fun x => rowsA_mem x).2 (h1 j l hj hk)
  split
  ·rename_i h1
   exact AllB.one (hiff.1 h1) hl
  ·rename_i h1
   refine AllB.none fun V hV hp => h1 (hiff.2 ?_)
   have : V = e.2 := by rw [<- hp, <- hl V hV, List.take_length]
   rw [<- this]; exact hV
 | l :: rest, i, e, hd, hi, h => by
  have hl : r.2.1[i]? = some l := by
   have : (r.2.1.drop i)[0]? = some l := by rw [hd]; rfl
   rw [List.getElem?_drop] at this; exact this
  have hil := (List.getElem?_eq_some_iff.1 hl).1
  have hd2 : r.2.1.drop (i + 1) = rest := by
   have := congrArg (List.drop 1) hd
   rw [List.drop_drop] at this
   exact this
  unfold refFrom
  split
  ·rename_i hk
   have hnx : namesT e.1 (termsOf l) = namesB (r.2.1.take (i + 1)) := by
    rw [h.names, namesB_next hl]; unfold namesL; rw [if_pos hk]
   rw [hnx]
   refine ref_all h hl hk (R' := rowsA (termsOf l) (R i)) (fun x => rowsA_mem x) ?_
   have key : ∀ k, k ≤ (unlikeE e (termsOf l) (rowsA (termsOf l) (R i))).length -> PartQ (BindOk r.2.1 R) e.2 (namesB (r.2.1.take (i + 1))).length (fun y => y ∈ (unlikeE e (termsOf l) (rowsA (termsOf l) (R i))).take k) (((unlikeE e (termsOf l) (rowsA (termsOf l) (R i))).take k).flatMap fun q => refFrom r.2.1 R rest (i + 1) (namesB (r.2.1.take (i + 1)), q)) := by
    intro k
    induction k with
    | zero => exact fun _ => PartQ.none.congr fun y => by simp
    | succ k ih =>
     intro hk2
     obtain ⟨q, hq⟩ : ∃ q, (unlikeE e (termsOf l) (rowsA (termsOf l) (R i)))[k]? = some q := ⟨_, List.getElem?_eq_getElem (by omega)⟩
     have hf := (h.each hl hk (fun x => rowsA_mem x) (List.mem_of_getElem? hq)).1
     have h1 := ref_next h hl hk (fun x => rowsA_mem x) hq (ih (by omega)) (refFrom_all hc R rest (i + 1) _ hd2 hil hf)
     have e1 : (unlikeE e (termsOf l) (rowsA (termsOf l) (R i))).take (k + 1) = (unlikeE e (termsOf l) (rowsA (termsOf l) (R i))).take k ++ [q] := by rw [List.take_add_one, hq]; rfl
     have e2 : ∀ (f : List ByteArray -> Rows2) (a : Rows2), (a ++ [q]).flatMap f = a.flatMap f ++ f q := fun f a => by simp
     rw [e1, e2, <- e1]
     exact h1
   have h2 := key _ (Nat.le_refl _)
   rw [List.take_length] at h2
   exact h2
  ·rename_i hk
   exact refFrom_all hc R rest (i + 1) e hd2 hil (h.skip hl hk)
theorem bindL_is {r : RuleZ} (hc : checkR r = 0) (R : Nat -> Rows2) : IsBinds r.2.1 R (bindL r R) := refFrom_all hc R r.2.1 0 ([], []) rfl (Nat.zero_le _) (FromOk.start _ _)
end Go.Proofs.YtinnmeiphbdogaaGreat
