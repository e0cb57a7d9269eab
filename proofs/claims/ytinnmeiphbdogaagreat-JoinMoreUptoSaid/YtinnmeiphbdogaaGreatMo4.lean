/- Texts joined for a claim (JoinPlain, JoinEnv, JoinEnv2, LeapPlain, TrieSpan, TriePath, JoinSol, JoinStep, IndexX, BaseC2, BasePut, RowQ, RowQ2, RowQ3, RowOwn, RowAll, BaseAt, RowWith, BaseV, LaidPlain, TrieAt, CurAt). -/
import Derived.Test.YtinnmeiphbdogaaGreatMo3
import Derived.Laws.EntriesVeiled
import Derived.Deep.RegionWith
set_option linter.unusedVariables false
set_option linter.unusedSimpArgs false
/- What a join means: plain. -/
namespace Go.Proofs.YtinnmeiphbdogaaGreat
def isV (s : ByteArray) (t : aH) : Bool := decide (t.1 = 1 /\ t.2.1 = s)
def eY (ts : List aH) (s : ByteArray) : Nat := ts.findIdx (isV s)
def aM (N : List ByteArray) (ts : List aH) : List Nat := (List.range N.length).filter fun i => ts.any (isV (N.getD i ByteArray.empty))
def bH (x : List ByteArray) (i : Nat) : ByteArray := x.getD i ByteArray.empty
def pD (ts : List aH) (x : List ByteArray) : Prop := ∀ (i : Nat) (t : aH), ts[i]? = some t -> (t.1 = 3 -> bH x i = t.2.1) /\ (t.1 = 1 -> bH x (eY ts t.2.1) = bH x i)
def gZ (N : List ByteArray) (ts : List aH) (x : List ByteArray) : List ByteArray := (aM N ts).map fun v => bH x (eY ts (bH N v))
def aCo (N V : List ByteArray) (ts : List aH) (x : List ByteArray) : Prop := ∀ (i : Nat) (t : aH), ts[i]? = some t -> (t.1 = 3 -> bH x i = t.2.1) /\ (t.1 = 1 -> ∃ v : Nat, N[v]? = some t.2.1 /\ V[v]? = some (bH x i))
theorem aCp {ts : List aH} {s : ByteArray} {i : Nat} {t : aH} (hi : ts[i]? = some t) (ht : t.1 = 1) (hs : t.2.1 = s) : ∃ u, ts[eY ts s]? = some u /\ u.1 = 1 /\ u.2.1 = s := by
 have h : eY ts s < ts.length := List.findIdx_lt_length_of_exists ⟨t, List.mem_of_getElem? hi, by unfold isV; exact decide_eq_true ⟨ht, hs⟩⟩
 have h2 := List.findIdx_getElem (w := h)
 refine ⟨_, qG h, ?_⟩
 unfold isV at h2
 exact of_decide_eq_true h2
theorem cL {N : List ByteArray} {ts : List aH} {v : Nat} : v ∈ aM N ts ↔ v < N.length /\ ∃ (i : Nat) (t : aH), ts[i]? = some t /\ t.1 = 1 /\ t.2.1 = bH N v := by
 unfold aM
 rw [List.mem_filter, List.mem_range, List.any_eq_true]
 refine and_congr_right fun _ => ⟨fun ⟨t, ht, h⟩ => ?_, fun ⟨i, t, hi, h1, h2⟩ => ⟨t, List.mem_of_getElem? hi, by unfold isV; exact decide_eq_true ⟨h1, h2⟩⟩⟩
 obtain ⟨i, hi⟩ := List.mem_iff_getElem?.1 ht
 unfold isV at h
 have h' := of_decide_eq_true h
 exact ⟨i, t, hi, h'.1, h'.2⟩
theorem xM (N : List ByteArray) (ts : List aH) : (aM N ts).Pairwise (· < ·) := List.Pairwise.filter _ List.pairwise_lt_range
theorem aBl {N V : List ByteArray} {ts : List aH} (hN : N.Nodup) (hV : V.length = N.length) (hin : ∀ t ∈ ts, t.1 = 1 -> t.2.1 ∈ N) (x : List ByteArray) :
 pD ts x /\ gZ N ts x = (aM N ts).map (bH V) ↔ aCo N V ts x := by
 have get : ∀ {v : Nat} {s : ByteArray}, N[v]? = some s -> bH N v = s := fun h => bI h
 have getv : ∀ {v : Nat} {s : ByteArray}, N[v]? = some s -> V[v]? = some (bH V v) := fun {v s} h => by
  have hv : v < V.length := by rw [hV]; exact (List.getElem?_eq_some_iff.1 h).1
  unfold bH
  rw [List.getD_eq_getElem?_getD, qG hv]; rfl
 have proj : gZ N ts x = (aM N ts).map (bH V) ↔ ∀ v ∈ aM N ts, bH x (eY ts (bH N v)) = bH V v := by
  unfold gZ
  exact List.map_inj_left
 rw [proj]
 refine ⟨fun ⟨h1, h2⟩ i t hi => ⟨(h1 i t hi).1, fun ht => ?_⟩, fun h => ⟨fun i t hi => ⟨(h i t hi).1, fun ht => ?_⟩, fun v hv => ?_⟩⟩
 ·obtain ⟨v, hv⟩ := List.mem_iff_getElem?.1 (hin t (List.mem_of_getElem? hi) ht)
  refine ⟨v, hv, ?_⟩
  have hm : v ∈ aM N ts := cL.2 ⟨(List.getElem?_eq_some_iff.1 hv).1, i, t, hi, ht, (get hv).symm⟩
  have h3 := h2 v hm
  rw [get hv, (h1 i t hi).2 ht] at h3
  rw [h3]; exact getv hv
 ·obtain ⟨v, hv, e⟩ := (h i t hi).2 ht
  obtain ⟨u, hu, u1, u2⟩ := aCp hi ht rfl
  obtain ⟨v', hv', e'⟩ := (h _ u hu).2 u1
  rw [u2] at hv'
  have : v = v' := (List.getElem?_inj (List.getElem?_eq_some_iff.1 hv).1 hN).1 (hv.trans hv'.symm)
  subst this
  rw [e] at e'
  exact (Option.some.inj e').symm
 ·obtain ⟨hl, i, t, hi, h1, h2⟩ := cL.1 hv
  obtain ⟨u, hu, u1, u2⟩ := aCp hi h1 h2
  obtain ⟨v', hv', e'⟩ := (h _ u hu).2 u1
  have hv0 : N[v]? = some (bH N v) := by unfold bH; rw [List.getD_eq_getElem?_getD, qG hl]; rfl
  rw [u2] at hv'
  have : v = v' := (List.getElem?_inj hl hN).1 (hv0.trans hv'.symm)
  subst this
  rw [getv hv0] at e'
  exact (Option.some.inj e').symm
open Classical in
noncomputable def cK (N : List ByteArray) (ts : List aH) (R : aD) : aD := cG aC ((R.filter fun x => decide (x.length = ts.length /\ pD ts x)).map (gZ N ts))
theorem yQ {x : List ByteArray} : ∀ (xs acc : aD), x ∈ xs \/ x ∈ acc -> x ∈ xs.foldl (bJ aC) acc
 | [], acc, h => by
  rcases h with h | h
  ·simp at h
  ·exact h
 | y :: xs, acc, h => by
  refine yQ xs (bJ aC acc y) ?_
  by_cases hx : x ∈ xs
  ·exact .inl hx
  ·refine .inr (dT.2 ?_)
   rcases h with h | h
   ·rcases List.mem_cons.1 h with h | h
    ·subst h
     by_cases hi : bC aC acc x = true
     ·obtain ⟨z, hz, e⟩ := fI.1 hi
      rw [<- kA e]; exact .inl hz
     ·exact .inr ⟨rfl, by simpa using hi⟩
    ·exact absurd h hx
   ·exact .inl h
theorem qO {xs : aD} {x : List ByteArray} : x ∈ cG aC xs ↔ x ∈ xs := ⟨qN, fun h => yQ xs [] (.inl h)⟩
open Classical in
theorem aFs {N V : List ByteArray} {ts : List aH} (R : aD) (hN : N.Nodup) (hV : V.length = N.length) (hin : ∀ t ∈ ts, t.1 = 1 -> t.2.1 ∈ N) :
 (aM N ts).map (bH V) ∈ cK N ts R ↔ ∃ x ∈ R, x.length = ts.length /\ aCo N V ts x := by
 unfold cK
 rw [qO, List.mem_map]
 refine ⟨fun ⟨x, hx, e⟩ => ?_, fun ⟨x, hx, hl, hf⟩ => ?_⟩
 ·obtain ⟨h1, h2⟩ := List.mem_filter.1 hx
  obtain ⟨h3, h4⟩ := of_decide_eq_true h2
  exact ⟨x, h1, h3, (aBl hN hV hin x).1 ⟨h4, e⟩⟩
 ·obtain ⟨h1, h2⟩ := (aBl hN hV hin x).2 hf
  exact ⟨x, List.mem_filter.2 ⟨hx, decide_eq_true ⟨hl, h1⟩⟩, h2⟩
theorem oG {N : List ByteArray} {ts : List aH} {R : aD} {x : List ByteArray} (h : x ∈ cK N ts R) : x.length = (aM N ts).length := by
 unfold cK at h
 obtain ⟨y, _, rfl⟩ := List.mem_map.1 (qN h)
 unfold gZ
 rw [List.length_map]
theorem uS (N : List ByteArray) (ts : List aH) (R : aD) : Strict aC (cK N ts R) := Strict.new cC _
def tT (N V : List ByteArray) (t : aH) : ByteArray := if t.1 = 1 then bH V (N.findIdx fun s => decide (s = t.2.1)) else t.2.1
def qL (op : Int) (x y : ByteArray) : Prop := if op = 1 then x = y else if op = 2 then x ≠ y else if op = 3 then Op.bytesLess x.toList y.toList = true else Op.bytesLess y.toList x.toList = false
def gD (N V : List ByteArray) (R : aD) (l : aO) : Prop :=
 if l.1 = 1 then ∃ x ∈ R, x.length = (aA l).length /\ aCo N V (aA l) x
 else if l.1 = 2 then ¬ ∃ x ∈ R, x.length = (aA l).length /\ aCo N V (aA l) x
 else qL (iI l) (tT N V (leftOf l)) (tT N V (aR l))
def bZ (ls : List aO) (R : Nat -> aD) (V : List ByteArray) : Prop := V.length = (aB ls).length /\ ∀ (i : Nat) (l : aO), ls[i]? = some l -> gD (aB ls) V (R i) l
def IsBinds (ls : List aO) (R : Nat -> aD) (L : aD) : Prop := AllB (bZ ls R) [] L
theorem IsBinds.iff {ls : List aO} {R : Nat -> aD} {L : aD} (h : IsBinds ls R L) (V : List ByteArray) : V ∈ L ↔ bZ ls R V := (AllB.iff h V).trans ⟨fun h => h.1, fun h => ⟨h, rfl⟩⟩
end Go.Proofs.YtinnmeiphbdogaaGreat
/- What variables are, as the document keeps it: plain. -/
namespace Go.Proofs.YtinnmeiphbdogaaGreat
abbrev dL := List ByteArray × List ByteArray
def ofE (e : dL) (s : ByteArray) : Option ByteArray := if mF e.1 s = true then some (bH e.2 (e.1.findIdx fun x => decide (x = s))) else none
def wE (e : dL) (t : aH) (y : ByteArray) : Option dL :=
 if t.1 = 3 /\ t.2.1 ≠ y then none
 else if t.1 ≠ 1 then some e
 else match ofE e t.2.1 with
  | some s => if s = y then some e else none
  | none => some (e.1 ++ [t.2.1], e.2 ++ [y])
def jX (e : dL) (ts : List aH) (x : List ByteArray) : Nat -> Option dL
 | 0 => some e
 | k + 1 => match jX e ts x k, ts[k]? with
  | some f, some t => wE f t (bH x k)
  | _, _ => none
structure EnvOk (e : dL) : Prop where
 nodup : e.1.Nodup
 len : e.2.length = e.1.length
theorem aJu {N : List ByteArray} {s : ByteArray} (h : s ∈ N) : N[N.findIdx fun x => decide (x = s)]? = some s := by
 have h1 : (N.findIdx fun x => decide (x = s)) < N.length := List.findIdx_lt_length_of_exists ⟨s, h, decide_eq_true rfl⟩
 have h2 := List.findIdx_getElem (w := h1)
 rw [qG h1]
 exact congrArg some (of_decide_eq_true h2)
theorem aBu {e : dL} {s y : ByteArray} (he : EnvOk e) : ofE e s = some y ↔ ∃ v : Nat, e.1[v]? = some s /\ e.2[v]? = some y := by
 unfold ofE
 by_cases h : mF e.1 s = true
 ·rw [if_pos h]
  have hi := aJu (cU.1 h)
  have hl := (List.getElem?_eq_some_iff.1 hi).1
  have hv : e.2[e.1.findIdx fun x => decide (x = s)]? = some (bH e.2 (e.1.findIdx fun x => decide (x = s))) := by
   unfold bH
   rw [List.getD_eq_getElem?_getD, qG (by rw [he.len]; exact hl)]; rfl
  refine ⟨fun h1 => ⟨_, hi, by rw [hv]; exact h1⟩, fun ⟨v, h1, h2⟩ => ?_⟩
  have : (e.1.findIdx fun x => decide (x = s)) = v := (List.getElem?_inj hl he.nodup).1 (hi.trans h1.symm)
  rw [this] at hv
  rw [this, <- hv]; exact h2
 ·rw [if_neg h]
  refine ⟨fun h1 => (by cases h1), fun ⟨v, h1, h2⟩ => absurd (cU.2 (List.mem_of_getElem? h1)) h⟩
theorem aBv {e : dL} {s : ByteArray} : ofE e s = none ↔ s ∉ e.1 := by
 unfold ofE
 rw [<- cU]
 split
 ·rename_i h; simp [h]
 ·rename_i h; simp [h]
def yT (e : dL) (t : aH) (y : ByteArray) : Prop := (t.1 = 3 -> y = t.2.1) /\ (t.1 = 1 -> ∃ v : Nat, e.1[v]? = some t.2.1 /\ e.2[v]? = some y)
structure EnvLe (e f : dL) : Prop where
 names : f.1.take e.1.length = e.1
 vals : f.2.take e.2.length = e.2
theorem EnvLe.refl (e : dL) : EnvLe e e := ⟨List.take_length, List.take_length⟩
theorem mI {l k : List ByteArray} (h : l.take k.length = k) {i : Nat} {x : ByteArray} (hx : k[i]? = some x) : l[i]? = some x := by
 have hi := (List.getElem?_eq_some_iff.1 hx).1
 rw [<- h, List.getElem?_take_of_lt hi] at hx
 exact hx
theorem EnvLe.fit {e f : dL} (h : EnvLe e f) {t : aH} {y : ByteArray} (ht : yT e t y) : yT f t y :=
 ⟨ht.1, fun h1 => by obtain ⟨v, a, b⟩ := ht.2 h1; exact ⟨v, mI h.names a, mI h.vals b⟩⟩
theorem jA {a b c : List ByteArray} (h : b.take a.length = a) (h' : c.take b.length = b) : c.take a.length = a := by
 have hl : a.length ≤ b.length := by have := congrArg List.length h; rw [List.length_take] at this; omega
 have h2 : (c.take b.length).take a.length = c.take a.length := by rw [List.take_take]; congr 1; omega
 rw [<- h2, h', h]
theorem EnvLe.trans {e f g : dL} (h : EnvLe e f) (h' : EnvLe f g) : EnvLe e g := ⟨jA h.names h'.names, jA h.vals h'.vals⟩
theorem aCn {e f : dL} {t : aH} {y : ByteArray} (he : EnvOk e) (h : wE e t y = some f) : EnvOk f /\ EnvLe e f /\ f.1 = bK e.1 t /\ yT f t y := by
 unfold wE at h
 split at h
 ·cases h
 ·rename_i h1
  have h3 : t.1 = 3 -> y = t.2.1 := fun h3 => Classical.byContradiction fun hn => h1 ⟨h3, fun e => hn e.symm⟩
  split at h
  ·rename_i h2
   cases h
   exact ⟨he, EnvLe.refl _, by unfold bK; rw [if_neg (fun h => h2 h.1)], h3, fun h => absurd h h2⟩
  ·rename_i h2
   have h2' : t.1 = 1 := Classical.not_not.1 h2
   split at h
   ·rename_i s hs
    split at h
    ·rename_i e1
     cases h
     subst e1
     have h4 := (aBu he).1 hs
     refine ⟨he, EnvLe.refl _, ?_, h3, fun _ => h4⟩
     obtain ⟨v, h5, _⟩ := h4
     unfold bK
     rw [if_neg fun h => by have := cU.2 (List.mem_of_getElem? h5); rw [this] at h; cases h.2]
    ·cases h
   ·rename_i hs
    cases h
    have h4 := aBv.1 hs
    refine ⟨⟨?_, by simp [he.len]⟩, ⟨List.take_left, List.take_left⟩, ?_, h3, fun _ => ⟨e.1.length, by simp, by rw [<- he.len]; simp⟩⟩
    ·refine List.nodup_append.2 ⟨he.nodup, by simp, fun a ha b hb => ?_⟩
     rw [List.mem_singleton] at hb
     subst hb
     intro e; subst e; exact h4 ha
    ·unfold bK
     rw [if_pos ⟨h2', by rw [<- Bool.not_eq_true, cU]; exact h4⟩]
theorem aEt {e g : dL} {t : aH} {y : ByteArray} (he : EnvOk e) (hg : EnvOk g) (hle : EnvLe e g) (hn : g.1.take (bK e.1 t).length = bK e.1 t) (h : yT g t y) : ∃ f, wE e t y = some f /\ EnvLe f g := by
 unfold wE
 rw [if_neg (fun h1 => h1.2 (h.1 h1.1).symm)]
 by_cases h2 : t.1 ≠ 1
 ·rw [if_pos h2]; exact ⟨e, rfl, hle⟩
 ·rw [if_neg h2]
  have h2' : t.1 = 1 := Classical.not_not.1 h2
  obtain ⟨v, hv, hy⟩ := h.2 h2'
  cases hs : ofE e t.2.1 with
  | some s =>
   obtain ⟨u, hu, hs'⟩ := (aBu he).1 hs
   have h3 := mI hle.names hu
   have : u = v := (List.getElem?_inj (List.getElem?_eq_some_iff.1 h3).1 hg.nodup).1 (h3.trans hv.symm)
   subst this
   have h4 := mI hle.vals hs'
   rw [hy] at h4
   cases h4
   exact ⟨e, by simp, hle⟩
  | none =>
   refine ⟨_, rfl, ?_⟩
   have h4 := aBv.1 hs
   have ea : bK e.1 t = e.1 ++ [t.2.1] := by unfold bK; rw [if_pos ⟨h2', by rw [<- Bool.not_eq_true, cU]; exact h4⟩]
   rw [ea] at hn
   refine ⟨hn, ?_⟩
   have h5 : g.1[e.1.length]? = some t.2.1 := mI hn (by simp)
   have : e.1.length = v := (List.getElem?_inj (List.getElem?_eq_some_iff.1 h5).1 hg.nodup).1 (h5.trans hv.symm)
   subst this
   have h6 := hle.vals
   show g.2.take (e.2 ++ [y]).length = e.2 ++ [y]
   rw [List.length_append, List.length_singleton, List.take_add_one, h6, he.len, hy]; rfl
end Go.Proofs.YtinnmeiphbdogaaGreat
/- The document's way through a rule's literals: plain. -/
namespace Go.Proofs.YtinnmeiphbdogaaGreat
theorem vI (a : List ByteArray) (ts : List aH) (t : aH) : cQ a (ts ++ [t]) = bK (cQ a ts) t := by unfold cQ; rw [List.foldl_append]; rfl
theorem aF7 (a : List ByteArray) (t : aH) : (bK a t).take a.length = a := by
 unfold bK
 split
 ·exact List.take_left
 ·exact List.take_length
theorem rV : ∀ (ts : List aH) (a : List ByteArray), (cQ a ts).take a.length = a
 | [], a => List.take_length
 | t :: ts, a => jA (aF7 a t) (rV ts (bK a t))
theorem aD9 (a : List ByteArray) (l : aO) : (bV a l).take a.length = a := by
 unfold bV
 split
 ·exact rV _ _
 ·exact List.take_length
theorem yR : ∀ (ls : List aO) (a : List ByteArray), (ls.foldl bV a).take a.length = a
 | [], a => List.take_length
 | l :: ls, a => jA (aD9 a l) (yR ls (bV a l))
theorem lR (ls : List aO) (i : Nat) : (aB ls).take (aB (ls.take i)).length = aB (ls.take i) := by
 have h := yR (ls.drop i) (aB (ls.take i))
 have e : (ls.drop i).foldl bV (aB (ls.take i)) = aB ls := by
  unfold aB
  rw [<- List.foldl_append, List.take_append_drop]
 rw [e] at h; exact h
theorem iA {ls : List aO} {i : Nat} {l : aO} (h : ls[i]? = some l) : aB (ls.take (i + 1)) = bV (aB (ls.take i)) l := by
 rw [List.take_add_one, h]
 unfold aB
 rw [List.foldl_append]; rfl
theorem aIg {a : List ByteArray} (h : a.Nodup) (t : aH) : (bK a t).Nodup := by
 unfold bK
 split
 ·rename_i h1
  refine List.nodup_append.2 ⟨h, by simp, fun x hx y hy => ?_⟩
  rw [List.mem_singleton] at hy
  subst hy
  intro e; subst e
  have := cU.2 hx
  rw [h1.2] at this; cases this
 ·exact h
theorem qP : ∀ (ts : List aH) {a : List ByteArray}, a.Nodup -> (cQ a ts).Nodup
 | [], _, h => h
 | t :: ts, _, h => qP ts (aIg h t)
theorem qQ : ∀ (ls : List aO) {a : List ByteArray}, a.Nodup -> (ls.foldl bV a).Nodup
 | [], _, h => h
 | l :: ls, _, h => qQ ls (by unfold bV; split; exact qP _ h; exact h)
theorem bT (ls : List aO) : (aB ls).Nodup := qQ ls List.nodup_nil
theorem lX {e : dL} {ts : List aH} {x : List ByteArray} (he : EnvOk e) : ∀ {k : Nat} {f : dL}, jX e ts x k = some f -> EnvOk f /\ EnvLe e f /\ f.1 = cQ e.1 (ts.take k) /\ ∀ (i : Nat) (t : aH), i < k -> ts[i]? = some t -> yT f t (bH x i)
 | 0, f, h => by
  cases h
  exact ⟨he, EnvLe.refl _, by rw [List.take_zero]; rfl, fun i t hi => by omega⟩
 | k + 1, f, h => by
  unfold jX at h
  split at h
  ·rename_i g t hg ht
   obtain ⟨h1, h2, h3, h4⟩ := lX he hg
   obtain ⟨h5, h6, h7, h8⟩ := aCn h1 h
   refine ⟨h5, h2.trans h6, ?_, fun i u hi hu => ?_⟩
   ·rw [h7, h3, List.take_add_one, ht]
    exact (vI _ _ _).symm
   ·rcases Nat.lt_or_eq_of_le (Nat.le_of_lt_succ hi) with h9 | h9
    ·exact h6.fit (h4 i u h9 hu)
    ·subst h9
     rw [ht] at hu; cases hu
     exact h8
  ·cases h
theorem sD {e g : dL} {ts : List aH} {x : List ByteArray} (he : EnvOk e) (hg : EnvOk g) (hle : EnvLe e g) : ∀ {k : Nat}, k ≤ ts.length -> g.1.take (cQ e.1 (ts.take k)).length = cQ e.1 (ts.take k) -> (∀ (i : Nat) (t : aH), ts[i]? = some t -> yT g t (bH x i)) -> ∃ f, jX e ts x k = some f /\ EnvLe f g
 | 0, _, _, _ => ⟨e, rfl, hle⟩
 | k + 1, hk, hn, h => by
  obtain ⟨t, ht⟩ : ∃ t, ts[k]? = some t := ⟨_, qG (by omega)⟩
  have e1 : ts.take (k + 1) = ts.take k ++ [t] := by rw [List.take_add_one, ht]; rfl
  rw [e1, vI] at hn
  obtain ⟨f, hf, hle2⟩ := sD he hg hle (by omega) (jA (aF7 _ _) hn) h
  obtain ⟨h1, h2, h3, h4⟩ := lX he hf
  obtain ⟨f2, hf2, hle3⟩ := aEt h1 hg hle2 (by rw [h3]; exact hn) (h k t ht)
  refine ⟨f2, ?_, hle3⟩
  unfold jX
  rw [hf, ht]; exact hf2
structure FromOk (ls : List aO) (R : Nat -> aD) (i : Nat) (e : dL) : Prop where
 ok : EnvOk e
 names : e.1 = aB (ls.take i)
 done : ∀ (j : Nat) (l : aO), j < i -> ls[j]? = some l -> l.1 = 1 -> ∃ x ∈ R j, x.length = (aA l).length /\ aCo e.1 e.2 (aA l) x
theorem FromOk.start (ls : List aO) (R : Nat -> aD) : FromOk ls R 0 ([], []) := ⟨⟨List.nodup_nil, rfl⟩, by rw [List.take_zero]; rfl, fun j l hj => by omega⟩
theorem FromOk.skip {ls : List aO} {R : Nat -> aD} {i : Nat} {e : dL} (h : FromOk ls R i e) {l : aO} (hl : ls[i]? = some l) (hk : l.1 ≠ 1) : FromOk ls R (i + 1) e :=
 ⟨h.ok, by rw [h.names, iA hl]; unfold bV; rw [if_neg hk], fun j m hj hm h1 => by
  rcases Nat.lt_or_eq_of_le (Nat.le_of_lt_succ hj) with h2 | h2
  ·exact h.done j m h2 hm h1
  ·subst h2; rw [hl] at hm; cases hm; exact absurd h1 hk⟩
theorem EnvLe.fitA {e f : dL} (h : EnvLe e f) {ts : List aH} {x : List ByteArray} (hx : aCo e.1 e.2 ts x) : aCo f.1 f.2 ts x := fun i t hi => h.fit (hx i t hi)
theorem FromOk.next {ls : List aO} {R : Nat -> aD} {i : Nat} {e f : dL} (h : FromOk ls R i e) {l : aO} (hl : ls[i]? = some l) (hk : l.1 = 1) {x : List ByteArray} (hx : x ∈ R i) (hxl : x.length = (aA l).length) (hf : jX e (aA l) x (aA l).length = some f) : FromOk ls R (i + 1) f /\ EnvLe e f := by
 obtain ⟨h1, h2, h3, h4⟩ := lX h.ok hf
 rw [List.take_length] at h3
 refine ⟨⟨h1, ?_, fun j m hj hm hm1 => ?_⟩, h2⟩
 ·rw [h3, h.names, iA hl]; unfold bV; rw [if_pos hk]
 ·rcases Nat.lt_or_eq_of_le (Nat.le_of_lt_succ hj) with h5 | h5
  ·obtain ⟨y, hy, hyl, hyf⟩ := h.done j m h5 hm hm1
   exact ⟨y, hy, hyl, h2.fitA hyf⟩
  ·subst h5; rw [hl] at hm; cases hm
   exact ⟨x, hx, hxl, fun j t hj2 => h4 j t (List.getElem?_eq_some_iff.1 hj2).1 hj2⟩
theorem FromOk.has {ls : List aO} {R : Nat -> aD} {i : Nat} {e : dL} (h : FromOk ls R i e) {l : aO} (hl : ls[i]? = some l) (hk : l.1 = 1) {V : List ByteArray} (hV : bZ ls R V) (hp : V.take e.2.length = e.2) :
 ∃ x ∈ R i, x.length = (aA l).length /\ ∃ f, jX e (aA l) x (aA l).length = some f /\ V.take f.2.length = f.2 := by
 have h1 := hV.2 i l hl
 unfold gD at h1
 rw [if_pos hk] at h1
 obtain ⟨x, hx, hxl, hxf⟩ := h1
 have hg : EnvOk (aB ls, V) := ⟨bT ls, hV.1⟩
 have hle : EnvLe e (aB ls, V) := ⟨by rw [h.names]; exact lR ls i, hp⟩
 obtain ⟨f, hf, hle2⟩ := sD (x := x) h.ok hg hle (Nat.le_refl (aA l).length) (by
  rw [List.take_length, h.names]
  have := lR ls (i + 1)
  rw [iA hl] at this
  unfold bV at this
  rw [if_pos hk] at this
  exact this) hxf
 exact ⟨x, hx, hxl, f, hf, hle2.vals⟩
theorem FromOk.len {ls : List aO} {R : Nat -> aD} {i : Nat} {e : dL} (h : FromOk ls R i e) : e.2.length = (aB (ls.take i)).length := by rw [h.ok.len, h.names]
theorem FromOk.last {ls : List aO} {R : Nat -> aD} {e : dL} (h : FromOk ls R ls.length e) : e.1 = aB ls /\ (bZ ls R e.2 ↔ ∀ (i : Nat) (l : aO), ls[i]? = some l -> l.1 ≠ 1 -> gD (aB ls) e.2 (R i) l) /\ ∀ V, bZ ls R V -> V.length = e.2.length := by
 have hn : e.1 = aB ls := by rw [h.names, List.take_length]
 have hl : e.2.length = (aB ls).length := by rw [h.ok.len, hn]
 refine ⟨hn, ⟨fun hB i l hi _ => hB.2 i l hi, fun hB => ⟨hl, fun i l hi => ?_⟩⟩, fun V hV => by rw [hV.1, hl]⟩
 by_cases hk : l.1 = 1
 ·unfold gD
  rw [if_pos hk]
  have := h.done i l (List.getElem?_eq_some_iff.1 hi).1 hi hk
  rw [hn] at this; exact this
 ·exact hB i l hi hk
end Go.Proofs.YtinnmeiphbdogaaGreat
/- Leaping through followers of several tries: plain. -/
namespace Go.Proofs.YtinnmeiphbdogaaGreat
structure CurZ where
 keys : List ByteArray
 lo : Nat
 hi : Nat
structure CurOk (c : CurZ) : Prop where
 le : c.lo ≤ c.hi
 few : c.hi ≤ c.keys.length
 rise : ∀ (k l : Nat) (x y : ByteArray), c.lo ≤ k -> k < l -> l < c.hi -> c.keys[k]? = some x -> c.keys[l]? = some y -> bG x.toList y.toList < 0
def lF (c : CurZ) (p : Nat) (x : ByteArray) : Prop := ∃ k, p ≤ k /\ k < c.hi /\ c.keys[k]? = some x
theorem jL {a b c : ByteArray} (h : bG a.toList b.toList < 0) (h' : bG b.toList c.toList < 0) : bG a.toList c.toList < 0 := by
 rw [eG] at h h' ⊢
 exact fL h h'
theorem xH {a b c : ByteArray} (h : bG a.toList b.toList < 0) (h' : ¬ bG c.toList b.toList < 0) : bG a.toList c.toList < 0 := by
 rcases jN b.toList c.toList with h2 | h2 | h2
 ·exact jL h (by omega)
 ·rw [<- dY (fR h2)]; exact h
 ·have := fS b.toList c.toList
  omega
section
variable {Sol : List ByteArray -> Prop} {p : List ByteArray} {Cs : List CurZ}
structure LeapInv (Sol : List ByteArray -> Prop) (p : List ByteArray) (Cs : List CurZ) (pos : Nat -> Nat) (i : Nat) (D : ByteArray -> Prop) (L : aD) : Prop where
 ok : ∀ c ∈ Cs, CurOk c
 here : i < Cs.length
 inn : ∀ j c, Cs[j]? = some c -> c.lo ≤ pos j /\ pos j ≤ c.hi
 told : PartB Sol p D L
 common : ∀ V, Sol V -> V.take p.length = p -> ∃ x, V[p.length]? = some x /\ (D x \/ ∀ (j : Nat) (c : CurZ), Cs[j]? = some c -> lF c (pos j) x)
 below : ∀ c x y, Cs[i]? = some c -> D x -> lF c (pos i) y -> bG x.toList y.toList < 0
theorem LeapInv.start (hok : ∀ c ∈ Cs, CurOk c) (hne : 0 < Cs.length) (hc : ∀ V, Sol V -> V.take p.length = p -> ∃ x, V[p.length]? = some x /\ ∀ (j : Nat) (c : CurZ), Cs[j]? = some c -> lF c c.lo x) : LeapInv Sol p Cs (fun j => (Cs.getD j ⟨[], 0, 0⟩).lo) 0 (fun _ => False) [] := by
 refine ⟨hok, hne, fun j c hj => ?_, PartB.none fun V _ _ x _ h => h, fun V h1 h2 => ?_, fun c x y _ h => h.elim⟩
 ·have e : Cs.getD j ⟨[], 0, 0⟩ = c := by rw [List.getD_eq_getElem?_getD, hj]; rfl
  show _ ≤ (Cs.getD j ⟨[], 0, 0⟩).lo /\ (Cs.getD j ⟨[], 0, 0⟩).lo ≤ _
  rw [e]
  exact ⟨Nat.le_refl _, (hok c (List.mem_of_getElem? hj)).le⟩
 ·obtain ⟨x, hx, h3⟩ := hc V h1 h2
  refine ⟨x, hx, .inr fun j c hj => ?_⟩
  have e : Cs.getD j ⟨[], 0, 0⟩ = c := by rw [List.getD_eq_getElem?_getD, hj]; rfl
  show lF c (Cs.getD j ⟨[], 0, 0⟩).lo x
  rw [e]; exact h3 j c hj
theorem LeapInv.end {pos : Nat -> Nat} {i : Nat} {D : ByteArray -> Prop} {L : aD} (h : LeapInv Sol p Cs pos i D L) {j : Nat} {c : CurZ} (hj : Cs[j]? = some c) (he : pos j = c.hi) : AllB Sol p L := by
 refine h.told.all fun V h1 h2 => ?_
 obtain ⟨x, hx, h3⟩ := h.common V h1 h2
 refine ⟨x, hx, ?_⟩
 rcases h3 with h3 | h3
 ·exact h3
 ·obtain ⟨k, h4, h5, _⟩ := h3 j c hj
  omega
theorem LeapInv.seek {pos : Nat -> Nat} {i : Nat} {D : ByteArray -> Prop} {L : aD} (h : LeapInv Sol p Cs pos i D L) {ci : CurZ} (hi : Cs[i]? = some ci) (hlt : pos i < ci.hi) {key : ByteArray} (hk : ci.keys[pos i]? = some key) {j : Nat} {c : CurZ} (hj : Cs[j]? = some c) {q : Nat} (hq : pos j ≤ q) (hq2 : q ≤ c.hi) (hb : ∀ k x, pos j ≤ k -> k < q -> c.keys[k]? = some x -> bG x.toList key.toList < 0) (hij : j = i -> q = pos i) :
 LeapInv Sol p Cs (fun m => if m = j then q else pos m) i D L := by
 have hp := h.inn j c hj
 refine ⟨h.ok, h.here, fun m d hm => ?_, h.told, fun V h1 h2 => ?_, fun d x y hd hx hy => ?_⟩
 ·show _ ≤ (if m = j then q else pos m) /\ (if m = j then q else pos m) ≤ _
  split
  ·rename_i e; subst e
   rw [hj] at hm; cases hm
   exact ⟨by omega, hq2⟩
  ·exact h.inn m d hm
 ·obtain ⟨x, hx, h3⟩ := h.common V h1 h2
  refine ⟨x, hx, ?_⟩
  rcases h3 with h3 | h3
  ·exact .inl h3
  ·refine .inr fun m d hm => ?_
   show lF d (if m = j then q else pos m) x
   split
   ·rename_i e; subst e
    rw [hj] at hm; cases hm
    obtain ⟨k, h4, h5, h6⟩ := h3 m c hj
    obtain ⟨k', h7, h8, h9⟩ := h3 i ci hi
    refine ⟨k, ?_, h5, h6⟩
    rcases Nat.lt_or_ge k q with h10 | h10
    ·exfalso
     have h11 := hb k x h4 h10 h6
     rcases Nat.lt_or_eq_of_le h7 with h12 | h12
     ·have h13 := (h.ok ci (List.mem_of_getElem? hi)).rise (pos i) k' key x (h.inn i ci hi).1 h12 h8 hk h9
      have := fS x.toList key.toList
      omega
     ·subst h12
      rw [hk] at h9; cases h9
      rw [eJ] at h11; omega
    ·exact h10
   ·exact h3 m d hm
 ·have e : (if i = j then q else pos i) = pos i := by
   split
   ·rename_i e; exact hij e.symm
   ·rfl
  have hy' : lF d (pos i) y := by
   have h0 : lF d (if i = j then q else pos i) y := hy
   rw [e] at h0; exact h0
  exact h.below d x y hd hx hy'
theorem LeapInv.lead {pos : Nat -> Nat} {i : Nat} {D : ByteArray -> Prop} {L : aD} (h : LeapInv Sol p Cs pos i D L) {ci : CurZ} (hi : Cs[i]? = some ci) (hlt : pos i < ci.hi) {key : ByteArray} (hk : ci.keys[pos i]? = some key) {j : Nat} {c : CurZ} (hj : Cs[j]? = some c) (hl2 : pos j < c.hi) {key2 : ByteArray} (hk2 : c.keys[pos j]? = some key2) (hge : ¬ bG key2.toList key.toList < 0) : LeapInv Sol p Cs pos j D L := by
 refine ⟨h.ok, (List.getElem?_eq_some_iff.1 hj).1, h.inn, h.told, h.common, fun d x y hd hx hy => ?_⟩
 rw [hj] at hd; cases hd
 have h1 := h.below ci x key hi hx ⟨pos i, Nat.le_refl _, hlt, hk⟩
 have h2 := xH h1 hge
 obtain ⟨k, h3, h4, h5⟩ := hy
 rcases Nat.lt_or_eq_of_le h3 with h6 | h6
 ·exact jL h2 ((h.ok c (List.mem_of_getElem? hj)).rise (pos j) k key2 y (h.inn j c hj).1 h6 h4 hk2 h5)
 ·subst h6
  rw [hk2] at h5; cases h5
  exact h2
theorem LeapInv.next {pos : Nat -> Nat} {i : Nat} {D : ByteArray -> Prop} {L L' : aD} (h : LeapInv Sol p Cs pos i D L) {ci : CurZ} (hi : Cs[i]? = some ci) (hlt : pos i < ci.hi) {key : ByteArray} (hk : ci.keys[pos i]? = some key) (h' : AllB Sol (p ++ [key]) L') : LeapInv Sol p Cs (fun m => if m = i then pos i + 1 else pos m) i (fun y => D y \/ y = key) (L ++ L') := by
 refine ⟨h.ok, h.here, fun m d hm => ?_, h.told.next h' fun V h1 h2 y hy hD => h.below ci y key hi hD ⟨pos i, Nat.le_refl _, hlt, hk⟩, fun V h1 h2 => ?_, fun d x y hd hx hy => ?_⟩
 ·show _ ≤ (if m = i then pos i + 1 else pos m) /\ (if m = i then pos i + 1 else pos m) ≤ _
  split
  ·rename_i e; subst e
   rw [hi] at hm; cases hm
   have := (h.inn m ci hi).1
   exact ⟨by omega, hlt⟩
  ·exact h.inn m d hm
 ·obtain ⟨x, hx, h3⟩ := h.common V h1 h2
  refine ⟨x, hx, ?_⟩
  rcases h3 with h3 | h3
  ·exact .inl (.inl h3)
  ·by_cases e : x = key
   ·exact .inl (.inr e)
   ·refine .inr fun m d hm => ?_
    show lF d (if m = i then pos i + 1 else pos m) x
    split
    ·rename_i e2; subst e2
     rw [hi] at hm; cases hm
     obtain ⟨k, h4, h5, h6⟩ := h3 m ci hi
     refine ⟨k, ?_, h5, h6⟩
     rcases Nat.lt_or_eq_of_le h4 with h7 | h7
     ·exact h7
     ·subst h7; rw [hk] at h6; cases h6; exact absurd rfl e
    ·exact h3 m d hm
 ·rw [hi] at hd; cases hd
  have hy' : lF ci (pos i + 1) y := by
   have h0 : lF ci (if i = i then pos i + 1 else pos i) y := hy
   rw [if_pos rfl] at h0; exact h0
  obtain ⟨k, h3, h4, h5⟩ := hy'
  have h6 := (h.ok ci (List.mem_of_getElem? hi)).rise (pos i) k key y (h.inn i ci hi).1 (by omega) h4 hk h5
  rcases hx with hx | hx
  ·exact h.below ci x y hi hx ⟨k, by omega, h4, h5⟩
  ·rw [hx]; exact h6
end
end Go.Proofs.YtinnmeiphbdogaaGreat
/- Tries: the followers of a beginning are places side by side. Plain. -/
namespace Go.Proofs.YtinnmeiphbdogaaGreat
section
variable {W : aD} {d : Nat}
def SpanOf (W : aD) (d : Nat) (q : List ByteArray) (a b : Nat) : Prop := ∃ lo hi, Iv W q lo hi /\ a = aQ W d q.length lo /\ b = aQ W d q.length hi
theorem aDf (i : Nat) : aQ W d i 0 = 0 := by
 have := dH W d i 0
 unfold aQ; omega
theorem lH (i : Nat) {m n : Nat} (h : m ≤ n) : aQ W d i m ≤ aQ W d i n := by
 obtain ⟨r, e, _⟩ := mJ W d i h
 unfold aQ
 rw [e, List.length_append]; omega
theorem aGm (hne : 0 < W.length) : SpanOf W d [] 0 (aQ W d 0 W.length) :=
 ⟨0, W.length, ⟨hne, Nat.le_refl _, fun n x hx => ⟨fun _ => ⟨Nat.zero_le _, (List.getElem?_eq_some_iff.1 hx).1⟩, fun _ => rfl⟩⟩, (aDf 0).symm, rfl⟩
theorem mM {i n k s : Nat} (h : (aW W d i n)[k]? = some s) {m : Nat} (hm : m ≤ n) : k < aQ W d i m ↔ s < m := by
 obtain ⟨r, e, hr⟩ := mJ W d i hm
 rw [e] at h
 unfold aQ
 refine ⟨fun hk => ?_, fun hs => ?_⟩
 ·rw [List.getElem?_append_left hk] at h
  exact (lL h).2
 ·rcases Nat.lt_or_ge k (aW W d i m).length with h1 | h1
  ·exact h1
  ·rw [List.getElem?_append_right h1] at h
   have := hr _ (List.mem_of_getElem? h)
   omega
theorem WaysOk.cell (h : WaysOk W d) {n : Nat} {r : List ByteArray} (hr : W[n]? = some r) {i : Nat} (hi : i < d) : ∃ x, r[i]? = some x /\ r.take (i + 1) = r.take i ++ [x] := by
 have hl : i < r.length := by rw [h.len r (List.mem_of_getElem? hr)]; exact hi
 refine ⟨_, qG hl, ?_⟩
 rw [List.take_add_one, qG hl]; rfl
theorem SpanOf.place (hW : WaysOk W d) {q : List ByteArray} {a b : Nat} (h : SpanOf W d q a b) (hq : q.length < d) {k : Nat} (ha : a ≤ k) (hb : k < b) :
 ∃ s r x, (aW W d q.length W.length)[k]? = some s /\ W[s]? = some r /\ r.take (q.length + 1) = q ++ [x] /\ (bR W d q.length W.length)[k]? = some x /\ Iv W (q ++ [x]) s ((aW W d q.length W.length).getD (k + 1) W.length) := by
 obtain ⟨lo, hi, hI, rfl, rfl⟩ := h
 have hkS : k < (aW W d q.length W.length).length := Nat.lt_of_lt_of_le hb (lH _ hI.few)
 obtain ⟨s, hs⟩ : ∃ s, (aW W d q.length W.length)[k]? = some s := ⟨_, qG hkS⟩
 have hsn := (lL hs).2
 have h1 : s < hi := (mM hs hI.few).1 hb
 have h2 : ¬ s < lo := fun h => Nat.not_lt.2 ha ((mM hs (Nat.le_trans (Nat.le_of_lt hI.le) hI.few)).2 h)
 obtain ⟨r, hr⟩ : ∃ r, W[s]? = some r := ⟨_, qG hsn⟩
 obtain ⟨x, hx, et⟩ := hW.cell hr hq
 have eq : r.take q.length = q := (hI.iff s r hr).2 ⟨by omega, h1⟩
 rw [eq] at et
 have hst := (lM hq).1 (List.mem_of_getElem? hs)
 refine ⟨s, r, x, hs, hr, et, ?_, ?_, ?_, ?_⟩
 ·unfold bR
  rw [List.getElem?_map, hs]
  show some ((W.getD s []).getD q.length ByteArray.empty) = some x
  rw [bI hr, bI hx]
 ·rw [List.getD_eq_getElem?_getD]
  cases h4 : (aW W d q.length W.length)[k + 1]? with
  | none => exact hsn
  | some e =>
   obtain ⟨l1, e1⟩ := List.getElem?_eq_some_iff.1 hs
   obtain ⟨l2, e2⟩ := List.getElem?_eq_some_iff.1 h4
   have := List.pairwise_iff_getElem.1 (fQ W d q.length W.length) k (k + 1) l1 l2 (by omega)
   rw [e1, e2] at this
   exact this
 ·rw [List.getD_eq_getElem?_getD]
  cases h4 : (aW W d q.length W.length)[k + 1]? with
  | none => exact Nat.le_refl _
  | some e => exact Nat.le_of_lt (lL h4).2
 ·intro n y hy
  have hn := (List.getElem?_eq_some_iff.1 hy).1
  rw [List.length_append, List.length_singleton, <- et]
  refine ⟨fun he => ⟨?_, ?_⟩, fun ⟨h3, h4⟩ => ?_⟩
  ·rcases Nat.lt_or_ge n s with h3 | h3
   ·exfalso
    rcases eI.1 hst.2 with h4 | h4
    ·omega
    ·obtain ⟨z, hz⟩ : ∃ z, W[s - 1]? = some z := ⟨_, qG (by omega)⟩
     rw [bI hz, bI hr] at h4
     exact h4 ((hW.between hy hz hr (by omega) (by omega) he).trans he)
   ·exact h3
  ·rcases Nat.lt_or_ge n ((aW W d q.length W.length).getD (k + 1) W.length) with h3 | h3
   ·exact h3
   ·exfalso
    rw [List.getD_eq_getElem?_getD] at h3
    cases h4 : (aW W d q.length W.length)[k + 1]? with
    | none =>
     rw [h4] at h3
     have h5 : W.length ≤ n := h3
     omega
    | some e =>
     rw [h4] at h3
     have h5 : e ≤ n := h3
     have h6 := (lM hq).1 (List.mem_of_getElem? h4)
     obtain ⟨l1, e1⟩ := List.getElem?_eq_some_iff.1 hs
     obtain ⟨l2, e2⟩ := List.getElem?_eq_some_iff.1 h4
     have h7 := List.pairwise_iff_getElem.1 (fQ W d q.length W.length) k (k + 1) l1 l2 (by omega)
     rw [e1, e2] at h7
     obtain ⟨z, hz⟩ : ∃ z, W[e - 1]? = some z := ⟨_, qG (by omega)⟩
     obtain ⟨u, hu⟩ : ∃ u, W[e]? = some u := ⟨_, qG (by omega)⟩
     rcases eI.1 h6.2 with h8 | h8
     ·omega
     ·rw [bI hz, bI hu] at h8
      exact h8 ((hW.between hr hz hy (by omega) (by omega) he.symm).trans (hW.between hr hu hy (by omega) h5 he.symm).symm)
  ·-- no start lies between
   have key : ∀ m, s ≤ m -> m ≤ n -> ∀ z, W[m]? = some z -> z.take (q.length + 1) = r.take (q.length + 1) := by
    intro m
    induction m with
    | zero =>
     intro h5 _ z hz
     have : s = 0 := by omega
     rw [this] at hr
     rw [hr] at hz; cases hz; rfl
    | succ m ih =>
     intro h5 h6 z hz
     rcases Nat.lt_or_eq_of_le h5 with h7 | h7
     ·obtain ⟨u, hu⟩ : ∃ u, W[m]? = some u := ⟨_, qG (by omega)⟩
      have h8 := ih (by omega) (by omega) u hu
      have h9 : ¬ cY W (q.length + 1) (m + 1) = true := fun h10 => by
       have hm := (lM (W := W) (n := W.length) hq).2 ⟨(List.getElem?_eq_some_iff.1 hz).1, h10⟩
       obtain ⟨j, hj⟩ := List.mem_iff_getElem?.1 hm
       obtain ⟨l1, e1⟩ := List.getElem?_eq_some_iff.1 hs
       obtain ⟨l2, e2⟩ := List.getElem?_eq_some_iff.1 hj
       have hjk : k < j := by
        rcases Nat.lt_trichotomy k j with h | h | h
        ·exact h
        ·subst h; rw [hs] at hj; cases hj; omega
        ·have := List.pairwise_iff_getElem.1 (fQ W d q.length W.length) j k l2 l1 h
         rw [e1, e2] at this; omega
       rw [List.getD_eq_getElem?_getD, qG (by omega : k + 1 < _)] at h4
       have h11 : n < (aW W d q.length W.length)[k + 1] := h4
       rcases Nat.lt_or_eq_of_le (show k + 1 ≤ j from hjk) with h | h
       ·have := List.pairwise_iff_getElem.1 (fQ W d q.length W.length) (k + 1) j (by omega) l2 h
        rw [e2] at this; omega
       ·subst h; rw [e2] at h11; omega
      have h12 : u.take (q.length + 1) = z.take (q.length + 1) := by
       refine Classical.byContradiction fun h13 => h9 (eI.2 (.inr ?_))
       rw [Nat.add_sub_cancel, bI hu, bI hz]; exact h13
      rw [<- h12]; exact h8
     ·rw [<- h7] at hz
      rw [hr] at hz; cases hz; rfl
   exact key n h3 (Nat.le_refl _) y hy
theorem SpanOf.all (hW : WaysOk W d) {q : List ByteArray} {a b : Nat} (h : SpanOf W d q a b) (hq : q.length < d) {x : ByteArray} {r : List ByteArray} (hr : r ∈ W) (he : r.take (q.length + 1) = q ++ [x]) :
 ∃ k, a ≤ k /\ k < b /\ (bR W d q.length W.length)[k]? = some x := by
 have hS := h
 obtain ⟨lo, hi, hI, ea, eb⟩ := h
 obtain ⟨n, hn⟩ := List.mem_iff_getElem?.1 hr
 have hnl := (List.getElem?_eq_some_iff.1 hn).1
 have e1 : r.take q.length = q := by
  have := congrArg (List.take q.length) he
  rw [List.take_take, List.take_left] at this
  rw [show min q.length (q.length + 1) = q.length by omega] at this
  exact this
 obtain ⟨h1, h2⟩ := (hI.iff n r hn).1 e1
 have hlo : cY W (q.length + 1) lo = true := by
  refine eI.2 ?_
  by_cases h0 : lo = 0
  ·exact .inl h0
  ·refine .inr fun h3 => ?_
   obtain ⟨z, hz⟩ : ∃ z, W[lo - 1]? = some z := ⟨_, qG (by omega)⟩
   obtain ⟨u, hu⟩ : ∃ u, W[lo]? = some u := ⟨_, qG (by omega)⟩
   rw [bI hz, bI hu] at h3
   have h4 : z.take q.length = u.take q.length := by
    have := congrArg (List.take q.length) h3
    rw [List.take_take, List.take_take] at this
    rw [show min q.length (q.length + 1) = q.length by omega] at this
    exact this
   have h5 := (hI.iff lo u hu).2 ⟨Nat.le_refl _, hI.le⟩
   have h6 := ((hI.iff (lo - 1) z hz).1 (h4.trans h5)).1
   omega
 have hml : lo ∈ aW W d q.length (n + 1) := (lM hq).2 ⟨by omega, hlo⟩
 obtain ⟨j, hj⟩ := List.mem_iff_getElem?.1 hml
 have hjl := (List.getElem?_eq_some_iff.1 hj).1
 obtain ⟨k, ek⟩ : ∃ k, aQ W d q.length (n + 1) = k + 1 := ⟨aQ W d q.length (n + 1) - 1, by unfold aQ; omega⟩
 have hka : a ≤ k := by
  have h3 : ¬ j < aQ W d q.length lo := fun h => absurd ((mM hj (by omega)).1 h) (by omega)
  have h4 : j < aQ W d q.length (n + 1) := hjl
  omega
 have hkb : k < b := by
  have := lH (W := W) (d := d) q.length (show n + 1 ≤ hi from h2)
  omega
 obtain ⟨s, r', x', hs, hr', he', hk', hI'⟩ := hS.place hW hq hka hkb
 refine ⟨k, hka, hkb, ?_⟩
 have hsn : s < n + 1 := (mM hs (by omega)).1 (by omega)
 have hne : n < (aW W d q.length W.length).getD (k + 1) W.length := by
  rw [List.getD_eq_getElem?_getD]
  cases h4 : (aW W d q.length W.length)[k + 1]? with
  | none => exact hnl
  | some e =>
   have h5 : ¬ e < n + 1 := fun h => absurd ((mM h4 (by omega)).2 h) (by omega)
   show n < e
   omega
 have h7 := (hI'.iff n r hn).2 ⟨by omega, hne⟩
 rw [List.length_append, List.length_singleton, he] at h7
 have h8 := (List.append_inj h7 rfl).2
 rw [hk']
 simpa using h8.symm
theorem SpanOf.rise (hW : WaysOk W d) {q : List ByteArray} {a b : Nat} (h : SpanOf W d q a b) (hq : q.length < d) {k l : Nat} (ha : a ≤ k) (hl : k < l) (hb : l < b) {x y : ByteArray} (hx : (bR W d q.length W.length)[k]? = some x) (hy : (bR W d q.length W.length)[l]? = some y) : bG x.toList y.toList < 0 := by
 obtain ⟨s, r, x', hs, hr, he, hk, hI⟩ := h.place hW hq ha (by omega)
 obtain ⟨t, u, y', ht, hu, he2, hk2, hI2⟩ := h.place hW hq (show a ≤ l by omega) hb
 rw [hk] at hx; cases hx
 rw [hk2] at hy; cases hy
 obtain ⟨l1, e1⟩ := List.getElem?_eq_some_iff.1 hs
 obtain ⟨l2, e2⟩ := List.getElem?_eq_some_iff.1 ht
 have hst := List.pairwise_iff_getElem.1 (fQ W d q.length W.length) k l l1 l2 hl
 rw [e1, e2] at hst
 have h1 := kC (q.length + 1) ((hW.len r (List.mem_of_getElem? hr)).trans (hW.len u (List.mem_of_getElem? hu)).symm) (hW.le hr hu (Nat.le_of_lt hst))
 rw [he, he2, tK] at h1
 have h2 : bG x.toList y.toList ≠ 0 := fun e => by
  have exy : x = y := dY (fR e)
  subst exy
  have h3 := ((hI2.iff s r hr).1 (by rw [List.length_append, List.length_singleton]; exact he)).1
  omega
 omega
theorem SpanOf.down (hW : WaysOk W d) {q : List ByteArray} {a b : Nat} (h : SpanOf W d q a b) (hq : q.length < d) {k : Nat} (ha : a ≤ k) (hb : k < b) {x : ByteArray} (hx : (bR W d q.length W.length)[k]? = some x) :
 ∃ f t, (bX W d q.length W.length ++ [(aQ W d (q.length + 1) W.length : Int)])[k]? = some ((f : Nat) : Int) /\ (bX W d q.length W.length ++ [(aQ W d (q.length + 1) W.length : Int)])[k + 1]? = some ((t : Nat) : Int) /\ SpanOf W d (q ++ [x]) f t := by
 obtain ⟨s, r, x', hs, hr, he, hk, hI⟩ := h.place hW hq ha hb
 rw [hk] at hx; cases hx
 refine ⟨aQ W d (q.length + 1) s, aQ W d (q.length + 1) ((aW W d q.length W.length).getD (k + 1) W.length), ?_, ?_, s, _, hI, by rw [List.length_append, List.length_singleton], by rw [List.length_append, List.length_singleton]⟩
 ·have hkl : k < (bX W d q.length W.length).length := by rw [iD]; exact (List.getElem?_eq_some_iff.1 hs).1
  rw [List.getElem?_append_left hkl]
  unfold bX
  rw [List.getElem?_map, hs]; rfl
 ·rw [List.getD_eq_getElem?_getD]
  cases h4 : (aW W d q.length W.length)[k + 1]? with
  | none =>
   have h5 := List.getElem?_eq_none_iff.1 h4
   have h6 := (List.getElem?_eq_some_iff.1 hs).1
   have h7 : (bX W d q.length W.length).length = k + 1 := by rw [iD]; unfold aQ; omega
   rw [List.getElem?_append_right (by omega), h7, Nat.sub_self]; rfl
  | some e =>
   have hkl : k + 1 < (bX W d q.length W.length).length := by rw [iD]; exact (List.getElem?_eq_some_iff.1 h4).1
   rw [List.getElem?_append_left hkl]
   unfold bX
   rw [List.getElem?_map, h4]; rfl
theorem SpanOf.le {q : List ByteArray} {a b : Nat} (h : SpanOf W d q a b) : a ≤ b /\ b ≤ aQ W d q.length W.length := by
 obtain ⟨lo, hi, hI, rfl, rfl⟩ := h
 exact ⟨lH _ (Nat.le_of_lt hI.le), lH _ hI.few⟩
theorem SpanOf.some (hW : WaysOk W d) {q : List ByteArray} {a b : Nat} (h : SpanOf W d q a b) (hq : q.length < d) : a < b := by
 have hS := h
 obtain ⟨lo, hi, hI, ea, eb⟩ := h
 obtain ⟨r, hr⟩ : ∃ r, W[lo]? = .some r := ⟨_, qG (Nat.lt_of_lt_of_le hI.le hI.few)⟩
 obtain ⟨x, hx, et⟩ := hW.cell hr hq
 have e := (hI.iff lo r hr).2 ⟨Nat.le_refl _, hI.le⟩
 rw [e] at et
 obtain ⟨k, h1, h2, _⟩ := hS.all hW hq (List.mem_of_getElem? hr) et
 omega
end
end Go.Proofs.YtinnmeiphbdogaaGreat
/- Tries: how levels grow, way by way; where a cursor stands. Plain. -/
namespace Go.Proofs.YtinnmeiphbdogaaGreat
section
variable {W : aD} {d : Nat}
theorem rX {i n : Nat} (hi : i < d) {r : List ByteArray} {x : ByteArray} (hr : W[n]? = some r) (hx : r[i]? = some x) : bR W d i (n + 1) = bR W d i n ++ if cY W (i + 1) n then [x] else [] := by
 unfold bR
 rw [mK W hi, List.map_append]
 congr 1
 split
 ·rw [List.map_singleton, bI hr, bI hx]
 ·rfl
theorem rZ {i n : Nat} (hi : i < d) : bX W d i (n + 1) = bX W d i n ++ if cY W (i + 1) n then [(aQ W d (i + 1) n : Int)] else [] := by
 unfold bX
 rw [mK W hi, List.map_append]
 congr 1
 split
 ·rfl
 ·rfl
theorem pI {n : Nat} : aQ W d d n = n := by unfold aQ; rw [mL W (Nat.lt_irrefl d), List.length_range]
theorem aDy {n : Nat} : cY W 0 n = (n == 0) := by
 unfold cY
 rw [List.take_zero, List.take_zero]
 simp
structure PathOk (W : aD) (d : Nat) (q : List ByteArray) (st : List (Nat × Nat)) : Prop where
 len : st.length = q.length
 at_ : ∀ (j : Nat) (e : Nat × Nat), st[j]? = some e -> ∃ a x, SpanOf W d (q.take j) a e.2 /\ a ≤ e.1 /\ e.1 < e.2 /\ q[j]? = some x /\ (bR W d j W.length)[e.1]? = some x
 few : q.length ≤ d
theorem PathOk.nil : PathOk W d [] [] := ⟨rfl, fun j e h => by simp at h, Nat.zero_le _⟩
theorem PathOk.push {q : List ByteArray} {st : List (Nat × Nat)} (h : PathOk W d q st) (hq : q.length < d) {a b k : Nat} {x : ByteArray} (hs : SpanOf W d q a b) (ha : a ≤ k) (hb : k < b) (hx : (bR W d q.length W.length)[k]? = some x) : PathOk W d (q ++ [x]) (st ++ [(k, b)]) := by
 refine ⟨by simp [h.len], fun j e he => ?_, by simp; omega⟩
 rcases Nat.lt_trichotomy j st.length with h1 | h1 | h1
 ·rw [List.getElem?_append_left h1] at he
  obtain ⟨a', x', h2, h3, h4, h5, h6⟩ := h.at_ j e he
  have hj : j < q.length := by rw [<- h.len]; exact h1
  exact ⟨a', x', by rw [List.take_append_of_le_length (by omega)]; exact h2, h3, h4, by rw [List.getElem?_append_left hj]; exact h5, h6⟩
 ·subst h1
  rw [List.getElem?_append_right (Nat.le_refl _), Nat.sub_self] at he
  cases he
  refine ⟨a, x, ?_, ha, hb, ?_, ?_⟩
  ·rw [h.len, List.take_left]; exact hs
  ·rw [h.len, List.getElem?_append_right (Nat.le_refl _), Nat.sub_self]; rfl
  ·rw [h.len]; exact hx
 ·rw [List.getElem?_append_right (by omega)] at he
  have : j - st.length ≠ 0 := by omega
  cases hj : j - st.length with
  | zero => omega
  | succ m => rw [hj] at he; simp at he
theorem PathOk.open (hW : WaysOk W d) (hne : 0 < W.length) {q : List ByteArray} {st : List (Nat × Nat)} (h : PathOk W d q st) (hq : q.length < d) :
 ∃ a b, SpanOf W d q a b /\ a < b /\ ((q = [] /\ a = 0 /\ b = aQ W d 0 W.length) \/
  ∃ (m : Nat) (e : Nat × Nat), q.length = m + 1 /\ st[m]? = some e /\ (bX W d m W.length ++ [(aQ W d (m + 1) W.length : Int)])[e.1]? = some ((a : Nat) : Int) /\ (bX W d m W.length ++ [(aQ W d (m + 1) W.length : Int)])[e.1 + 1]? = some ((b : Nat) : Int)) := by
 cases hl : q.length with
 | zero =>
  have e : q = [] := List.eq_nil_of_length_eq_zero hl
  subst e
  have hs := aGm (W := W) (d := d) hne
  exact ⟨0, _, hs, hs.some hW hq, .inl ⟨rfl, rfl, rfl⟩⟩
 | succ m =>
  obtain ⟨e, he⟩ : ∃ e, st[m]? = some e := ⟨_, qG (by rw [h.len, hl]; omega)⟩
  obtain ⟨a', x, h1, h2, h3, h4, h5⟩ := h.at_ m e he
  have hlen : (q.take m).length = m := by rw [List.length_take]; omega
  have hd := h1.down hW (by rw [hlen]; omega) h2 h3 (x := x) (by rw [hlen]; exact h5)
  rw [hlen] at hd
  obtain ⟨f, t, h6, h7, h8⟩ := hd
  have eq : q.take m ++ [x] = q := by
   have : q.take (m + 1) = q.take m ++ [x] := by rw [List.take_add_one, h4]; rfl
   rw [<- this, <- hl, List.take_length]
  rw [eq] at h8
  exact ⟨f, t, h8, h8.some hW hq, .inr ⟨m, e, rfl, he, h6, h7⟩⟩
end
end Go.Proofs.YtinnmeiphbdogaaGreat
/- The program's tables and tests, and what a rule's bindings are: plain. -/
namespace Go.Proofs.YtinnmeiphbdogaaGreat
def gG (N V : List ByteArray) (R : aD) (l : aO) : Prop :=
 if l.1 = 1 then (aM N (aA l)).map (bH V) ∈ cK N (aA l) R
 else if l.1 = 2 then ¬ (aM N (aA l)).map (bH V) ∈ cK N (aA l) R
 else qL (iI l) (tT N V (leftOf l)) (tT N V (aR l))
theorem aC6 {N V : List ByteArray} {R : aD} {l : aO} (hN : N.Nodup) (hV : V.length = N.length) (hin : l.1 = 1 \/ l.1 = 2 -> ∀ t ∈ aA l, t.1 = 1 -> t.2.1 ∈ N) : gG N V R l ↔ gD N V R l := by
 unfold gG gD
 by_cases h1 : l.1 = 1
 ·rw [if_pos h1, if_pos h1]; exact aFs R hN hV (hin (.inl h1))
 ·rw [if_neg h1, if_neg h1]
  by_cases h2 : l.1 = 2
  ·rw [if_pos h2, if_pos h2, aFs R hN hV (hin (.inr h2))]
  ·rw [if_neg h2, if_neg h2]
theorem yE : ∀ (ts : List aH) (a : List ByteArray) (t : aH), t ∈ ts -> t.1 = 1 -> t.2.1 ∈ cQ a ts
 | [], _, _, h, _ => by simp at h
 | u :: ts, a, t, h, h1 => by
  show t.2.1 ∈ cQ (bK a u) ts
  rcases List.mem_cons.1 h with h | h
  ·subst h
   have hm : t.2.1 ∈ bK a t := by
    unfold bK
    split
    ·simp
    ·rename_i h2
     rw [<- cU]
     cases h3 : mF a t.2.1 with
     | true => rfl
     | false => exact absurd ⟨h1, h3⟩ h2
   have hp := rV ts (bK a t)
   rw [<- hp] at hm
   exact List.mem_of_mem_take hm
  ·exact yE ts (bK a u) t h h1
theorem aEb {ls : List aO} {l : aO} (hl : l ∈ ls) (h1 : l.1 = 1) {t : aH} (ht : t ∈ aA l) (h : t.1 = 1) : t.2.1 ∈ aB ls := by
 obtain ⟨i, hi⟩ := List.mem_iff_getElem?.1 hl
 have e := iA hi
 have hm : t.2.1 ∈ aB (ls.take (i + 1)) := by
  rw [e]; unfold bV; rw [if_pos h1]
  exact yE _ _ _ ht h
 rw [<- lR ls (i + 1)] at hm
 exact List.mem_of_mem_take hm
theorem zM {r : cO} (h : bO r = 0) {l : aO} (hl : l ∈ r.2.1) (hk : l.1 = 1 \/ l.1 = 2) : ∀ t ∈ aA l, t.1 = 1 -> t.2.1 ∈ aB r.2.1 := fun t ht h1 => by
 rcases hk with hk | hk
 ·exact aEb hl hk ht h1
 ·unfold bO at h
  split at h
  ·split at h
   ·rename_i hp hs
    unfold qD at hs
    rw [Bool.and_eq_true] at hs
    have h2 := List.all_eq_true.1 hs.2 l hl
    unfold jS at h2
    rw [if_neg (by omega), if_pos hk] at h2
    have h3 := List.all_eq_true.1 h2 t ht
    unfold fC at h3
    rw [if_neg (by omega)] at h3
    rcases of_decide_eq_true h3 with h4 | h4 | h4
    ·omega
    ·omega
    ·exact cU.1 h4
   ·cases h
  ·cases h
theorem nZ {r : cO} (h : bO r = 0) {R : Nat -> aD} {V : List ByteArray} : bZ r.2.1 R V ↔ V.length = (aB r.2.1).length /\ ∀ (i : Nat) (l : aO), r.2.1[i]? = some l -> gG (aB r.2.1) V (R i) l := by
 unfold bZ
 refine and_congr_right fun hV => ⟨fun h1 i l hl => (aC6 (bT _) hV fun hk => zM h (List.mem_of_getElem? hl) hk).2 (h1 i l hl), fun h1 i l hl => (aC6 (bT _) hV fun hk => zM h (List.mem_of_getElem? hl) hk).1 (h1 i l hl)⟩
theorem vJ : ∀ (ts : List aH) (a : List ByteArray) (s : ByteArray), s ∈ cQ a ts -> s ∈ a \/ ∃ t ∈ ts, t.1 = 1 /\ t.2.1 = s
 | [], a, s, h => .inl h
 | t :: ts, a, s, h => by
  rcases vJ ts (bK a t) s h with h1 | ⟨u, hu, h1⟩
  ·unfold bK at h1
   split at h1
   ·rename_i h2
    rcases List.mem_append.1 h1 with h1 | h1
    ·exact .inl h1
    ·rw [List.mem_singleton] at h1
     exact .inr ⟨t, List.mem_cons_self .., h2.1, h1.symm⟩
   ·exact .inl h1
  ·exact .inr ⟨u, List.mem_cons_of_mem _ hu, h1⟩
theorem sW : ∀ (ls : List aO) (a : List ByteArray) (s : ByteArray), s ∈ ls.foldl bV a -> s ∈ a \/ ∃ l ∈ ls, l.1 = 1 /\ ∃ t ∈ aA l, t.1 = 1 /\ t.2.1 = s
 | [], a, s, h => .inl h
 | l :: ls, a, s, h => by
  rcases sW ls (bV a l) s h with h1 | ⟨m, hm, h1⟩
  ·unfold bV at h1
   split at h1
   ·rename_i h2
    rcases vJ _ _ _ h1 with h3 | h3
    ·exact .inl h3
    ·exact .inr ⟨l, List.mem_cons_self .., h2, h3⟩
   ·exact .inl h1
  ·exact .inr ⟨m, List.mem_cons_of_mem _ hm, h1⟩
theorem nC {ls : List aO} {v : Nat} (hv : v < (aB ls).length) : ∃ l ∈ ls, l.1 = 1 /\ v ∈ aM (aB ls) (aA l) := by
 have hg : (aB ls)[v]? = some (bH (aB ls) v) := by unfold bH; rw [List.getD_eq_getElem?_getD, qG hv]; rfl
 rcases sW ls [] _ (List.mem_of_getElem? hg) with h | ⟨l, hl, h1, t, ht, h2, h3⟩
 ·simp at h
 ·obtain ⟨i, hi⟩ := List.mem_iff_getElem?.1 ht
  exact ⟨l, hl, h1, cL.2 ⟨hv, i, t, hi, h2, h3⟩⟩
theorem aDh {vs : List Nat} (hr : vs.Pairwise (· < ·)) {m v : Nat} (hm : vs[m]? = some v) {p V : List ByteArray} (hp : V.take v = p) (hV : v < V.length) :
 (vs.map (bH V)).take (m + 1) = (vs.take m).map (bH p) ++ [bH V v] := by
 have hml := (List.getElem?_eq_some_iff.1 hm)
 rw [List.take_add_one, List.getElem?_map, hm]
 show (vs.map (bH V)).take m ++ [bH V v] = _
 rw [<- List.map_take]
 congr 1
 refine List.map_congr_left fun u hu => ?_
 obtain ⟨j, hj⟩ := List.mem_iff_getElem?.1 hu
 have hjm : j < m := by
  have := (List.getElem?_eq_some_iff.1 hj).1
  rw [List.length_take] at this; omega
 rw [List.getElem?_take_of_lt hjm] at hj
 obtain ⟨l1, e1⟩ := List.getElem?_eq_some_iff.1 hj
 have huv := List.pairwise_iff_getElem.1 hr j m l1 hml.1 hjm
 rw [e1, hml.2] at huv
 unfold bH
 rw [List.getD_eq_getElem?_getD, List.getD_eq_getElem?_getD, <- hp, List.getElem?_take_of_lt huv]
end Go.Proofs.YtinnmeiphbdogaaGreat
/- The program's way from variable to variable: plain. -/
namespace Go.Proofs.YtinnmeiphbdogaaGreat
theorem aL3 {W : aD} {d : Nat} (hW : WaysOk W d) {q : List ByteArray} {a b : Nat} (h : SpanOf W d q a b) (hq : q.length < d) : CurOk ⟨bR W d q.length W.length, a, b⟩ :=
 ⟨h.le.1, by show b ≤ (bR W d q.length W.length).length; rw [fH]; exact h.le.2, fun k l x y h1 h2 h3 h4 h5 => h.rise hW hq h1 h2 h3 h4 h5⟩
theorem aE4 {W : aD} {d : Nat} (hW : WaysOk W d) {q : List ByteArray} {a b : Nat} (h : SpanOf W d q a b) (hq : q.length < d) {r : List ByteArray} {x : ByteArray} (hr : r ∈ W) (he : r.take (q.length + 1) = q ++ [x]) : lF ⟨bR W d q.length W.length, a, b⟩ a x := by
 obtain ⟨k, h1, h2, h3⟩ := h.all hW hq hr he
 exact ⟨k, h1, h2, h3⟩
def qY (N : List ByteArray) (t : aH) : Int := if t.1 = 1 /\ mF N t.2.1 = true then ((N.findIdx fun s => decide (s = t.2.1) : Nat) : Int) else -1
def fG (N : List ByteArray) (l : aO) : Int :=
 if l.1 = 2 then match (aM N (aA l)).getLast? with | some v => (v : Int) | none => -1
 else max (qY N (leftOf l)) (qY N (aR l))
theorem aCd {V V' : List ByteArray} {k v : Nat} (h : V.take k = V'.take k) (hv : v < k) : bH V v = bH V' v := by
 unfold bH
 rw [List.getD_eq_getElem?_getD, List.getD_eq_getElem?_getD, <- List.getElem?_take_of_lt hv, h, List.getElem?_take_of_lt hv]
theorem aAy {N V V' : List ByteArray} {k : Nat} (h : V.take k = V'.take k) {t : aH} (hk : qY N t < k) (hin : t.1 = 1 -> t.2.1 ∈ N) : tT N V t = tT N V' t := by
 unfold tT
 split
 ·rename_i h1
  refine aCd h ?_
  unfold qY at hk
  rw [if_pos ⟨h1, cU.2 (hin h1)⟩] at hk
  omega
 ·rfl
theorem aId {N V V' : List ByteArray} {R : aD} {l : aO} {k : Nat} (h : V.take k = V'.take k) (h1 : l.1 ≠ 1) (hk : fG N l < k) (hin : l.1 ≠ 2 -> (leftOf l).1 = 1 -> (leftOf l).2.1 ∈ N) (hin2 : l.1 ≠ 2 -> (aR l).1 = 1 -> (aR l).2.1 ∈ N) : gG N V R l ↔ gG N V' R l := by
 unfold gG
 rw [if_neg h1, if_neg h1]
 by_cases h2 : l.1 = 2
 ·rw [if_pos h2, if_pos h2]
  unfold fG at hk
  rw [if_pos h2] at hk
  have e : (aM N (aA l)).map (bH V) = (aM N (aA l)).map (bH V') := by
   refine List.map_congr_left fun v hv => aCd h ?_
   obtain ⟨j, hj⟩ := List.mem_iff_getElem?.1 hv
   have hjl := List.getElem?_eq_some_iff.1 hj
   have hlast : (aM N (aA l)).getLast? = (aM N (aA l))[(aM N (aA l)).length - 1]? := List.getLast?_eq_getElem?
   obtain ⟨u, hu⟩ : ∃ u, (aM N (aA l))[(aM N (aA l)).length - 1]? = some u := ⟨_, qG (by have := hjl.1; omega)⟩
   rw [hlast, hu] at hk
   have hul := List.getElem?_eq_some_iff.1 hu
   have hk' : (u : Int) < k := hk
   rcases Nat.lt_or_ge j ((aM N (aA l)).length - 1) with h3 | h3
   ·have := List.pairwise_iff_getElem.1 (xM N (aA l)) j _ hjl.1 hul.1 h3
    rw [hjl.2, hul.2] at this
    omega
   ·have : j = (aM N (aA l)).length - 1 := by have := hjl.1; omega
    subst this
    rw [hj] at hu; cases hu
    omega
  rw [e]
 ·rw [if_neg h2, if_neg h2]
  unfold fG at hk
  rw [if_neg h2] at hk
  rw [aAy h (by omega) (hin h2), aAy h (by omega) (hin2 h2)]
theorem uI {N : List ByteArray} {l : aO} : fG N l < N.length := by
 have hi : ∀ t, qY N t < N.length := fun t => by
  unfold qY
  split
  ·rename_i h
   have := (List.getElem?_eq_some_iff.1 (aJu (cU.1 h.2))).1
   omega
  ·omega
 unfold fG
 split
 ·split
  ·rename_i v hv
   have := (cL.1 (List.mem_of_getLast? hv)).1
   omega
  ·omega
 ·have h1 := hi (leftOf l)
  have h2 := hi (aR l)
  omega
end Go.Proofs.YtinnmeiphbdogaaGreat
/- slices.Index at texts and at terms, to the place. -/
namespace Go.Proofs.YtinnmeiphbdogaaGreat
open Go.RowKit
def dA {α : Type} (q : α -> Bool) (l : List α) : Int := if l.any q = true then ((l.findIdx q : Nat) : Int) else -1
theorem yU {α : Type} {q : α -> Bool} {l : List α} {i : Nat} {u : α} (hno : ∀ (j : Nat) x, j < i -> l[j]? = some x -> q x = false) (hi : l[i]? = some u) (hq : q u = true) : dA q l = i := by
 unfold dA
 rw [if_pos (oC hi hq)]
 have hl := List.getElem?_eq_some_iff.1 hi
 congr 1
 have h1 : l.findIdx q ≤ i := by
  refine Nat.not_lt.1 fun h => ?_
  have := List.not_of_lt_findIdx h
  rw [hl.2, hq] at this
  exact absurd this (by simp)
 rcases Nat.lt_or_eq_of_le h1 with h2 | h2
 ·have h3 : l.findIdx q < l.length := Nat.lt_trans h2 hl.1
  have h4 := List.findIdx_getElem (w := h3)
  rw [hno _ _ h2 (qG h3)] at h4
  cases h4
 ·exact h2
theorem tH {α : Type} {q : α -> Bool} {l : List α} (hno : ∀ (j : Nat) x, j < l.length -> l[j]? = some x -> q x = false) : dA q l = -1 := by
 unfold dA
 rw [sJ rfl hno]; rfl
set_option maxRecDepth 100000 in
set_option maxHeartbeats 1000000 in
theorem tF (ss : List ByteArray) (s : ByteArray) (ao : Option Addr) (n cap : Nat) (w : World) (hn : n = ss.length) (h : CellsAt w ao (strs ss)) (hl : n ≤ 4611686018427387904) :
 Calls Tryz.prog 75 #[.slice ao n cap, .string s] w (RetN w fun w' v => v = .int .i64 (dA (fun x => decide (x = s)) ss)) := by
 have HN := qH hn; have HE := qH h; clear hn h
 go_enter Tryz.func75, Tryz.ntmps75
 go_wp2
 go_loopw [8] (fun iv wr => aLt w ss s n iv wr) (fun iv _ => n - (intOf iv).toNat)
 case atStart => exact ⟨0, Nat.zero_le _, rfl, fun j u h => by omega, Kp.refl w⟩
 case round =>
  obtain ⟨i, hi, rfl, hno, hex⟩ := hrel
  by_cases hlt : i < n
  ·have hlt' : i < ss.length := by rw [<- HN.out]; exact hlt
   obtain ⟨b, off, eao, hc0⟩ := (HE.out.ext hex.out).str hlt'
   subst eao
   have ht : ss[i]? = some ss[i] := qG hlt'
   generalize ss[i] = u at *
   by_cases hu : s = u
   ·have HT := qH (And.intro ht hu)
    clear ht hlt'
    subst hu
    have hb := str_eq s
    go_wp2
    go_ret
    exact RetN.mk hex.out (by rw [yU hno.out HT.out.1 (by simp)]; rfl)
   ·have HT := qH (And.intro ht hu)
    have hb := kG hu
    clear ht hlt' hu
    go_wp2
    go_roundw
    case rel =>
     refine ⟨i + 1, by omega, by first | rfl | (congr 1; done) | (congr 1; omega), fun j u hj hu => ?_, hex⟩
     by_cases e : j = i
     ·subst e; rw [HT.out.1] at hu; cases hu; exact decide_eq_false (fun e => HT.out.2 e.symm)
     ·exact hno.out j u (by omega) hu
    case measure => simp [intOf]; omega
  ·go_wp2
   go_ret
   exact RetN.mk hex.out (by rw [tH fun j u hj => hno.out j u (by have := HN.out; omega)]; rfl)
def isT (k : Int) (s : ByteArray) (t : aH) : Bool := decide (t.1 = k /\ t.2.1 = s)
def NoneX (w0 : World) (ts : List aH) (q : aH -> Bool) (n : Nat) (iv : Value) (w : World) : Prop := ∃ i : Nat, i ≤ n /\ iv = .int .i64 i /\ Hid (∀ (j : Nat) u, j < i -> ts[j]? = some u -> q u = false) /\ Hid (Ext w0 w)
set_option maxRecDepth 100000 in
set_option maxHeartbeats 2000000 in
theorem nM (ts : List aH) (k : Int) (s : ByteArray) (ao : Option Addr) (n cap : Nat) (w : World) (G : Nat -> Prop) (hn : n = ts.length) (h : bE w G ao ts) (hl : n ≤ 1048576) :
 Calls Tryz.prog 150 #[.slice ao n cap, xQ k s] w (RetN w fun w' v => v = .int .i64 (dA (isT k s) ts)) := by
 have HN := qH hn; have HE := qH h; clear hn h
 go_enter Tryz.func150, Tryz.ntmps150
 obtain ⟨w1, e1⟩ : ∃ w1, w.alloc (.cells #[.int .i64 k, .string s] 38) = w1 := ⟨_, rfl⟩
 obtain ⟨g0, eg0⟩ : ∃ g, w.heap.size = g := ⟨_, rfl⟩
 have hB : Blk w1 g0 [.int .i64 k, .string s] 38 := by rw [<- e1, <- eg0]; exact Blk.new w _ _
 have hx : Ext w w1 := by rw [<- e1]; exact (Kp.refl w).alloc _
 have H1 := qH (And.intro hx hB)
 clear hx hB
 go_wp2
 clear e1 eg0
 go_loopw [8] (fun iv wr => NoneX w1 ts (isT k s) n iv wr) (fun iv _ => n - (intOf iv).toNat)
 case atStart => exact ⟨0, Nat.zero_le _, rfl, fun j u h => by omega, Kp.refl w1⟩
 case round =>
  obtain ⟨i, hi, rfl, hno, hex⟩ := hrel
  by_cases hlt : i < n
  ·obtain ⟨t, ht⟩ : ∃ t, ts[i]? = some t := ⟨_, qG (by rw [<- HN.out]; exact hlt)⟩
   obtain ⟨b, off, eao, f0, f1, -, -⟩ := jP ((HE.out.ext H1.out.1).ext hex.out) ht
   subst eao
   have hB := H1.out.2.ext hex.out
   have b0 : wr.cell? ⟨g0, 0, none⟩ = some (.int .i64 k) := by rw [hB.cell']; rfl
   have b1 : wr.cell? ⟨g0, 1, none⟩ = some (.string s) := by rw [hB.cell']; rfl
   obtain ⟨kt, st, ⟨⟩⟩ := t
   simp only at f0 f1
   clear hB
   by_cases hq : kt = k /\ st = s
   ·have HT := qH (And.intro ht (show isT k s (kt, st, ()) = true from decide_eq_true hq))
    obtain ⟨rfl, rfl⟩ := hq
    have hb := str_eq st
    clear ht
    go_wp2
    go_quiet (fail)
    go_wp2
    go_ret
    exact RetN.mk ((H1.out.1.trans hex.out).drewN _) (by rw [yU hno.out HT.out.1 HT.out.2]; rfl)
   ·have HT := qH (And.intro ht (show isT k s (kt, st, ()) = false from decide_eq_false hq))
    clear ht
    by_cases h1 : k = kt
    ·subst h1
     have hb := kG (a := s) (b := st) (fun e => hq ⟨rfl, e.symm⟩)
     have hb2 : (k == k) = true := by simp
     clear hq
     go_wp2
     go_quiet (fail)
     go_wp2
     go_roundw
     case rel =>
      refine ⟨i + 1, by omega, by first | rfl | (congr 1; done) | (congr 1; omega), fun j u hj hu => ?_, qH (hex.out.drewN _)⟩
      by_cases e : j = i
      ·subst e; rw [HT.out.1] at hu; cases hu; exact HT.out.2
      ·exact hno.out j u (by omega) hu
     case measure => simp [intOf]; omega
    ·have hb : (k == kt) = false := by simp [h1]
     clear hq h1
     go_wp2
     go_quiet (fail)
     go_wp2
     go_roundw
     case rel =>
      refine ⟨i + 1, by omega, by first | rfl | (congr 1; done) | (congr 1; omega), fun j u hj hu => ?_, qH (hex.out.drewN _)⟩
      by_cases e : j = i
      ·subst e; rw [HT.out.1] at hu; cases hu; exact HT.out.2
      ·exact hno.out j u (by omega) hu
     case measure => simp [intOf]; omega
  ·go_wp2
   go_ret
   exact RetN.mk (H1.out.1.trans hex.out) (by rw [tH fun j u hj => hno.out j u (by have := HN.out; omega)]; rfl)
set_option maxRecDepth 100000 in
theorem wN (ts : List aH) (k : Int) (s : ByteArray) (ao : Option Addr) (n cap : Nat) (w : World) (G : Nat -> Prop) (hn : n = ts.length) (h : bE w G ao ts) (hl : n ≤ 1048576) :
 Calls Tryz.prog 148 #[.slice ao n cap, xQ k s] w (RetN w fun w' v => v = .bool (ts.any (isT k s))) := by
 have HI := qH (fun W (hW : Ext w W) => nM ts k s ao n cap W G hn (h.ext hW) hl)
 clear hn h hl
 go_enter Tryz.func148, Tryz.ntmps148
 obtain ⟨w1, e1⟩ : ∃ w1, w.alloc (.cells #[.int .i64 k, .string s] 38) = w1 := ⟨_, rfl⟩
 obtain ⟨g0, eg0⟩ : ∃ g, w.heap.size = g := ⟨_, rfl⟩
 have hB : Blk w1 g0 [.int .i64 k, .string s] 38 := by rw [<- e1, <- eg0]; exact Blk.new w _ _
 have hx : Ext w w1 := by rw [<- e1]; exact (Kp.refl w).alloc _
 have b0 : w1.cell? ⟨g0, 0, none⟩ = some (.int .i64 k) := by rw [hB.cell']; rfl
 have b1 : w1.cell? ⟨g0, 1, none⟩ = some (.string s) := by rw [hB.cell']; rfl
 have H1 := qH hx
 clear hx hB
 go_wp2_with fail
 refine (HI.out w1 H1.out).mono ?_
 rintro e w2 ⟨v, rfl, hk, rfl⟩
 go_wp2
 go_ret
 refine RetN.mk (H1.out.trans hk) (congrArg Value.bool ?_)
 unfold dA
 cases h2 : ts.any (isT k s)
 ·simp
 ·simp
end Go.Proofs.YtinnmeiphbdogaaGreat
/- Bases in plain Lean: what relations make, in whatever order; what is told of a base. No program in sight. -/
namespace Go.Proofs.YtinnmeiphbdogaaGreat
theorem vG : BaseOk [] := ⟨List.nodup_nil, fun p hp => by simp at hp, Nat.zero_le _⟩
theorem zX {s : ByteArray} : ∀ {rs : aD} {C : List aV}, BaseOk C -> BaseOk (dB C s rs).1
 | [], C, h => h
 | r :: rs, C, h => by
  unfold dB
  split
  ·exact zX (zY h s r)
  ·exact h
theorem aFz : ∀ {L : List iJ} {C : List aV}, BaseOk C -> BaseOk (cD C L).1
 | [], C, h => h
 | r :: L, C, h => by
  unfold cD
  split
  ·split
   ·exact aFz (zX (qM h _ _))
   ·exact zX (qM h _ _)
  ·exact h
theorem vM {α β : Type} {f : α -> β} {o : Option α} {b : β} (h : o.map f = some b) : ∃ a, o = some a /\ f a = b := by
 cases o with
 | none => cases h
 | some a => exact ⟨a, rfl, by simpa using h⟩
theorem aF6 {s : ByteArray} : ∀ {rs : aD} {C : List aV}, BaseOk C -> (∃ v, bD C s = some v) -> (dB C s rs).2 = 0 ->
 (∀ t x, x ∈ aP (dB C s rs).1 t ↔ x ∈ aP C t \/ (s = t /\ x ∈ rs)) /\ ∀ t, (bD (dB C s rs).1 t).map (·.1) = (bD C t).map (·.1)
 | [], C, h, hs, h0 => ⟨fun t x => by simp [dB], fun t => rfl⟩
 | r :: rs, C, h, hs, h0 => by
  unfold dB at h0 ⊢
  split at h0
  ·rename_i h1
   rw [if_pos h1]
   have ha : ∀ t, (∃ v, bD C s = some v) -> (bD (mA C s r) t).map (·.1) = (bD C t).map (·.1) := fun t hs => aIe h h1 hs
   have hs' : ∃ v, bD (mA C s r) s = some v := by
    obtain ⟨v, hv⟩ := hs
    have := ha s ⟨v, hv⟩
    rw [hv] at this
    obtain ⟨u, hu, _⟩ := vM this
    exact ⟨u, hu⟩
   obtain ⟨i1, i2⟩ := aF6 (zY h s r) hs' h0
   refine ⟨fun t x => ?_, fun t => (i2 t).trans (ha t hs)⟩
   rw [i1 t x, aI2 h h1, List.mem_cons]
   constructor
   ·rintro ((h2 | ⟨h2, h3⟩) | ⟨h2, h3⟩)
    ·exact .inl h2
    ·exact .inr ⟨h2, .inl h3⟩
    ·exact .inr ⟨h2, .inr h3⟩
   ·rintro (h2 | ⟨h2, h3 | h3⟩)
    ·exact .inl (.inl h2)
    ·exact .inl (.inr ⟨h2, h3⟩)
    ·exact .inr ⟨h2, h3⟩
  ·rename_i h1; exact absurd h0 h1
theorem aCi : ∀ {L : List iJ} {C : List aV}, BaseOk C -> (cD C L).2 = 0 ->
 (∀ t x, x ∈ aP (cD C L).1 t ↔ x ∈ aP C t \/ ∃ r ∈ L, r.1 = t /\ x ∈ r.2.2.1) /\ (∀ t v, bD C t = some v -> ∃ LL, bD (cD C L).1 t = some (v.1, LL)) /\
  (∀ r ∈ L, 0 ≤ r.2.1 /\ ∃ LL, bD (cD C L).1 r.1 = some (r.2.1.toNat, LL)) /\ ∀ t v, bD (cD C L).1 t = some v -> (∃ u, bD C t = some u) \/ ∃ r ∈ L, r.1 = t
 | [], C, h, h0 => ⟨fun t x => by simp [cD], fun t v hv => ⟨v.2, hv⟩, fun r hr => by simp at hr, fun t v hv => .inl ⟨v, hv⟩⟩
 | r :: L, C, h, h0 => by
  unfold cD at h0 ⊢
  split at h0
  ·rename_i h1
   rw [if_pos h1]
   split at h0
   ·rename_i h2
    rw [if_pos h2]
    obtain ⟨LL, hg, ha0, ha1, hn⟩ := aLf h1
    obtain ⟨a1, a2⟩ := aF6 (qM h _ _) ⟨_, hg⟩ h2
    obtain ⟨i1, i2, i3, i4⟩ := aCi (zX (s := r.1) (rs := r.2.2.1) (qM h r.1 r.2.1)) h0
    have hup : ∀ t v, bD (eF C r.1 r.2.1) t = some v -> ∃ LL, bD (cD (dB (eF C r.1 r.2.1) r.1 r.2.2.1).1 L).1 t = some (v.1, LL) := fun t v hv => by
     have := a2 t
     rw [hv] at this
     obtain ⟨u, hu, e⟩ := vM this
     obtain ⟨L2, h3⟩ := i2 t u hu
     exact ⟨L2, by rw [h3, e]⟩
    refine ⟨fun t x => ?_, fun t v hv => ?_, fun q hq => ?_, fun t v hv => ?_⟩
    ·rw [i1 t x, a1 t x, aGq h1]
     constructor
     ·rintro ((h3 | ⟨h3, h4⟩) | ⟨q, h3, h4⟩)
      ·exact .inl h3
      ·exact .inr ⟨r, List.mem_cons_self, h3, h4⟩
      ·exact .inr ⟨q, List.mem_cons_of_mem _ h3, h4⟩
     ·rintro (h3 | ⟨q, h3, h4, h5⟩)
      ·exact .inl (.inl h3)
      ·rcases List.mem_cons.1 h3 with rfl | h3
       ·exact .inl (.inr ⟨h4, h5⟩)
       ·exact .inr ⟨q, h3, h4, h5⟩
    ·by_cases e : r.1 = t /\ bD C r.1 = none
     ·rw [<- e.1, e.2] at hv; cases hv
     ·exact hup t v (by rw [kY h1, if_neg e]; exact hv)
    ·rcases List.mem_cons.1 hq with rfl | hq
     ·exact ⟨ha0, hup _ _ hg⟩
     ·exact i3 q hq
    ·rcases i4 t v hv with ⟨u, hu⟩ | ⟨q, hq, e⟩
     ·have := a2 t
      rw [hu] at this
      obtain ⟨u2, hu2, _⟩ := vM this.symm
      rw [kY h1] at hu2
      split at hu2
      ·rename_i e; exact .inr ⟨r, List.mem_cons_self, e.1⟩
      ·exact .inl ⟨u2, hu2⟩
     ·exact .inr ⟨q, List.mem_cons_of_mem _ hq, e⟩
   ·rename_i h2; exact absurd h0 h2
  ·rename_i h1; exact absurd h0 h1
def bL (a b : ByteArray) : Int := bG a.toList b.toList
theorem jM : OrdLaw bL := ⟨fun x y => by
 have := fS x.toList y.toList
 unfold bL; omega, fun x y z => by
 intro h1 h2
 have := lY (xs := [x]) (ys := [y]) (zs := [z])
 have e : ∀ a b : ByteArray, aC [a] [b] = bL a b := fun a b => by
  unfold bL
  simp only [aC]
  split
  ·rfl
  ·rename_i h; rw [Classical.not_not.1 h]
 rw [e, e, e] at this
 exact this h1 h2⟩
theorem aJb {l m : List Nat} (h : l.Perm m) : l.sum = m.sum := by
 induction h with
 | nil => rfl
 | cons x _ ih => rw [List.sum_cons, List.sum_cons, ih]
 | swap x y l => simp only [List.sum_cons]; omega
 | trans _ _ ih1 ih2 => exact ih1.trans ih2
end Go.Proofs.YtinnmeiphbdogaaGreat
/- tuple.Base: put, NewBase, Len. -/
namespace Go.Proofs.YtinnmeiphbdogaaGreat
open Go.RowKit
section
variable {w w' : World} {bb r : Nat} {n : Int} {m : List (ByteArray × Value)}
theorem fT (hB : Blk w bb [.map (some r), .int .i64 n] 129) (hm : MapIs w r m) (s : ByteArray) (p : Option Addr) :
 Calls Tryz.prog 89 #[.pointer (some ⟨bb, 0, none⟩), .string s, .pointer p] w (RetF (fun k => k = r) w fun w' v => MapIs w' r (jE m s (.pointer p))) := by
 have c0 : w.cell? ⟨bb, 0, none⟩ = some (.map (some r)) := by rw [hB.cell']; rfl
 obtain ⟨w2, hrun, hm2, hk2⟩ := dZ (P := Tryz.prog) Tryz.underlying127 Tryz.underlying9 hm s (.pointer p)
 have hq : ∀ w : World, (binOp .eql 127 (.map (some r)) (.map none)).run Tryz.prog w = .ok (.bool false) w := fun w => by kernel_rfl
 have HM := qH (And.intro hm2 hk2)
 clear hB hm hm2 hk2
 go_enter Tryz.func89, Tryz.ntmps89
 go_wp2
 go_end0
 exact RetF.mk HM.out.2 HM.out.1
theorem aBx (w : World) : Calls Tryz.prog 106 #[] w (RetN w fun w' v => v = .pointer (some ⟨w.heap.size + 1, 0, none⟩) /\ Blk w' (w.heap.size + 1) [.map (some w.heap.size), .int .i64 0] 129 /\ MapIs w' w.heap.size []) := by
 have hmm := @run_makeMap Tryz.prog
 go_enter Tryz.func106, Tryz.ntmps106
 go_wp2
 go_ret
 have hB := Blk.new (w.alloc (.map #[] 0)) [.map (some w.heap.size), .int .i64 0] 129
 rw [aN] at hB
 exact RetN.mk (((Kp.refl w).alloc _).alloc _) ⟨rfl, hB, (MapIs.new w).ext ((Kp.refl _).alloc _)⟩
theorem aC3 (hB : Blk w bb [.map (some r), .int .i64 n] 129) : Calls Tryz.prog 60 #[.pointer (some ⟨bb, 0, none⟩)] w (Ret (.int .i64 n) w) := by
 have c0 : w.cell? ⟨bb, 1, none⟩ = some (.int .i64 n) := by rw [hB.cell']; rfl
 clear hB
 go_enter Tryz.func60, Tryz.ntmps60
 go_wp2
 go_ret
 exact Ret.mk rfl
end
end Go.Proofs.YtinnmeiphbdogaaGreat
/- tuple.Rows whose order may still be nil (a zero value): set lays it; Len, Has, Below, At, Arity, Drop. -/
namespace Go.Proofs.YtinnmeiphbdogaaGreat
open Go.RowKit
def RowsQ (z : Prop) (S : Nat -> Prop) (w : World) (b : Nat) (iv : Value) (arity : Nat) (LL : List (List ByteArray)) : Prop :=
 RowsAt S w b iv arity LL \/ (z /\ iv = .slice none 0 0 /\ LL = [] /\ Blk w b [.nilFunc, .slice none 0 0, .int .i64 arity] 135 /\ (∀ k, S k -> k < w.heap.size) /\ ¬ S b)
abbrev FQ (z : Prop) (b : Nat) : Nat -> Prop := fun k => z /\ k = b
theorem FQ.owns {z : Prop} {b : Nat} {iv : Value} : ∀ k, FQ z b k -> dS b iv k := fun k h => .inl h.2
theorem Kp.fq {b : Nat} {w w' : World} (h : Kp (FQ False b) w w') : Ext w w' := h.mono fun _ _ h => h.1
section
variable {z : Prop} {S : Nat -> Prop} {w w' : World} {b : Nat} {iv : Value} {arity : Nat} {LL : List (List ByteArray)}
theorem RowsAt.q (h : RowsAt S w b iv arity LL) : RowsQ z S w b iv arity LL := .inl h
theorem RowsQ.kp {F : Nat -> Prop} (h : RowsQ z S w b iv arity LL) (hk : Kp F w w') (hF : ∀ k, F k -> ¬ dS b iv k) (hS : ∀ k, F k -> ¬ S k) : RowsQ z S w' b iv arity LL := by
 rcases h with h | ⟨hz, e, el, hB, h1, h2⟩
 ·exact .inl (h.move hk hF hS (fun _ h => h) (fun k hk' => Nat.lt_of_lt_of_le (h.inS k hk') hk.size) h.notS)
 ·exact .inr ⟨hz, e, el, hB.kp hk (fun hf => hF _ hf (.inl rfl)), fun k hk' => Nat.lt_of_lt_of_le (h1 k hk') hk.size, h2⟩
theorem RowsQ.ext (h : RowsQ z S w b iv arity LL) (hk : Ext w w') : RowsQ z S w' b iv arity LL := h.kp hk (fun _ x => x.elim) (fun _ x => x.elim)
theorem RowsQ.blk' (h : RowsQ z S w b iv arity LL) : ∃ ov, Blk w b [ov, iv, .int .i64 arity] 135 := by
 rcases h with h | ⟨_, e, _, hB, _⟩
 ·exact ⟨_, h.blk⟩
 ·exact ⟨_, by rw [e]; exact hB⟩
theorem RowsQ.lt (h : RowsQ z S w b iv arity LL) : b < w.heap.size := by obtain ⟨ov, h⟩ := h.blk'; exact h.lt
theorem RowsQ.ar (h : RowsQ z S w b iv arity LL) : w.cell? ⟨b, 2, none⟩ = some (.int .i64 arity) := by obtain ⟨ov, h⟩ := h.blk'; rw [h.cell']; rfl
theorem RowsQ.inS (h : RowsQ z S w b iv arity LL) : ∀ k, S k -> k < w.heap.size := by
 rcases h with h | ⟨_, _, _, _, h, _⟩
 ·exact h.inS
 ·exact h
theorem RowsQ.notS (h : RowsQ z S w b iv arity LL) : ∀ k, dS b iv k -> ¬ S k := by
 rcases h with h | ⟨_, rfl, _, _, _, h⟩
 ·exact h.notS
 ·intro k hk hs
  rcases hk with rfl | hk
  ·exact h hs
  ·cases hk
theorem iR (h : RowsQ z S w b iv arity LL) :
 Calls Tryz.prog 99 #[.pointer (some ⟨b, 0, none⟩)] w (RetF (FQ z b) w fun w' v => v = .pointer (some ⟨b, 0, none⟩) /\ RowsAt S w' b iv arity LL) := by
 rcases h with h | ⟨hz, rfl, rfl, hB, h1, h2⟩
 ·refine (gY h).mono ?_
  rintro e w' ⟨rfl, rfl⟩
  exact RetF.mk (Kp.refl _) ⟨rfl, h⟩
 ·have c0 : w.cell? ⟨b, 0, none⟩ = some .nilFunc := by rw [hB.cell']; rfl
  have f0 := hB.free 0
  have hq : ∀ w : World, (binOp .eql 131 .nilFunc .nilFunc).run Tryz.prog w = .ok (.bool true) w := fun _ => by kernel_rfl
  have HB := qH (And.intro hB (And.intro h1 h2))
  have HZ := qH hz
  clear hB h1 h2 hz
  go_enter Tryz.func99, Tryz.ntmps99
  go_wp2
  go_ret
  obtain ⟨hB, h1, h2⟩ := HB.out
  have hset := hB.set 0 (.func (Fn.func 124) #[] #[])
  have hk : Kp (FQ z b) w (w.setCell ⟨b, 0, none⟩ (.func (Fn.func 124) #[] #[])) := Kp.setCell (Kp.refl w) (fun _ => ⟨HZ.out, rfl⟩) _
  obtain ⟨con, hc⟩ := wO (w.setCell ⟨b, 0, none⟩ (.func (Fn.func 124) #[] #[]))
  refine RetF.mk hk ⟨rfl, con, [], hc, ⟨hset, Row.nil _ _ _ _, by simp [Value.ownBlock], fun k hk' => Nat.lt_of_lt_of_le (h1 k hk') hk.size, fun k ho hs => ?_, kN hc, by simp, by simp⟩, rfl⟩
  rcases ho with rfl | ho
  ·exact h2 hs
  ·cases ho
theorem gP (h : RowsQ z S w b iv arity LL) : Calls Tryz.prog 105 #[.pointer (some ⟨b, 0, none⟩)] w (RetF (FQ z b) w fun w' v => v = .int .i64 (LL.length : Nat) /\ RowsAt S w' b iv arity LL) := by
 have HS := qH (iR h); clear h
 go_enter Tryz.func105, Tryz.ntmps105
 go_wp2_with fail
 refine HS.out.mono ?_
 rintro e w1 ⟨v, rfl, hk, rfl, h1⟩
 have HK := qH (And.intro hk h1)
 obtain ⟨con, zs, hc, hs, hl⟩ := h1
 have HS1 := qH hs
 have HL := qH (show zs.length = LL.length by rw [<- hl]; simp)
 clear hk hs hc hl
 go_wp2_with fail
 refine (oW HS1.out).mono ?_
 rintro e w' ⟨rfl, rfl⟩
 go_wp2
 go_ret
 exact RetF.mk HK.out.1 ⟨by rw [<- HL.out]; rfl, HK.out.2⟩
theorem RowIn.kp {F : Nat -> Prop} {x : gT} {ss : List ByteArray} (h : RowIn w x ss) (hk : Kp F w w') (ho : jO x F) : RowIn w' x ss :=
 ⟨⟨h.1.1, fun i u hu => by
  have hne : x.2.1 ≠ 0 := by
   have h1 := (List.getElem?_eq_some_iff.1 hu).1
   simp only [strs, List.length_map] at h1
   rw [h.1.1]; omega
  obtain ⟨b, o, e, c⟩ := h.1.2 i u hu
  exact ⟨b, o, e, hk.cell c (ho _ e hne)⟩⟩, h.2.1, fun a e hne => Nat.lt_of_lt_of_le (h.2.2 a e hne) hk.size⟩
theorem aGr (h : RowsQ z S w b iv arity LL) (hst : Strict aC LL) {x : gT} {ss : List ByteArray} (hx : RowIn w x ss) (ho : jO x (dS b iv)) :
 Calls Tryz.prog 87 #[.pointer (some ⟨b, 0, none⟩), .slice x.1 x.2.1 x.2.2] w (RetF (FQ z b) w fun w' v => v = .bool (bC aC LL ss) /\ RowsAt S w' b iv arity LL) := by
 have HS := qH (iR h); clear h
 have HX := qH (And.intro hst (And.intro hx ho)); clear hst hx ho
 go_enter Tryz.func87, Tryz.ntmps87
 go_wp2_with fail
 refine HS.out.mono ?_
 rintro e w1 ⟨v, rfl, hk, rfl, h1⟩
 have hx1 := HX.out.2.1.kp hk (fun a e hne hf => HX.out.2.2 a e hne (.inl hf.2))
 obtain ⟨con, zs, hc, hs, hl, hd, ex, hz, e1, e2⟩ := h1.open HX.out.1 hx1 HX.out.2.2
 have HF := qH (oX (jK con) x hd hz hs)
 rw [e1] at HF
 have HK := qH (And.intro hk h1)
 clear hc hs hl hd ex hz e1 e2 hk h1 hx1
 go_wp2_with fail
 refine HF.out.mono ?_
 rintro e w2 ⟨v, rfl, hk2, rfl⟩
 have HK2 := qH hk2; clear hk2
 go_wp2
 go_ret
 exact RetF.mk (HK.out.1.ext HK2.out) ⟨rfl, HK.out.2.ext HK2.out⟩
theorem aBh (h : RowsQ z S w b iv arity LL) : Calls Tryz.prog 51 #[.pointer (some ⟨b, 0, none⟩)] w (Ret (.int .i64 arity) w) := by
 have c2 := h.ar
 clear h
 go_enter Tryz.func51, Tryz.ntmps51
 go_wp2
 go_ret
 exact Ret.mk rfl
end
end Go.Proofs.YtinnmeiphbdogaaGreat
/- tuple.Rows whose order may still be nil: Add. -/
namespace Go.Proofs.YtinnmeiphbdogaaGreat
open Go.RowKit
section
variable {z : Prop} {S : Nat -> Prop} {w w' : World} {b : Nat} {iv : Value} {arity : Nat} {LL : List (List ByteArray)}
def RowsAddedQ (z : Prop) (S : Nat -> Prop) (w : World) (b : Nat) (iv : Value) (arity : Nat) (LL : List (List ByteArray)) (ss : List ByteArray) (w' : World) (v : Value) : Prop :=
 v = .tuple #[.bool (aZ arity LL ss).1, .int .i64 ((aZ arity LL ss).2 : Nat)] /\
  ∃ S' iv', (∀ k, S k -> S' k) /\ (∀ k, S' k -> S k \/ w.heap.size ≤ k) /\ RowsQ z S' w' b iv' arity (bM arity LL ss) /\ ∀ k, iv'.ownBlock = some k -> iv.ownBlock = some k \/ w.heap.size ≤ k
theorem RowsAddedQ.same (h : RowsQ z S w b iv arity LL) {ss : List ByteArray} {w1 : World} (hk : Ext w w1) {v : Value} (hv : v = .tuple #[.bool (aZ arity LL ss).1, .int .i64 ((aZ arity LL ss).2 : Nat)]) (h0 : bM arity LL ss = LL) : RowsAddedQ z S w b iv arity LL ss w1 v :=
 ⟨hv, S, iv, fun _ h => h, fun _ h => .inl h, by rw [h0]; exact h.ext hk, fun _ h => .inl h⟩
set_option maxRecDepth 100000 in
set_option maxHeartbeats 2000000 in
theorem aGt (h : RowsQ z S w b iv arity LL) (hst : Strict aC LL) {ao : Option Addr} {n cap : Nat} {ss : List ByteArray} (hx : RowIn w (ao, n, cap) ss) (ho : jO (ao, n, cap) (dS b iv)) (hLL : LL.length + 1 ≤ 1048576 * 1048576) :
 Calls Tryz.prog 88 #[.pointer (some ⟨b, 0, none⟩), .slice ao n cap] w (RetF (dS b iv) w (RowsAddedQ z S w b iv arity LL ss)) := by
 rcases h with h | h0
 ·refine (mV h hst hx ho hLL).mono ?_
  rintro e w' ⟨v, rfl, hk, e1, S', iv', h1, h2, h3, h4⟩
  exact RetF.mk hk ⟨e1, S', iv', h1, h2, .inl h3, h4⟩
 have eLL : LL = [] := h0.2.2.1
 have h : RowsQ z S w b iv arity LL := .inr h0
 clear h0
 subst eLL
 have hn : n = ss.length := hx.1.1
 have hcs : CellsAt w ao (strs ss) := hx.1.2
 have hl : ss.length ≤ 8796093021952 := hx.2.1
 have c2 : w.cell? ⟨b, 2, none⟩ = some (.int .i64 arity) := h.ar
 have HT := qH (rM ss ao n cap w hn hcs (by omega))
 have HLN := qH (fun w1 (hw : Ext w w1) => gP (h.ext hw))
 have hob : jO (ao, n, cap) (FQ z b) := fun a e hne hf => ho a e hne (.inl hf.2)
 have HCL := qH (fun w1 (hw : Kp (FQ z b) w w1) => iO (strs ss) ao cap w1 n (by simp [strs, hn]) (RowIn.kp hx hw hob).1.2 (kL ss) (by omega))
 have HP := qH (fun w0 w1 ao1 cap1 (h0 : RowsAt S w0 b iv arity []) (hk : Ext w0 w1) hr => aFu (w := w0) (w1 := w1) (ao := ao1) (n := n) (cap := cap1) h0 hst hk hr hn (by omega) hLL)
 have H := qH h
 have HN := qH hn
 clear h hst hx ho hcs hn hLL hob
 by_cases h1 : n = arity
 ·have q1 : ((n : Int) != (arity : Int)) = false := by simp [h1]
  have H1 := qH h1; clear h1
  cases ht : bQ ss with
  | false =>
   have HTX := qH ht
   rw [ht] at HT; clear ht
   go_enter Tryz.func88, Tryz.ntmps88
   go_wp2_with fail
   refine HT.out.mono ?_
   rintro e w1 ⟨v, rfl, hk, rfl⟩
   have HK := qH hk; clear hk
   go_wp2
   go_ret2
   have e0 : aZ arity [] ss = (false, 31) := by unfold aZ; rw [if_neg (by rw [<- HN.out, H1.out]; simp), if_pos HTX.out]
   exact RetF.mk (Ext.kp HK.out) (RowsAddedQ.same H.out HK.out (by rw [e0]; rfl) (by unfold bM; rw [e0]; rfl))
  | true =>
   have HTX := qH ht
   rw [ht] at HT; clear ht
   go_enter Tryz.func88, Tryz.ntmps88
   go_wp2_with fail
   refine HT.out.mono ?_
   rintro e w0 ⟨v, rfl, hk0, rfl⟩
   have HK0 := qH hk0; clear hk0
   go_wp2_with fail
   refine (HLN.out w0 HK0.out).mono ?_
   rintro e w1 ⟨v, rfl, hk1, rfl, hr1⟩
   have HK1 := qH (And.intro hk1 hr1); clear hk1 hr1
   go_wp2_with fail
   refine (gY HK1.out.2).mono ?_
   rintro e w' ⟨rfl, rfl⟩
   go_wp2_with fail
   refine (HCL.out w1 ((Ext.kp HK0.out).trans HK1.out.1)).mono ?_
   rintro e w2 ⟨v, rfl, hk2, hr2⟩
   obtain ⟨ao2, cap2, ev, _, _⟩ := hr2.shape
   subst ev
   go_wp2_with fail
   refine (HP.out w1 w2 ao2 cap2 HK1.out.2 hk2 hr2).mono ?_
   rintro e w3 ⟨v, rfl, hk3, rfl, iv', hrows, hiv⟩
   have HR := qH (And.intro hk3 (And.intro hrows hiv))
   have HB := qH (And.intro hk2 hr2.block)
   clear hk3 hrows hiv hr2 hk2
   go_wp2
   go_ret2
   have e0 : aZ arity [] ss = (!bC aC [] ss, 0) := by unfold aZ; rw [if_neg (by rw [<- HN.out, H1.out]; simp), if_neg (by rw [HTX.out]; simp), if_neg (fun h => by simp at h)]
   have z0 := HK0.out.size
   have z1 := HK1.out.1.size
   have z2 := HB.out.1.size
   refine RetF.mk ((((Ext.kp HK0.out).trans (HK1.out.1.mono fun k _ h => FQ.owns k h)).trans (Ext.kp HB.out.1)).trans HR.out.1) ⟨by rw [e0]; rfl, lO S (ao2, n, cap2), iv', fun k h => .inl h, fun k h => ?_, .inl (by unfold bM; rw [e0]; exact HR.out.2.1), fun k h => (HR.out.2.2 k h).imp id (fun h => by omega)⟩
   rcases h with h | ⟨a, e, _, rfl⟩
   ·exact .inl h
   ·have e' : ao2 = some a := e
    subst e'
    have := HB.out.2 a.block rfl
    exact .inr (by unfold New at this; omega)
 ·have q1 : ((n : Int) != (arity : Int)) = true := by rw [bne_iff_ne]; omega
  have HN1 := qH (show ss.length ≠ arity by have := HN.out; omega)
  clear h1
  go_enter Tryz.func88, Tryz.ntmps88
  go_wp2
  go_ret2
  have e0 : aZ arity [] ss = (false, 30) := by unfold aZ; rw [if_pos HN1.out]
  exact RetF.mk (Kp.refl _) (RowsAddedQ.same H.out (Kp.refl _) (by rw [e0]; rfl) (by unfold bM; rw [e0]; rfl))
end
end Go.Proofs.YtinnmeiphbdogaaGreat
/- tuple.Rows whose order may still be nil: At. -/
namespace Go.Proofs.YtinnmeiphbdogaaGreat
open Go.RowKit
section
variable {z : Prop} {S : Nat -> Prop} {w w' : World} {b : Nat} {iv : Value} {arity : Nat} {LL : List (List ByteArray)}
end
end Go.Proofs.YtinnmeiphbdogaaGreat
/- Lists of rows in memory: such as can be read; such as are one's own. -/
namespace Go.Proofs.YtinnmeiphbdogaaGreat
open Go.RowKit
abbrev gI := gT × List ByteArray
def fD (ps : List gI) : List Value := ps.map fun p => .slice p.1.1 p.1.2.1 p.1.2.2
theorem xX (ps : List gI) (k : Nat) (p : gI) (h : ps[k]? = some p) : (fD ps)[k]? = some (.slice p.1.1 p.1.2.1 p.1.2.2) := by simp [fD, h]
theorem zR (ps qs : List gI) : fD (ps ++ qs) = fD ps ++ fD qs := by simp [fD]
def RowsIn (S : Nat -> Prop) (w : World) (ao : Option Addr) (LL : List (List ByteArray)) : Prop :=
 ∃ ps : List gI, LL = ps.map Prod.snd /\ CellsAt w ao (fD ps) /\ (∀ a, ao = some a -> S a.block) /\
  ∀ p ∈ ps, ReadsAs w p.1 p.2 /\ p.2.length ≤ 8796093021952 /\ ∀ a, p.1.1 = some a -> S a.block
def OwnRows (lo : Nat) (w : World) (v : Value) (LL : List (List ByteArray)) : Prop :=
 ∃ ps : List gI, LL = ps.map Prod.snd /\ Row w 34 1 v ps.length (fD ps) (fun g => lo ≤ g) /\
  (∀ p ∈ ps, Row w 9 1 (.slice p.1.1 p.1.2.1 p.1.2.2) p.2.length (strs p.2) (fun g => lo ≤ g) /\ p.2.length ≤ 8796093021952) /\
  ps.Pairwise fun p q => ∀ g, (Value.slice p.1.1 p.1.2.1 p.1.2.2).ownBlock = some g -> (Value.slice q.1.1 q.1.2.1 q.1.2.2).ownBlock ≠ some g
section
variable {S S' : Nat -> Prop} {w w' : World} {ao : Option Addr} {LL : List (List ByteArray)} {v : Value} {lo : Nat}
theorem RowsIn.kp {F : Nat -> Prop} (h : RowsIn S w ao LL) (hk : Kp F w w') (hF : ∀ k, F k -> ¬ S k) : RowsIn S w' ao LL := by
 obtain ⟨ps, h1, h2, h3, h4⟩ := h
 exact ⟨ps, h1, h2.kp hk (fun a e hf => hF _ hf (h3 a e)), h3, fun p hp => ⟨⟨(h4 p hp).1.1, (h4 p hp).1.2.kp hk (fun a e hf => hF _ hf ((h4 p hp).2.2 a e))⟩, (h4 p hp).2⟩⟩
theorem RowsIn.ext (h : RowsIn S w ao LL) (hk : Ext w w') : RowsIn S w' ao LL := h.kp hk fun _ x => x.elim
theorem RowsIn.get (h : RowsIn S w ao LL) {k : Nat} {ss : List ByteArray} (hk : LL[k]? = some ss) :
 ∃ g o x cap, ao = some ⟨g, o, none⟩ /\ w.cell? ⟨g, o + k, none⟩ = some (.slice x ss.length cap) /\ CellsAt w x (strs ss) /\ ss.length ≤ 8796093021952 /\ ∀ a, x = some a -> S a.block := by
 obtain ⟨ps, rfl, h2, h3, h4⟩ := h
 rw [List.getElem?_map] at hk
 cases hp : ps[k]? with
 | none => rw [hp] at hk; cases hk
 | some p =>
  rw [hp] at hk; cases hk
  obtain ⟨g, o, e, c⟩ := h2 k _ (xX ps k p hp)
  obtain ⟨⟨h5, h6⟩, h7, h8⟩ := h4 p (List.mem_of_getElem? hp)
  exact ⟨g, o, p.1.1, p.1.2.2, e, by rw [c, h5], h6, h7, h8⟩
theorem Row.has {e : TypeId} {k : Nat} {n : Nat} {xs : List Value} {M : Nat -> Prop} (h : Row w e k v n xs M) {g : Nat} (hg : v.ownBlock = some g) : ∃ cs, Blk w g cs e /\ n * k ≤ cs.length /\ M g := by
 obtain ⟨h1, ⟨rfl, rfl⟩ | ⟨g', cap, rest, rfl, b, c, d, e, f⟩⟩ := h
 ·cases hg
 ·cases hg
  exact ⟨_, c, by simp at d ⊢; omega, b⟩
theorem Row.sort_ne {e e' : TypeId} {k k' : Nat} {n n' : Nat} {xs xs' : List Value} {M M' : Nat -> Prop} {v' : Value} (h : Row w e k v n xs M) (h' : Row w e' k' v' n' xs' M') (he : e ≠ e') {g : Nat} (hg : v.ownBlock = some g) : v'.ownBlock ≠ some g := by
 intro hg'
 obtain ⟨cs, hb, _⟩ := h.has hg
 obtain ⟨cs', hb', _⟩ := h'.has hg'
 unfold Blk at hb hb'
 rw [hb] at hb'
 simp only [Option.some.injEq, Obj.cells.injEq] at hb'
 exact he hb'.2.1
theorem OwnRows.nil (lo : Nat) (w : World) : OwnRows lo w (.slice none 0 0) [] := ⟨[], rfl, Row.nil _ _ _ _, by simp, List.Pairwise.nil⟩
theorem OwnRows.kp {F : Nat -> Prop} (h : OwnRows lo w v LL) (hk : Kp F w w') (hF : ∀ g, lo ≤ g -> ¬ F g) : OwnRows lo w' v LL := by
 obtain ⟨ps, h1, h2, h3, h4⟩ := h
 exact ⟨ps, h1, h2.kp hk hF, fun p hp => ⟨(h3 p hp).1.kp hk hF, (h3 p hp).2⟩, h4⟩
theorem OwnRows.ext (h : OwnRows lo w v LL) (hk : Ext w w') : OwnRows lo w' v LL := h.kp hk fun _ _ => id
theorem OwnRows.mono {lo' : Nat} (h : OwnRows lo w v LL) (hl : lo' ≤ lo) : OwnRows lo' w v LL := by
 obtain ⟨ps, h1, h2, h3, h4⟩ := h
 exact ⟨ps, h1, Row.mono h2 fun g hg => Nat.le_trans hl hg, fun p hp => ⟨Row.mono (h3 p hp).1 fun g hg => Nat.le_trans hl hg, (h3 p hp).2⟩, h4⟩
theorem Row.readsAs {e : TypeId} {x : gT} {ss : List ByteArray} {M : Nat -> Prop} (h : Row w e 1 (.slice x.1 x.2.1 x.2.2) ss.length (strs ss) M) : ReadsAs w x ss /\ ∀ a, x.1 = some a -> M a.block /\ a.block < w.heap.size := by
 have hb := h.block
 have hl := h.lt
 obtain ⟨ao, cap, e, hc, _⟩ := h.shape
 obtain ⟨x1, x2, x3⟩ := x
 simp only [Value.slice.injEq] at e
 obtain ⟨rfl, e2, rfl⟩ := e
 refine ⟨⟨e2, hc⟩, fun a ea => ?_⟩
 simp only at ea
 subst ea
 exact ⟨hb a.block rfl, hl a.block rfl⟩
theorem OwnRows.shape (h : OwnRows lo w v LL) : ∃ ao cap, v = .slice ao LL.length cap /\ RowsIn (fun g => lo ≤ g /\ g < w.heap.size) w ao LL := by
 obtain ⟨ps, rfl, h2, h3, h4⟩ := h
 have hb := h2.block
 have hl := h2.lt
 obtain ⟨ao, cap, rfl, hc, _⟩ := h2.shape
 refine ⟨ao, cap, by simp, ps, rfl, hc, fun a e => ?_, fun p hp => ?_⟩
 ·subst e; exact ⟨hb a.block rfl, hl a.block rfl⟩
 ·obtain ⟨h5, h6⟩ := h3 p hp
  exact ⟨h5.readsAs.1, h6, fun a e => h5.readsAs.2 a e⟩
theorem OwnRows.push {ps : List gI} (h2 : Row w 34 1 v ps.length (fD ps) (fun g => lo ≤ g))
 (h3 : ∀ p ∈ ps, Row w 9 1 (.slice p.1.1 p.1.2.1 p.1.2.2) p.2.length (strs p.2) (fun g => lo ≤ g) /\ p.2.length ≤ 8796093021952)
 (h4 : ps.Pairwise fun p q => ∀ g, (Value.slice p.1.1 p.1.2.1 p.1.2.2).ownBlock = some g -> (Value.slice q.1.1 q.1.2.1 q.1.2.2).ownBlock ≠ some g)
 {B : Nat} (hB : ∀ p ∈ ps, ∀ g, (Value.slice p.1.1 p.1.2.1 p.1.2.2).ownBlock = some g -> g < B) (hlo : lo ≤ B) {x : gT} {ss : List ByteArray} (hx : Row w 9 1 (.slice x.1 x.2.1 x.2.2) ss.length (strs ss) (fun g => B ≤ g)) (hss : ss.length ≤ 8796093021952)
 {v' : Value} (hr : Row w' 34 1 v' (ps.length + 1) (fD ps ++ [.slice x.1 x.2.1 x.2.2]) (fun g => lo ≤ g)) (hk : Kp (fun g => v.ownBlock = some g) w w') : OwnRows lo w' v' (ps.map Prod.snd ++ [ss]) := by
 have hne : 9 ≠ 34 := by decide
 refine ⟨ps ++ [(x, ss)], by simp, ?_, fun p hp => ?_, ?_⟩
 ·rw [zR]; simpa [fD] using hr
 ·rcases List.mem_append.1 hp with hp | hp
  ·exact ⟨(h3 p hp).1.kp' hk fun g hg _ hf => (h3 p hp).1.sort_ne h2 hne hg hf, (h3 p hp).2⟩
  ·obtain rfl := List.mem_singleton.1 hp
   exact ⟨Row.mono (hx.kp' hk fun g hg _ hf => hx.sort_ne h2 hne hg hf) fun g hg => Nat.le_trans hlo hg, hss⟩
 ·refine List.pairwise_append.2 ⟨h4, List.pairwise_singleton _ _, fun p hp q hq g hg hg' => ?_⟩
  obtain rfl := List.mem_singleton.1 hq
  have h1 := hB p hp g hg
  have h2 : B ≤ g := hx.block g hg'
  omega
end
end Go.Proofs.YtinnmeiphbdogaaGreat
/- tuple.Rows: All: the rows, each in memory of its own. -/
namespace Go.Proofs.YtinnmeiphbdogaaGreat
open Go.RowKit Go.Shelf
attribute [local go_sem] Oper.semAt_some
def GotRows {α : Type} (f : α -> List ByteArray) (m : Nat) (w0 : World) (b : Nat) (pre : List α) (W : World) : Prop :=
 pre.length ≤ m /\ Kp (fun g => g = b) w0 W /\ ∃ v, Blk W b [v] 69 /\ OwnRows w0.heap.size W v (pre.map f)
theorem OwnRows.grown {lo : Nat} {W W' : World} {v : Value} {LL : List (List ByteArray)} {row : Option Nat} (h : OwnRows lo W v LL) (hg : W.grownBy W' row) (hr : ∀ r, row = some r -> ∃ o : Obj, W.heap[r]? = some o /\ o.isCells = false) : OwnRows lo W' v LL := by
 obtain ⟨ps, h1, h2, h3, h4⟩ := h
 exact ⟨ps, h1, h2.grown hg hr, fun p hp => ⟨(h3 p hp).1.grown hg hr, (h3 p hp).2⟩, h4⟩
theorem OwnRows.kpc {F : Nat -> Prop} {lo : Nat} {w w' : World} {v : Value} {LL : List (List ByteArray)} (h : OwnRows lo w v LL) (hk : Kp F w w') (hF : ∀ g, F g -> ¬ ∃ o : Obj, w.heap[g]? = some o /\ o.isCells = true) : OwnRows lo w' v LL := by
 obtain ⟨ps, h1, h2, h3, h4⟩ := h
 have key : ∀ {e : TypeId} {k n : Nat} {v : Value} {xs : List Value} {M : Nat -> Prop}, Row w e k v n xs M -> Row w' e k v n xs M := fun h => h.kp' hk fun g hg _ hf => by
  obtain ⟨cs, hb, _⟩ := h.has hg
  exact hF g hf ⟨_, hb, rfl⟩
 exact ⟨ps, h1, key h2, fun p hp => ⟨key (h3 p hp).1, (h3 p hp).2⟩, h4⟩
theorem GotRows.own {α : Type} {f : α -> List ByteArray} {m : Nat} {w0 : World} {b B : Nat} (hB : w0.heap.size ≤ B) : OwnFrom B (GotRows f m w0 b) := fun pre W W' row hs hg hr => by
 obtain ⟨h1, h2, v, h3, h4⟩ := hs
 refine ⟨h1, h2.grown hg fun k e hk => ?_, v, h3.grown hg fun r e => (hr r e).2, h4.grown hg fun r e => (hr r e).2⟩
 have := (hr k e).1
 omega
theorem KeepsOthers.of_ext {W W' : World} (h : Ext W W') : KeepsOthers W W' := ⟨h.size, fun k o hk _ => (h.block k (lt_of_block hk) id).trans hk⟩
theorem jW {α : Type} {f : α -> List ByteArray} {m : Nat} {w0 X X1 : World} {B : Nat} {ao : Option Addr} {n cap : Nat} {pre : List α} {x : gT} {ss : List ByteArray} (hm : pre.length ≤ m /\ m ≤ 1048576 * 1048576) (hpk : Kp (fun g => g = B) w0 X) (hBlt : B < w0.heap.size)
 (hB : Blk X B [.slice ao n cap] 69) (hr : OwnRows w0.heap.size X (.slice ao n cap) (pre.map f)) (hk : Ext X X1) (hx : Row X1 9 1 (.slice x.1 x.2.1 x.2.2) ss.length (strs ss) (New X)) (hss : ss.length ≤ 8796093021952) :
 ∃ ao3 n3 cap3 w3, (Builtin.append_ #[69, 69] 69 #[.slice ao n cap, .slice (some ⟨X1.heap.size, 0, none⟩) 1 1]).run Tryz.prog (X1.alloc (.cells #[.slice x.1 x.2.1 x.2.2] 34)) = .ok (.slice ao3 n3 cap3) w3 /\
  w3.cell? ⟨B, 0, none⟩ = some (.slice ao n cap) /\ w3.frozen? ⟨B, 0, none⟩ = false /\ ∀ y, f y = ss -> KeepsOthers X (w3.setCell ⟨B, 0, none⟩ (.slice ao3 n3 cap3)) /\ Kp (fun g => g = B \/ w0.heap.size ≤ g) X (w3.setCell ⟨B, 0, none⟩ (.slice ao3 n3 cap3)) /\
   Kp (fun g => g = B) w0 (w3.setCell ⟨B, 0, none⟩ (.slice ao3 n3 cap3)) /\ ∃ v, Blk (w3.setCell ⟨B, 0, none⟩ (.slice ao3 n3 cap3)) B [v] 69 /\ OwnRows w0.heap.size (w3.setCell ⟨B, 0, none⟩ (.slice ao3 n3 cap3)) v ((pre ++ [y]).map f) := by
 obtain ⟨ps, e1, h2, h3, h4⟩ := hr
 have hlen : ps.length = pre.length := by have := congrArg List.length e1; simpa using this.symm
 obtain ⟨w2, ew2⟩ : ∃ w2, X1.alloc (.cells #[.slice x.1 x.2.1 x.2.2] 34) = w2 := ⟨_, rfl⟩
 have hk2 : Ext X w2 := by rw [<- ew2]; exact hk.alloc _
 have hx2 : Row w2 9 1 (.slice x.1 x.2.1 x.2.2) ss.length (strs ss) (New X) := by rw [<- ew2]; exact hx.alloc _
 have hsrc : CellsAt w2 (some ⟨X1.heap.size, 0, none⟩) [.slice x.1 x.2.1 x.2.2] := by rw [<- ew2]; exact CellsAt.one X1 _ _
 have h2' := h2.ext hk2
 obtain ⟨v3, w3, hrun, hr3, hk3, _⟩ := qF (P := Tryz.prog) gF 69 h2' (m := 1) (c := 1) rfl hsrc (by simp; rfl) (by omega) (by unfold maxLen; omega)
 obtain ⟨ao3, cap3, ev, _, _⟩ := hr3.shape
 subst ev
 have hBne : (Value.slice ao n cap).ownBlock ≠ some B := fun e => by have := h2.block B e; omega
 have hB3 : Blk w3 B [.slice ao n cap] 69 := (hB.ext hk2).kp hk3 hBne
 have hsz0 := hpk.size
 refine ⟨ao3, _, cap3, w3, by rw [ew2]; exact hrun, by rw [hB3.cell']; rfl, hB3.free 0, fun y hy => ?_⟩
 have hko : KeepsOthers w2 w3 := ⟨hk3.size, fun k o hk' ho => (hk3.block k (lt_of_block hk') (fun hg => by
  obtain ⟨cs, hb, _⟩ := h2'.has hg
  unfold Blk at hb
  rw [hb] at hk'; cases hk'; cases ho)).trans hk'⟩
 have kX : Kp (fun g => g = B \/ w0.heap.size ≤ g) X w3 := (Ext.kp hk2).trans (hk3.mono fun g _ hg => .inr (h2.block g hg))
 have k0 : Kp (fun g => g = B) w0 w3 := hpk.trans' kX fun i hi hg => by rcases hg with hg | hg; exact hg; omega
 refine ⟨((KeepsOthers.of_ext hk2).trans hko).trans (KeepsOthers.setCell _ _ _), kX.setCell (fun _ => .inl rfl) _, k0.setCell (fun _ => rfl) _, _, hB3.set 0 _, ?_⟩
 have hown : OwnRows w0.heap.size w3 (.slice ao3 (ps.length + 1) cap3) (ps.map Prod.snd ++ [ss]) :=
  OwnRows.push h2' (fun p hp => ⟨(h3 p hp).1.ext hk2, (h3 p hp).2⟩) h4 (B := X.heap.size) (fun p hp g hg => (h3 p hp).1.lt g hg) hsz0 hx2 hss
   (hr3.mono fun g hg => by rcases hg with hg | hg; exact h2.block g hg; exact Nat.le_trans hsz0 (Nat.le_trans hk2.size hg)) hk3
 rw [List.map_append, List.map_singleton, hy, e1]
 exact hown.kp (Kp.setCell (F := fun g => g = B) (Kp.refl _) (fun _ => rfl) _) fun g hg e => by omega
theorem lK {F : Fence} {n : Nat} {P : Program} {o : Oper} {a : Act} {w w' : World} {K : Act -> World -> Prop} {Q : Exit -> Act -> World -> Prop} {b : Bool} {p : Prop} [Decidable (b = true)] (s x : Operand) {t : TypeId} {v vx v' : Value}
 (ho : o.op = .call { callee := .builtin .append, args := #[s, x], argTypes := #[t, t] }) (hs : a.eval s = v) (hx : a.eval x = vx) (hb : b = true) (hrun : (Builtin.append_ #[t, t] o.type #[v, vx]).run P w = .ok v' w') (hK : K (a.put o.dst v') w') : if b = true then Oper.wpIn F n P o a w K Q else p := by
 rw [if_pos hb]
 unfold Oper.wpIn
 refine ⟨by simp [Oper.about, ho, resolve, Target.leads, Sem.run_pure], ?_⟩
 rw [Oper.semAt_plain F _ _ (by rw [ho]; intro c hc'; cases hc')]
 simp only [execOp, ho, resolve, invoke, builtin, Sem.run_bind, Sem.run_pure, Result.andThen_ok, List.map_toArray, List.map_cons, List.map_nil, hs, hx, hrun]
 exact hK
theorem aBi {F : Nat -> Prop} {w W : World} {P : World -> Value -> Prop} {tmps : Array Value} {ds : List Deferred} {lo : Nat} (hm : Marks lo W ds) (hk : Kp F w W) (hlo : w.heap.size ≤ lo) {v : Value} (ht : tmps.getD 2 undef = v)
 (hP : ∀ w', Kp (fun k => lo ≤ k /\ ¬ ∃ o : Obj, W.heap[k]? = some o /\ o.isCells = true) W w' -> P w' v) :
 bodyPostM Fence.wide 4 Tryz.prog Tryz.f53 (RetF F w P) .ret { tmps := tmps, defers := ds } W := by
 refine gC hm fun w' e1 e2 e3 e4 e5 e6 => ?_
 have kx : Kp (fun k => lo ≤ k /\ ¬ ∃ o : Obj, W.heap[k]? = some o /\ o.isCells = true) W w' := ⟨e1, e2, e3, by omega, fun k hk hf => by
  by_cases h : lo ≤ k
  ·by_cases h2 : ∃ o : Obj, W.heap[k]? = some o /\ o.isCells = true
   ·obtain ⟨o, h2, h3⟩ := h2
    rw [h2]; exact e6 k o h2 h3
   ·exact absurd ⟨h, h2⟩ hf
  ·exact e5 k (by omega)⟩
 refine ⟨v, ?_, RetF.mk (hk.trans' kx fun i hi h => absurd h.1 (by omega)) (hP w' kx)⟩
 have ht' : tmps[2]?.getD undef = v := by simpa using ht
 simp [results, Tryz.f53, go_sem, ht']
section
variable {z : Prop} {S : Nat -> Prop} {w w' : World} {b : Nat} {iv : Value} {arity : Nat} {LL : List (List ByteArray)}
theorem RowsQ.ownLt (h : RowsQ z S w b iv arity LL) : ∀ k, dS b iv k -> k < w.heap.size := by
 rcases h with ⟨con, zs, hc, hs, hl⟩ | ⟨hz, rfl, rfl, hB, h1, h2⟩
 ·rintro k (rfl | hk)
  ·exact hs.blk.lt
  ·exact hs.row.lt k hk
 ·rintro k (rfl | hk)
  ·exact hB.lt
  ·cases hk
def aKi (w : World) (F : Nat -> Prop) (R : World -> Prop) (LL : List (List ByteArray)) (rv : Value) : Prop :=
 ∀ W, Ext w W -> Calls Tryz.prog 99 #[rv] W (RetF F W fun w' v => R w' /\ ∃ S con, ∃ zs : List gT, PtrSetRow Tryz.prog S w' v zs /\ (∀ k, S k -> k < w.heap.size) /\ zs.map con = LL /\
  ∀ x ∈ zs, ∃ ss, ReadsAs w' x ss /\ ss.length ≤ 8796093021952 /\ (∀ a, x.1 = some a -> x.2.1 ≠ 0 -> S a.block) /\ con x = ss)
set_option maxRecDepth 100000 in
set_option maxHeartbeats 2000000 in
theorem uZ {F : Nat -> Prop} {R : World -> Prop} {rv : Value} (hset : aKi w F R LL rv) (hF : ∀ k, F k -> k < w.heap.size) (hR : ∀ {W W' : World}, R W -> Kp (fun g => w.heap.size ≤ g) W W' -> R W') :
 Calls Tryz.prog 53 #[rv] w (RetF F w fun w' v => R w' /\ OwnRows w.heap.size w' v LL) := by
 refine callsIn_wide.1 (callsIn_of_wp_marks (n := 4) Tryz.func53 rfl trivial ?_ rfl)
 refine wpIn_wide.2 ?_
 obtain ⟨Q, eQ⟩ : ∃ Q, Q = bodyPostM Fence.wide 4 Tryz.prog Tryz.f53 (RetF F w fun w' v => R w' /\ OwnRows w.heap.size w' v LL) := ⟨_, rfl⟩
 rw [<- eQ]
 have EQ := qH eQ; clear eQ
 have H := qH hset
 have HR := qH (And.intro hF (@hR)); clear hset hF hR
 simp only [Tryz.ntmps53, List.size_toArray, List.length_cons, List.length_nil, Nat.reduceAdd, Nat.reduceSub, Array.replicate_succ, Array.replicate_zero, List.push_toArray, List.append_toArray, List.nil_append, List.cons_append]
 go_wp2_with fail
 have x0 : Ext w (w.alloc (.cells #[.slice none 0 0] 69)) := (Kp.refl w).alloc _
 have b0 : Blk (w.alloc (.cells #[.slice none 0 0] 69)) w.heap.size [.slice none 0 0] 69 := Blk.new w [_] _
 refine (H.out _ x0).mono ?_
 rintro e w1 ⟨v1, rfl, hk1, hR1, S, con, zs, hp, hSw, hl, hall⟩
 have k01 : Kp F w w1 := (Ext.kp x0).trans hk1
 have b1 := b0.kp hk1 (fun e => by have := HR.out.1 _ e; omega)
 have HK1 := qH (And.intro k01 hR1)
 have hlen := hp.len
 have HS := qH (And.intro hall hl)
 have HE := qH (uU hp)
 have B1 := qH b1
 have hsz1 := b1.lt
 clear hall hp hl b0 b1 hk1 k01 x0 H hR1
 go_wp2_with fail
 refine HE.out.mono ?_
 rintro e w2 ⟨v2, rfl, hk2, hit⟩
 obtain ⟨Bs, hv2, hseq⟩ := hit.sub.stops Fence.wide 3 trivial rfl (by omega)
 subst hv2
 have HQ := qH hseq; clear hseq hit
 have B2 := qH (B1.out.ext hk2)
 have HK2 := qH hk2
 have hsz2 := hk2.size
 have hn0 : zs.attach.length = zs.length := List.length_attach
 have HSW := qH hSw
 clear hk2 HE B1 hSw
 go_wp2_with fail
 refine' wpIn_wide.1 (wpIn_rangeFunc_ownG (F := Fence.wide) (n := 4) (w0 := w2) rfl (by omega) (gf := 171) (lb := #[.pointer (some ⟨Bs, 0, none⟩)]) rfl trivial (enters_of Tryz.func171 (by kernel_rfl) rfl)
  HQ.out SameOn.trans (SameOn.put (fun k h => h.2)) (Kp.refl w2).below (fun _ => rfl) (GotRows (fun x => con x.1) zs.length w2 w.heap.size) (fun _ _ _ => False) (GotRows.own (Nat.le_refl _)) (fun _ _ _ _ _ h _ _ => h) ⟨by simp, Kp.refl _, _, B2.out, OwnRows.nil _ _⟩ _ ?assign ?body ?done ?stop)
 case assign =>
  intro l x W K hK
  gi_wp2
  exact hK
 case body =>
  rintro l pre x X ⟨hpl, hpk, v, hB, hr⟩ hlen'
  obtain ⟨xv, xm⟩ := x
  obtain ⟨ao1, n1, cap1, ev, _⟩ : ∃ ao n cap, v = .slice ao n cap /\ True := by obtain ⟨ao, cap, e, _⟩ := hr.shape; exact ⟨_, _, _, e, trivial⟩
  subst ev
  have HPL := qH (And.intro hpl hlen)
  obtain ⟨ss, hrd, hss, hxS, hcx⟩ := HS.out.1 xv xm
  have hrd2 : ReadsAs X xv ss := ⟨hrd.1, fun i u hu => by
   have hne : xv.2.1 ≠ 0 := by
    have h1 := (List.getElem?_eq_some_iff.1 hu).1
    simp only [strs, List.length_map] at h1
    rw [hrd.1]; omega
   obtain ⟨b, o, e, c⟩ := (hrd.2.ext HK2.out) i u hu
   exact ⟨b, o, e, hpk.cell c fun hf => by have h8 : b < _ := HSW.out _ (hxS _ e hne); omega⟩⟩
  clear hrd hxS
  obtain ⟨ao, n, cap⟩ := xv
  obtain ⟨hn, hcs⟩ := hrd2
  simp only at hn hcs
  have hmix : Tryz.prog.follows .mixedOrders = true := by kernel_rfl
  have HCL := qH (iO (strs ss) ao cap X.drew n (by simp [strs, hn]) (hcs.ext (Kp.refl X).drew) (kL ss) (by omega))
  have hc0 := hB.cell 0 (by simp)
  have hf0 := hB.free 0
  simp only [List.getElem_cons_zero] at hc0
  have HB := qH (And.intro hB hr)
  have HCX := qH (And.intro hcx hn)
  clear hB hr hcx hn hcs
  gi_wp2
  refine wpIn_region_any (by kernel_rfl) ?_
  change wpAnyIn _ _ _ _ _ _ _ _ _ (World.drew _)
  refine wpAnyIn_ready (rs := [0, 1]) (by kernel_rfl) (by simp) (AllReadyIn.cons rfl (fun K hK => ?_) (AllReadyIn.cons rfl (fun K hK => ?_) AllReadyIn.nil))
  ·go_simp
   refine hK _ _ ?_
   clear hK K
   refine wpAnyIn_ready (rs := [1]) (by kernel_rfl) (by simp) (AllReadyIn.cons rfl (fun K hK => ?_) AllReadyIn.nil)
   go_simp
   refine hK _ _ ?_
   clear hK K
   refine wpAnyIn_ready (rs := [2]) (by kernel_rfl) (by simp) (AllReadyIn.cons rfl (fun K hK => ?_) AllReadyIn.nil)
   go_simp
   refine And.intro trivial ?_
   refine (CallsIn.inRound l (callsIn_wide.2 HCL.out)).mono ?_
   rintro e X1 ⟨v1, rfl, hk1, hr1⟩
   obtain ⟨ao2, cap2, ev, _, _⟩ := hr1.shape
   subst ev
   rw [HCX.out.2] at hr1
   obtain ⟨ao3, n3, cap3, w3, hrunA, d1, d2, HFIN⟩ := jW (x := (ao2, ss.length, cap2)) HPL.out hpk (by omega) HB.out.1 HB.out.2 ((Kp.refl X).drew.trans hk1) hr1 hss
   rw [<- HCX.out.2] at hrunA
   have HFI := qH HFIN
   clear HFIN hr1
   have e0 := hk1.cell (w := X.drew) hc0 id
   have e1 := (hk1.alloc (.cells #[.slice ao2 n cap2] 34)).cell (w := X.drew) hc0 id
   change K _ _
   refine hK _ _ ?_
   clear hK K
   refine wpAnyIn_ready (rs := [3]) (by kernel_rfl) (by simp) (AllReadyIn.cons rfl (fun K hK => ?_) AllReadyIn.nil)
   go_simp
   refine hK _ _ ?_
   clear hK K
   refine wpAnyIn_ready (rs := [4]) (by kernel_rfl) (by simp) (AllReadyIn.cons rfl (fun K hK => ?_) AllReadyIn.nil)
   refine lK (.tmp 9) (.tmp 12) rfl rfl rfl rfl hrunA ?_
   refine hK _ _ ?_
   clear hK K
   refine wpAnyIn_ready (rs := [5]) (by kernel_rfl) (by simp) (AllReadyIn.cons rfl (fun K hK => ?_) AllReadyIn.nil)
   go_simp
   refine hK _ _ ?_
   clear hK K
   refine wpAnyIn_done (by kernel_rfl) ?_ _
   obtain ⟨q1, q2, q3, q4⟩ := HFI.out ⟨(ao, n, cap), xm⟩ HCX.out.1
   refine And.intro (q1.from _) (And.intro (SameOn.of_kp q2 (fun k h => Nat.lt_of_lt_of_le h.2 hpk.size) (fun k h h' => by omega)) ⟨by rw [List.length_append]; simp; omega, q3, q4⟩)
  ·go_simp
   refine hK _ _ ?_
   clear hK K
   refine wpAnyIn_ready (rs := [0, 2]) (by kernel_rfl) (by simp) (AllReadyIn.cons rfl (fun K hK => ?_) (AllReadyIn.cons rfl (fun K hK => ?_) AllReadyIn.nil))
   ·go_simp
    refine hK _ _ ?_
    clear hK K
    refine wpAnyIn_ready (rs := [2]) (by kernel_rfl) (by simp) (AllReadyIn.cons rfl (fun K hK => ?_) AllReadyIn.nil)
    go_simp
    refine And.intro trivial ?_
    refine (CallsIn.inRound l (callsIn_wide.2 HCL.out)).mono ?_
    rintro e X1 ⟨v1, rfl, hk1, hr1⟩
    obtain ⟨ao2, cap2, ev, _, _⟩ := hr1.shape
    subst ev
    rw [HCX.out.2] at hr1
    obtain ⟨ao3, n3, cap3, w3, hrunA, d1, d2, HFIN⟩ := jW (x := (ao2, ss.length, cap2)) HPL.out hpk (by omega) HB.out.1 HB.out.2 ((Kp.refl X).drew.trans hk1) hr1 hss
    rw [<- HCX.out.2] at hrunA
    have HFI := qH HFIN
    clear HFIN hr1
    have e0 := hk1.cell (w := X.drew) hc0 id
    have e1 := (hk1.alloc (.cells #[.slice ao2 n cap2] 34)).cell (w := X.drew) hc0 id
    change K _ _
    refine hK _ _ ?_
    clear hK K
    refine wpAnyIn_ready (rs := [3]) (by kernel_rfl) (by simp) (AllReadyIn.cons rfl (fun K hK => ?_) AllReadyIn.nil)
    go_simp
    refine hK _ _ ?_
    clear hK K
    refine wpAnyIn_ready (rs := [4]) (by kernel_rfl) (by simp) (AllReadyIn.cons rfl (fun K hK => ?_) AllReadyIn.nil)
    refine lK (.tmp 9) (.tmp 12) rfl rfl rfl rfl hrunA ?_
    refine hK _ _ ?_
    clear hK K
    refine wpAnyIn_ready (rs := [5]) (by kernel_rfl) (by simp) (AllReadyIn.cons rfl (fun K hK => ?_) AllReadyIn.nil)
    go_simp
    refine hK _ _ ?_
    clear hK K
    refine wpAnyIn_done (by kernel_rfl) ?_ _
    obtain ⟨q1, q2, q3, q4⟩ := HFI.out ⟨(ao, n, cap), xm⟩ HCX.out.1
    refine And.intro (q1.from _) (And.intro (SameOn.of_kp q2 (fun k h => Nat.lt_of_lt_of_le h.2 hpk.size) (fun k h h' => by omega)) ⟨by rw [List.length_append]; simp; omega, q3, q4⟩)
   ·go_simp
    refine And.intro trivial ?_
    refine (CallsIn.inRound l (callsIn_wide.2 HCL.out)).mono ?_
    rintro e X1 ⟨v1, rfl, hk1, hr1⟩
    obtain ⟨ao2, cap2, ev, _, _⟩ := hr1.shape
    subst ev
    rw [HCX.out.2] at hr1
    obtain ⟨ao3, n3, cap3, w3, hrunA, d1, d2, HFIN⟩ := jW (x := (ao2, ss.length, cap2)) HPL.out hpk (by omega) HB.out.1 HB.out.2 ((Kp.refl X).drew.trans hk1) hr1 hss
    rw [<- HCX.out.2] at hrunA
    have HFI := qH HFIN
    clear HFIN hr1
    have e0 := hk1.cell (w := X.drew) hc0 id
    have e1 := (hk1.alloc (.cells #[.slice ao2 n cap2] 34)).cell (w := X.drew) hc0 id
    change K _ _
    refine hK _ _ ?_
    clear hK K
    refine wpAnyIn_ready (rs := [0, 3]) (by kernel_rfl) (by simp) (AllReadyIn.cons rfl (fun K hK => ?_) (AllReadyIn.cons rfl (fun K hK => ?_) AllReadyIn.nil))
    ·go_simp
     refine hK _ _ ?_
     clear hK K
     refine wpAnyIn_ready (rs := [3]) (by kernel_rfl) (by simp) (AllReadyIn.cons rfl (fun K hK => ?_) AllReadyIn.nil)
     go_simp
     refine hK _ _ ?_
     clear hK K
     refine wpAnyIn_ready (rs := [4]) (by kernel_rfl) (by simp) (AllReadyIn.cons rfl (fun K hK => ?_) AllReadyIn.nil)
     refine lK (.tmp 9) (.tmp 12) rfl rfl rfl rfl hrunA ?_
     refine hK _ _ ?_
     clear hK K
     refine wpAnyIn_ready (rs := [5]) (by kernel_rfl) (by simp) (AllReadyIn.cons rfl (fun K hK => ?_) AllReadyIn.nil)
     go_simp
     refine hK _ _ ?_
     clear hK K
     refine wpAnyIn_done (by kernel_rfl) ?_ _
     obtain ⟨q1, q2, q3, q4⟩ := HFI.out ⟨(ao, n, cap), xm⟩ HCX.out.1
     refine And.intro (q1.from _) (And.intro (SameOn.of_kp q2 (fun k h => Nat.lt_of_lt_of_le h.2 hpk.size) (fun k h h' => by omega)) ⟨by rw [List.length_append]; simp; omega, q3, q4⟩)
    ·go_simp
     refine hK _ _ ?_
     clear hK K
     refine wpAnyIn_ready (rs := [0]) (by kernel_rfl) (by simp) (AllReadyIn.cons rfl (fun K hK => ?_) AllReadyIn.nil)
     go_simp
     refine hK _ _ ?_
     clear hK K
     refine wpAnyIn_ready (rs := [4]) (by kernel_rfl) (by simp) (AllReadyIn.cons rfl (fun K hK => ?_) AllReadyIn.nil)
     refine lK (.tmp 9) (.tmp 12) rfl rfl rfl rfl hrunA ?_
     refine hK _ _ ?_
     clear hK K
     refine wpAnyIn_ready (rs := [5]) (by kernel_rfl) (by simp) (AllReadyIn.cons rfl (fun K hK => ?_) AllReadyIn.nil)
     go_simp
     refine hK _ _ ?_
     clear hK K
     refine wpAnyIn_done (by kernel_rfl) ?_ _
     obtain ⟨q1, q2, q3, q4⟩ := HFI.out ⟨(ao, n, cap), xm⟩ HCX.out.1
     refine And.intro (q1.from _) (And.intro (SameOn.of_kp q2 (fun k h => Nat.lt_of_lt_of_le h.2 hpk.size) (fun k h h' => by omega)) ⟨by rw [List.length_append]; simp; omega, q3, q4⟩)
 case stop =>
  rintro D c pre W _ _ h _
  exact h.elim
 case done =>
  rintro D ys W2 hD hys ⟨hl2, hkd, v, hBd, hrd⟩ hd
  subst hys
  have kw : Kp F w W2 := (HK1.out.1.ext HK2.out).trans' hkd fun k hk e => by omega
  have hra : R W2 := HR.out.2 HK1.out.2 ((Ext.kp HK2.out).trans (hkd.mono fun g _ e => by omega))
  have hown : OwnRows w.heap.size W2 v LL := by
   have e : zs.attach.map (fun x => con x.1) = LL := by
    rw [<- HS.out.2]
    have h : (zs.attach.map fun x : { x // x ∈ zs } => con x.1) = (zs.attach.map Subtype.val).map con := by rw [List.map_map]; rfl
    rw [h, List.attach_map_subtype_val]
   rw [e] at hrd
   exact hrd.mono (by omega)
  have hmk := (Marks.nil w2.heap.size w2).push (w' := W2) (D := D) (fun k o h ho => (hkd.block k (lt_of_block h) (fun e => by
   subst e; have hb := B2.out; unfold Blk at hb; rw [hb] at h; cases h; cases ho)).trans h) hD hD hd
  obtain ⟨ao4, cap4, ev, _⟩ := hown.shape
  subst ev
  have c0 := hBd.cell 0 (by simp)
  simp only [List.getElem_cons_zero] at c0
  have HF := qH (And.intro kw (And.intro hra (And.intro hown hmk)))
  clear kw hra hown hmk hrd hBd hkd hd
  go_wp2
  rw [EQ.out]
  obtain ⟨kw, hra, hown, hmk⟩ := HF.out
  refine aBi hmk kw (by omega) rfl fun w' kx => ⟨HR.out.2 hra (kx.mono fun g _ h => by omega), hown.kpc kx fun g h => h.2⟩
theorem RowsAt.tells (h : RowsAt S w b iv arity LL) : ∃ con, ∃ zs : List gT, PtrSetRow Tryz.prog S w (.pointer (some ⟨b, 0, none⟩)) zs /\ zs.map con = LL /\
 ∀ x ∈ zs, ∃ ss, ReadsAs w x ss /\ ss.length ≤ 8796093021952 /\ (∀ a, x.1 = some a -> x.2.1 ≠ 0 -> S a.block) /\ con x = ss := by
 obtain ⟨con, zs, hc, hs, hl⟩ := h
 refine ⟨con, zs, .inr ⟨_, _, _, _, _, _, _, rfl, hs⟩, hl, fun x hx => ?_⟩
 obtain ⟨ss, h1, h2, h3⟩ := hs.all x hx
 exact ⟨ss, h1, h2, h3, hc x ss h1⟩
theorem aGs (h : RowsQ z S w b iv arity LL) :
 Calls Tryz.prog 53 #[.pointer (some ⟨b, 0, none⟩)] w (RetF (FQ z b) w fun w' v => RowsAt S w' b iv arity LL /\ OwnRows w.heap.size w' v LL) := by
 refine uZ (R := fun W => RowsAt S W b iv arity LL) (fun W hW => ?_) (fun k hk => by rw [hk.2]; exact h.lt) (fun {W W'} hr hk => ?_)
 ·refine (iR (h.ext hW)).mono ?_
  rintro e w1 ⟨v, rfl, hk, rfl, h1⟩
  obtain ⟨con, zs, hp, hl, hall⟩ := h1.tells
  exact RetF.mk hk ⟨h1, S, con, zs, hp, h.inS, hl, hall⟩
 ·exact hr.move hk (fun k hg ho => by have := h.ownLt k ho; omega) (fun k hg hS => by have := h.inS k hS; omega) (fun _ h => h) (fun k hS => Nat.lt_of_lt_of_le (hr.inS k hS) hk.size) hr.notS
theorem aBj (w : World) : Calls Tryz.prog 53 #[.pointer none] w (RetN w fun w' v => OwnRows w.heap.size w' v []) := by
 refine (uZ (w := w) (F := fun _ => False) (R := fun _ => True) (LL := []) (fun W hW => ?_) (fun k hk => hk.elim) (fun _ _ => trivial)).mono ?_
 ·refine (sN W).mono ?_
  rintro e w1 ⟨rfl, rfl⟩
  exact RetF.mk (Kp.refl _) ⟨trivial, fun _ => False, fun _ => [], [], .inl ⟨rfl, rfl⟩, fun k hk => hk.elim, rfl, by simp⟩
 ·rintro e w' ⟨v, rfl, hk, _, h⟩
  exact RetN.mk hk h
end
end Go.Proofs.YtinnmeiphbdogaaGreat
/- tuple.Base in memory: a map of names to Rows, each in blocks of its own. -/
namespace Go.Proofs.YtinnmeiphbdogaaGreat
open Go.RowKit
structure Ent where
 name : ByteArray
 b : Nat
 iv : Value
 ar : Nat
 LL : List (List ByteArray)
def Ent.ptr (e : Ent) : Value := .pointer (some ⟨e.b, 0, none⟩)
def Ent.cnt (e : Ent) : aV := (e.name, e.ar, e.LL)
def Ent.own (e : Ent) : Nat -> Prop := dS e.b e.iv
def cJ (E : List Ent) : List (ByteArray × Value) := E.map fun e => (e.name, e.ptr)
def aE (E : List Ent) : List aV := E.map Ent.cnt
def aY (E : List Ent) (s : ByteArray) : Option Ent := E.find? fun e => decide (e.name = s)
theorem jI (E : List Ent) (s : ByteArray) : aAg (cJ E) s = (aY E s).map Ent.ptr := by
 unfold aAg cJ aY
 rw [List.find?_map, Option.map_map]; rfl
theorem jJ (E : List Ent) (s : ByteArray) : bD (aE E) s = (aY E s).map fun e => (e.ar, e.LL) := by
 unfold bD aE aY
 rw [List.find?_map, Option.map_map]; rfl
theorem jH (E : List Ent) : (cJ E).map (·.1) = (aE E).map (·.1) := by
 unfold cJ aE
 rw [List.map_map, List.map_map]; rfl
theorem bP {E : List Ent} {s : ByteArray} {e : Ent} (h : aY E s = some e) : e ∈ E /\ e.name = s := ⟨List.mem_of_find?_eq_some h, by have := List.find?_some h; simpa using this⟩
theorem eE {E : List Ent} {s : ByteArray} {e : Ent} (h : aY E s = some e) : bD (aE E) s = some (e.ar, e.LL) /\ aP (aE E) s = e.LL := by
 have h1 : bD (aE E) s = some (e.ar, e.LL) := by rw [jJ, h]; rfl
 exact ⟨h1, kM h1⟩
theorem fP {E : List Ent} {s : ByteArray} (h : aY E s = none) : bD (aE E) s = none /\ aP (aE E) s = [] := by
 have h1 : bD (aE E) s = none := by rw [jJ, h]; rfl
 exact ⟨h1, kO h1⟩
theorem cM {E : List Ent} {e : Ent} (h : e ∈ E) : e.cnt ∈ aE E := List.mem_map.2 ⟨e, h, rfl⟩
def OwnE (E : List Ent) (k : Nat) : Prop := ∃ e ∈ E, e.own k
def dX (bb r : Nat) (E : List Ent) (k : Nat) : Prop := k = bb \/ k = r \/ OwnE E k
structure BaseAt (S : Nat -> Prop) (w : World) (bb r : Nat) (E : List Ent) : Prop where
 blk : Blk w bb [.map (some r), .int .i64 (aS (aE E) : Nat)] 129
 map : MapIs w r (cJ E)
 rows : ∀ e ∈ E, RowsAt S w e.b e.iv e.ar e.LL
 apart : E.Pairwise fun e f => ∀ k, e.own k -> ¬ f.own k
 inS : ∀ k, S k -> k < w.heap.size
 notS : ¬ S bb /\ ¬ S r
 ne : bb ≠ r
 off : ∀ e ∈ E, ∀ k, e.own k -> k ≠ bb /\ k ≠ r
 ok : BaseOk (aE E)
section
variable {S S' : Nat -> Prop} {w w' : World} {bb r : Nat} {E : List Ent}
theorem BaseAt.kp {F : Nat -> Prop} (h : BaseAt S w bb r E) (hk : Kp F w w') (hF : ∀ k, F k -> ¬ dX bb r E k) (hS : ∀ k, F k -> ¬ S k) : BaseAt S w' bb r E :=
 {blk := h.blk.kp hk fun hf => hF _ hf (.inl rfl)
  map := h.map.kp hk fun hf => hF _ hf (.inr (.inl rfl))
  rows := fun e he => (h.rows e he).move hk (fun k hf ho => hF k hf (.inr (.inr ⟨e, he, ho⟩))) hS (fun _ x => x) (fun k hk' => Nat.lt_of_lt_of_le (h.inS k hk') hk.size) (h.rows e he).notS
  apart := h.apart
  inS := fun k hk' => Nat.lt_of_lt_of_le (h.inS k hk') hk.size
  notS := h.notS, ne := h.ne, off := h.off, ok := h.ok }
theorem BaseAt.ext (h : BaseAt S w bb r E) (hk : Ext w w') : BaseAt S w' bb r E := h.kp hk (fun _ x => x.elim) (fun _ x => x.elim)
theorem BaseAt.ownLt (h : BaseAt S w bb r E) : ∀ k, dX bb r E k -> k < w.heap.size := by
 rintro k (rfl | rfl | ⟨e, he, ho⟩)
 ·exact h.blk.lt
 ·exact h.map.lt
 ·exact (RowsQ.ownLt (z := True) (h.rows e he).q) k ho
theorem BaseAt.notOwn (h : BaseAt S w bb r E) : ∀ k, dX bb r E k -> ¬ S k := by
 rintro k (rfl | rfl | ⟨e, he, ho⟩)
 ·exact h.notS.1
 ·exact h.notS.2
 ·exact (h.rows e he).notS k ho
theorem BaseAt.strict (h : BaseAt S w bb r E) {e : Ent} (he : e ∈ E) : Strict aC e.LL := (h.ok.all _ (cM he)).strict
theorem BaseAt.few (h : BaseAt S w bb r E) {e : Ent} (he : e ∈ E) : e.LL.length ≤ 65536 := (h.ok.all _ (cM he)).few
theorem BaseAt.wide (h : BaseAt S w bb r E) (hs : ∀ k, S k -> S' k) (hl : ∀ k, S' k -> k < w.heap.size) (hn : ∀ k, dX bb r E k -> ¬ S' k) : BaseAt S' w bb r E :=
 {blk := h.blk, map := h.map
  rows := fun e he => (h.rows e he).move (F := fun _ => False) (Kp.refl w) (fun _ x => x.elim) (fun _ x => x.elim) hs hl (fun k ho => hn k (.inr (.inr ⟨e, he, ho⟩)))
  apart := h.apart, inS := hl, notS := ⟨hn _ (.inl rfl), hn _ (.inr (.inl rfl))⟩, ne := h.ne, off := h.off, ok := h.ok }
theorem BaseAt.new (S : Nat -> Prop) (hS : ∀ k, S k -> k < w.heap.size) {wb : World} (hx : Ext w wb) {bb r : Nat} (hb : w.heap.size ≤ bb) (hr : w.heap.size ≤ r) (hne : bb ≠ r) (hB : Blk wb bb [.map (some r), .int .i64 0] 129) (hm : MapIs wb r []) : BaseAt S wb bb r [] :=
 {blk := hB, map := hm, rows := fun e he => by simp at he
  apart := List.Pairwise.nil
  inS := fun k hk => Nat.lt_of_lt_of_le (hS k hk) hx.size
  notS := ⟨fun h => by have := hS _ h; omega, fun h => by have := hS _ h; omega⟩
  ne := hne, off := fun e he => by simp at he, ok := vG }
theorem BaseAt.turn {pre post : List Ent} {e : Ent} (h : BaseAt S w bb r (pre ++ e :: post)) {iv' : Value} {LL' : List (List ByteArray)} (hk : Kp e.own w w') (hs : ∀ k, S k -> S' k) (hnew : ∀ k, S' k -> S k \/ w.heap.size ≤ k)
 (hr : RowsAt S' w' e.b iv' e.ar LL') (hiv : ∀ k, iv'.ownBlock = some k -> e.iv.ownBlock = some k \/ w.heap.size ≤ k) {n : Nat} {W : World} (hW : Kp (fun k => k = bb \/ k = r) w' W) (hm : MapIs W r (cJ (pre ++ e :: post))) (hB : Blk W bb [.map (some r), .int .i64 (n : Nat)] 129) (hn : n = aS (aE (pre ++ { e with iv := iv', LL := LL' } :: post))) (hok : BaseOk (aE (pre ++ { e with iv := iv', LL := LL' } :: post))) :
 BaseAt S' W bb r (pre ++ { e with iv := iv', LL := LL' } :: post) := by
 have hin' := hr.inS
 have hown : ∀ f ∈ pre ++ e :: post, ∀ k, f.own k -> k < w.heap.size /\ ¬ S' k := fun f hf k ho => by
  have h1 := h.ownLt k (.inr (.inr ⟨f, hf, ho⟩))
  refine ⟨h1, fun hs' => ?_⟩
  rcases hnew k hs' with h2 | h2
  ·exact (h.rows f hf).notS k ho h2
  ·omega
 have hbb := h.ownLt bb (.inl rfl)
 have hrr := h.ownLt r (.inr (.inl rfl))
 have hem : e ∈ pre ++ e :: post := List.mem_append_right _ List.mem_cons_self
 have hebb : ¬ S' bb := fun hs' => by rcases hnew _ hs' with h2 | h2; exact h.notS.1 h2; omega
 have herr : ¬ S' r := fun hs' => by rcases hnew _ hs' with h2 | h2; exact h.notS.2 h2; omega
 have hiv2 : ∀ k, dS e.b iv' k -> e.own k \/ w.heap.size ≤ k := fun k ho => by
  rcases ho with ho | ho
  ·exact .inl (.inl ho)
  ·rcases hiv k ho with h2 | h2
   ·exact .inl (.inr h2)
   ·exact .inr h2
 have hoff' : ∀ k, dS e.b iv' k -> k ≠ bb /\ k ≠ r := fun k ho => by
  rcases hiv2 k ho with h2 | h2
  ·exact h.off e hem k h2
  ·omega
 obtain ⟨ap1, ap2, ap3⟩ := List.pairwise_append.1 h.apart
 obtain ⟨ap4, ap5⟩ := List.pairwise_cons.1 ap2
 have hother : ∀ f, (f ∈ pre \/ f ∈ post) -> (∀ k, e.own k -> ¬ f.own k) /\ f ∈ pre ++ e :: post := fun f hf => by
  rcases hf with hf | hf
  ·exact ⟨fun k h1 h2 => ap3 f hf e List.mem_cons_self k h2 h1, List.mem_append_left _ hf⟩
  ·exact ⟨fun k h1 h2 => ap4 f hf k h1 h2, List.mem_append_right _ (List.mem_cons_of_mem _ hf)⟩
 have hF : ∀ k, k = bb \/ k = r -> ¬ S' k := fun k e => by
  rcases e with rfl | rfl
  ·exact hebb
  ·exact herr
 have hrows : ∀ f, (f ∈ pre \/ f ∈ post) -> RowsAt S' W f.b f.iv f.ar f.LL := fun f hf => by
  obtain ⟨h1, h2⟩ := hother f hf
  have h3 := (h.rows f h2).move (S' := S') hk h1 (fun k hf => (h.rows e hem).notS k hf) hs (fun k hk' => hin' k hk') (fun k ho => (hown f h2 k ho).2)
  exact h3.move hW (fun k e2 ho => by
   have h4 := h.off f h2 k ho
   rcases e2 with e2 | e2
   ·exact h4.1 e2
   ·exact h4.2 e2) hF (fun _ x => x) (fun k hk' => Nat.lt_of_lt_of_le (hin' k hk') hW.size) h3.notS
 refine { blk := by rw [hn] at hB; exact hB, map := ?_, rows := fun f hf => ?_, apart := ?_, inS := fun k hk' => Nat.lt_of_lt_of_le (hin' k hk') hW.size, notS := ⟨hebb, herr⟩, ne := h.ne, off := fun f hf => ?_, ok := hok }
 ·have h2 : cJ (pre ++ { e with iv := iv', LL := LL' } :: post) = cJ (pre ++ e :: post) := by simp [cJ, Ent.ptr]
  rw [h2]; exact hm
 ·rcases List.mem_append.1 hf with hf | hf
  ·exact hrows f (.inl hf)
  ·rcases List.mem_cons.1 hf with rfl | hf
   ·exact hr.move hW (fun k e2 ho => by
     have h4 := hoff' k ho
     rcases e2 with e2 | e2
     ·exact h4.1 e2
     ·exact h4.2 e2) hF (fun _ x => x) (fun k hk' => Nat.lt_of_lt_of_le (hin' k hk') hW.size) hr.notS
   ·exact hrows f (.inr hf)
 ·refine List.pairwise_append.2 ⟨ap1, List.pairwise_cons.2 ⟨fun f hf k ho hf2 => ?_, ap5⟩, fun f hf g hg k ho hg2 => ?_⟩
  ·rcases hiv2 k ho with h2 | h2
   ·exact ap4 f hf k h2 hf2
   ·have := (hown f (hother f (.inr hf)).2 k hf2).1; omega
  ·rcases List.mem_cons.1 hg with rfl | hg
   ·rcases hiv2 k hg2 with h2 | h2
    ·exact ap3 f hf e List.mem_cons_self k ho h2
    ·have := (hown f (hother f (.inl hf)).2 k ho).1; omega
   ·exact ap3 f hf g (List.mem_cons_of_mem _ hg) k ho hg2
 ·rcases List.mem_append.1 hf with hf | hf
  ·exact h.off f (hother f (.inl hf)).2
  ·rcases List.mem_cons.1 hf with rfl | hf
   ·exact hoff'
   ·exact h.off f (hother f (.inr hf)).2
theorem BaseAt.push (h : BaseAt S w bb r E) {e : Ent} (hx : Ext w w') (hs : ∀ k, S k -> S' k) (hnew : ∀ k, S' k -> S k \/ w.heap.size ≤ k) (hr : RowsAt S' w' e.b e.iv e.ar e.LL) (ho : ∀ k, e.own k -> w.heap.size ≤ k)
 {n : Nat} {W : World} (hW : Kp (fun k => k = bb \/ k = r) w' W) (hB : Blk W bb [.map (some r), .int .i64 (n : Nat)] 129) (hm : MapIs W r (cJ (E ++ [e]))) (hn : n = aS (aE (E ++ [e]))) (hok : BaseOk (aE (E ++ [e]))) : BaseAt S' W bb r (E ++ [e]) := by
 have hbb := h.ownLt bb (.inl rfl)
 have hrr := h.ownLt r (.inr (.inl rfl))
 have hin' := hr.inS
 have hno : ∀ k, dX bb r E k -> ¬ S' k := fun k ho hs' => by
  rcases hnew k hs' with h2 | h2
  ·exact h.notOwn k ho h2
  ·have := h.ownLt k ho; omega
 have hF : ∀ k, k = bb \/ k = r -> ¬ S' k := fun k hk => hno k (hk.elim .inl fun h => .inr (.inl h))
 refine { blk := by rw [hn] at hB; exact hB, map := hm, rows := fun f hf => ?_, apart := ?_, inS := fun k hk' => Nat.lt_of_lt_of_le (hin' k hk') hW.size, notS := ⟨hF _ (.inl rfl), hF _ (.inr rfl)⟩, ne := h.ne, off := fun f hf => ?_, ok := hok }
 ·rcases List.mem_append.1 hf with hf | hf
  ·have h3 := (h.rows f hf).move (S' := S') hx (fun _ x => x.elim) (fun _ x => x.elim) hs (fun k hk' => hin' k hk') (fun k ho => hno k (.inr (.inr ⟨f, hf, ho⟩)))
   exact h3.move hW (fun k e2 ho => by
    have h4 := h.off f hf k ho
    rcases e2 with e2 | e2
    ·exact h4.1 e2
    ·exact h4.2 e2) hF (fun _ x => x) (fun k hk' => Nat.lt_of_lt_of_le (hin' k hk') hW.size) h3.notS
  ·obtain rfl := List.mem_singleton.1 hf
   exact hr.move hW (fun k e2 ho2 => by have := ho k ho2; omega) hF (fun _ x => x) (fun k hk' => Nat.lt_of_lt_of_le (hin' k hk') hW.size) hr.notS
 ·refine List.pairwise_append.2 ⟨h.apart, List.pairwise_singleton _ _, fun f hf g hg k h1 h2 => ?_⟩
  obtain rfl := List.mem_singleton.1 hg
  have h3 := h.ownLt k (.inr (.inr ⟨f, hf, h1⟩))
  have h4 := ho k h2
  omega
 ·rcases List.mem_append.1 hf with hf | hf
  ·exact h.off f hf
  ·obtain rfl := List.mem_singleton.1 hf
   intro k hk
   have := ho k hk
   omega
theorem jY {E : List Ent} {s : ByteArray} {e : Ent} (h : aY E s = some e) : ∃ pre post, E = pre ++ e :: post := by
 obtain ⟨_, pre, post, h2, _⟩ := List.find?_eq_some_iff_append.1 h
 exact ⟨pre, post, h2⟩
theorem aCw {pre post : List Ent} {e : Ent} {s : ByteArray} (h : aY (pre ++ e :: post) s = some e) (hn : ((aE (pre ++ e :: post)).map (·.1)).Nodup) (iv' : Value) (LL' : List (List ByteArray)) : pM (aE (pre ++ e :: post)) s (e.ar, LL') = aE (pre ++ { e with iv := iv', LL := LL' } :: post) := by
 have hs : e.name = s := (bP h).2
 have h1 : (bD (aE (pre ++ e :: post)) s).isSome = true := by rw [jJ, h]; rfl
 unfold pM
 rw [if_pos h1]
 have hid : ∀ q : Ent, q.name ≠ s -> (if q.cnt.1 = s then (q.cnt.1, (e.ar, LL')) else q.cnt) = q.cnt := fun q hq => if_neg hq
 unfold aE at hn ⊢
 rw [List.map_append, List.map_cons, List.map_append, List.map_cons] at hn
 obtain ⟨_, hn2, hn3⟩ := List.nodup_append.1 hn
 obtain ⟨hn4, _⟩ := List.nodup_cons.1 hn2
 rw [List.map_append, List.map_append, List.map_cons, List.map_cons, List.map_append, List.map_cons]
 congr 1
 ·rw [List.map_map]
  apply List.map_congr_left
  intro q hq
  refine hid q fun e2 => ?_
  exact hn3 q.name (List.mem_map.2 ⟨q.cnt, List.mem_map.2 ⟨q, hq, rfl⟩, rfl⟩) e.name List.mem_cons_self (by rw [e2, hs])
 ·congr 1
  ·show (if e.name = s then (e.name, (e.ar, LL')) else e.cnt) = _
   rw [if_pos hs]; rfl
  ·rw [List.map_map]
   apply List.map_congr_left
   intro q hq
   refine hid q fun e2 => ?_
   exact hn4 (List.mem_map.2 ⟨q.cnt, List.mem_map.2 ⟨q, hq, rfl⟩, by show q.name = e.name; rw [e2, hs]⟩)
theorem aH3 {E : List Ent} {s : ByteArray} (h : aY E s = none) (b : Nat) (iv : Value) (ar : Nat) (LL : List (List ByteArray)) : pM (aE E) s (ar, LL) = aE (E ++ [{ name := s, b := b, iv := iv, ar := ar, LL := LL }]) := by
 unfold pM
 rw [(fP h).1, if_neg (by simp)]
 unfold aE
 rw [List.map_append]; rfl
theorem aCs {E : List Ent} {s : ByteArray} {e : Ent} (h : aY E s = some e) (hn : ((cJ E).map (·.1)).Nodup) : jE (cJ E) s e.ptr = cJ E := by
 obtain ⟨pre, post, rfl⟩ := jY h
 have hs : e.name = s := (bP h).2
 unfold jE
 rw [jI, h, if_pos (by rfl)]
 unfold cJ at hn ⊢
 rw [List.map_append, List.map_cons, List.map_append, List.map_cons] at hn
 obtain ⟨_, hn2, hn3⟩ := List.nodup_append.1 hn
 obtain ⟨hn4, _⟩ := List.nodup_cons.1 hn2
 rw [List.map_append, List.map_append, List.map_cons, List.map_cons]
 have hid : ∀ q : Ent, q.name ≠ s -> (if (q.name, q.ptr).1 = s then ((q.name, q.ptr).1, e.ptr) else (q.name, q.ptr)) = (q.name, q.ptr) := fun q hq => if_neg hq
 congr 1
 ·rw [List.map_map]
  apply List.map_congr_left
  intro q hq
  refine hid q fun e2 => ?_
  exact hn3 q.name (List.mem_map.2 ⟨(q.name, q.ptr), List.mem_map.2 ⟨q, hq, rfl⟩, rfl⟩) e.name List.mem_cons_self (by rw [e2, hs])
 ·congr 1
  ·exact if_pos hs
  ·rw [List.map_map]
   apply List.map_congr_left
   intro q hq
   refine hid q fun e2 => ?_
   exact hn4 (List.mem_map.2 ⟨(q.name, q.ptr), List.mem_map.2 ⟨q, hq, rfl⟩, by show q.name = e.name; rw [e2, hs]⟩)
theorem yV {E : List Ent} {s : ByteArray} (h : aY E s = none) (b : Nat) (iv : Value) (ar : Nat) (LL : List (List ByteArray)) : jE (cJ E) s (.pointer (some ⟨b, 0, none⟩)) = cJ (E ++ [{ name := s, b := b, iv := iv, ar := ar, LL := LL }]) := by
 unfold jE
 rw [jI, h, if_neg (by simp)]
 unfold cJ
 rw [List.map_append]; rfl
end
end Go.Proofs.YtinnmeiphbdogaaGreat
/- tuple.Rows: Each, Copy, with: Union, Minus, Meet; Same. -/
namespace Go.Proofs.YtinnmeiphbdogaaGreat
open Go.RowKit Go.Shelf
def lG (lo : Nat) (w : World) (v : Value) (LL : List (List ByteArray)) : Prop :=
 ∃ Bs iv, v = .func (.func 171) #[] #[.pointer (some ⟨Bs, 0, none⟩)] /\ lo ≤ Bs /\ Blk w Bs [iv] 69 /\ OwnRows lo w iv LL /\ LL.length ≤ 1048576 * 1048576
section
variable {z z1 z2 : Prop} {S : Nat -> Prop} {w w' : World} {b b1 b2 : Nat} {iv iv1 iv2 : Value} {arity arity2 : Nat} {LL L1 L2 : List (List ByteArray)}
theorem RowsAt.len (h : RowsAt S w b iv arity LL) : LL.length ≤ 1048576 * 1048576 := by
 obtain ⟨con, zs, hc, hs, hl⟩ := h
 rw [<- hl, List.length_map]; exact hs.len
theorem zQ (w : World) : Calls Tryz.prog 175 #[.pointer none] w (RetN w fun w' v => lG w.heap.size w' v []) := by
 go_enter Tryz.func175, Tryz.ntmps175
 go_wp2_with fail
 refine (aBj w).mono ?_
 rintro e w1 ⟨v, rfl, hk, h1⟩
 obtain ⟨ao, cap, ev, _⟩ := h1.shape
 subst ev
 have HK := qH (And.intro hk h1); clear hk h1
 go_wp2_with fail
 refine (kF _ _ _ w1).mono ?_
 rintro e w2 ⟨v, rfl, hk2, rfl, ew⟩
 subst ew
 go_wp2
 go_ret
 exact RetN.mk (HK.out.1.alloc _) ⟨_, _, rfl, HK.out.1.size, Blk.new w1 [_] _, HK.out.2.ext ((Kp.refl w1).alloc _), by simp⟩
theorem uX (h : RowsQ z S w b iv arity LL) :
 Calls Tryz.prog 175 #[.pointer (some ⟨b, 0, none⟩)] w (RetF (FQ z b) w fun w' v => RowsAt S w' b iv arity LL /\ lG w.heap.size w' v LL) := by
 have H := qH (aGs h); clear h
 go_enter Tryz.func175, Tryz.ntmps175
 go_wp2_with fail
 refine H.out.mono ?_
 rintro e w1 ⟨v, rfl, hk, h1, h2⟩
 obtain ⟨ao, cap, ev, _⟩ := h2.shape
 subst ev
 have HK := qH (And.intro hk (And.intro h1 h2)); clear hk h1 h2
 go_wp2_with fail
 refine (kF _ _ _ w1).mono ?_
 rintro e w2 ⟨v, rfl, hk2, rfl, ew⟩
 subst ew
 go_wp2
 go_ret
 obtain ⟨hk, h1, h2⟩ := HK.out
 exact RetF.mk (hk.alloc _) ⟨h1.ext ((Kp.refl w1).alloc _), _, _, rfl, hk.size, Blk.new w1 [_] _, h2.ext ((Kp.refl w1).alloc _), h1.len⟩
theorem RowsAt.boxed {w0 : World} {con : gT -> List ByteArray} {zs : List gT} {te : TypeId} (h : SetAtRow Tryz.prog S w b (.func (Fn.func 124) #[] #[]) iv [] te (wU S w0) (fun x y => aC (con x) (con y)) zs) (h0 : Ext w0 w)
 (hc : ∀ x ss, ReadsAs w0 x ss -> con x = ss) (arity : Nat) : RowsAt S (w.alloc (.cells #[.func (Fn.func 124) #[] #[], iv, .int .i64 arity] 135)) w.heap.size iv arity (zs.map con) := by
 have hk : Ext w (w.alloc (.cells #[.func (Fn.func 124) #[] #[], iv, .int .i64 arity] 135)) := (Kp.refl w).alloc _
 obtain ⟨con', hc'⟩ := wO (w.alloc (.cells #[.func (Fn.func 124) #[] #[], iv, .int .i64 arity] 135))
 have e : ∀ x ∈ zs, con' x = con x := fun x hx => by
  obtain ⟨ss, h1, h2, h3⟩ := h.all x hx
  rw [hc x ss h1, hc' x ss ⟨h1.1, h1.2.ext (h0.trans hk)⟩]
 refine ⟨con', zs, hc', ⟨Blk.new w [_, _, _] _, h.row.ext hk, fun e => ?_, fun k hS => ?_, fun k ho hS => ?_, kN hc', fun x hx => ?_, h.len⟩, List.map_congr_left e⟩
 ·have := h.row.lt _ e; omega
 ·have := h.inS k hS; rw [aN]; omega
 ·rcases ho with rfl | ho
  ·have := h.inS _ hS; omega
  ·exact h.notS k (.inr ho) hS
 ·obtain ⟨ss, h1, h2, h3⟩ := h.all x hx
  exact ⟨ss, ⟨h1.1, h1.2.ext (h0.trans hk)⟩, h2, h3⟩
set_option maxRecDepth 100000 in
set_option maxHeartbeats 1000000 in
theorem uY (h : RowsQ z S w b iv arity LL) :
 Calls Tryz.prog 91 #[.pointer (some ⟨b, 0, none⟩)] w (RetF (FQ z b) w fun w' v => RowsAt S w' b iv arity LL /\
  ∃ b' iv', v = .pointer (some ⟨b', 0, none⟩) /\ w.heap.size ≤ b' /\ (∀ k, iv'.ownBlock = some k -> w.heap.size ≤ k) /\ RowsAt S w' b' iv' arity LL) := by
 have c2 := h.ar
 have HS := qH (fun W (hW : Ext w W) => iR (h.ext hW))
 clear h
 go_enter Tryz.func91, Tryz.ntmps91
 go_wp2_with fail
 go_region_with
  (first
   | (go_at_call 99; refine (HS.out _ ((Kp.refl w).drew)).mono ?_; rintro e w1 ⟨v1, rfl, hk1, rfl, h1⟩; have d2 := h1.q (z := False) |>.ar; have HK1 := qH (And.intro hk1 h1); obtain ⟨con, zs, hc, hs, hl⟩ := h1; have HC := qH (uV hs); have HE := qH (And.intro hc hl); clear hk1 hc hs hl)
   | (go_at_call 130; refine HC.out.mono ?_; rintro e w2 ⟨v2, rfl, hk2, b2, iv2, rfl, hb2, hi2, hs2⟩; have e2 := hk2.cell d2 id; obtain ⟨q1, q2⟩ := hs2.cells; obtain ⟨ao2, n2, cap2, ei, _⟩ : ∃ ao n cap, iv2 = .slice ao n cap /\ True := (by obtain ⟨ao, cap, e, _⟩ := hs2.row.shape; exact ⟨_, _, _, e, trivial⟩); subst ei; have HS2 := qH (And.intro hk2 (And.intro hb2 (And.intro hi2 hs2))); clear hk2 hb2 hi2 hs2))
 all_goals
  go_wp2
  go_ret
  obtain ⟨hk1, h1⟩ := HK1.out
  obtain ⟨hk2, hb2, hi2, hs2⟩ := HS2.out
  have hz1 := hk1.size
  have hz2 := hk2.size
  have hz0 : w.heap.size ≤ w1.heap.size := hz1
  refine RetF.mk (((Kp.refl w).drew.trans hk1).ext (hk2.alloc _)) ⟨h1.ext (hk2.alloc _), _, _, rfl, by omega, fun k hk => Nat.le_trans hz0 (hi2 k hk), ?_⟩
  have := RowsAt.boxed hs2 hk2 HE.out.1 arity
  rw [HE.out.2] at this
  exact this
def aGb (f : FuncId) (res : List (List ByteArray) -> List (List ByteArray) -> List (List ByteArray)) : Prop :=
 ∀ (S : Nat -> Prop) (w : World) (b1 b2 : Nat) (iv1 iv2 : Value) (a1 a2 : Nat) (L1 L2 : List (List ByteArray)), RowsAt S w b1 iv1 a1 L1 -> RowsAt S w b2 iv2 a2 L2 -> L1.length + L2.length ≤ 1048576 * 1048576 ->
  Calls Tryz.prog f #[.pointer (some ⟨b1, 0, none⟩), .pointer (some ⟨b2, 0, none⟩)] w (RetN w fun w' v => ∃ b' iv' con zs, v = .pointer (some ⟨b', 0, none⟩) /\ w.heap.size ≤ b' /\ (∀ k, iv'.ownBlock = some k -> w.heap.size ≤ k) /\
   SetAtRow Tryz.prog S w' b' (.func (Fn.func 124) #[] #[]) iv' [] 133 (wU S w) (fun x y => aC (con x) (con y)) zs /\ (∀ x ss, ReadsAs w x ss -> con x = ss) /\ zs.map con = res L1 L2)
theorem RowsAt.two (h1 : RowsAt S w b1 iv1 arity L1) (h2 : RowsAt S w b2 iv2 arity2 L2) : ∃ con, ∃ zs zs2 : List gT, (∀ x ss, ReadsAs w x ss -> con x = ss) /\
 SetAtRow Tryz.prog S w b1 (.func (Fn.func 124) #[] #[]) iv1 [.int .i64 arity] 135 (wU S w) (fun x y => aC (con x) (con y)) zs /\
 PtrSetRow Tryz.prog S w (.pointer (some ⟨b2, 0, none⟩)) zs2 /\ (∀ x ∈ zs2, wU S w x) /\ zs.map con = L1 /\ zs2.map con = L2 := by
 obtain ⟨con, zs, hc, hs, hl⟩ := h1
 obtain ⟨con2, zs2, hc2, hs2, hl2⟩ := h2
 refine ⟨con, zs, zs2, hc, hs, .inr ⟨_, _, _, _, _, _, _, rfl, hs2⟩, hs2.all, hl, ?_⟩
 rw [<- hl2]
 refine List.map_congr_left fun x hx => ?_
 obtain ⟨ss, q1, q2, q3⟩ := hs2.all x hx
 rw [hc x ss q1, hc2 x ss q1]
theorem aA0 : aGb 140 (fun L1 L2 => cG aC (L1 ++ L2)) := by
 intro S w b1 b2 iv1 iv2 a1 a2 L1 L2 h1 h2 hll
 obtain ⟨con, zs, zs2, hc, hs, hp, hd, hl, hl2⟩ := h1.two h2
 refine (tW (jK con) hs hp hd (by rw [<- hl, <- hl2] at hll; simpa using hll)).mono ?_
 rintro e w' ⟨v, rfl, hk, b', iv', rfl, hb, hi, hs'⟩
 refine RetN.mk hk ⟨b', iv', con, _, rfl, hb, hi, hs', hc, ?_⟩
 rw [<- aBw, List.map_append, hl, hl2]
def fU (S : Nat -> Prop) (w : World) (arity : Nat) (L : List (List ByteArray)) (w' : World) (v : Value) : Prop :=
 if 65536 < L.length then v = .tuple #[.pointer none, .int .i64 4]
 else ∃ b' iv', v = .tuple #[.pointer (some ⟨b', 0, none⟩), .int .i64 0] /\ w.heap.size ≤ b' /\ (∀ k, iv'.ownBlock = some k -> w.heap.size ≤ k) /\ RowsAt S w' b' iv' arity L
set_option maxRecDepth 100000 in
set_option maxHeartbeats 2000000 in
theorem aDq {f : FuncId} {res : List (List ByteArray) -> List (List ByteArray) -> List (List ByteArray)} (hf : aGb f res) (hent : ∀ args w, (callFunc f args).run Tryz.prog w = .ok (Next.enter f args) w)
 (h1 : RowsQ z1 S w b1 iv1 arity L1) (h2 : RowsQ z2 S w b2 iv2 arity L2) (hap : z1 \/ z2 -> ∀ k, dS b1 iv1 k -> ¬ dS b2 iv2 k) (hll : L1.length + L2.length ≤ 1048576 * 1048576) :
 Calls Tryz.prog 139 #[.pointer (some ⟨b1, 0, none⟩), .pointer (some ⟨b2, 0, none⟩), .func (Fn.func f) #[] #[]] w
  (RetF (fun k => FQ z1 b1 k \/ FQ z2 b2 k) w fun w' v => RowsAt S w' b1 iv1 arity L1 /\ RowsAt S w' b2 iv2 arity L2 /\ fU S w arity (res L1 L2) w' v) := by
 have c1 := h1.ar
 have c2 := h2.ar
 have t : ((arity : Int) != (arity : Int)) = false := by simp
 have HS1 := qH (fun W (hW : Ext w W) => iR (h1.ext hW))
 have HS2 := qH (fun W (hW : Kp (FQ z1 b1) w W) => iR (h2.kp hW (fun k hk ho => hap (.inl hk.1) k (FQ.owns k hk) ho) (fun k hk hS => h1.notS k (FQ.owns k hk) hS)))
 have HMV := qH (fun W W' (hr : RowsAt S W b1 iv1 arity L1) (hk : Kp (FQ z2 b2) W W') => hr.move hk (fun k hk ho => hap (.inr hk.1) k ho (FQ.owns k hk)) (fun k hk hS => h2.notS k (FQ.owns k hk) hS) (fun _ h => h) (fun k hS => Nat.lt_of_lt_of_le (hr.inS k hS) hk.size) hr.notS)
 have HF := qH hf
 have HL := qH hll
 clear h1 h2 hap hll hf
 go_enter Tryz.func139, Tryz.ntmps139
 go_wp2_with fail
 go_region
 all_goals
  go_wp2_with fail
  go_region_with
   (first
    | (go_at_call 99; (with_reducible refine (HS1.out _ ?_).mono ?_); exact Kp.drewN (Kp.refl w) 2; rintro e w1 ⟨v1, rfl, hk1, rfl, hr1⟩; have d1 := (hr1.q (z := False)).ar; have HK1 := qH (And.intro ((show Kp (FQ z1 b1) w _ from Kp.drewN (Kp.refl w) 2).trans hk1) hr1); clear hk1 hr1)
    | (go_at_call 99; (with_reducible refine (HS2.out _ ?_).mono ?_); exact HK1.out.1; rintro e w2 ⟨v2, rfl, hk2, rfl, hr2⟩; have hr1' := HMV.out _ _ HK1.out.2 hk2; have e1 := (hr1'.q (z := False)).ar; have HK2 := qH (And.intro hk2 (And.intro hr1' hr2)); have HFF := qH (HF.out _ _ _ _ _ _ _ _ _ _ hr1' hr2 HL.out); clear hk2 hr1' hr2)
    | (refine HFF.out.mono ?_; rintro e w3 ⟨v3, rfl, hk3, b3, iv3, con, zs, rfl, hb3, hi3, hs3, hc3, hl3⟩; have f1 := hk3.cell e1 id; obtain ⟨q1, q2⟩ := hs3.cells; obtain ⟨ao3, n3, cap3, ei, _⟩ : ∃ ao n cap, iv3 = .slice ao n cap /\ True := (by obtain ⟨ao, cap, e, _⟩ := hs3.row.shape; exact ⟨_, _, _, e, trivial⟩); subst ei; have HS3 := qH (And.intro hk3 (And.intro hb3 (And.intro hi3 (And.intro hs3 (And.intro hc3 hl3))))); clear hk3 hb3 hi3 hs3 hc3 hl3))
 all_goals
  obtain ⟨hk3, hb3, hi3, hs3, hc3, hl3⟩ := HS3.out
  have hbx := RowsAt.boxed hs3 hk3 hc3 arity
  rw [hl3] at hbx
  have HBX := qH hbx
  clear hk3 hb3 hi3 hs3 hc3 hl3 hbx
  go_wp2_with fail
  refine (sO HBX.out).mono ?_
  rintro e w5 ⟨rfl, rfl⟩
  have HN := qH (rfl : (res L1 L2).length = (res L1 L2).length)
  generalize hn : (res L1 L2).length = n at HN ⊢
  have HNN := qH hn; clear hn
  by_cases h65 : 65536 < n
  ·have t1 : decide ((n : Int) > 65536) = true := by simp; omega
   have t2 : decide ((65536 : Int) < (n : Int)) = true := by simp; omega
   go_wp2
   go_ret2
   obtain ⟨hk3, hb3, hi3, hs3, hc3, hl3⟩ := HS3.out
   obtain ⟨hk2, hr1, hr2⟩ := HK2.out
   have hx : Ext _ _ := hk3.alloc (.cells #[.func (Fn.func 124) #[] #[], .slice ao3 n3 cap3, .int .i64 arity] 135)
   refine RetF.mk ((((HK1.out.1.mono fun _ _ h => .inl h).trans (hk2.mono fun _ _ h => .inr h))).ext hx) ⟨hr1.ext hx, hr2.ext hx, ?_⟩
   unfold fU
   rw [HNN.out, if_pos h65]
   rfl
  ·have t1 : decide ((n : Int) > 65536) = false := by simp; omega
   have t2 : decide ((65536 : Int) < (n : Int)) = false := by simp; omega
   go_wp2
   go_ret2
   obtain ⟨hk3, hb3, hi3, hs3, hc3, hl3⟩ := HS3.out
   obtain ⟨hk2, hr1, hr2⟩ := HK2.out
   have hx : Ext _ _ := hk3.alloc (.cells #[.func (Fn.func 124) #[] #[], .slice ao3 n3 cap3, .int .i64 arity] 135)
   have hz1 := HK1.out.1.size
   have hz2 := hk2.size
   have hz3 := hk3.size
   refine RetF.mk ((((HK1.out.1.mono fun _ _ h => .inl h).trans (hk2.mono fun _ _ h => .inr h))).ext hx) ⟨hr1.ext hx, hr2.ext hx, ?_⟩
   unfold fU
   rw [HNN.out, if_neg h65]
   exact ⟨_, _, rfl, by omega, fun k hk => by have := hi3 k hk; omega, HBX.out⟩
end
end Go.Proofs.YtinnmeiphbdogaaGreat
/- A base behind a pointer that may be nil, its map too: what is asked of it by name. -/
namespace Go.Proofs.YtinnmeiphbdogaaGreat
open Go.RowKit
inductive BaseV (S : Nat -> Prop) (w : World) : Value -> List Ent -> Prop
 | nil : BaseV S w (.pointer none) []
 | zero (bb : Nat) : Blk w bb [.map none, .int .i64 0] 129 -> (∀ k, S k -> k < w.heap.size) -> ¬ S bb -> BaseV S w (.pointer (some ⟨bb, 0, none⟩)) []
 | full (bb r : Nat) (E : List Ent) : BaseAt S w bb r E -> BaseV S w (.pointer (some ⟨bb, 0, none⟩)) E
def zU : Option Ent -> Value
 | some e => e.ptr
 | none => .pointer none
def dP : Option Ent -> List (List ByteArray)
 | some e => e.LL
 | none => []
def aKl (S : Nat -> Prop) (w : World) (o : Option Ent) : Prop := ∀ e, o = some e -> RowsAt S w e.b e.iv e.ar e.LL /\ Strict aC e.LL
section
variable {S : Nat -> Prop} {w w' : World} {o : Option Ent} {v : Value} {E : List Ent}
theorem BaseV.opt (h : BaseV S w v E) (s : ByteArray) : aKl S w (aY E s) := fun e he => by
 cases h with
 | nil => cases he
 | zero => cases he
 | full bb r E h =>
  have hm := (bP he).1
  exact ⟨h.rows e hm, h.strict hm⟩
theorem BaseV.ok (h : BaseV S w v E) : BaseOk (aE E) := by
 cases h with
 | nil => exact vG
 | zero => exact vG
 | full bb r E h => exact h.ok
theorem BaseV.ext (h : BaseV S w v E) (hk : Ext w w') : BaseV S w' v E := by
 cases h with
 | nil => exact .nil
 | zero bb hb hi hs => exact .zero bb (hb.ext hk) (fun k hk' => Nat.lt_of_lt_of_le (hi k hk') hk.size) hs
 | full bb r E h => exact .full bb r E (h.ext hk)
theorem uA {P : Program} {t k e : TypeId} (ht : P.underlying t = some (.map k e)) (hk : P.underlying k = some .string) {z : Value} (hz : (zeroValue e).run P w = .ok z w) (s : ByteArray) :
 (Instr.lookup t (.map none) (.string s) false).run P w = .ok z w := by
 have hc := gU (P := P) (w := w) hk s true 9999
 have hf := iL (P := P) (w := w) hk s (es := []) (r := none) rfl
 simp [Instr.lookup, run_underlying ht, hc, hz, hf, Result.andThen]
set_option maxRecDepth 100000 in
theorem aJf (h : BaseV S w v E) (s : ByteArray) : Calls Tryz.prog 108 #[v, .string s] w (Ret (zU (aY E s)) w) := by
 cases h with
 | nil =>
  go_enter Tryz.func108, Tryz.ntmps108
  go_wp2
  go_ret
  exact Ret.mk rfl
 | zero bb hb hi hs =>
  have c0 := hb.cell 0 (by simp)
  have hlk := uA (P := Tryz.prog) (w := w) Tryz.underlying127 Tryz.underlying9 (z := .pointer none) (by kernel_rfl) s
  simp only [List.getElem_cons_zero] at c0
  clear hb hi hs
  go_enter Tryz.func108, Tryz.ntmps108
  go_wp2
  go_ret
  exact Ret.mk rfl
 | full bb r E h =>
  have c0 := h.blk.cell 0 (by simp)
  have hlk := fX (P := Tryz.prog) Tryz.underlying127 Tryz.underlying9 (z := .pointer none) (by kernel_rfl) h.map s
  rw [jI] at hlk
  have he : ((aY E s).map Ent.ptr).getD (.pointer none) = zU (aY E s) := by cases aY E s <;> rfl
  rw [he] at hlk
  simp only [List.getElem_cons_zero] at c0
  clear h he
  go_enter Tryz.func108, Tryz.ntmps108
  go_wp2
  go_ret
  exact Ret.mk rfl
theorem aD6 (h : aKl S w o) : Calls Tryz.prog 105 #[zU o] w (RetN w fun w' v => v = .int .i64 ((dP o).length : Nat)) := by
 cases o with
 | none =>
  refine (aBf w).mono ?_
  rintro e w' ⟨rfl, rfl⟩
  exact RetN.mk (Kp.refl _) rfl
 | some e =>
  refine (gP (z := False) (h e rfl).1.q).mono ?_
  rintro e w' ⟨v, rfl, hk, rfl, _⟩
  exact RetN.mk (Kp.fq hk) rfl
theorem aBt (h : aKl S w o) : Calls Tryz.prog 175 #[zU o] w (RetN w fun w' v => lG w.heap.size w' v (dP o)) := by
 cases o with
 | none => exact zQ w
 | some e =>
  refine (uX (z := False) (h e rfl).1.q).mono ?_
  rintro e w' ⟨v, rfl, hk, _, h2⟩
  exact RetN.mk (Kp.fq hk) h2
theorem aAk (h : BaseV S w v E) (s : ByteArray) :
 Calls Tryz.prog 61 #[v, .string s] w (RetN w fun w' v => v = .int .i64 ((dP (aY E s)).length : Nat)) := by
 have HO := qH (aJf h s)
 have HH := qH (aD6 (h.opt s))
 clear h
 go_enter Tryz.func61, Tryz.ntmps61
 go_wp2_with fail
 refine HO.out.mono ?_
 rintro e w1 ⟨rfl, rfl⟩
 go_wp2_with fail
 refine HH.out.mono ?_
 rintro e w1 ⟨v, rfl, hk, rfl⟩
 go_wp2
 go_ret
 exact RetN.mk hk rfl
theorem aAl (h : BaseV S w v E) (s : ByteArray) :
 Calls Tryz.prog 149 #[v, .string s] w (RetN w fun w' v => lG w.heap.size w' v (dP (aY E s))) := by
 have HO := qH (aJf h s)
 have HH := qH (aBt (h.opt s))
 clear h
 go_enter Tryz.func149, Tryz.ntmps149
 go_wp2_with fail
 refine HO.out.mono ?_
 rintro e w1 ⟨rfl, rfl⟩
 go_wp2_with fail
 refine HH.out.mono ?_
 rintro e w1 ⟨v, rfl, hk, hc⟩
 go_wp2
 go_ret
 exact RetN.mk hk hc
end
end Go.Proofs.YtinnmeiphbdogaaGreat
/- A literal's table: plain. -/
namespace Go.Proofs.YtinnmeiphbdogaaGreat
open Go.RowKit
def eU (N : List ByteArray) (ts : List aH) (i : Nat) : List Nat := (List.range i).filter fun j => ts.any (isV (N.getD j ByteArray.empty))
theorem aAx {N : List ByteArray} {ts : List aH} {i : Nat} {s : ByteArray} (h : N[i]? = some s) : eU N ts (i + 1) = if ts.any (isV s) = true then eU N ts i ++ [i] else eU N ts i := by
 unfold eU
 rw [List.range_succ, List.filter_append, List.filter_cons, List.filter_nil, bI h]
 split
 ·rfl
 ·rw [List.append_nil]
theorem aDi (N : List ByteArray) (ts : List aH) (i : Nat) : (eU N ts i).length ≤ i := by
 unfold eU
 exact Nat.le_trans (List.length_filter_le _ _) (by rw [List.length_range]; exact Nat.le_refl _)
theorem aK9 {α β : Type} [DecidableEq β] {l : List α} {m : List β} (f : α -> β) (hn : l.Nodup) (hi : ∀ a ∈ l, ∀ b ∈ l, f a = f b -> a = b) (hm : ∀ a ∈ l, f a ∈ m) : l.length ≤ m.length := by
 induction l generalizing m with
 | nil => exact Nat.zero_le _
 | cons a l ih =>
  obtain ⟨h1, h2⟩ := List.nodup_cons.1 hn
  have h3 := ih (m := m.erase (f a)) h2 (fun x hx y hy => hi x (List.mem_cons_of_mem _ hx) y (List.mem_cons_of_mem _ hy)) fun b hb => by
   have hne : f b ≠ f a := fun e => h1 (by rw [<- hi b (List.mem_cons_of_mem _ hb) a (List.mem_cons_self ..) e]; exact hb)
   exact (List.mem_erase_of_ne hne).2 (hm b (List.mem_cons_of_mem _ hb))
  have h4 := List.length_erase_of_mem (hm a (List.mem_cons_self ..))
  have h5 := List.length_pos_of_mem (hm a (List.mem_cons_self ..))
  rw [List.length_cons]; omega
theorem iQ {N : List ByteArray} {ts : List aH} (hN : N.Nodup) : (aM N ts).length ≤ ts.length := by
 have hl : ∀ v ∈ aM N ts, N[v]? = some (bH N v) := fun v hv => by
  have := (cL.1 hv).1
  unfold bH
  rw [List.getD_eq_getElem?_getD, qG this]; rfl
 have h := aK9 (l := aM N ts) (m := ts.map fun t => t.2.1) (bH N) ((List.nodup_range).filter _) (fun a ha b hb e => by
  have h1 := hl a ha
  have h2 := hl b hb
  rw [<- e] at h2
  exact (List.getElem?_inj (cL.1 ha).1 hN).1 (h1.trans h2.symm)) fun a ha => by
  obtain ⟨_, i, t, hi, _, h2⟩ := cL.1 ha
  exact List.mem_map.2 ⟨t, List.mem_of_getElem? hi, h2⟩
 rw [List.length_map] at h; exact h
open Classical in
theorem aA5 (N : List ByteArray) (ts : List aH) (R : aD) (x : List ByteArray) : cK N ts (R ++ [x]) = if x.length = ts.length /\ pD ts x then bJ aC (cK N ts R) (gZ N ts x) else cK N ts R := by
 unfold cK
 rw [List.filter_append, List.filter_cons, List.filter_nil]
 by_cases h : x.length = ts.length /\ pD ts x
 ·rw [if_pos (by simpa using h), if_pos h, List.map_append, List.map_singleton]
  unfold cG
  rw [List.foldl_append]; rfl
 ·rw [if_neg (by simpa using h), if_neg h, List.append_nil]
theorem aKx (N : List ByteArray) (ts : List aH) : cK N ts [] = [] := by unfold cK; rfl
open Classical in
theorem aA6 {N : List ByteArray} {ts : List aH} {R : aD} (h : ∀ x ∈ R, x.length ≠ ts.length) : cK N ts R = [] := by
 unfold cK
 have e : (R.filter fun x => decide (x.length = ts.length /\ pD ts x)) = [] := by
  rw [List.filter_eq_nil_iff]
  intro x hx
  simp only [decide_eq_true_eq, not_and]
  exact fun e => absurd e (h x hx)
 rw [e]; rfl
theorem aIi (l : aD) (x : List ByteArray) : (bJ aC l x).length ≤ l.length + 1 := by
 unfold bJ
 split
 ·omega
 ·rw [List.length_append, List.length_cons, List.length_take, List.length_drop]; omega
theorem yP : ∀ (xs acc : aD), (xs.foldl (bJ aC) acc).length ≤ acc.length + xs.length
 | [], acc => Nat.le_refl _
 | x :: xs, acc => by
  have h1 := yP xs (bJ aC acc x)
  have h2 := aIi acc x
  rw [List.foldl_cons, List.length_cons]; omega
open Classical in
theorem oH (N : List ByteArray) (ts : List aH) (R : aD) : (cK N ts R).length ≤ R.length := by
 unfold cK cG
 have h1 := yP ((R.filter fun x => decide (x.length = ts.length /\ pD ts x)).map (gZ N ts)) []
 have h2 := List.length_filter_le (fun x : List ByteArray => decide (x.length = ts.length /\ pD ts x)) R
 rw [List.length_map] at h1
 simp only [List.length_nil] at h1
 omega
theorem aLa {x : List ByteArray} (h : bQ x = true) (i : Nat) : (bH x i).size ≤ 4096 := by
 unfold bH
 rw [List.getD_eq_getElem?_getD]
 cases hx : x[i]? with
 | none => exact Nat.zero_le _
 | some s =>
  have := List.all_eq_true.1 h s (List.mem_of_getElem? hx)
  simpa using this
theorem aI9 {N : List ByteArray} {ts : List aH} {x : List ByteArray} (h : bQ x = true) : bQ (gZ N ts x) = true := by
 refine List.all_eq_true.2 fun s hs => ?_
 unfold gZ at hs
 obtain ⟨v, _, rfl⟩ := List.mem_map.1 hs
 exact decide_eq_true (aLa h _)
theorem aKg {N : List ByteArray} {ts : List aH} {R : aD} {x : List ByteArray} {n : Nat} (hn : n = (aM N ts).length) (hx : bQ x = true) (hR : R.length < 65536) : bM n (cK N ts R) (gZ N ts x) = bJ aC (cK N ts R) (gZ N ts x) := by
 have h1 : (gZ N ts x).length = n := by unfold gZ; rw [List.length_map, hn]
 have h2 := oH N ts R
 have e : (aZ n (cK N ts R) (gZ N ts x)).2 = 0 := by
  unfold aZ
  rw [if_neg (by rw [h1]; simp), if_neg (by rw [aI9 hx]; simp), if_neg (by omega)]
 unfold bM
 rw [if_pos e]
def wD (ts : List aH) (x : List ByteArray) (i : Nat) : Prop := ∀ (j : Nat) (t : aH), j < i -> ts[j]? = some t -> (t.1 = 3 -> bH x j = t.2.1) /\ (t.1 = 1 -> bH x (eY ts t.2.1) = bH x j)
theorem aEs {ts : List aH} {x : List ByteArray} : wD ts x ts.length ↔ pD ts x := ⟨fun h i t hi => h i t (List.getElem?_eq_some_iff.1 hi).1 hi, fun h j t _ hi => h j t hi⟩
theorem aCm (ts : List aH) (x : List ByteArray) : wD ts x 0 := fun j t h => by omega
theorem nQ {ts : List aH} {x : List ByteArray} {i : Nat} {t : aH} (h : wD ts x i) (hi : ts[i]? = some t) (h3 : t.1 = 3 -> bH x i = t.2.1) (h1 : t.1 = 1 -> bH x (eY ts t.2.1) = bH x i) : wD ts x (i + 1) := fun j u hj hu => by
 rcases Nat.lt_or_eq_of_le (Nat.le_of_lt_succ hj) with h2 | h2
 ·exact h j u h2 hu
 ·subst h2; rw [hi] at hu; cases hu; exact ⟨h3, h1⟩
theorem wH {ts : List aH} {s : ByteArray} (h : ts.any (isV s) = true) : dA (isT 1 s) ts = (eY ts s : Nat) /\ eY ts s < ts.length := by
 refine ⟨?_, ?_⟩
 ·unfold dA eY
  rw [show isT 1 s = isV s from rfl, if_pos h]
 ·unfold eY
  obtain ⟨t, ht, hq⟩ := List.any_eq_true.1 h
  exact List.findIdx_lt_length_of_exists ⟨t, ht, hq⟩
def iH (w : World) : Nat -> Prop := fun k => ∃ o : Obj, w.heap[k]? = some o /\ o.isCells = true
theorem RowsAt.tight {S : Nat -> Prop} {w : World} {b : Nat} {iv : Value} {arity : Nat} {LL : aD} (h : RowsAt S w b iv arity LL) : RowsAt (fun k => S k /\ iH w k) w b iv arity LL := by
 obtain ⟨con, zs, hc, hs, hl⟩ := h
 refine ⟨con, zs, hc, ⟨hs.blk, hs.row, hs.apart, fun k hk => hs.inS k hk.1, fun k h1 h2 => hs.notS k h1 h2.1, kN hc, fun z hz => ?_, hs.len⟩, hl⟩
 obtain ⟨ss, h1, h2, h3⟩ := hs.all z hz
 refine ⟨ss, h1, h2, fun a e hne => ⟨h3 a e hne, ?_⟩⟩
 have hpos : 0 < ss.length := by rw [<- h1.1]; omega
 obtain ⟨b', o', e', c'⟩ := h1.2 0 (.string ss[0]) (by simp [strs, qG hpos])
 rw [e] at e'
 cases e'
 unfold World.cell? at c'
 unfold iH
 cases ho : w.heap[b']? with
 | none => rw [ho] at c'; simp at c'
 | some o =>
  refine ⟨o, rfl, ?_⟩
  rw [ho] at c'
  cases o <;> first | rfl | (simp at c')
theorem RowsAt.cellOwn {S : Nat -> Prop} {w : World} {b : Nat} {iv : Value} {arity : Nat} {LL : aD} (h : RowsAt S w b iv arity LL) : ∀ k, dS b iv k -> iH w k := by
 obtain ⟨con, zs, hc, hs, hl⟩ := h
 intro k hk
 rcases hk with rfl | hk
 ·exact ⟨_, hs.blk, rfl⟩
 ·obtain ⟨cs, hb, _⟩ := hs.row.has hk
  exact ⟨_, hb, rfl⟩
end Go.Proofs.YtinnmeiphbdogaaGreat
/- Tries in memory: what is read of them. -/
namespace Go.Proofs.YtinnmeiphbdogaaGreat
open Go.RowKit Go.Shelf
structure LevelAt (w : World) (b off i : Nat) (W : aD) (d : Nat) : Prop where
 ex : ∃ ka kc fa fc, w.cell? ⟨b, off + i * 2, none⟩ = some (.slice ka (aQ W d i W.length) kc) /\ w.cell? ⟨b, off + i * 2 + 1, none⟩ = some (.slice fa (aQ W d i W.length + 1) fc) /\ aQ W d i W.length ≤ kc /\
  CellsAt w ka (strs (bR W d i W.length)) /\ CellsAt w fa (ints (bX W d i W.length ++ [(aQ W d (i + 1) W.length : Int)]))
theorem LevelAt.ext {w w' : World} {b off i : Nat} {W : aD} {d : Nat} (h : LevelAt w b off i W d) (hk : Ext w w') : LevelAt w' b off i W d := by
 obtain ⟨ka, kc, fa, fc, h1, h2, h3, h4, h5⟩ := h.ex
 exact ⟨ka, kc, fa, fc, hk.cell h1 id, hk.cell h2 id, h3, h4.ext hk, h5.ext hk⟩
structure TrieAt (w : World) (tb : Nat) (W : aD) (d : Nat) : Prop where
 ex : ∃ la lc, w.cell? ⟨tb, 0, none⟩ = some (.slice la d lc) /\ w.cell? ⟨tb, 1, none⟩ = some (.int .i64 W.length) /\ w.cell? ⟨tb, 2, none⟩ = some (.bool true) /\ ∀ i, i < d -> ∃ b off, la = some ⟨b, off, none⟩ /\ LevelAt w b off i W d
 few : W.length ≤ 1048576
 dep : d ≤ 1048576
theorem TrieAt.ext {w w' : World} {tb : Nat} {W : aD} {d : Nat} (h : TrieAt w tb W d) (hk : Ext w w') : TrieAt w' tb W d := by
 obtain ⟨⟨la, lc, h1, h2, h3, h4⟩, h5, h6⟩ := h
 exact ⟨⟨la, lc, hk.cell h1 id, hk.cell h2 id, hk.cell h3 id, fun i hi => by
  obtain ⟨b, off, e, hl⟩ := h4 i hi
  exact ⟨b, off, e, hl.ext hk⟩⟩, h5, h6⟩
theorem aGf (tb : Nat) (w : World) : (binOp .eql 187 (.pointer (some ⟨tb, 0, none⟩)) (.pointer none)).run Tryz.prog w = .ok (.bool false) w := by kernel_rfl
set_option maxHeartbeats 1000000 in
theorem vH {w : World} {tb : Nat} {W : aD} {d : Nat} (h : TrieAt w tb W d) : Calls Tryz.prog 155 #[.pointer (some ⟨tb, 0, none⟩)] w (RetN w fun w' v => v = .bool false) := by
 have hq := aGf tb
 obtain ⟨⟨la, lc, -, -, h3, -⟩, -, -⟩ := h
 go_enter Tryz.func155, Tryz.ntmps155
 go_wp2
 go_ret
 exact RetN.mk (Kp.refl _) rfl
set_option maxHeartbeats 1000000 in
theorem yY {w : World} {tb : Nat} {W : aD} {d : Nat} (h : TrieAt w tb W d) : Calls Tryz.prog 183 #[.pointer (some ⟨tb, 0, none⟩)] w (RetN w fun w' v => v = .int .i64 d) := by
 have HN := qH (vH h)
 have HT := qH h
 clear h
 go_enter Tryz.func183, Tryz.ntmps183
 go_wp2_with fail
 refine HN.out.mono ?_
 rintro e w1 ⟨v, rfl, hk, rfl⟩
 obtain ⟨⟨la, lc, h1, -, -, -⟩, -, -⟩ := HT.out.ext hk
 have HK := qH hk
 clear hk
 go_wp2
 go_ret
 exact RetN.mk HK.out rfl
set_option maxHeartbeats 1000000 in
theorem aF2 {w : World} {tb : Nat} {W : aD} {d : Nat} (h : TrieAt w tb W d) : Calls Tryz.prog 184 #[.pointer (some ⟨tb, 0, none⟩)] w (RetN w fun w' v => v = .int .i64 W.length) := by
 have HN := qH (vH h)
 have HT := qH h
 clear h
 go_enter Tryz.func184, Tryz.ntmps184
 go_wp2_with fail
 refine HN.out.mono ?_
 rintro e w1 ⟨v, rfl, hk, rfl⟩
 obtain ⟨⟨la, lc, -, h2, -, -⟩, -, -⟩ := HT.out.ext hk
 have HK := qH hk
 clear hk
 go_wp2
 go_ret
 exact RetN.mk HK.out rfl
end Go.Proofs.YtinnmeiphbdogaaGreat
/- Cursors in memory. -/
namespace Go.Proofs.YtinnmeiphbdogaaGreat
open Go.RowKit Go.Shelf
def jB (e : Nat × Nat) : List Value := [.int .i64 e.1, .int .i64 e.2]
theorem gO (e : Nat × Nat) : (jB e).length = 2 := rfl
structure CurAt (w : World) (cb tb : Nat) (st : List (Nat × Nat)) (ov : Value) (M : Nat -> Prop) : Prop where
 box : Blk w cb [.pointer (some ⟨tb, 0, none⟩), ov] 218
 row : Row w 249 2 ov st.length (st.flatMap jB) M
theorem CurAt.ext {w w' : World} {cb tb : Nat} {st : List (Nat × Nat)} {ov : Value} {M : Nat -> Prop} (h : CurAt w cb tb st ov M) (hk : Ext w w') : CurAt w' cb tb st ov M := ⟨h.box.ext hk, h.row.ext hk⟩
theorem nU (cb : Nat) (w : World) : (binOp .eql 188 (.pointer (some ⟨cb, 0, none⟩)) (.pointer none)).run Tryz.prog w = .ok (.bool false) w := by kernel_rfl
theorem vC {w : World} {e : TypeId} {k : Nat} {v : Value} {n : Nat} {xs : List Value} {M : Nat -> Prop} (h : Row w e k v n xs M) : ∃ ao cap, v = .slice ao n cap /\ CellsAt w ao xs /\ n ≤ cap /\ cap ≤ maxLen := by
 obtain ⟨h1, ⟨rfl, rfl⟩ | ⟨g, cap, rest, rfl, b, c, d, e, f⟩⟩ := h
 ·have : xs = [] := List.eq_nil_of_length_eq_zero (by simpa using h1)
  subst this
  exact ⟨none, 0, rfl, CellsAt.nil _ _, Nat.le_refl _, Nat.zero_le _⟩
 ·exact ⟨_, cap, rfl, CellsAt.pre c, e, f⟩
set_option maxHeartbeats 1000000 in
theorem kU {w : World} {cb tb : Nat} {st : List (Nat × Nat)} {g c m : Nat} {M : Nat -> Prop} (h : CurAt w cb tb st (.slice (some ⟨g, 0, none⟩) (m + 1) c) M) :
 Calls Tryz.prog 185 #[.pointer (some ⟨cb, 0, none⟩)] w (RetN w fun w' v => v = .pointer (some ⟨g, m * 2, none⟩)) := by
 have hq := nU cb
 have c1 : w.cell? ⟨cb, 1, none⟩ = some (.slice (some ⟨g, 0, none⟩) (m + 1) c) := by rw [h.box.cell']; rfl
 have hmx : m + 1 ≤ maxLen := by
  obtain ⟨a, cc, e, h1, h2, h3⟩ := vC h.row
  rw [Value.slice.injEq] at e
  omega
 have hw : IntKind.i64.wrap (m : Int) = (m : Int) := IntWalk.i64_in _ (by unfold maxLen at hmx; omega)
 have hz : ¬ ((m : Int) + 1) = 0 := by omega
 clear hmx
 clear h
 go_enter Tryz.func185, Tryz.ntmps185
 go_wp2
 go_quiet (fail)
 go_wp2
 go_ret
 exact RetN.mk ((Kp.refl _).drewN _) rfl
set_option maxHeartbeats 1000000 in
theorem yH {w : World} {cb tb : Nat} {ao : Option Addr} {c : Nat} {M : Nat -> Prop} (h : CurAt w cb tb [] (.slice ao 0 c) M) :
 Calls Tryz.prog 185 #[.pointer (some ⟨cb, 0, none⟩)] w (RetN w fun w' v => v = .pointer none) := by
 have hq := nU cb
 have c1 : w.cell? ⟨cb, 1, none⟩ = some (.slice ao 0 c) := by rw [h.box.cell']; rfl
 clear h
 go_enter Tryz.func185, Tryz.ntmps185
 go_wp2
 go_ret
 exact RetN.mk (Kp.refl _) rfl
structure CurIn (w : World) (cb tb : Nat) (st : List (Nat × Nat)) (g c m a b : Nat) (M : Nat -> Prop) : Prop where
 at_ : CurAt w cb tb st (.slice (some ⟨g, 0, none⟩) (m + 1) c) M
 last : st[m]? = some (a, b)
theorem CurIn.len {w : World} {cb tb : Nat} {st : List (Nat × Nat)} {g c m a b : Nat} {M : Nat -> Prop} (h : CurIn w cb tb st g c m a b M) : st.length = m + 1 := by
 obtain ⟨ao, cc, e, h1, h2, h3⟩ := vC h.at_.row
 rw [Value.slice.injEq] at e
 omega
theorem CurIn.ext {w w' : World} {cb tb : Nat} {st : List (Nat × Nat)} {g c m a b : Nat} {M : Nat -> Prop} (h : CurIn w cb tb st g c m a b M) (hk : Ext w w') : CurIn w' cb tb st g c m a b M := ⟨h.at_.ext hk, h.last⟩
theorem xV (st : List (Nat × Nat)) {m : Nat} {e : Nat × Nat} (h : st[m]? = some e) : (st.flatMap jB)[m * 2]? = some (.int .i64 e.1) /\ (st.flatMap jB)[m * 2 + 1]? = some (.int .i64 e.2) := by
 induction st generalizing m with
 | nil => simp at h
 | cons x st ih =>
  cases m with
  | zero => cases h; exact ⟨rfl, rfl⟩
  | succ m =>
   have h2 := ih (by simpa using h)
   refine ⟨?_, ?_⟩
   ·rw [List.flatMap_cons, List.getElem?_append_right (by rw [gO]; omega), gO, show (m + 1) * 2 - 2 = m * 2 by omega]; exact h2.1
   ·rw [List.flatMap_cons, List.getElem?_append_right (by rw [gO]; omega), gO, show (m + 1) * 2 + 1 - 2 = m * 2 + 1 by omega]; exact h2.2
theorem CurIn.cells {w : World} {cb tb : Nat} {st : List (Nat × Nat)} {g c m a b : Nat} {M : Nat -> Prop} (h : CurIn w cb tb st g c m a b M) : w.cell? ⟨g, m * 2, none⟩ = some (.int .i64 a) /\ w.cell? ⟨g, m * 2 + 1, none⟩ = some (.int .i64 b) /\ w.frozen? ⟨g, m * 2, none⟩ = false := by
 obtain ⟨h1, h2⟩ := xV st h.last
 obtain ⟨_, ⟨e1, _⟩ | ⟨g', cap, rest, e1, hM, hB, h3⟩⟩ := h.at_.row
 ·cases e1
 ·simp only [Value.slice.injEq, Option.some.injEq, Addr.mk.injEq, and_true] at e1
  obtain ⟨rfl, _⟩ := e1
  have l1 := (List.getElem?_eq_some_iff.1 h1).1
  have l2 := (List.getElem?_eq_some_iff.1 h2).1
  exact ⟨by rw [hB.cell', List.getElem?_append_left l1]; exact h1, by rw [hB.cell', List.getElem?_append_left l2]; exact h2, hB.free _⟩
theorem aLg (a b : Nat) : ((a : Int) == (b : Int)) = decide (a = b) := by
 by_cases h : a = b
 ·subst h; simp
 ·rw [decide_eq_false h]
  have : ¬ (a : Int) = b := by omega
  simp [this]
theorem xW (g o : Nat) (w : World) : (binOp .neq 250 (.pointer (some ⟨g, o, none⟩)) (.pointer none)).run Tryz.prog w = .ok (.bool true) w := by kernel_rfl
theorem lN (g o : Nat) (w : World) : (binOp .eql 250 (.pointer (some ⟨g, o, none⟩)) (.pointer none)).run Tryz.prog w = .ok (.bool false) w := by kernel_rfl
set_option maxHeartbeats 1000000 in
theorem gS {w : World} {cb tb : Nat} {st : List (Nat × Nat)} {g c m a b : Nat} {M : Nat -> Prop} (h : CurIn w cb tb st g c m a b M) :
 Calls Tryz.prog 181 #[.pointer (some ⟨cb, 0, none⟩)] w (RetN w fun w' v => v = .bool (decide (a = b))) := by
 have HL := qH (kU h.at_)
 have HC := qH h
 clear h
 go_enter Tryz.func181, Tryz.ntmps181
 go_wp2_with fail
 refine HL.out.mono ?_
 rintro e w1 ⟨v, rfl, hk, rfl⟩
 obtain ⟨z0, z1, -⟩ := (HC.out.ext hk).cells
 have hq := xW g (m * 2)
 have HK := qH hk
 clear hk
 go_wp2
 go_quiet (fail)
 go_wp2
 go_ret
 exact RetN.mk (HK.out.drewN _) (congrArg Value.bool (aLg a b))
theorem mH {m : Nat} (h : m ≤ maxLen) : IntKind.i64.wrap (m : Int) = (m : Int) := IntWalk.i64_in _ (by unfold maxLen at h; omega)
theorem CurIn.small {w : World} {cb tb : Nat} {st : List (Nat × Nat)} {g c m a b : Nat} {M : Nat -> Prop} (h : CurIn w cb tb st g c m a b M) : m ≤ maxLen := by
 obtain ⟨ao, cc, e, h1, h2, h3⟩ := vC h.at_.row
 rw [Value.slice.injEq] at e
 have := h.len
 omega
set_option maxHeartbeats 1000000 in
theorem aK8 {w : World} {cb tb : Nat} {st : List (Nat × Nat)} {g c m a b d : Nat} {W : aD} {M : Nat -> Prop} {x : ByteArray} (h : CurIn w cb tb st g c m a b M) (ht : TrieAt w tb W d) (hm : m < d) (hab : a ≠ b) (hx : (bR W d m W.length)[a]? = some x) :
 Calls Tryz.prog 187 #[.pointer (some ⟨cb, 0, none⟩)] w (RetN w fun w' v => v = .string x) := by
 have HL := qH (kU h.at_)
 have HE := qH (fun (W : World) (hW : Ext w W) => gS (h.ext hW))
 have HC := qH h
 have HT := qH ht
 have hw := mH h.small
 have hn := (List.getElem?_eq_some_iff.1 hx).1
 rw [fH] at hn
 have HX := qH hx
 have hd : decide (a = b) = false := decide_eq_false hab
 rw [hd] at HE
 clear h ht hx hab hd
 go_enter Tryz.func187, Tryz.ntmps187
 go_wp2_with fail
 refine HL.out.mono ?_
 rintro e w1 ⟨v, rfl, hk, rfl⟩
 have hq := lN g (m * 2)
 have H1 := qH hk
 clear hk
 go_wp2_with (go_at_call 181; refine Halted.out ?_)
 refine Halted.mk ((HE.out w1 H1.out).mono ?_)
 rintro e w2 ⟨v, rfl, hk, rfl⟩
 have H2 := qH (H1.out.trans hk)
 clear hk H1
 obtain ⟨z0, z1, -⟩ := (HC.out.ext H2.out).cells
 have hb := (HC.out.at_.box.ext H2.out)
 have c0 : w2.cell? ⟨cb, 0, none⟩ = some (.pointer (some ⟨tb, 0, none⟩)) := by rw [hb.cell']; rfl
 have c1 : w2.cell? ⟨cb, 1, none⟩ = some (.slice (some ⟨g, 0, none⟩) (m + 1) c) := by rw [hb.cell']; rfl
 obtain ⟨⟨la, lc, t0, -, -, hlev⟩, -, -⟩ := HT.out.ext H2.out
 obtain ⟨bl, ol, ela, hL⟩ := hlev m hm
 subst ela
 obtain ⟨ka, kc, fa, fc, l0, -, -, hk1, -⟩ := hL.ex
 obtain ⟨kb, ko, eka, k0⟩ := hk1 a (.string x) (by simp [strs, HX.out])
 subst eka
 generalize aQ W d m W.length = nk at *
 clear hL hk1 hlev hb z1
 go_wp2
 go_quiet (fail)
 go_wp2
 go_ret
 exact RetN.mk (H2.out.drewN _) rfl
end Go.Proofs.YtinnmeiphbdogaaGreat
