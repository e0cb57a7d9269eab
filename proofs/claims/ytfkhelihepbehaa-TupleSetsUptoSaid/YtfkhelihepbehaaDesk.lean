/- A desk of chapter 3's statement: sets of the program beside the document's: what each operation does to both. -/
import Derived.Test.YtfkhelihepbehaaTold
import Derived.Test.YtfkhelihepbehaaSetLaw2
namespace Go.Proofs.Ytfkhelihepbehaa
open Go.RowKit
set_option linter.unusedVariables false

/-- A set of the program behind a pointer; none: the pointer is nil. -/
def SetP (S : Nat → Prop) (U : List Int) (which : Int) (w : World) (v : Value) (o : Option (List Int)) (G : Nat → Prop) : Prop :=
  (v = .pointer none ∧ o = none) ∨ ∃ b ov iv zs, v = .pointer (some ⟨b, 0, none⟩) ∧ o = some zs ∧ SetAtInt Try.prog S w b ov iv [] 42 (fun x => x ∈ U) (ordC which) zs ∧ Strict (ordC which) zs ∧ ∀ k, Owns b iv k → G k
/-- The document's. -/
def RefP (U : List Int) (which : Int) (w : World) (v : Value) (o : Option (List Int)) (G : Nat → Prop) : Prop :=
  (v = .pointer none ∧ o = none) ∨ ∃ b lv zs, v = .pointer (some ⟨b, 0, none⟩) ∧ o = some zs ∧ RefAt w b lv which zs ∧ Strict (ordC which) zs ∧ (∀ x ∈ zs, x ∈ U) ∧ ∀ k, Owns b lv k → G k

def hasR (which : Int) (o : Option (List Int)) (x : Int) : Bool := match o with | none => false | some zs => isIn (ordC which) zs x
def addR (which : Int) (o : Option (List Int)) (x : Int) : Bool := match o with | none => false | some zs => !isIn (ordC which) zs x
def belowR (which : Int) (o : Option (List Int)) (x : Int) : Nat := match o with | none => 0 | some zs => below (ordC which) zs x
def listR (o : Option (List Int)) : List Int := o.getD []
def sameR (which : Int) (o o2 : Option (List Int)) : Prop := match o with
  | none => (listR o2).length = 0
  | some zs => zs.length = (listR o2).length ∧ ∀ (i : Nat) x y, zs[i]? = some x → (listR o2)[i]? = some y → ordC which x y = 0
def addO (which : Int) (x : Int) (o : Option (List Int)) : Option (List Int) := o.map fun zs => addS (ordC which) zs x
def dropO (which : Int) (x : Int) (o : Option (List Int)) : Option (List Int) := o.map fun zs => dropS (ordC which) zs x
def unionO (which : Int) (o o2 : Option (List Int)) : Option (List Int) := o.map fun zs => newS (ordC which) (zs ++ listR o2)
def minusO (which : Int) (o o2 : Option (List Int)) : Option (List Int) := o.map fun zs => zs.filter fun x => !isIn (ordC which) (listR o2) x
def meetO (which : Int) (o o2 : Option (List Int)) : Option (List Int) := o.map fun zs => zs.filter fun x => isIn (ordC which) (listR o2) x

section
variable {S : Nat → Prop} {U : List Int} {which which2 : Int} {w w' : World} {v v2 : Value} {o o2 : Option (List Int)} {G G2 : Nat → Prop}

theorem SetP.kp {F : Nat → Prop} (h : SetP S U which w v o G) (hk : Kp F w w') (hF : ∀ k, F k → ¬ G k) (hS : ∀ k, F k → ¬ S k) : SetP S U which w' v o G := by
  rcases h with h | ⟨b, ov, iv, zs, h1, h2, h3, h4, h5⟩
  · exact .inl h
  · exact .inr ⟨b, ov, iv, zs, h1, h2, h3.kp hk (fun k hf ho => hF k hf (h5 k ho)) hS, h4, h5⟩
theorem SetP.ext (h : SetP S U which w v o G) (hk : Ext w w') : SetP S U which w' v o G := h.kp hk (fun _ x => x.elim) fun _ x => x.elim
theorem SetP.mono (h : SetP S U which w v o G) (hG : ∀ k, k < w.heap.size → G k → G2 k) : SetP S U which w v o G2 := by
  rcases h with h | ⟨b, ov, iv, zs, h1, h2, h3, h4, h5⟩
  · exact .inl h
  · refine .inr ⟨b, ov, iv, zs, h1, h2, h3, h4, fun k ho => hG k ?_ (h5 k ho)⟩
    rcases ho with rfl | ho
    · exact h3.blk.lt
    · exact h3.row.lt k ho
theorem SetP.ptr (h : SetP S U which w v o G) : PtrSetInt Try.prog S w v (listR o) := by
  rcases h with ⟨rfl, rfl⟩ | ⟨b, ov, iv, zs, rfl, rfl, h3, h4, h5⟩
  · exact .inl ⟨rfl, rfl⟩
  · exact .inr ⟨b, ov, iv, _, _, _, _, rfl, h3⟩
theorem SetP.sub (h : SetP S U which w v o G) : ∀ x ∈ listR o, x ∈ U := by
  rcases h with ⟨rfl, rfl⟩ | ⟨b, ov, iv, zs, rfl, rfl, h3, h4, h5⟩
  · intro x hx; cases hx
  · exact h3.all
theorem SetP.len (h : SetP S U which w v o G) : (listR o).length ≤ U.length := by
  rcases h with ⟨rfl, rfl⟩ | ⟨b, ov, iv, zs, rfl, rfl, h3, h4, h5⟩
  · simp [listR]
  · exact h4.len_le (ordC_law which) h3.all
theorem RefP.kp {F : Nat → Prop} (h : RefP U which w v o G) (hk : Kp F w w') (hF : ∀ k, F k → ¬ G k) : RefP U which w' v o G := by
  rcases h with h | ⟨b, lv, zs, h1, h2, h3, h4, h5, h6⟩
  · exact .inl h
  · exact .inr ⟨b, lv, zs, h1, h2, h3.kp hk (fun k hf ho => hF k hf (h6 k ho)), h4, h5, h6⟩
theorem RefP.ext (h : RefP U which w v o G) (hk : Ext w w') : RefP U which w' v o G := h.kp hk fun _ x => x.elim
theorem RefP.mono (h : RefP U which w v o G) (hG : ∀ k, k < w.heap.size → G k → G2 k) : RefP U which w v o G2 := by
  rcases h with h | ⟨b, lv, zs, h1, h2, h3, h4, h5, h6⟩
  · exact .inl h
  · refine .inr ⟨b, lv, zs, h1, h2, h3, h4, h5, fun k ho => hG k ?_ (h6 k ho)⟩
    rcases ho with rfl | ho
    · exact h3.blk.lt
    · exact h3.row.lt k ho
theorem RefP.ptr (h : RefP U which w v o G) : PtrRef w v which (listR o) := by
  rcases h with ⟨rfl, rfl⟩ | ⟨b, lv, zs, rfl, rfl, h3, h4, h5, h6⟩
  · exact .inl ⟨rfl, rfl⟩
  · exact .inr ⟨b, lv, rfl, h3⟩
theorem RefP.len (h : RefP U which w v o G) : (listR o).length ≤ U.length := by
  rcases h with ⟨rfl, rfl⟩ | ⟨b, lv, zs, rfl, rfl, h3, h4, h5, h6⟩
  · simp [listR]
  · exact h4.len_le (ordC_law which) h5

/-! the program's -/
theorem setAdd_p (hU : U.length ≤ 4194304) {x : Int} (hx : x ∈ U) (h : SetP S U which w v o G) :
    Calls Try.prog 35 #[v, .int .i64 x] w (RetF G w fun w' r => r = .bool (addR which o x) ∧ SetP S U which w' v (addO which x o) fun k => G k ∨ w.heap.size ≤ k) := by
  have hl := h.len
  rcases h with ⟨rfl, rfl⟩ | ⟨b, ov, iv, zs, rfl, rfl, h3, h4, h5⟩
  · refine (setAddInt_nil _ w).mono ?_
    rintro e w' ⟨rfl, rfl⟩
    exact RetF.mk (Kp.refl _) ⟨rfl, .inl ⟨rfl, rfl⟩⟩
  · simp only [listR, Option.getD] at hl
    refine (setAddInt_any (ordC_law which) x hx h4 h3 (by omega)).mono ?_
    rintro e w' ⟨r, rfl, hk, rfl, iv', hs, hi⟩
    refine RetF.mk (hk.mono fun k _ h => h5 k h) ⟨rfl, .inr ⟨b, ov, iv', _, rfl, rfl, hs, h4.add (ordC_law which) x, fun k ho => ?_⟩⟩
    rcases ho with rfl | ho
    · exact .inl (h5 _ (.inl rfl))
    · rcases hi k ho with h | h
      · exact .inl (h5 k (.inr h))
      · exact .inr h
theorem setDrop_p {x : Int} (hx : x ∈ U) (h : SetP S U which w v o G) :
    Calls Try.prog 36 #[v, .int .i64 x] w (RetF G w fun w' r => r = .bool (hasR which o x) ∧ SetP S U which w' v (dropO which x o) fun k => G k ∨ w.heap.size ≤ k) := by
  rcases h with ⟨rfl, rfl⟩ | ⟨b, ov, iv, zs, rfl, rfl, h3, h4, h5⟩
  · refine (setDropInt_nil _ w).mono ?_
    rintro e w' ⟨rfl, rfl⟩
    exact RetF.mk (Kp.refl _) ⟨rfl, .inl ⟨rfl, rfl⟩⟩
  · refine (setDropInt_any (ordC_law which) x hx h4 h3).mono ?_
    rintro e w' ⟨r, rfl, hk, rfl, iv', hs, hi⟩
    refine RetF.mk (hk.mono fun k _ h => h5 k h) ⟨rfl, .inr ⟨b, ov, iv', _, rfl, rfl, hs, h4.drop (ordC_law which) x, fun k ho => ?_⟩⟩
    rcases ho with rfl | ho
    · exact .inl (h5 _ (.inl rfl))
    · exact .inl (h5 k (.inr (hi ▸ ho)))
theorem setHas_p {x : Int} (hx : x ∈ U) (h : SetP S U which w v o G) :
    Calls Try.prog 38 #[v, .int .i64 x] w (RetF (fun _ => False) w fun w' r => r = .bool (hasR which o x)) := by
  rcases h with ⟨rfl, rfl⟩ | ⟨b, ov, iv, zs, rfl, rfl, h3, h4, h5⟩
  · refine (setHasInt_nil _ w).mono ?_
    rintro e w' ⟨rfl, rfl⟩
    exact RetF.mk (Kp.refl _) rfl
  · exact setHasInt_any (ordC_law which) x hx h4 h3
theorem setBelow_p {x : Int} (hx : x ∈ U) (h : SetP S U which w v o G) :
    Calls Try.prog 40 #[v, .int .i64 x] w (RetF (fun _ => False) w fun w' r => r = .int .i64 (belowR which o x : Nat)) := by
  rcases h with ⟨rfl, rfl⟩ | ⟨b, ov, iv, zs, rfl, rfl, h3, h4, h5⟩
  · refine (setBelowInt_nil _ w).mono ?_
    rintro e w' ⟨rfl, rfl⟩
    exact RetF.mk (Kp.refl _) rfl
  · exact setBelowInt_any (ordC_law which) x hx h4 h3
theorem setCopy_p (h : SetP S U which w v o G) :
    Calls Try.prog 48 #[v] w (RetN w fun w' r => SetP S U which w' r o fun k => w.heap.size ≤ k) := by
  rcases h with ⟨rfl, rfl⟩ | ⟨b, ov, iv, zs, rfl, rfl, h3, h4, h5⟩
  · refine (setCopyInt_nil w).mono ?_
    rintro e w' ⟨rfl, rfl⟩
    exact RetN.mk (Kp.refl _) (.inl ⟨rfl, rfl⟩)
  · refine (setCopyInt_any h3).mono ?_
    rintro e w' ⟨r, rfl, hk, b', iv', rfl, hb, hi, hs⟩
    exact RetN.mk hk (.inr ⟨b', ov, iv', zs, rfl, rfl, hs, h4, fun k ho => by rcases ho with rfl | ho; exact hb; exact hi k ho⟩)
theorem setUnion_p (hU : U.length ≤ 4194304) (h : SetP S U which w v o G) (h2 : SetP S U which2 w v2 o2 G2) :
    Calls Try.prog 42 #[v, v2] w (RetN w fun w' r => SetP S U which w' r (unionO which o o2) fun k => w.heap.size ≤ k) := by
  have hl := h.len; have hl2 := h2.len
  rcases h with ⟨rfl, rfl⟩ | ⟨b, ov, iv, zs, rfl, rfl, h3, h4, h5⟩
  · refine (setUnionInt_nil _ w).mono ?_
    rintro e w' ⟨rfl, rfl⟩
    exact RetN.mk (Kp.refl _) (.inl ⟨rfl, rfl⟩)
  · simp only [listR, Option.getD_some] at hl
    refine (setUnionInt_any (ordC_law which) h3 h2.ptr h2.sub (by omega)).mono ?_
    rintro e w' ⟨r, rfl, hk, b', iv', rfl, hb, hi, hs⟩
    exact RetN.mk hk (.inr ⟨b', ov, iv', _, rfl, rfl, hs, Strict.new (ordC_law which) _, fun k ho => by rcases ho with rfl | ho; exact hb; exact hi k ho⟩)
theorem setMinus_p (h : SetP S U which w v o G) (h2 : SetP S U which2 w v2 o2 G2) :
    Calls Try.prog 44 #[v, v2] w (RetN w fun w' r => SetP S U which w' r (minusO which o o2) fun k => w.heap.size ≤ k) := by
  rcases h with ⟨rfl, rfl⟩ | ⟨b, ov, iv, zs, rfl, rfl, h3, h4, h5⟩
  · refine (setMinusInt_nil _ w).mono ?_
    rintro e w' ⟨rfl, rfl⟩
    exact RetN.mk (Kp.refl _) (.inl ⟨rfl, rfl⟩)
  · refine (setMinusInt_any (ordC_law which) h3 h2.ptr h2.sub).mono ?_
    rintro e w' ⟨r, rfl, hk, b', iv', rfl, hb, hi, hs⟩
    simp only [isIn_newS (ordC_law which)] at hs
    exact RetN.mk hk (.inr ⟨b', ov, iv', _, rfl, rfl, hs, h4.sub List.filter_sublist, fun k ho => by rcases ho with rfl | ho; exact hb; exact hi k ho⟩)
theorem setMeet_p (h : SetP S U which w v o G) (h2 : SetP S U which2 w v2 o2 G2) :
    Calls Try.prog 46 #[v, v2] w (RetN w fun w' r => SetP S U which w' r (meetO which o o2) fun k => w.heap.size ≤ k) := by
  rcases h with ⟨rfl, rfl⟩ | ⟨b, ov, iv, zs, rfl, rfl, h3, h4, h5⟩
  · refine (setMeetInt_nil _ w).mono ?_
    rintro e w' ⟨rfl, rfl⟩
    exact RetN.mk (Kp.refl _) (.inl ⟨rfl, rfl⟩)
  · refine (setMeetInt_any (ordC_law which) h3 h2.ptr h2.sub).mono ?_
    rintro e w' ⟨r, rfl, hk, b', iv', rfl, hb, hi, hs⟩
    simp only [isIn_newS (ordC_law which)] at hs
    exact RetN.mk hk (.inr ⟨b', ov, iv', _, rfl, rfl, hs, h4.sub List.filter_sublist, fun k ho => by rcases ho with rfl | ho; exact hb; exact hi k ho⟩)
theorem setSame_p (h : SetP S U which w v o G) (h2 : SetP S U which2 w v2 o2 G2) :
    Calls Try.prog 50 #[v, v2] w (RetF (fun _ => False) w fun w' r => BoolIs (sameR which o o2) r) := by
  rcases h with ⟨rfl, rfl⟩ | ⟨b, ov, iv, zs, rfl, rfl, h3, h4, h5⟩
  · refine (setSameInt_nil h2.ptr).mono ?_
    rintro e w' ⟨rfl, rfl⟩
    exact RetF.mk (Kp.refl _) ⟨_, rfl, decide_eq_true_iff⟩
  · refine (setSameInt_any h3 h2.ptr h2.sub).mono ?_
    rintro e w' ⟨r, rfl, hk, q, rfl, hq⟩
    exact RetF.mk hk ⟨q, rfl, hq⟩

/-! the document's -/
theorem refAdd_p (hU : U.length ≤ 4194304) {x : Int} (hx : x ∈ U) (h : RefP U which w v o G) :
    Calls Try.prog 34 #[v, .int .i64 x] w (RetF G w fun w' r => r = .bool (addR which o x) ∧ RefP U which w' v (addO which x o) fun k => G k ∨ w.heap.size ≤ k) := by
  have hl := h.len
  rcases h with ⟨rfl, rfl⟩ | ⟨b, lv, zs, rfl, rfl, h3, h4, h5, h6⟩
  · refine (refAdd_nil _ w).mono ?_
    rintro e w' ⟨rfl, rfl⟩
    exact RetF.mk (Kp.refl _) ⟨rfl, .inl ⟨rfl, rfl⟩⟩
  · simp only [listR, Option.getD_some] at hl
    refine (refAdd_any x h3 (by omega)).mono ?_
    rintro e w' ⟨r, rfl, hk, rfl, iv', hs, hi⟩
    refine RetF.mk (hk.mono fun k _ h => h6 k (.inl h)) ⟨rfl, .inr ⟨b, iv', _, rfl, rfl, hs, h4.add (ordC_law which) x, fun y hy => ?_, fun k ho => ?_⟩⟩
    · rcases mem_addS.1 hy with hy | ⟨rfl, _⟩
      · exact h5 y hy
      · exact hx
    · rcases ho with rfl | ho
      · exact .inl (h6 _ (.inl rfl))
      · rcases hi k ho with h | h
        · exact .inl (h6 k (.inr h))
        · exact .inr h
theorem refDrop_p {x : Int} (h : RefP U which w v o G) :
    Calls Try.prog 37 #[v, .int .i64 x] w (RetF G w fun w' r => r = .bool (hasR which o x) ∧ RefP U which w' v (dropO which x o) fun k => G k ∨ w.heap.size ≤ k) := by
  rcases h with ⟨rfl, rfl⟩ | ⟨b, lv, zs, rfl, rfl, h3, h4, h5, h6⟩
  · refine (refDrop_nil _ w).mono ?_
    rintro e w' ⟨rfl, rfl⟩
    exact RetF.mk (Kp.refl _) ⟨rfl, .inl ⟨rfl, rfl⟩⟩
  · refine (refDrop_any x h3 h4).mono ?_
    rintro e w' ⟨r, rfl, hk, rfl, iv', hs, hi⟩
    refine RetF.mk (hk.mono fun k _ h => h6 k (.inl h)) ⟨rfl, .inr ⟨b, iv', _, rfl, rfl, hs, h4.drop (ordC_law which) x, fun y hy => h5 y (mem_dropS hy), fun k ho => ?_⟩⟩
    rcases ho with rfl | ho
    · exact .inl (h6 _ (.inl rfl))
    · rcases hi k ho with h | h
      · exact .inl (h6 k (.inr h))
      · exact .inr h
theorem refHas_p {x : Int} (h : RefP U which w v o G) :
    Calls Try.prog 39 #[v, .int .i64 x] w (RetF (fun _ => False) w fun w' r => r = .bool (hasR which o x)) := by
  refine (refHas_any x h.ptr).mono ?_
  rintro e w' ⟨r, rfl, hk, rfl⟩
  refine RetF.mk hk ?_
  rcases h with ⟨rfl, rfl⟩ | ⟨b, lv, zs, rfl, rfl, _⟩ <;> rfl
theorem refBelow_p {x : Int} (h : RefP U which w v o G) :
    Calls Try.prog 41 #[v, .int .i64 x] w (RetF (fun _ => False) w fun w' r => r = .int .i64 (belowR which o x : Nat)) := by
  rcases h with ⟨rfl, rfl⟩ | ⟨b, lv, zs, rfl, rfl, h3, _⟩
  · refine (refBelow_nil _ w).mono ?_
    rintro e w' ⟨rfl, rfl⟩
    exact RetF.mk (Kp.refl _) rfl
  · exact refBelow_any x h3
theorem refCopy_p (h : RefP U which w v o G) :
    Calls Try.prog 49 #[v] w (RetN w fun w' r => RefP U which w' r o fun k => w.heap.size ≤ k) := by
  rcases h with ⟨rfl, rfl⟩ | ⟨b, lv, zs, rfl, rfl, h3, h4, h5, h6⟩
  · refine (refCopy_nil w).mono ?_
    rintro e w' ⟨rfl, rfl⟩
    exact RetN.mk (Kp.refl _) (.inl ⟨rfl, rfl⟩)
  · refine (refCopy_any h3).mono ?_
    rintro e w' ⟨r, rfl, hk, b', iv', rfl, hb, hi, hs⟩
    exact RetN.mk hk (.inr ⟨b', iv', zs, rfl, rfl, hs, h4, h5, fun k ho => by rcases ho with rfl | ho; exact hb; exact hi k ho⟩)
theorem RefP.sub (h : RefP U which w v o G) : ∀ x ∈ listR o, x ∈ U := by
  rcases h with ⟨rfl, rfl⟩ | ⟨b, lv, zs, rfl, rfl, h3, h4, h5, h6⟩
  · intro x hx; cases hx
  · exact h5
theorem refUnion_p (hU : U.length ≤ 4194304) (h : RefP U which w v o G) (h2 : RefP U which2 w v2 o2 G2) :
    Calls Try.prog 43 #[v, v2] w (RetN w fun w' r => RefP U which w' r (unionO which o o2) fun k => w.heap.size ≤ k) := by
  have hl := h.len; have hl2 := h2.len
  rcases h with ⟨rfl, rfl⟩ | ⟨b, lv, zs, rfl, rfl, h3, h4, h5, h6⟩
  · refine (refUnion_nil _ w).mono ?_
    rintro e w' ⟨rfl, rfl⟩
    exact RetN.mk (Kp.refl _) (.inl ⟨rfl, rfl⟩)
  · simp only [listR, Option.getD_some] at hl
    refine (refUnion_any h3 h2.ptr (by omega)).mono ?_
    rintro e w' ⟨r, rfl, hk, b', iv', rfl, hb, hi, hs⟩
    exact RetN.mk hk (.inr ⟨b', iv', _, rfl, rfl, hs, Strict.new (ordC_law which) _, fun x hx => by rcases List.mem_append.1 (newS_mem hx) with h | h; exact h5 x h; exact h2.sub x h, fun k ho => by rcases ho with rfl | ho; exact hb; exact hi k ho⟩)
theorem refMinus_p (hU : U.length ≤ 4194304) (h : RefP U which w v o G) (h2 : RefP U which2 w v2 o2 G2) :
    Calls Try.prog 45 #[v, v2] w (RetN w fun w' r => RefP U which w' r (minusO which o o2) fun k => w.heap.size ≤ k) := by
  have hl2 := h2.len
  rcases h with ⟨rfl, rfl⟩ | ⟨b, lv, zs, rfl, rfl, h3, h4, h5, h6⟩
  · refine (refMinus_nil _ w).mono ?_
    rintro e w' ⟨rfl, rfl⟩
    exact RetN.mk (Kp.refl _) (.inl ⟨rfl, rfl⟩)
  · refine (refMinus_any h3 h2.ptr (by omega)).mono ?_
    rintro e w' ⟨r, rfl, hk, b', iv', rfl, hb, hi, hs⟩
    exact RetN.mk hk (.inr ⟨b', iv', _, rfl, rfl, hs, h4.sub List.filter_sublist, fun x hx => h5 x (List.mem_filter.1 hx).1, fun k ho => by rcases ho with rfl | ho; exact hb; exact hi k ho⟩)
theorem refMeet_p (hU : U.length ≤ 4194304) (h : RefP U which w v o G) (h2 : RefP U which2 w v2 o2 G2) :
    Calls Try.prog 47 #[v, v2] w (RetN w fun w' r => RefP U which w' r (meetO which o o2) fun k => w.heap.size ≤ k) := by
  have hl2 := h2.len
  rcases h with ⟨rfl, rfl⟩ | ⟨b, lv, zs, rfl, rfl, h3, h4, h5, h6⟩
  · refine (refMeet_nil _ w).mono ?_
    rintro e w' ⟨rfl, rfl⟩
    exact RetN.mk (Kp.refl _) (.inl ⟨rfl, rfl⟩)
  · refine (refMeet_any h3 h2.ptr (by omega)).mono ?_
    rintro e w' ⟨r, rfl, hk, b', iv', rfl, hb, hi, hs⟩
    rw [meet_minus (ordC_law which) h4 _ (fun x y h => isIn_alike (ordC_law which) _ x y h)] at hs
    exact RetN.mk hk (.inr ⟨b', iv', _, rfl, rfl, hs, h4.sub List.filter_sublist, fun x hx => h5 x (List.mem_filter.1 hx).1, fun k ho => by rcases ho with rfl | ho; exact hb; exact hi k ho⟩)
theorem refSame_p (hU : U.length ≤ 4194304) (h : RefP U which w v o G) (h2 : RefP U which2 w v2 o2 G2) :
    Calls Try.prog 51 #[v, v2] w (RetF (fun _ => False) w fun w' r => BoolIs (sameR which o o2) r) := by
  have hl2 := h2.len
  rcases h with ⟨rfl, rfl⟩ | ⟨b, lv, zs, rfl, rfl, h3, h4, h5, h6⟩
  · refine (refSame_nil h2.ptr (by omega)).mono ?_
    rintro e w' ⟨r, rfl, hk, rfl⟩
    exact RetF.mk hk ⟨_, rfl, decide_eq_true_iff⟩
  · exact refSame_any h3 h2.ptr (by omega)
end
end Go.Proofs.Ytfkhelihepbehaa
