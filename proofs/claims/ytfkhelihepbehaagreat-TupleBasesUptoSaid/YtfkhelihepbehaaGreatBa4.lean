/- Texts joined for a claim (BaseDecl, BaseFrom, RelRead, RefC, RowDrop, BaseDrop, MergePlain, MergeFrom, Names, Names2, BaseRels, BaseV, MapIter, BaseCopy, MapsCopy, BaseNil, MergeMid, BaseMerge). -/
import Derived.Test.YtfkhelihepbehaaGreatBa3
import Derived.Shelf.SlIter.Sorted
import Derived.Shelf.SlSortCmp.NoneTotal
import Derived.StillTailTactics
import Derived.Laws.IdiomRangeMap
/- tuple.Base: Declare, at every base. -/
namespace Go.Proofs.YtfkhelihepbehaaGreat
open Go.RowKit
set_option linter.unusedVariables false

section
variable {S S' : Nat → Prop} {w w1 w2 w3 w4 : World} {bb r : Nat} {E : List Ent} {s : ByteArray} {e : Ent}
/-- What Declare leaves. -/
def BaseDecled (S : Nat → Prop) (w : World) (bb r : Nat) (E : List Ent) (s : ByteArray) (a : Int) (w' : World) (v : Value) : Prop :=
  v = .int .i64 ((declR (cntE E) s a : Nat) : Int) ∧ ∃ E', BaseAt S w' bb r E' ∧ cntE E' = declC (cntE E) s a ∧ ∀ k, OwnB bb r E' k → OwnB bb r E k ∨ w.heap.size ≤ k
theorem BaseDecled.same {a : Int} (h : BaseAt S w bb r E) (hk : Ext w w1) {n : Nat} (hR : declR (cntE E) s a = n) (hn : declC (cntE E) s a = cntE E) {v : Value} (hv : v = .int .i64 (n : Nat)) : BaseDecled S w bb r E s a w1 v :=
  ⟨by rw [hv, hR], E, h.ext hk, hn.symm, fun _ h => .inl h⟩
theorem declR_name {C : List CntZ} (a : Int) (h : namedC s = false) : declR C s a = 32 := if_pos h
theorem declR_bad {C : List CntZ} {a : Int} (h : namedC s = true) (ha : a < 0 ∨ 64 < a) : declR C s a = 2 := by
  unfold declR
  rw [if_neg (by rw [h]; simp), if_pos ha]
theorem declR_none {C : List CntZ} {a : Int} (h : namedC s = true) (ha : ¬ (a < 0 ∨ 64 < a)) (hg : getC C s = none) : declR C s a = 0 := by
  unfold declR
  rw [if_neg (by rw [h]; simp), if_neg ha, hg]
theorem declR_some {C : List CntZ} {a : Int} {v : Nat × Rows2} (h : namedC s = true) (ha : ¬ (a < 0 ∨ 64 < a)) (hg : getC C s = some v) : declR C s a = if (v.1 : Int) = a then 0 else 30 := by
  unfold declR
  rw [if_neg (by rw [h]; simp), if_neg ha, hg]
theorem declC_not {C : List CntZ} {a : Int} (h : declR C s a ≠ 0) : declC C s a = C := if_neg fun k => h k.1
theorem declC_some {C : List CntZ} {a : Int} {v : Nat × Rows2} (hg : getC C s = some v) : declC C s a = C := if_neg fun k => by rw [hg] at k; cases k.2
/-- A name comes. -/
theorem baseDecl_new {k b : Nat} (h : BaseAt S w bb r E) (he : findE E s = none) (hn : namedC s = true) (hk : k ≤ 64) (hx : Ext w w3) (hr : RowsAt S w3 b (.slice none 0 0) k []) (hb : w.heap.size ≤ b)
    (hk4 : Kp (fun k => k = r) w3 w4) (hm4 : MapIs w4 r (putM (entM E) s (.pointer (some ⟨b, 0, none⟩)))) : RetF (OwnB bb r E) w (BaseDecled S w bb r E s (k : Int)) (.returned (.int .i64 0)) w4 := by
  obtain ⟨g1, g2⟩ := findE_none he
  have hR : declR (cntE E) s (k : Int) = 0 := declR_none hn (by omega) g1
  have hC : declC (cntE E) s (k : Int) = cntE (E ++ [{ name := s, b := b, iv := .slice none 0 0, ar := k, LL := [] }]) := by
    unfold declC
    rw [if_pos ⟨hR, g1⟩]
    simp [cntE, Ent.cnt]
  rw [entM_push he b (.slice none 0 0) k []] at hm4
  have ho : ∀ q, Owns b (.slice none 0 0) q → w.heap.size ≤ q := fun q ho => by
    rcases ho with rfl | ho
    · exact hb
    · cases ho
  have htot : totalC (cntE E) = totalC (cntE (E ++ [{ name := s, b := b, iv := .slice none 0 0, ar := k, LL := [] }])) := by simp [totalC, cntE, Ent.cnt]
  refine RetF.mk ((Ext.kp hx).trans (hk4.mono fun k _ ho => .inr (.inl ho))) ⟨by rw [hR]; rfl, E ++ [{ name := s, b := b, iv := .slice none 0 0, ar := k, LL := [] }], ?_, hC.symm, ?_⟩
  · exact h.push (e := { name := s, b := b, iv := .slice none 0 0, ar := k, LL := [] }) hx (fun _ x => x) (fun _ x => .inl x) hr ho (hk4.mono fun k _ ho => .inr ho) ((h.blk.ext hx).kp hk4 h.ne) hm4 htot (by rw [← hC]; exact ok_decl h.ok s _)
  · rintro q (h1 | h1 | ⟨f, hf, ho2⟩)
    · exact .inl (.inl h1)
    · exact .inl (.inr (.inl h1))
    · rcases List.mem_append.1 hf with hf | hf
      · exact .inl (.inr (.inr ⟨f, hf, ho2⟩))
      · obtain rfl := List.mem_singleton.1 hf
        exact .inr (ho q ho2)

set_option maxRecDepth 100000 in
set_option maxHeartbeats 4000000 in
theorem baseDecl_any (h : BaseAt S w bb r E) (s : ByteArray) (a : Int) :
    Calls Tryz.prog 56 #[.pointer (some ⟨bb, 0, none⟩), .string s, .int .i64 a] w (RetF (OwnB bb r E) w (BaseDecled S w bb r E s a)) := by
  have c0 : w.cell? ⟨bb, 0, none⟩ = some (.map (some r)) := by rw [h.blk.cell']; rfl
  have hnm := named_any s w
  rw [show decide (1 ≤ s.size ∧ s.size ≤ 4096) = namedC s from rfl] at hnm
  have HN := Lib.hid hnm; clear hnm
  have H := Lib.hid h
  have HLk := Lib.hid (fun w1 (hw : Ext w w1) => run_lookup_str (P := Tryz.prog) Tryz.underlying63 Tryz.underlying9 (z := .pointer none) (by kernel_rfl) (h.map.ext hw) s)
  rw [entM_get] at HLk
  clear h
  cases hn : namedC s with
  | false =>
    rw [hn] at HN
    have HNM := Lib.hid hn
    clear hn c0
    go_enter Tryz.func56, Tryz.ntmps56
    go_wp2_with fail
    refine HN.out.mono ?_
    rintro e w' ⟨rfl, rfl⟩
    go_wp2
    go_ret
    exact RetF.mk (Kp.refl _) (BaseDecled.same H.out (Kp.refl _) (declR_name a HNM.out) (declC_not (by rw [declR_name a HNM.out]; decide)) rfl)
  | true =>
    rw [hn] at HN
    have HNM := Lib.hid hn
    clear hn
    by_cases ha : a < 0 ∨ 64 < a
    · have HNB := Lib.hid (newRows_bad a w ha)
      have HAB := Lib.hid ha
      obtain ⟨p, hp⟩ : ∃ p : Option Addr, ((findE E s).map Ent.ptr).getD (.pointer none) = .pointer p := by
        cases findE E s with
        | none => exact ⟨none, rfl⟩
        | some e => exact ⟨some ⟨e.b, 0, none⟩, rfl⟩
      have hlk := HLk.out w (Kp.refl w)
      rw [hp] at hlk
      clear ha hp
      go_enter Tryz.func56, Tryz.ntmps56
      go_wp2_with fail
      refine HN.out.mono ?_
      rintro e w' ⟨rfl, rfl⟩
      go_wp2_with fail
      refine HNB.out.mono ?_
      rintro e w' ⟨rfl, rfl⟩
      go_wp2
      go_ret
      have e2 := declR_bad (s := s) (C := cntE E) HNM.out HAB.out
      exact RetF.mk (Kp.refl _) (BaseDecled.same H.out (Kp.refl _) e2 (declC_not (by rw [e2]; decide)) rfl)
    · obtain ⟨k, rfl⟩ := Int.eq_ofNat_of_zero_le (show 0 ≤ a by omega)
      have hk64 : k ≤ 64 := by omega
      have HNR := Lib.hid (newRows_any S w k hk64 H.out.inS)
      have HAN := Lib.hid ha
      clear ha
      cases he : findE E s with
      | none =>
        rw [he] at HLk
        have HE := Lib.hid he
        clear he
        go_enter Tryz.func56, Tryz.ntmps56
        go_wp2_with fail
        refine HN.out.mono ?_
        rintro e w' ⟨rfl, rfl⟩
        go_wp2_with fail
        refine HNR.out.mono ?_
        rintro e w1 ⟨v, rfl, hk1, rfl, hrows⟩
        have hlk : (Instr.lookup 63 (.map (some r)) (.string s) false).run Tryz.prog w1 = .ok (.pointer none) w1 := HLk.out w1 hk1
        have c1 := hk1.cell c0 id
        have HK1 := Lib.hid (And.intro hk1 hrows)
        clear hk1 hrows
        go_wp2_with fail
        refine (basePut_any (H.out.blk.ext HK1.out.1) (H.out.map.ext HK1.out.1) s (some ⟨w.heap.size, 0, none⟩)).mono ?_
        rintro e w4 ⟨v, rfl, hk4, hm4⟩
        have HM4 := Lib.hid (And.intro hk4 hm4)
        clear hk4 hm4
        go_wp2
        go_ret
        exact baseDecl_new H.out HE.out HNM.out hk64 HK1.out.1 HK1.out.2 (Nat.le_refl _) HM4.out.1 HM4.out.2
      | some e0 =>
        rw [he] at HLk
        have HE := Lib.hid he
        obtain ⟨hem, hes⟩ := findE_some he
        obtain ⟨b0, eb0⟩ : ∃ b0, e0.b = b0 := ⟨_, rfl⟩
        obtain ⟨ar, ear⟩ : ∃ ar, e0.ar = ar := ⟨_, rfl⟩
        have d2 : w.cell? ⟨b0, 2, none⟩ = some (.int .i64 ar) := by rw [← eb0, (H.out.rows e0 hem).blk.cell', ear]; rfl
        have HEM := Lib.hid (And.intro eb0 ear)
        have hg : getC (cntE E) s = some (ar, e0.LL) := by rw [← ear]; exact (findE_rows he).1
        have hR := declR_some (C := cntE E) HNM.out HAN.out hg
        have HR := Lib.hid (And.intro hR (declC_some (C := cntE E) (a := (k : Int)) hg))
        clear he hem hes eb0 ear hg hR
        by_cases hq : ar = k
        · have q1 : ((ar : Int) != (k : Int)) = false := by simp [hq]
          have HQ := Lib.hid hq
          clear hq
          go_enter Tryz.func56, Tryz.ntmps56
          go_wp2_with fail
          refine HN.out.mono ?_
          rintro e w' ⟨rfl, rfl⟩
          go_wp2_with fail
          refine HNR.out.mono ?_
          rintro e w1 ⟨v, rfl, hk1, rfl, hrows⟩
          have hlk : (Instr.lookup 63 (.map (some r)) (.string s) false).run Tryz.prog w1 = .ok (.pointer (some ⟨b0, 0, none⟩)) w1 := by rw [← HEM.out.1]; exact HLk.out w1 hk1
          have c1 := hk1.cell c0 id
          have d21 := hk1.cell d2 id
          have HK1 := Lib.hid hk1
          clear hk1 hrows
          go_wp2
          go_ret
          exact RetF.mk (Ext.kp HK1.out) (BaseDecled.same H.out HK1.out (by rw [HR.out.1, if_pos (by rw [HQ.out])]) HR.out.2 rfl)
        · have q1 : ((ar : Int) != (k : Int)) = true := by rw [bne_iff_ne]; omega
          have HQ := Lib.hid hq
          clear hq
          go_enter Tryz.func56, Tryz.ntmps56
          go_wp2_with fail
          refine HN.out.mono ?_
          rintro e w' ⟨rfl, rfl⟩
          go_wp2_with fail
          refine HNR.out.mono ?_
          rintro e w1 ⟨v, rfl, hk1, rfl, hrows⟩
          have hlk : (Instr.lookup 63 (.map (some r)) (.string s) false).run Tryz.prog w1 = .ok (.pointer (some ⟨b0, 0, none⟩)) w1 := by rw [← HEM.out.1]; exact HLk.out w1 hk1
          have c1 := hk1.cell c0 id
          have d21 := hk1.cell d2 id
          have HK1 := Lib.hid hk1
          clear hk1 hrows
          go_wp2
          go_ret
          exact RetF.mk (Ext.kp HK1.out) (BaseDecled.same H.out HK1.out (by rw [HR.out.1, if_neg (fun q => HQ.out (by omega))]) HR.out.2 rfl)
end
end Go.Proofs.YtfkhelihepbehaaGreat

/- tuple.Base: FromRelations. -/
namespace Go.Proofs.YtfkhelihepbehaaGreat
open Go.RowKit
set_option linter.unusedVariables false

/-- Relations that lie from an address on, in blocks of S, their rows too. -/
def RelsIn (S : Nat → Prop) (w : World) (ao : Option Addr) (L : List RelZ) : Prop := ∀ (i : Nat) (q : RelZ), L[i]? = some q → ∃ b off ra rcap, ao = some ⟨b, off, none⟩ ∧ S b ∧ w.cell? ⟨b, off + i * 3, none⟩ = some (.string q.1) ∧ w.cell? ⟨b, off + i * 3 + 1, none⟩ = some (.int .i64 q.2.1) ∧ w.cell? ⟨b, off + i * 3 + 2, none⟩ = some (.slice ra q.2.2.1.length rcap) ∧ q.2.2.1.length ≤ rcap ∧ rcap ≤ maxLen ∧ RowsIn S w ra q.2.2.1
section
variable {S S' : Nat → Prop} {w w' : World} {ao : Option Addr} {L : List RelZ}
theorem RelsIn.kp {F : Nat → Prop} (h : RelsIn S w ao L) (hk : Kp F w w') (hF : ∀ k, F k → ¬ S k) : RelsIn S w' ao L := fun i q hq => by
  obtain ⟨b, off, ra, rcap, e, hb, c0, c1, c2, h1, h2, h3⟩ := h i q hq
  exact ⟨b, off, ra, rcap, e, hb, hk.cell c0 (fun f => hF _ f hb), hk.cell c1 (fun f => hF _ f hb), hk.cell c2 (fun f => hF _ f hb), h1, h2, h3.kp hk hF⟩
theorem RelsIn.ext (h : RelsIn S w ao L) (hk : Ext w w') : RelsIn S w' ao L := h.kp hk fun _ x => x.elim
end
theorem from_bad {C : List CntZ} {q : RelZ} {L : List RelZ} (h : declR C q.1 q.2.1 ≠ 0) : fromC C (q :: L) = (C, declR C q.1 q.2.1) := if_neg h
theorem from_err {C : List CntZ} {q : RelZ} {L : List RelZ} (h : declR C q.1 q.2.1 = 0) (h2 : (addAll (declC C q.1 q.2.1) q.1 q.2.2.1).2 ≠ 0) : fromC C (q :: L) = addAll (declC C q.1 q.2.1) q.1 q.2.2.1 := by
  show (if declR C q.1 q.2.1 = 0 then _ else _) = _
  rw [if_pos h, if_neg h2]
theorem from_go {C : List CntZ} {q : RelZ} {L : List RelZ} (h : declR C q.1 q.2.1 = 0) (h2 : (addAll (declC C q.1 q.2.1) q.1 q.2.2.1).2 = 0) : fromC C (q :: L) = fromC (addAll (declC C q.1 q.2.1) q.1 q.2.2.1).1 L := by
  show (if declR C q.1 q.2.1 = 0 then _ else _) = _
  rw [if_pos h, if_pos h2]
theorem addAll_go {C : List CntZ} {s : ByteArray} {x : List ByteArray} {rs : Rows2} (h : (addR C s x).2 = 0) : addAll C s (x :: rs) = addAll (addC C s x) s rs := if_pos h
theorem addAll_bad {C : List CntZ} {s : ByteArray} {x : List ByteArray} {rs : Rows2} (h : (addR C s x).2 ≠ 0) : addAll C s (x :: rs) = (C, (addR C s x).2) := if_neg h

/-- What FromRelations makes. -/
def FromV (w : World) (L : List RelZ) (w' : World) (v : Value) : Prop :=
  ((fromC [] L).2 = 0 → ∃ bb r S E, v = .tuple #[.pointer (some ⟨bb, 0, none⟩), .int .i64 0] ∧ BaseAt S w' bb r E ∧ cntE E = (fromC [] L).1 ∧ (∀ k, S k → w.heap.size ≤ k) ∧ ∀ k, OwnB bb r E k → w.heap.size ≤ k) ∧
  ((fromC [] L).2 ≠ 0 → v = .tuple #[.pointer none, .int .i64 (((fromC [] L).2 : Nat) : Int)])
/-- A base of one's own. -/
structure MyBase (w0 : World) (S : Nat → Prop) (w : World) (bb r : Nat) (E : List Ent) : Prop where
  base : BaseAt S w bb r E
  ext : Ext w0 w
  pool : ∀ k, S k → w0.heap.size ≤ k
  own : ∀ k, OwnB bb r E k → w0.heap.size ≤ k
def FromTo (w0 : World) (bb r : Nat) (L : List RelZ) (n : Nat) (iv : Value) (w : World) : Prop := ∃ i : Nat, i ≤ n ∧ iv = .int .i64 i ∧ Hid (∃ S E, MyBase w0 S w bb r E ∧ fromC (cntE E) (L.drop i) = fromC [] L)
def FromIn (w0 : World) (bb r : Nat) (q : RelZ) (R : List CntZ × Nat) (g : Nat) (cs : List Value) (m : Nat) (jv : Value) (w : World) : Prop := ∃ j : Nat, j ≤ m ∧ jv = .int .i64 j ∧ Hid (∃ S E, MyBase w0 S w bb r E ∧ addAll (cntE E) q.1 (q.2.2.1.drop j) = R ∧ Blk w g cs 52 ∧ ¬ OwnB bb r E g)
theorem drop_at {α : Type} {xs : List α} {i : Nat} {x : α} (h : xs[i]? = some x) : xs.drop i = x :: xs.drop (i + 1) := by
  obtain ⟨hi, e⟩ := List.getElem?_eq_some_iff.1 h
  rw [List.drop_eq_getElem_cons hi, e]

set_option maxRecDepth 100000 in
set_option maxHeartbeats 4000000 in
theorem from_any (L : List RelZ) (ao : Option Addr) (n cap : Nat) (w : World) (S0 : Nat → Prop) (hn : n = L.length) (hL : RelsIn S0 w ao L) (hS : ∀ k, S0 k → k < w.heap.size) (hl : n ≤ 4194304) (hr : ∀ q ∈ L, q.2.2.1.length ≤ 1048576) :
    Calls Tryz.prog 22 #[.slice ao n cap] w (RetN w (FromV w L)) := by
  have HN := Lib.hid hn
  have HL := Lib.hid (And.intro hL hS)
  have HR := Lib.hid hr
  clear hn hL hS hr
  go_enter Tryz.func22, Tryz.ntmps22
  go_wp2_with fail
  refine (newBase_any w).mono ?_
  rintro e w1 ⟨v, rfl, hk1, rfl, hB, hm⟩
  obtain ⟨bb, ebb⟩ : ∃ bb, w.heap.size + 1 = bb := ⟨_, rfl⟩
  rw [ebb] at hB ⊢
  obtain ⟨r, er⟩ : ∃ r, w.heap.size = r := ⟨_, rfl⟩
  rw [er] at hB hm
  have HM0 := Lib.hid (show MyBase w (fun _ => False) w1 bb r [] from
    { base := BaseAt.new (fun _ => False) (fun _ x => x.elim) hk1 (by omega) (by omega) (by omega) hB hm
      ext := hk1, pool := fun _ x => x.elim
      own := fun k hk => by
        rcases hk with rfl | rfl | ⟨e, he, _⟩
        · omega
        · omega
        · simp at he })
  clear hB hm hk1 ebb er
  go_wp2
  go_loopw [15] (fun iv wr => FromTo w bb r L n iv wr) (fun iv _ => n - (intOf iv).toNat)
  case atStart => exact ⟨0, Nat.zero_le _, rfl, _, [], HM0.out, rfl⟩
  case round =>
    clear HM0
    obtain ⟨i, hi, rfl, hin⟩ := hrel
    obtain ⟨S, E, hM, hF⟩ := hin.out
    have HM := Lib.hid hM
    have HF := Lib.hid hF
    clear hin hM hF
    by_cases hlt : i < n
    · obtain ⟨q, hq⟩ : ∃ q, L[i]? = some q := ⟨_, List.getElem?_eq_getElem (by rw [← HN.out]; exact hlt)⟩
      obtain ⟨b, off, ra, rcap, eao, hSb, c0, c1, c2, hrl, hrm, hrows⟩ := HL.out.1 i q hq
      subst eao
      replace c0 := HM.out.ext.cell c0 id
      replace c1 := HM.out.ext.cell c1 id
      replace c2 := HM.out.ext.cell c2 id
      obtain ⟨s, es⟩ : ∃ s, q.1 = s := ⟨_, rfl⟩
      obtain ⟨a, ea⟩ : ∃ a, q.2.1 = a := ⟨_, rfl⟩
      obtain ⟨m, em⟩ : ∃ m, q.2.2.1.length = m := ⟨_, rfl⟩
      rw [es] at c0
      rw [ea] at c1
      rw [em] at c2 hrl
      have hm1 : m ≤ 1048576 := by rw [← em]; exact HR.out q (List.mem_of_getElem? hq)
      have HQ := Lib.hid (And.intro hq (And.intro es (And.intro ea em)))
      have HRows := Lib.hid hrows
      clear hq es ea em hrows hSb
      obtain ⟨gx, egx⟩ : ∃ g, wr.heap.size = g := ⟨_, rfl⟩
      obtain ⟨wx, ewx⟩ : ∃ wx, wr.alloc (.cells #[.string s, .int .i64 a, .slice ra m rcap] 52) = wx := ⟨_, rfl⟩
      have HBx := Lib.hid (show Blk wx gx [.string s, .int .i64 a, .slice ra m rcap] 52 by rw [← ewx, ← egx]; exact Blk.new wr _ _)
      have HXx := Lib.hid (show Ext wr wx by rw [← ewx]; exact (Kp.refl wr).alloc _)
      have HGx := Lib.hid (show ∀ k, OwnB bb r E k → k < gx from fun k hk => by rw [← egx]; exact HM.out.base.ownLt k hk)
      have EGX := Lib.hid egx
      have x0 : wx.cell? ⟨wr.heap.size, 0, none⟩ = some (.string s) := by rw [egx, HBx.out.cell']; rfl
      have x1 : wx.cell? ⟨wr.heap.size, 1, none⟩ = some (.int .i64 a) := by rw [egx, HBx.out.cell']; rfl
      clear egx
      go_wp2_with fail
      rw [EGX.out]
      refine (baseDecl_any (HM.out.base.ext HXx.out) s a).mono ?_
      rintro e w2 ⟨v, rfl, hk2, rfl, E1, hB1, hC1, ho1⟩
      have hgx : gx < wx.heap.size := HBx.out.lt
      have hbx2 : Blk w2 gx [.string s, .int .i64 a, .slice ra m rcap] 52 := HBx.out.kp hk2 fun ho => by have := HGx.out gx ho; omega
      have hM1 : MyBase w S w2 bb r E1 :=
        { base := hB1
          ext := (HM.out.ext.trans HXx.out).trans' hk2 fun k hk ho => by have := HM.out.own k ho; omega
          pool := HM.out.pool
          own := fun k hk => by
            rcases ho1 k hk with h1 | h1
            · exact HM.out.own k h1
            · have := (HM.out.ext.trans HXx.out).size; omega }
      have hng : ¬ OwnB bb r E1 gx := fun ho => by
        rcases ho1 gx ho with h1 | h1
        · have := HGx.out gx h1; omega
        · omega
      have HM1 := Lib.hid (And.intro hM1 (And.intro hC1 (And.intro hbx2 hng)))
      clear hk2 hB1 hC1 ho1 hgx hbx2 hM1 hng ewx x0 x1 c0 c1 c2
      obtain ⟨d, ed⟩ : ∃ d, declR (cntE E) s a = d := ⟨_, rfl⟩
      rw [ed]
      have ED := Lib.hid ed
      clear ed
      have y2 : w2.cell? ⟨gx, 2, none⟩ = some (.slice ra m rcap) := by rw [HM1.out.2.2.1.cell']; rfl
      by_cases hd : d = 0
      · have q1 : ((d : Int) != 0) = false := by simp [hd]
        have HD := Lib.hid hd
        clear hd
        have hdr : (L.drop i) = q :: L.drop (i + 1) := drop_at HQ.out.1
        have HDr := Lib.hid hdr
        clear hdr
        go_wp2
        clear q1
        generalize hw5 : w2 = w5 at *; clear hw5
        go_loopw [31] (fun jv wk => FromIn w bb r q (addAll (declC (cntE E) s a) s q.2.2.1) gx [.string s, .int .i64 a, .slice ra m rcap] m jv wk) (fun jv _ => m - (intOf jv).toNat)
        case atStart => exact ⟨0, Nat.zero_le _, rfl, S, E1, HM1.out.1, by rw [HM1.out.2.1, HQ.out.2.1]; rfl, HM1.out.2.2.1, HM1.out.2.2.2⟩
        case round =>
          clear HM1 HBx HXx HGx EGX y2
          obtain ⟨j, hj, rfl, hin⟩ := hrel
          obtain ⟨S1, E2, hM2, hA2, hbx, hng⟩ := hin.out
          have HM2 := Lib.hid (And.intro hM2 (And.intro hA2 (And.intro hbx hng)))
          clear hin hM2 hA2 hbx hng
          by_cases hlt2 : j < m
          · obtain ⟨ss, hss⟩ : ∃ ss, q.2.2.1[j]? = some ss := ⟨_, List.getElem?_eq_getElem (by rw [HQ.out.2.2.2]; exact hlt2)⟩
            obtain ⟨g, o, xa, xcap, era, d0, d1, d2, d3⟩ := HRows.out.get hss
            subst era
            replace d0 := HM2.out.1.ext.cell d0 id
            obtain ⟨k, ek⟩ : ∃ k, ss.length = k := ⟨_, rfl⟩
            rw [ek] at d0
            have HSS := Lib.hid (And.intro hss ek)
            have HRow := Lib.hid (And.intro d1 (And.intro d2 d3))
            have y0 : wr.cell? ⟨gx, 0, none⟩ = some (.string s) := by rw [HM2.out.2.2.1.cell']; rfl
            clear hss ek d1 d2 d3
            go_wp2_with fail
            refine (baseAdd_any HM2.out.1.base s (ao := xa) (k := k) (cap := xcap) (ss := ss) ⟨⟨HSS.out.2.symm, HRow.out.1.ext HM2.out.1.ext⟩, HRow.out.2.1, fun a e => Nat.lt_of_lt_of_le (HL.out.2 _ (HRow.out.2.2 a e)) HM2.out.1.ext.size⟩ (fun a e ho => by
              have h1 := HM2.out.1.own _ ho
              have h2 := HL.out.2 _ (HRow.out.2.2 a e)
              omega)).mono ?_
            rintro e w3 ⟨v, rfl, hk3, rfl, S3, E3, hs1, hs2, hB3, hC3, ho3⟩
            have hgx : gx < wr.heap.size := HM2.out.2.2.1.lt
            have hM3 : MyBase w S3 w3 bb r E3 :=
              { base := hB3
                ext := HM2.out.1.ext.trans' hk3 fun k hk ho => by have := HM2.out.1.own k ho; omega
                pool := fun k hk => by
                  rcases hs2 k hk with h1 | h1
                  · exact HM2.out.1.pool k h1
                  · have := HM2.out.1.ext.size; omega
                own := fun k hk => by
                  rcases ho3 k hk with h1 | h1
                  · exact HM2.out.1.own k h1
                  · have := HM2.out.1.ext.size; omega }
            have hb3 : Blk w3 gx [.string s, .int .i64 a, .slice (some ⟨g, o, none⟩) m rcap] 52 := HM2.out.2.2.1.kp hk3 HM2.out.2.2.2
            have hng : ¬ OwnB bb r E3 gx := fun ho => by
              rcases ho3 gx ho with h1 | h1
              · exact HM2.out.2.2.2 h1
              · omega
            have HM3 := Lib.hid (And.intro hM3 (And.intro hC3 (And.intro hb3 hng)))
            clear hk3 hB3 hC3 ho3 hgx hM3 hng hb3 hs1 hs2 y0 d0
            obtain ⟨x1, ex1⟩ : ∃ x, (addR (cntE E2) s ss).1 = x := ⟨_, rfl⟩
            obtain ⟨x2, ex2⟩ : ∃ x, (addR (cntE E2) s ss).2 = x := ⟨_, rfl⟩
            rw [ex1, ex2]
            have EX := Lib.hid ex2
            clear ex1 ex2
            have hdj : q.2.2.1.drop j = ss :: q.2.2.1.drop (j + 1) := drop_at HSS.out.1
            have HDj := Lib.hid hdj
            clear hdj
            by_cases hx : x2 = 0
            · have q1 : ((x2 : Int) != 0) = false := by simp [hx]
              have HX := Lib.hid hx
              clear hx
              go_wp2
              go_roundw
              case rel =>
                refine ⟨j + 1, by omega, by first | rfl | (congr 1; done) | (congr 1; omega), S3, E3, HM3.out.1, ?_, HM3.out.2.2.1, HM3.out.2.2.2⟩
                rw [HM3.out.2.1, ← HM2.out.2.1, HDj.out, HQ.out.2.1]
                exact (addAll_go (by rw [EX.out]; exact HX.out)).symm
              case measure => simp [intOf]; omega
            · have q1 : ((x2 : Int) != 0) = true := by simp; omega
              have HX := Lib.hid hx
              clear hx
              go_wp2
              go_ret2
              have hall := HM2.out.2.1
              rw [HDj.out, HQ.out.2.1, addAll_bad (by rw [EX.out]; exact HX.out), EX.out] at hall
              have hfr : fromC [] L = (cntE E2, x2) := by
                rw [← HF.out, HDr.out, from_err (by rw [HQ.out.2.1, HQ.out.2.2.1, ED.out]; exact HD.out) (by rw [HQ.out.2.1, HQ.out.2.2.1, ← hall]; exact HX.out), HQ.out.2.1, HQ.out.2.2.1, ← hall]
              exact RetN.mk HM3.out.1.ext ⟨fun h0 => by rw [hfr] at h0; exact absurd h0 HX.out, fun _ => by rw [hfr]; rfl⟩
          · obtain rfl : j = m := by omega
            have hall := HM2.out.2.1
            rw [List.drop_of_length_le (by rw [HQ.out.2.2.2]; exact Nat.le_refl _)] at hall
            have hall' : addAll (declC (cntE E) s a) s q.2.2.1 = (cntE E2, 0) := hall.symm
            have HAll := Lib.hid hall'
            clear hall hall'
            go_wp2
            go_roundw
            case rel =>
              refine ⟨i + 1, by omega, by first | rfl | (congr 1; done) | (congr 1; omega), S1, E2, HM2.out.1, ?_⟩
              rw [← HF.out, HDr.out, from_go (by rw [HQ.out.2.1, HQ.out.2.2.1, ED.out]; exact HD.out) (by rw [HQ.out.2.1, HQ.out.2.2.1, HAll.out]), HQ.out.2.1, HQ.out.2.2.1, HAll.out]
            case measure => simp [intOf]; omega
      · have q1 : ((d : Int) != 0) = true := by simp; omega
        have HD := Lib.hid hd
        clear hd
        go_wp2
        go_ret2
        have hfr : fromC [] L = (cntE E, d) := by
          rw [← HF.out, drop_at HQ.out.1, from_bad (by rw [HQ.out.2.1, HQ.out.2.2.1, ED.out]; exact HD.out), HQ.out.2.1, HQ.out.2.2.1, ED.out]
        exact RetN.mk HM1.out.1.ext ⟨fun h0 => by rw [hfr] at h0; exact absurd h0 HD.out, fun _ => by rw [hfr]; rfl⟩
    · obtain rfl : i = n := by omega
      have hfr : fromC [] L = (cntE E, 0) := by
        rw [← HF.out, List.drop_of_length_le (by rw [← HN.out]; exact Nat.le_refl _)]; rfl
      have HFr := Lib.hid hfr
      clear hfr
      go_wp2
      go_ret2
      exact RetN.mk HM.out.ext ⟨fun _ => ⟨bb, r, S, E, rfl, HM.out.base, by rw [HFr.out], HM.out.pool, HM.out.own⟩, fun h0 => absurd (by rw [HFr.out]) h0⟩
end Go.Proofs.YtfkhelihepbehaaGreat

/- Relations that came in: how they lie. -/
namespace Go.Proofs.YtfkhelihepbehaaGreat
open Go.ChangeShapes Go.WideShapes Go.ChangeAt Go.RowKit
set_option linter.unusedVariables false

noncomputable def shT : Shp Tryz.prog ByteArray := shStr 9 Tryz.underlying9 (by kernel_rfl)
noncomputable def shTs : Shp Tryz.prog (List ByteArray) := shSlice 29 shT Tryz.underlying29 (by kernel_rfl) (by decide)
noncomputable def shTss : Shp Tryz.prog (List (List ByteArray)) := shSlice 22 shTs Tryz.underlying22 (by kernel_rfl) (by decide)
noncomputable def shRel : Shp Tryz.prog RelZ := shStruct 52 (fdCons shT (fdCons (shInt 3 .i64 Tryz.underlying3 (by kernel_rfl)) (fdCons shTss fdNil))) (fs := _) Tryz.underlying52 ⟨_, _, rfl, rfl, rfl, _, _, rfl, rfl, rfl, _, _, rfl, rfl, rfl, rfl⟩ (by kernel_rfl)
noncomputable def shIn : Shp Tryz.prog Int := shInt 3 .i64 Tryz.underlying3 (by kernel_rfl)

theorem list_choose {α β : Type} {P : Nat → α → β → Prop} : ∀ (L : List α), (∀ i x, L[i]? = some x → ∃ y, P i x y) → ∃ ys : List β, ys.length = L.length ∧ ∀ (i : Nat) (x : α) (y : β), L[i]? = some x → ys[i]? = some y → P i x y := by
  intro L
  induction L generalizing P with
  | nil => exact fun _ => ⟨[], rfl, fun i x y h => by simp at h⟩
  | cons a L ih =>
    intro h
    obtain ⟨y0, h0⟩ := h 0 a rfl
    obtain ⟨ys, h1, h2⟩ := ih (P := fun i x y => P (i + 1) x y) fun i x hx => h (i + 1) x (by simpa using hx)
    refine ⟨y0 :: ys, by simp [h1], fun i x y hx hy => ?_⟩
    cases i with
    | zero => simp at hx hy; subst hx; subst hy; exact h0
    | succ i => exact h2 i x y (by simpa using hx) (by simpa using hy)
/-- Rows. -/
theorem elems_rows {w : World} {G : Nat → Prop} {ao : Option Addr} {LL : List (List ByteArray)} (h : ElemsAt shTs w G ao LL) (hl : ∀ ss ∈ LL, ss.length ≤ 8796093021952) : RowsIn (fun _ => True) w ao LL := by
  have h1 : ∀ (i : Nat) (ss : List ByteArray), LL[i]? = some ss → ∃ p : Option Addr × Nat × Nat, ∃ b off, ao = some ⟨b, off, none⟩ ∧ w.cell? ⟨b, off + i, none⟩ = some (.slice p.1 p.2.1 p.2.2) ∧ p.2.1 = ss.length ∧ CellsAt w p.1 (strs ss) := fun i ss hi => by
    obtain ⟨b, off, es, e, _, _, ⟨a1, c1, ee, hl, _, hc⟩, hcell⟩ := h i ss hi
    refine ⟨(a1, ss.length, c1), b, off, e, ?_, rfl, elems_strs (hu := Tryz.underlying9) (hc := by kernel_rfl) hc⟩
    have := hcell 0 (.slice a1 ss.length c1) (by rw [ee]; rfl)
    rw [show shTs.n = 1 from rfl, Nat.mul_one, Nat.add_zero] at this
    exact this
  obtain ⟨qs, hq, hP⟩ := list_choose LL h1
  have hz : ∀ p ∈ qs.zip LL, ReadsAs w p.1 p.2 ∧ p.2.length ≤ 8796093021952 ∧ ∀ a, p.1.1 = some a → True := fun p hp => by
    obtain ⟨i, hi, e⟩ := List.getElem_of_mem hp
    have h2 : (qs.zip LL)[i]? = some p := by rw [List.getElem?_eq_getElem hi, e]
    obtain ⟨h3, h4⟩ := List.getElem?_zip_eq_some.1 h2
    obtain ⟨b, off, _, _, h5, h6⟩ := hP i _ _ h4 h3
    exact ⟨⟨h5, h6⟩, hl _ (List.mem_of_getElem? h4), fun _ _ => trivial⟩
  refine ⟨qs.zip LL, ?_, fun i u hu => ?_, fun _ _ => trivial, hz⟩
  · rw [List.map_snd_zip (by omega)]
  · cases hp : (qs.zip LL)[i]? with
    | none => rw [show (rowVs (qs.zip LL))[i]? = ((qs.zip LL)[i]?).map _ from List.getElem?_map .., hp] at hu; cases hu
    | some p =>
      rw [rowVs_get _ _ _ hp] at hu
      cases hu
      obtain ⟨h3, h4⟩ := List.getElem?_zip_eq_some.1 hp
      obtain ⟨b, off, e, hc, _⟩ := hP i _ _ h4 h3
      exact ⟨b, off, e, hc⟩
theorem rel_bulk {L : List RelZ} {N : Nat} (h : bulkL shRel.bulk L ≤ N) : L.length ≤ N ∧ ∀ q ∈ L, q.2.2.1.length ≤ N ∧ ∀ ss ∈ q.2.2.1, ss.length ≤ N := by
  refine ⟨Nat.le_trans (bulkL_len shRel.bulk (fun x => by show 1 ≤ _ + 1; omega) L) h, fun q hq => ?_⟩
  have h1 : shRel.bulk q ≤ N := Nat.le_trans (bulkL_mem shRel.bulk hq) h
  have h2 : shT.bulk q.1 + (1 + ((bulkL shTs.bulk q.2.2.1 + 1) + 0)) + 1 ≤ N := h1
  have h3 := bulkL_len shTs.bulk (fun x => by show 1 ≤ _ + 1; omega) q.2.2.1
  refine ⟨by omega, fun ss hs => ?_⟩
  have h4 : shTs.bulk ss ≤ _ := bulkL_mem shTs.bulk hs
  have h5 : bulkL shT.bulk ss + 1 ≤ bulkL shTs.bulk q.2.2.1 := h4
  have h6 := bulkL_len shT.bulk (fun x => by show 1 ≤ _ + 1; omega) ss
  omega
end Go.Proofs.YtfkhelihepbehaaGreat

/- Bases in plain Lean: the same contents whatever the order of names: what is declared, added and told is the same. No program in sight. -/
namespace Go.Proofs.YtfkhelihepbehaaGreat
set_option linter.unusedVariables false
section
variable {C D : List CntZ} {s : ByteArray} {row : List ByteArray} {a : Int}
theorem SameC.refl (C : List CntZ) : SameC C C := fun _ => rfl
theorem SameC.symm (h : SameC C D) : SameC D C := fun s => (h s).symm
theorem SameC.trans {E : List CntZ} (h : SameC C D) (h' : SameC D E) : SameC C E := fun s => (h s).trans (h' s)
theorem same_total (hC : BaseOk C) (hD : BaseOk D) (h : SameC C D) : totalC C = totalC D := by
  rw [← rels_total hC, ← rels_total hD, rels_same hC.nodup hD.nodup h]
theorem same_rows (h : SameC C D) (s : ByteArray) : rowsC C s = rowsC D s := by unfold rowsC; rw [h s]
theorem same_declR (h : SameC C D) (s : ByteArray) (a : Int) : declR C s a = declR D s a := by unfold declR; rw [h s]
theorem same_declC (h : SameC C D) (s : ByteArray) (a : Int) : SameC (declC C s a) (declC D s a) := fun t => by
  unfold declC
  rw [same_declR h, h s]
  split
  · rename_i h2
    rw [getC_app h2.2, getC_app (by rw [h s]; exact h2.2), h t]
  · exact h t
theorem same_addR (hC : BaseOk C) (hD : BaseOk D) (h : SameC C D) (s : ByteArray) (row : List ByteArray) : addR C s row = addR D s row := by
  unfold addR arOk; rw [same_rows h, same_total hC hD h, h s]
theorem same_addC (hC : BaseOk C) (hD : BaseOk D) (h : SameC C D) (s : ByteArray) (row : List ByteArray) : SameC (addC C s row) (addC D s row) := fun t => by
  unfold addC
  rw [same_addR hC hD h, same_rows h]
  split
  · rw [getC_set, getC_set, h t]
  · exact h t
theorem perm_nodup (h : C.Perm D) (hn : (C.map (·.1)).Nodup) : (D.map (·.1)).Nodup := (h.map _).nodup_iff.1 hn
theorem perm_same (h : C.Perm D) (hn : (C.map (·.1)).Nodup) : SameC C D := fun s => by
  have hd := perm_nodup h hn
  apply Option.ext
  intro v
  rw [getC_mem hn, getC_mem hd, h.mem_iff]
theorem perm_total (h : C.Perm D) : totalC C = totalC D := perm_sum (h.map _)
theorem perm_ok (h : C.Perm D) (hC : BaseOk C) : BaseOk D := ⟨perm_nodup h hC.nodup, fun p hp => hC.all p (h.mem_iff.2 hp), by rw [← perm_total h]; exact hC.few⟩
/-- Names that stand in their order are told as they stand. -/
theorem names_sorted (h : Strict cmpN (C.map (·.1))) : namesC C = C.map (·.1) := (names_strict (h.nodup cmpN_ord)).unique cmpN_ord h fun x => (names_perm C).mem_iff
theorem rels_sorted (h : Strict cmpN (C.map (·.1))) : relsC C = C.map fun p => (p.1, (p.2.1 : Int), p.2.2, ()) := by
  unfold relsC
  rw [names_sorted h, List.map_map]
  apply List.map_congr_left
  intro p hp
  have hg : getC C p.1 = some p.2 := (getC_mem (h.nodup cmpN_ord)).2 hp
  show relOf C p.1 = _
  unfold relOf arC
  rw [rows_some hg, hg]
end
/-- An element put at its place among others by their names. -/
def insN {α : Type} (f : α → ByteArray) (G : List α) (g : α) : List α := G.take (below cmpN (G.map f) (f g)) ++ g :: G.drop (below cmpN (G.map f) (f g))
theorem insN_perm {α : Type} (f : α → ByteArray) (G : List α) (g : α) : (insN f G g).Perm (G ++ [g]) := by
  unfold insN
  refine List.perm_middle.trans ?_
  rw [List.take_append_drop]
  exact (List.perm_append_singleton g G).symm
theorem insN_strict {α : Type} (f : α → ByteArray) {G : List α} {g : α} (h : Strict cmpN (G.map f)) (hn : f g ∉ G.map f) : Strict cmpN ((insN f G g).map f) := by
  have hi : isIn cmpN (G.map f) (f g) = false := by
    rw [Bool.eq_false_iff]
    intro hi
    obtain ⟨y, hy, e⟩ := isIn_iff.1 hi
    exact hn (toList_inj (cmpB_zero e) ▸ hy)
  have := h.add cmpN_ord (f g)
  unfold addS at this
  rw [hi] at this
  have e : (insN f G g).map f = (G.map f).take (below cmpN (G.map f) (f g)) ++ f g :: (G.map f).drop (below cmpN (G.map f) (f g)) := by
    unfold insN
    rw [List.map_append, List.map_take, List.map_cons, List.map_drop]
  rw [e]
  simpa using this
end Go.Proofs.YtfkhelihepbehaaGreat

/- tuple.Rows: Drop, the pool as it was. -/
namespace Go.Proofs.YtfkhelihepbehaaGreat
open Go.RowKit Go.Shelf
set_option linter.unusedVariables false

section
variable {z : Prop} {S S' : Nat → Prop} {w w' : World} {b : Nat} {iv : Value} {arity : Nat} {LL : List (List ByteArray)}
theorem RowsAt.openS (h : RowsAt S w b iv arity LL) (hst : Strict cmpRow LL) {x : RowZ} {ss : List ByteArray} (hx : RowIn w x ss) (ho : RowOff x (Owns b iv)) :
    ∃ con zs, (∀ x ss, ReadsAs w x ss → con x = ss) ∧ SetAtRow Tryz.prog (poolOf S x) w b (.func (Fn.func 41) #[] #[]) iv [.int .i64 arity] 98 (RowD (poolOf S x) w) (fun x y => cmpRow (con x) (con y)) zs ∧ zs.map con = LL ∧
      RowD (poolOf S x) w x ∧ con x = ss ∧ Strict (fun x y => cmpRow (con x) (con y)) zs ∧ isIn (fun x y => cmpRow (con x) (con y)) zs x = isIn cmpRow LL ss ∧ ∀ z ∈ zs, RowD S w z := by
  obtain ⟨con, zs, hc, hs, hl⟩ := h
  have ex := hc x ss hx.1
  refine ⟨con, zs, hc, ⟨hs.blk, hs.row, hs.apart, fun k hk => ?_, fun k hk hs' => ?_, rows_ord hc, fun z hz => ?_, hs.len⟩, hl, ⟨ss, hx.1, hx.2.1, fun a e => .inr ⟨a, e, rfl⟩⟩, ex, ?_, ?_, hs.all⟩
  · rcases hk with hk | ⟨a, e, rfl⟩
    · exact hs.inS k hk
    · exact hx.2.2 a e
  · rcases hs' with hs' | ⟨a, e, rfl⟩
    · exact hs.notS k hk hs'
    · exact ho a e hk
  · obtain ⟨sz, h1, h2, h3⟩ := hs.all z hz
    exact ⟨sz, h1, h2, fun a e => .inl (h3 a e)⟩
  · rw [← hl] at hst
    exact List.pairwise_map.1 hst
  · rw [← hl, ← ex]; simp [isIn, List.any_map, Function.comp_def]
theorem RowsAt.of_set' {S' : Nat → Prop} {w1 w2 : World} {con : RowZ → List ByteArray} {zs : List RowZ} {D : RowZ → Prop} (hc : ∀ x ss, ReadsAs w1 x ss → con x = ss) (hsame : Same S w1 w2) (hSS : ∀ k, S k → S' k)
    (h : SetAtRow Tryz.prog S' w2 b (.func (Fn.func 41) #[] #[]) iv [.int .i64 arity] 98 D (fun x y => cmpRow (con x) (con y)) zs) (hall : ∀ z ∈ zs, RowD S w1 z) : RowsAt S w2 b iv arity (zs.map con) := by
  obtain ⟨con', hc'⟩ := con_ex w2
  have all : ∀ z ∈ zs, RowD S w2 z ∧ con' z = con z := fun z hz => by
    obtain ⟨ss, h1, h2, h3⟩ := hall z hz
    have h1' := h1.same hsame h3
    exact ⟨⟨ss, h1', h2, h3⟩, by rw [hc' z ss h1', hc z ss h1]⟩
  exact ⟨con', zs, hc', ⟨h.blk, h.row, h.apart, fun k hk => h.inS k (hSS k hk), fun k ho hk => h.notS k ho (hSS k hk), rows_ord hc', fun z hz => (all z hz).1, h.len⟩, List.map_congr_left fun z hz => (all z hz).2⟩
set_option maxRecDepth 100000 in
theorem rowsDrop_s (h : RowsQ z S w b iv arity LL) (hst : Strict cmpRow LL) {ao : Option Addr} {n cap : Nat} {ss : List ByteArray} (hx : RowIn w (ao, n, cap) ss) (ho : RowOff (ao, n, cap) (Owns b iv)) :
    Calls Tryz.prog 119 #[.pointer (some ⟨b, 0, none⟩), .slice ao n cap] w (RetF (Owns b iv) w fun w' v => v = .tuple #[.bool (rowsDropR arity LL ss).1, .int .i64 ((rowsDropR arity LL ss).2 : Nat)] ∧
      ∃ iv', RowsQ z S w' b iv' arity (rowsDropL arity LL ss) ∧ iv'.ownBlock = iv.ownBlock) := by
  have hn : n = ss.length := hx.1.1
  have c2 := h.ar
  by_cases h1 : n = arity
  · have q1 : ((n : Int) != (arity : Int)) = false := by simp [h1]
    have HS := Lib.hid (rowsSet_q h); clear h
    have HX := Lib.hid (And.intro hst (And.intro hx ho)); clear hst hx ho
    have HN := Lib.hid (show ss.length = arity by omega)
    clear hn h1
    go_enter Tryz.func119, Tryz.ntmps119
    go_wp2_with fail
    refine HS.out.mono ?_
    rintro e w1 ⟨v, rfl, hk, rfl, h1⟩
    have hx1 := HX.out.2.1.kp hk (fun a e hf => HX.out.2.2 a e (.inl hf.2))
    obtain ⟨con, zs, hc, hs, hl, hd, ex, hz, e1, hall⟩ := h1.openS HX.out.1 hx1 HX.out.2.2
    have HF := Lib.hid (setDropRow_any (cmpRow_law con) (ao, n, cap) hd hz hs)
    rw [e1] at HF
    have HC := Lib.hid (And.intro hc (And.intro hl (And.intro ex (And.intro hs hall))))
    have HK := Lib.hid (And.intro hk h1)
    clear hc hs hl hd ex hz e1 hall hk h1 hx1 q1 c2
    go_wp2_with fail
    refine HF.out.mono ?_
    rintro e w2 ⟨v, rfl, hk2, rfl, iv', hs2, hiv⟩
    have HK2 := Lib.hid (And.intro hk2 (And.intro hs2 hiv)); clear hk2 hs2 hiv
    go_wp2
    go_ret2
    obtain ⟨hc, hl, ex, hs, hall⟩ := HC.out
    have hsame : Same S w1 w2 := HK2.out.1.same HK.out.2.inS fun k h1 h2 => HK.out.2.notS k h2 h1
    have hrows := RowsAt.of_set' hc hsame (fun k h => Or.inl h) HK2.out.2.1 fun z hz => hall z (mem_dropS hz)
    rw [← dropS_map con zs (ao, n, cap), hl, ex] at hrows
    refine RetF.mk ((HK.out.1.mono fun k _ h => FQ.owns k h).trans HK2.out.1) ⟨?_, iv', .inl ?_, HK2.out.2.2⟩
    · unfold rowsDropR; rw [if_neg (by rw [HN.out]; simp)]; rfl
    · unfold rowsDropL; rw [if_neg (by rw [HN.out]; simp)]; exact hrows
  · have q1 : ((n : Int) != (arity : Int)) = true := by rw [bne_iff_ne]; omega
    have H := Lib.hid h; clear h
    have HN := Lib.hid (show ss.length ≠ arity by omega)
    clear hst hx ho hn h1
    go_enter Tryz.func119, Tryz.ntmps119
    go_wp2
    go_ret2
    refine RetF.mk (Kp.refl _) ⟨?_, iv, ?_, rfl⟩
    · unfold rowsDropR; rw [if_pos HN.out]; rfl
    · unfold rowsDropL; rw [if_pos HN.out]; exact H.out
end
end Go.Proofs.YtfkhelihepbehaaGreat

/- tuple.Base: Drop. -/
namespace Go.Proofs.YtfkhelihepbehaaGreat
open Go.RowKit
set_option linter.unusedVariables false

/-- What Drop answers; what is there behind it. -/
def dropR (C : List CntZ) (s : ByteArray) (row : List ByteArray) : Bool × Nat := if namedC s = false then (false, 32) else match getC C s with
  | some v => rowsDropR v.1 v.2 row
  | none => (false, 0)
def dropC (C : List CntZ) (s : ByteArray) (row : List ByteArray) : List CntZ := if namedC s = false then C else match getC C s with
  | some v => setC C s (v.1, rowsDropL v.1 v.2 row)
  | none => C
theorem dropS_len {α : Type} {c : α → α → Int} (L : List α) (x : α) : (dropS c L x).length + (if isIn c L x = true then 1 else 0) = L.length := by
  unfold dropS
  cases hi : isIn c L x with
  | false => simp
  | true =>
    have hb : below c L x < L.length := by
      unfold below
      rw [List.length_filter_lt_length_iff_exists]
      unfold isIn at hi
      obtain ⟨y, hy, h0⟩ := List.any_eq_true.1 hi
      have h0' : c y x = 0 := by simpa using h0
      exact ⟨y, hy, by simp [h0']⟩
    simp only [if_true, List.length_append, List.length_take, List.length_drop]
    omega
theorem ok_drop {C : List CntZ} (h : BaseOk C) (s : ByteArray) (row : List ByteArray) : BaseOk (dropC C s row) := by
  unfold dropC
  split
  · exact h
  · cases hg : getC C s with
    | none => exact h
    | some v =>
      show BaseOk (setC C s (v.1, rowsDropL v.1 v.2 row))
      have hp := h.all _ ((getC_mem h.nodup).1 hg)
      have hle : (rowsDropL v.1 v.2 row).length ≤ v.2.length := by
        unfold rowsDropL
        split
        · exact Nat.le_refl _
        · have := dropS_len (c := cmpRow) v.2 row; omega
      have hmem : ∀ r ∈ rowsDropL v.1 v.2 row, r ∈ v.2 := fun r hr => by
        unfold rowsDropL at hr
        split at hr
        · exact hr
        · exact mem_dropS hr
      refine ⟨nodup_set h.nodup _ _, fun p hp' => ?_, ?_⟩
      · rcases mem_set hp' with rfl | hp'
        · refine ⟨hp.name, hp.ar, ?_, fun r hr => hp.len r (hmem r hr), fun r hr => hp.txt r (hmem r hr), Nat.le_trans hle hp.few⟩
          show Strict cmpRow (rowsDropL v.1 v.2 row)
          unfold rowsDropL
          split
          · exact hp.strict
          · exact hp.strict.drop cmpRow_ord row
        · exact h.all p hp'
      · have h1 := total_set h.nodup (s := s) (v := (v.1, rowsDropL v.1 v.2 row))
        rw [rows_some hg] at h1
        have h2 : (v.1, rowsDropL v.1 v.2 row).2.length ≤ v.2.length := hle
        have := h.few
        omega
section
variable {S : Nat → Prop} {w w3 : World} {bb r : Nat} {E : List Ent} {s : ByteArray} {ss : List ByteArray} {e : Ent} {iv' : Value}
def BaseDropped (S : Nat → Prop) (bb r : Nat) (E : List Ent) (s : ByteArray) (ss : List ByteArray) (w' : World) (v : Value) : Prop :=
  v = .tuple #[.bool (dropR (cntE E) s ss).1, .int .i64 ((dropR (cntE E) s ss).2 : Nat)] ∧ ∃ E', BaseAt S w' bb r E' ∧ cntE E' = dropC (cntE E) s ss ∧ ∀ k, OwnB bb r E' k → OwnB bb r E k
/-- What is left. -/
theorem baseDrop_turn (h : BaseAt S w bb r E) (he : findE E s = some e) (hn : namedC s = true) (hk : Kp e.own w w3) (hr : RowsAt S w3 e.b iv' e.ar (rowsDropL e.ar e.LL ss)) (hiv : iv'.ownBlock = e.iv.ownBlock) {n : Nat} {W : World} (hW : Kp (fun k => k = bb) w3 W)
    (hB : Blk W bb [.map (some r), .int .i64 (n : Nat)] 65) (en : n + (if (rowsDropR e.ar e.LL ss).1 = true then 1 else 0) = totalC (cntE E)) :
    ∃ E', BaseAt S W bb r E' ∧ cntE E' = dropC (cntE E) s ss ∧ ∀ k, OwnB bb r E' k → OwnB bb r E k := by
  obtain ⟨g1, g2⟩ := findE_rows he
  have hnd := h.ok.nodup
  have hmap := (h.map.kp hk fun ho => (h.off e (findE_some he).1 r ho).2 rfl).kp hW fun e2 => h.ne e2.symm
  obtain ⟨pre, post, rfl⟩ := findE_split he
  have hset := cntE_set he hnd iv' (rowsDropL e.ar e.LL ss)
  have hC : dropC (cntE (pre ++ e :: post)) s ss = cntE (pre ++ { e with iv := iv', LL := rowsDropL e.ar e.LL ss } :: post) := by
    unfold dropC
    rw [if_neg (by rw [hn]; simp), g1]
    exact hset
  have htot : n = totalC (cntE (pre ++ { e with iv := iv', LL := rowsDropL e.ar e.LL ss } :: post)) := by
    have h1 := total_set hnd (s := s) (v := (e.ar, rowsDropL e.ar e.LL ss))
    rw [hset, g2] at h1
    have h2 : (rowsDropL e.ar e.LL ss).length + (if (rowsDropR e.ar e.LL ss).1 = true then 1 else 0) = e.LL.length := by
      unfold rowsDropL rowsDropR
      split
      · simp
      · exact dropS_len (c := cmpRow) e.LL ss
    have h3 : (e.ar, rowsDropL e.ar e.LL ss).2.length = (rowsDropL e.ar e.LL ss).length := rfl
    omega
  refine ⟨_, h.turn hk (fun _ x => x) (fun _ x => .inl x) hr (fun k hk' => .inl (by rw [← hiv]; exact hk')) (hW.mono fun k _ ho => .inl ho) hmap hB htot (by rw [← hC]; exact ok_drop h.ok s ss), hC.symm, fun k ho => ?_⟩
  rcases ho with h1 | h1 | ⟨f, hf, ho⟩
  · exact .inl h1
  · exact .inr (.inl h1)
  · rcases List.mem_append.1 hf with hf | hf
    · exact .inr (.inr ⟨f, List.mem_append_left _ hf, ho⟩)
    · rcases List.mem_cons.1 hf with rfl | hf
      · refine .inr (.inr ⟨e, List.mem_append_right _ List.mem_cons_self, ?_⟩)
        rcases ho with ho | ho
        · exact .inl ho
        · exact .inr (by rw [← hiv]; exact ho)
      · exact .inr (.inr ⟨f, List.mem_append_right _ (List.mem_cons_of_mem _ hf), ho⟩)
set_option maxRecDepth 100000 in
set_option maxHeartbeats 2000000 in
theorem baseDrop_any (h : BaseAt S w bb r E) (s : ByteArray) {ao : Option Addr} {k cap : Nat} {ss : List ByteArray} (hx : RowIn w (ao, k, cap) ss) (ho : RowOff (ao, k, cap) (OwnB bb r E)) :
    Calls Tryz.prog 65 #[.pointer (some ⟨bb, 0, none⟩), .string s, .slice ao k cap] w (RetF (OwnB bb r E) w (BaseDropped S bb r E s ss)) := by
  have c0 : w.cell? ⟨bb, 0, none⟩ = some (.map (some r)) := by rw [h.blk.cell']; rfl
  have hlk := run_lookup_str (P := Tryz.prog) Tryz.underlying63 Tryz.underlying9 (z := .pointer none) (by kernel_rfl) h.map s
  rw [entM_get] at hlk
  have hnm := named_any s w
  rw [show decide (1 ≤ s.size ∧ s.size ≤ 4096) = namedC s from rfl] at hnm
  obtain ⟨n, en⟩ : ∃ n, totalC (cntE E) = n := ⟨_, rfl⟩
  have hnl : n ≤ 262144 := by rw [← en]; exact h.ok.few
  have H := Lib.hid (And.intro h en)
  have HX := Lib.hid (And.intro hx ho)
  clear h hx ho en
  cases hn : namedC s with
  | false =>
    rw [hn] at hnm
    have HN := Lib.hid hnm
    have HNM := Lib.hid hn
    clear hn hlk c0 hnm
    go_enter Tryz.func65, Tryz.ntmps65
    go_wp2_with fail
    refine HN.out.mono ?_
    rintro e w' ⟨rfl, rfl⟩
    go_wp2
    go_ret2
    exact RetF.mk (Kp.refl _) ⟨by unfold dropR; rw [if_pos HNM.out]; rfl, E, H.out.1, by unfold dropC; rw [if_pos HNM.out], fun _ h => h⟩
  | true =>
    rw [hn] at hnm
    have HN := Lib.hid hnm
    have HNM := Lib.hid hn
    clear hn hnm
    cases he : findE E s with
    | none =>
      rw [he] at hlk
      have hlk' : (Instr.lookup 63 (.map (some r)) (.string s) false).run Tryz.prog w = .ok (.pointer none) w := hlk
      have HE := Lib.hid (findE_none he).1
      clear he hlk
      go_enter Tryz.func65, Tryz.ntmps65
      go_wp2_with fail
      refine HN.out.mono ?_
      rintro e w' ⟨rfl, rfl⟩
      go_wp2
      go_ret2
      exact RetF.mk (Kp.refl _) ⟨by unfold dropR; rw [if_neg (by rw [HNM.out]; simp), HE.out]; rfl, E, H.out.1, by unfold dropC; rw [if_neg (by rw [HNM.out]; simp), HE.out], fun _ h => h⟩
    | some e0 =>
      rw [he] at hlk
      have HE := Lib.hid he
      obtain ⟨hem, hes⟩ := findE_some he
      obtain ⟨b0, eb0⟩ : ∃ b0, e0.b = b0 := ⟨_, rfl⟩
      have hlk' : (Instr.lookup 63 (.map (some r)) (.string s) false).run Tryz.prog w = .ok (.pointer (some ⟨b0, 0, none⟩)) w := by rw [← eb0]; exact hlk
      have hdr := rowsDrop_s (z := False) (H.out.1.rows e0 hem).q (H.out.1.strict hem) (ao := ao) (n := k) (cap := cap) (ss := ss) HX.out.1 fun a e hown => HX.out.2 a e (.inr (.inr ⟨e0, hem, hown⟩))
      rw [eb0] at hdr
      have hg := (findE_rows he).1
      have HG := Lib.hid (And.intro hg (And.intro hem eb0))
      have HDr := Lib.hid hdr
      clear he hlk hem hes hdr eb0 hg
      go_enter Tryz.func65, Tryz.ntmps65
      go_wp2_with fail
      refine HN.out.mono ?_
      rintro e w' ⟨rfl, rfl⟩
      go_wp2_with fail
      refine HDr.out.mono ?_
      rintro e w3 ⟨v, rfl, hk3, rfl, iv', hr3, hiv⟩
      have hr3' : RowsAt S w3 e0.b iv' e0.ar (rowsDropL e0.ar e0.LL ss) := by
        rw [HG.out.2.2]
        rcases hr3 with h1 | ⟨h1, _⟩
        · exact h1
        · exact h1.elim
      rw [← HG.out.2.2] at hk3
      have hb3 := baseBlk_own H.out.1 HE.out (Kp.refl w) hk3
      rw [H.out.2] at hb3
      have hR : dropR (cntE E) s ss = rowsDropR e0.ar e0.LL ss := by unfold dropR; rw [if_neg (by rw [HNM.out]; simp), HG.out.1]
      have HR := Lib.hid (And.intro hk3 (And.intro hr3' (And.intro hiv (And.intro hb3 hR))))
      have cb := hb3.cell 1 (by simp)
      have fb := hb3.free 1
      simp only [List.getElem_cons_succ, List.getElem_cons_zero] at cb
      clear hr3 hr3' hk3 hiv hb3 hR c0 hlk'
      obtain ⟨d, ed⟩ : ∃ d, (rowsDropR e0.ar e0.LL ss).2 = d := ⟨_, rfl⟩
      rw [ed]
      cases hwas : (rowsDropR e0.ar e0.LL ss).1 with
      | false =>
        have HW := Lib.hid (And.intro hwas ed)
        clear hwas ed
        go_wp2
        go_ret2
        refine RetF.mk (HR.out.1.mono fun k _ ho => .inr (.inr ⟨e0, HG.out.2.1, ho⟩)) ⟨by rw [HR.out.2.2.2.2, HW.out.1, HW.out.2]; rfl, ?_⟩
        exact baseDrop_turn H.out.1 HE.out HNM.out HR.out.1 HR.out.2.1 HR.out.2.2.1 (Kp.refl _) HR.out.2.2.2.1 (by rw [HW.out.1, H.out.2]; simp)
      | true =>
        have hpos : 1 ≤ n := by
          have h1 := total_set H.out.1.ok.nodup (s := s) (v := (e0.ar, ([] : List (List ByteArray))))
          rw [rows_some HG.out.1, H.out.2] at h1
          have h2 : 1 ≤ e0.LL.length := by
            unfold rowsDropR at hwas
            split at hwas
            · cases hwas
            · have := dropS_len (c := cmpRow) e0.LL ss
              rw [if_pos hwas] at this
              omega
          have h3 : (e0.ar, e0.LL).2.length = e0.LL.length := rfl
          have h4 : (e0.ar, ([] : List (List ByteArray))).2.length = 0 := rfl
          omega
        have HW := Lib.hid (And.intro hwas ed)
        clear hwas ed
        obtain ⟨n', rfl⟩ : ∃ n', n = n' + 1 := ⟨n - 1, by omega⟩
        go_wp2
        go_ret2
        have hbn := HR.out.2.2.2.1.set 1 (.int .i64 (n' : Nat))
        refine RetF.mk ((HR.out.1.mono fun k _ ho => .inr (.inr ⟨e0, HG.out.2.1, ho⟩)).trans (Kp.setCell (F := OwnB bb r E) (Kp.refl w3) (p := ⟨bb, 1, none⟩) (fun _ => .inl rfl) _)) ⟨by rw [HR.out.2.2.2.2, HW.out.1, HW.out.2]; rfl, ?_⟩
        exact baseDrop_turn H.out.1 HE.out HNM.out HR.out.1 HR.out.2.1 HR.out.2.2.1 (Kp.setCell (F := fun k => k = bb) (Kp.refl w3) (p := ⟨bb, 1, none⟩) (fun _ => rfl) _) hbn (by rw [HW.out.1, H.out.2]; simp)
end
end Go.Proofs.YtfkhelihepbehaaGreat

/- Bases merged, in plain Lean. No program in sight. -/
namespace Go.Proofs.YtfkhelihepbehaaGreat
set_option linter.unusedVariables false

/-- Is there a name under which the two have rows of unlike length? -/
def clashC (C D : List CntZ) : Bool := D.any fun p => match getC C p.1 with
  | some v => decide (v.1 ≠ p.2.1)
  | none => false
/-- One's rows and the other's. -/
def unionL (C : List CntZ) (p : CntZ) : Rows2 := match getC C p.1 with
  | some v => newS cmpRow (v.2 ++ p.2.2)
  | none => p.2.2
def bothC (C : List CntZ) (p : CntZ) : CntZ := (p.1, p.2.1, unionL C p)
def onlyC (C D : List CntZ) : List CntZ := C.filter fun p => (getC D p.1).isNone
def mergeL (C D : List CntZ) : List CntZ := onlyC C D ++ D.map (bothC C)
def mergeR (C D : List CntZ) : Nat := if clashC C D = true then 30 else if D.any (fun p => decide (65536 < (unionL C p).length)) = true then 4 else if 262144 < totalC (mergeL C D) then 4 else 0
theorem clash_perm {C C' D D' : List CntZ} (h : ∀ s, getC C s = getC C' s) (h2 : D.Perm D') : clashC C D = clashC C' D' := by
  rw [Bool.eq_iff_iff]
  unfold clashC
  simp only [List.any_eq_true, h, h2.mem_iff]
theorem merge_names {C D : List CntZ} (hC : (C.map (·.1)).Nodup) (hD : (D.map (·.1)).Nodup) : ((mergeL C D).map (·.1)).Nodup := by
  unfold mergeL
  rw [List.map_append, List.map_map]
  have e : (D.map ((fun p : CntZ => p.1) ∘ bothC C)) = D.map (·.1) := List.map_congr_left fun p _ => rfl
  rw [e]
  refine List.nodup_append.2 ⟨hC.sublist ((List.filter_sublist).map _), hD, fun a ha b hb e2 => ?_⟩
  subst e2
  obtain ⟨p, hp, rfl⟩ := List.mem_map.1 ha
  unfold onlyC at hp
  obtain ⟨_, h2⟩ := List.mem_filter.1 hp
  have h3 : getC D p.1 = none := by
    cases hg : getC D p.1 with
    | none => rfl
    | some v => rw [hg] at h2; cases h2
  exact getC_none.1 h3 hb
theorem merge_ok {C D : List CntZ} (hC : BaseOk C) (hD : BaseOk D) (h : mergeR C D = 0) : BaseOk (mergeL C D) := by
  unfold mergeR at h
  split at h
  · cases h
  · rename_i h1
    split at h
    · cases h
    · rename_i h2
      split at h
      · cases h
      · rename_i h3
        refine ⟨merge_names hC.nodup hD.nodup, fun p hp => ?_, by omega⟩
        unfold mergeL at hp
        rcases List.mem_append.1 hp with hp | hp
        · exact hC.all p (List.mem_filter.1 hp).1
        · obtain ⟨q, hq, rfl⟩ := List.mem_map.1 hp
          have hq' := hD.all q hq
          have hlen : (unionL C q).length ≤ 65536 := by
            have h4 : ¬ (D.any (fun p => decide (65536 < (unionL C p).length)) = true) := h2
            rw [List.any_eq_true] at h4
            have h5 : ¬ 65536 < (unionL C q).length := fun h6 => h4 ⟨q, hq, decide_eq_true h6⟩
            omega
          cases hg : getC C q.1 with
          | none =>
            have e : unionL C q = q.2.2 := by unfold unionL; rw [hg]
            refine ⟨hq'.name, hq'.ar, ?_, ?_, ?_, hlen⟩
            · show Strict cmpRow (unionL C q); rw [e]; exact hq'.strict
            · show ∀ r ∈ unionL C q, _; rw [e]; exact hq'.len
            · show ∀ r ∈ unionL C q, _; rw [e]; exact hq'.txt
          | some v =>
            have e : unionL C q = newS cmpRow (v.2 ++ q.2.2) := by unfold unionL; rw [hg]
            have hv := hC.all _ ((getC_mem hC.nodup).1 hg)
            have har : v.1 = q.2.1 := by
              have h6 : ¬ clashC C D = true := h1
              unfold clashC at h6
              rw [List.any_eq_true] at h6
              by_cases h7 : v.1 = q.2.1
              · exact h7
              · exact absurd ⟨q, hq, by rw [hg]; exact decide_eq_true h7⟩ h6
            have hmem : ∀ r ∈ unionL C q, r ∈ v.2 ∨ r ∈ q.2.2 := fun r hr => by
              rw [e] at hr
              exact List.mem_append.1 ((mem_newS cmpRow_ord cmpRow_tight).1 hr)
            refine ⟨hq'.name, hq'.ar, ?_, fun r hr => ?_, fun r hr => ?_, hlen⟩
            · show Strict cmpRow (unionL C q); rw [e]; exact Strict.new cmpRow_ord _
            · rcases hmem r hr with h8 | h8
              · exact (hv.len r h8).trans har
              · exact hq'.len r h8
            · rcases hmem r hr with h8 | h8
              · exact hv.txt r h8
              · exact hq'.txt r h8
end Go.Proofs.YtfkhelihepbehaaGreat

/- Bases merged, in plain Lean: merged name by name, or told of one relation after the other: the same. No program in sight. -/
namespace Go.Proofs.YtfkhelihepbehaaGreat
set_option linter.unusedVariables false

/-- A base's relations as they stand. -/
def relsD (D : List CntZ) : List RelZ := D.map fun p => (p.1, (p.2.1 : Int), p.2.2, ())
/-- Of one's names no other length. -/
def Agree (C : List CntZ) (L : List RelZ) : Prop := ∀ r ∈ L, ∀ v, getC C r.1 = some v → (v.1 : Int) = r.2.1
/-- A relation that may be. -/
structure RelOk (r : RelZ) : Prop where
  name : namedC r.1 = true
  ar : 0 ≤ r.2.1 ∧ r.2.1 ≤ 64
  rows : ∀ x ∈ r.2.2.1, (x.length : Int) = r.2.1 ∧ textsC x = true
theorem decl_ok0 {C : List CntZ} {r : RelZ} (h : RelOk r) (hv : ∀ v, getC C r.1 = some v → (v.1 : Int) = r.2.1) : declR C r.1 r.2.1 = 0 := by
  unfold declR
  rw [if_neg (by rw [h.name]; simp), if_neg (by have := h.ar; omega)]
  cases hg : getC C r.1 with
  | none => rfl
  | some v => simp [hv v hg]
theorem add_ok4 {C : List CntZ} {s : ByteArray} {x : List ByteArray} (hn : namedC s = true) (ha : arOk C s x = true) (ht : textsC x = true) : (addR C s x).2 = 0 ∨ (addR C s x).2 = 4 := by
  unfold addR
  rw [if_neg (by rw [hn]; simp), if_neg (by rw [ha]; simp), if_neg (by rw [ht]; simp)]
  split
  · exact .inr rfl
  · split
    · exact .inr rfl
    · exact .inl rfl
theorem all_err {s : ByteArray} {a : Int} (hn : namedC s = true) : ∀ {rs : Rows2} {C : List CntZ}, BaseOk C → (∃ v, getC C s = some v ∧ (v.1 : Int) = a) → (∀ x ∈ rs, (x.length : Int) = a ∧ textsC x = true) → (addAll C s rs).2 = 0 ∨ (addAll C s rs).2 = 4
  | [], C, _, _, _ => .inl rfl
  | x :: rs, C, hC, ⟨v, hv, hva⟩, hx => by
    obtain ⟨h1, h2⟩ := hx x (List.mem_cons_self ..)
    have hao : arOk C s x = true := by
      unfold arOk
      rw [hv]
      exact decide_eq_true (by omega)
    unfold addAll
    split
    · rename_i h0
      have har := arity_add hC (t := s) h0 ⟨v, hv⟩
      rw [hv] at har
      obtain ⟨u, hu, hue⟩ := map_some har
      exact all_err hn (ok_add hC s x) ⟨u, hu, by rw [← hva, hue]⟩ fun y hy => hx y (List.mem_cons_of_mem _ hy)
    · rename_i h0
      rcases add_ok4 hn hao h2 with h3 | h3
      · exact absurd h3 h0
      · exact .inr h3
theorem from_err4 {L0 : List RelZ} (hcon : ∀ r ∈ L0, ∀ q ∈ L0, r.1 = q.1 → r.2.1 = q.2.1) (hok : ∀ r ∈ L0, RelOk r) : ∀ {L : List RelZ} {C : List CntZ}, BaseOk C → (∀ r ∈ L, r ∈ L0) → Agree C L0 → (fromC C L).2 = 0 ∨ (fromC C L).2 = 4
  | [], C, _, _, _ => .inl rfl
  | r :: L, C, hC, hL, hA => by
    have hr := hL r (List.mem_cons_self ..)
    have hro := hok r hr
    have hd := decl_ok0 hro (hA r hr)
    obtain ⟨LL, hg, h0, h64, _⟩ := decl_ar hd
    have hex : ∃ v, getC (declC C r.1 r.2.1) r.1 = some v ∧ (v.1 : Int) = r.2.1 := ⟨_, hg, by show ((r.2.1.toNat : Nat) : Int) = _; omega⟩
    have hall := all_err hro.name (ok_decl hC r.1 r.2.1) hex hro.rows
    unfold fromC
    rw [if_pos hd]
    split
    · rename_i h1
      refine from_err4 hcon hok (ok_all (ok_decl hC r.1 r.2.1)) (fun q hq => hL q (List.mem_cons_of_mem _ hq)) fun q hq v hv => ?_
      obtain ⟨_, a2⟩ := all_res (ok_decl hC r.1 r.2.1) ⟨_, hg⟩ h1
      have h2 := a2 q.1
      rw [hv] at h2
      have h3 : (getC (declC C r.1 r.2.1) q.1).map (·.1) = some v.1 := by rw [← h2]; rfl
      obtain ⟨u, hu, hue⟩ := map_some h3
      rw [getC_decl hd] at hu
      split at hu
      · rename_i h4
        injection hu with hu
        have h5 := hcon r hr q hq h4.1
        rw [← hue, ← hu]
        show ((r.2.1.toNat : Nat) : Int) = _
        omega
      · rw [← hue]; exact hA q hq u hu
    · rename_i h1
      rcases hall with h | h
      · exact absurd h h1
      · exact .inr h
theorem agree_decl {C : List CntZ} {L0 : List RelZ} (hcon : ∀ r ∈ L0, ∀ q ∈ L0, r.1 = q.1 → r.2.1 = q.2.1) {r : RelZ} (hr : r ∈ L0) (hA : Agree C L0) (hd : declR C r.1 r.2.1 = 0) : Agree (declC C r.1 r.2.1) L0 := fun q hq v hv => by
  obtain ⟨LL, _, h0, _⟩ := decl_ar hd
  rw [getC_decl hd] at hv
  split at hv
  · rename_i h4
    injection hv with hv
    have h5 := hcon r hr q hq h4.1
    rw [← hv]
    show ((r.2.1.toNat : Nat) : Int) = _
    omega
  · exact hA q hq v hv
theorem agree_add {C : List CntZ} {L0 : List RelZ} {s : ByteArray} {x : List ByteArray} (hC : BaseOk C) (hA : Agree C L0) (h0 : (addR C s x).2 = 0) (hs : ∃ v, getC C s = some v) : Agree (addC C s x) L0 := fun q hq v hv => by
  have h := arity_add hC (t := q.1) h0 hs
  rw [hv] at h
  obtain ⟨u, hu, hue⟩ := map_some h.symm
  have hue' : u.1 = v.1 := hue
  rw [← hue']; exact hA q hq u hu
theorem rels_con {D : List CntZ} (hD : BaseOk D) : ∀ r ∈ relsD D, ∀ q ∈ relsD D, r.1 = q.1 → r.2.1 = q.2.1 := fun r hr q hq e => by
  obtain ⟨p, hp, rfl⟩ := List.mem_map.1 hr
  obtain ⟨p', hp', rfl⟩ := List.mem_map.1 hq
  have h1 : getC D p.1 = some p.2 := (getC_mem hD.nodup).2 hp
  have h2 : getC D p'.1 = some p'.2 := (getC_mem hD.nodup).2 hp'
  have e' : p.1 = p'.1 := e
  rw [e', h2] at h1
  injection h1 with h1
  show (p.2.1 : Int) = (p'.2.1 : Int)
  rw [h1]
theorem rels_ok {D : List CntZ} (hD : BaseOk D) : ∀ r ∈ relsD D, RelOk r := fun r hr => by
  obtain ⟨p, hp, rfl⟩ := List.mem_map.1 hr
  have hpo := hD.all p hp
  exact ⟨hpo.name, ⟨by simp, by have := hpo.ar; show ((p.2.1 : Nat) : Int) ≤ 64; omega⟩, fun x hx => ⟨by rw [hpo.len x hx], hpo.txt x hx⟩⟩
theorem getC_merge {C D : List CntZ} (hC : (C.map (·.1)).Nodup) (hD : (D.map (·.1)).Nodup) (s : ByteArray) : getC (mergeL C D) s = match getC D s with
    | some v => some (v.1, unionL C (s, v))
    | none => getC C s := by
  have hM := merge_names hC hD
  cases hg : getC D s with
  | some v =>
    refine (getC_mem hM).2 ?_
    unfold mergeL
    exact List.mem_append_right _ (List.mem_map.2 ⟨(s, v), (getC_mem hD).1 hg, rfl⟩)
  | none =>
    apply Option.ext
    intro v
    show getC (mergeL C D) s = some v ↔ getC C s = some v
    rw [getC_mem hM, getC_mem hC]
    unfold mergeL onlyC
    rw [List.mem_append, List.mem_filter, List.mem_map]
    constructor
    · rintro (h | ⟨q, hq, e⟩)
      · exact h.1
      · have : q.1 = s := congrArg Prod.fst e
        exact absurd (List.mem_map.2 ⟨q, hq, this⟩) (getC_none.1 hg)
    · intro h
      exact .inl ⟨h, by rw [hg]; rfl⟩
theorem same_to_perm {C D : List CntZ} (hC : (C.map (·.1)).Nodup) (hD : (D.map (·.1)).Nodup) (h : SameC C D) : C.Perm D := by
  have nd : ∀ {X : List CntZ}, (X.map (·.1)).Nodup → X.Nodup := fun {X} hX => (List.pairwise_map.1 hX).imp fun h e => h (by rw [e])
  refine (List.perm_ext_iff_of_nodup (nd hC) (nd hD)).2 fun p => ?_
  have h1 := getC_mem hC (s := p.1) (v := p.2)
  have h2 := getC_mem hD (s := p.1) (v := p.2)
  rw [h p.1] at h1
  exact h1.symm.trans h2
theorem clash_ar {C D : List CntZ} (hD : (D.map (·.1)).Nodup) (h : clashC C D = false) {s : ByteArray} {u v : Nat × Rows2} (hu : getC C s = some u) (hv : getC D s = some v) : u.1 = v.1 := by
  have hm := (getC_mem hD).1 hv
  unfold clashC at h
  rw [List.any_eq_false] at h
  have := h (s, v) hm
  simp only [hu] at this
  simpa using this
theorem union_spec {C D : List CntZ} (hC : BaseOk C) (hD : BaseOk D) {s : ByteArray} {v : Nat × Rows2} (hv : getC D s = some v) : Strict cmpRow (unionL C (s, v)) ∧ ∀ x, x ∈ unionL C (s, v) ↔ x ∈ rowsC C s ∨ x ∈ v.2 := by
  have hvs := (hD.all _ ((getC_mem hD.nodup).1 hv)).strict
  unfold unionL
  cases hu : getC C s with
  | none =>
    refine ⟨hvs, fun x => ?_⟩
    rw [rows_none hu]
    simp
  | some u =>
    refine ⟨Strict.new cmpRow_ord _, fun x => ?_⟩
    rw [rows_some hu]
    show x ∈ newS cmpRow (u.2 ++ v.2) ↔ _
    rw [mem_newS cmpRow_ord cmpRow_tight, List.mem_append]
theorem agree_start {C D : List CntZ} (hD : BaseOk D) (h : clashC C D = false) : Agree C (relsD D) := fun r hr v hv => by
  obtain ⟨p, hp, rfl⟩ := List.mem_map.1 hr
  rw [clash_ar hD.nodup h hv ((getC_mem hD.nodup).2 hp)]
theorem merge_in {C D : List CntZ} (hC : BaseOk C) (hD : BaseOk D) (h : clashC C D = false) : InC C (mergeL C D) ∧ ∀ r ∈ relsD D, 0 ≤ r.2.1 ∧ (∃ LL, getC (mergeL C D) r.1 = some (r.2.1.toNat, LL)) ∧ ∀ x ∈ r.2.2.1, x ∈ rowsC (mergeL C D) r.1 := by
  have hg := getC_merge hC.nodup hD.nodup
  refine ⟨⟨fun s v hv => ?_, fun s x hx => ?_⟩, fun r hr => ?_⟩
  · rw [hg s]
    cases hd : getC D s with
    | none => exact ⟨v.2, hv⟩
    | some u => exact ⟨unionL C (s, u), by rw [clash_ar hD.nodup h hv hd]⟩
  · cases hd : getC D s with
    | none =>
      have : getC (mergeL C D) s = getC C s := by rw [hg s, hd]
      unfold rowsC at hx ⊢
      rw [this]; exact hx
    | some u =>
      have : getC (mergeL C D) s = some (u.1, unionL C (s, u)) := by rw [hg s, hd]
      rw [rows_some this]
      exact ((union_spec hC hD hd).2 x).2 (.inl hx)
  · obtain ⟨p, hp, rfl⟩ := List.mem_map.1 hr
    have hd : getC D p.1 = some p.2 := (getC_mem hD.nodup).2 hp
    have : getC (mergeL C D) p.1 = some (p.2.1, unionL C (p.1, p.2)) := by rw [hg p.1, hd]
    refine ⟨by simp, ⟨_, by simpa using this⟩, fun x hx => ?_⟩
    rw [rows_some this]
    exact ((union_spec hC hD hd).2 x).2 (.inr hx)
theorem merge_from {C D : List CntZ} (hC : BaseOk C) (hD : BaseOk D) (h : clashC C D = false) : (fromC C (relsD D)).2 = mergeR C D ∧ (mergeR C D = 0 → SameC (fromC C (relsD D)).1 (mergeL C D)) := by
  have hg := getC_merge hC.nodup hD.nodup
  have hM := merge_names hC.nodup hD.nodup
  obtain ⟨hin, hrel⟩ := merge_in hC hD h
  have hokr : ∀ r ∈ relsD D, RelOk r := fun r hr => by
    obtain ⟨p, hp, rfl⟩ := List.mem_map.1 hr
    have hpo := hD.all p hp
    exact ⟨hpo.name, ⟨by simp, by have := hpo.ar; show ((p.2.1 : Nat) : Int) ≤ 64; omega⟩, fun x hx => ⟨by rw [hpo.len x hx], hpo.txt x hx⟩⟩
  have hnames : ∀ r ∈ relsD D, ∃ v, getC D r.1 = some v ∧ r.2.1 = (v.1 : Int) ∧ r.2.2.1 = v.2 := fun r hr => by
    obtain ⟨p, hp, rfl⟩ := List.mem_map.1 hr
    exact ⟨p.2, (getC_mem hD.nodup).2 hp, rfl, rfl⟩
  have herr := from_err4 (L0 := relsD D) (fun r hr q hq e => by
    obtain ⟨v, hv, e1, _⟩ := hnames r hr
    obtain ⟨u, hu, e2, _⟩ := hnames q hq
    rw [e, hu] at hv
    cases hv
    rw [e1, e2]) hokr hC (fun r hr => hr) fun r hr v hv => by
      obtain ⟨u, hu, e2, _⟩ := hnames r hr
      rw [clash_ar hD.nodup h hv hu, e2]
  have hR4 : mergeR C D = 0 ∨ mergeR C D = 4 := by
    unfold mergeR
    rw [if_neg (by rw [h]; simp)]
    split
    · exact .inr rfl
    · split
      · exact .inr rfl
      · exact .inl rfl
  have hsame : (fromC C (relsD D)).2 = 0 → SameC (fromC C (relsD D)).1 (mergeL C D) := fun h0 s => by
    obtain ⟨r1, r2, r3, r4⟩ := from_res hC h0
    have hRo := ok_from (L := relsD D) hC
    rw [hg s]
    cases hd : getC D s with
    | some v =>
      have hmem : (s, (v.1 : Int), v.2, ()) ∈ relsD D := List.mem_map.2 ⟨(s, v), (getC_mem hD.nodup).1 hd, rfl⟩
      obtain ⟨_, LL, hLL⟩ := r3 _ hmem
      have hLL' : getC (fromC C (relsD D)).1 s = some (v.1, LL) := by simpa using hLL
      have hst : Strict cmpRow LL := (hRo.all _ ((getC_mem hRo.nodup).1 hLL')).strict
      obtain ⟨u1, u2⟩ := union_spec hC hD hd
      have : LL = unionL C (s, v) := hst.unique cmpRow_ord u1 fun x => by
        rw [u2 x]
        have := r1 s x
        rw [rows_some hLL'] at this
        rw [show (x ∈ LL) = (x ∈ (v.1, LL).2) from rfl, this]
        constructor
        · rintro (h1 | ⟨r, hr, e, hx⟩)
          · exact .inl h1
          · obtain ⟨u, hu, _, e2⟩ := hnames r hr
            rw [e, hd] at hu
            cases hu
            rw [e2] at hx
            exact .inr hx
        · rintro (h1 | h1)
          · exact .inl h1
          · exact .inr ⟨_, hmem, rfl, h1⟩
      rw [hLL', this]
    | none =>
      have hnr : ∀ r ∈ relsD D, r.1 ≠ s := fun r hr e => by
        obtain ⟨u, hu, _⟩ := hnames r hr
        rw [e, hd] at hu; cases hu
      cases hc : getC C s with
      | none =>
        cases hr : getC (fromC C (relsD D)).1 s with
        | none => rfl
        | some v =>
          rcases r4 s v hr with ⟨u, hu⟩ | ⟨r, hr2, e⟩
          · rw [hc] at hu; cases hu
          · exact absurd e (hnr r hr2)
      | some v =>
        obtain ⟨LL, hLL⟩ := r2 s v hc
        have hst : Strict cmpRow LL := (hRo.all _ ((getC_mem hRo.nodup).1 hLL)).strict
        have hst2 : Strict cmpRow v.2 := (hC.all _ ((getC_mem hC.nodup).1 hc)).strict
        have : LL = v.2 := hst.unique cmpRow_ord hst2 fun x => by
          have := r1 s x
          rw [rows_some hLL, rows_some hc] at this
          rw [show (x ∈ LL) = (x ∈ (v.1, LL).2) from rfl, this]
          constructor
          · rintro (h1 | ⟨r, hr, e, _⟩)
            · exact h1
            · exact absurd e (hnr r hr)
          · exact .inl
        rw [hLL, this]
  refine ⟨?_, fun h0 => hsame ?_⟩
  · rcases herr with he | he
    · have hs := hsame he
      have hRo := ok_from (L := relsD D) hC
      have hp := same_to_perm hRo.nodup hM hs
      have hMo := perm_ok hp hRo
      rw [he]
      unfold mergeR
      rw [if_neg (by rw [h]; simp), if_neg, if_neg (by have := hMo.few; omega)]
      rw [List.any_eq_true]
      rintro ⟨p, hp, hlt⟩
      have hlt' := of_decide_eq_true hlt
      have hd : getC D p.1 = some p.2 := (getC_mem hD.nodup).2 hp
      have hgm : getC (mergeL C D) p.1 = some (p.2.1, unionL C (p.1, p.2)) := by rw [hg p.1, hd]
      have h9 := (hMo.all _ ((getC_mem hM).1 hgm)).few
      have h10 : (unionL C (p.1, p.2)).length ≤ 65536 := h9
      have h11 : unionL C p = unionL C (p.1, p.2) := rfl
      rw [h11] at hlt'
      omega
    · rcases hR4 with h0 | h4
      · have := (from_in (merge_ok hC hD h0) hC hin hrel).1
        rw [he] at this; cases this
      · rw [he, h4]
  · exact (from_in (merge_ok hC hD h0) hC hin hrel).1
end Go.Proofs.YtfkhelihepbehaaGreat

/- tuple.Base: Names: the keys of a map, collected and sorted. -/
namespace Go.Proofs.YtfkhelihepbehaaGreat
open Go.RowKit Go.Maps Go.Sort Go.Shelf
open Go.WideElems (Fit rd rg rd_mk rg_of)
set_option linter.unusedVariables false

def encT : ByteArray → Value := Value.string
/-- A map with text keys, as the kit holds it. -/
theorem mapKeys {w : World} {r : Nat} {m : List (ByteArray × Value)} (hm : MapIs w r m) (hk : ∀ p ∈ m, p.1.size ≤ maxLen) (hl : m.length ≤ maxLen) :
    ∃ D0 : DataW Nat, w.ownsMap Tryz.prog 9 (fun _ => some (.nil, [])) r m.length D0 ∧ (strKeys D0).Perm (m.map fun p => p.1.data.toList) ∧ Maps.size D0 = m.length := by
  obtain ⟨es, c, h1, h2, h3, h4⟩ := hm
  have hlen : es.size = m.length := by simpa using congrArg List.length h2
  have hrd : ∀ x ∈ es.toList, ∃ p ∈ m, x.key = .string p.1 ∧ rd Tryz.prog 9 (fun _ => some ((.nil : DataW Nat), [])) x = some (.string p.1.data.toList, .nil) := fun x hx => by
    have h5 : (x.key, x.val) ∈ es.toList.map (fun e => (e.key, e.val)) := List.mem_map.2 ⟨x, hx, rfl⟩
    rw [h2] at h5
    obtain ⟨p, hp, e⟩ := List.mem_map.1 h5
    have e1 : x.key = .string p.1 := (congrArg Prod.fst e).symm
    refine ⟨p, hp, e1, ?_⟩
    have hkey : keyOf Tryz.prog 9 x.key = some (.string p.1.data.toList) := by
      rw [e1]
      simp [keyOf, mapKey, Tryz.underlying9, hk p hp]
    have := rd_mk (P := Tryz.prog) (k := 9) (R := fun _ => some ((.nil : DataW Nat), [])) (born := x.born) (val := x.val) hkey rfl
    exact this
  refine ⟨_, ⟨es, c, h1, ⟨by omega, h4, fun x hx => ?_⟩, by omega, rfl⟩, ?_, ?_⟩
  · obtain ⟨p, _, _, h⟩ := hrd x hx
    exact ⟨_, h⟩
  · show (((es.toList.map (rg Tryz.prog 9 (fun _ => some ((.nil : DataW Nat), [])))).foldr DataW.insert []).map fun p => strOf p.1).Perm _
    refine ((WideShapes.sorted_perm _).map _).trans ?_
    rw [List.map_map]
    have e : es.toList.map ((fun p : Lit × DataW Nat => strOf p.1) ∘ rg Tryz.prog 9 (fun _ => some ((.nil : DataW Nat), []))) = m.map fun p => p.1.data.toList := by
      have h6 : es.toList.map ((fun p : Lit × DataW Nat => strOf p.1) ∘ rg Tryz.prog 9 (fun _ => some ((.nil : DataW Nat), []))) = es.toList.map fun x => (match x.key with | .string s => s.data.toList | _ => []) := by
        apply List.map_congr_left
        intro x hx
        obtain ⟨p, hp, e1, h7⟩ := hrd x hx
        simp only [Function.comp, rg_of h7, e1, strOf]
      rw [h6]
      have h8 := congrArg (fun l => l.map fun p : Value × Value => (match p.1 with | .string s => s.data.toList | _ => [])) h2
      simp only [List.map_map] at h8
      exact h8
    rw [e]
  · show ((es.toList.map _).foldr DataW.insert []).length = _
    rw [(WideShapes.sorted_perm _).length_eq, List.length_map, Array.length_toList]; exact hlen
/-- A row that the kit holds, as ours. -/
theorem row_of_owns {w : World} {base : Nat} {e : TypeId} {k n : Nat} {v : Value} {xs : List Value} (h : w.ownsRow base e k v n xs) : Row w e k v n xs (fun g => base ≤ g) := by
  obtain ⟨h1, h2 | ⟨g, cap, cur, rfl, hb, hg, hn, hc, hs, ht⟩⟩ := h
  · exact ⟨h1, .inl h2⟩
  · refine ⟨h1, .inr ⟨g, cap, cur.toList.drop (n * k), rfl, hb, ?_, ?_, hn, hc⟩⟩
    · rw [← ht, List.take_append_drop]
      unfold Blk
      rw [Array.toArray_toList]; exact hg
    · rw [← ht, List.take_append_drop, Array.length_toList]; exact hs
theorem swoN : SWO (ltOf cmpN) where
  irrefl x := by unfold ltOf; rw [decide_eq_false_iff_not, cmpN_ord.refl]; omega
  trans x y z h1 h2 := by
    unfold ltOf at *
    rw [decide_eq_true_eq] at *
    exact cmpN_ord.lt_trans h1 (by omega)
  ntrans x y z h1 h2 := by
    unfold ltOf at *
    rw [decide_eq_false_iff_not] at *
    have h3 := cmpN_ord.le_of h1
    have h4 := cmpN_ord.le_of h2
    have h5 := cmpN_ord.trans z y x h4 h3
    intro h6
    exact cmpN_ord.asymm h6 (by
      rcases Int.lt_or_eq_of_le h5 with h7 | h7
      · exact h7
      · have := cmpN_ord.zero h7; omega)
theorem totN (x y : ByteArray) (h1 : ltOf cmpN x y = false) (h2 : ltOf cmpN y x = false) : x = y := by
  unfold ltOf at *
  rw [decide_eq_false_iff_not] at *
  have h3 := cmpB_swap x.toList y.toList
  unfold cmpN at *
  exact toList_inj (cmpB_zero (by omega))
/-- A row whose cells were put anew. -/
theorem sortWorld_row {w : World} {blk : Nat} {xs ys : List ByteArray} {rest : List Value} {e : TypeId} (hB : Blk w blk (strs xs ++ rest) e) (hl : ys.length = xs.length) (n : Nat) (os : Array Obj) :
    Blk (sortWorld encT w blk 0 n ys.toArray os) blk (strs ys ++ rest) e ∧ Kp (fun k => k = blk) w (sortWorld encT w blk 0 n ys.toArray os) := by
  have hlt := hB.lt
  have hsz : (putRow encT (Sort.ahead w n) blk 0 ys.toArray).heap.size = w.heap.size := by simp [putRow, mapBlock, Sort.ahead]
  have hcells : putCells encT 0 ys.toArray (strs xs ++ rest).toArray = (strs ys ++ rest).toArray := by
    apply Array.ext_getElem?
    intro j
    unfold putCells
    rw [Array.getElem?_mapIdx]
    simp only [List.getElem?_toArray, Nat.zero_le, true_and, Nat.zero_add, Nat.sub_zero, List.size_toArray]
    by_cases hj : j < ys.length
    · have h1 : (strs ys ++ rest)[j]? = some (.string ys[j]) := by
        rw [List.getElem?_append_left (by rw [strs_len]; exact hj)]; exact strs_get? ys j hj
      have h2 : j < (strs xs ++ rest).length := by rw [List.length_append, strs_len]; omega
      rw [h1, List.getElem?_eq_getElem h2, Option.map_some, if_pos hj]
      congr 1
      show encT _ = _
      rw [getElem!_pos _ j (by simpa using hj)]
      simp [encT]
    · have h1 : (strs ys ++ rest)[j]? = (strs xs ++ rest)[j]? := by
        rw [List.getElem?_append_right (by rw [strs_len]; omega), List.getElem?_append_right (by rw [strs_len]; omega), strs_len, strs_len, hl]
      rw [h1]
      cases (strs xs ++ rest)[j]? with
      | none => rfl
      | some u => simp [hj]
  have hblk : (putRow encT (Sort.ahead w n) blk 0 ys.toArray).heap[blk]? = some (.cells (strs ys ++ rest).toArray e (0, 0)) := by
    unfold Blk at hB
    simp only [putRow, mapBlock, Sort.ahead, Array.getElem?_modify, if_pos, hB, Option.map_some, onCells, hcells]
  constructor
  · unfold Blk sortWorld
    rw [heap_grow_old _ _ (by rw [hsz]; exact hlt)]; exact hblk
  · refine ⟨rfl, rfl, rfl, ?_, fun k hk hne => ?_⟩
    · simp [sortWorld, grow, putRow, mapBlock, Sort.ahead]
    · unfold sortWorld
      rw [heap_grow_old _ _ (by rw [hsz]; exact hk)]
      simp only [putRow, mapBlock, Sort.ahead, Array.getElem?_modify]
      rw [if_neg (fun e => hne e.symm)]
theorem cmp_lays (blk size : Nat) (w : World) : CmpLays1 Tryz.prog 109 #[] encT cmpN blk 0 size w := fun m os dk hs x y => by
  refine (cmpString_any x y _).mono ?_
  rintro e w' ⟨rfl, rfl⟩
  exact ⟨rfl, 0, #[], by rw [grow_empty]; rfl⟩
end Go.Proofs.YtfkhelihepbehaaGreat

/- tuple.Base: Names, walked: slices.SortedFunc at a map's keys. -/
namespace Go.Proofs.YtfkhelihepbehaaGreat
open Go.RowKit Go.Maps Go.Sort Go.Shelf
set_option linter.unusedVariables false

theorem leN_perm {l l' : List ByteArray} (h : l.Perm l') : l.mergeSort leN = l'.mergeSort leN := by
  refine List.Perm.eq_of_pairwise (le := fun a b => leN a b = true) (fun a b _ _ h1 h2 => ?_) (List.pairwise_mergeSort leN_trans leN_total l) (List.pairwise_mergeSort leN_trans leN_total l') (((List.mergeSort_perm l leN).trans h).trans (List.mergeSort_perm l' leN).symm)
  unfold leN at h1 h2
  simp only [Bool.not_eq_true', decide_eq_false_iff_not] at h1 h2
  have := cmpB_swap a.toList b.toList
  exact toList_inj (cmpB_zero (by omega))
theorem collect_any {w : World} {B r : Nat} {m : List (ByteArray × Value)} (hB : w.cell? ⟨B, 0, none⟩ = some (.map (some r))) (hm : MapIs w r m) (hk : ∀ p ∈ m, p.1.size ≤ maxLen) (hl : m.length ≤ 1048576) :
    Calls Tryz.prog 141 #[.func (.func 143) #[] #[.pointer (some ⟨B, 0, none⟩)]] w (RetN w fun w' v => ∃ bs : List ByteArray, bs.Perm (m.map (·.1)) ∧ Row w' 9 1 v bs.length (strs bs) (New w) ∧ (v = .slice none 0 0 ↔ bs = [])) := by
  obtain ⟨D0, h1, h2, h3⟩ := mapKeys hm hk (by unfold maxLen; omega)
  have hseq := AnyZ.keys_gives (L := { Tryz.laysSlZ7_f108 with }) Fence.wide 3 trivial rfl (by omega) B r m.length D0 w (World.block_lt_of_cell? _ _ hB) hB h1
  have hc := (callsIn_wide (n := 5)).1 (AnyZ.collect_in Tryz.laysSlZ8_f141 Fence.wide 5 trivial trivial rfl (by omega) 143 #[.pointer (some ⟨B, 0, none⟩)] trivial (enters_of Tryz.func143 (by kernel_rfl) rfl) _ _ (by rw [h3]; unfold maxLen; omega) (by rw [h3]; omega) w hseq)
  refine Calls.mono hc ?_
  rintro e w' ⟨v, ss, rfl, hS, hrow, hnil, hb⟩
  refine RetN.mk (Kp.of_below hb) ⟨ss.map (fun l => ⟨l.toArray⟩), ?_, ?_, ?_⟩
  · have h4 := (hS.trans h2).map (fun l : List UInt8 => (⟨l.toArray⟩ : ByteArray))
    rw [List.map_map] at h4
    have e : (m.map ((fun l : List UInt8 => (⟨l.toArray⟩ : ByteArray)) ∘ fun p : ByteArray × Value => p.1.data.toList)) = m.map (·.1) := by
      apply List.map_congr_left
      intro p _
      simp
    rw [e] at h4
    exact h4
  · have h5 := row_of_owns hrow
    have e : ss.map encStr = strs (ss.map (fun l => ⟨l.toArray⟩)) := by
      unfold strs
      rw [List.map_map]; rfl
    rw [e] at h5
    rw [List.length_map]; exact h5
  · rw [hnil, List.map_eq_nil_iff]

set_option maxRecDepth 100000 in
set_option maxHeartbeats 2000000 in
theorem sortedNames_any {w : World} {B r : Nat} {m : List (ByteArray × Value)} (hB : w.cell? ⟨B, 0, none⟩ = some (.map (some r))) (hm : MapIs w r m) (hk : ∀ p ∈ m, p.1.size ≤ maxLen) (hl : m.length ≤ 1048576) :
    Calls Tryz.prog 107 #[.func (.func 143) #[] #[.pointer (some ⟨B, 0, none⟩)], .func (.func 109) #[] #[]] w (RetN w fun w' v => Row w' 9 1 v m.length (strs ((m.map (·.1)).mergeSort leN)) (New w)) := by
  have HC := Lib.hid (collect_any hB hm hk hl)
  clear hB hm hk
  go_enter Tryz.func107, Tryz.ntmps107
  go_wp2_with fail
  refine HC.out.mono ?_
  rintro e w1 ⟨v, rfl, hk1, bs, hp, hr, hnil⟩
  have hlen : bs.length = m.length := by rw [hp.length_eq, List.length_map]
  have hsort := leN_perm hp
  obtain ⟨q1, ⟨ev, en⟩ | ⟨g, cap, rest, rfl, hg, hb, hbl, hn, hcm⟩⟩ := hr
  · have hbs := hnil.1 ev
    subst hbs
    subst ev
    have HK := Lib.hid hk1
    have HS := Lib.hid (show Row w1 9 1 (.slice none 0 0) m.length (strs ((m.map (·.1)).mergeSort leN)) (New w) by
      rw [← hsort, ← hlen, List.mergeSort_nil]
      exact Row.nil _ _ _ _)
    clear hp hnil hlen hsort q1 en hk1
    go_wp2_with fail
    refine (AnyF.slices_SortFunc_none Tryz.laysSlF06_f142 none 0 _ w1).mono ?_
    rintro e w2 ⟨rfl, rfl⟩
    go_wp2
    go_ret
    exact RetN.mk HK.out HS.out
  · have hlt := hb.lt
    have hH : Holds encT w1 g 0 bs.toArray := fun j hj => by
      have hj' : j < bs.length := by simpa using hj
      refine ⟨?_, hb.free _⟩
      rw [hb.cell', Nat.zero_add, List.getElem?_append_left (by rw [strs_len]; exact hj'), strs_get? bs j hj', getElem!_pos _ j hj]
      simp [encT]
    have hml := List.length_mergeSort (le := leN) bs
    have hrow := fun n os => sortWorld_row (ys := bs.mergeSort leN) hb hml n os
    have hcall := Any.slices_SortFunc_total Tryz.laysSlF6_f142 encT (fun _ => rfl) cmpN swoN 109 #[] g 0 cap bs.toArray w1 (enters_of Tryz.func109 (by kernel_rfl) rfl) (cmp_lays g _ w1) hH hlt (by rw [List.size_toArray]; omega) totN
    have HCall := Lib.hid hcall
    have HFin := Lib.hid (And.intro hk1 (And.intro hrow (And.intro hsort (And.intro hlen (And.intro hg (And.intro hbl (And.intro hn hcm)))))))
    obtain ⟨n, en⟩ : ∃ n, bs.length = n := ⟨_, rfl⟩
    rw [List.size_toArray, en] at HCall
    rw [en]
    have EN := Lib.hid en
    clear hp hnil hlen hsort hk1 hrow hcall hH hlt hml hb hbl hn hcm q1 en
    go_wp2_with fail
    refine HCall.out.mono ?_
    rintro e w2 ⟨rfl, n2, os, rfl⟩
    obtain ⟨hk1, hrow, hsort, hlen, hg, hbl, hn, hcm⟩ := HFin.out
    have e3 : (bs.toArray.toList.mergeSort fun x y => !(ltOf cmpN) y x) = bs.mergeSort leN := rfl
    obtain ⟨r1, r2⟩ := hrow n2 os
    rw [e3]
    have HR := Lib.hid (show Row (sortWorld encT w1 g 0 n2 (bs.mergeSort leN).toArray os) 9 1 (.slice (some ⟨g, 0, none⟩) n cap) m.length (strs ((m.map (·.1)).mergeSort leN)) (New w) from by
      rw [← hsort, ← hlen, EN.out]
      refine ⟨by rw [strs_len, List.length_mergeSort, EN.out]; omega, .inr ⟨g, cap, rest, rfl, hg, r1, ?_, by rw [← EN.out]; exact hn, hcm⟩⟩
      rw [← hbl, List.length_append, List.length_append, strs_len, strs_len, List.length_mergeSort])
    have HX := Lib.hid (show Ext w (sortWorld encT w1 g 0 n2 (bs.mergeSort leN).toArray os) from hk1.trans' r2 fun i hi e => by have h9 : w.heap.size ≤ g := hg; omega)
    generalize sortWorld encT w1 g 0 n2 (bs.mergeSort leN).toArray os = w3 at *
    clear hk1 hrow hsort hlen hg hbl hn hcm e3 r1 r2
    go_wp2
    go_ret
    exact RetN.mk HX.out HR.out

theorem names_cnt (E : List Ent) : ((entM E).map (·.1)).mergeSort leN = namesC (cntE E) := by rw [entM_names]; rfl
set_option maxRecDepth 100000 in
theorem names_any {S : Nat → Prop} {w : World} {bb r : Nat} {E : List Ent} (h : BaseAt S w bb r E) (hl : E.length ≤ 1048576) :
    Calls Tryz.prog 58 #[.pointer (some ⟨bb, 0, none⟩)] w (RetN w fun w' v => Row w' 9 1 v E.length (strs (namesC (cntE E))) (New w)) := by
  have c0 : w.cell? ⟨bb, 0, none⟩ = some (.map (some r)) := by rw [h.blk.cell']; rfl
  have hks : ∀ p ∈ entM E, p.1.size ≤ maxLen := fun p hp => by
    obtain ⟨e, he, rfl⟩ := List.mem_map.1 hp
    have h1 := (h.ok.all _ (mem_cntE he)).name
    have h2 : 1 ≤ e.name.size ∧ e.name.size ≤ 4096 := of_decide_eq_true h1
    show e.name.size ≤ maxLen
    unfold maxLen; omega
  have HKeys := Lib.hid ((callsIn_wide (n := 5)).1 (AnyZ.keys_in Tryz.laysSlZ7_f108 Fence.wide 5 trivial rfl (some r) w))
  have hB : (w.alloc (.cells #[.map (some r)] 63)).cell? ⟨w.heap.size, 0, none⟩ = some (.map (some r)) := by rw [(Blk.new w [.map (some r)] _).cell']; rfl
  have hS := sortedNames_any hB (h.map.ext ((Kp.refl w).alloc _)) hks (by rw [show (entM E).length = E.length by simp [entM]]; exact hl)
  rw [names_cnt, show (entM E).length = E.length by simp [entM]] at hS
  have HS := Lib.hid hS
  have HXA := Lib.hid (show Ext w (w.alloc (.cells #[.map (some r)] 63)) from (Kp.refl w).alloc _)
  clear h hks hB hS
  go_enter Tryz.func58, Tryz.ntmps58
  go_wp2_with fail
  refine HKeys.out.mono ?_
  rintro e w1 ⟨rfl, rfl⟩
  go_wp2_with fail
  refine HS.out.mono ?_
  rintro e w2 ⟨v, rfl, hk2, hr⟩
  have HF := Lib.hid (And.intro (HXA.out.trans hk2) (Row.mono hr fun g hg => Nat.le_trans HXA.out.size hg))
  clear hk2 hr
  go_wp2
  go_ret
  exact RetN.mk HF.out.1 HF.out.2
end Go.Proofs.YtfkhelihepbehaaGreat

/- tuple.Base: Relations. -/
namespace Go.Proofs.YtfkhelihepbehaaGreat
open Go.RowKit
set_option linter.unusedVariables false

theorem elem_rel : ElemT Tryz.prog 39 52 3 48 (.agg #[.string ⟨#[]⟩, .int .i64 0, .slice none 0 0]) := ⟨by kernel_rfl, by kernel_rfl, rfl, by decide⟩
def relCells (x : RelZ × (Option Addr × Nat)) : List Value := [.string x.1.1, .int .i64 x.1.2.1, .slice x.2.1 x.1.2.2.1.length x.2.2]
theorem relCells_len (x : RelZ × (Option Addr × Nat)) : (relCells x).length = 3 := rfl
/-- A relation's rows in memory of their own. -/
def RelAt (w0 w : World) (x : RelZ × (Option Addr × Nat)) : Prop := OwnRows w0.heap.size w (.slice x.2.1 x.1.2.2.1.length x.2.2) x.1.2.2.1
theorem OwnRows.kpt {F : Nat → Prop} {lo : Nat} {w w' : World} {v : Value} {LL : List (List ByteArray)} (h : OwnRows lo w v LL) (hk : Kp F w w') (hF : ∀ g cs, F g → ¬ Blk w g cs 29 ∧ ¬ Blk w g cs 9) : OwnRows lo w' v LL := by
  obtain ⟨ps, h1, h2, h3, h4⟩ := h
  refine ⟨ps, h1, h2.kp' hk fun g hg _ hf => ?_, fun p hp => ⟨(h3 p hp).1.kp' hk fun g hg _ hf => ?_, (h3 p hp).2⟩, h4⟩
  · obtain ⟨cs, hb, _⟩ := h2.has hg
    exact (hF g cs hf).1 hb
  · obtain ⟨cs, hb, _⟩ := (h3 p hp).1.has hg
    exact (hF g cs hf).2 hb
theorem typ_sr : 9 ≠ 52 := by decide
theorem typ_lr : 29 ≠ 52 := by decide
theorem RelAt.row {w0 w w' : World} {x : RelZ × (Option Addr × Nat)} (h : RelAt w0 w x) {k : Nat} {v : Value} {n : Nat} {xs : List Value} {M : Nat → Prop} (hr : Row w 52 k v n xs M) (hk : Kp (fun g => v.ownBlock = some g) w w') : RelAt w0 w' x :=
  OwnRows.kpt h hk fun g cs hg => by
    obtain ⟨cs', hb, _⟩ := hr.has hg
    exact ⟨fun h1 => typ_lr (blk_ne h1 hb), fun h1 => typ_sr (blk_ne h1 hb)⟩
theorem OwnRows.slice {lo : Nat} {w : World} {v : Value} {LL : List (List ByteArray)} (h : OwnRows lo w v LL) : ∃ a c, v = .slice a LL.length c ∧ LL.length ≤ c ∧ c ≤ maxLen := by
  obtain ⟨ps, rfl, h2, h3, h4⟩ := h
  obtain ⟨q1, ⟨rfl, q2⟩ | ⟨g, cap, rest, rfl, _, _, _, hn, hc⟩⟩ := h2
  · exact ⟨none, 0, by rw [List.length_map, q2], by rw [List.length_map, q2]; exact Nat.le_refl _, by decide⟩
  · exact ⟨_, cap, by rw [List.length_map], by rw [List.length_map]; exact hn, hc⟩
/-- Relations in memory of their own. -/
def RelsV (lo : Nat) (w : World) (v : Value) (L : List RelZ) : Prop := ∃ a c, v = .slice a L.length c ∧ L.length ≤ c ∧ c ≤ maxLen ∧ RelsIn (fun g => lo ≤ g ∧ g < w.heap.size) w a L
theorem rels_own {w0 w : World} {L : List RelZ} {vs : List (Option Addr × Nat)} {v : Value} (hl : vs.length = L.length) (hr : Row w 52 3 v L.length ((L.zip vs).flatMap relCells) (New w0)) (hd : ∀ x ∈ L.zip vs, RelAt w0 w x) : RelsV w0.heap.size w v L := by
  have hnew := hr.block
  have hlt := hr.lt
  obtain ⟨q1, q2⟩ := hr
  have hsh : ∃ a c, v = .slice a L.length c ∧ L.length ≤ c ∧ c ≤ maxLen ∧ CellsAt w a ((L.zip vs).flatMap relCells) := by
    rcases q2 with ⟨rfl, q2⟩ | ⟨g, cap, rest, rfl, _, hb, _, hn, hc⟩
    · have hz : L = [] := List.eq_nil_of_length_eq_zero q2
      subst hz
      exact ⟨none, 0, rfl, Nat.le_refl _, by decide, CellsAt.nil _ _⟩
    · exact ⟨_, cap, rfl, hn, hc, CellsAt.pre hb⟩
  obtain ⟨a, c, rfl, h1, h2, hc⟩ := hsh
  refine ⟨a, c, rfl, h1, h2, fun i q hq => ?_⟩
  have hv : i < vs.length := by rw [hl]; exact (List.getElem?_eq_some_iff.1 hq).1
  have hz : (L.zip vs)[i]? = some (q, vs[i]) := by rw [List.getElem?_zip_eq_some]; exact ⟨hq, List.getElem?_eq_getElem hv⟩
  have hg := fun c hcc => flat_get relCells 3 relCells_len (L.zip vs) i _ c hz hcc
  obtain ⟨b, off, rfl, h0⟩ := hc (i * 3 + 0) _ (hg 0 (by decide))
  obtain ⟨_, _, e1, h3⟩ := hc (i * 3 + 1) _ (hg 1 (by decide))
  cases e1
  obtain ⟨_, _, e2, h4⟩ := hc (i * 3 + 2) _ (hg 2 (by decide))
  cases e2
  have hat := hd _ (List.mem_of_getElem? hz)
  obtain ⟨a2, c2, e3, h5, h6⟩ := OwnRows.slice hat
  obtain ⟨a3, c3, e4, h7⟩ := OwnRows.shape hat
  cases e3
  cases e4
  exact ⟨b, off, _, _, rfl, ⟨hnew b rfl, hlt b rfl⟩, h0, h3, h4, h5, h6, h7⟩
def RelTo (L : List RelZ) (w0 : World) (n : Nat) (iv ov : Value) (w : World) : Prop := ∃ i : Nat, i ≤ n ∧ iv = .int .i64 i ∧ Hid (Ext w0 w) ∧ Hid (∃ vs, vs.length = i ∧ Row w 52 3 ov i (((L.take i).zip vs).flatMap relCells) (New w0) ∧ ∀ x ∈ (L.take i).zip vs, RelAt w0 w x)

/-- Relations of one's own: list, rows and all. -/
def RelsOwn (lo : Nat) (w : World) (v : Value) (L : List RelZ) : Prop := ∃ vs : List (Option Addr × Nat), vs.length = L.length ∧ Row w 52 3 v L.length ((L.zip vs).flatMap relCells) (fun g => lo ≤ g) ∧ ∀ x ∈ L.zip vs, OwnRows lo w (.slice x.2.1 x.1.2.2.1.length x.2.2) x.1.2.2.1
theorem RelsOwn.rels {w0 w : World} {v : Value} {L : List RelZ} (h : RelsOwn w0.heap.size w v L) : RelsV w0.heap.size w v L := by
  obtain ⟨vs, h1, h2, h3⟩ := h
  exact rels_own (w0 := w0) h1 h2 h3
theorem RelsOwn.nil (lo : Nat) (w : World) : RelsOwn lo w (.slice none 0 0) [] := ⟨[], rfl, Row.nil _ _ _ _, fun x hx => by simp at hx⟩
set_option maxRecDepth 100000 in
set_option maxHeartbeats 4000000 in
theorem baseRels_own {S : Nat → Prop} {w : World} {bb r : Nat} {E : List Ent} (h : BaseAt S w bb r E) (hl : E.length ≤ 1048576) :
    Calls Tryz.prog 25 #[.pointer (some ⟨bb, 0, none⟩)] w (RetN w fun w' v => RelsOwn w.heap.size w' v (relsC (cntE E))) := by
  have H := Lib.hid h
  have HNm := Lib.hid (names_any h hl)
  obtain ⟨n, en⟩ : ∃ n, E.length = n := ⟨_, rfl⟩
  have hnl : n ≤ 1048576 := by rw [← en]; exact hl
  rw [en] at HNm
  have hLn : (relsC (cntE E)).length = n := by
    unfold relsC
    rw [List.length_map, (names_perm _).length_eq, List.length_map, cntE, List.length_map, en]
  obtain ⟨L, eL⟩ : ∃ L, relsC (cntE E) = L := ⟨_, rfl⟩
  rw [eL] at hLn ⊢
  have HL := Lib.hid (And.intro eL hLn)
  clear h hl en eL hLn
  go_enter Tryz.func25, Tryz.ntmps25
  go_wp2_with fail
  refine HNm.out.mono ?_
  rintro e w1 ⟨v, rfl, hk1, hr⟩
  obtain ⟨na, ncap, rfl, hnc, _⟩ := hr.shape
  have HK1 := Lib.hid (And.intro hk1 hnc)
  clear hk1 hr hnc
  go_wp2
  go_loopw [10, 3] (fun iv ov wr => RelTo L w1 n iv ov wr) (fun iv _ _ => n - (intOf iv).toNat)
  case atStart => exact ⟨0, Nat.zero_le _, rfl, Kp.refl _, [], rfl, Row.nil _ _ _ _, fun x hx => by simp at hx⟩
  case round =>
    obtain ⟨i, hi, rfl, hex, hin⟩ := hrel
    by_cases hlt : i < n
    · obtain ⟨s, hs⟩ : ∃ s, (namesC (cntE E))[i]? = some s := ⟨_, List.getElem?_eq_getElem (by
        have := HL.out.2
        rw [← HL.out.1] at this
        unfold relsC at this
        rw [List.length_map] at this
        omega)⟩
      have hq : L[i]? = some (relOf (cntE E) s) := by
        rw [← HL.out.1]
        unfold relsC
        rw [List.getElem?_map, hs]; rfl
      obtain ⟨v0, hv0⟩ := names_mem.1 (List.mem_of_getElem? hs)
      obtain ⟨e0, he0⟩ : ∃ e0, findE E s = some e0 := by
        cases he : findE E s with
        | none => rw [(findE_none he).1] at hv0; cases hv0
        | some e0 => exact ⟨e0, rfl⟩
      obtain ⟨hem, hes⟩ := findE_some he0
      obtain ⟨b, off, ena, c0⟩ := HK1.out.2 i (.string s) (by simp [strs, hs])
      subst ena
      replace c0 := hex.out.cell c0 id
      have hB := (H.out.ext HK1.out.1).ext hex.out
      have b0 : wr.cell? ⟨bb, 0, none⟩ = some (.map (some r)) := by rw [hB.blk.cell']; rfl
      have hlk := run_lookup_str (P := Tryz.prog) Tryz.underlying63 Tryz.underlying9 (z := .pointer none) (by kernel_rfl) hB.map s
      rw [entM_get, he0] at hlk
      obtain ⟨eb, eeb⟩ : ∃ eb, e0.b = eb := ⟨_, rfl⟩
      obtain ⟨ar, ear⟩ : ∃ ar, e0.ar = ar := ⟨_, rfl⟩
      have hlk' : (Instr.lookup 63 (.map (some r)) (.string s) false).run Tryz.prog wr = .ok (.pointer (some ⟨eb, 0, none⟩)) wr := by rw [← eeb]; exact hlk
      have d2 : wr.cell? ⟨eb, 2, none⟩ = some (.int .i64 ar) := by rw [← eeb, (hB.rows e0 hem).blk.cell', ear]; rfl
      have HRA := Lib.hid (fun w' (hw : Ext wr w') => (rowsAll_q (z := False) ((hB.rows e0 hem).ext hw).q))
      rw [eeb] at HRA
      have hrel : relOf (cntE E) s = (s, (ar : Int), e0.LL, ()) := by
        unfold relOf arC
        rw [(findE_rows he0).1, (findE_rows he0).2, ear]
      rw [hrel] at hq
      have HQ := Lib.hid hq
      obtain ⟨LL, eLL⟩ : ∃ LL, e0.LL = LL := ⟨_, rfl⟩
      rw [eLL] at HQ HRA
      obtain ⟨m, em⟩ : ∃ m, LL.length = m := ⟨_, rfl⟩
      have hm : m ≤ 65536 := by rw [← em, ← eLL]; exact hB.few hem
      have EM := Lib.hid em
      have HCells := Lib.hid (show ∀ w', Ext wr w' → (fun w' : World => w'.cell? ⟨eb, 2, none⟩ = some (.int .i64 ar)) w' from fun w' hw => hw.cell d2 id)
      obtain ⟨vs, hvs, hrow, hds⟩ := hin.out
      obtain ⟨oa, oc, eov, _, _⟩ := hrow.shape
      subst eov
      have HRow := Lib.hid (And.intro hvs (And.intro hrow hds))
      clear hs hq hv0 he0 hem hes hB hlk eeb ear hrel eLL em d2 hvs hrow hds hin
      go_wp2
      refine draw_begin (fun w' : World => w'.cell? ⟨eb, 2, none⟩ = some (.int .i64 ar)) [10] (by kernel_rfl) (HCells.out _ (Kp.refl wr).drew) (fun hHeld => ?_)
      (refine draw_free (i := 0) (v := ?_) rfl ?_ ?_; rotate_left; (intro w; go_simp; try with_reducible rfl)); (try simp only [Act.put, List.setIfInBounds_toArray, List.set_cons_zero, List.set_cons_succ])
      (refine draw_free (i := 1) (v := ?_) rfl ?_ ?_; rotate_left; (intro w; go_simp; try with_reducible rfl)); (try simp only [Act.put, List.setIfInBounds_toArray, List.set_cons_zero, List.set_cons_succ])
      (refine draw_free (i := 2) (v := ?_) rfl ?_ ?_; rotate_left; (intro w; go_simp; try with_reducible rfl)); (try simp only [Act.put, List.setIfInBounds_toArray, List.set_cons_zero, List.set_cons_succ])
      (refine draw_free (i := 3) (v := ?_) rfl ?_ ?_; rotate_left; (intro w; go_simp; try with_reducible rfl)); (try simp only [Act.put, List.setIfInBounds_toArray, List.set_cons_zero, List.set_cons_succ])
      (refine draw_free (i := 4) (v := ?_) rfl ?_ ?_; rotate_left; (intro w; go_simp; try with_reducible rfl)); (try simp only [Act.put, List.setIfInBounds_toArray, List.set_cons_zero, List.set_cons_succ])
      (refine draw_in (i := 5) (v := ?_) rfl ?_ ?_; rotate_left; (intro w hSw; (try dsimp only at hSw); go_simp; try with_reducible rfl)); (try simp only [Act.put, List.setIfInBounds_toArray, List.set_cons_zero, List.set_cons_succ])
      (refine draw_free (i := 6) (v := ?_) rfl ?_ ?_; rotate_left; (intro w; go_simp; try with_reducible rfl)); (try simp only [Act.put, List.setIfInBounds_toArray, List.set_cons_zero, List.set_cons_succ])
      refine draw_one (i := 7) ?_
      refine comes_turn (i := 7) rfl (fun K hK => ?_)
      go_simp
      (refine (HRA.out _ (Kp.refl wr).drew).mono ?_; rintro e w5 ⟨v, rfl, hk3, _, hown⟩; have X5 := Lib.hid (show Ext wr w5 from ((Kp.refl wr).drew).trans (Kp.fq hk3)); obtain ⟨ya, yc, rfl, _, _⟩ := hown.slice; rw [EM.out] at hown; rw [EM.out]; have HO := Lib.hid hown; clear hk3 hown)
      go_wp2_with fail
      refine hK.out _ _ ?_ (fun hHeld => ?_)
      · (try dsimp only); (exact HCells.out _ X5.out)
      clear hK K; (try simp only [Act.put, List.setIfInBounds_toArray, List.set_cons_zero, List.set_cons_succ])
      (refine draw_free (i := 8) (v := ?_) rfl ?_ ?_; rotate_left; (intro w; go_simp; try with_reducible rfl)); (try simp only [Act.put, List.setIfInBounds_toArray, List.set_cons_zero, List.set_cons_succ])
      refine draw_one (i := 9) ?_
      refine comes_turn (i := 9) rfl (fun K hK => ?_)
      go_simp
      refine hK.out _ _ ?_ (fun hHeld => ?_)
      · (try dsimp only); (exact HCells.out _ (X5.out.alloc _))
      clear hK K; (try simp only [Act.put, List.setIfInBounds_toArray, List.set_cons_zero, List.set_cons_succ])
      refine draw_one (i := 10) ?_
      refine comes_late (i := 10) rfl (by kernel_rfl) (fun K hK => ?_)
      refine draw_appN elem_rel rfl _ _ rfl ((hex.out.trans X5.out).alloc _) rfl ((HRow.out.2.1.ext X5.out).alloc _) rfl (CellsAt.new w5 [.string s, .int .i64 ar, .slice ya m yc] 52) (by rfl) (by simp [Value.oneCell']) (by omega) (by unfold maxLen; omega) ?_; intro v1 w6 hr1 hk1 hk2
      refine hK.out _ _ ?_
      clear hK K; (try simp only [Act.put, List.setIfInBounds_toArray, List.set_cons_zero, List.set_cons_succ])
      (refine draw_free (i := 11) (v := ?_) rfl ?_ ?_; rotate_left; (intro w; go_simp; try with_reducible rfl)); (try simp only [Act.put, List.setIfInBounds_toArray, List.set_cons_zero, List.set_cons_succ])
      refine wpAnyD_done (by kernel_rfl) ?_ _
      have HFin := Lib.hid (show ∃ vs, vs.length = i + 1 ∧ Row w6 52 3 v1 (i + 1) (((L.take (i + 1)).zip vs).flatMap relCells) (New w1) ∧ ∀ x ∈ (L.take (i + 1)).zip vs, RelAt w1 w6 x by
        have hlen : (L.take i).length = vs.length := by rw [List.length_take, HRow.out.1]; have := HL.out.2; omega
        have et := takeSnoc HQ.out
        have hrA := (HRow.out.2.1.ext X5.out).alloc (.cells #[.string s, .int .i64 ar, .slice ya m yc] 52)
        refine ⟨vs ++ [(ya, yc)], by rw [List.length_append, HRow.out.1]; rfl, ?_, ?_⟩
        · rw [et, List.zip_append hlen, List.flatMap_append]
          have e2 : (([(s, (ar : Int), LL, ())].zip [(ya, yc)]).flatMap relCells) = [.string s, .int .i64 ar, .slice ya m yc] := by
            show relCells ((s, (ar : Int), LL, ()), (ya, yc)) ++ [] = _
            rw [List.append_nil]
            show [Value.string s, .int .i64 ar, .slice ya LL.length yc] = _
            rw [EM.out]
          rw [e2]; exact hr1
        · intro x hx
          rw [et, List.zip_append hlen, List.mem_append] at hx
          rcases hx with hx | hx
          · exact RelAt.row (OwnRows.ext (OwnRows.ext (HRow.out.2.2 x hx) X5.out) ((Kp.refl _).alloc _)) hrA hk2
          · have hx' : x = ((s, (ar : Int), LL, ()), (ya, yc)) := by simpa using hx
            subst hx'
            have ho : RelAt w1 w5 ((s, (ar : Int), LL, ()), (ya, yc)) := by
              show OwnRows w1.heap.size w5 (.slice ya LL.length yc) LL
              rw [EM.out]
              exact OwnRows.mono HO.out hex.out.size
            exact RelAt.row (OwnRows.ext ho ((Kp.refl _).alloc _)) hrA hk2)
      have HX6 := Lib.hid hk1
      clear hr1 hk1 hk2 hHeld HCells HO X5 HRow b0 c0 hlk'
      go_wp2
      go_roundw
      case rel => exact ⟨i + 1, by omega, by first | rfl | (congr 1; done) | (congr 1; omega), HX6.out, HFin.out⟩
      case measure => simp [intOf]; omega
    · obtain rfl : i = n := by omega
      obtain ⟨vs, hvs, hrow, hds⟩ := hin.out
      have hall : L.take i = L := List.take_of_length_le (by have := HL.out.2; omega)
      rw [hall] at hrow hds
      rw [← HL.out.2] at hrow hvs
      have hV := show RelsOwn w.heap.size wr _ L from ⟨vs, hvs, hrow.mono fun g hg => Nat.le_trans HK1.out.1.size hg, fun x hx => OwnRows.mono (hds x hx) HK1.out.1.size⟩
      have HV := Lib.hid hV
      clear hin hvs hrow hds hall hV
      go_wp2
      go_ret
      exact RetN.mk (HK1.out.1.trans hex.out) HV.out
end Go.Proofs.YtfkhelihepbehaaGreat

/- A base behind a pointer that may be nil, its map too: what is asked of it by name. -/
namespace Go.Proofs.YtfkhelihepbehaaGreat
open Go.RowKit
set_option linter.unusedVariables false

/-- A base behind a pointer: none; one whose map is not made yet; one. -/
inductive BaseV (S : Nat → Prop) (w : World) : Value → List Ent → Prop
  | nil : BaseV S w (.pointer none) []
  | zero (bb : Nat) : Blk w bb [.map none, .int .i64 0] 65 → (∀ k, S k → k < w.heap.size) → ¬ S bb → BaseV S w (.pointer (some ⟨bb, 0, none⟩)) []
  | full (bb r : Nat) (E : List Ent) : BaseAt S w bb r E → BaseV S w (.pointer (some ⟨bb, 0, none⟩)) E
def optPtr : Option Ent → Value
  | some e => e.ptr
  | none => .pointer none
def optAr : Option Ent → Nat
  | some e => e.ar
  | none => 0
def optLL : Option Ent → List (List ByteArray)
  | some e => e.LL
  | none => []
/-- Rows or none. -/
def OptAt (S : Nat → Prop) (w : World) (o : Option Ent) : Prop := ∀ e, o = some e → RowsAt S w e.b e.iv e.ar e.LL ∧ Strict cmpRow e.LL
section
variable {S : Nat → Prop} {w w' : World} {o : Option Ent} {v : Value} {E : List Ent}
theorem BaseV.opt (h : BaseV S w v E) (s : ByteArray) : OptAt S w (findE E s) := fun e he => by
  cases h with
  | nil => cases he
  | zero => cases he
  | full bb r E h =>
    have hm := (findE_some he).1
    exact ⟨h.rows e hm, h.strict hm⟩
theorem BaseV.ok (h : BaseV S w v E) : BaseOk (cntE E) := by
  cases h with
  | nil => exact ok_nil
  | zero => exact ok_nil
  | full bb r E h => exact h.ok
theorem run_lookup_none {P : Program} {t k e : TypeId} (ht : P.underlying t = some (.map k e)) (hk : P.underlying k = some .string) {z : Value} (hz : (zeroValue e).run P w = .ok z w) (s : ByteArray) :
    (Instr.lookup t (.map none) (.string s) false).run P w = .ok z w := by
  have hc := run_check_str (P := P) (w := w) hk s true 9999
  have hf := run_find_str (P := P) (w := w) hk s (es := []) (r := none) rfl
  simp [Instr.lookup, run_underlying ht, hc, hz, hf, Result.andThen]

set_option maxRecDepth 100000 in
theorem of_any (h : BaseV S w v E) (s : ByteArray) : Calls Tryz.prog 126 #[v, .string s] w (Ret (optPtr (findE E s)) w) := by
  cases h with
  | nil =>
    go_enter Tryz.func126, Tryz.ntmps126
    go_wp2
    go_ret
    exact Ret.mk rfl
  | zero bb hb hi hs =>
    have c0 := hb.cell 0 (by simp)
    have hlk := run_lookup_none (P := Tryz.prog) (w := w) Tryz.underlying63 Tryz.underlying9 (z := .pointer none) (by kernel_rfl) s
    simp only [List.getElem_cons_zero] at c0
    clear hb hi hs
    go_enter Tryz.func126, Tryz.ntmps126
    go_wp2
    go_ret
    exact Ret.mk rfl
  | full bb r E h =>
    have c0 := h.blk.cell 0 (by simp)
    have hlk := run_lookup_str (P := Tryz.prog) Tryz.underlying63 Tryz.underlying9 (z := .pointer none) (by kernel_rfl) h.map s
    rw [entM_get] at hlk
    have he : ((findE E s).map Ent.ptr).getD (.pointer none) = optPtr (findE E s) := by cases findE E s <;> rfl
    rw [he] at hlk
    simp only [List.getElem_cons_zero] at c0
    clear h he
    go_enter Tryz.func126, Tryz.ntmps126
    go_wp2
    go_ret
    exact Ret.mk rfl
theorem optLen_any (h : OptAt S w o) : Calls Tryz.prog 124 #[optPtr o] w (RetN w fun w' v => v = .int .i64 ((optLL o).length : Nat)) := by
  cases o with
  | none =>
    refine (rowsLen_nil w).mono ?_
    rintro e w' ⟨rfl, rfl⟩
    exact RetN.mk (Kp.refl _) rfl
  | some e =>
    refine (rowsLen_q (z := False) (h e rfl).1.q).mono ?_
    rintro e w' ⟨v, rfl, hk, rfl, _⟩
    exact RetN.mk (Kp.fq hk) rfl
theorem optHas_any (h : OptAt S w o) {x : RowZ} {ss : List ByteArray} (hx : RowIn w x ss) (ho : ∀ e, o = some e → RowOff x e.own) :
    Calls Tryz.prog 99 #[optPtr o, .slice x.1 x.2.1 x.2.2] w (RetN w fun w' v => v = .bool (isIn cmpRow (optLL o) ss)) := by
  cases o with
  | none =>
    refine (rowsHas_nil _ w).mono ?_
    rintro e w' ⟨rfl, rfl⟩
    exact RetN.mk (Kp.refl _) rfl
  | some e =>
    refine (rowsHas_q (z := False) (h e rfl).1.q (h e rfl).2 hx (ho e rfl)).mono ?_
    rintro e w' ⟨v, rfl, hk, rfl, _⟩
    exact RetN.mk (Kp.fq hk) rfl
theorem optEach_any (h : OptAt S w o) : Calls Tryz.prog 127 #[optPtr o] w (RetN w fun w' v => EachRows w.heap.size w' v (optLL o)) := by
  cases o with
  | none => exact rowsEach_nil w
  | some e =>
    refine (rowsEach_q (z := False) (h e rfl).1.q).mono ?_
    rintro e w' ⟨v, rfl, hk, _, h2⟩
    exact RetN.mk (Kp.fq hk) h2
/-- A copy: none, or rows of one's own. -/
def CopyV (S : Nat → Prop) (lo : Nat) (w : World) (o : Option Ent) (v : Value) : Prop := (o = none ∧ v = .pointer none) ∨ ∃ b' iv', o ≠ none ∧ v = .pointer (some ⟨b', 0, none⟩) ∧ lo ≤ b' ∧ (∀ k, iv'.ownBlock = some k → lo ≤ k) ∧ RowsAt S w b' iv' (optAr o) (optLL o)
theorem optCopy_any (h : OptAt S w o) : Calls Tryz.prog 122 #[optPtr o] w (RetN w fun w' v => CopyV S w.heap.size w' o v) := by
  cases o with
  | none =>
    refine (rowsCopy_nil w).mono ?_
    rintro e w' ⟨rfl, rfl⟩
    exact RetN.mk (Kp.refl _) (.inl ⟨rfl, rfl⟩)
  | some e =>
    refine (rowsCopy_q (z := False) (h e rfl).1.q).mono ?_
    rintro e' w' ⟨v, rfl, hk, _, b', iv', rfl, h1, h2, h3⟩
    exact RetN.mk (Kp.fq hk) (.inr ⟨b', iv', by simp, rfl, h1, h2, h3⟩)

theorem baseHas_any (h : BaseV S w v E) (s : ByteArray) {x : RowZ} {ss : List ByteArray} (hx : RowIn w x ss) (ho : ∀ e ∈ E, RowOff x e.own) :
    Calls Tryz.prog 76 #[v, .string s, .slice x.1 x.2.1 x.2.2] w (RetN w fun w' v => v = .bool (isIn cmpRow (optLL (findE E s)) ss)) := by
  have HO := Lib.hid (of_any h s)
  have HH := Lib.hid (optHas_any (h.opt s) hx fun e he => ho e (findE_some he).1)
  clear h hx ho
  go_enter Tryz.func76, Tryz.ntmps76
  go_wp2_with fail
  refine HO.out.mono ?_
  rintro e w1 ⟨rfl, rfl⟩
  go_wp2_with fail
  refine HH.out.mono ?_
  rintro e w1 ⟨v, rfl, hk, rfl⟩
  go_wp2
  go_ret
  exact RetN.mk hk rfl
set_option maxRecDepth 100000 in
theorem baseArity_any (h : BaseV S w v E) (s : ByteArray) :
    Calls Tryz.prog 80 #[v, .string s] w (Ret (.tuple #[.int .i64 (optAr (findE E s) : Nat), .bool (findE E s).isSome]) w) := by
  have hO := of_any h s
  have hA := h.opt s
  clear h
  generalize findE E s = o at *
  cases o with
  | none =>
    have HO := Lib.hid (show Calls Tryz.prog 126 #[v, .string s] w (Ret (.pointer none) w) from hO)
    have HA := Lib.hid (rowsArity_nil w)
    clear hO hA
    show Calls Tryz.prog 80 #[v, .string s] w (Ret (.tuple #[.int .i64 0, .bool false]) w)
    go_enter Tryz.func80, Tryz.ntmps80
    go_wp2_with fail
    refine HO.out.mono ?_
    rintro e w1 ⟨rfl, rfl⟩
    go_wp2_with fail
    refine HA.out.mono ?_
    rintro e w1 ⟨rfl, rfl⟩
    go_wp2
    go_ret2
    exact Ret.mk rfl
  | some f =>
    obtain ⟨b, eb⟩ : ∃ b, f.b = b := ⟨_, rfl⟩
    obtain ⟨ar, ea⟩ : ∃ ar, f.ar = ar := ⟨_, rfl⟩
    have hr := rowsArity_q (z := False) (hA f rfl).1.q
    rw [eb, ea] at hr
    have HO := Lib.hid (show Calls Tryz.prog 126 #[v, .string s] w (Ret (.pointer (some ⟨b, 0, none⟩)) w) by rw [← eb]; exact hO)
    have HA := Lib.hid hr
    have hg : Calls Tryz.prog 80 #[v, .string s] w (Ret (.tuple #[.int .i64 (ar : Nat), .bool true]) w) := by
      clear hO hA hr eb ea
      go_enter Tryz.func80, Tryz.ntmps80
      go_wp2_with fail
      refine HO.out.mono ?_
      rintro e w1 ⟨rfl, rfl⟩
      go_wp2_with fail
      refine HA.out.mono ?_
      rintro e w1 ⟨rfl, rfl⟩
      go_wp2
      go_ret2
      exact Ret.mk rfl
    rw [← ea] at hg
    exact hg
theorem baseSize_any (h : BaseV S w v E) (s : ByteArray) :
    Calls Tryz.prog 84 #[v, .string s] w (RetN w fun w' v => v = .int .i64 ((optLL (findE E s)).length : Nat)) := by
  have HO := Lib.hid (of_any h s)
  have HH := Lib.hid (optLen_any (h.opt s))
  clear h
  go_enter Tryz.func84, Tryz.ntmps84
  go_wp2_with fail
  refine HO.out.mono ?_
  rintro e w1 ⟨rfl, rfl⟩
  go_wp2_with fail
  refine HH.out.mono ?_
  rintro e w1 ⟨v, rfl, hk, rfl⟩
  go_wp2
  go_ret
  exact RetN.mk hk rfl
theorem baseRows_any (h : BaseV S w v E) (s : ByteArray) :
    Calls Tryz.prog 81 #[v, .string s] w (RetN w fun w' v => CopyV S w.heap.size w' (findE E s) v) := by
  have HO := Lib.hid (of_any h s)
  have HH := Lib.hid (optCopy_any (h.opt s))
  clear h
  go_enter Tryz.func81, Tryz.ntmps81
  go_wp2_with fail
  refine HO.out.mono ?_
  rintro e w1 ⟨rfl, rfl⟩
  go_wp2_with fail
  refine HH.out.mono ?_
  rintro e w1 ⟨v, rfl, hk, hc⟩
  go_wp2
  go_ret
  exact RetN.mk hk hc
theorem baseEach_any (h : BaseV S w v E) (s : ByteArray) :
    Calls Tryz.prog 82 #[v, .string s] w (RetN w fun w' v => EachRows w.heap.size w' v (optLL (findE E s))) := by
  have HO := Lib.hid (of_any h s)
  have HH := Lib.hid (optEach_any (h.opt s))
  clear h
  go_enter Tryz.func82, Tryz.ntmps82
  go_wp2_with fail
  refine HO.out.mono ?_
  rintro e w1 ⟨rfl, rfl⟩
  go_wp2_with fail
  refine HH.out.mono ?_
  rintro e w1 ⟨v, rfl, hk, hc⟩
  go_wp2
  go_ret
  exact RetN.mk hk hc
end
end Go.Proofs.YtfkhelihepbehaaGreat

/- Ranging over a base's map, nil or not: the walk's laws. -/
namespace Go.Proofs.YtfkhelihepbehaaGreat
open Go.RowKit Go.Maps
set_option linter.unusedVariables false

theorem Kp.of_grown {a c : World} (h : a.grownBy c none) : Ext a c := ⟨h.os, h.tape, h.output, h.size, fun k hk _ => h.block k hk (by simp)⟩
theorem Kp.of_row {a c : World} {row : Option Nat} (h : a.grownBy c row) : Kp (fun k => row = some k) a c := ⟨h.os, h.tape, h.output, h.size, fun k hk hf => h.block k hk fun e => hf e.symm⟩
/-- A map that may be nil. -/
def MapV (w : World) (mv : Value) (E : List Ent) : Prop := (mv = .map none ∧ E = []) ∨ ∃ r, mv = .map (some r) ∧ MapIs w r (entM E)
/-- Ranging over it under way. -/
def IterE (w : World) (mv : Value) (it : Nat) (E : List Ent) (todo : ByteArray → Bool) (cnt : Nat) : Prop :=
  (mv = .map none ∧ E = [] ∧ cnt = 0 ∧ ∃ a b s, w.heap[it]? = some (.mapIter none a s b)) ∨ ∃ r n D left, mv = .map (some r) ∧ w.ranges Tryz.prog 9 readV r it n D left cnt ∧ MapD (entM E) D ∧ ∀ e ∈ E, todo e.name = left (strL e.name)
def leftV (w : World) (mv : Value) (it : Nat) : Nat := match mv with
  | .map (some r) => w.rangeLeft r it
  | _ => 0
section
variable {w w' : World} {mv : Value} {it : Nat} {E : List Ent} {todo : ByteArray → Bool} {cnt : Nat}
theorem IterE.left_eq (h : IterE w mv it E todo cnt) : leftV w mv it = cnt := by
  rcases h with ⟨rfl, _, h, _⟩ | ⟨r, n, D, left, rfl, h, _⟩
  · exact h.symm
  · exact h.left_eq
theorem IterE.lt (h : IterE w mv it E todo cnt) : it < w.heap.size := by
  rcases h with ⟨_, _, _, a, b, s, h⟩ | ⟨r, n, D, left, rfl, h, _⟩
  · exact lt_of_block h
  · exact h.lt
theorem IterE.kp {F : Nat → Prop} (h : IterE w mv it E todo cnt) (hk : Kp F w w') (hi : ¬ F it) (hm : ∀ r, mv = .map (some r) → ¬ F r) : IterE w' mv it E todo cnt := by
  have hlt := h.lt
  rcases h with ⟨h1, h2, h3, a, b, s, h⟩ | ⟨r, n, D, left, rfl, h, h2⟩
  · exact .inl ⟨h1, h2, h3, a, b, s, (hk.block it hlt hi).trans h⟩
  · obtain ⟨es, clock, since, seen, c0, g1, g2, g3, g4, g5, g6⟩ := h
    exact .inr ⟨r, n, D, left, rfl, ⟨es, clock, since, seen, c0, (hk.block r (lt_of_block g1) (hm r rfl)).trans g1, g2, g3, g4, (hk.block it hlt hi).trans g5, g6⟩, h2⟩
theorem MapV.kp {F : Nat → Prop} (h : MapV w mv E) (hk : Kp F w w') (hm : ∀ r, mv = .map (some r) → ¬ F r) : MapV w' mv E := by
  rcases h with h | ⟨r, rfl, h⟩
  · exact .inl h
  · exact .inr ⟨r, rfl, h.kp hk (hm r rfl)⟩
theorem MapV.ext (h : MapV w mv E) (hk : Ext w w') : MapV w' mv E := h.kp hk fun _ _ => id
theorem MapV.lookup (h : MapV w mv E) (s : ByteArray) (z : Option Value) (hz : (findE E s).map Ent.ptr = z) : (Instr.lookup 63 mv (.string s) false).run Tryz.prog w = .ok (z.getD (.pointer none)) w := by
  subst hz
  rcases h with ⟨rfl, rfl⟩ | ⟨r, rfl, h⟩
  · have hc := run_check_str (P := Tryz.prog) (w := w) Tryz.underlying9 s true 9999
    have hf := run_find_str (P := Tryz.prog) (w := w) Tryz.underlying9 s (es := []) (r := none) rfl
    have hz : (zeroValue 94).run Tryz.prog w = .ok (.pointer none) w := by kernel_rfl
    simp [Instr.lookup, run_underlying (P := Tryz.prog) Tryz.underlying63, hc, hf, hz, Result.andThen, findE]
  · have hlk := run_lookup_str (P := Tryz.prog) Tryz.underlying63 Tryz.underlying9 (z := .pointer none) (by kernel_rfl) h s
    rwa [entM_get] at hlk
theorem MapV.lookup_ok (h : MapV w mv E) (s : ByteArray) : (Instr.lookup 63 mv (.string s) true).run Tryz.prog w = .ok (.tuple #[((findE E s).map Ent.ptr).getD (.pointer none), .bool (findE E s).isSome]) w := by
  rcases h with ⟨rfl, rfl⟩ | ⟨r, rfl, h⟩
  · have hc := run_check_str (P := Tryz.prog) (w := w) Tryz.underlying9 s true 9999
    have hf := run_find_str (P := Tryz.prog) (w := w) Tryz.underlying9 s (es := []) (r := none) rfl
    have hz : (zeroValue 94).run Tryz.prog w = .ok (.pointer none) w := by kernel_rfl
    simp [Instr.lookup, run_underlying (P := Tryz.prog) Tryz.underlying63, hc, hf, hz, Result.andThen, findE]
  · have hlk := run_lookup_str_ok (P := Tryz.prog) Tryz.underlying63 Tryz.underlying9 (z := .pointer none) (by kernel_rfl) h s
    rw [entM_get, Option.isSome_map] at hlk
    exact hlk
theorem MapV.len (h : MapV w mv E) (hks : ∀ e ∈ E, e.name.size ≤ maxLen) (hl : E.length ≤ maxLen) (ty : TypeId) : (Builtin.len_ #[63] ty #[mv]).run Tryz.prog w = .ok (.int .i64 (E.length : Nat)) w := by
  rcases h with ⟨rfl, rfl⟩ | ⟨r, rfl, h⟩
  · simp [Builtin.len_, run_underlying (P := Tryz.prog) Tryz.underlying63]
    rfl
  · obtain ⟨D, h1, h2⟩ := mapOwns h (fun p hp => by obtain ⟨e, he, rfl⟩ := List.mem_map.1 hp; exact hks e he) (by simpa [entM] using hl)
    have h3 := h1.len (P := Tryz.prog) Tryz.underlying63 ty
    rw [h2.size] at h3
    rw [h3]; simp [entM]
theorem run_next_nil {a b : Nat} {s : Array Nat} (h : w.heap[it]? = some (.mapIter none a s b)) (ty : TypeId) : (Instr.next (.pointer (some ⟨it, 0, none⟩)) false ty).run Tryz.prog w = .ok (.tuple #[.bool false]) w := by
  simp only [Instr.next, getObj, Sem.run_bind, Sem.run, h, Result.andThen]
  rfl
variable {ops : Array Oper} {rest : List Oper} {o : Oper} {a : Act} {Q : Exit → Act → World → Prop}
theorem wpList_rangeV (hg : o.guard = none) (m : Operand) (hop : o.op = Op.range 63 m) (hm : a.eval m = mv) (hv : MapV w mv E) (hks : ∀ e ∈ E, e.name.size ≤ maxLen) (hl : E.length ≤ maxLen)
    (hK : ∀ w' cnt, IterE w' mv w.heap.size E (fun _ => true) cnt → Ext w w' → w'.heap.size = w.heap.size + 1 → wpList Tryz.prog ops Q rest (a.put o.dst (.pointer (some ⟨w.heap.size, 0, none⟩))) w') : wpList Tryz.prog ops Q (o :: rest) a w := by
  rcases hv with ⟨rfl, rfl⟩ | ⟨r, rfl, hv⟩
  · refine wpList_plain hg fun K' hK' => ?_
    have hrun := run_range_nilMap (P := Tryz.prog) w 63 9 94 Tryz.underlying63
    unfold Oper.wp
    simp [execOp, hop, hm, hrun, Result.andThen]
    refine hK' _ _ (hK _ 0 (.inl ⟨rfl, rfl, rfl, 0, 0, #[], ?_⟩) ((Kp.refl w).alloc _) (by rw [alloc_size]))
    show (w.heap.push _)[w.heap.size]? = _
    simp
  · obtain ⟨D, h1, h2⟩ := mapOwns hv (fun p hp => by obtain ⟨e, he, rfl⟩ := List.mem_map.1 hp; exact hks e he) (by simpa [entM] using hl)
    refine wpList_range_own w hg m 63 hop 9 94 (string_keyed Tryz.underlying9) Tryz.underlying63 readV r _ D hm h1 fun w' hr hgr hs => ?_
    exact hK w' _ (.inr ⟨r, _, D, _, rfl, hr, h2, fun e he => (h2.has (e.name, e.ptr) (List.mem_map.2 ⟨e, he, rfl⟩)).symm⟩) (Kp.of_grown hgr) hs
set_option maxRecDepth 100000 in
theorem wpList_nextV (hg : o.guard = none) (itm : Operand) (hop : o.op = Op.next itm false) (hit : a.eval itm = .pointer (some ⟨it, 0, none⟩)) (h : IterE w mv it E todo cnt)
    (hDone : (∀ e ∈ E, todo e.name = false) → wpList Tryz.prog ops Q rest (a.put o.dst (.tuple #[.bool false])) w)
    (hMore : ∀ (e0 : Ent) (w' : World) (cnt' : Nat), e0 ∈ E → todo e0.name = true → IterE w' mv it E (fun s => todo s && !decide (s = e0.name)) cnt' → cnt' < cnt → Kp (fun k => k = it) w w' → w'.heap.size = w.heap.size → (Instr.entry (.pointer (some ⟨it, 0, none⟩))).run Tryz.prog w' = .ok (.tuple #[.string e0.name, e0.ptr]) w' →
      wpList Tryz.prog ops Q rest (a.put o.dst (.tuple #[.bool true, .string e0.name, e0.ptr])) w') : wpList Tryz.prog ops Q (o :: rest) a w := by
  rcases h with ⟨rfl, rfl, rfl, a1, b1, s1, hb⟩ | ⟨r, n, D, left, rfl, hr, hD, htodo⟩
  · refine wpList_plain hg fun K' hK' => ?_
    have hrun := run_next_nil hb o.type
    unfold Oper.wp
    simp [execOp, hop, hit, hrun, Result.andThen]
    exact hK' _ _ (hDone fun e he => by simp at he)
  · refine wpList_next_ranges w hg itm hop 9 (string_keyed Tryz.underlying9) readV Value.string id (fun key kl h => (keyV h).imp fun x h => h.1) (fun v y h => ⟨v, rfl⟩) r it n D left cnt hit hr (fun _ hl => hDone fun e he => by rw [htodo e he]; exact hl _) fun x c kl y w' cnt' hkey hlk hv hat hr' hlt hgr hsz hen => ?_
    obtain rfl : kl = strL x := by
      obtain ⟨x', e1, e2⟩ := keyV hkey
      injection e1 with e1
      rw [e1]; exact e2
    obtain ⟨e0, he0, enx, rfl⟩ : ∃ e0 ∈ E, e0.name = x ∧ c = e0.ptr := by
      obtain ⟨e0, h1, h2⟩ := List.mem_map.1 (hD.key x c fun zd => by
        rw [hat zd]
        have h3 : some (DataW.held c, ([] : List MemPlace)) = some y := hv
        injection h3 with h3
        rw [← h3])
      exact ⟨e0, h1, congrArg Prod.fst h2, (congrArg Prod.snd h2).symm⟩
    subst enx
    refine hMore e0 w' cnt' he0 (by rw [htodo e0 he0]; exact hlk) (.inr ⟨r, n, D, _, rfl, hr', hD, fun e he => ?_⟩) hlt ((Kp.of_row hgr).mono fun i hi e => by injection e with e; exact e.symm) hsz hen
    show (todo e.name && !decide (e.name = e0.name)) = _
    rw [htodo e he]
    show (left (strL e.name) && !decide (e.name = e0.name)) = (left (strL e.name) && !(strL e.name).sameKey (strL e0.name))
    congr 2
    by_cases hn : e.name = e0.name
    · rw [hn, decide_eq_true rfl]; simp [Lit.sameKey, strL]
    · rw [decide_eq_false hn]
      cases hs : (strL e.name).sameKey (strL e0.name) with
      | false => rfl
      | true => exact absurd (strL_inj (WideAt.sameKey_eq hs)) hn
end
/-- A base whose map may be nil. -/
structure BaseM (S : Nat → Prop) (w : World) (bb : Nat) (mv : Value) (E : List Ent) : Prop where
  blk : Blk w bb [mv, .int .i64 (totalC (cntE E) : Nat)] 65
  map : MapV w mv E
  rows : ∀ e ∈ E, RowsAt S w e.b e.iv e.ar e.LL
  inS : ∀ k, S k → k < w.heap.size
  mapLt : ∀ r, mv = .map (some r) → r < w.heap.size
  ok : BaseOk (cntE E)
theorem BaseAt.m {S : Nat → Prop} {w : World} {bb r : Nat} {E : List Ent} (h : BaseAt S w bb r E) : BaseM S w bb (.map (some r)) E :=
  ⟨h.blk, .inr ⟨r, rfl, h.map⟩, h.rows, h.inS, fun r' e => by cases e; exact h.map.lt, h.ok⟩
theorem BaseM.zero {S : Nat → Prop} {w : World} {bb : Nat} (h : Blk w bb [.map none, .int .i64 0] 65) (hS : ∀ k, S k → k < w.heap.size) : BaseM S w bb (.map none) [] :=
  ⟨h, .inl ⟨rfl, rfl⟩, fun e he => (by simp at he), hS, fun r e => (by cases e), ok_nil⟩
theorem BaseM.ext {S : Nat → Prop} {w w' : World} {bb : Nat} {mv : Value} {E : List Ent} (h : BaseM S w bb mv E) (hk : Ext w w') : BaseM S w' bb mv E :=
  ⟨h.blk.ext hk, h.map.ext hk, fun e he => (h.rows e he).ext hk, fun k hk' => Nat.lt_of_lt_of_le (h.inS k hk') hk.size, fun r e => Nat.lt_of_lt_of_le (h.mapLt r e) hk.size, h.ok⟩
theorem BaseM.size {S : Nat → Prop} {w : World} {bb : Nat} {mv : Value} {E : List Ent} (h : BaseM S w bb mv E) : ∀ e ∈ E, e.name.size ≤ maxLen := fun e he => by
  have h2 : 1 ≤ e.name.size ∧ e.name.size ≤ 4096 := of_decide_eq_true (h.ok.all _ (mem_cntE he)).name
  unfold maxLen; omega
theorem nodup_findC {E : List Ent} (h : BaseOk (cntE E)) {e : Ent} (he : e ∈ E) : findE E e.name = some e := by
  have hnd : (E.map Ent.name).Nodup := by
    have := h.nodup
    unfold cntE at this
    rw [List.map_map] at this
    exact this
  clear h
  induction E with
  | nil => simp at he
  | cons a E ih =>
    rw [List.map_cons, List.nodup_cons] at hnd
    unfold findE
    rw [List.find?_cons]
    by_cases ha : a.name = e.name
    · rw [decide_eq_true ha]
      rcases List.mem_cons.1 he with rfl | he
      · rfl
      · exact absurd (List.mem_map.2 ⟨e, he, ha.symm⟩) hnd.1
    · rw [decide_eq_false ha]
      rcases List.mem_cons.1 he with rfl | he
      · exact absurd rfl ha
      · exact ih he hnd.2
end Go.Proofs.YtfkhelihepbehaaGreat

/- tuple.Base: Copy. -/
namespace Go.Proofs.YtfkhelihepbehaaGreat
open Go.RowKit Go.Maps
set_option linter.unusedVariables false

theorem cntE_nodup {E : List Ent} (h : ((cntE E).map (·.1)).Nodup) : (cntE E).Nodup := by
  generalize cntE E = C at *
  induction C with
  | nil => exact List.nodup_nil
  | cons p C ih =>
    rw [List.map_cons, List.nodup_cons] at h
    exact List.nodup_cons.2 ⟨fun hp => h.1 (List.mem_map.2 ⟨p, hp, rfl⟩), ih h.2⟩
theorem total_perm {C D : List CntZ} (h : C.Perm D) : totalC C = totalC D := perm_sum (h.map _)
theorem ok_perm {C D : List CntZ} (h : C.Perm D) (hD : BaseOk D) : BaseOk C := ⟨(h.map (·.1)).nodup_iff.2 hD.nodup, fun p hp => hD.all p (h.mem_iff.1 hp), by rw [total_perm h]; exact hD.few⟩
/-- Entries that a map in the making has. -/
structure PartB (S : Nat → Prop) (lo : Nat) (w : World) (r : Nat) (E : List Ent) : Prop where
  map : MapIs w r (entM E)
  rows : ∀ e ∈ E, RowsAt S w e.b e.iv e.ar e.LL
  apart : E.Pairwise fun e f => ∀ k, e.own k → ¬ f.own k
  new : ∀ e ∈ E, ∀ k, e.own k → lo ≤ k
theorem PartB.ext {S : Nat → Prop} {lo : Nat} {w w' : World} {r : Nat} {E : List Ent} (h : PartB S lo w r E) (hk : Ext w w') : PartB S lo w' r E := ⟨h.map.ext hk, fun e he => (h.rows e he).ext hk, h.apart, h.new⟩
def CopyTo (S : Nat → Prop) (wo w0 : World) (E : List Ent) (mv : Value) (it : Nat) (bb2 r2 : Nat) (m : Int) (w : World) : Prop := ∃ todo cnt, IterE w mv it E todo cnt ∧ Hid (Ext wo w ∧ w0.heap.size ≤ w.heap.size) ∧
  Hid (∃ E2, PartB S w0.heap.size w r2 E2 ∧ Blk w bb2 [.map (some r2), .int .i64 m] 65 ∧ (∀ e2 ∈ E2, ∃ e ∈ E, e2.cnt = e.cnt ∧ todo e.name = false) ∧ (∀ e ∈ E, todo e.name = false → ∃ e2 ∈ E2, e2.cnt = e.cnt))
theorem getM_none {m : List (ByteArray × Value)} {s : ByteArray} (h : ∀ p ∈ m, p.1 ≠ s) : getM m s = none := by
  unfold getM
  rw [List.find?_eq_none.2 fun p hp => by simpa using h p hp]; rfl
/-- One more. -/
theorem PartB.snoc {S : Nat → Prop} {lo : Nat} {w w' : World} {r : Nat} {E : List Ent} {e : Ent} (h : PartB S lo w r E) (hS : ∀ k, S k → k < w.heap.size) (hr : r < lo) (hSr : ¬ S r) (hk : Kp (fun k => k = r) w w') (hm : MapIs w' r (putM (entM E) e.name e.ptr)) (hn : ∀ f ∈ E, f.name ≠ e.name)
    (hE : RowsAt S w e.b e.iv e.ar e.LL) (hlo : ∀ k, e.own k → lo ≤ k) (hap : ∀ f ∈ E, ∀ k, f.own k → ¬ e.own k) : PartB S lo w' r (E ++ [e]) := by
  have hg : getM (entM E) e.name = none := getM_none fun p hp => by
    obtain ⟨f, hf, rfl⟩ := List.mem_map.1 hp
    exact hn f hf
  have hmv : ∀ f : Ent, RowsAt S w f.b f.iv f.ar f.LL → (∀ k, f.own k → lo ≤ k) → RowsAt S w' f.b f.iv f.ar f.LL := fun f hf hl => hf.move hk (fun k e ho => by have := hl k ho; omega) (fun k e hs => hSr (e ▸ hs)) (fun _ x => x) (fun k hk' => Nat.lt_of_lt_of_le (hS k hk') hk.size) hf.notS
  refine ⟨?_, fun f hf => ?_, List.pairwise_append.2 ⟨h.apart, by simp, fun f hf g hg' => ?_⟩, fun f hf => ?_⟩
  · have e1 : putM (entM E) e.name e.ptr = entM (E ++ [e]) := by
      unfold putM
      rw [hg]
      simp [entM]
    rw [← e1]; exact hm
  · rcases List.mem_append.1 hf with hf | hf
    · exact hmv f (h.rows f hf) (h.new f hf)
    · rw [List.mem_singleton.1 hf]; exact hmv e hE hlo
  · rw [List.mem_singleton.1 hg']; exact hap f hf
  · rcases List.mem_append.1 hf with hf | hf
    · exact h.new f hf
    · rw [List.mem_singleton.1 hf]; exact hlo

set_option maxRecDepth 100000 in
set_option maxHeartbeats 4000000 in
theorem baseCopyM_any {S : Nat → Prop} {w : World} {bb : Nat} {mv : Value} {E : List Ent} (h : BaseM S w bb mv E) (hl : E.length ≤ 1048576) :
    Calls Tryz.prog 69 #[.pointer (some ⟨bb, 0, none⟩)] w (RetN w fun w' v => ∃ bb2 r2 E2, v = .pointer (some ⟨bb2, 0, none⟩) ∧ BaseAt S w' bb2 r2 E2 ∧ (cntE E2).Perm (cntE E) ∧ ∀ k, OwnB bb2 r2 E2 k → w.heap.size ≤ k) := by
  have c0 := h.blk.cell 0 (by simp)
  have c1 := h.blk.cell 1 (by simp)
  simp only [List.getElem_cons_zero, List.getElem_cons_succ] at c0 c1
  obtain ⟨m, em⟩ : ∃ m : Int, ((totalC (cntE E) : Nat) : Int) = m := ⟨_, rfl⟩
  rw [em] at c1
  have H := Lib.hid (And.intro h (And.intro hl em))
  clear h em hl
  have hmm := @run_makeMap Tryz.prog
  obtain ⟨wA, ewA⟩ : ∃ wA, (w.alloc (.map #[] 0)).alloc (.cells #[.map (some w.heap.size), .int .i64 m] 65) = wA := ⟨_, rfl⟩
  have hxA : Ext w wA := by rw [← ewA]; exact ((Kp.refl w).alloc _).alloc _
  have hsA : wA.heap.size = w.heap.size + 2 := by rw [← ewA, alloc_size, alloc_size]
  have hBA : Blk wA (w.heap.size + 1) [.map (some w.heap.size), .int .i64 m] 65 := by
    rw [← ewA]
    have hB := Blk.new (w.alloc (.map #[] 0)) [.map (some w.heap.size), .int .i64 m] 65
    rw [alloc_size] at hB
    exact hB
  have hMA : MapIs wA w.heap.size [] := by rw [← ewA]; exact (MapIs.new w).ext ((Kp.refl _).alloc _)
  have hmA := H.out.1.map.ext hxA
  have cA := hxA.cell c0 id
  replace c1 : (w.alloc (.map #[] 0)).cell? ⟨bb, 1, none⟩ = some (.int .i64 m) := ((Kp.refl (F := fun _ => False) w).alloc _).cell c1 id
  have HA := Lib.hid (And.intro hxA (And.intro hsA (And.intro hBA hMA)))
  clear hxA hsA hBA hMA
  go_enter Tryz.func69, Tryz.ntmps69
  go_wp2_with (at_range; refine wpList_rangeV rfl _ rfl rfl hmA H.out.1.size (by have := H.out.2.1; unfold maxLen; omega) ?_; intro w0 cnt0 hrg0 hx0 hs0)
  go_frame
  obtain ⟨it, eit⟩ : ∃ it, wA.heap.size = it := ⟨_, rfl⟩
  obtain ⟨bb2, eb2⟩ : ∃ bb2, w.heap.size + 1 = bb2 := ⟨_, rfl⟩
  obtain ⟨r2, er2⟩ : ∃ r2, w.heap.size = r2 := ⟨_, rfl⟩
  have HX0 := Lib.hid (show Ext w w0 ∧ Blk w0 bb2 [.map (some r2), .int .i64 m] 65 ∧ MapIs w0 r2 [] ∧ bb2 < w0.heap.size ∧ r2 < w0.heap.size ∧ it < w0.heap.size ∧ bb2 = w.heap.size + 1 ∧ r2 = w.heap.size ∧ it = w.heap.size + 2 from by
    have := HA.out.2.1
    refine ⟨HA.out.1.trans hx0, ?_, ?_, by omega, by omega, by omega, eb2.symm, er2.symm, by omega⟩
    · rw [← eb2, ← er2]; exact HA.out.2.2.1.ext hx0
    · rw [← er2]; exact HA.out.2.2.2.ext hx0)
  rw [eit] at hrg0
  try rw [eit]
  try rw [eb2]
  try rw [er2]
  clear hx0 hs0 ewA hmA cA eit eb2 er2
  go_loopw [] (fun wr => CopyTo S w w0 E mv it bb2 r2 m wr) (fun wr => leftV wr mv it)
  case atStart => exact ⟨_, _, hrg0, Lib.hid ⟨HX0.out.1, Nat.le_refl _⟩, Lib.hid ⟨[], ⟨HX0.out.2.2.1, fun e he => by simp at he, List.Pairwise.nil, fun e he => by simp at he⟩, HX0.out.2.1, fun e he => by simp at he, fun e he hl => by cases hl⟩⟩
  case round =>
    obtain ⟨todo, cnt, hrg, hex, hin⟩ := hrel
    have HIN := Lib.hid (And.intro hex.out hin.out)
    have HRG := Lib.hid hrg
    clear hex hin
    go_wp2_with (at_next; refine wpList_nextV rfl _ rfl rfl hrg ?_ ?_)
    · intro hl0
      obtain ⟨E2, hP, hB, h1, h2⟩ := HIN.out.2
      have hnd : ((cntE E2).map (·.1)).Nodup := by
        obtain ⟨_, _, _, _, hn, _⟩ := hP.map
        rw [entM_names] at hn; exact hn
      have hperm : (cntE E2).Perm (cntE E) := (List.perm_ext_iff_of_nodup (cntE_nodup hnd) (cntE_nodup H.out.1.ok.nodup)).2 fun p => by
        constructor
        · intro hp
          obtain ⟨e2, he2, rfl⟩ := List.mem_map.1 hp
          obtain ⟨e, he, hc, _⟩ := h1 e2 he2
          rw [hc]; exact mem_cntE he
        · intro hp
          obtain ⟨e, he, rfl⟩ := List.mem_map.1 hp
          obtain ⟨e2, he2, hc⟩ := h2 e he (hl0 e he)
          rw [← hc]; exact mem_cntE he2
      have HFin := Lib.hid (show Ext w wr ∧ BaseAt S wr bb2 r2 E2 ∧ (cntE E2).Perm (cntE E) ∧ ∀ k, OwnB bb2 r2 E2 k → w.heap.size ≤ k from by
        obtain ⟨x1, x2, x3, x4, x5, x6, x7, x8, x9⟩ := HX0.out
        have hin := H.out.1.inS
        have hsz := HIN.out.1.1.size
        have hsz0 := x1.size
        refine ⟨HIN.out.1.1, { blk := by rw [total_perm hperm, H.out.2.2]; exact hB, map := hP.map, rows := hP.rows, apart := hP.apart, inS := fun k hk => by have := hin k hk; omega, notS := ⟨fun hs => by have := hin _ hs; omega, fun hs => by have := hin _ hs; omega⟩, ne := by omega, off := fun e he k ho => by have := hP.new e he k ho; omega, ok := ok_perm hperm H.out.1.ok }, hperm, ?_⟩
        rintro k (rfl | rfl | ⟨e, he, ho⟩)
        · omega
        · omega
        · have := hP.new e he k ho; omega)
      clear hP hB h1 h2 hnd hperm
      go_wp2
      go_ret
      exact RetN.mk HFin.out.1 ⟨bb2, r2, E2, rfl, HFin.out.2⟩
    · intro e0 w1 cnt1 he0 hlk hrg1 hlt hg1 hsz hen
      obtain ⟨x, enx⟩ : ∃ x, e0.name = x := ⟨_, rfl⟩
      have hw1 : Ext w w1 := HIN.out.1.1.trans' hg1 fun i hi e => by have := HX0.out; omega
      have hleft : ∀ e ∈ E, (todo e.name && !decide (e.name = e0.name)) = false → todo e.name = false ∨ e = e0 := fun e he h => by
        rw [Bool.and_eq_false_iff] at h
        rcases h with h | h
        · exact .inl h
        · right
          have h1 := nodup_findC H.out.1.ok he
          have h2 := nodup_findC H.out.1.ok he0
          rw [show e.name = e0.name by simpa using h, h2] at h1
          injection h1 with h1; exact h1.symm
      obtain ⟨E2, hP, hB, h1, h2⟩ := HIN.out.2
      have hP1 : PartB S w0.heap.size w1 r2 E2 := by
        have hlt : it < w0.heap.size := HX0.out.2.2.2.2.2.1
        refine ⟨hP.map.kp hg1 (by have := HX0.out; omega), fun e he => (hP.rows e he).move hg1 (fun k e1 ho => by have := hP.new e he k ho; omega) (fun k e1 hs => by have := H.out.1.inS k hs; have := HX0.out; omega) (fun _ x => x) (fun k hk' => by have := H.out.1.inS k hk'; have := hw1.size; omega) (hP.rows e he).notS, hP.apart, hP.new⟩
      have hB1 : Blk w1 bb2 [.map (some r2), .int .i64 m] 65 := hB.kp hg1 (by have := HX0.out; omega)
      have HE := Lib.hid (And.intro he0 (And.intro enx (And.intro hleft (And.intro hlk (And.intro h1 h2)))))
      have HW := Lib.hid (And.intro hrg1 (And.intro hlt (And.intro hw1 (And.intro hsz (And.intro hP1 hB1)))))
      have hcp := fun w' (hw : Ext w1 w') => rowsCopy_q (z := False) (((H.out.1.ext hw1).rows e0 he0).ext hw).q
      have cb := hB1.cell 0 (by simp)
      simp only [List.getElem_cons_zero] at cb
      obtain ⟨eb, eeb⟩ : ∃ eb, e0.b = eb := ⟨_, rfl⟩
      have ept : e0.ptr = .pointer (some ⟨eb, 0, none⟩) := by rw [← eeb]; rfl
      rw [eeb] at hcp
      rw [ept] at hen ⊢
      rw [enx] at hen hlk ⊢
      have HC := Lib.hid hcp
      clear he0 enx hleft hlk h1 h2 hrg1 hlt hw1 hsz hP hP1 hB hB1 hg1 hcp ept eeb hrg
      go_wp2_with fail
      refine draw_begin (fun w' : World => w'.cell? ⟨bb2, 0, none⟩ = some (.map (some r2))) [7] (by kernel_rfl) cb (fun hHeld => ?_)
      (refine draw_free (i := 0) (v := ?_) rfl ?_ ?_; rotate_left; (intro w; go_simp; try with_reducible rfl)); (try simp only [Act.put, List.setIfInBounds_toArray, List.set_cons_zero, List.set_cons_succ])
      (refine draw_free (i := 1) (v := ?_) rfl ?_ ?_; rotate_left; (intro w; go_simp; try with_reducible rfl)); (try simp only [Act.put, List.setIfInBounds_toArray, List.set_cons_zero, List.set_cons_succ])
      (refine draw_free (i := 2) (v := ?_) rfl ?_ ?_; rotate_left; (intro w; go_simp; try with_reducible rfl)); (try simp only [Act.put, List.setIfInBounds_toArray, List.set_cons_zero, List.set_cons_succ])
      (refine draw_in (i := 3) (v := ?_) rfl ?_ ?_; rotate_left; (intro w hSw; (try dsimp only at hSw); go_simp; try with_reducible rfl)); (try simp only [Act.put, List.setIfInBounds_toArray, List.set_cons_zero, List.set_cons_succ])
      (refine draw_free (i := 4) (v := ?_) rfl ?_ ?_; rotate_left; (intro w; go_simp; try with_reducible rfl)); (try simp only [Act.put, List.setIfInBounds_toArray, List.set_cons_zero, List.set_cons_succ])
      (refine draw_free (i := 5) (v := ?_) rfl ?_ ?_; rotate_left; (intro w; go_simp; try with_reducible rfl)); (try simp only [Act.put, List.setIfInBounds_toArray, List.set_cons_zero, List.set_cons_succ])
      refine draw_one (i := 6) ?_
      refine comes_turn (i := 6) rfl (fun K hK => ?_)
      go_simp
      (refine (HC.out _ (Kp.refl w1).drew).mono ?_; rintro e w5 ⟨v, rfl, hk3, _, b', iv', rfl, hb', hiv', hr'⟩; have X5 := Lib.hid (And.intro (show Ext w1 w5 from (Kp.refl w1).drew.trans (Kp.fq hk3)) (And.intro hb' (And.intro hiv' hr'))); clear hk3 hb' hiv' hr')
      go_wp2_with fail
      refine hK.out _ _ ?_ (fun hHeld => ?_)
      · (try dsimp only); (exact X5.out.1.cell cb id)
      clear hK K; (try simp only [Act.put, List.setIfInBounds_toArray, List.set_cons_zero, List.set_cons_succ])
      refine draw_one (i := 7) ?_
      refine comes_late (i := 7) rfl (by kernel_rfl) (fun K hK => ?_)
      (obtain ⟨w6, hu, hm6, hk6⟩ := run_update_str (P := Tryz.prog) Tryz.underlying63 Tryz.underlying9 (HW.out.2.2.2.2.1.map.ext X5.out.1) x (.pointer (some ⟨b', 0, none⟩)))
      go_simp
      refine hK.out _ _ ?_
      clear hK K; (try simp only [Act.put, List.setIfInBounds_toArray, List.set_cons_zero, List.set_cons_succ])
      refine wpAnyD_done (by kernel_rfl) ?_ _
      have HFin := Lib.hid (show IterE w6 mv it E (fun s => todo s && !decide (s = e0.name)) cnt1 ∧ Ext w w6 ∧ w0.heap.size ≤ w6.heap.size ∧ ∃ E2, PartB S w0.heap.size w6 r2 E2 ∧ Blk w6 bb2 [.map (some r2), .int .i64 m] 65 ∧ (∀ e2 ∈ E2, ∃ e ∈ E, e2.cnt = e.cnt ∧ (todo e.name && !decide (e.name = e0.name)) = false) ∧ (∀ e ∈ E, (todo e.name && !decide (e.name = e0.name)) = false → ∃ e2 ∈ E2, e2.cnt = e.cnt) from by
        obtain ⟨hrg1, hlt, hw1, hsz, hP1, hB1⟩ := HW.out
        obtain ⟨he0, enx, hleft, hlk, h1, h2⟩ := HE.out
        obtain ⟨hx5, hb', hiv', hr'⟩ := X5.out
        obtain ⟨x1, x2, x3, x4, x5, x6, x7, x8, x9⟩ := HX0.out
        have hin := H.out.1.inS
        have hs0 := x1.size
        have hs1 := hw1.size
        have hs01 := HIN.out.1.2
        have hs5 := hx5.size
        have hs6 := hk6.size
        have hk16 : Kp (fun k => k = r2) w1 w6 := (Ext.kp hx5).trans hk6
        have hrg6 := hrg1.kp hk16 (by omega) (fun r hr e => by have := H.out.1.mapLt r hr; omega)
        have hown : ∀ k, Owns b' iv' k → w1.heap.size ≤ k := fun k ho => by
          rcases ho with ho | ho
          · rw [ho]; exact hb'
          · exact hiv' k ho
        have hP6 := (hP1.ext hx5).snoc (e := { name := x, b := b', iv := iv', ar := e0.ar, LL := e0.LL }) (fun k hk => by have := hin k hk; omega) x5 (fun hs => by have := hin _ hs; omega) hk6 hm6 (fun f hf e => by
          obtain ⟨g, hg, hc, hl⟩ := h1 f hf
          have e2 : f.name = g.name := congrArg Prod.fst hc
          rw [← e2, show f.name = x from e, ← enx, hlk] at hl
          cases hl) hr' (fun k ho => by have := hown k ho; omega) (fun f hf k ho ho2 => by
          have h3 := RowsQ.ownLt (z := True) (hP1.rows f hf).q k ho
          have h4 := hown k ho2
          omega)
        refine ⟨hrg6, hw1.trans' hk16 fun k hk e => by omega, by omega, _, hP6, (hB1.ext hx5).kp hk6 (by omega), fun e2 he2 => ?_, fun e he hl => ?_⟩
        · rcases List.mem_append.1 he2 with he2 | he2
          · obtain ⟨e, he, hc, hl⟩ := h1 e2 he2
            exact ⟨e, he, hc, by rw [hl]; rfl⟩
          · rw [List.mem_singleton.1 he2]
            exact ⟨e0, he0, by show (x, e0.ar, e0.LL) = (e0.name, e0.ar, e0.LL); rw [enx], by simp⟩
        · rcases hleft e he hl with h | rfl
          · obtain ⟨e2, he2, hc⟩ := h2 e he h
            exact ⟨e2, List.mem_append_left _ he2, hc⟩
          · exact ⟨_, List.mem_append_right _ (List.mem_singleton.2 rfl), by show (x, e.ar, e.LL) = (e.name, e.ar, e.LL); rw [enx]⟩)
      clear hu hm6 hk6 hHeld cb hen
      go_wp2
      go_roundw
      case rel => exact ⟨_, _, HFin.out.1, Lib.hid ⟨HFin.out.2.1, HFin.out.2.2.1⟩, Lib.hid HFin.out.2.2.2⟩
      case measure =>
        rw [HFin.out.1.left_eq, HRG.out.left_eq]
        exact HW.out.2.1
theorem baseCopy_nil (w : World) : Calls Tryz.prog 69 #[.pointer none] w (Ret (.pointer none) w) := by
  go_enter Tryz.func69, Tryz.ntmps69
  go_wp2
  go_ret
  exact Ret.mk rfl
end Go.Proofs.YtfkhelihepbehaaGreat

/- maps.Copy of a base's map into an empty one. -/
namespace Go.Proofs.YtfkhelihepbehaaGreat
open Go.RowKit Go.Maps
set_option linter.unusedVariables false

theorem entE_nodup {E : List Ent} (h : ((entM E).map (·.1)).Nodup) : E.Nodup := by
  induction E with
  | nil => exact List.nodup_nil
  | cons p C ih =>
    have h' : (p.name :: (entM C).map (·.1)).Nodup := h
    rw [List.nodup_cons] at h'
    exact List.nodup_cons.2 ⟨fun hp => h'.1 (List.mem_map.2 ⟨(p.name, p.ptr), List.mem_map.2 ⟨p, hp, rfl⟩, rfl⟩), ih h'.2⟩
def MCopyTo (w0 : World) (E : List Ent) (mv : Value) (it r2 : Nat) (w : World) : Prop := ∃ todo cnt, IterE w mv it E todo cnt ∧ Hid (Kp (fun k => k = r2) w0 w) ∧
  Hid (∃ E2, MapIs w r2 (entM E2) ∧ ∀ e, e ∈ E2 ↔ e ∈ E ∧ todo e.name = false)
set_option maxRecDepth 100000 in
set_option maxHeartbeats 4000000 in
theorem mapsCopy_any {w : World} {mv : Value} {E : List Ent} {r2 : Nat} (hm : MapV w mv E) (hok : BaseOk (cntE E)) (hl : E.length ≤ 1048576) (h2 : MapIs w r2 []) (hne : ∀ r, mv = .map (some r) → r ≠ r2) :
    Calls Tryz.prog 121 #[.map (some r2), mv] w (RetF (fun k => k = r2) w fun w' v => ∃ E2, MapIs w' r2 (entM E2) ∧ E2.Perm E) := by
  have hks : ∀ e ∈ E, e.name.size ≤ maxLen := fun e he => by
    have h2 : 1 ≤ e.name.size ∧ e.name.size ≤ 4096 := of_decide_eq_true (hok.all _ (mem_cntE he)).name
    unfold maxLen; omega
  have H := Lib.hid (And.intro hok (And.intro h2 hne))
  have hlt := h2.lt
  have HL := Lib.hid (And.intro hks (show E.length ≤ maxLen by unfold maxLen; omega))
  clear hok h2 hne hks hl
  go_enter Tryz.func121, Tryz.ntmps121
  go_wp2_with (at_range; refine wpList_rangeV rfl _ rfl rfl hm HL.out.1 HL.out.2 ?_; intro w0 cnt0 hrg0 hx0 hs0)
  go_frame
  obtain ⟨it, eit⟩ : ∃ it, w.heap.size = it := ⟨_, rfl⟩
  have HX0 := Lib.hid (And.intro hx0 (And.intro hlt eit))
  rw [eit] at hrg0
  try rw [eit]
  clear hx0 hs0 eit hm hlt
  go_loopw [] (fun wr => MCopyTo w E mv it r2 wr) (fun wr => leftV wr mv it)
  case atStart => exact ⟨_, _, hrg0, Lib.hid (Ext.kp HX0.out.1), Lib.hid ⟨[], H.out.2.1.ext HX0.out.1, fun e => by simp⟩⟩
  case round =>
    obtain ⟨todo, cnt, hrg, hex, hin⟩ := hrel
    have HIN := Lib.hid (And.intro hex.out hin.out)
    have HRG := Lib.hid hrg
    clear hex hin
    go_wp2_with (at_next; refine wpList_nextV rfl _ rfl rfl hrg ?_ ?_)
    · intro hl0
      obtain ⟨E2, hP, hB⟩ := HIN.out.2
      have hperm : E2.Perm E := (List.perm_ext_iff_of_nodup (entE_nodup (by obtain ⟨_, _, _, _, hn, _⟩ := hP; exact hn)) (entE_nodup (by rw [entM_names]; exact H.out.1.nodup))).2 fun e => by
        rw [hB e]
        exact ⟨fun h => h.1, fun h => ⟨h, hl0 e h⟩⟩
      have HFin := Lib.hid (And.intro hP hperm)
      clear hP hB hperm
      go_wp2
      go_end0
      exact RetF.mk HIN.out.1 ⟨E2, HFin.out.1, HFin.out.2⟩
    · intro e0 w1 cnt1 he0 hlk hrg1 hlt hg1 hsz hen
      obtain ⟨E2, hP, hB⟩ := HIN.out.2
      have hit : it ≠ r2 := fun e => by have := HX0.out; omega
      have hP1 := hP.kp hg1 (fun e => hit e.symm)
      obtain ⟨w6, hu, hm6, hk6⟩ := run_update_str (P := Tryz.prog) Tryz.underlying63 Tryz.underlying9 hP1 e0.name e0.ptr
      have hn : ∀ f ∈ E2, f.name ≠ e0.name := fun f hf e => by
        have := ((hB f).1 hf).2
        rw [e, hlk] at this; cases this
      have hput : putM (entM E2) e0.name e0.ptr = entM (E2 ++ [e0]) := by
        unfold putM
        rw [getM_none fun p hp => by obtain ⟨f, hf, rfl⟩ := List.mem_map.1 hp; exact hn f hf]
        simp [entM]
      rw [hput] at hm6
      have HFin := Lib.hid (show IterE w6 mv it E (fun s => todo s && !decide (s = e0.name)) cnt1 ∧ Kp (fun k => k = r2) w w6 ∧ MapIs w6 r2 (entM (E2 ++ [e0])) ∧ cnt1 < cnt ∧ ∀ e, e ∈ E2 ++ [e0] ↔ e ∈ E ∧ (todo e.name && !decide (e.name = e0.name)) = false from by
        refine ⟨hrg1.kp hk6 hit (fun r hr => H.out.2.2 r hr), (HIN.out.1.trans' hg1 fun i hi e => by have := HX0.out; omega).trans hk6, hm6, hlt, fun e => ?_⟩
        rw [List.mem_append, List.mem_singleton, hB e, Bool.and_eq_false_iff]
        constructor
        · rintro (⟨h1, h2⟩ | rfl)
          · exact ⟨h1, .inl h2⟩
          · exact ⟨he0, .inr (by simp)⟩
        · rintro ⟨h1, h2 | h2⟩
          · exact .inl ⟨h1, h2⟩
          · right
            have h3 := nodup_findC H.out.1 h1
            rw [show e.name = e0.name by simpa using h2, nodup_findC H.out.1 he0] at h3
            injection h3 with h3; exact h3.symm)
      obtain ⟨x, ex⟩ : ∃ x, e0.name = x := ⟨_, rfl⟩
      obtain ⟨v0, ev0⟩ : ∃ v0, e0.ptr = v0 := ⟨_, rfl⟩
      rw [ex, ev0] at hen hu ⊢
      clear hrg1 hlt hg1 hsz hP hP1 hm6 hk6 hn hput hB hlk ex ev0 hrg
      go_wp2
      go_roundw
      case rel => exact ⟨_, _, HFin.out.1, Lib.hid HFin.out.2.1, Lib.hid ⟨_, HFin.out.2.2.1, HFin.out.2.2.2.2⟩⟩
      case measure =>
        rw [HFin.out.1.left_eq, HRG.out.left_eq]
        exact HFin.out.2.2.2.1
end Go.Proofs.YtfkhelihepbehaaGreat

/- tuple.Base: nil ones; one whose map is not made yet. -/
namespace Go.Proofs.YtfkhelihepbehaaGreat
open Go.RowKit
set_option linter.unusedVariables false

theorem baseDecl_nil (v1 v2 : Value) (w : World) : Calls Tryz.prog 56 #[.pointer none, v1, v2] w (Ret (.int .i64 1) w) := by
  go_enter Tryz.func56, Tryz.ntmps56
  go_wp2
  go_ret
  exact Ret.mk rfl
theorem baseAdd_nil (v1 v2 : Value) (w : World) : Calls Tryz.prog 40 #[.pointer none, v1, v2] w (Ret (.tuple #[.bool false, .int .i64 1]) w) := by
  go_enter Tryz.func40, Tryz.ntmps40
  go_wp2
  go_ret2
  exact Ret.mk rfl
theorem baseDrop_nil (v1 v2 : Value) (w : World) : Calls Tryz.prog 65 #[.pointer none, v1, v2] w (Ret (.tuple #[.bool false, .int .i64 1]) w) := by
  go_enter Tryz.func65, Tryz.ntmps65
  go_wp2
  go_ret2
  exact Ret.mk rfl
theorem baseMerge_nil1 (v1 : Value) (w : World) : Calls Tryz.prog 67 #[.pointer none, v1] w (Ret (.int .i64 1) w) := by
  go_enter Tryz.func67, Tryz.ntmps67
  go_wp2
  go_ret
  exact Ret.mk rfl
theorem baseMerge_nil2 (a : Addr) (w : World) : Calls Tryz.prog 67 #[.pointer (some a), .pointer none] w (Ret (.int .i64 1) w) := by
  go_enter Tryz.func67, Tryz.ntmps67
  go_wp2
  go_ret
  exact Ret.mk rfl
theorem baseNames_nil (w : World) : Calls Tryz.prog 58 #[.pointer none] w (Ret (.slice none 0 0) w) := by
  go_enter Tryz.func58, Tryz.ntmps58
  go_wp2
  go_ret
  exact Ret.mk rfl
set_option maxRecDepth 100000 in
theorem baseRels_nil (w : World) : Calls Tryz.prog 25 #[.pointer none] w (Ret (.slice none 0 0) w) := by
  have HN := Lib.hid (baseNames_nil w)
  go_enter Tryz.func25, Tryz.ntmps25
  go_wp2_with fail
  refine HN.out.mono ?_
  rintro e w1 ⟨rfl, rfl⟩
  go_wp2
  go_loopw [10, 3] (fun iv ov wr => iv = .int .i64 0 ∧ ov = .slice none 0 0 ∧ wr = w) (fun _ _ _ => 0)
  case atStart => exact ⟨rfl, rfl, rfl⟩
  case round =>
    obtain ⟨rfl, rfl, rfl⟩ := hrel
    go_wp2
    go_ret
    exact Ret.mk rfl
section
variable {w : World} {bb : Nat}
theorem baseLenM_any {mv : Value} {n : Int} (hB : Blk w bb [mv, .int .i64 n] 65) : Calls Tryz.prog 29 #[.pointer (some ⟨bb, 0, none⟩)] w (Ret (.int .i64 n) w) := by
  have c0 : w.cell? ⟨bb, 1, none⟩ = some (.int .i64 n) := by rw [hB.cell']; rfl
  clear hB
  go_enter Tryz.func29, Tryz.ntmps29
  go_wp2
  go_ret
  exact Ret.mk rfl
theorem baseDrop_zero (hB : Blk w bb [.map none, .int .i64 0] 65) (s : ByteArray) (row : List ByteArray) (v : Value) : Calls Tryz.prog 65 #[.pointer (some ⟨bb, 0, none⟩), .string s, v] w (Ret (.tuple #[.bool (dropR [] s row).1, .int .i64 ((dropR [] s row).2 : Nat)]) w) := by
  have c0 : w.cell? ⟨bb, 0, none⟩ = some (.map none) := by rw [hB.cell']; rfl
  have hc := run_check_str (P := Tryz.prog) (w := w) Tryz.underlying9 s true 9999
  have hf := run_find_str (P := Tryz.prog) (w := w) Tryz.underlying9 s (es := []) (r := none) rfl
  have hz : (zeroValue 94).run Tryz.prog w = .ok (.pointer none) w := by kernel_rfl
  have hlk : (Instr.lookup 63 (.map none) (.string s) false).run Tryz.prog w = .ok (.pointer none) w := by
    simp [Instr.lookup, run_underlying (P := Tryz.prog) Tryz.underlying63, hc, hf, hz, Result.andThen]
  have hnm := named_any s w
  rw [show decide (1 ≤ s.size ∧ s.size ≤ 4096) = namedC s from rfl] at hnm
  clear hB hc hf hz
  cases hn : namedC s with
  | false =>
    have hR : dropR [] s row = (false, 32) := if_pos hn
    rw [hR]
    rw [hn] at hnm
    have HN := Lib.hid hnm
    clear hn hnm hlk hR c0
    go_enter Tryz.func65, Tryz.ntmps65
    go_wp2_with fail
    refine HN.out.mono ?_
    rintro e w' ⟨rfl, rfl⟩
    go_wp2
    go_ret2
    exact Ret.mk rfl
  | true =>
    have hR : dropR [] s row = (false, 0) := by unfold dropR; rw [if_neg (by rw [hn]; simp)]; rfl
    rw [hR]
    rw [hn] at hnm
    have HN := Lib.hid hnm
    clear hn hnm hR
    go_enter Tryz.func65, Tryz.ntmps65
    go_wp2_with fail
    refine HN.out.mono ?_
    rintro e w' ⟨rfl, rfl⟩
    go_wp2
    go_ret2
    exact Ret.mk rfl
end
end Go.Proofs.YtfkhelihepbehaaGreat

/- tuple.Base: Merge: what holds between two rounds of its loops. -/
namespace Go.Proofs.YtfkhelihepbehaaGreat
open Go.RowKit Go.Maps
set_option linter.unusedVariables false

/-- An entry put under its name. -/
def putW (W : List Ent) (f : Ent) : List Ent := if (findE W f.name).isSome then W.map fun g => if g.name = f.name then f else g else W ++ [f]
theorem entM_putW (W : List Ent) (f : Ent) : putM (entM W) f.name f.ptr = entM (putW W f) := by
  unfold putM putW
  rw [entM_get]
  cases hf : findE W f.name with
  | none => simp [entM]
  | some g =>
    simp only [Option.map_some, Option.isSome_some, if_true]
    unfold entM
    rw [List.map_map, List.map_map]
    apply List.map_congr_left
    intro x _
    show (if x.name = f.name then (x.name, f.ptr) else (x.name, x.ptr)) = _
    show _ = ((if x.name = f.name then f else x).name, (if x.name = f.name then f else x).ptr)
    split
    · rename_i h; rw [h]
    · rfl
theorem mem_putW {W : List Ent} {f g : Ent} : g ∈ putW W f ↔ g = f ∨ (g ∈ W ∧ g.name ≠ f.name) := by
  unfold putW
  cases hf : findE W f.name with
  | none =>
    simp only [Option.isSome_none, Bool.false_eq_true, if_false, List.mem_append, List.mem_singleton]
    have hn : ∀ g ∈ W, g.name ≠ f.name := fun g hg e => by
      have := List.find?_eq_none.1 hf g hg
      simp [e] at this
    constructor
    · rintro (h | h)
      · exact .inr ⟨h, hn g h⟩
      · exact .inl h
    · rintro (h | h)
      · exact .inr h
      · exact .inl h.1
  | some x =>
    simp only [Option.isSome_some, if_true, List.mem_map]
    obtain ⟨hx, hxn⟩ := findE_some hf
    constructor
    · rintro ⟨y, hy, e⟩
      split at e
      · exact .inl e.symm
      · rename_i h; subst e; exact .inr ⟨hy, h⟩
    · rintro (h | h)
      · exact ⟨x, hx, by rw [if_pos hxn, h]⟩
      · exact ⟨g, h.1, by rw [if_neg h.2]⟩
theorem putW_some {W : List Ent} {f : Ent} (h : (findE W f.name).isSome = true) : putW W f = W.map fun g => if g.name = f.name then f else g := if_pos h
theorem putW_put {W : List Ent} {f1 f2 : Ent} (h : f1.name = f2.name) : putW (putW W f1) f2 = putW W f2 := by
  cases hf : findE W f2.name with
  | none =>
    have hn : ∀ g ∈ W, g.name ≠ f2.name := fun g hg e => by
      have := List.find?_eq_none.1 hf g hg
      simp [e] at this
    have e1 : putW W f1 = W ++ [f1] := by unfold putW; rw [h, hf]; rfl
    have e2 : putW W f2 = W ++ [f2] := by unfold putW; rw [hf]; rfl
    rw [e1, e2]
    have e3 : findE (W ++ [f1]) f2.name = some f1 := by
      unfold findE at hf ⊢
      rw [List.find?_append, hf]
      simp [h]
    unfold putW
    rw [e3]
    simp only [Option.isSome_some, if_true, List.map_append, List.map_cons, List.map_nil, if_pos h]
    congr 1
    conv => rhs; rw [← List.map_id W]
    apply List.map_congr_left
    intro g hg
    rw [if_neg (hn g hg)]; rfl
  | some x =>
    obtain ⟨hx, hxn⟩ := findE_some hf
    have e1 : putW W f1 = W.map fun g => if g.name = f1.name then f1 else g := by unfold putW; rw [h, hf]; rfl
    have e2 : putW W f2 = W.map fun g => if g.name = f2.name then f2 else g := by unfold putW; rw [hf]; rfl
    have e3 : (findE (putW W f1) f2.name).isSome = true := by
      rw [Option.isSome_iff_ne_none]
      intro h3
      have := List.find?_eq_none.1 h3 f1 (mem_putW.2 (.inl rfl))
      simp [h] at this
    rw [putW_some e3, e1, e2, List.map_map]
    apply List.map_congr_left
    intro g _
    show (if (if g.name = f1.name then f1 else g).name = f2.name then f2 else (if g.name = f1.name then f1 else g)) = if g.name = f2.name then f2 else g
    by_cases hg : g.name = f1.name
    · rw [if_pos hg, if_pos h, if_pos (hg.trans h)]
    · rw [if_neg hg]
/-- No block of both. -/
def apartE (e f : Ent) : Prop := ∀ k, e.own k → ¬ f.own k
theorem apartE.symm {e f : Ent} (h : apartE e f) : apartE f e := fun k h1 h2 => h k h2 h1
theorem putW_apart {W : List Ent} {f : Ent} (hn : (W.map Ent.name).Nodup) (h : W.Pairwise apartE) (hf : ∀ g ∈ W, apartE g f) : (putW W f).Pairwise apartE := by
  unfold putW
  split
  · rw [List.pairwise_map]
    have hn' : W.Pairwise fun a b => a.name ≠ b.name := List.pairwise_map.1 hn
    refine List.Pairwise.imp_of_mem ?_ (h.and hn')
    intro a b ha hb hab
    by_cases h1 : a.name = f.name
    · rw [if_pos h1, if_neg (fun h2 => hab.2 (h1.trans h2.symm))]
      exact (hf b hb).symm
    · rw [if_neg h1]
      by_cases h2 : b.name = f.name
      · rw [if_pos h2]; exact hf a ha
      · rw [if_neg h2]; exact hab.1
  · refine List.pairwise_append.2 ⟨h, List.pairwise_singleton _ _, fun a ha b hb => ?_⟩
    rw [List.mem_singleton] at hb
    subst hb
    exact hf a ha
/-- Between two rounds of the second loop: the map in the making. -/
structure MidM (S : Nat → Prop) (w0 w : World) (r2 : Nat) (E1 E2 : List Ent) (todo : ByteArray → Bool) (W : List Ent) : Prop where
  map : MapIs w r2 (entM W)
  rows : ∀ f ∈ W, RowsAt S w f.b f.iv f.ar f.LL
  apart : W.Pairwise apartE
  mem : ∀ f ∈ W, (f ∈ E1 ∧ ∀ e ∈ E2, e.name = f.name → todo f.name = true) ∨ (∃ e ∈ E2, todo e.name = false ∧ f.cnt = bothC (cntE E1) e.cnt ∧ f.LL.length ≤ 65536 ∧ ∀ k, f.own k → w0.heap.size ≤ k)
  old : ∀ f ∈ E1, (∀ e ∈ E2, e.name = f.name → todo f.name = true) → f ∈ W
  new : ∀ e ∈ E2, todo e.name = false → ∃ f ∈ W, f.cnt = bothC (cntE E1) e.cnt
section
variable {S : Nat → Prop} {w0 w w' : World} {r2 : Nat} {E1 E2 W : List Ent} {todo : ByteArray → Bool}
theorem MidM.names (h : MidM S w0 w r2 E1 E2 todo W) : (W.map Ent.name).Nodup := by
  obtain ⟨_, _, _, _, hn, _⟩ := h.map
  rw [entM_names] at hn
  unfold cntE at hn
  rwa [List.map_map] at hn
theorem MidM.kp {F : Nat → Prop} (h : MidM S w0 w r2 E1 E2 todo W) (hk : Kp F w w') (hr : ¬ F r2) (hF : ∀ f ∈ W, ∀ k, F k → ¬ f.own k) (hS : ∀ k, F k → ¬ S k) (hS2 : ∀ k, S k → k < w.heap.size) : MidM S w0 w' r2 E1 E2 todo W :=
  ⟨h.map.kp hk hr, fun f hf => (h.rows f hf).move hk (hF f hf) hS (fun _ x => x) (fun k hk' => Nat.lt_of_lt_of_le (hS2 k hk') hk.size) (h.rows f hf).notS, h.apart, h.mem, h.old, h.new⟩
theorem MidM.ownLt (h : MidM S w0 w r2 E1 E2 todo W) {f : Ent} (hf : f ∈ W) : ∀ k, f.own k → k < w.heap.size := RowsQ.ownLt (z := True) (h.rows f hf).q
theorem MidM.step (h : MidM S w0 w r2 E1 E2 todo W) (hok : BaseOk (cntE E2)) {e0 f : Ent} (he0 : e0 ∈ E2) (ht : todo e0.name = true) (hc : f.cnt = bothC (cntE E1) e0.cnt) (h65 : f.LL.length ≤ 65536) (hlo : ∀ k, f.own k → w0.heap.size ≤ k) (hap : ∀ k, f.own k → ∀ g ∈ W, ¬ g.own k)
    (hm : MapIs w' r2 (entM (putW W f))) (hrows : ∀ g ∈ putW W f, RowsAt S w' g.b g.iv g.ar g.LL) : MidM S w0 w' r2 E1 E2 (fun s => todo s && !decide (s = e0.name)) (putW W f) := by
  have hfn : f.name = e0.name := congrArg Prod.fst hc
  have hleft : ∀ e ∈ E2, (todo e.name && !decide (e.name = e0.name)) = false → todo e.name = false ∨ e = e0 := fun e he h => by
    rw [Bool.and_eq_false_iff] at h
    rcases h with h | h
    · exact .inl h
    · right
      have h1 := nodup_findC hok he
      have h2 := nodup_findC hok he0
      rw [show e.name = e0.name by simpa using h, h2] at h1
      injection h1 with h1; exact h1.symm
  refine ⟨hm, hrows, putW_apart h.names h.apart fun g hg k h1 h2 => hap k h2 g hg h1, fun g hg => ?_, fun g hg hk => ?_, fun e he hl => ?_⟩
  · rcases mem_putW.1 hg with rfl | ⟨hg, hne⟩
    · exact .inr ⟨e0, he0, by simp, hc, h65, hlo⟩
    · rcases h.mem g hg with ⟨h1, h2⟩ | ⟨e, he, h1, h2⟩
      · refine .inl ⟨h1, fun e he hn => ?_⟩
        rw [h2 e he hn, decide_eq_false (by rw [← hfn]; exact hne)]; rfl
      · exact .inr ⟨e, he, by rw [h1]; rfl, h2⟩
  · refine mem_putW.2 (.inr ⟨h.old g hg fun e he hn => ?_, fun hn => ?_⟩)
    · have := hk e he hn
      rw [Bool.and_eq_true] at this; exact this.1
    · have := hk e0 he0 (by rw [hn, hfn])
      rw [hn, hfn] at this
      simp at this
  · rcases hleft e he hl with h1 | rfl
    · obtain ⟨g, hg, hgc⟩ := h.new e he h1
      refine ⟨g, mem_putW.2 (.inr ⟨hg, fun hn => ?_⟩), hgc⟩
      have h3 : g.name = e.name := congrArg Prod.fst hgc
      rw [← h3, hn, hfn, ht] at h1
      cases h1
    · exact ⟨f, mem_putW.2 (.inl rfl), hc⟩
theorem rows_past {b ar : Nat} {iv : Value} {LL : List (List ByteArray)} (h : RowsAt S w b iv ar LL) (hk : Kp (fun k => k = r2) w w') (h1 : ¬ Owns b iv r2) (h2 : ¬ S r2) : RowsAt S w' b iv ar LL :=
  h.move hk (fun k e ho => h1 (e ▸ ho)) (fun k e hs => h2 (e ▸ hs)) (fun _ x => x) (fun k hk' => Nat.lt_of_lt_of_le (h.inS k hk') hk.size) h.notS
theorem MidM.gap {p : Nat} (h : MidM S w0 w r2 E1 E2 todo W) (h1 : ∀ f ∈ E1, ∀ k, f.own k → k < p) (h2 : p < w0.heap.size) : ∀ f ∈ W, ¬ f.own p := fun f hf ho => by
  rcases h.mem f hf with ⟨h3, _⟩ | ⟨_, _, _, _, _, h3⟩
  · have := h1 f h3 p ho; omega
  · have := h3 p ho; omega
theorem MidM.put (h : MidM S w0 w r2 E1 E2 todo W) (hok : BaseOk (cntE E2)) {e0 f : Ent} (he0 : e0 ∈ E2) (ht : todo e0.name = true) (hc : f.cnt = bothC (cntE E1) e0.cnt) (h65 : f.LL.length ≤ 65536) (hw0 : w0.heap.size ≤ w.heap.size) (hlo : ∀ k, f.own k → w.heap.size ≤ k)
    (hk : Kp (fun k => k = r2) w w') (hgap : ∀ g ∈ W, ¬ g.own r2) (hSr : ¬ S r2) (hm : MapIs w' r2 (entM (putW W f))) (hrow : RowsAt S w' f.b f.iv f.ar f.LL) : MidM S w0 w' r2 E1 E2 (fun s => todo s && !decide (s = e0.name)) (putW W f) :=
  h.step hok he0 ht hc h65 (fun k ho => Nat.le_trans hw0 (hlo k ho)) (fun k ho g hg h2 => by have := hlo k ho; have := h.ownLt hg k h2; omega) hm fun g hg => by
    rcases mem_putW.1 hg with rfl | ⟨hg, _⟩
    · exact hrow
    · exact rows_past (h.rows g hg) hk (hgap g hg) hSr
theorem both_none {e : Ent} (h : findE E1 e.name = none) : bothC (cntE E1) e.cnt = e.cnt := by
  unfold bothC unionL
  rw [show e.cnt.1 = e.name from rfl, cntE_get, h]; rfl
theorem both_some {e f : Ent} (h : findE E1 e.name = some f) : bothC (cntE E1) e.cnt = (e.name, e.ar, newS cmpRow (f.LL ++ e.LL)) := by
  unfold bothC unionL
  rw [show e.cnt.1 = e.name from rfl, cntE_get, h]; rfl
theorem MidM.perm (h : MidM S w0 w r2 E1 E2 todo W) (h1 : BaseOk (cntE E1)) (h2 : BaseOk (cntE E2)) (hl : ∀ e ∈ E2, todo e.name = false) : (cntE W).Perm (mergeL (cntE E1) (cntE E2)) := by
  have hnW : ((cntE W).map (·.1)).Nodup := by
    have := h.names
    unfold cntE
    rwa [List.map_map]
  have hnM : ((mergeL (cntE E1) (cntE E2)).map (·.1)).Nodup := merge_names h1.nodup h2.nodup
  have hnd : (mergeL (cntE E1) (cntE E2)).Nodup := by
    have := List.pairwise_map.1 hnM
    exact this.imp fun h e => h (by rw [e])
  refine (List.perm_ext_iff_of_nodup (cntE_nodup hnW) hnd).2 fun p => ?_
  have hkeep : ∀ f : Ent, (∀ e ∈ E2, e.name = f.name → todo f.name = true) ↔ getC (cntE E2) f.name = none := fun f => by
    constructor
    · intro hk
      rw [getC_none]
      intro hp
      obtain ⟨q, hq, e⟩ := List.mem_map.1 hp
      obtain ⟨x, hx, rfl⟩ := List.mem_map.1 hq
      have h3 : x.name = f.name := e
      have h4 := hl x hx
      rw [h3, hk x hx h3] at h4
      cases h4
    · intro hg e he hn
      exact absurd (List.mem_map.2 ⟨e.cnt, mem_cntE he, hn⟩) (getC_none.1 hg)
  unfold mergeL onlyC
  rw [List.mem_append, List.mem_filter, List.mem_map]
  constructor
  · intro hp
    obtain ⟨f, hf, rfl⟩ := List.mem_map.1 hp
    rcases h.mem f hf with ⟨h3, h4⟩ | ⟨e, he, _, hc, _⟩
    · left
      refine ⟨mem_cntE h3, ?_⟩
      show (getC (cntE E2) f.name).isNone = true
      rw [(hkeep f).1 h4]; rfl
    · exact .inr ⟨e.cnt, mem_cntE he, hc.symm⟩
  · rintro (⟨hp, hq⟩ | ⟨q, hq, e⟩)
    · obtain ⟨f, hf, rfl⟩ := List.mem_map.1 hp
      refine mem_cntE (h.old f hf ((hkeep f).2 ?_))
      have hq' : (getC (cntE E2) f.name).isNone = true := hq
      simpa using hq'
    · obtain ⟨x, hx, rfl⟩ := List.mem_map.1 hq
      obtain ⟨f, hf, hc⟩ := h.new x hx (hl x hx)
      rw [← e, ← hc]; exact mem_cntE hf
theorem MidM.start (hok : BaseOk (cntE E1)) {W : List Ent} (hm : MapIs w r2 (entM W)) (hp : W.Perm E1) (hr : ∀ e ∈ E1, RowsAt S w e.b e.iv e.ar e.LL) (ha : E1.Pairwise apartE) : MidM S w0 w r2 E1 E2 (fun _ => true) W :=
  ⟨hm, fun f hf => hr f (hp.mem_iff.1 hf), (hp.symm.pairwise_iff apartE.symm).1 ha, fun f hf => .inl ⟨hp.mem_iff.1 hf, fun _ _ _ => rfl⟩, fun f hf _ => hp.mem_iff.2 hf, fun e _ h => by cases h⟩
theorem MidM.finish {wW wr : World} {bb : Nat} {m1 : Value} (hM : MidM S w0 wW r2 E1 E2 todo W) (h1 : BaseM S w bb m1 E1) (h2 : BaseOk (cntE E2)) (hS : ¬ S bb) (hoff : ∀ e ∈ E1, ∀ k, e.own k → k ≠ bb) (hperm : (cntE W).Perm (mergeL (cntE E1) (cntE E2))) (hR : mergeR (cntE E1) (cntE E2) = 0)
    (hx : Ext w wr) (hxW : Ext wW wr) (hr2 : w.heap.size ≤ r2) (hr0 : r2 < w0.heap.size) :
    BaseAt S ((wr.setCell ⟨bb, 0, none⟩ (.map (some r2))).setCell ⟨bb, 1, none⟩ (.int .i64 (totalC (cntE W) : Nat))) bb r2 W ∧ ∀ k, OwnB bb r2 W k → k = bb ∨ OwnE E1 k ∨ w.heap.size ≤ k := by
  have hbl := h1.blk.lt
  have hk : Kp (fun k => k = bb) wr ((wr.setCell ⟨bb, 0, none⟩ (.map (some r2))).setCell ⟨bb, 1, none⟩ (.int .i64 (totalC (cntE W) : Nat))) :=
    ((Kp.refl wr).setCell (F := fun k => k = bb) (p := ⟨bb, 0, none⟩) (fun _ => rfl) _).setCell (p := ⟨bb, 1, none⟩) (fun _ => rfl) _
  have hB := ((h1.blk.ext hx).set 0 (.map (some r2))).set 1 (.int .i64 (totalC (cntE W) : Nat))
  have hz := hk.size
  have hzx := hx.size
  have hoffW : ∀ e ∈ W, ∀ k, e.own k → k ≠ bb ∧ k ≠ r2 := fun e he k ho => by
    rcases hM.mem e he with ⟨h3, _⟩ | ⟨_, _, _, _, _, h3⟩
    · have := RowsQ.ownLt (z := True) (h1.rows e h3).q k ho
      exact ⟨hoff e h3 k ho, by omega⟩
    · have := h3 k ho
      exact ⟨by omega, by omega⟩
  refine ⟨{ blk := by simpa using hB, map := (hM.map.ext hxW).kp hk (by omega), rows := fun e he => rows_past ((hM.rows e he).ext hxW) hk (fun ho => (hoffW e he _ ho).1 rfl) hS, apart := hM.apart, inS := fun k hk' => by have := h1.inS k hk'; omega, notS := ⟨hS, fun hs => by have := h1.inS _ hs; omega⟩, ne := by omega, off := hoffW, ok := ok_perm hperm (merge_ok h1.ok h2 hR) }, ?_⟩
  rintro k (rfl | rfl | ⟨e, he, ho⟩)
  · exact .inl rfl
  · exact .inr (.inr hr2)
  · rcases hM.mem e he with ⟨h3, _⟩ | ⟨_, _, _, _, _, h3⟩
    · exact .inr (.inl ⟨e, h3, ho⟩)
    · have := h3 k ho
      exact .inr (.inr (by omega))
end
/-- The rows of those that are done. -/
def sumT (W : List Ent) (todo : ByteArray → Bool) : Nat := ((W.filter fun f => !todo f.name).map fun f => f.LL.length).sum
theorem sumT_step {todo : ByteArray → Bool} {e0 : Ent} (ht : todo e0.name = true) : ∀ {W : List Ent}, (W.map Ent.name).Nodup → e0 ∈ W → sumT W (fun s => todo s && !decide (s = e0.name)) = sumT W todo + e0.LL.length
  | [], _, h => by simp at h
  | f :: W, hn, h => by
    rw [List.map_cons, List.nodup_cons] at hn
    have hcons : ∀ t : ByteArray → Bool, sumT (f :: W) t = (if t f.name = true then 0 else f.LL.length) + sumT W t := fun t => by
      unfold sumT
      rw [List.filter_cons]
      cases t f.name <;> simp
    rw [hcons, hcons]
    by_cases hf : f.name = e0.name
    · have hfe : f = e0 := by
        rcases List.mem_cons.1 h with h | h
        · exact h.symm
        · exact absurd (List.mem_map.2 ⟨e0, h, hf.symm⟩) hn.1
      have hrest : sumT W (fun s => todo s && !decide (s = e0.name)) = sumT W todo := by
        unfold sumT
        congr 2
        apply List.filter_congr
        intro g hg
        have : g.name ≠ e0.name := fun e => hn.1 (List.mem_map.2 ⟨g, hg, by rw [e, hf]⟩)
        simp [this]
      rw [hrest, hfe, ht]
      simp; omega
    · have hm : e0 ∈ W := by
        rcases List.mem_cons.1 h with h | h
        · exact absurd (by rw [h]) hf
        · exact h
      rw [sumT_step ht hn.2 hm]
      simp [hf]; omega
theorem sumT_none (W : List Ent) : sumT W (fun _ => true) = 0 := by
  unfold sumT
  rw [List.filter_eq_nil_iff.2 (by simp)]; rfl
theorem sumT_all {W : List Ent} {todo : ByteArray → Bool} (h : ∀ e ∈ W, todo e.name = false) : sumT W todo = totalC (cntE W) := by
  unfold sumT totalC cntE
  rw [List.filter_eq_self.2 (fun f hf => by rw [h f hf]; rfl), List.map_map]; rfl
theorem sumT_le (W : List Ent) (todo : ByteArray → Bool) : sumT W todo ≤ totalC (cntE W) := by
  induction W with
  | nil => exact Nat.le_refl _
  | cons f W ih =>
    have hcons : sumT (f :: W) todo = (if todo f.name = true then 0 else f.LL.length) + sumT W todo := by
      unfold sumT
      rw [List.filter_cons]
      cases todo f.name <;> simp
    have h2 : totalC (cntE (f :: W)) = f.LL.length + totalC (cntE W) := by simp [totalC, cntE, Ent.cnt]
    rw [hcons, h2]
    split <;> omega
theorem total_few {W : List Ent} (h : ∀ f ∈ W, f.LL.length ≤ 65536) : totalC (cntE W) ≤ W.length * 65536 := by
  induction W with
  | nil => simp [totalC, cntE]
  | cons f W ih =>
    have h2 : totalC (cntE (f :: W)) = f.LL.length + totalC (cntE W) := by simp [totalC, cntE, Ent.cnt]
    have := h f (List.mem_cons_self ..)
    have := ih fun g hg => h g (List.mem_cons_of_mem _ hg)
    rw [h2, List.length_cons, Nat.add_mul]
    omega
end Go.Proofs.YtfkhelihepbehaaGreat

/- tuple.Base: Merge. -/
namespace Go.Proofs.YtfkhelihepbehaaGreat
open Go.RowKit Go.Maps
set_option linter.unusedVariables false

/-- Has the other base rows of unlike length under this name? -/
def clashE (E1 : List Ent) (e : Ent) : Bool := match findE E1 e.name with
  | some f => decide (f.ar ≠ e.ar)
  | none => false
theorem clashE_eq (E1 E2 : List Ent) : clashC (cntE E1) (cntE E2) = E2.any (clashE E1) := by
  unfold clashC
  rw [show cntE E2 = E2.map Ent.cnt from rfl, List.any_map]
  congr 1
  funext e
  show (match getC (cntE E1) e.name with | some v => decide (v.1 ≠ e.ar) | none => false) = _
  rw [cntE_get]
  unfold clashE
  cases findE E1 e.name <;> rfl
/-- The state of the first loop. -/
def Merge1To (w0 : World) (E1 E2 : List Ent) (mv : Value) (it : Nat) (w : World) : Prop := ∃ todo cnt, IterE w mv it E2 todo cnt ∧ Hid (Ext w0 w) ∧ Hid (∀ e ∈ E2, todo e.name = false → clashE E1 e = false)
/-- The state of the second loop. -/
def Merge2To (S : Nat → Prop) (wo w0 : World) (E1 E2 : List Ent) (mv : Value) (it r2 : Nat) (w : World) : Prop := ∃ todo cnt, IterE w mv it E2 todo cnt ∧ Hid (Ext wo w ∧ w0.heap.size ≤ w.heap.size) ∧ Hid (∃ W, MidM S w0 w r2 E1 E2 todo W)
/-- The state of the third loop. -/
def Merge3To (w0 : World) (W : List Ent) (r2 it : Nat) (nv : Value) (w : World) : Prop := ∃ todo cnt, IterE w (.map (some r2)) it W todo cnt ∧ nv = .int .i64 (sumT W todo : Nat) ∧ Hid (Kp (fun k => k = it) w0 w)
/-- What Merge leaves. -/
def Merged (S : Nat → Prop) (w : World) (bb : Nat) (E1 E2 : List Ent) (w' : World) (v : Value) : Prop :=
  v = .int .i64 ((mergeR (cntE E1) (cntE E2) : Nat) : Int) ∧ (mergeR (cntE E1) (cntE E2) ≠ 0 → Ext w w') ∧ (mergeR (cntE E1) (cntE E2) = 0 → ∃ r' E', BaseAt S w' bb r' E' ∧ (cntE E').Perm (mergeL (cntE E1) (cntE E2)) ∧ ∀ k, OwnB bb r' E' k → k = bb ∨ OwnE E1 k ∨ w.heap.size ≤ k)

set_option maxRecDepth 100000 in
set_option maxHeartbeats 4000000 in
theorem baseMerge_any {S : Nat → Prop} {w : World} {bb bo : Nat} {m1 m2 : Value} {E1 E2 : List Ent} (h1 : BaseM S w bb m1 E1) (h2 : BaseM S w bo m2 E2) (hS : ¬ S bb) (hap : E1.Pairwise apartE) (hoff : ∀ e ∈ E1, ∀ k, e.own k → k ≠ bb) (hl1 : E1.length ≤ 1048576) (hl2 : E2.length ≤ 1048576) :
    Calls Tryz.prog 67 #[.pointer (some ⟨bb, 0, none⟩), .pointer (some ⟨bo, 0, none⟩)] w (RetF (fun k => k = bb) w (Merged S w bb E1 E2)) := by
  have c1 := h1.blk.cell 0 (by simp)
  have c2 := h2.blk.cell 0 (by simp)
  simp only [List.getElem_cons_zero] at c1 c2
  have H := Lib.hid (And.intro h1 (And.intro h2 (And.intro hS (And.intro hl1 hl2))))
  have HAp := Lib.hid (And.intro hap hoff)
  have hm2 := h2.map
  clear h1 h2 hS hl1 hl2 hap hoff
  go_enter Tryz.func67, Tryz.ntmps67
  go_wp2_with (at_range; refine wpList_rangeV rfl _ rfl rfl hm2 H.out.2.1.size (by have := H.out.2.2.2.2; unfold maxLen; omega) ?_; intro w0 cnt0 hrg0 hx0 hs0)
  go_frame
  obtain ⟨it, eit⟩ : ∃ it, w.heap.size = it := ⟨_, rfl⟩
  have HX0 := Lib.hid (And.intro hx0 eit)
  rw [eit] at hrg0
  try rw [eit]
  clear hx0 hs0 eit hm2
  go_loopw [] (fun wr => Merge1To w E1 E2 m2 it wr) (fun wr => leftV wr m2 it)
  case atStart => exact ⟨_, _, hrg0, Lib.hid HX0.out.1, Lib.hid fun e he hl => by cases hl⟩
  case round =>
    obtain ⟨todo, cnt, hrg, hex, hin⟩ := hrel
    have HIN := Lib.hid (And.intro hex.out hin.out)
    have HRG := Lib.hid hrg
    clear hex hin
    go_wp2_with (at_next; refine wpList_nextV rfl _ rfl rfl hrg ?_ ?_)
    · intro hl0
      have HAll := Lib.hid (fun e he => HIN.out.2 e he (hl0 e he))
      clear hl0 hrg0 hrg
      have hmm := @run_makeMap Tryz.prog
      obtain ⟨r2, er2⟩ : ∃ r2, wr.heap.size = r2 := ⟨_, rfl⟩
      obtain ⟨wB, ewB⟩ : ∃ wB, wr.alloc (.map #[] 0) = wB := ⟨_, rfl⟩
      have hxB : Ext w wB := by rw [← ewB]; exact HIN.out.1.alloc _
      have hMB : MapIs wB r2 [] := by rw [← ewB, ← er2]; exact MapIs.new wr
      have hzr := HIN.out.1.size
      have c1B : wB.cell? ⟨bb, 0, none⟩ = some m1 := hxB.cell c1 id
      have hmc := mapsCopy_any (H.out.1.map.ext hxB) H.out.1.ok H.out.2.2.2.1 hMB (fun r hr => by have := H.out.1.mapLt r hr; omega)
      have HMC := Lib.hid hmc
      have HXB := Lib.hid (And.intro hxB (show w.heap.size ≤ r2 ∧ r2 < wB.heap.size from ⟨by omega, hMB.lt⟩))
      clear hmc hxB hMB hzr
      go_wp2_with fail
      refine HMC.out.mono ?_
      rintro e wC ⟨v, rfl, hkC, EW, hmC, hpC⟩
      clear ewB er2 c1B
      have hxC : Ext w wC := HXB.out.1.trans' hkC fun k hk e => by have := HXB.out.2.1; omega
      have c2C := hxC.cell c2 id
      have c1C := hxC.cell c1 id
      have hmC2 := H.out.2.1.map.ext hxC
      have HC0 := Lib.hid (show Ext w wC ∧ (∀ w0, MidM S w0 wC r2 E1 E2 (fun _ => true) EW) ∧ r2 < wC.heap.size from ⟨hxC, fun w0 => MidM.start H.out.1.ok hmC hpC (fun e he => (H.out.1.rows e he).ext hxC) HAp.out.1, Nat.lt_of_lt_of_le HXB.out.2.2 hkC.size⟩)
      clear hkC hmC hpC hxC HMC hmm HIN HRG
      go_wp2_with (at_range; refine wpList_rangeV rfl _ rfl rfl hmC2 H.out.2.1.size (by have := H.out.2.2.2.2; unfold maxLen; omega) ?_; intro w0 cnt0 hrg0 hx0 hs0)
      go_frame
      obtain ⟨it, eit⟩ : ∃ it, wC.heap.size = it := ⟨_, rfl⟩
      rw [eit] at hrg0
      try rw [eit]
      have HX0 := Lib.hid (show Ext w w0 ∧ MidM S w0 w0 r2 E1 E2 (fun _ => true) EW ∧ w.heap.size ≤ r2 ∧ w.heap.size ≤ it ∧ r2 < it ∧ it < w0.heap.size from ⟨HC0.out.1.trans hx0, (HC0.out.2.1 w0).kp hx0 id (fun _ _ _ x => x.elim) (fun _ x => x.elim) (fun k hk => Nat.lt_of_lt_of_le (H.out.1.inS k hk) HC0.out.1.size), HXB.out.2.1, by have := HC0.out.1.size; omega, by have := HC0.out.2.2; omega, by omega⟩)
      clear hx0 hs0 eit hmC2 c1C c2C HC0 HXB
      go_loopw [] (fun wr => Merge2To S w w0 E1 E2 m2 it r2 wr) (fun wr => leftV wr m2 it)
      case atStart => exact ⟨_, _, hrg0, Lib.hid ⟨HX0.out.1, Nat.le_refl _⟩, Lib.hid ⟨_, HX0.out.2.1⟩⟩
      case round =>
        obtain ⟨todo, cnt, hrg, hex, hin⟩ := hrel
        have HIN := Lib.hid (And.intro hex.out hin.out)
        have HRG := Lib.hid hrg
        clear hex hin
        go_wp2_with (at_next; refine wpList_nextV rfl _ rfl rfl hrg ?_ ?_)
        · intro hl0
          obtain ⟨W, hM⟩ := HIN.out.2
          have hperm := hM.perm H.out.1.ok H.out.2.1.ok hl0
          have hnoclash : ¬ clashC (cntE E1) (cntE E2) = true := by
            rw [clashE_eq, List.any_eq_true]
            rintro ⟨e, he, h⟩
            rw [HAll.out e he] at h; cases h
          have hno65 : ¬ (cntE E2).any (fun p => decide (65536 < (unionL (cntE E1) p).length)) = true := by
            rw [List.any_eq_true]
            rintro ⟨p, hp, h⟩
            obtain ⟨e, he, rfl⟩ := List.mem_map.1 hp
            obtain ⟨f, hf, hc⟩ := hM.new e he (hl0 e he)
            have h2 : f.LL = unionL (cntE E1) e.cnt := congrArg (fun p => p.2.2) hc
            rcases hM.mem f hf with ⟨_, h3⟩ | ⟨_, _, _, _, h3, _⟩
            · have h4 := h3 e he (congrArg Prod.fst hc).symm
              have h5 : f.name = e.name := congrArg Prod.fst hc
              rw [h5, hl0 e he] at h4; cases h4
            · rw [h2] at h3
              have := of_decide_eq_true h
              omega
          have hR : mergeR (cntE E1) (cntE E2) = if 262144 < totalC (cntE W) then 4 else 0 := by
            unfold mergeR
            rw [if_neg hnoclash, if_neg hno65, total_perm hperm]
          have hWl : W.length ≤ 2097152 := by
            have h1 := hperm.length_eq
            unfold cntE mergeL onlyC at h1
            rw [List.length_map, List.length_append, List.length_map, List.length_map] at h1
            have h2 := List.length_filter_le (fun p : CntZ => (getC (List.map Ent.cnt E2) p.1).isNone) (List.map Ent.cnt E1)
            rw [List.length_map] at h2
            have := H.out.2.2.2
            omega
          have hWrow : ∀ f ∈ W, f.LL.length ≤ 65536 ∧ f.name.size ≤ maxLen := fun f hf => by
            rcases hM.mem f hf with ⟨h3, _⟩ | ⟨e, he, _, hc, h3, _⟩
            · exact ⟨(H.out.1.ok.all _ (mem_cntE h3)).few, H.out.1.size f h3⟩
            · have h5 : f.name = e.name := congrArg Prod.fst hc
              exact ⟨h3, by rw [h5]; exact H.out.2.1.size e he⟩
          have hWtot := total_few fun f hf => (hWrow f hf).1
          have hmW : MapV wr (.map (some r2)) W := .inr ⟨r2, rfl, hM.map⟩
          have HW := Lib.hid (And.intro hM (And.intro hperm (And.intro hR (And.intro hWrow (And.intro hWl hWtot)))))
          generalize hwW : wr = wW at *
          clear hwW
          have HXW := Lib.hid HIN.out.1
          have c1W := HIN.out.1.1.cell c1 id
          have f0W := (H.out.1.blk.ext HIN.out.1.1).free 0
          have f1W := (H.out.1.blk.ext HIN.out.1.1).free 1
          clear hl0 hM hperm hnoclash hno65 hR hWrow hWl hWtot hrg hrg0 HIN HRG
          go_wp2_with (at_range; refine wpList_rangeV rfl _ rfl rfl hmW (fun e he => (HW.out.2.2.2.1 e he).2) (by have := HW.out.2.2.2.2.1; unfold maxLen; omega) ?_; intro w3 cnt3 hrg3 hx3 hs3)
          go_frame
          obtain ⟨it3, eit3⟩ : ∃ it3, wW.heap.size = it3 := ⟨_, rfl⟩
          rw [eit3] at hrg3
          try rw [eit3]
          have HX3 := Lib.hid (show Ext wW w3 ∧ it3 = wW.heap.size from ⟨hx3, eit3.symm⟩)
          clear hx3 hs3 eit3 hmW c1W f0W f1W
          go_loopw [9] (fun nv wq => Merge3To w3 W r2 it3 nv wq) (fun _ wq => leftV wq (.map (some r2)) it3)
          case atStart => exact ⟨_, _, hrg3, by rw [sumT_none]; rfl, Lib.hid (Kp.refl _)⟩
          case round =>
            obtain ⟨todo3, cnt4, hrg, rfl, hin⟩ := hrel
            have HRG := Lib.hid hrg
            have hxq : Ext w wr := (HXW.out.1.trans HX3.out.1).trans' hin.out fun k hk e => by have := HX3.out.2; have := HXW.out.1.size; omega
            have HQ := Lib.hid (And.intro hin.out hxq)
            clear hin hxq
            go_wp2_with (at_next; refine wpList_nextV rfl _ rfl rfl hrg ?_ ?_)
            · intro hl0
              rw [sumT_all hl0]
              have hxW : Ext wW wr := HX3.out.1.trans' HQ.out.1 fun k hk e => by have := HX3.out.2; omega
              obtain ⟨T, eT⟩ : ∃ T, totalC (cntE W) = T := ⟨_, rfl⟩
              have hTb := HW.out.2.2.2.2.2
              have hWl := HW.out.2.2.2.2.1
              rw [eT] at hTb ⊢
              have c1Q := HQ.out.2.cell c1 id
              have f0Q := (H.out.1.blk.ext HQ.out.2).free 0
              have f1Q := (H.out.1.blk.ext HQ.out.2).free 1
              have c2Q : wr.cell? ⟨bb, 1, none⟩ = some (.int .i64 (totalC (cntE E1) : Nat)) := by rw [(H.out.1.blk.ext HQ.out.2).cell']; rfl
              have HT := Lib.hid (And.intro eT hxW)
              clear hl0 hrg hrg3 eT hxW
              by_cases hmany : 262144 < T
              · have t1 : decide ((T : Int) > 262144) = true := by simp; omega
                have t2 : decide ((262144 : Int) < (T : Int)) = true := by simp; omega
                have hR := HW.out.2.2.1
                rw [HT.out.1, if_pos hmany] at hR
                have HR := Lib.hid hR
                clear hR hmany hTb hWl
                go_wp2
                go_ret
                exact RetF.mk (Ext.kp HQ.out.2) ⟨by rw [HR.out]; rfl, fun _ => HQ.out.2, fun h => by rw [HR.out] at h; cases h⟩
              · have t1 : decide ((T : Int) > 262144) = false := by simp; omega
                have t2 : decide ((262144 : Int) < (T : Int)) = false := by simp; omega
                have hR := HW.out.2.2.1
                rw [HT.out.1, if_neg hmany] at hR
                have HR := Lib.hid hR
                clear hR hmany hTb hWl
                go_wp2
                go_ret
                obtain ⟨x1, x2, x3, x4, x5, x6⟩ := HX0.out
                obtain ⟨f1, f2⟩ := HW.out.1.finish H.out.1 H.out.2.1.ok H.out.2.2.1 HAp.out.2 HW.out.2.1 HR.out HQ.out.2 HT.out.2 x3 (by omega)
                rw [HT.out.1] at f1
                refine RetF.mk (((Ext.kp HQ.out.2).setCell (F := fun k => k = bb) (p := ⟨bb, 0, none⟩) (fun _ => rfl) _).setCell (p := ⟨bb, 1, none⟩) (fun _ => rfl) _) ⟨by rw [HR.out]; rfl, fun h => absurd HR.out h, fun _ => ⟨r2, W, f1, HW.out.2.1, f2⟩⟩
            · intro e0 w1 cnt1 he0 hlk hrg1 hlt hg1 hsz hen
              have hxW : Ext wW w1 := (HX3.out.1.trans' HQ.out.1 fun k hk e => by have := HX3.out.2; omega).trans' hg1 fun k hk e => by have := HX3.out.2; omega
              have hlen := rowsLen_q (z := False) ((HW.out.1.rows e0 he0).ext hxW).q
              have hst := sumT_step hlk HW.out.1.names he0
              have hle := sumT_le W (fun s => todo3 s && !decide (s = e0.name))
              have hTb := HW.out.2.2.2.2.2
              have hWl := HW.out.2.2.2.2.1
              obtain ⟨eb, eeb⟩ : ∃ eb, e0.b = eb := ⟨_, rfl⟩
              obtain ⟨ln, eln⟩ : ∃ ln, e0.LL.length = ln := ⟨_, rfl⟩
              obtain ⟨sm, esm⟩ : ∃ sm, sumT W todo3 = sm := ⟨_, rfl⟩
              obtain ⟨x, enx⟩ : ∃ x, e0.name = x := ⟨_, rfl⟩
              have ept : e0.ptr = .pointer (some ⟨eb, 0, none⟩) := by rw [← eeb]; rfl
              rw [eeb] at hlen
              rw [eln, esm] at hst
              rw [hst] at hle
              have hb : sm + ln ≤ 137438953472 := by omega
              have HL := Lib.hid hlen
              rw [eln] at HL
              have HS := Lib.hid (And.intro hst (And.intro hrg1 (And.intro hlt hg1)))
              rw [ept, enx] at hen
              rw [ept, enx, esm]
              clear hlk hrg1 hlt hg1 hsz hxW hlen hst hle hTb hWl eeb eln esm enx ept hrg hrg3 he0
              go_wp2_with fail
              refine HL.out.mono ?_
              rintro e w2 ⟨v, rfl, hk2, rfl, _⟩
              have HK2 := Lib.hid (Kp.fq hk2)
              clear hk2
              go_wp2
              go_roundw
              case rel => exact ⟨_, _, HS.out.2.1.kp HK2.out id (fun _ _ => id), by rw [HS.out.1, Int.natCast_add], Lib.hid ((HQ.out.1.trans HS.out.2.2.2).ext HK2.out)⟩
              case measure =>
                rw [(HS.out.2.1.kp HK2.out id (fun _ _ => id)).left_eq, HRG.out.left_eq]
                exact HS.out.2.2.1
        · intro e0 w1 cnt1 he0 hlk hrg1 hlt hg1 hsz hen
          obtain ⟨W, hM⟩ := HIN.out.2
          have hxr := HX0.out
          have hE1 : ∀ p, w.heap.size ≤ p → ∀ f ∈ E1, ∀ k, f.own k → k < p := fun p hp f hf k ho => by have := RowsQ.ownLt (z := True) (H.out.1.rows f hf).q k ho; omega
          have hw1 : Ext w w1 := HIN.out.1.1.trans' hg1 fun i hi e => by omega
          have hz1 : w0.heap.size ≤ w1.heap.size := by have := HIN.out.1.2; omega
          have hSn : ∀ p, w.heap.size ≤ p → ¬ S p := fun p hp hs => by have := H.out.1.inS p hs; omega
          have hM1 : MidM S w0 w1 r2 E1 E2 todo W := hM.kp hg1 (by omega) (fun f hf k e ho => by subst e; exact hM.gap (hE1 _ (by omega)) hxr.2.2.2.2.2 f hf ho) (fun k e => by subst e; exact hSn _ (by omega)) (fun k hk => Nat.lt_of_lt_of_le (H.out.1.inS k hk) HIN.out.1.1.size)
          have hgap := hM1.gap (p := r2) (hE1 _ (by omega)) (by omega)
          obtain ⟨x, enx⟩ : ∃ x, e0.name = x := ⟨_, rfl⟩
          obtain ⟨eb, eeb⟩ : ∃ eb, e0.b = eb := ⟨_, rfl⟩
          have ept : e0.ptr = .pointer (some ⟨eb, 0, none⟩) := by rw [← eeb]; rfl
          have hcp := rowsCopy_q (z := False) ((H.out.2.1.ext hw1).rows e0 he0).q
          rw [eeb] at hcp
          have HC := Lib.hid hcp
          have HE := Lib.hid (And.intro he0 (And.intro enx (And.intro hlk (And.intro hrg1 (And.intro hlt (And.intro hw1 (And.intro hz1 (And.intro hM1 (And.intro hgap (And.intro (hSn r2 (by omega)) (And.intro hE1 eeb)))))))))))
          rw [ept, enx] at hen
          rw [ept, enx]
          clear he0 hlk hrg1 hlt hg1 hsz ept hrg hw1 hz1 hSn hM hM1 hgap hxr hcp eeb enx hE1
          go_wp2_with fail
          refine HC.out.mono ?_
          rintro e w5 ⟨v, rfl, hk5, _, b', iv', rfl, hb', hiv', hr'⟩
          have hx5 : Ext w1 w5 := Kp.fq hk5
          obtain ⟨w6, hu, hm6, hk6⟩ := run_update_str (P := Tryz.prog) Tryz.underlying63 Tryz.underlying9 (HE.out.2.2.2.2.2.2.2.1.map.ext hx5) x (.pointer (some ⟨b', 0, none⟩))
          have hxr := HX0.out
          have hx6 : Ext w w6 := (HE.out.2.2.2.2.2.1.trans hx5).trans' hk6 fun k hk e => by omega
          have hlook := (H.out.1.map.ext hx6).lookup x _ rfl
          have c1' := hx6.cell c1 id
          have hown : ∀ k, Owns b' iv' k → w1.heap.size ≤ k := fun k ho => by
            rcases ho with ho | ho
            · rw [ho]; exact hb'
            · exact hiv' k ho
          have H5 := Lib.hid (And.intro hx5 (And.intro hm6 (And.intro hk6 (And.intro hx6 (And.intro hown hr')))))
          clear hk5 hb' hiv' hr' hm6 hk6 hx6 hown hx5 hxr HC
          cases hf : findE E1 x with
          | none =>
            rw [hf] at hlook
            have hlook' : (Instr.lookup 63 m1 (.string x) false).run Tryz.prog w6 = .ok (.pointer none) w6 := hlook
            have HFin := Lib.hid (show IterE w6 m2 it E2 (fun s => todo s && !decide (s = e0.name)) cnt1 ∧ Ext w w6 ∧ w0.heap.size ≤ w6.heap.size ∧ ∃ W, MidM S w0 w6 r2 E1 E2 (fun s => todo s && !decide (s = e0.name)) W from by
              obtain ⟨hx5, hm6, hk6, hx6, hown, hr'⟩ := H5.out
              obtain ⟨he0, enx, hlk, hrg1, hlt, hw1, hz1, hM1, hgap, hSr, hE1, eeb⟩ := HE.out
              obtain ⟨x1, x2, x3, x4, x5, x6⟩ := HX0.out
              have hk16 : Kp (fun k => k = r2) w1 w6 := (Ext.kp hx5).trans hk6
              have hrg6 := hrg1.kp hk16 (by omega) (fun r hr e => by have := H.out.2.1.mapLt r hr; omega)
              refine ⟨hrg6, hx6, by have := hk16.size; omega, putW W ⟨x, b', iv', e0.ar, e0.LL⟩, hM1.put H.out.2.1.ok he0 hlk (by rw [both_none (by rw [enx]; exact hf)]; show (x, e0.ar, e0.LL) = (e0.name, e0.ar, e0.LL); rw [enx]) (H.out.2.1.ok.all _ (mem_cntE he0)).few hz1 hown hk16 hgap hSr (by rw [← entM_putW]; exact hm6) (rows_past hr' hk6 (fun ho => by have := hown _ ho; omega) hSr)⟩)
            clear hlook hf
            go_wp2
            go_roundw
            case rel => exact ⟨_, _, HFin.out.1, Lib.hid ⟨HFin.out.2.1, HFin.out.2.2.1⟩, Lib.hid HFin.out.2.2.2⟩
            case measure =>
              rw [HFin.out.1.left_eq, HRG.out.left_eq]
              exact HE.out.2.2.2.2.1
          | some f0 =>
            rw [hf] at hlook
            obtain ⟨hf0, hfn⟩ := findE_some hf
            obtain ⟨fb, efb⟩ : ∃ fb, f0.b = fb := ⟨_, rfl⟩
            have hlook' : (Instr.lookup 63 m1 (.string x) false).run Tryz.prog w6 = .ok (.pointer (some ⟨fb, 0, none⟩)) w6 := by rw [← efb]; exact hlook
            have har : f0.ar = e0.ar := by
              have := HAll.out e0 HE.out.1
              unfold clashE at this
              rw [HE.out.2.1, hf] at this
              simpa using this
            have hr0 := (H.out.1.rows f0 hf0).ext H5.out.2.2.2.1
            have hr1 := (H.out.2.1.rows e0 HE.out.1).ext H5.out.2.2.2.1
            rw [har] at hr0
            have hun := rowsUnion_g (z1 := False) (z2 := False) hr0.q hr1.q (fun h => h.elim False.elim False.elim) (by have := (H.out.1.ok.all _ (mem_cntE hf0)).few; have := (H.out.2.1.ok.all _ (mem_cntE HE.out.1)).few; have h1 : f0.LL.length ≤ 65536 := ‹_›; have h2 : e0.LL.length ≤ 65536 := ‹_›; omega)
            rw [efb, HE.out.2.2.2.2.2.2.2.2.2.2.2] at hun
            have HU := Lib.hid hun
            have HF := Lib.hid (And.intro hf (And.intro har efb))
            clear hlook hf hf0 hfn efb har hr0 hr1 hun
            go_wp2_with fail
            refine HU.out.mono ?_
            rintro e w7 ⟨v, rfl, hk7, _, _, hq⟩
            have hx7 : Ext w6 w7 := hk7.mono fun _ _ h => h.elim (fun h => h.1) (fun h => h.1)
            have hbo : bothC (cntE E1) e0.cnt = (x, e0.ar, newS cmpRow (f0.LL ++ e0.LL)) := by rw [both_some (by rw [HE.out.2.1]; exact HF.out.1), HE.out.2.1]
            unfold RowsWithQ at hq
            by_cases h65 : 65536 < (newS cmpRow (f0.LL ++ e0.LL)).length
            · rw [if_pos h65] at hq
              subst hq
              have hR : mergeR (cntE E1) (cntE E2) = 4 := by
                unfold mergeR
                rw [if_neg, if_pos]
                · rw [List.any_eq_true]
                  refine ⟨e0.cnt, mem_cntE HE.out.1, decide_eq_true ?_⟩
                  have h9 : (bothC (cntE E1) e0.cnt).2.2 = unionL (cntE E1) e0.cnt := rfl
                  rw [← h9, hbo]; exact h65
                · rw [clashE_eq, List.any_eq_true]
                  rintro ⟨e, he, h⟩
                  rw [HAll.out e he] at h; cases h
              have HR := Lib.hid (And.intro hR (H5.out.2.2.2.1.trans hx7))
              clear hR hx7 hk7 hbo h65 hlook' hu
              go_wp2
              go_ret
              exact RetF.mk (Ext.kp HR.out.2) ⟨by rw [HR.out.1]; rfl, fun _ => HR.out.2, fun h => by rw [HR.out.1] at h; cases h⟩
            · rw [if_neg h65] at hq
              obtain ⟨b2, iv2, rfl, hb2, hiv2, hr2⟩ := hq
              obtain ⟨w8, hu8, hm8, hk8⟩ := run_update_str (P := Tryz.prog) Tryz.underlying63 Tryz.underlying9 (H5.out.2.1.ext hx7) x (.pointer (some ⟨b2, 0, none⟩))
              have HFin := Lib.hid (show IterE w8 m2 it E2 (fun s => todo s && !decide (s = e0.name)) cnt1 ∧ Ext w w8 ∧ w0.heap.size ≤ w8.heap.size ∧ ∃ W, MidM S w0 w8 r2 E1 E2 (fun s => todo s && !decide (s = e0.name)) W from by
                obtain ⟨hx5, hm6, hk6, hx6, hown, hr'⟩ := H5.out
                obtain ⟨he0, enx, hlk, hrg1, hlt, hw1, hz1, hM1, hgap, hSr, hE1, eeb⟩ := HE.out
                obtain ⟨x1, x2, x3, x4, x5, x6⟩ := HX0.out
                have hk16 : Kp (fun k => k = r2) w1 w6 := (Ext.kp hx5).trans hk6
                have hk18 : Kp (fun k => k = r2) w1 w8 := (hk16.ext hx7).trans hk8
                have hrg8 := hrg1.kp hk18 (by omega) (fun r hr e => by have := H.out.2.1.mapLt r hr; omega)
                have hz6 := hk16.size
                have hown2 : ∀ k, Owns b2 iv2 k → w1.heap.size ≤ k := fun k ho => by
                  rcases ho with ho | ho
                  · omega
                  · have := hiv2 k ho; omega
                have hmW : MapIs w8 r2 (entM (putW W ⟨x, b2, iv2, e0.ar, newS cmpRow (f0.LL ++ e0.LL)⟩)) := by
                  have e1 := entM_putW W ⟨x, b', iv', e0.ar, e0.LL⟩
                  have e2 := entM_putW (putW W ⟨x, b', iv', e0.ar, e0.LL⟩) ⟨x, b2, iv2, e0.ar, newS cmpRow (f0.LL ++ e0.LL)⟩
                  rw [putW_put (W := W) (f1 := ⟨x, b', iv', e0.ar, e0.LL⟩) (f2 := ⟨x, b2, iv2, e0.ar, newS cmpRow (f0.LL ++ e0.LL)⟩) rfl, ← e1] at e2
                  rw [← e2]; exact hm8
                refine ⟨hrg8, (hx6.trans hx7).trans' hk8 fun k hk e => by omega, by have := hk18.size; omega, putW W ⟨x, b2, iv2, e0.ar, newS cmpRow (f0.LL ++ e0.LL)⟩, hM1.put H.out.2.1.ok he0 hlk hbo.symm (by show (newS cmpRow (f0.LL ++ e0.LL)).length ≤ 65536; omega) hz1 hown2 hk18 hgap hSr hmW (rows_past hr2 hk8 (fun ho => by have := hown2 _ ho; omega) hSr)⟩)
              clear hk7 hx7 hbo h65 hb2 hiv2 hr2 hm8 hk8
              go_wp2
              go_roundw
              case rel => exact ⟨_, _, HFin.out.1, Lib.hid ⟨HFin.out.2.1, HFin.out.2.2.1⟩, Lib.hid HFin.out.2.2.2⟩
              case measure =>
                rw [HFin.out.1.left_eq, HRG.out.left_eq]
                exact HE.out.2.2.2.2.1
    · intro e0 w1 cnt1 he0 hlk hrg1 hlt hg1 hsz hen
      have hw1 : Ext w w1 := HIN.out.1.trans' hg1 fun i hi e => by have := HX0.out; omega
      have hlook := (H.out.1.map.ext hw1).lookup e0.name _ rfl
      have c1' := hw1.cell c1 id
      obtain ⟨x, enx⟩ : ∃ x, e0.name = x := ⟨_, rfl⟩
      obtain ⟨eb, eeb⟩ : ∃ eb, e0.b = eb := ⟨_, rfl⟩
      obtain ⟨ar, ear⟩ : ∃ ar, e0.ar = ar := ⟨_, rfl⟩
      have ept : e0.ptr = .pointer (some ⟨eb, 0, none⟩) := by rw [← eeb]; rfl
      have d0 : w1.cell? ⟨eb, 2, none⟩ = some (.int .i64 ar) := by rw [← eeb, ((H.out.2.1.rows e0 he0).ext hw1).blk.cell', ear]; rfl
      have hleft : ∀ e ∈ E2, (todo e.name && !decide (e.name = e0.name)) = false → todo e.name = false ∨ e = e0 := fun e he h => by
        rw [Bool.and_eq_false_iff] at h
        rcases h with h | h
        · exact .inl h
        · right
          have h1 := nodup_findC H.out.2.1.ok he
          have h2 := nodup_findC H.out.2.1.ok he0
          rw [show e.name = e0.name by simpa using h, h2] at h1
          injection h1 with h1; exact h1.symm
      have HE := Lib.hid (And.intro he0 (And.intro enx (And.intro ear (And.intro hrg1 (And.intro hlt (And.intro hw1 hleft))))))
      rw [ept, enx] at hen
      rw [ept, enx]
      rw [enx] at hlook
      clear he0 hleft hrg1 hlt hg1 hsz hlk ept eeb ear enx hrg hw1 hrg0
      cases hf : findE E1 x with
      | none =>
        rw [hf] at hlook
        have hlook' : (Instr.lookup 63 m1 (.string x) false).run Tryz.prog w1 = .ok (.pointer none) w1 := hlook
        have HF := Lib.hid hf
        clear hlook hf
        go_wp2
        refine draw_begin (fun w' : World => w'.cell? ⟨eb, 2, none⟩ = some (.int .i64 ar)) [] (by kernel_rfl) d0 (fun hHeld => ?_)
        (refine draw_free (i := 0) (v := ?_) rfl ?_ ?_; rotate_left; (intro w; go_simp; try with_reducible rfl)); (try simp only [Act.put, List.setIfInBounds_toArray, List.set_cons_zero, List.set_cons_succ])
        (refine draw_free (i := 1) (v := ?_) rfl ?_ ?_; rotate_left; (intro w; go_simp; try with_reducible rfl)); (try simp only [Act.put, List.setIfInBounds_toArray, List.set_cons_zero, List.set_cons_succ])
        (refine draw_free (i := 2) (v := ?_) rfl ?_ ?_; rotate_left; (intro w; go_simp; try with_reducible rfl)); (try simp only [Act.put, List.setIfInBounds_toArray, List.set_cons_zero, List.set_cons_succ])
        (first | (refine draw_free (i := 3) (v := ?_) rfl ?_ ?_; rotate_left; (intro w; go_simp; try with_reducible rfl)) | (refine draw_out (i := 3) rfl ?_)); (try simp only [Act.put, List.setIfInBounds_toArray, List.set_cons_zero, List.set_cons_succ])
        (first | (refine draw_free (i := 4) (v := ?_) rfl ?_ ?_; rotate_left; (intro w; go_simp; try with_reducible rfl)) | (refine draw_out (i := 4) rfl ?_)); (try simp only [Act.put, List.setIfInBounds_toArray, List.set_cons_zero, List.set_cons_succ])
        (first | (refine draw_free (i := 5) (v := ?_) rfl ?_ ?_; rotate_left; (intro w; go_simp; try with_reducible rfl)) | (refine draw_out (i := 5) rfl ?_)); (try simp only [Act.put, List.setIfInBounds_toArray, List.set_cons_zero, List.set_cons_succ])
        (first | (refine draw_in (i := 6) (v := ?_) rfl ?_ ?_; rotate_left; (intro w hSw; (try dsimp only at hSw); go_simp; try with_reducible rfl)) | (refine draw_out (i := 6) rfl ?_)); (try simp only [Act.put, List.setIfInBounds_toArray, List.set_cons_zero, List.set_cons_succ])
        (first | (refine draw_free (i := 7) (v := ?_) rfl ?_ ?_; rotate_left; (intro w; go_simp; try with_reducible rfl)) | (refine draw_out (i := 7) rfl ?_)); (try simp only [Act.put, List.setIfInBounds_toArray, List.set_cons_zero, List.set_cons_succ])
        (first | (refine draw_free (i := 8) (v := ?_) rfl ?_ ?_; rotate_left; (intro w; go_simp; try with_reducible rfl)) | (refine draw_out (i := 8) rfl ?_)); (try simp only [Act.put, List.setIfInBounds_toArray, List.set_cons_zero, List.set_cons_succ])
        (first | (refine draw_free (i := 9) (v := ?_) rfl ?_ ?_; rotate_left; (intro w; go_simp; try with_reducible rfl)) | (refine draw_out (i := 9) rfl ?_)); (try simp only [Act.put, List.setIfInBounds_toArray, List.set_cons_zero, List.set_cons_succ])
        (first | (refine draw_in (i := 10) (v := ?_) rfl ?_ ?_; rotate_left; (intro w hSw; (try dsimp only at hSw); go_simp; try with_reducible rfl)) | (refine draw_out (i := 10) rfl ?_)); (try simp only [Act.put, List.setIfInBounds_toArray, List.set_cons_zero, List.set_cons_succ])
        (first | (refine draw_free (i := 11) (v := ?_) rfl ?_ ?_; rotate_left; (intro w; go_simp; try with_reducible rfl)) | (refine draw_out (i := 11) rfl ?_)); (try simp only [Act.put, List.setIfInBounds_toArray, List.set_cons_zero, List.set_cons_succ])
        (refine draw_free (i := 12) (v := ?_) rfl ?_ ?_; rotate_left; (intro w; go_simp; try with_reducible rfl)); (try simp only [Act.put, List.setIfInBounds_toArray, List.set_cons_zero, List.set_cons_succ])
        refine wpAnyD_done (by kernel_rfl) ?_ _
        clear hHeld
        go_wp2
        go_roundw
        case rel => exact ⟨_, _, HE.out.2.2.2.1.kp (Kp.refl w1).drew (F := fun _ => False) id (fun _ _ => id), Lib.hid HE.out.2.2.2.2.2.1.drew, Lib.hid fun e he hl => by
          rcases HE.out.2.2.2.2.2.2 e he hl with h | rfl
          · exact HIN.out.2 e he h
          · unfold clashE; rw [HE.out.2.1, HF.out]⟩
        case measure =>
          rw [(HE.out.2.2.2.1.kp (Kp.refl w1).drew (F := fun _ => False) id (fun _ _ => id)).left_eq, HRG.out.left_eq]
          exact HE.out.2.2.2.2.1
      | some f =>
        rw [hf] at hlook
        have hlook' : (Instr.lookup 63 m1 (.string x) false).run Tryz.prog w1 = .ok (.pointer (some ⟨f.b, 0, none⟩)) w1 := hlook
        obtain ⟨fb, efb⟩ : ∃ fb, f.b = fb := ⟨_, rfl⟩
        obtain ⟨fa, efa⟩ : ∃ fa, f.ar = fa := ⟨_, rfl⟩
        have d1 : w1.cell? ⟨fb, 2, none⟩ = some (.int .i64 fa) := by rw [← efb, ((H.out.1.rows f (findE_some hf).1).ext HE.out.2.2.2.2.2.1).blk.cell', efa]; rfl
        rw [efb] at hlook'
        have hcl : clashE E1 e0 = decide (fa ≠ ar) := by unfold clashE; rw [HE.out.2.1, hf, ← efa, HE.out.2.2.1]
        have HF := Lib.hid (And.intro hf (And.intro efb (And.intro efa hcl)))
        clear hlook hf efb efa hcl
        have HD := Lib.hid (show (fun w' : World => w'.cell? ⟨eb, 2, none⟩ = some (.int .i64 ar) ∧ w'.cell? ⟨fb, 2, none⟩ = some (.int .i64 fa)) w1.drew from ⟨d0, d1⟩)
        by_cases hne : fa = ar
        · have q1 : ((fa : Int) != (ar : Int)) = false := by simp [hne]
          have HNE := Lib.hid hne
          clear hne
          go_wp2
          refine draw_begin (fun w' : World => w'.cell? ⟨eb, 2, none⟩ = some (.int .i64 ar) ∧ w'.cell? ⟨fb, 2, none⟩ = some (.int .i64 fa)) [] (by kernel_rfl) HD.out (fun hHeld => ?_)
          (refine draw_free (i := 0) (v := ?_) rfl ?_ ?_; rotate_left; (intro w; go_simp; try with_reducible rfl)); (try simp only [Act.put, List.setIfInBounds_toArray, List.set_cons_zero, List.set_cons_succ])
          (refine draw_free (i := 1) (v := ?_) rfl ?_ ?_; rotate_left; (intro w; go_simp; try with_reducible rfl)); (try simp only [Act.put, List.setIfInBounds_toArray, List.set_cons_zero, List.set_cons_succ])
          (refine draw_free (i := 2) (v := ?_) rfl ?_ ?_; rotate_left; (intro w; go_simp; try with_reducible rfl)); (try simp only [Act.put, List.setIfInBounds_toArray, List.set_cons_zero, List.set_cons_succ])
          (first | (refine draw_free (i := 3) (v := ?_) rfl ?_ ?_; rotate_left; (intro w; go_simp; try with_reducible rfl)) | (refine draw_out (i := 3) rfl ?_)); (try simp only [Act.put, List.setIfInBounds_toArray, List.set_cons_zero, List.set_cons_succ])
          (first | (refine draw_free (i := 4) (v := ?_) rfl ?_ ?_; rotate_left; (intro w; go_simp; try with_reducible rfl)) | (refine draw_out (i := 4) rfl ?_)); (try simp only [Act.put, List.setIfInBounds_toArray, List.set_cons_zero, List.set_cons_succ])
          (first | (refine draw_free (i := 5) (v := ?_) rfl ?_ ?_; rotate_left; (intro w; go_simp; try with_reducible rfl)) | (refine draw_out (i := 5) rfl ?_)); (try simp only [Act.put, List.setIfInBounds_toArray, List.set_cons_zero, List.set_cons_succ])
          (first | (refine draw_in (i := 6) (v := ?_) rfl ?_ ?_; rotate_left; (intro w hSw; (try dsimp only at hSw); go_simp; try with_reducible rfl)) | (refine draw_out (i := 6) rfl ?_)); (try simp only [Act.put, List.setIfInBounds_toArray, List.set_cons_zero, List.set_cons_succ])
          (first | (refine draw_free (i := 7) (v := ?_) rfl ?_ ?_; rotate_left; (intro w; go_simp; try with_reducible rfl)) | (refine draw_out (i := 7) rfl ?_)); (try simp only [Act.put, List.setIfInBounds_toArray, List.set_cons_zero, List.set_cons_succ])
          (first | (refine draw_free (i := 8) (v := ?_) rfl ?_ ?_; rotate_left; (intro w; go_simp; try with_reducible rfl)) | (refine draw_out (i := 8) rfl ?_)); (try simp only [Act.put, List.setIfInBounds_toArray, List.set_cons_zero, List.set_cons_succ])
          (first | (refine draw_free (i := 9) (v := ?_) rfl ?_ ?_; rotate_left; (intro w; go_simp; try with_reducible rfl)) | (refine draw_out (i := 9) rfl ?_)); (try simp only [Act.put, List.setIfInBounds_toArray, List.set_cons_zero, List.set_cons_succ])
          (first | (refine draw_in (i := 10) (v := ?_) rfl ?_ ?_; rotate_left; (intro w hSw; (try dsimp only at hSw); go_simp; try with_reducible rfl)) | (refine draw_out (i := 10) rfl ?_)); (try simp only [Act.put, List.setIfInBounds_toArray, List.set_cons_zero, List.set_cons_succ])
          (first | (refine draw_free (i := 11) (v := ?_) rfl ?_ ?_; rotate_left; (intro w; go_simp; try with_reducible rfl)) | (refine draw_out (i := 11) rfl ?_)); (try simp only [Act.put, List.setIfInBounds_toArray, List.set_cons_zero, List.set_cons_succ])
          (refine draw_free (i := 12) (v := ?_) rfl ?_ ?_; rotate_left; (intro w; go_simp; try with_reducible rfl)); (try simp only [Act.put, List.setIfInBounds_toArray, List.set_cons_zero, List.set_cons_succ])
          refine wpAnyD_done (by kernel_rfl) ?_ _
          clear hHeld
          go_wp2
          go_roundw
          case rel => exact ⟨_, _, HE.out.2.2.2.1.kp (Kp.refl w1).drew (F := fun _ => False) id (fun _ _ => id), Lib.hid HE.out.2.2.2.2.2.1.drew, Lib.hid fun e he hl => by
            rcases HE.out.2.2.2.2.2.2 e he hl with h | rfl
            · exact HIN.out.2 e he h
            · rw [HF.out.2.2.2, HNE.out]; simp⟩
          case measure =>
            rw [(HE.out.2.2.2.1.kp (Kp.refl w1).drew (F := fun _ => False) id (fun _ _ => id)).left_eq, HRG.out.left_eq]
            exact HE.out.2.2.2.2.1
        · have q1 : ((fa : Int) != (ar : Int)) = true := by rw [bne_iff_ne]; omega
          have HNE := Lib.hid hne
          clear hne
          go_wp2
          refine draw_begin (fun w' : World => w'.cell? ⟨eb, 2, none⟩ = some (.int .i64 ar) ∧ w'.cell? ⟨fb, 2, none⟩ = some (.int .i64 fa)) [] (by kernel_rfl) HD.out (fun hHeld => ?_)
          (refine draw_free (i := 0) (v := ?_) rfl ?_ ?_; rotate_left; (intro w; go_simp; try with_reducible rfl)); (try simp only [Act.put, List.setIfInBounds_toArray, List.set_cons_zero, List.set_cons_succ])
          (refine draw_free (i := 1) (v := ?_) rfl ?_ ?_; rotate_left; (intro w; go_simp; try with_reducible rfl)); (try simp only [Act.put, List.setIfInBounds_toArray, List.set_cons_zero, List.set_cons_succ])
          (refine draw_free (i := 2) (v := ?_) rfl ?_ ?_; rotate_left; (intro w; go_simp; try with_reducible rfl)); (try simp only [Act.put, List.setIfInBounds_toArray, List.set_cons_zero, List.set_cons_succ])
          (first | (refine draw_free (i := 3) (v := ?_) rfl ?_ ?_; rotate_left; (intro w; go_simp; try with_reducible rfl)) | (refine draw_out (i := 3) rfl ?_)); (try simp only [Act.put, List.setIfInBounds_toArray, List.set_cons_zero, List.set_cons_succ])
          (first | (refine draw_free (i := 4) (v := ?_) rfl ?_ ?_; rotate_left; (intro w; go_simp; try with_reducible rfl)) | (refine draw_out (i := 4) rfl ?_)); (try simp only [Act.put, List.setIfInBounds_toArray, List.set_cons_zero, List.set_cons_succ])
          (first | (refine draw_free (i := 5) (v := ?_) rfl ?_ ?_; rotate_left; (intro w; go_simp; try with_reducible rfl)) | (refine draw_out (i := 5) rfl ?_)); (try simp only [Act.put, List.setIfInBounds_toArray, List.set_cons_zero, List.set_cons_succ])
          (first | (refine draw_in (i := 6) (v := ?_) rfl ?_ ?_; rotate_left; (intro w hSw; (try dsimp only at hSw); go_simp; try with_reducible rfl)) | (refine draw_out (i := 6) rfl ?_)); (try simp only [Act.put, List.setIfInBounds_toArray, List.set_cons_zero, List.set_cons_succ])
          (first | (refine draw_free (i := 7) (v := ?_) rfl ?_ ?_; rotate_left; (intro w; go_simp; try with_reducible rfl)) | (refine draw_out (i := 7) rfl ?_)); (try simp only [Act.put, List.setIfInBounds_toArray, List.set_cons_zero, List.set_cons_succ])
          (first | (refine draw_free (i := 8) (v := ?_) rfl ?_ ?_; rotate_left; (intro w; go_simp; try with_reducible rfl)) | (refine draw_out (i := 8) rfl ?_)); (try simp only [Act.put, List.setIfInBounds_toArray, List.set_cons_zero, List.set_cons_succ])
          (first | (refine draw_free (i := 9) (v := ?_) rfl ?_ ?_; rotate_left; (intro w; go_simp; try with_reducible rfl)) | (refine draw_out (i := 9) rfl ?_)); (try simp only [Act.put, List.setIfInBounds_toArray, List.set_cons_zero, List.set_cons_succ])
          (first | (refine draw_in (i := 10) (v := ?_) rfl ?_ ?_; rotate_left; (intro w hSw; (try dsimp only at hSw); go_simp; try with_reducible rfl)) | (refine draw_out (i := 10) rfl ?_)); (try simp only [Act.put, List.setIfInBounds_toArray, List.set_cons_zero, List.set_cons_succ])
          (first | (refine draw_free (i := 11) (v := ?_) rfl ?_ ?_; rotate_left; (intro w; go_simp; try with_reducible rfl)) | (refine draw_out (i := 11) rfl ?_)); (try simp only [Act.put, List.setIfInBounds_toArray, List.set_cons_zero, List.set_cons_succ])
          (refine draw_free (i := 12) (v := ?_) rfl ?_ ?_; rotate_left; (intro w; go_simp; try with_reducible rfl)); (try simp only [Act.put, List.setIfInBounds_toArray, List.set_cons_zero, List.set_cons_succ])
          refine wpAnyD_done (by kernel_rfl) ?_ _
          clear hHeld
          go_wp2
          go_ret
          have hR : mergeR (cntE E1) (cntE E2) = 30 := by
            unfold mergeR
            rw [if_pos]
            rw [clashE_eq, List.any_eq_true]
            exact ⟨e0, HE.out.1, by rw [HF.out.2.2.2]; exact decide_eq_true HNE.out⟩
          refine RetF.mk (Ext.kp HE.out.2.2.2.2.2.1.drew) ⟨by rw [hR]; rfl, fun _ => HE.out.2.2.2.2.2.1.drew, fun h => by rw [hR] at h; cases h⟩
end Go.Proofs.YtfkhelihepbehaaGreat
