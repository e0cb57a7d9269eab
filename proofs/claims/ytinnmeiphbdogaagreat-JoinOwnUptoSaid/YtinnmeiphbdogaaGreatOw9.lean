/- Texts joined for a claim (BaseAdd, BaseAdd2, BaseDecl, BaseFrom, JGiven, JOver, MergePlain, JMorePlain, JBase, JFew, JPath, JAwake, MapIter, BaseCopy, BaseSame, BaseSame2, JOrderPlain). -/
import Derived.Test.YtinnmeiphbdogaaGreatOw8
import Derived.Laws.IdiomRangeMap
set_option linter.unusedVariables false
set_option linter.unusedSimpArgs false
/- tuple.Base: Add, at every base. -/
namespace Go.Proofs.YtinnmeiphbdogaaGreat
open Go.RowKit
theorem aHm {C : List bA} {s : ByteArray} (row : List ByteArray) (h : bV s = false) : dV C s row = (false, 32) := if_pos h
theorem aHn {C : List bA} {s : ByteArray} {row : List ByteArray} (h : bV s = true) (hg : bK C s = none) (hl : 64 < row.length) : dV C s row = (false, 30) := by
 unfold dV
 rw [if_neg (by rw [h]; simp), if_pos (by unfold qM; rw [hg]; exact decide_eq_false (by omega))]
theorem aEk {C : List bA} {s : ByteArray} {row : List ByteArray} {v : Nat × aD} (h : bV s = true) (hg : bK C s = some v) (hl : v.1 ≠ row.length) : dV C s row = (false, 30) := by
 unfold dV
 rw [if_neg (by rw [h]; simp), if_pos (by unfold qM; rw [hg]; exact decide_eq_false hl)]
theorem xZ {C : List bA} {s : ByteArray} {row : List ByteArray} (h : bV s = true) (hg : qM C s row = true) (ht : bO row = false) : dV C s row = (false, 31) := by
 unfold dV
 rw [if_neg (by rw [h]; simp), if_neg (by rw [hg]; simp), if_pos ht]
theorem yA {C : List bA} {s : ByteArray} {row : List ByteArray} (h : bV s = true) (hg : qM C s row = true) (ht : bO row = true) (hm : 262144 ≤ bG C) (hi : bH aC (bF C s) row = false) : dV C s row = (false, 4) := by
 unfold dV
 rw [if_neg (by rw [h]; simp), if_neg (by rw [hg]; simp), if_neg (by rw [ht]; simp), if_pos ⟨hm, hi⟩]
theorem nY {C : List bA} {s : ByteArray} {row : List ByteArray} (h : bV s = true) (hg : qM C s row = true) (ht : bO row = true) (hm : ¬ (262144 ≤ bG C /\ bH aC (bF C s) row = false)) :
 dV C s row = if 65536 ≤ (bF C s).length /\ bH aC (bF C s) row = false then (false, 4) else (!bH aC (bF C s) row, 0) := by
 unfold dV
 rw [if_neg (by rw [h]; simp), if_neg (by rw [hg]; simp), if_neg (by rw [ht]; simp), if_neg hm]
theorem qL {C : List bA} {s : ByteArray} {row : List ByteArray} {v : Nat × aD} (hg : bK C s = some v) (h : v.1 = row.length) : qM C s row = true := by unfold qM; rw [hg]; exact decide_eq_true h
theorem zJ {C : List bA} {s : ByteArray} {row : List ByteArray} (hg : bK C s = none) (h : row.length ≤ 64) : qM C s row = true := by unfold qM; rw [hg]; exact decide_eq_true h
theorem aCe {C : List bA} {s : ByteArray} {row : List ByteArray} (h : (dV C s row).2 ≠ 0) : lO C s row = C := if_neg h
section
variable {S S' : Nat -> Prop} {w w1 w2 w3 w4 : World} {bb r : Nat} {E : List Ent} {s : ByteArray} {ss : List ByteArray} {e : Ent} {iv' : Value}
def BaseAdded (S : Nat -> Prop) (w : World) (bb r : Nat) (E : List Ent) (s : ByteArray) (ss : List ByteArray) (w' : World) (v : Value) : Prop :=
 v = .tuple #[.bool (dV (aN E) s ss).1, .int .i64 ((dV (aN E) s ss).2 : Nat)] /\ ∃ S' E', (∀ k, S k -> S' k) /\ (∀ k, S' k -> S k \/ w.heap.size ≤ k) /\ BaseAt S' w' bb r E' /\ aN E' = lO (aN E) s ss /\ ∀ k, OwnB bb r E' k -> OwnB bb r E k \/ w.heap.size ≤ k
theorem BaseAdded.same (h : BaseAt S w bb r E) (hk : Ext w w1) {n : Nat} (hR : dV (aN E) s ss = (false, n)) (hn : n ≠ 0) {v : Value} (hv : v = .tuple #[.bool false, .int .i64 (n : Nat)]) : BaseAdded S w bb r E s ss w1 v :=
 ⟨by rw [hv, hR], S, E, fun _ h => h, fun _ h => .inl h, h.ext hk, (aCe (by rw [hR]; exact hn)).symm, fun _ h => .inl h⟩
theorem tU {pre post : List Ent} (hiv : ∀ k, iv'.ownBlock = some k -> e.iv.ownBlock = some k \/ w.heap.size ≤ k) (LL' : List (List ByteArray)) : ∀ k, OwnB bb r (pre ++ { e with iv := iv', LL := LL' } :: post) k -> OwnB bb r (pre ++ e :: post) k \/ w.heap.size ≤ k := by
 rintro k (h | h | ⟨f, hf, ho⟩)
 ·exact .inl (.inl h)
 ·exact .inl (.inr (.inl h))
 ·rcases List.mem_append.1 hf with hf | hf
  ·exact .inl (.inr (.inr ⟨f, List.mem_append_left _ hf, ho⟩))
  ·rcases List.mem_cons.1 hf with rfl | hf
   ·rcases ho with ho | ho
    ·exact .inl (.inr (.inr ⟨e, List.mem_append_right _ List.mem_cons_self, .inl ho⟩))
    ·rcases hiv k ho with h2 | h2
     ·exact .inl (.inr (.inr ⟨e, List.mem_append_right _ List.mem_cons_self, .inr h2⟩))
     ·exact .inr h2
   ·exact .inl (.inr (.inr ⟨f, List.mem_append_right _ (List.mem_cons_of_mem _ hf), ho⟩))
theorem nH (h : BaseAt S w bb r E) (he : bB E s = some e) (hx : Ext w w2) (hk : Kp e.own w2 w3) : MapIs w3 r (dJ E) := (h.map.ext hx).kp hk fun ho => (h.off e (bT he).1 r ho).2 rfl
theorem gG (h : BaseAt S w bb r E) (he : bB E s = some e) (hx : Ext w w2) (hk : Kp e.own w2 w3) : Blk w3 bb [.map (some r), .int .i64 (bG (aN E) : Nat)] 129 := (h.blk.ext hx).kp hk fun ho => (h.off e (bT he).1 bb ho).1 rfl
theorem qJ {LL : List (List ByteArray)} (h : BaseAt S w bb r E) (he : bB E s = some e) (hf : bV s = true /\ e.ar = ss.length /\ bO ss = true /\ e.LL = LL /\ ¬ (262144 ≤ bG (aN E) /\ bH aC LL ss = false)) (hx : Ext w w2) (hk : Kp e.own w2 w3) (hss : ∀ k, S k -> S' k) (hsn : ∀ k, S' k -> S k \/ w2.heap.size ≤ k)
 (hr : RowsAt S' w3 e.b iv' e.ar (bL e.ar LL ss)) (hiv : ∀ k, iv'.ownBlock = some k -> e.iv.ownBlock = some k \/ w2.heap.size ≤ k) (h0 : aV e.ar LL ss = if 65536 ≤ LL.length /\ bH aC LL ss = false then (false, 4) else (!bH aC LL ss, 0)) (h4 : 65536 ≤ LL.length /\ bH aC LL ss = false) :
 RetF (OwnB bb r E) w (BaseAdded S w bb r E s ss) (.returned (.tuple #[.bool false, .int .i64 4])) w3 := by
 obtain ⟨f1, f2, f3, f4, f5⟩ := hf
 obtain ⟨g1, g2⟩ := dN he
 have hL : bL e.ar LL ss = LL := by unfold bL; rw [h0, if_pos h4]; rfl
 rw [hL] at hr
 have hR : dV (aN E) s ss = (false, 4) := by
  rw [nY f1 (qL g1 f2) f3 (by rw [g2, f4]; exact f5), g2, f4, if_pos h4]
 have hC : lO (aN E) s ss = aN E := aCe (by rw [hR]; decide)
 obtain ⟨pre, post, rfl⟩ := jK he
 have hem : e ∈ pre ++ e :: post := List.mem_append_right _ List.mem_cons_self
 have hkw : Kp e.own w w3 := (Ext.kp hx).trans hk
 have hz := hx.size
 have hs2 : ∀ k, S' k -> S k \/ w.heap.size ≤ k := fun k hk' => (hsn k hk').imp id fun q => Nat.le_trans hz q
 have hiv2 : ∀ k, iv'.ownBlock = some k -> e.iv.ownBlock = some k \/ w.heap.size ≤ k := fun k hk' => (hiv k hk').imp id fun q => Nat.le_trans hz q
 have hsame : aN (pre ++ { e with iv := iv', LL := LL } :: post) = aN (pre ++ e :: post) := by
  rw [<- f4]; simp [aN, Ent.cnt]
 refine RetF.mk (hkw.mono fun k _ ho => .inr (.inr ⟨e, hem, ho⟩)) ⟨by rw [hR]; rfl, S', pre ++ { e with iv := iv', LL := LL } :: post, hss, hs2, ?_, by rw [hC, hsame], tU hiv2 LL⟩
 exact h.turn hkw hss hs2 hr hiv2 (Kp.refl _) (nH h he hx hk) (gG h he hx hk) (by rw [hsame]) (by rw [hsame]; exact h.ok)
theorem sE {LL : List (List ByteArray)} (h : BaseAt S w bb r E) (he : bB E s = some e) (hf : bV s = true /\ e.ar = ss.length /\ bO ss = true /\ e.LL = LL /\ ¬ (262144 ≤ bG (aN E) /\ bH aC LL ss = false)) (hx : Ext w w2) (hk : Kp e.own w2 w3) (hss : ∀ k, S k -> S' k) (hsn : ∀ k, S' k -> S k \/ w2.heap.size ≤ k)
 (hr : RowsAt S' w3 e.b iv' e.ar (bL e.ar LL ss)) (hiv : ∀ k, iv'.ownBlock = some k -> e.iv.ownBlock = some k \/ w2.heap.size ≤ k) (h0 : aV e.ar LL ss = if 65536 ≤ LL.length /\ bH aC LL ss = false then (false, 4) else (!bH aC LL ss, 0)) (hi : bH aC LL ss = true)
 (hk4 : Kp (fun k => k = r) w3 w4) (hm4 : MapIs w4 r (kU (dJ E) s (.pointer (some ⟨e.b, 0, none⟩)))) : RetF (OwnB bb r E) w (BaseAdded S w bb r E s ss) (.returned (.tuple #[.bool false, .int .i64 0])) w4 := by
 obtain ⟨f1, f2, f3, f4, f5⟩ := hf
 obtain ⟨g1, g2⟩ := dN he
 have hn4 : ¬ (65536 ≤ LL.length /\ bH aC LL ss = false) := fun k => by rw [hi] at k; cases k.2
 have hadd : cM aC LL ss = LL := by unfold cM; rw [if_pos hi]
 have hL : bL e.ar LL ss = LL := by unfold bL; rw [h0, if_neg hn4]; exact hadd
 rw [hL] at hr
 have hR : dV (aN E) s ss = (false, 0) := by
  rw [nY f1 (qL g1 f2) f3 (by rw [g2, f4]; exact f5), g2, f4, if_neg hn4, hi]; rfl
 have hnd := h.ok.nodup
 rw [show kU (dJ E) s (.pointer (some ⟨e.b, 0, none⟩)) = dJ E from aBv he (by rw [pB]; exact hnd)] at hm4
 obtain ⟨pre, post, rfl⟩ := jK he
 have hem : e ∈ pre ++ e :: post := List.mem_append_right _ List.mem_cons_self
 have hkw : Kp e.own w w3 := (Ext.kp hx).trans hk
 have hz := hx.size
 have hs2 : ∀ k, S' k -> S k \/ w.heap.size ≤ k := fun k hk' => (hsn k hk').imp id fun q => Nat.le_trans hz q
 have hiv2 : ∀ k, iv'.ownBlock = some k -> e.iv.ownBlock = some k \/ w.heap.size ≤ k := fun k hk' => (hiv k hk').imp id fun q => Nat.le_trans hz q
 have hsame : aN (pre ++ { e with iv := iv', LL := LL } :: post) = aN (pre ++ e :: post) := by
  rw [<- f4]; simp [aN, Ent.cnt]
 have hC : lO (aN (pre ++ e :: post)) s ss = aN (pre ++ { e with iv := iv', LL := LL } :: post) := by
  unfold lO
  rw [if_pos (by rw [hR]), g2, f4, hadd, <- f2]
  exact aB2 he hnd iv' LL
 refine RetF.mk ((hkw.mono fun k _ ho => .inr (.inr ⟨e, hem, ho⟩)).trans (hk4.mono fun k _ ho => .inr (.inl ho))) ⟨by rw [hR]; rfl, S', pre ++ { e with iv := iv', LL := LL } :: post, hss, hs2, ?_, hC.symm, tU hiv2 LL⟩
 exact h.turn hkw hss hs2 hr hiv2 (hk4.mono fun k _ ho => .inr ho) hm4 ((gG h he hx hk).kp hk4 h.ne) (by rw [hsame]) (by rw [hsame]; exact h.ok)
theorem sF {LL : List (List ByteArray)} {n : Nat} (h : BaseAt S w bb r E) (he : bB E s = some e) (hf : bV s = true /\ e.ar = ss.length /\ bO ss = true /\ e.LL = LL /\ ¬ (262144 ≤ bG (aN E) /\ bH aC LL ss = false)) (hx : Ext w w2) (hk : Kp e.own w2 w3) (hss : ∀ k, S k -> S' k) (hsn : ∀ k, S' k -> S k \/ w2.heap.size ≤ k)
 (hr : RowsAt S' w3 e.b iv' e.ar (bL e.ar LL ss)) (hiv : ∀ k, iv'.ownBlock = some k -> e.iv.ownBlock = some k \/ w2.heap.size ≤ k) (h0 : aV e.ar LL ss = if 65536 ≤ LL.length /\ bH aC LL ss = false then (false, 4) else (!bH aC LL ss, 0)) (hi : bH aC LL ss = false) (hn4 : ¬ (65536 ≤ LL.length /\ bH aC LL ss = false))
 (hk4 : Kp (fun k => k = r) w3 w4) (hm4 : MapIs w4 r (kU (dJ E) s (.pointer (some ⟨e.b, 0, none⟩)))) (en : bG (aN E) = n) : RetF (OwnB bb r E) w (BaseAdded S w bb r E s ss) (.returned (.tuple #[.bool true, .int .i64 0])) (w4.setCell ⟨bb, 1, none⟩ (.int .i64 ((n : Int) + 1))) := by
 obtain ⟨f1, f2, f3, f4, f5⟩ := hf
 obtain ⟨g1, g2⟩ := dN he
 have hL : bL e.ar LL ss = cM aC LL ss := by unfold bL; rw [h0, if_neg hn4]; rfl
 rw [hL] at hr
 have hR : dV (aN E) s ss = (true, 0) := by
  rw [nY f1 (qL g1 f2) f3 (by rw [g2, f4]; exact f5), g2, f4, if_neg hn4, hi]; rfl
 have hnd := h.ok.nodup
 rw [show kU (dJ E) s (.pointer (some ⟨e.b, 0, none⟩)) = dJ E from aBv he (by rw [pB]; exact hnd)] at hm4
 obtain ⟨pre, post, rfl⟩ := jK he
 have hem : e ∈ pre ++ e :: post := List.mem_append_right _ List.mem_cons_self
 have hkw : Kp e.own w w3 := (Ext.kp hx).trans hk
 have hz := hx.size
 have hs2 : ∀ k, S' k -> S k \/ w.heap.size ≤ k := fun k hk' => (hsn k hk').imp id fun q => Nat.le_trans hz q
 have hiv2 : ∀ k, iv'.ownBlock = some k -> e.iv.ownBlock = some k \/ w.heap.size ≤ k := fun k hk' => (hiv k hk').imp id fun q => Nat.le_trans hz q
 have hset := aB2 he hnd iv' (cM aC LL ss)
 have hC : lO (aN (pre ++ e :: post)) s ss = aN (pre ++ { e with iv := iv', LL := cM aC LL ss } :: post) := by
  unfold lO
  rw [if_pos (by rw [hR]), g2, f4, <- f2]
  exact hset
 have htot : n + 1 = bG (aN (pre ++ { e with iv := iv', LL := cM aC LL ss } :: post)) := by
  have h1 := wE hnd (s := s) (v := (e.ar, cM aC LL ss))
  rw [hset, g2, f4] at h1
  have h2 := qN (c := aC) LL ss
  rw [hi] at h2
  simp only [Bool.false_eq_true, if_false] at h2
  have h3 : (e.ar, cM aC LL ss).2.length = LL.length + 1 := h2
  omega
 have kf : Kp (fun k => k = bb \/ k = r) w3 (w4.setCell ⟨bb, 1, none⟩ (.int .i64 ((n : Int) + 1))) := (hk4.mono fun k _ ho => .inr ho).trans (Kp.setCell (F := fun k => k = bb \/ k = r) (Kp.refl w4) (fun _ => .inl rfl) _)
 have hb5 : Blk (w4.setCell ⟨bb, 1, none⟩ (.int .i64 ((n : Int) + 1))) bb [.map (some r), .int .i64 ((n + 1 : Nat) : Int)] 129 := by
  have h1 := ((gG h he hx hk).kp hk4 h.ne).set 1 (.int .i64 ((n : Int) + 1))
  exact h1
 have hm5 := hm4.kp (Kp.setCell (F := fun k => k = bb) (Kp.refl w4) (p := ⟨bb, 1, none⟩) (fun _ => rfl) (.int .i64 ((n : Int) + 1))) (fun e2 => h.ne e2.symm)
 refine RetF.mk ((hkw.mono fun k _ ho => .inr (.inr ⟨e, hem, ho⟩)).trans (kf.mono fun k _ ho => ho.elim .inl fun h => .inr (.inl h))) ⟨by rw [hR]; rfl, S', pre ++ { e with iv := iv', LL := cM aC LL ss } :: post, hss, hs2, ?_, hC.symm, tU hiv2 _⟩
 exact h.turn hkw hss hs2 hr hiv2 kf hm5 hb5 htot (by rw [<- hC]; exact yS h.ok s ss)
theorem aCa {n : Nat} {b : Nat} (h : BaseAt S w bb r E) (he : bB E s = none) (hf : bV s = true /\ ss.length ≤ 64 /\ bO ss = true /\ ¬ 262144 ≤ bG (aN E)) (hx : Ext w w3) (hss : ∀ k, S k -> S' k) (hsn : ∀ k, S' k -> S k \/ w.heap.size ≤ k)
 (hr : RowsAt S' w3 b iv' ss.length [ss]) (hb : w.heap.size ≤ b) (hiv : ∀ k, iv'.ownBlock = some k -> w.heap.size ≤ k)
 (hk4 : Kp (fun k => k = r) w3 w4) (hm4 : MapIs w4 r (kU (dJ E) s (.pointer (some ⟨b, 0, none⟩)))) (en : bG (aN E) = n) : RetF (OwnB bb r E) w (BaseAdded S w bb r E s ss) (.returned (.tuple #[.bool true, .int .i64 0])) (w4.setCell ⟨bb, 1, none⟩ (.int .i64 ((n : Int) + 1))) := by
 obtain ⟨f1, f2, f3, f4⟩ := hf
 obtain ⟨g1, g2⟩ := eV he
 have hR : dV (aN E) s ss = (true, 0) := by
  rw [nY f1 (zJ g1 f2) f3 (fun k => f4 k.1), g2, if_neg (by simp)]; rfl
 have hone : cM aC [] ss = [ss] := by simp [cM, bH, below]
 have hpush := aG6 he b iv' ss.length [ss]
 have hC : lO (aN E) s ss = aN (E ++ [{ name := s, b := b, iv := iv', ar := ss.length, LL := [ss] }]) := by
  unfold lO
  rw [if_pos (by rw [hR]), g2, hone]
  exact hpush
 have htot : n + 1 = bG (aN (E ++ [{ name := s, b := b, iv := iv', ar := ss.length, LL := [ss] }])) := by
  rw [<- en]
  simp [bG, aN, Ent.cnt]
 rw [xO he b iv' ss.length [ss]] at hm4
 have kf : Kp (fun k => k = bb \/ k = r) w3 (w4.setCell ⟨bb, 1, none⟩ (.int .i64 ((n : Int) + 1))) := (hk4.mono fun k _ ho => .inr ho).trans (Kp.setCell (F := fun k => k = bb \/ k = r) (Kp.refl w4) (fun _ => .inl rfl) _)
 have hb5 : Blk (w4.setCell ⟨bb, 1, none⟩ (.int .i64 ((n : Int) + 1))) bb [.map (some r), .int .i64 ((n + 1 : Nat) : Int)] 129 := ((h.blk.ext hx).kp hk4 h.ne).set 1 (.int .i64 ((n : Int) + 1))
 have hm5 := hm4.kp (Kp.setCell (F := fun k => k = bb) (Kp.refl w4) (p := ⟨bb, 1, none⟩) (fun _ => rfl) (.int .i64 ((n : Int) + 1))) (fun e2 => h.ne e2.symm)
 have ho : ∀ k, dW b iv' k -> w.heap.size ≤ k := fun k ho => by
  rcases ho with rfl | ho
  ·exact hb
  ·exact hiv k ho
 refine RetF.mk ((Ext.kp hx).trans (kf.mono fun k _ ho => ho.elim .inl fun h => .inr (.inl h))) ⟨by rw [hR]; rfl, S', E ++ [{ name := s, b := b, iv := iv', ar := ss.length, LL := [ss] }], hss, hsn, ?_, hC.symm, ?_⟩
 ·exact h.push (e := { name := s, b := b, iv := iv', ar := ss.length, LL := [ss] }) hx hss hsn hr ho kf hb5 hm5 htot (by rw [<- hC]; exact yS h.ok s ss)
 ·rintro k (h1 | h1 | ⟨f, hf, ho2⟩)
  ·exact .inl (.inl h1)
  ·exact .inl (.inr (.inl h1))
  ·rcases List.mem_append.1 hf with hf | hf
   ·exact .inl (.inr (.inr ⟨f, hf, ho2⟩))
   ·obtain rfl := List.mem_singleton.1 hf
    exact .inr (ho k ho2)
end
end Go.Proofs.YtinnmeiphbdogaaGreat
/- tuple.Base: Add, walked. -/
namespace Go.Proofs.YtinnmeiphbdogaaGreat
open Go.RowKit
set_option maxRecDepth 100000 in
set_option maxHeartbeats 4000000 in
theorem aCb {S : Nat -> Prop} {w : World} {bb r : Nat} {E : List Ent} (h : BaseAt S w bb r E) (s : ByteArray) {ao : Option Addr} {k cap : Nat} {ss : List ByteArray} (hx : RowIn w (ao, k, cap) ss) (ho : jB (ao, k, cap) (OwnB bb r E)) :
 Calls Tryz.prog 42 #[.pointer (some ⟨bb, 0, none⟩), .string s, .slice ao k cap] w (RetF (OwnB bb r E) w (BaseAdded S w bb r E s ss)) := by
 have hkn : k = ss.length := hx.1.1
 have hcs : CellsAt w ao (strs ss) := hx.1.2
 have hkl : k ≤ 8796093021952 := by rw [hkn]; exact hx.2.1
 have c0 : w.cell? ⟨bb, 0, none⟩ = some (.map (some r)) := by rw [h.blk.cell']; rfl
 have hlk := iQ (P := Tryz.prog) Tryz.underlying127 Tryz.underlying9 (z := .pointer none) (by kernel_rfl) h.map s
 rw [kG] at hlk
 have hnm := wW s w
 rw [show decide (1 ≤ s.size /\ s.size ≤ 4096) = bV s from rfl] at hnm
 have HN := qH hnm; clear hnm
 have HT := qH (fun w1 (hw : Ext w w1) => qR ss ao k cap w1 hkn (hcs.ext hw) (by omega))
 obtain ⟨n, en⟩ : ∃ n, bG (aN E) = n := ⟨_, rfl⟩
 have EN := qH en
 have hnl : n ≤ 262144 := by rw [<- en]; exact h.ok.few
 have c1 : w.cell? ⟨bb, 1, none⟩ = some (.int .i64 n) := by rw [h.blk.cell', en]; rfl
 have HC1 := qH (fun w1 (hw : Ext w w1) => (hw.cell c1 id : w1.cell? ⟨bb, 1, none⟩ = some (.int .i64 n)))
 have H := qH h
 have HX := qH (And.intro hx ho)
 have HKN := qH hkn
 clear h hx ho hcs hkn en c1
 cases hn : bV s with
 | false =>
  rw [hn] at HN
  have HNM := qH hn
  clear hn hlk c0
  go_enter Tryz.func42, Tryz.ntmps42
  go_wp2_with fail
  refine HN.out.mono ?_
  rintro e w' ⟨rfl, rfl⟩
  go_wp2
  go_ret2
  exact RetF.mk (Kp.refl _) (BaseAdded.same H.out (Kp.refl _) (aHm ss HNM.out) (by decide) rfl)
 | true =>
  rw [hn] at HN
  have HNM := qH hn
  clear hn
  cases he : bB E s with
  | none =>
   rw [he] at hlk
   have hlk' : ∀ w', w' = w -> (Instr.lookup 127 (.map (some r)) (.string s) false).run Tryz.prog w' = .ok (.pointer none) w' := fun w' e => by rw [e]; exact hlk
   replace hlk := hlk' w rfl
   clear hlk'
   have HE := qH he
   clear he
   by_cases hl : 64 < k
   ·have HNB := qH (rN (k : Int) w (.inr (by omega)))
    go_enter Tryz.func42, Tryz.ntmps42
    go_wp2_with fail
    refine HN.out.mono ?_
    rintro e w' ⟨rfl, rfl⟩
    go_wp2_with fail
    refine HNB.out.mono ?_
    rintro e w' ⟨rfl, rfl⟩
    go_wp2
    go_ret2
    exact RetF.mk (Kp.refl _) (BaseAdded.same H.out (Kp.refl _) (aHn HNM.out (eV HE.out).1 (by rw [<- HKN.out]; exact hl)) (by decide) rfl)
   have hk64 : k ≤ 64 := by omega
   have HNR := qH (mM S w k hk64 H.out.inS)
   have HL := qH (show ss.length ≤ 64 by rw [<- HKN.out]; exact hk64)
   clear hl
   cases ht : bO ss with
   | false =>
    rw [ht] at HT
    have HTX := qH ht
    clear ht
    go_enter Tryz.func42, Tryz.ntmps42
    go_wp2_with fail
    refine HN.out.mono ?_
    rintro e w' ⟨rfl, rfl⟩
    go_wp2_with fail
    refine HNR.out.mono ?_
    rintro e w1 ⟨v, rfl, hk1, rfl, hrows⟩
    have d2 : w1.cell? ⟨w.heap.size, 2, none⟩ = some (.int .i64 k) := by rw [hrows.blk.cell']; rfl
    have HK1 := qH hk1
    clear hk1 hrows
    go_wp2_with fail
    refine (HT.out w1 HK1.out).mono ?_
    rintro e w2 ⟨v, rfl, hk2, rfl⟩
    have HK2 := qH (HK1.out.trans hk2)
    clear hk2
    go_wp2
    go_ret2
    exact RetF.mk (Ext.kp HK2.out) (BaseAdded.same H.out HK2.out (xZ HNM.out (zJ (eV HE.out).1 HL.out) HTX.out) (by decide) rfl)
   | true =>
    rw [ht] at HT
    have HTX := qH ht
    clear ht
    have HAdd := qH (fun w1 (hw : Ext w w1) (hr : RowsAt S w1 w.heap.size (.slice none 0 0) k []) => mJ hr List.Pairwise.nil (ao := ao) (n := k) (cap := cap) (ss := ss) ⟨⟨HKN.out, HX.out.1.1.2.ext hw⟩, HX.out.1.2.1, fun a e hne => Nat.lt_of_lt_of_le (HX.out.1.2.2 a e hne) hw.size⟩
     (fun a e hne ho => by
      have := HX.out.1.2.2 a e hne
      rcases ho with ho | ho
      ·omega
      ·cases ho) (by simp))
    by_cases hm : 262144 ≤ n
    ·have q2 : decide ((262144 : Int) ≤ (n : Int)) = true := by rw [decide_eq_true_iff]; omega
     have HM := qH hm
     have HHas := qH (fun w1 (hw : Ext w w1) (hr : RowsAt S w1 w.heap.size (.slice none 0 0) k []) => mI hr List.Pairwise.nil (x := (ao, k, cap)) (ss := ss) ⟨⟨HKN.out, HX.out.1.1.2.ext hw⟩, HX.out.1.2.1, fun a e hne => Nat.lt_of_lt_of_le (HX.out.1.2.2 a e hne) hw.size⟩
      (fun a e hne ho => by
       have := HX.out.1.2.2 a e hne
       rcases ho with ho | ho
       ·omega
       ·cases ho))
     clear hm
     go_enter Tryz.func42, Tryz.ntmps42
     go_wp2_with fail
     refine HN.out.mono ?_
     rintro e w' ⟨rfl, rfl⟩
     go_wp2_with fail
     refine HNR.out.mono ?_
     rintro e w1 ⟨v, rfl, hk1, rfl, hrows⟩
     have d2 : w1.cell? ⟨w.heap.size, 2, none⟩ = some (.int .i64 k) := by rw [hrows.blk.cell']; rfl
     have HK1 := qH (And.intro hk1 hrows)
     clear hk1 hrows
     go_wp2_with fail
     refine (HT.out w1 HK1.out.1).mono ?_
     rintro e w2 ⟨v, rfl, hk2, rfl⟩
     have HK2 := qH (HK1.out.1.trans hk2)
     have HR2 := qH (HK1.out.2.ext hk2)
     have c1' := HC1.out w2 HK2.out
     clear hk2 d2
     go_wp2_with fail
     refine (HHas.out w2 HK2.out HR2.out).mono ?_
     rintro e w3 ⟨v, rfl, hk3, rfl⟩
     have HK3 := qH (HK2.out.trans hk3)
     clear hk3 c1'
     have hni : bH aC ([] : List (List ByteArray)) ss = false := rfl
     go_wp2
     go_ret2
     exact RetF.mk (Ext.kp HK3.out) (BaseAdded.same H.out HK3.out (yA HNM.out (zJ (eV HE.out).1 HL.out) HTX.out (by rw [EN.out]; exact HM.out) (by rw [(eV HE.out).2]; rfl)) (by decide) rfl)
    ·have q2 : decide ((262144 : Int) ≤ (n : Int)) = false := by rw [decide_eq_false_iff_not]; omega
     have HM := qH hm
     clear hm
     go_enter Tryz.func42, Tryz.ntmps42
     go_wp2_with fail
     refine HN.out.mono ?_
     rintro e w' ⟨rfl, rfl⟩
     go_wp2_with fail
     refine HNR.out.mono ?_
     rintro e w1 ⟨v, rfl, hk1, rfl, hrows⟩
     have d2 : w1.cell? ⟨w.heap.size, 2, none⟩ = some (.int .i64 k) := by rw [hrows.blk.cell']; rfl
     have HK1 := qH (And.intro hk1 hrows)
     clear hk1 hrows
     go_wp2_with fail
     refine (HT.out w1 HK1.out.1).mono ?_
     rintro e w2 ⟨v, rfl, hk2, rfl⟩
     have HK2 := qH (HK1.out.1.trans hk2)
     have HR2 := qH (HK1.out.2.ext hk2)
     have c1' := HC1.out w2 HK2.out
     clear hk2 d2
     go_wp2_with fail
     refine (HAdd.out w2 HK2.out HR2.out).mono ?_
     rintro e w3 ⟨v, rfl, hk3, hv, S', iv', hss, hsn, hrows3, hiv⟩
     have e0 : aV k [] ss = (true, 0) := by
      unfold aV; rw [if_neg (by rw [HKN.out]; simp), if_neg (by rw [HTX.out]; simp), if_neg (by simp)]; simp [bH]
     have e1 : bL k [] ss = [ss] := by
      unfold bL; rw [e0]; simp [cM, bH, below]
     rw [e0] at hv
     rw [e1] at hrows3
     subst hv
     have hz := HK2.out.size
     have kk3 : Kp (fun g => g = w.heap.size) w2 w3 := hk3.mono fun g _ h => by
      rcases h with h | h
      ·exact h
      ·cases h
     have hex3 : Ext w w3 := HK2.out.trans' kk3 (fun i hi e => by omega)
     rw [HKN.out] at hrows3
     have HR3 := qH (And.intro hex3 (And.intro hss (And.intro (fun q (hq : S' q) => (hsn q hq).imp id fun u => Nat.le_trans hz u) (And.intro hrows3 (fun q (hq : iv'.ownBlock = some q) => show w.heap.size ≤ q by
      rcases hiv q hq with u | u
      ·cases u
      ·exact Nat.le_trans hz u)))))
     have HB3 := qH (And.intro (H.out.blk.ext hex3) (H.out.map.ext hex3))
     clear hk3 kk3 hex3 hrows3 hss hsn hiv e0 e1 c1' hlk c0 hz
     go_wp2_with fail
     refine (fA HB3.out.1 HB3.out.2 s (some ⟨w.heap.size, 0, none⟩)).mono ?_
     rintro e w4 ⟨v, rfl, hk4, hm4⟩
     have HM4 := qH (And.intro hk4 hm4)
     have hb4 : Blk w4 bb [.map (some r), .int .i64 (bG (aN E) : Nat)] 129 := HB3.out.1.kp hk4 H.out.ne
     have c4 : w4.cell? ⟨bb, 1, none⟩ = some (.int .i64 n) := by rw [hb4.cell', EN.out]; rfl
     have f4 := hb4.free 1
     clear hk4 hm4 hb4
     go_wp2
     go_ret2
     exact aCa H.out HE.out ⟨HNM.out, HL.out, HTX.out, by rw [EN.out]; exact HM.out⟩ HR3.out.1 HR3.out.2.1 HR3.out.2.2.1 HR3.out.2.2.2.1 (Nat.le_refl _) HR3.out.2.2.2.2 HM4.out.1 HM4.out.2 EN.out
  | some e0 =>
   rw [he] at hlk
   have HE := qH he
   obtain ⟨hem, hes⟩ := bT he
   obtain ⟨b0, eb0⟩ : ∃ b0, e0.b = b0 := ⟨_, rfl⟩
   obtain ⟨ar, ear⟩ : ∃ ar, e0.ar = ar := ⟨_, rfl⟩
   obtain ⟨LL, eLL⟩ : ∃ LL, e0.LL = LL := ⟨_, rfl⟩
   have hlk' : (Instr.lookup 127 (.map (some r)) (.string s) false).run Tryz.prog w = .ok (.pointer (some ⟨b0, 0, none⟩)) w := by rw [<- eb0]; exact hlk
   have hra := H.out.rows e0 hem
   have d2 : w.cell? ⟨b0, 2, none⟩ = some (.int .i64 ar) := by rw [<- eb0, hra.blk.cell', ear]; rfl
   have HEM := qH (And.intro hem (And.intro eb0 (And.intro ear eLL)))
   have hoff : jB (ao, k, cap) (dW e0.b e0.iv) := fun a e hne hown => HX.out.2 a e hne (.inr (.inr ⟨e0, hem, hown⟩))
   have HOff := qH hoff
   have HHas := qH (fun w1 (hw : Ext w w1) => mI ((H.out.rows e0 hem).ext hw) (H.out.strict hem) (x := (ao, k, cap)) (ss := ss) ⟨⟨HKN.out, HX.out.1.1.2.ext hw⟩, HX.out.1.2.1, fun a e hne => Nat.lt_of_lt_of_le (HX.out.1.2.2 a e hne) hw.size⟩ hoff)
   have HA := qH (fun w1 (hw : Ext w w1) => mJ ((H.out.rows e0 hem).ext hw) (H.out.strict hem) (ao := ao) (n := k) (cap := cap) (ss := ss) ⟨⟨HKN.out, HX.out.1.1.2.ext hw⟩, HX.out.1.2.1, fun a e hne => Nat.lt_of_lt_of_le (HX.out.1.2.2 a e hne) hw.size⟩ hoff (by have := H.out.few hem; omega))
   clear he hem hes hra hoff hlk
   rw [HEM.out.2.1, HEM.out.2.2.2] at HHas
   rw [HEM.out.2.1, HEM.out.2.2.1, HEM.out.2.2.2] at HA
   clear eb0 ear eLL
   by_cases ha : ar = k
   ·have HAr := qH ha
    have q1 : ((ar : Int) != (k : Int)) = false := by simp [ha]
    clear ha
    have hnil : Ext w w := Kp.refl w
    cases ht : bO ss with
    | false =>
     rw [ht] at HT
     have HTX := qH ht
     clear ht
     go_enter Tryz.func42, Tryz.ntmps42
     go_wp2_with fail
     refine HN.out.mono ?_
     rintro e w' ⟨rfl, rfl⟩
     go_wp2_with fail
     refine (HT.out w hnil).mono ?_
     rintro e w2 ⟨v, rfl, hk2, rfl⟩
     have HK2 := qH hk2
     clear hk2
     go_wp2
     go_ret2
     exact RetF.mk (Ext.kp HK2.out) (BaseAdded.same H.out HK2.out (xZ HNM.out (qL (dN HE.out).1 (by rw [HEM.out.2.2.1, HAr.out]; exact HKN.out)) HTX.out) (by decide) rfl)
    | true =>
     rw [ht] at HT
     have HTX := qH ht
     clear ht
     have hR0 : aV ar LL ss = if 65536 ≤ LL.length /\ bH aC LL ss = false then (false, 4) else (!bH aC LL ss, 0) := by
      unfold aV
      rw [if_neg (by rw [HAr.out, HKN.out]; simp), if_neg (by rw [HTX.out]; simp)]
     have HR0 := qH hR0
     clear hR0
     by_cases hm : 262144 ≤ n
     ·have q2 : decide ((262144 : Int) ≤ (n : Int)) = true := by rw [decide_eq_true_iff]; omega
      have HM := qH hm
      clear hm
      cases hi : bH aC LL ss with
      | false =>
       have HI := qH hi
       rw [hi] at HHas
       clear hi
       go_enter Tryz.func42, Tryz.ntmps42
       go_wp2_with fail
       refine HN.out.mono ?_
       rintro e w' ⟨rfl, rfl⟩
       go_wp2_with fail
       refine (HT.out w hnil).mono ?_
       rintro e w2 ⟨v, rfl, hk2, rfl⟩
       have HK2 := qH hk2
       have c1' := HC1.out w2 hk2
       clear hk2
       go_wp2_with fail
       refine (HHas.out w2 HK2.out).mono ?_
       rintro e w3 ⟨v, rfl, hk3, rfl⟩
       have HK3 := qH (HK2.out.trans hk3)
       clear hk3 c1'
       go_wp2
       go_ret2
       exact RetF.mk (Ext.kp HK3.out) (BaseAdded.same H.out HK3.out (yA HNM.out (qL (dN HE.out).1 (by rw [HEM.out.2.2.1, HAr.out]; exact HKN.out)) HTX.out (by rw [EN.out]; exact HM.out) (by rw [(dN HE.out).2, HEM.out.2.2.2]; exact HI.out)) (by decide) rfl)
      | true =>
       have HI0 := qH hi
       rw [hi] at HHas
       clear hi
       have HF := qH (show (bV s = true /\ e0.ar = ss.length /\ bO ss = true /\ e0.LL = LL /\ ¬ (262144 ≤ bG (aN E) /\ bH aC LL ss = false)) /\ True from ⟨⟨HNM.out, by rw [HEM.out.2.2.1, HAr.out]; exact HKN.out, HTX.out, HEM.out.2.2.2, fun q => by rw [HI0.out] at q; cases q.2⟩, trivial⟩)
       go_enter Tryz.func42, Tryz.ntmps42
       go_wp2_with fail
       refine HN.out.mono ?_
       rintro e w' ⟨rfl, rfl⟩
       go_wp2_with fail
       refine (HT.out w hnil).mono ?_
       rintro e w2 ⟨v, rfl, hk2, rfl⟩
       have HK2 := qH hk2
       have c1' := HC1.out w2 hk2
       clear hk2
       go_wp2_with fail
       refine (HHas.out w2 HK2.out).mono ?_
       rintro e w2b ⟨v, rfl, hk3, rfl⟩
       have HK2b := qH (HK2.out.trans hk3)
       clear hk3 c1'
       go_wp2_with fail
       refine (HA.out w2b HK2b.out).mono ?_
       rintro e w3 ⟨v, rfl, hk3, hv, S', iv', hss, hsn, hrows3, hiv⟩
       rw [<- HEM.out.2.1] at hk3 hrows3
       rw [<- HEM.out.2.2.1] at hrows3
       have HX3 := qH (And.intro hk3 (And.intro hss (And.intro hsn (And.intro hrows3 hiv))))
       rw [HR0.out] at hv
       subst hv
       clear hk3 hss hsn hrows3 hiv
       by_cases h4 : 65536 ≤ LL.length /\ bH aC LL ss = false
       ·have e4 : (if 65536 ≤ LL.length /\ bH aC LL ss = false then (false, 4) else (!bH aC LL ss, 0)) = (false, 4) := if_pos h4
        have H4 := qH (And.intro h4 e4)
        rw [e4]
        clear h4 e4
        go_wp2
        go_ret2
        exact qJ H.out HE.out HF.out.1 HK2b.out HX3.out.1 HX3.out.2.1 HX3.out.2.2.1 HX3.out.2.2.2.1 HX3.out.2.2.2.2 (by rw [HEM.out.2.2.1]; exact HR0.out) H4.out.1
       ·have e4 : (if 65536 ≤ LL.length /\ bH aC LL ss = false then (false, 4) else (!bH aC LL ss, 0)) = (!bH aC LL ss, 0) := if_neg h4
        have H4 := qH (And.intro h4 e4)
        rw [e4]
        clear h4 e4
        have hm3 := nH H.out HE.out HK2b.out HX3.out.1
        have hb3 := gG H.out HE.out HK2b.out HX3.out.1
        have HB3 := qH (And.intro hb3 hm3)
        have c31 : w3.cell? ⟨bb, 1, none⟩ = some (.int .i64 n) := by rw [HB3.out.1.cell', EN.out]; rfl
        clear hm3 hb3 c31
        cases hi : bH aC LL ss with
        | true =>
         have HI := qH hi
         clear hi
         go_wp2_with fail
         refine (fA HB3.out.1 HB3.out.2 s (some ⟨b0, 0, none⟩)).mono ?_
         rintro e w4 ⟨v, rfl, hk4, hm4⟩
         rw [<- HEM.out.2.1] at hm4
         have HM4 := qH (And.intro hk4 hm4)
         clear hk4 hm4
         go_wp2
         go_ret2
         exact sE H.out HE.out HF.out.1 HK2b.out HX3.out.1 HX3.out.2.1 HX3.out.2.2.1 HX3.out.2.2.2.1 HX3.out.2.2.2.2 (by rw [HEM.out.2.2.1]; exact HR0.out) HI.out HM4.out.1 HM4.out.2
        | false =>
         have HI := qH hi
         clear hi
         go_wp2_with fail
         refine (fA HB3.out.1 HB3.out.2 s (some ⟨b0, 0, none⟩)).mono ?_
         rintro e w4 ⟨v, rfl, hk4, hm4⟩
         rw [<- HEM.out.2.1] at hm4
         have HM4 := qH (And.intro hk4 hm4)
         have hb4 : Blk w4 bb [.map (some r), .int .i64 (bG (aN E) : Nat)] 129 := HB3.out.1.kp hk4 H.out.ne
         have c4 : w4.cell? ⟨bb, 1, none⟩ = some (.int .i64 n) := by rw [hb4.cell', EN.out]; rfl
         have f4 := hb4.free 1
         clear hk4 hm4 hb4
         go_wp2
         go_ret2
         exact sF H.out HE.out HF.out.1 HK2b.out HX3.out.1 HX3.out.2.1 HX3.out.2.2.1 HX3.out.2.2.2.1 HX3.out.2.2.2.2 (by rw [HEM.out.2.2.1]; exact HR0.out) HI.out H4.out.1 HM4.out.1 HM4.out.2 EN.out
     ·have q2 : decide ((262144 : Int) ≤ (n : Int)) = false := by rw [decide_eq_false_iff_not]; omega
      have HM := qH hm
      clear hm
      have HF := qH (show (bV s = true /\ e0.ar = ss.length /\ bO ss = true /\ e0.LL = LL /\ ¬ (262144 ≤ bG (aN E) /\ bH aC LL ss = false)) /\ True from ⟨⟨HNM.out, by rw [HEM.out.2.2.1, HAr.out]; exact HKN.out, HTX.out, HEM.out.2.2.2, fun q => HM.out (by rw [<- EN.out]; exact q.1)⟩, trivial⟩)
      go_enter Tryz.func42, Tryz.ntmps42
      go_wp2_with fail
      refine HN.out.mono ?_
      rintro e w' ⟨rfl, rfl⟩
      go_wp2_with fail
      refine (HT.out w hnil).mono ?_
      rintro e w2 ⟨v, rfl, hk2, rfl⟩
      have HK2 := qH hk2
      have c1' := HC1.out w2 hk2
      clear hk2
      go_wp2_with fail
      refine (HA.out w2 HK2.out).mono ?_
      rintro e w3 ⟨v, rfl, hk3, hv, S', iv', hss, hsn, hrows3, hiv⟩
      rw [<- HEM.out.2.1] at hk3 hrows3
      rw [<- HEM.out.2.2.1] at hrows3
      have HX3 := qH (And.intro hk3 (And.intro hss (And.intro hsn (And.intro hrows3 hiv))))
      rw [HR0.out] at hv
      subst hv
      clear hk3 hss hsn hrows3 hiv
      by_cases h4 : 65536 ≤ LL.length /\ bH aC LL ss = false
      ·have e4 : (if 65536 ≤ LL.length /\ bH aC LL ss = false then (false, 4) else (!bH aC LL ss, 0)) = (false, 4) := if_pos h4
       have H4 := qH (And.intro h4 e4)
       rw [e4]
       clear h4 e4
       go_wp2
       go_ret2
       exact qJ H.out HE.out HF.out.1 HK2.out HX3.out.1 HX3.out.2.1 HX3.out.2.2.1 HX3.out.2.2.2.1 HX3.out.2.2.2.2 (by rw [HEM.out.2.2.1]; exact HR0.out) H4.out.1
      ·have e4 : (if 65536 ≤ LL.length /\ bH aC LL ss = false then (false, 4) else (!bH aC LL ss, 0)) = (!bH aC LL ss, 0) := if_neg h4
       have H4 := qH (And.intro h4 e4)
       rw [e4]
       clear h4 e4
       have hm3 := nH H.out HE.out HK2.out HX3.out.1
       have hb3 := gG H.out HE.out HK2.out HX3.out.1
       have HB3 := qH (And.intro hb3 hm3)
       have c31 : w3.cell? ⟨bb, 1, none⟩ = some (.int .i64 n) := by rw [HB3.out.1.cell', EN.out]; rfl
       clear hm3 hb3 c31
       cases hi : bH aC LL ss with
       | true =>
        have HI := qH hi
        clear hi
        go_wp2_with fail
        refine (fA HB3.out.1 HB3.out.2 s (some ⟨b0, 0, none⟩)).mono ?_
        rintro e w4 ⟨v, rfl, hk4, hm4⟩
        rw [<- HEM.out.2.1] at hm4
        have HM4 := qH (And.intro hk4 hm4)
        clear hk4 hm4
        go_wp2
        go_ret2
        exact sE H.out HE.out HF.out.1 HK2.out HX3.out.1 HX3.out.2.1 HX3.out.2.2.1 HX3.out.2.2.2.1 HX3.out.2.2.2.2 (by rw [HEM.out.2.2.1]; exact HR0.out) HI.out HM4.out.1 HM4.out.2
       | false =>
        have HI := qH hi
        clear hi
        go_wp2_with fail
        refine (fA HB3.out.1 HB3.out.2 s (some ⟨b0, 0, none⟩)).mono ?_
        rintro e w4 ⟨v, rfl, hk4, hm4⟩
        rw [<- HEM.out.2.1] at hm4
        have HM4 := qH (And.intro hk4 hm4)
        have hb4 : Blk w4 bb [.map (some r), .int .i64 (bG (aN E) : Nat)] 129 := HB3.out.1.kp hk4 H.out.ne
        have c4 : w4.cell? ⟨bb, 1, none⟩ = some (.int .i64 n) := by rw [hb4.cell', EN.out]; rfl
        have f4 := hb4.free 1
        clear hk4 hm4 hb4
        go_wp2
        go_ret2
        exact sF H.out HE.out HF.out.1 HK2.out HX3.out.1 HX3.out.2.1 HX3.out.2.2.1 HX3.out.2.2.2.1 HX3.out.2.2.2.2 (by rw [HEM.out.2.2.1]; exact HR0.out) HI.out H4.out.1 HM4.out.1 HM4.out.2 EN.out
   ·have HAr := qH ha
    have q1 : ((ar : Int) != (k : Int)) = true := by rw [bne_iff_ne]; omega
    clear ha
    go_enter Tryz.func42, Tryz.ntmps42
    go_wp2_with fail
    refine HN.out.mono ?_
    rintro e w' ⟨rfl, rfl⟩
    go_wp2
    go_ret2
    exact RetF.mk (Kp.refl _) (BaseAdded.same H.out (Kp.refl _) (aEk HNM.out (dN HE.out).1 (by show e0.ar ≠ ss.length; rw [HEM.out.2.2.1, <- HKN.out]; exact HAr.out)) (by decide) rfl)
end Go.Proofs.YtinnmeiphbdogaaGreat
/- tuple.Base: Declare, at every base. -/
namespace Go.Proofs.YtinnmeiphbdogaaGreat
open Go.RowKit
section
variable {S S' : Nat -> Prop} {w w1 w2 w3 w4 : World} {bb r : Nat} {E : List Ent} {s : ByteArray} {e : Ent}
def BaseDecled (S : Nat -> Prop) (w : World) (bb r : Nat) (E : List Ent) (s : ByteArray) (a : Int) (w' : World) (v : Value) : Prop :=
 v = .int .i64 ((dA (aN E) s a : Nat) : Int) /\ ∃ E', BaseAt S w' bb r E' /\ aN E' = dP (aN E) s a /\ ∀ k, OwnB bb r E' k -> OwnB bb r E k \/ w.heap.size ≤ k
theorem BaseDecled.same {a : Int} (h : BaseAt S w bb r E) (hk : Ext w w1) {n : Nat} (hR : dA (aN E) s a = n) (hn : dP (aN E) s a = aN E) {v : Value} (hv : v = .int .i64 (n : Nat)) : BaseDecled S w bb r E s a w1 v :=
 ⟨by rw [hv, hR], E, h.ext hk, hn.symm, fun _ h => .inl h⟩
theorem uY {C : List bA} (a : Int) (h : bV s = false) : dA C s a = 32 := if_pos h
theorem aG3 {C : List bA} {a : Int} (h : bV s = true) (ha : a < 0 \/ 64 < a) : dA C s a = 2 := by
 unfold dA
 rw [if_neg (by rw [h]; simp), if_pos ha]
theorem aD7 {C : List bA} {a : Int} (h : bV s = true) (ha : ¬ (a < 0 \/ 64 < a)) (hg : bK C s = none) : dA C s a = 0 := by
 unfold dA
 rw [if_neg (by rw [h]; simp), if_neg ha, hg]
theorem aD6 {C : List bA} {a : Int} {v : Nat × aD} (h : bV s = true) (ha : ¬ (a < 0 \/ 64 < a)) (hg : bK C s = some v) : dA C s a = if (v.1 : Int) = a then 0 else 30 := by
 unfold dA
 rw [if_neg (by rw [h]; simp), if_neg ha, hg]
theorem xT {C : List bA} {a : Int} (h : dA C s a ≠ 0) : dP C s a = C := if_neg fun k => h k.1
theorem aD8 {C : List bA} {a : Int} {v : Nat × aD} (hg : bK C s = some v) : dP C s a = C := if_neg fun k => by rw [hg] at k; cases k.2
theorem zG {k b : Nat} (h : BaseAt S w bb r E) (he : bB E s = none) (hn : bV s = true) (hk : k ≤ 64) (hx : Ext w w3) (hr : RowsAt S w3 b (.slice none 0 0) k []) (hb : w.heap.size ≤ b)
 (hk4 : Kp (fun k => k = r) w3 w4) (hm4 : MapIs w4 r (kU (dJ E) s (.pointer (some ⟨b, 0, none⟩)))) : RetF (OwnB bb r E) w (BaseDecled S w bb r E s (k : Int)) (.returned (.int .i64 0)) w4 := by
 obtain ⟨g1, g2⟩ := eV he
 have hR : dA (aN E) s (k : Int) = 0 := aD7 hn (by omega) g1
 have hC : dP (aN E) s (k : Int) = aN (E ++ [{ name := s, b := b, iv := .slice none 0 0, ar := k, LL := [] }]) := by
  unfold dP
  rw [if_pos ⟨hR, g1⟩]
  simp [aN, Ent.cnt]
 rw [xO he b (.slice none 0 0) k []] at hm4
 have ho : ∀ q, dW b (.slice none 0 0) q -> w.heap.size ≤ q := fun q ho => by
  rcases ho with rfl | ho
  ·exact hb
  ·cases ho
 have htot : bG (aN E) = bG (aN (E ++ [{ name := s, b := b, iv := .slice none 0 0, ar := k, LL := [] }])) := by simp [bG, aN, Ent.cnt]
 refine RetF.mk ((Ext.kp hx).trans (hk4.mono fun k _ ho => .inr (.inl ho))) ⟨by rw [hR]; rfl, E ++ [{ name := s, b := b, iv := .slice none 0 0, ar := k, LL := [] }], ?_, hC.symm, ?_⟩
 ·exact h.push (e := { name := s, b := b, iv := .slice none 0 0, ar := k, LL := [] }) hx (fun _ x => x) (fun _ x => .inl x) hr ho (hk4.mono fun k _ ho => .inr ho) ((h.blk.ext hx).kp hk4 h.ne) hm4 htot (by rw [<- hC]; exact pS h.ok s _)
 ·rintro q (h1 | h1 | ⟨f, hf, ho2⟩)
  ·exact .inl (.inl h1)
  ·exact .inl (.inr (.inl h1))
  ·rcases List.mem_append.1 hf with hf | hf
   ·exact .inl (.inr (.inr ⟨f, hf, ho2⟩))
   ·obtain rfl := List.mem_singleton.1 hf
    exact .inr (ho q ho2)
set_option maxRecDepth 100000 in
set_option maxHeartbeats 4000000 in
theorem zH (h : BaseAt S w bb r E) (s : ByteArray) (a : Int) :
 Calls Tryz.prog 107 #[.pointer (some ⟨bb, 0, none⟩), .string s, .int .i64 a] w (RetF (OwnB bb r E) w (BaseDecled S w bb r E s a)) := by
 have c0 : w.cell? ⟨bb, 0, none⟩ = some (.map (some r)) := by rw [h.blk.cell']; rfl
 have hnm := wW s w
 rw [show decide (1 ≤ s.size /\ s.size ≤ 4096) = bV s from rfl] at hnm
 have HN := qH hnm; clear hnm
 have H := qH h
 have HLk := qH (fun w1 (hw : Ext w w1) => iQ (P := Tryz.prog) Tryz.underlying127 Tryz.underlying9 (z := .pointer none) (by kernel_rfl) (h.map.ext hw) s)
 rw [kG] at HLk
 clear h
 cases hn : bV s with
 | false =>
  rw [hn] at HN
  have HNM := qH hn
  clear hn c0
  go_enter Tryz.func107, Tryz.ntmps107
  go_wp2_with fail
  refine HN.out.mono ?_
  rintro e w' ⟨rfl, rfl⟩
  go_wp2
  go_ret
  exact RetF.mk (Kp.refl _) (BaseDecled.same H.out (Kp.refl _) (uY a HNM.out) (xT (by rw [uY a HNM.out]; decide)) rfl)
 | true =>
  rw [hn] at HN
  have HNM := qH hn
  clear hn
  by_cases ha : a < 0 \/ 64 < a
  ·have HNB := qH (rN a w ha)
   have HAB := qH ha
   obtain ⟨p, hp⟩ : ∃ p : Option Addr, ((bB E s).map Ent.ptr).getD (.pointer none) = .pointer p := by
    cases bB E s with
    | none => exact ⟨none, rfl⟩
    | some e => exact ⟨some ⟨e.b, 0, none⟩, rfl⟩
   have hlk := HLk.out w (Kp.refl w)
   rw [hp] at hlk
   clear ha hp
   go_enter Tryz.func107, Tryz.ntmps107
   go_wp2_with fail
   refine HN.out.mono ?_
   rintro e w' ⟨rfl, rfl⟩
   go_wp2_with fail
   refine HNB.out.mono ?_
   rintro e w' ⟨rfl, rfl⟩
   go_wp2
   go_ret
   have e2 := aG3 (s := s) (C := aN E) HNM.out HAB.out
   exact RetF.mk (Kp.refl _) (BaseDecled.same H.out (Kp.refl _) e2 (xT (by rw [e2]; decide)) rfl)
  ·obtain ⟨k, rfl⟩ := Int.eq_ofNat_of_zero_le (show 0 ≤ a by omega)
   have hk64 : k ≤ 64 := by omega
   have HNR := qH (mM S w k hk64 H.out.inS)
   have HAN := qH ha
   clear ha
   cases he : bB E s with
   | none =>
    rw [he] at HLk
    have HE := qH he
    clear he
    go_enter Tryz.func107, Tryz.ntmps107
    go_wp2_with fail
    refine HN.out.mono ?_
    rintro e w' ⟨rfl, rfl⟩
    go_wp2_with fail
    refine HNR.out.mono ?_
    rintro e w1 ⟨v, rfl, hk1, rfl, hrows⟩
    have hlk : (Instr.lookup 127 (.map (some r)) (.string s) false).run Tryz.prog w1 = .ok (.pointer none) w1 := HLk.out w1 hk1
    have c1 := hk1.cell c0 id
    have HK1 := qH (And.intro hk1 hrows)
    clear hk1 hrows
    go_wp2_with fail
    refine (fA (H.out.blk.ext HK1.out.1) (H.out.map.ext HK1.out.1) s (some ⟨w.heap.size, 0, none⟩)).mono ?_
    rintro e w4 ⟨v, rfl, hk4, hm4⟩
    have HM4 := qH (And.intro hk4 hm4)
    clear hk4 hm4
    go_wp2
    go_ret
    exact zG H.out HE.out HNM.out hk64 HK1.out.1 HK1.out.2 (Nat.le_refl _) HM4.out.1 HM4.out.2
   | some e0 =>
    rw [he] at HLk
    have HE := qH he
    obtain ⟨hem, hes⟩ := bT he
    obtain ⟨b0, eb0⟩ : ∃ b0, e0.b = b0 := ⟨_, rfl⟩
    obtain ⟨ar, ear⟩ : ∃ ar, e0.ar = ar := ⟨_, rfl⟩
    have d2 : w.cell? ⟨b0, 2, none⟩ = some (.int .i64 ar) := by rw [<- eb0, (H.out.rows e0 hem).blk.cell', ear]; rfl
    have HEM := qH (And.intro eb0 ear)
    have hg : bK (aN E) s = some (ar, e0.LL) := by rw [<- ear]; exact (dN he).1
    have hR := aD6 (C := aN E) HNM.out HAN.out hg
    have HR := qH (And.intro hR (aD8 (C := aN E) (a := (k : Int)) hg))
    clear he hem hes eb0 ear hg hR
    by_cases hq : ar = k
    ·have q1 : ((ar : Int) != (k : Int)) = false := by simp [hq]
     have HQ := qH hq
     clear hq
     go_enter Tryz.func107, Tryz.ntmps107
     go_wp2_with fail
     refine HN.out.mono ?_
     rintro e w' ⟨rfl, rfl⟩
     go_wp2_with fail
     refine HNR.out.mono ?_
     rintro e w1 ⟨v, rfl, hk1, rfl, hrows⟩
     have hlk : (Instr.lookup 127 (.map (some r)) (.string s) false).run Tryz.prog w1 = .ok (.pointer (some ⟨b0, 0, none⟩)) w1 := by rw [<- HEM.out.1]; exact HLk.out w1 hk1
     have c1 := hk1.cell c0 id
     have d21 := hk1.cell d2 id
     have HK1 := qH hk1
     clear hk1 hrows
     go_wp2
     go_ret
     exact RetF.mk (Ext.kp HK1.out) (BaseDecled.same H.out HK1.out (by rw [HR.out.1, if_pos (by rw [HQ.out])]) HR.out.2 rfl)
    ·have q1 : ((ar : Int) != (k : Int)) = true := by rw [bne_iff_ne]; omega
     have HQ := qH hq
     clear hq
     go_enter Tryz.func107, Tryz.ntmps107
     go_wp2_with fail
     refine HN.out.mono ?_
     rintro e w' ⟨rfl, rfl⟩
     go_wp2_with fail
     refine HNR.out.mono ?_
     rintro e w1 ⟨v, rfl, hk1, rfl, hrows⟩
     have hlk : (Instr.lookup 127 (.map (some r)) (.string s) false).run Tryz.prog w1 = .ok (.pointer (some ⟨b0, 0, none⟩)) w1 := by rw [<- HEM.out.1]; exact HLk.out w1 hk1
     have c1 := hk1.cell c0 id
     have d21 := hk1.cell d2 id
     have HK1 := qH hk1
     clear hk1 hrows
     go_wp2
     go_ret
     exact RetF.mk (Ext.kp HK1.out) (BaseDecled.same H.out HK1.out (by rw [HR.out.1, if_neg (fun q => HQ.out (by omega))]) HR.out.2 rfl)
end
end Go.Proofs.YtinnmeiphbdogaaGreat
/- tuple.Base: FromRelations. -/
namespace Go.Proofs.YtinnmeiphbdogaaGreat
open Go.RowKit
def RelsIn (S : Nat -> Prop) (w : World) (ao : Option Addr) (L : List gQ) : Prop := ∀ (i : Nat) (q : gQ), L[i]? = some q -> ∃ b off ra rcap, ao = some ⟨b, off, none⟩ /\ S b /\ w.cell? ⟨b, off + i * 3, none⟩ = some (.string q.1) /\ w.cell? ⟨b, off + i * 3 + 1, none⟩ = some (.int .i64 q.2.1) /\ w.cell? ⟨b, off + i * 3 + 2, none⟩ = some (.slice ra q.2.2.1.length rcap) /\ q.2.2.1.length ≤ rcap /\ rcap ≤ maxLen /\ RowsIn S w ra q.2.2.1
section
variable {S S' : Nat -> Prop} {w w' : World} {ao : Option Addr} {L : List gQ}
theorem RelsIn.kp {F : Nat -> Prop} (h : RelsIn S w ao L) (hk : Kp F w w') (hF : ∀ k, F k -> ¬ S k) : RelsIn S w' ao L := fun i q hq => by
 obtain ⟨b, off, ra, rcap, e, hb, c0, c1, c2, h1, h2, h3⟩ := h i q hq
 exact ⟨b, off, ra, rcap, e, hb, hk.cell c0 (fun f => hF _ f hb), hk.cell c1 (fun f => hF _ f hb), hk.cell c2 (fun f => hF _ f hb), h1, h2, h3.kp hk hF⟩
theorem RelsIn.ext (h : RelsIn S w ao L) (hk : Ext w w') : RelsIn S w' ao L := h.kp hk fun _ x => x.elim
end
theorem aIt {C : List bA} {q : gQ} {L : List gQ} (h : dA C q.1 q.2.1 ≠ 0) : bY C (q :: L) = (C, dA C q.1 q.2.1) := if_neg h
theorem aIs {C : List bA} {q : gQ} {L : List gQ} (h : dA C q.1 q.2.1 = 0) (h2 : (cS (dP C q.1 q.2.1) q.1 q.2.2.1).2 ≠ 0) : bY C (q :: L) = cS (dP C q.1 q.2.1) q.1 q.2.2.1 := by
 show (if dA C q.1 q.2.1 = 0 then _ else _) = _
 rw [if_pos h, if_neg h2]
theorem aJ2 {C : List bA} {q : gQ} {L : List gQ} (h : dA C q.1 q.2.1 = 0) (h2 : (cS (dP C q.1 q.2.1) q.1 q.2.2.1).2 = 0) : bY C (q :: L) = bY (cS (dP C q.1 q.2.1) q.1 q.2.2.1).1 L := by
 show (if dA C q.1 q.2.1 = 0 then _ else _) = _
 rw [if_pos h, if_pos h2]
theorem aHo {C : List bA} {s : ByteArray} {x : List ByteArray} {rs : aD} (h : (dV C s x).2 = 0) : cS C s (x :: rs) = cS (lO C s x) s rs := if_pos h
theorem aEl {C : List bA} {s : ByteArray} {x : List ByteArray} {rs : aD} (h : (dV C s x).2 ≠ 0) : cS C s (x :: rs) = (C, (dV C s x).2) := if_neg h
def FromV (w : World) (L : List gQ) (w' : World) (v : Value) : Prop :=
 ((bY [] L).2 = 0 -> ∃ bb r S E, v = .tuple #[.pointer (some ⟨bb, 0, none⟩), .int .i64 0] /\ BaseAt S w' bb r E /\ aN E = (bY [] L).1 /\ (∀ k, S k -> w.heap.size ≤ k) /\ ∀ k, OwnB bb r E k -> w.heap.size ≤ k) /\
 ((bY [] L).2 ≠ 0 -> v = .tuple #[.pointer none, .int .i64 (((bY [] L).2 : Nat) : Int)])
structure MyBase (w0 : World) (S : Nat -> Prop) (w : World) (bb r : Nat) (E : List Ent) : Prop where
 base : BaseAt S w bb r E
 ext : Ext w0 w
 pool : ∀ k, S k -> w0.heap.size ≤ k
 own : ∀ k, OwnB bb r E k -> w0.heap.size ≤ k
def aK6 (w0 : World) (bb r : Nat) (L : List gQ) (n : Nat) (iv : Value) (w : World) : Prop := ∃ i : Nat, i ≤ n /\ iv = .int .i64 i /\ Hid (∃ S E, MyBase w0 S w bb r E /\ bY (aN E) (L.drop i) = bY [] L)
def aK7 (w0 : World) (bb r : Nat) (q : gQ) (R : List bA × Nat) (g : Nat) (cs : List Value) (m : Nat) (jv : Value) (w : World) : Prop := ∃ j : Nat, j ≤ m /\ jv = .int .i64 j /\ Hid (∃ S E, MyBase w0 S w bb r E /\ cS (aN E) q.1 (q.2.2.1.drop j) = R /\ Blk w g cs 116 /\ ¬ OwnB bb r E g)
theorem drop_at {α : Type} {xs : List α} {i : Nat} {x : α} (h : xs[i]? = some x) : xs.drop i = x :: xs.drop (i + 1) := by
 obtain ⟨hi, e⟩ := List.getElem?_eq_some_iff.1 h
 rw [List.drop_eq_getElem_cons hi, e]
theorem cells_lt {w : World} {xa : Option Addr} {ss : List ByteArray} (h : CellsAt w xa (strs ss)) (hne : ss ≠ []) : ∀ a, xa = some a -> a.block < w.heap.size := fun a e => by
 cases ss with
 | nil => exact absurd rfl hne
 | cons s ss =>
  obtain ⟨b, off, e1, hc⟩ := h 0 (.string s) rfl
  rw [e] at e1; cases e1
  exact World.block_lt_of_cell? _ _ hc
set_option maxRecDepth 100000 in
set_option maxHeartbeats 4000000 in
theorem aBk (L : List gQ) (ao : Option Addr) (n cap : Nat) (w : World) (S0 : Nat -> Prop) (hn : n = L.length) (hL : RelsIn S0 w ao L) (hl : n ≤ 4194304) (hr : ∀ q ∈ L, q.2.2.1.length ≤ 1048576) :
 Calls Tryz.prog 59 #[.slice ao n cap] w (RetN w (FromV w L)) := by
 have HN := qH hn
 have HL := qH hL
 have HR := qH hr
 clear hn hL hr
 go_enter Tryz.func59, Tryz.ntmps59
 go_wp2_with fail
 refine (aA0 w).mono ?_
 rintro e w1 ⟨v, rfl, hk1, rfl, hB, hm⟩
 obtain ⟨bb, ebb⟩ : ∃ bb, w.heap.size + 1 = bb := ⟨_, rfl⟩
 rw [ebb] at hB ⊢
 obtain ⟨r, er⟩ : ∃ r, w.heap.size = r := ⟨_, rfl⟩
 rw [er] at hB hm
 have HM0 := qH (show MyBase w (fun _ => False) w1 bb r [] from
  {base := BaseAt.new (fun _ => False) (fun _ x => x.elim) hk1 (by omega) (by omega) (by omega) hB hm
   ext := hk1, pool := fun _ x => x.elim
   own := fun k hk => by
    rcases hk with rfl | rfl | ⟨e, he, _⟩
    ·omega
    ·omega
    ·simp at he })
 clear hB hm hk1 ebb er
 go_wp2
 go_loopw [15] (fun iv wr => aK6 w bb r L n iv wr) (fun iv _ => n - (intOf iv).toNat)
 case atStart => exact ⟨0, Nat.zero_le _, rfl, _, [], HM0.out, rfl⟩
 case round =>
  clear HM0
  obtain ⟨i, hi, rfl, hin⟩ := hrel
  obtain ⟨S, E, hM, hF⟩ := hin.out
  have HM := qH hM
  have HF := qH hF
  clear hin hM hF
  by_cases hlt : i < n
  ·obtain ⟨q, hq⟩ : ∃ q, L[i]? = some q := ⟨_, qG (by rw [<- HN.out]; exact hlt)⟩
   obtain ⟨b, off, ra, rcap, eao, hSb, c0, c1, c2, hrl, hrm, hrows⟩ := HL.out i q hq
   subst eao
   replace c0 := HM.out.ext.cell c0 id
   replace c1 := HM.out.ext.cell c1 id
   replace c2 := HM.out.ext.cell c2 id
   obtain ⟨s, es⟩ : ∃ s, q.1 = s := ⟨_, rfl⟩
   obtain ⟨a, ea⟩ : ∃ a, q.2.1 = a := ⟨_, rfl⟩
   obtain ⟨m, em⟩ : ∃ m, q.2.2.1.length = m := ⟨_, rfl⟩
   rw [es] at c0
   rw [ea] at c1
   rw [em] at c2 hrl
   have hm1 : m ≤ 1048576 := by rw [<- em]; exact HR.out q (List.mem_of_getElem? hq)
   have HQ := qH (And.intro hq (And.intro es (And.intro ea em)))
   have HRows := qH hrows
   clear hq es ea em hrows hSb
   obtain ⟨gx, egx⟩ : ∃ g, wr.heap.size = g := ⟨_, rfl⟩
   obtain ⟨wx, ewx⟩ : ∃ wx, wr.alloc (.cells #[.string s, .int .i64 a, .slice ra m rcap] 116) = wx := ⟨_, rfl⟩
   have HBx := qH (show Blk wx gx [.string s, .int .i64 a, .slice ra m rcap] 116 by rw [<- ewx, <- egx]; exact Blk.new wr _ _)
   have HXx := qH (show Ext wr wx by rw [<- ewx]; exact (Kp.refl wr).alloc _)
   have HGx := qH (show ∀ k, OwnB bb r E k -> k < gx from fun k hk => by rw [<- egx]; exact HM.out.base.ownLt k hk)
   have EGX := qH egx
   have x0 : wx.cell? ⟨wr.heap.size, 0, none⟩ = some (.string s) := by rw [egx, HBx.out.cell']; rfl
   have x1 : wx.cell? ⟨wr.heap.size, 1, none⟩ = some (.int .i64 a) := by rw [egx, HBx.out.cell']; rfl
   clear egx
   go_wp2_with fail
   rw [EGX.out]
   refine (zH (HM.out.base.ext HXx.out) s a).mono ?_
   rintro e w2 ⟨v, rfl, hk2, rfl, E1, hB1, hC1, ho1⟩
   have hgx : gx < wx.heap.size := HBx.out.lt
   have hbx2 : Blk w2 gx [.string s, .int .i64 a, .slice ra m rcap] 116 := HBx.out.kp hk2 fun ho => by have := HGx.out gx ho; omega
   have hM1 : MyBase w S w2 bb r E1 :=
    {base := hB1
     ext := (HM.out.ext.trans HXx.out).trans' hk2 fun k hk ho => by have := HM.out.own k ho; omega
     pool := HM.out.pool
     own := fun k hk => by
      rcases ho1 k hk with h1 | h1
      ·exact HM.out.own k h1
      ·have := (HM.out.ext.trans HXx.out).size; omega }
   have hng : ¬ OwnB bb r E1 gx := fun ho => by
    rcases ho1 gx ho with h1 | h1
    ·have := HGx.out gx h1; omega
    ·omega
   have HM1 := qH (And.intro hM1 (And.intro hC1 (And.intro hbx2 hng)))
   clear hk2 hB1 hC1 ho1 hgx hbx2 hM1 hng ewx x0 x1 c0 c1 c2
   obtain ⟨d, ed⟩ : ∃ d, dA (aN E) s a = d := ⟨_, rfl⟩
   rw [ed]
   have ED := qH ed
   clear ed
   have y2 : w2.cell? ⟨gx, 2, none⟩ = some (.slice ra m rcap) := by rw [HM1.out.2.2.1.cell']; rfl
   by_cases hd : d = 0
   ·have q1 : ((d : Int) != 0) = false := by simp [hd]
    have HD := qH hd
    clear hd
    have hdr : (L.drop i) = q :: L.drop (i + 1) := drop_at HQ.out.1
    have HDr := qH hdr
    clear hdr
    go_wp2
    clear q1
    generalize hw5 : w2 = w5 at *; clear hw5
    go_loopw [31] (fun jv wk => aK7 w bb r q (cS (dP (aN E) s a) s q.2.2.1) gx [.string s, .int .i64 a, .slice ra m rcap] m jv wk) (fun jv _ => m - (intOf jv).toNat)
    case atStart => exact ⟨0, Nat.zero_le _, rfl, S, E1, HM1.out.1, by rw [HM1.out.2.1, HQ.out.2.1]; rfl, HM1.out.2.2.1, HM1.out.2.2.2⟩
    case round =>
     clear HM1 HBx HXx HGx EGX y2
     obtain ⟨j, hj, rfl, hin⟩ := hrel
     obtain ⟨S1, E2, hM2, hA2, hbx, hng⟩ := hin.out
     have HM2 := qH (And.intro hM2 (And.intro hA2 (And.intro hbx hng)))
     clear hin hM2 hA2 hbx hng
     by_cases hlt2 : j < m
     ·obtain ⟨ss, hss⟩ : ∃ ss, q.2.2.1[j]? = some ss := ⟨_, qG (by rw [HQ.out.2.2.2]; exact hlt2)⟩
      obtain ⟨g, o, xa, xcap, era, d0, d1, d2, d3⟩ := HRows.out.get hss
      subst era
      replace d0 := HM2.out.1.ext.cell d0 id
      obtain ⟨k, ek⟩ : ∃ k, ss.length = k := ⟨_, rfl⟩
      rw [ek] at d0
      have HSS := qH (And.intro hss ek)
      have HRow := qH (And.intro d1 (And.intro d2 d3))
      have y0 : wr.cell? ⟨gx, 0, none⟩ = some (.string s) := by rw [HM2.out.2.2.1.cell']; rfl
      clear hss ek d1 d2 d3
      go_wp2_with fail
      refine (aCb HM2.out.1.base s (ao := xa) (k := k) (cap := xcap) (ss := ss) ⟨⟨HSS.out.2.symm, HRow.out.1.ext HM2.out.1.ext⟩, HRow.out.2.1, fun a e hne => Nat.lt_of_lt_of_le (cells_lt HRow.out.1 (fun h => hne (by show k = 0; rw [<- HSS.out.2, h]; rfl)) a e) HM2.out.1.ext.size⟩ (fun a e hne ho => by
       have h1 := HM2.out.1.own _ ho
       have h2 := cells_lt HRow.out.1 (fun h => hne (by show k = 0; rw [<- HSS.out.2, h]; rfl)) a e
       omega)).mono ?_
      rintro e w3 ⟨v, rfl, hk3, rfl, S3, E3, hs1, hs2, hB3, hC3, ho3⟩
      have hgx : gx < wr.heap.size := HM2.out.2.2.1.lt
      have hM3 : MyBase w S3 w3 bb r E3 :=
       {base := hB3
        ext := HM2.out.1.ext.trans' hk3 fun k hk ho => by have := HM2.out.1.own k ho; omega
        pool := fun k hk => by
         rcases hs2 k hk with h1 | h1
         ·exact HM2.out.1.pool k h1
         ·have := HM2.out.1.ext.size; omega
        own := fun k hk => by
         rcases ho3 k hk with h1 | h1
         ·exact HM2.out.1.own k h1
         ·have := HM2.out.1.ext.size; omega }
      have hb3 : Blk w3 gx [.string s, .int .i64 a, .slice (some ⟨g, o, none⟩) m rcap] 116 := HM2.out.2.2.1.kp hk3 HM2.out.2.2.2
      have hng : ¬ OwnB bb r E3 gx := fun ho => by
       rcases ho3 gx ho with h1 | h1
       ·exact HM2.out.2.2.2 h1
       ·omega
      have HM3 := qH (And.intro hM3 (And.intro hC3 (And.intro hb3 hng)))
      clear hk3 hB3 hC3 ho3 hgx hM3 hng hb3 hs1 hs2 y0 d0
      obtain ⟨x1, ex1⟩ : ∃ x, (dV (aN E2) s ss).1 = x := ⟨_, rfl⟩
      obtain ⟨x2, ex2⟩ : ∃ x, (dV (aN E2) s ss).2 = x := ⟨_, rfl⟩
      rw [ex1, ex2]
      have EX := qH ex2
      clear ex1 ex2
      have hdj : q.2.2.1.drop j = ss :: q.2.2.1.drop (j + 1) := drop_at HSS.out.1
      have HDj := qH hdj
      clear hdj
      by_cases hx : x2 = 0
      ·have q1 : ((x2 : Int) != 0) = false := by simp [hx]
       have HX := qH hx
       clear hx
       go_wp2
       go_roundw
       case rel =>
        refine ⟨j + 1, by omega, by first | rfl | (congr 1; done) | (congr 1; omega), S3, E3, HM3.out.1, ?_, HM3.out.2.2.1, HM3.out.2.2.2⟩
        rw [HM3.out.2.1, <- HM2.out.2.1, HDj.out, HQ.out.2.1]
        exact (aHo (by rw [EX.out]; exact HX.out)).symm
       case measure => simp [intOf]; omega
      ·have q1 : ((x2 : Int) != 0) = true := by simp; omega
       have HX := qH hx
       clear hx
       go_wp2
       go_ret2
       have hall := HM2.out.2.1
       rw [HDj.out, HQ.out.2.1, aEl (by rw [EX.out]; exact HX.out), EX.out] at hall
       have hfr : bY [] L = (aN E2, x2) := by
        rw [<- HF.out, HDr.out, aIs (by rw [HQ.out.2.1, HQ.out.2.2.1, ED.out]; exact HD.out) (by rw [HQ.out.2.1, HQ.out.2.2.1, <- hall]; exact HX.out), HQ.out.2.1, HQ.out.2.2.1, <- hall]
       exact RetN.mk HM3.out.1.ext ⟨fun h0 => by rw [hfr] at h0; exact absurd h0 HX.out, fun _ => by rw [hfr]; rfl⟩
     ·obtain rfl : j = m := by omega
      have hall := HM2.out.2.1
      rw [List.drop_of_length_le (by rw [HQ.out.2.2.2]; exact Nat.le_refl _)] at hall
      have hall' : cS (dP (aN E) s a) s q.2.2.1 = (aN E2, 0) := hall.symm
      have HAll := qH hall'
      clear hall hall'
      go_wp2
      go_roundw
      case rel =>
       refine ⟨i + 1, by omega, by first | rfl | (congr 1; done) | (congr 1; omega), S1, E2, HM2.out.1, ?_⟩
       rw [<- HF.out, HDr.out, aJ2 (by rw [HQ.out.2.1, HQ.out.2.2.1, ED.out]; exact HD.out) (by rw [HQ.out.2.1, HQ.out.2.2.1, HAll.out]), HQ.out.2.1, HQ.out.2.2.1, HAll.out]
      case measure => simp [intOf]; omega
   ·have q1 : ((d : Int) != 0) = true := by simp; omega
    have HD := qH hd
    clear hd
    go_wp2
    go_ret2
    have hfr : bY [] L = (aN E, d) := by
     rw [<- HF.out, drop_at HQ.out.1, aIt (by rw [HQ.out.2.1, HQ.out.2.2.1, ED.out]; exact HD.out), HQ.out.2.1, HQ.out.2.2.1, ED.out]
    exact RetN.mk HM1.out.1.ext ⟨fun h0 => by rw [hfr] at h0; exact absurd h0 HD.out, fun _ => by rw [hfr]; rfl⟩
  ·obtain rfl : i = n := by omega
   have hfr : bY [] L = (aN E, 0) := by
    rw [<- HF.out, List.drop_of_length_le (by rw [<- HN.out]; exact Nat.le_refl _)]; rfl
   have HFr := qH hfr
   clear hfr
   go_wp2
   go_ret2
   exact RetN.mk HM.out.ext ⟨fun _ => ⟨bb, r, S, E, rfl, HM.out.base, by rw [HFr.out], HM.out.pool, HM.out.own⟩, fun h0 => absurd (by rw [HFr.out]) h0⟩
end Go.Proofs.YtinnmeiphbdogaaGreat
/- The law of joins: the chapter's base; rules that are laid out; each over that base. -/
namespace Go.Proofs.YtinnmeiphbdogaaGreat
open Go.RowKit Go.Shelf
attribute [local go_sem] Oper.semAt_some
def aAi (C : List bA) (ls : List aO) (j : Nat) : aD := match ls[j]? with | some l => bF C (aX l) | none => []
def jN (r : cN) (C : List bA) : aD := if bD r = 0 then aKg r (aAi C r.2.1) else []
theorem oY (E : List Ent) (s : ByteArray) : dG (bB E s) = bF (aN E) s := by
 unfold bF
 rw [nB]
 cases bB E s <;> rfl
theorem aH0 (ls : List aO) (E : List Ent) : bI (vP ls E) ls = aAi (aN E) ls := by
 funext j
 unfold bI vP aAi
 by_cases hj : j < ls.length
 ·rw [if_pos hj, qG hj, oY]; rfl
 ·rw [if_neg hj, List.getElem?_eq_none (by omega)]; rfl
theorem pD (r : cN) (E : List Ent) : lP r (bI (vP r.2.1 E) r.2.1) (jN r (aN E)) := by
 rw [aH0]
 unfold jN
 exact ⟨fun hc => by rw [if_pos hc]; exact aI6 hc _, fun hc => by rw [if_neg hc]⟩
abbrev TT : Nat -> Prop := fun _ => True
def fitB (ts : List aG) : Bool := ts.all fun t => (Lit.int .i64 t.1).wf && decide (t.2.1.size ≤ 4096)
theorem aGu {t : aG} (h : ((Lit.int .i64 t.1).wf && decide (t.2.1.size ≤ 4096)) = true) : fV t := by
 rw [Bool.and_eq_true, decide_eq_true_eq] at h
 exact ⟨h.1, by unfold maxLen; omega⟩
theorem uT {ts : List aG} (h : fitB ts = true) : ∀ t ∈ ts, fV t := fun t ht => aGu (List.all_eq_true.1 h t ht)
def aE6 (ls : List aO) : Bool := ls.all fun l => (Lit.int .i64 l.1).wf && (decide ((aX l).size ≤ 4096) && (fitB (aA l) && ((Lit.int .i64 (gK l)).wf && fitB [leftOf l, aR l])))
theorem rT {ls : List aO} (h : aE6 ls = true) : ∀ l ∈ ls, LitAll l := fun l hl => by
 have h1 := List.all_eq_true.1 h l hl
 simp only [Bool.and_eq_true, decide_eq_true_eq] at h1
 obtain ⟨a, b, c, d, e⟩ := h1
 have e2 := uT e
 exact ⟨a, by unfold maxLen; omega, uT c, d, e2 _ (by simp), e2 _ (by simp)⟩
theorem nM (w : World) (ts : List aG) (h : fitB ts = true) : aW (w.alloc (.cells (aCp ts).toArray 38)) TT (some ⟨w.heap.size, 0, none⟩) ts :=
 aIy (s := cV) (f := zV) (rest := []) (fun x => rfl) (fun i x hi => pG (uT h x (List.mem_of_getElem? hi))) trivial (by rw [List.append_nil]; exact Blk.new w (aCp ts) 38)
theorem aIh (w : World) (a : Option Addr) : cK w TT a [] := fun i x hx => by simp at hx
theorem aIi (w : World) (ls : List aO) (vs : List (Option Addr × Nat)) (hv : vs.length = ls.length) (h : aE6 ls = true) (ht : ∀ x ∈ ls.zip vs, aW w TT x.2.1 (aA x.1) /\ (aA x.1).length ≤ x.2.2 /\ x.2.2 ≤ maxLen) : cK (w.alloc (.cells ((ls.zip vs).flatMap mR).toArray 40)) TT (some ⟨w.heap.size, 0, none⟩) ls :=
 uC (rest := []) hv (rT h) (fun x hx => ⟨(ht x hx).1.ext ((Kp.refl w).alloc _), (ht x hx).2⟩) trivial (by rw [List.append_nil]; exact Blk.new w ((ls.zip vs).flatMap mR) 40)
theorem aGf {w : World} {G : Nat -> Prop} {ao : Option Addr} {ls : List aO} (h : cK w G ao ls) : ∃ vs : List (Option Addr × Nat), vs.length = ls.length /\ CellsAt w ao ((ls.zip vs).flatMap mR) /\ ∀ x ∈ ls.zip vs, LitIn w G x.1 x.2.1 x.2.2 := by
 have hex : ∀ i : Fin ls.length, ∃ p : Option Addr × Nat, LitIn w G ls[i] p.1 p.2 /\ ∀ c u, (mR (ls[i], p))[c]? = some u -> ∃ b off, ao = some ⟨b, off, none⟩ /\ w.cell? ⟨b, off + i.1 * 8 + c, none⟩ = some u := fun i => by
  obtain ⟨b, off, a, cap, e, -, -, hl, c0, c1, c2, c3, c4, c5, c6, c7⟩ := qW h (qG i.2)
  refine ⟨(a, cap), hl, fun c u hu => ⟨b, off, e, ?_⟩⟩
  match c, hu with
  | 0, hu => cases hu; exact c0
  | 1, hu => cases hu; exact c1
  | 2, hu => cases hu; exact c2
  | 3, hu => cases hu; exact c3
  | 4, hu => cases hu; exact c4
  | 5, hu => cases hu; exact c5
  | 6, hu => cases hu; exact c6
  | 7, hu => cases hu; exact c7
  | k + 8, hu => cases hu
 let f : Fin ls.length -> Option Addr × Nat := fun i => Classical.choose (hex i)
 have hf : ∀ i, _ := fun i => Classical.choose_spec (hex i)
 have hz : ∀ (i : Nat) x, (ls.zip (List.ofFn f))[i]? = some x -> ∃ hi : i < ls.length, x = (ls[i], f ⟨i, hi⟩) := fun i x hx => by
  obtain ⟨l, p⟩ := x
  rw [List.getElem?_zip_eq_some] at hx
  have hi := (List.getElem?_eq_some_iff.1 hx.1).1
  refine ⟨hi, ?_⟩
  have h1 := hx.1
  have h2 := hx.2
  rw [qG hi] at h1
  rw [List.getElem?_ofFn, dif_pos hi] at h2
  cases h1; cases h2; rfl
 refine ⟨List.ofFn f, List.length_ofFn, fun i u hu => ?_, fun x hx => ?_⟩
 ·have hl := (List.getElem?_eq_some_iff.1 hu).1
  rw [aBm mR 8 pX, List.length_zip, List.length_ofFn, Nat.min_self] at hl
  have hq := Nat.div_add_mod i 8
  have hm := Nat.mod_lt i (show 8 > 0 by decide)
  have hi : i / 8 < ls.length := Nat.div_lt_of_lt_mul (by omega)
  have hzi : (ls.zip (List.ofFn f))[i / 8]? = some (ls[i / 8], f ⟨i / 8, hi⟩) := by
   rw [List.getElem?_zip_eq_some]
   exact ⟨qG hi, by rw [List.getElem?_ofFn, dif_pos hi]⟩
  have hg := flat_get mR 8 pX _ (i / 8) _ (i % 8) hzi hm
  rw [show i / 8 * 8 + i % 8 = i by omega, hu] at hg
  obtain ⟨b, off, e, hc⟩ := (hf ⟨i / 8, hi⟩).2 (i % 8) u hg.symm
  refine ⟨b, off, e, ?_⟩
  rw [<- hc]
  congr 2
  show off + i = off + i / 8 * 8 + i % 8
  omega
 ·obtain ⟨i, hi⟩ := List.mem_iff_getElem?.1 hx
  obtain ⟨hil, rfl⟩ := hz i x hi
  exact (hf ⟨i, hil⟩).1
def sA : ByteArray := ⟨#[97]⟩
def sB : ByteArray := ⟨#[98]⟩
def sC : ByteArray := ⟨#[99]⟩
def aDt : List gQ := [(⟨#[101]⟩, 2, [[sA, sB], [sB, sC], [sB, sB], [sC, sA]], ()), (⟨#[110]⟩, 1, [[sB]], ()), (⟨#[122]⟩, 0, [[]], ())]
def awC : List bA := [(⟨#[101]⟩, 2, [[sA, sB], [sB, sB], [sB, sC], [sC, sA]]), (⟨#[110]⟩, 1, [[sB]]), (⟨#[122]⟩, 0, [[]])]
theorem aBg : bY [] aDt = (awC, 0) := by kernel_rfl
def aH2 (l : List (Nat × List ByteArray)) : List fJ := l.map fun x => ((some ⟨x.1, 0, none⟩, x.2.length, x.2.length), x.2)
theorem qT {w : World} {g : Nat} {l : List (Nat × List ByteArray)} {LL : aD} (hl : LL = l.map Prod.snd) (hB : Blk w g (eG (aH2 l)) 34) (hr : ∀ x ∈ l, Blk w x.1 (strs x.2) 9 /\ x.2.length ≤ 64) : RowsIn TT w (some ⟨g, 0, none⟩) LL := by
 refine ⟨aH2 l, by rw [hl]; unfold aH2; rw [List.map_map]; rfl, CellsAt.pre (rest := []) (by rw [List.append_nil]; exact hB), fun _ _ => trivial, fun p hp => ?_⟩
 obtain ⟨x, hx, rfl⟩ := List.mem_map.1 hp
 obtain ⟨h1, h2⟩ := hr x hx
 exact ⟨⟨rfl, CellsAt.pre (rest := []) (by rw [List.append_nil]; exact h1)⟩, by show x.2.length ≤ _; omega, fun _ _ => trivial⟩
set_option maxRecDepth 100000 in
set_option maxHeartbeats 4000000 in
theorem aGq (w : World) : Calls Tryz.prog 26 #[] w (RetN w fun w' v => ∃ bb E S, v = .pointer (some ⟨bb, 0, none⟩) /\ BaseV S w' v E /\ aN E = awC) := by
 obtain ⟨w1, e1⟩ : ∃ x, w.alloc (.cells #[.string ⟨#[97]⟩, .string ⟨#[98]⟩] 9) = x := ⟨_, rfl⟩
 have B1 := qH (show Blk w1 w.heap.size [.string ⟨#[97]⟩, .string ⟨#[98]⟩] 9 from by rw [<- e1]; exact Blk.new w _ _)
 have Y1 := qH (show Ext w w1 from by rw [<- e1]; exact (Kp.refl w).alloc _)
 obtain ⟨w2, e2⟩ : ∃ x, w1.alloc (.cells #[.string ⟨#[98]⟩, .string ⟨#[99]⟩] 9) = x := ⟨_, rfl⟩
 have B2 := qH (show Blk w2 w1.heap.size [.string ⟨#[98]⟩, .string ⟨#[99]⟩] 9 from by rw [<- e2]; exact Blk.new w1 _ _)
 have Y2 := qH (show Ext w1 w2 from by rw [<- e2]; exact (Kp.refl w1).alloc _)
 obtain ⟨w3, e3⟩ : ∃ x, w2.alloc (.cells #[.string ⟨#[98]⟩, .string ⟨#[98]⟩] 9) = x := ⟨_, rfl⟩
 have B3 := qH (show Blk w3 w2.heap.size [.string ⟨#[98]⟩, .string ⟨#[98]⟩] 9 from by rw [<- e3]; exact Blk.new w2 _ _)
 have Y3 := qH (show Ext w2 w3 from by rw [<- e3]; exact (Kp.refl w2).alloc _)
 obtain ⟨w4, e4⟩ : ∃ x, w3.alloc (.cells #[.string ⟨#[99]⟩, .string ⟨#[97]⟩] 9) = x := ⟨_, rfl⟩
 have B4 := qH (show Blk w4 w3.heap.size [.string ⟨#[99]⟩, .string ⟨#[97]⟩] 9 from by rw [<- e4]; exact Blk.new w3 _ _)
 have Y4 := qH (show Ext w3 w4 from by rw [<- e4]; exact (Kp.refl w3).alloc _)
 obtain ⟨w5, e5⟩ : ∃ x, w4.alloc (.cells #[.slice (some ⟨w.heap.size, 0, none⟩) 2 2, .slice (some ⟨w1.heap.size, 0, none⟩) 2 2, .slice (some ⟨w2.heap.size, 0, none⟩) 2 2, .slice (some ⟨w3.heap.size, 0, none⟩) 2 2] 34) = x := ⟨_, rfl⟩
 have B5 := qH (show Blk w5 w4.heap.size [.slice (some ⟨w.heap.size, 0, none⟩) 2 2, .slice (some ⟨w1.heap.size, 0, none⟩) 2 2, .slice (some ⟨w2.heap.size, 0, none⟩) 2 2, .slice (some ⟨w3.heap.size, 0, none⟩) 2 2] 34 from by rw [<- e5]; exact Blk.new w4 _ _)
 have Y5 := qH (show Ext w4 w5 from by rw [<- e5]; exact (Kp.refl w4).alloc _)
 obtain ⟨w6, e6⟩ : ∃ x, w5.alloc (.cells #[.string ⟨#[98]⟩] 9) = x := ⟨_, rfl⟩
 have B6 := qH (show Blk w6 w5.heap.size [.string ⟨#[98]⟩] 9 from by rw [<- e6]; exact Blk.new w5 _ _)
 have Y6 := qH (show Ext w5 w6 from by rw [<- e6]; exact (Kp.refl w5).alloc _)
 obtain ⟨w7, e7⟩ : ∃ x, w6.alloc (.cells #[.slice (some ⟨w5.heap.size, 0, none⟩) 1 1] 34) = x := ⟨_, rfl⟩
 have B7 := qH (show Blk w7 w6.heap.size [.slice (some ⟨w5.heap.size, 0, none⟩) 1 1] 34 from by rw [<- e7]; exact Blk.new w6 _ _)
 have Y7 := qH (show Ext w6 w7 from by rw [<- e7]; exact (Kp.refl w6).alloc _)
 obtain ⟨w8, e8⟩ : ∃ x, w7.alloc (.cells #[] 9) = x := ⟨_, rfl⟩
 have B8 := qH (show Blk w8 w7.heap.size [] 9 from by rw [<- e8]; exact Blk.new w7 _ _)
 have Y8 := qH (show Ext w7 w8 from by rw [<- e8]; exact (Kp.refl w7).alloc _)
 obtain ⟨w9, e9⟩ : ∃ x, w8.alloc (.cells #[.slice (some ⟨w7.heap.size, 0, none⟩) 0 0] 34) = x := ⟨_, rfl⟩
 have B9 := qH (show Blk w9 w8.heap.size [.slice (some ⟨w7.heap.size, 0, none⟩) 0 0] 34 from by rw [<- e9]; exact Blk.new w8 _ _)
 have Y9 := qH (show Ext w8 w9 from by rw [<- e9]; exact (Kp.refl w8).alloc _)
 obtain ⟨w10, e10⟩ : ∃ x, w9.alloc (.cells #[.string ⟨#[101]⟩, .int .i64 2, .slice (some ⟨w4.heap.size, 0, none⟩) 4 4, .string ⟨#[110]⟩, .int .i64 1, .slice (some ⟨w6.heap.size, 0, none⟩) 1 1, .string ⟨#[122]⟩, .int .i64 0, .slice (some ⟨w8.heap.size, 0, none⟩) 1 1] 116) = x := ⟨_, rfl⟩
 have B10 := qH (show Blk w10 w9.heap.size [.string ⟨#[101]⟩, .int .i64 2, .slice (some ⟨w4.heap.size, 0, none⟩) 4 4, .string ⟨#[110]⟩, .int .i64 1, .slice (some ⟨w6.heap.size, 0, none⟩) 1 1, .string ⟨#[122]⟩, .int .i64 0, .slice (some ⟨w8.heap.size, 0, none⟩) 1 1] 116 from by rw [<- e10]; exact Blk.new w9 _ _)
 have Y10 := qH (show Ext w9 w10 from by rw [<- e10]; exact (Kp.refl w9).alloc _)
 have HE := qH (qT (w := w5) (g := w4.heap.size) (l := [(w.heap.size, [sA, sB]), (w1.heap.size, [sB, sC]), (w2.heap.size, [sB, sB]), (w3.heap.size, [sC, sA])]) (LL := [[sA, sB], [sB, sC], [sB, sB], [sC, sA]]) rfl B5.out (fun x hx => by
  simp only [List.mem_cons, List.not_mem_nil, or_false] at hx
  rcases hx with rfl | rfl | rfl | rfl
  ·exact ⟨B1.out.ext (Y2.out.trans (Y3.out.trans (Y4.out.trans Y5.out))), by simp⟩
  ·exact ⟨B2.out.ext (Y3.out.trans (Y4.out.trans Y5.out)), by simp⟩
  ·exact ⟨B3.out.ext (Y4.out.trans Y5.out), by simp⟩
  ·exact ⟨B4.out.ext Y5.out, by simp⟩))
 have HN := qH (qT (w := w7) (g := w6.heap.size) (l := [(w5.heap.size, [sB])]) (LL := [[sB]]) rfl B7.out (fun x hx => by
  simp only [List.mem_cons, List.not_mem_nil, or_false] at hx
  subst hx
  exact ⟨B6.out.ext Y7.out, by simp⟩))
 have HZ := qH (qT (w := w9) (g := w8.heap.size) (l := [(w7.heap.size, [])]) (LL := [[]]) rfl B9.out (fun x hx => by
  simp only [List.mem_cons, List.not_mem_nil, or_false] at hx
  subst hx
  exact ⟨B8.out.ext Y9.out, by simp⟩))
 have X5to10 := qH (Y6.out.trans (Y7.out.trans (Y8.out.trans (Y9.out.trans Y10.out))))
 have X7to10 := qH (Y8.out.trans (Y9.out.trans Y10.out))
 have X9to10 := qH Y10.out
 have X10 := qH (Y1.out.trans (Y2.out.trans (Y3.out.trans (Y4.out.trans (Y5.out.trans (Y6.out.trans (Y7.out.trans (Y8.out.trans (Y9.out.trans Y10.out)))))))))
 clear B1 Y1 B2 Y2 B3 Y3 B4 Y4 B5 Y5 B6 Y6 B7 Y7 B8 Y8 B9 Y9 Y10
 have hL : RelsIn TT w10 (some ⟨w9.heap.size, 0, none⟩) aDt := fun i q hq => by
  match i, hq with
  | 0, hq => cases hq; exact ⟨w9.heap.size, 0, some ⟨w4.heap.size, 0, none⟩, 4, rfl, trivial, by rw [B10.out.cell']; rfl, by rw [B10.out.cell']; rfl, by rw [B10.out.cell']; rfl, by decide, by decide, HE.out.ext (X5to10.out)⟩
  | 1, hq => cases hq; exact ⟨w9.heap.size, 0, some ⟨w6.heap.size, 0, none⟩, 1, rfl, trivial, by rw [B10.out.cell']; rfl, by rw [B10.out.cell']; rfl, by rw [B10.out.cell']; rfl, by decide, by decide, HN.out.ext (X7to10.out)⟩
  | 2, hq => cases hq; exact ⟨w9.heap.size, 0, some ⟨w8.heap.size, 0, none⟩, 1, rfl, trivial, by rw [B10.out.cell']; rfl, by rw [B10.out.cell']; rfl, by rw [B10.out.cell']; rfl, by decide, by decide, HZ.out.ext (X9to10.out)⟩
  | n + 3, hq => cases hq
 have HFr := qH (aBk aDt (some ⟨w9.heap.size, 0, none⟩) 3 3 w10 TT rfl hL (by decide) (by decide))
 clear hL
 go_enter Tryz.func26, Tryz.ntmps26
 go_wp2_with fail
 refine HFr.out.mono ?_
 rintro e w11 ⟨v, rfl, hk11, hv⟩
 obtain ⟨bb, r, S, E, rfl, hb, hC, -, -⟩ := hv.1 (by rw [aBg])
 have H11 := qH (show Ext w w11 /\ BaseAt S w11 bb r E /\ aN E = awC from ⟨X10.out.trans hk11, hb, by rw [hC, aBg]⟩)
 clear hv hb hC hk11
 go_wp2
 go_ret
 exact RetN.mk H11.out.1 ⟨bb, E, S, rfl, .full bb r E H11.out.2.1, H11.out.2.2⟩
theorem uW {S : Nat -> Prop} {w : World} {p : ByteArray} {hs : List aG} {ls : List aO} {ha ba : Option Addr} {hn hcap n bcap : Nat} {o : Option Addr} {E : List Ent} (hhn : hn = hs.length) (hh : aW w TT ha hs) (hhl : hn ≤ 1048576) (hbn : n = ls.length) (h : cK w TT ba ls) (hf : Fit ls) (hnv : (aB ls).length ≤ 1048576) (hn16 : n ≤ 1048576)
 (hB : BaseV S w (.pointer o) E) (hC : aN E = awC) (M : List ByteArray) (m : Nat) (hM : (jN ((p, hs, ()), ls, ()) awC).map iV = M) (hm : M.length = m) (hm2 : m ≤ 1048576) :
 Calls Tryz.prog 18 #[eF p ha hn hcap ba n bcap, .pointer o] w (RetN w fun w' v => ∃ ao cap, v = .slice ao m cap /\ CellsAt w' ao (strs M)) := by
 have hl : (jN ((p, hs, ()), ls, ()) (aN E)).length = m := by rw [hC, <- hm, <- hM, List.length_map]
 have h1 := aD5 (hcap := hcap) (bcap := bcap) (p := p) (L := jN ((p, hs, ()), ls, ()) (aN E)) hhn hh hhl hbn h hf hnv hn16 hB (pD ((p, hs, ()), ls, ()) E) (by omega)
 refine h1.mono ?_
 rintro e w' ⟨v, rfl, hk, hr⟩
 rw [hl, hC, hM] at hr
 obtain ⟨ao, cap, ev, hc, _⟩ := hr.shape
 exact RetN.mk hk ⟨ao, cap, ev, hc⟩
theorem tL (M : List ByteArray) (ao bo : Option Addr) (n acap bcap : Nat) (w : World) (hn : M.length = n) (ha : CellsAt w ao (strs M)) (hb : CellsAt w bo (strs M)) (hl : n ≤ 1048576) :
 Calls Tryz.prog 17 #[.slice ao n acap, .slice bo n bcap] w (RetN w fun w' v => v = .bool true) := by
 refine (aCr M M ao bo n n acap bcap w hn.symm hn.symm ha hb (by omega)).mono ?_
 rintro e w' ⟨v, rfl, hk, rfl⟩
 exact RetN.mk hk (by rw [decide_eq_true rfl])
end Go.Proofs.YtinnmeiphbdogaaGreat
/- The law of joins: over: the bindings of a rule one of whose literals looks into another base, as texts, rising. -/
namespace Go.Proofs.YtinnmeiphbdogaaGreat
open Go.RowKit Go.Shelf
attribute [local go_sem] Oper.semAt_some
section
variable {w8 W1 W : World} {b : Nat} {f : List XB -> List ByteArray} {T T' : Nat -> Prop} {pre : List XB}
end
end Go.Proofs.YtinnmeiphbdogaaGreat
/- Bases merged, in plain Lean. No program in sight. -/
namespace Go.Proofs.YtinnmeiphbdogaaGreat
end Go.Proofs.YtinnmeiphbdogaaGreat
/- The law of joins: JoinMore: plain. -/
namespace Go.Proofs.YtinnmeiphbdogaaGreat
end Go.Proofs.YtinnmeiphbdogaaGreat
/- The law of joins: base, few. -/
namespace Go.Proofs.YtinnmeiphbdogaaGreat
open Go.RowKit Go.Shelf
attribute [local go_sem] Oper.semAt_some
def BaseIn (w : World) (L : List gQ) (w' : World) (v : Value) : Prop :=
 ((bY [] L).2 = 0 /\ ∃ bb r S E, v = .tuple #[.pointer (some ⟨bb, 0, none⟩), .bool (decide (bG (bY [] L).1 ≤ 60))] /\ BaseAt S w' bb r E /\ aN E = (bY [] L).1 /\ (∀ k, S k -> w.heap.size ≤ k) /\ ∀ k, OwnB bb r E k -> w.heap.size ≤ k) \/
 ((bY [] L).2 ≠ 0 /\ v = .tuple #[.pointer none, .bool false])
set_option maxRecDepth 100000 in
set_option maxHeartbeats 4000000 in
theorem aEf (L : List gQ) (ao : Option Addr) (n cap : Nat) (w : World) (S0 : Nat -> Prop) (hn : n = L.length) (hL : RelsIn S0 w ao L) (hl : n ≤ 4194304) (hr : ∀ q ∈ L, q.2.2.1.length ≤ 1048576) :
 Calls Tryz.prog 10 #[.slice ao n cap] w (RetN w (BaseIn w L)) := by
 have HFr := qH (aBk L ao n cap w S0 hn hL hl hr)
 clear hn hL hl hr
 go_enter Tryz.func10, Tryz.ntmps10
 go_wp2_with fail
 refine HFr.out.mono ?_
 rintro e w1 ⟨v, rfl, hk1, hv⟩
 by_cases hc : (bY [] L).2 = 0
 ·obtain ⟨bb, r, S, E, rfl, hb, hC, h1, h2⟩ := hv.1 hc
  have H1 := qH (show Ext w w1 /\ BaseAt S w1 bb r E /\ aN E = (bY [] L).1 /\ (∀ k, S k -> w.heap.size ≤ k) /\ ∀ k, OwnB bb r E k -> w.heap.size ≤ k from ⟨hk1, hb, hC, h1, h2⟩)
  have HC := qH hc
  clear hv hk1 hb hC h1 h2 hc
  go_wp2_with fail
  refine (wR 0 w1).mono ?_
  rintro e w2 ⟨v, rfl, hk2, rfl⟩
  have HLn := qH (aB9 (H1.out.2.1.ext hk2).blk)
  have X2 := qH hk2
  clear hk2
  obtain ⟨tc, etc⟩ : ∃ t, bG (aN E) = t := ⟨_, rfl⟩
  rw [etc] at HLn
  have HTc := qH etc
  clear etc
  go_wp2_with fail
  refine HLn.out.mono ?_
  rintro e w3 ⟨rfl, rfl⟩
  have hd : decide ((tc : Int) ≤ 60) = decide (tc ≤ 60) := by rw [decide_eq_decide]; omega
  have HD := qH hd
  clear hd
  go_wp2
  go_ret2
  refine RetN.mk (H1.out.1.trans X2.out) (.inl ⟨HC.out, bb, r, S, E, ?_, H1.out.2.1.ext X2.out, H1.out.2.2.1, H1.out.2.2.2.1, H1.out.2.2.2.2⟩)
  rw [<- H1.out.2.2.1, HTc.out]
  first
   | rfl
   | (rw [<- HD.out]; rfl)
   | simp
 ·have hv2 := hv.2 hc
  subst hv2
  have HC := qH (And.intro hc hk1)
  obtain ⟨z, ez⟩ : ∃ z, (bY [] L).2 = z := ⟨_, rfl⟩
  rw [ez] at hc ⊢
  have hz : ((z : Int) == 0) = false := by simp; omega
  clear hv hk1 hc ez
  go_wp2_with fail
  refine (wR z w1).mono ?_
  rintro e w2 ⟨v, rfl, hk2, rfl⟩
  have X2 := qH hk2
  clear hk2
  go_wp2
  go_ret2
  exact RetN.mk (HC.out.2.trans X2.out) (.inr ⟨HC.out.1, rfl⟩)
def iY (C : List bA) : List aO -> Nat -> Option Nat
 | [], n => some n
 | l :: ls, n => if l.1 = 1 then (if 20000 < n * (1 + (bF C (aX l)).length) then none else iY C ls (n * (1 + (bF C (aX l)).length))) else iY C ls n
def aBs (C : List bA) (ls : List aO) : Bool := (iY C ls 1).isSome
theorem iI (C : List bA) : ∀ (a b : List aO) (n : Nat), iY C (a ++ b) n = (iY C a n).bind (iY C b)
 | [], b, n => rfl
 | l :: a, b, n => by
  show iY C (l :: (a ++ b)) n = (iY C (l :: a) n).bind _
  unfold iY
  split
  ·split
   ·rfl
   ·exact iI C a b _
  ·exact iI C a b n
def FewTo (w0 : World) (C : List bA) (ls : List aO) (n : Nat) (pv iv : Value) (w : World) : Prop := ∃ (i m : Nat), i ≤ n /\ iv = .int .i64 i /\ pv = .int .i64 m /\ m ≤ 20000 /\ Hid (Ext w0 w) /\ Hid (iY C (ls.take i) 1 = some m)
set_option maxRecDepth 100000 in
set_option maxHeartbeats 4000000 in
theorem aGw {S : Nat -> Prop} {w : World} {p : ByteArray} {hs : List aG} {ls : List aO} {ha ba : Option Addr} {hn hcap n bcap : Nat} {G : Nat -> Prop} {v : Value} {E : List Ent} (hbn : n = ls.length) (h : cK w G ba ls) (hf : Fit ls) (hB : BaseV S w v E) :
 Calls Tryz.prog 11 #[eF p ha hn hcap ba n bcap, v] w (RetN w fun w' u => u = .bool (aBs (aN E) ls)) := by
 have HN := qH hbn; have HE := qH h; have HF := qH hf; have hl : n ≤ 1048576 := by have := hf.len; omega
 have HSz := qH (fun W (hW : Ext w W) (s : ByteArray) => zD (hB.ext hW) s)
 have hok := hB.ok
 have HSm := qH (show ∀ s, (bF (aN E) s).length ≤ 65536 from fun s => by
  unfold bF
  cases hg : bK (aN E) s with
  | none => exact Nat.zero_le _
  | some x => exact (hok.all (s, x) ((dM hok.nodup).1 hg)).few)
 clear hbn h hf hB hok
 obtain ⟨g0, eg0⟩ : ∃ g, w.heap.size = g := ⟨_, rfl⟩
 obtain ⟨w1, e1⟩ : ∃ x, w.alloc (.cells #[.string p, .slice ha hn hcap, .slice ba n bcap] 27) = x := ⟨_, rfl⟩
 have hB1 : Blk w1 g0 [.string p, .slice ha hn hcap, .slice ba n bcap] 27 := by rw [<- e1, <- eg0]; exact Blk.new w _ _
 have hx1 : Ext w w1 := by rw [<- e1]; exact (Kp.refl w).alloc _
 have H1 := qH (And.intro hx1 hB1)
 clear hB1 hx1
 go_enter Tryz.func11, Tryz.ntmps11
 go_wp2
 clear e1 eg0
 go_loopw [5, 6] (fun pv iv wr => FewTo w1 (aN E) ls n pv iv wr) (fun _ iv _ => n - (intOf iv).toNat)
 case atStart => exact ⟨0, 1, Nat.zero_le _, rfl, rfl, by decide, qH (Kp.refl _), qH rfl⟩
 case round =>
  obtain ⟨i, m, hi, rfl, rfl, hm, hex, hfe⟩ := hrel
  have XR := qH (H1.out.1.trans hex.out)
  have b2 : wr.cell? ⟨g0, 2, none⟩ = some (.slice ba n bcap) := by rw [(H1.out.2.ext hex.out).cell']; rfl
  by_cases hlt : i < n
  ·have hltl : i < ls.length := by rw [<- HN.out]; exact hlt
   obtain ⟨l, hli⟩ : ∃ l, ls[i]? = some l := ⟨_, qG hltl⟩
   obtain ⟨b, off, a2, cap2, eao, hG, hb, hL, c0, c1, c2, c3, c4, c5, c6, c7⟩ := qW HE.out hli
   subst eao
   replace c0 := XR.out.cell c0 id
   replace c1 := XR.out.cell c1 id
   replace c2 := XR.out.cell c2 id
   replace c3 := XR.out.cell c3 id
   replace c4 := XR.out.cell c4 id
   replace c5 := XR.out.cell c5 id
   replace c6 := XR.out.cell c6 id
   replace c7 := XR.out.cell c7 id
   obtain ⟨mm, emm⟩ : ∃ mm, mm = (aA l).length := ⟨_, rfl⟩
   rw [<- emm] at c2
   have hmm : mm ≤ 1048576 := by rw [emm]; exact HF.out.terms l (List.mem_of_getElem? hli)
   obtain ⟨k, ek⟩ : ∃ k, k = l.1 := ⟨_, rfl⟩
   rw [<- ek] at c0
   clear hltl hG hb
   obtain ⟨pl, epl⟩ : ∃ pl, aX l = pl := ⟨_, rfl⟩
   rw [epl] at c1
   have HT := qH (show ls.take (i + 1) = ls.take i ++ [l] from by rw [List.take_add_one, hli]; rfl)
   have HL := qH (And.intro hli (And.intro ek epl))
   clear hli ek epl emm hL hmm
   by_cases hk1 : k = 1
   ·subst hk1
    obtain ⟨z, ez⟩ : ∃ z, (dG (bB E pl)).length = z := ⟨_, rfl⟩
    have hz16 : z ≤ 65536 := by rw [<- ez, oY]; exact HSm.out pl
    have hSz := HSz.out wr XR.out pl
    rw [ez] at hSz
    have HS := qH hSz
    have HZ := qH (show (bF (aN E) pl).length = z from by rw [<- oY]; exact ez)
    clear ez hSz
    go_wp2_with fail
    refine HS.out.mono ?_
    rintro e w2 ⟨v2, rfl, hk2, rfl⟩
    have X2 := qH (hex.out.trans hk2)
    have hmz : m * (1 + z) ≤ 20000 * 65537 := Nat.mul_le_mul hm (by omega)
    have hw1 : IntKind.i64.wrap ((1 : Int) + (z : Int)) = (1 : Int) + (z : Int) := IntWalk.i64_in _ (by omega)
    obtain ⟨q, eq⟩ : ∃ q, m * (1 + z) = q := ⟨_, rfl⟩
    have hqi : (m : Int) * (1 + (z : Int)) = (q : Int) := by rw [<- eq]; push_cast; rfl
    rw [eq] at hmz
    have hw2 : IntKind.i64.wrap ((m : Int) * (1 + (z : Int))) = (q : Int) := by rw [hqi]; exact IntWalk.i64_in _ (by omega)
    have HQ := qH eq
    clear hk2 eq hqi c0 c1 c2 c3 c4 c5 c6 c7 b2
    by_cases hq : 20000 < q
    ·have HFa := qH (show aBs (aN E) ls = false from by
      have e1 : ls = ls.take (i + 1) ++ ls.drop (i + 1) := (List.take_append_drop _ _).symm
      have e2 : iY (aN E) (ls.take (i + 1)) 1 = none := by
       rw [HT.out, iI, hfe.out]
       show iY (aN E) [l] m = none
       unfold iY
       rw [if_pos HL.out.2.1.symm, HL.out.2.2, HZ.out, HQ.out, if_pos hq]
      unfold aBs
      rw [e1, iI, e2]; rfl)
     have hq2 : (20000 : Int) < (q : Int) := by omega
     clear hq hz16 hmz
     go_wp2
     go_ret
     exact RetN.mk (H1.out.1.trans X2.out) (by rw [HFa.out]; rfl)
    ·have HFa := qH (show iY (aN E) (ls.take (i + 1)) 1 = some q from by
      rw [HT.out, iI, hfe.out]
      show iY (aN E) [l] m = some q
      unfold iY
      rw [if_pos HL.out.2.1.symm, HL.out.2.2, HZ.out, HQ.out, if_neg hq]
      rfl)
     have hq2 : ¬ (20000 : Int) < (q : Int) := by omega
     have hq3 : q ≤ 20000 := by omega
     clear hq hz16 hmz hm
     go_wp2
     go_roundw
     case rel => exact ⟨i + 1, q, by omega, by first | rfl | (congr 1; done) | (congr 1; omega), rfl, hq3, X2, HFa⟩
     case measure => simp [intOf]; omega
   ·have hk2 : (k == 1) = false := by simp [hk1]
    have HFa := qH (show iY (aN E) (ls.take (i + 1)) 1 = some m from by
     rw [HT.out, iI, hfe.out]
     show iY (aN E) [l] m = some m
     unfold iY
     rw [if_neg (fun e => hk1 (HL.out.2.1.trans e))]
     rfl)
    clear hk1
    go_wp2
    go_roundw
    case rel => exact ⟨i + 1, m, by omega, by first | rfl | (congr 1; done) | (congr 1; omega), rfl, hm, hex, HFa⟩
    case measure => simp [intOf]; omega
  ·obtain rfl : n = i := by omega
   have HFa := qH (show aBs (aN E) ls = true from by
    have h := hfe.out
    rw [List.take_of_length_le (by rw [<- HN.out]; exact Nat.le_refl _)] at h
    unfold aBs; rw [h]; rfl)
   go_wp2
   go_ret
   exact RetN.mk XR.out (by rw [HFa.out]; rfl)
end Go.Proofs.YtinnmeiphbdogaaGreat
/- The law of joins: few rows, few bindings: plain. -/
namespace Go.Proofs.YtinnmeiphbdogaaGreat
def tR (R : Nat -> aD) : List aO -> Nat -> Nat
 | [], _ => 1
 | l :: rest, i => if l.1 = 1 then (1 + (R i).length) * tR R rest (i + 1) else tR R rest (i + 1)
theorem rV {α β : Type} {f : α -> List β} {m : Nat} : ∀ {L : List α}, (∀ x, (f x).length ≤ m) -> (L.flatMap f).length ≤ L.length * m
 | [], h => Nat.zero_le _
 | x :: L, h => by
  rw [List.flatMap_cons, List.length_append, List.length_cons, Nat.succ_mul]
  have h1 := rV (L := L) h
  have h2 := h x
  omega
theorem aCn (e : cY) (ts : List aG) (R : aD) : (cL e ts R).length ≤ R.length := by
 unfold cL
 refine Nat.le_trans (aIg _) ?_
 exact List.length_filterMap_le _ _
theorem mK (all : List aO) (R : Nat -> aD) : ∀ (rest : List aO) (i : Nat) (e : cY), (fS all R rest i e).length ≤ tR R rest i
 | [], i, e => by
  unfold fS tR
  split
  ·exact Nat.le_refl _
  ·exact Nat.zero_le _
 | l :: rest, i, e => by
  unfold fS tR
  split
  ·refine Nat.le_trans (rV fun q => mK all R rest (i + 1) _) (Nat.mul_le_mul_right _ ?_)
   have h1 := aCn e (aA l) (jE (aA l) (R i))
   have h2 : (jE (aA l) (R i)).length ≤ (R i).length := List.length_filter_le _ _
   omega
  ·exact mK all R rest (i + 1) e
theorem zB {C : List bA} : ∀ {ls : List aO} {n m : Nat}, n ≤ 20000 -> iY C ls n = some m -> m ≤ 20000
 | [], n, m, h, e => by cases e; exact h
 | l :: ls, n, m, h, e => by
  unfold iY at e
  split at e
  ·split at e
   ·cases e
   ·rename_i hq
    exact zB (Nat.not_lt.1 hq) e
  ·exact zB h e
end Go.Proofs.YtinnmeiphbdogaaGreat
/- The law of joins: path: the chapter's rule, with further literals. -/
namespace Go.Proofs.YtinnmeiphbdogaaGreat
open Go.RowKit Go.Shelf
attribute [local go_sem] Oper.semAt_some
def fewB (ls : List aO) : Bool := decide ((aB ls).length ≤ 1048576)
theorem aIw {ls : List aO} (h : fewB ls = true) : (aB ls).length ≤ 1048576 := of_decide_eq_true h
def aKf (ls : List aO) : Bool := decide (ls.length ≤ 64) && ls.all fun l => decide ((aA l).length ≤ 64)
theorem aIu {ls : List aO} (h : aKf ls = true) : Fit ls := by
 unfold aKf at h
 rw [Bool.and_eq_true, decide_eq_true_eq] at h
 exact ⟨by omega, fun l hl => by have := of_decide_eq_true (List.all_eq_true.1 h.2 l hl); omega⟩
def yN : List aG := [((1 : Int), (⟨#[88]⟩ : ByteArray), ()), ((1 : Int), (⟨#[89]⟩ : ByteArray), ())]
def oW : List aO := [(((1) : Int), ((⟨#[101]⟩ : ByteArray), [((1 : Int), (⟨#[89]⟩ : ByteArray), ()), ((1 : Int), (⟨#[90]⟩ : ByteArray), ())], ()), (0 : Int), ((0 : Int), (⟨#[]⟩ : ByteArray), ()), ((0 : Int), (⟨#[]⟩ : ByteArray), ()), ()), (((1) : Int), ((⟨#[101]⟩ : ByteArray), [((1 : Int), (⟨#[90]⟩ : ByteArray), ()), ((1 : Int), (⟨#[88]⟩ : ByteArray), ())], ()), (0 : Int), ((0 : Int), (⟨#[]⟩ : ByteArray), ()), ((0 : Int), (⟨#[]⟩ : ByteArray), ()), ())]
theorem oU {w : World} {G : Nat -> Prop} {g o : Nat} {ts : List aG} (h : aW w TT (some ⟨g, o, none⟩) ts) (hG : G g) : aW w G (some ⟨g, o, none⟩) ts := fun i x hx => by
 obtain ⟨b, off, es, e, _, hb, ha, hc⟩ := h i x hx
 cases e
 refine ⟨g, o, es, rfl, hG, hb, ?_, hc⟩
 have hf := iL ha
 rw [iM ha]
 exact pG hf
theorem aFm {w : World} {G : Nat -> Prop} {a : Option Addr} {ts : List aG} (h : aW w G a ts) : aW w (fun k => k < w.heap.size) a ts := fun i x hx => by
 obtain ⟨b, off, es, e, _, hb, ha, hc⟩ := h i x hx
 refine ⟨b, off, es, e, hb, hb, ?_, hc⟩
 have hf := iL ha
 rw [iM ha]
 exact pG hf
theorem zU {w : World} {G : Nat -> Prop} {g o : Nat} {ts : List aG} (h : aW w G (some ⟨g, o, none⟩) ts) (hne : ts ≠ []) : g < w.heap.size := by
 cases ts with
 | nil => exact absurd rfl hne
 | cons t ts =>
  obtain ⟨b, off, es, e, _, hb, _⟩ := h 0 t rfl
  cases e; exact hb
set_option maxRecDepth 100000 in
set_option maxHeartbeats 4000000 in
theorem aAq {ls : List aO} {ma : Option Addr} {mn mc : Nat} {w : World} (hn : mn = ls.length) (h : cK w TT ma ls) (hl : mn ≤ 65536) :
 Calls Tryz.prog 27 #[.slice ma mn mc] w (RetN w fun w' u => ∃ ha hc ba bc, u = eF ⟨#[116]⟩ ha 2 hc ba (2 + mn) bc /\ aW w' TT ha yN /\ cK w' TT ba (oW ++ ls)) := by
 obtain ⟨vs, hvs, hcs, hin⟩ := aGf h
 have HV := qH (And.intro hvs (And.intro hcs (And.intro hin (And.intro hn (aIj h)))))
 clear hvs hcs hin h hn
 obtain ⟨w1, ew1⟩ : ∃ x, w.alloc (.cells #[.string ⟨#[]⟩, .slice none 0 0, .slice none 0 0] 27) = x := ⟨_, rfl⟩
 have Xw1 := qH (show Ext w w1 from by rw [<- ew1]; exact (Kp.refl w).alloc _)
 have HR := qH (show Blk w1 w.heap.size [.string ⟨#[]⟩, .slice none 0 0, .slice none 0 0] 27 from by rw [<- ew1]; exact Blk.new w _ _)
 go_enter Tryz.func27, Tryz.ntmps27
 go_wp2_with fail
 refine (kM ⟨#[89]⟩ w1).mono ?_
 rintro e w2 ⟨vw2, rfl, hkw2, rfl⟩
 have Xw2 := qH (show Ext w1 w2 from hkw2)
 clear hkw2
 go_wp2_with fail
 refine (kM ⟨#[90]⟩ w2).mono ?_
 rintro e w3 ⟨vw3, rfl, hkw3, rfl⟩
 have Xw3 := qH (show Ext w2 w3 from hkw3)
 clear hkw3
 obtain ⟨w4, ew4⟩ : ∃ x, w3.alloc (.cells #[.int .i64 1, .string ⟨#[89]⟩, .int .i64 1, .string ⟨#[90]⟩] 38) = x := ⟨_, rfl⟩
 have Xw4 := qH (show Ext w3 w4 from by rw [<- ew4]; exact (Kp.refl w3).alloc _)
 have T1 := qH (show aW w4 TT (some ⟨w3.heap.size, 0, none⟩) [((1 : Int), (⟨#[89]⟩ : ByteArray), ()), ((1 : Int), (⟨#[90]⟩ : ByteArray), ())] from by rw [<- ew4]; exact nM w3 [((1 : Int), (⟨#[89]⟩ : ByteArray), ()), ((1 : Int), (⟨#[90]⟩ : ByteArray), ())] (by kernel_rfl))
 go_wp2_with fail
 clear ew4
 refine (wN ⟨#[101]⟩ (some ⟨w3.heap.size, 0, none⟩) 2 2 w4).mono ?_
 rintro e w5 ⟨vw5, rfl, hkw5, rfl⟩
 have Xw5 := qH (show Ext w4 w5 from hkw5)
 clear hkw5
 go_wp2_with fail
 refine (kM ⟨#[90]⟩ w5).mono ?_
 rintro e w6 ⟨vw6, rfl, hkw6, rfl⟩
 have Xw6 := qH (show Ext w5 w6 from hkw6)
 clear hkw6
 go_wp2_with fail
 refine (kM ⟨#[88]⟩ w6).mono ?_
 rintro e w7 ⟨vw7, rfl, hkw7, rfl⟩
 have Xw7 := qH (show Ext w6 w7 from hkw7)
 clear hkw7
 obtain ⟨w8, ew8⟩ : ∃ x, w7.alloc (.cells #[.int .i64 1, .string ⟨#[90]⟩, .int .i64 1, .string ⟨#[88]⟩] 38) = x := ⟨_, rfl⟩
 have Xw8 := qH (show Ext w7 w8 from by rw [<- ew8]; exact (Kp.refl w7).alloc _)
 have T2 := qH (show aW w8 TT (some ⟨w7.heap.size, 0, none⟩) [((1 : Int), (⟨#[90]⟩ : ByteArray), ()), ((1 : Int), (⟨#[88]⟩ : ByteArray), ())] from by rw [<- ew8]; exact nM w7 [((1 : Int), (⟨#[90]⟩ : ByteArray), ()), ((1 : Int), (⟨#[88]⟩ : ByteArray), ())] (by kernel_rfl))
 go_wp2_with fail
 clear ew8
 refine (wN ⟨#[101]⟩ (some ⟨w7.heap.size, 0, none⟩) 2 2 w8).mono ?_
 rintro e w9 ⟨vw9, rfl, hkw9, rfl⟩
 have Xw9 := qH (show Ext w8 w9 from hkw9)
 clear hkw9
 obtain ⟨w10, ew10⟩ : ∃ x, w9.alloc (.cells #[.int .i64 1, .string ⟨#[101]⟩, .slice (some ⟨w3.heap.size, 0, none⟩) 2 2, .int .i64 0, .int .i64 0, .string ⟨#[]⟩, .int .i64 0, .string ⟨#[]⟩, .int .i64 1, .string ⟨#[101]⟩, .slice (some ⟨w7.heap.size, 0, none⟩) 2 2, .int .i64 0, .int .i64 0, .string ⟨#[]⟩, .int .i64 0, .string ⟨#[]⟩] 40) = x := ⟨_, rfl⟩
 have Xw10 := qH (show Ext w9 w10 from by rw [<- ew10]; exact (Kp.refl w9).alloc _)
 have HB := qH (show Blk w10 w9.heap.size [.int .i64 1, .string ⟨#[101]⟩, .slice (some ⟨w3.heap.size, 0, none⟩) 2 2, .int .i64 0, .int .i64 0, .string ⟨#[]⟩, .int .i64 0, .string ⟨#[]⟩, .int .i64 1, .string ⟨#[101]⟩, .slice (some ⟨w7.heap.size, 0, none⟩) 2 2, .int .i64 0, .int .i64 0, .string ⟨#[]⟩, .int .i64 0, .string ⟨#[]⟩] 40 from by rw [<- ew10]; exact Blk.new w9 _ _)
 go_wp2_with fail
 refine (kM ⟨#[88]⟩ w10).mono ?_
 rintro e w11 ⟨vw11, rfl, hkw11, rfl⟩
 have Xw11 := qH (show Ext w10 w11 from hkw11)
 clear hkw11
 go_wp2_with fail
 refine (kM ⟨#[89]⟩ w11).mono ?_
 rintro e w12 ⟨vw12, rfl, hkw12, rfl⟩
 have Xw12 := qH (show Ext w11 w12 from hkw12)
 clear hkw12
 obtain ⟨w13, ew13⟩ : ∃ x, w12.alloc (.cells #[.int .i64 1, .string ⟨#[88]⟩, .int .i64 1, .string ⟨#[89]⟩] 38) = x := ⟨_, rfl⟩
 have Xw13 := qH (show Ext w12 w13 from by rw [<- ew13]; exact (Kp.refl w12).alloc _)
 have T3 := qH (show aW w13 TT (some ⟨w12.heap.size, 0, none⟩) [((1 : Int), (⟨#[88]⟩ : ByteArray), ()), ((1 : Int), (⟨#[89]⟩ : ByteArray), ())] from by rw [<- ew13]; exact nM w12 [((1 : Int), (⟨#[88]⟩ : ByteArray), ()), ((1 : Int), (⟨#[89]⟩ : ByteArray), ())] (by kernel_rfl))
 have hgL : w9.heap.size < w10.heap.size := HB.out.lt
 have hg0 : w.heap.size < w1.heap.size := HR.out.lt
 have hg1 : w.heap.size < w9.heap.size := by have h2 := (Xw2.out.trans (Xw3.out.trans (Xw4.out.trans (Xw5.out.trans (Xw6.out.trans (Xw7.out.trans (Xw8.out.trans Xw9.out))))))).size; omega
 have HX := qH (show Ext w w13 /\ Row w13 40 8 (.slice (some ⟨w9.heap.size, 0, none⟩) 2 2) 2 ((oW.zip [((some ⟨w3.heap.size, 0, none⟩ : Option Addr), 2), ((some ⟨w7.heap.size, 0, none⟩ : Option Addr), 2)]).flatMap mR) (New w) /\ Blk w13 w.heap.size [.string ⟨#[]⟩, .slice none 0 0, .slice none 0 0] 27 /\ w.heap.size < w9.heap.size from
  ⟨(Xw1.out.trans (Xw2.out.trans (Xw3.out.trans (Xw4.out.trans (Xw5.out.trans (Xw6.out.trans (Xw7.out.trans (Xw8.out.trans (Xw9.out.trans (Xw10.out.trans (Xw11.out.trans (Xw12.out.trans Xw13.out)))))))))))), ⟨rfl, .inr ⟨_, 2, [], rfl, Nat.le_of_lt hg1, by rw [List.append_nil]; exact HB.out.ext (Xw11.out.trans (Xw12.out.trans Xw13.out)), rfl, Nat.le_refl _, by decide⟩⟩, HR.out.ext (Xw2.out.trans (Xw3.out.trans (Xw4.out.trans (Xw5.out.trans (Xw6.out.trans (Xw7.out.trans (Xw8.out.trans (Xw9.out.trans (Xw10.out.trans (Xw11.out.trans (Xw12.out.trans Xw13.out))))))))))), hg1⟩)
 have HP0 := qH (oU (G := (fun k => k ≠ w9.heap.size /\ k ≠ w.heap.size)) (T1.out.ext (Xw5.out.trans (Xw6.out.trans (Xw7.out.trans (Xw8.out.trans (Xw9.out.trans (Xw10.out.trans (Xw11.out.trans (Xw12.out.trans Xw13.out))))))))) ⟨by have h1 := zU T1.out (by simp); have h2 := (Xw5.out.trans (Xw6.out.trans (Xw7.out.trans (Xw8.out.trans Xw9.out)))).size; omega, by have h3 := (Xw2.out.trans Xw3.out).size; omega⟩)
 have HP1 := qH (oU (G := (fun k => k ≠ w9.heap.size /\ k ≠ w.heap.size)) (T2.out.ext (Xw9.out.trans (Xw10.out.trans (Xw11.out.trans (Xw12.out.trans Xw13.out))))) ⟨by have h1 := zU T2.out (by simp); have h2 := Xw9.out.size; omega, by have h3 := (Xw2.out.trans (Xw3.out.trans (Xw4.out.trans (Xw5.out.trans (Xw6.out.trans Xw7.out))))).size; omega⟩)
 have HPh := qH (oU (G := (fun k => k ≠ w9.heap.size /\ k ≠ w.heap.size)) (T3.out.ext (Kp.refl w13)) ⟨by have h2 := (Xw11.out.trans Xw12.out).size; omega, by have h2 := (Xw11.out.trans Xw12.out).size; omega⟩)
 clear HB HR hgL hg0 hg1 Xw1 Xw2 Xw3 Xw4 Xw5 Xw6 Xw7 Xw8 Xw9 Xw10 Xw11 Xw12 Xw13 T1 T2 T3
 go_wp2_with (first | (at_builtin; refine Halted.out ?_))
 clear ew13 ew10
 refine Halted.mk (gV (m := mn) (n := 2) aIz rfl _ _ rfl HX.out.1 rfl HX.out.2.1 rfl (HV.out.2.1.ext HX.out.1) (by rw [aBm mR 8 pX, List.length_zip, HV.out.1, Nat.min_self, HV.out.2.2.2.1]) (fun u hu => by obtain ⟨x, _, hx⟩ := List.mem_flatMap.1 hu; exact aIk x u hx) (by omega) (by unfold maxLen; omega) ?_)
 intro vA wA hrA hkA hkB _
 have hRA : Blk wA w.heap.size [.string ⟨#[]⟩, .slice none 0 0, .slice none 0 0] 27 := HX.out.2.2.1.kp hkB fun hg => by
  obtain ⟨cs, hb⟩ := aP HX.out.2.1 hg
  exact aEt (aI5 hb HX.out.2.2.1)
 have hoff : ∀ k, (fun k => k ≠ w9.heap.size /\ k ≠ w.heap.size) k -> ¬ (Value.slice (some ⟨w9.heap.size, 0, none⟩) 2 2).ownBlock = some k := fun k hk e => by cases e; exact hk.1 rfl
 obtain ⟨h1, ⟨_, h0⟩ | ⟨gb, cap2, rest, rfl, hM, hBB, hlen, hnc, hcm⟩⟩ := hrA
 ·omega
 ·have HF := qH (show Ext w wA /\ Blk wA w.heap.size [.string ⟨#[]⟩, .slice none 0 0, .slice none 0 0] 27 /\ aW wA (fun k => k ≠ w9.heap.size /\ k ≠ w.heap.size) (some ⟨w12.heap.size, 0, none⟩) yN /\ Blk wA gb (((oW ++ ls).zip ([((some ⟨w3.heap.size, 0, none⟩ : Option Addr), 2), ((some ⟨w7.heap.size, 0, none⟩ : Option Addr), 2)] ++ vs)).flatMap mR ++ rest) 40 /\ (∀ x ∈ (oW ++ ls).zip ([((some ⟨w3.heap.size, 0, none⟩ : Option Addr), 2), ((some ⟨w7.heap.size, 0, none⟩ : Option Addr), 2)] ++ vs), aW wA (fun k => k ≠ w9.heap.size /\ k ≠ w.heap.size) x.2.1 (aA x.1) /\ (aA x.1).length ≤ x.2.2 /\ x.2.2 ≤ maxLen) from by
   refine ⟨hkA, hRA, HPh.out.kp hkB hoff, ?_, fun x hx => ?_⟩
   ·rw [List.zip_append (by rfl), List.flatMap_append]; exact hBB
   ·rw [List.zip_append (by rfl)] at hx
    rcases List.mem_append.1 hx with hx | hx
    ·have hx' : x ∈ [((((1) : Int), ((⟨#[101]⟩ : ByteArray), [((1 : Int), (⟨#[89]⟩ : ByteArray), ()), ((1 : Int), (⟨#[90]⟩ : ByteArray), ())], ()), (0 : Int), ((0 : Int), (⟨#[]⟩ : ByteArray), ()), ((0 : Int), (⟨#[]⟩ : ByteArray), ()), ()), ((some ⟨w3.heap.size, 0, none⟩ : Option Addr), 2)), ((((1) : Int), ((⟨#[101]⟩ : ByteArray), [((1 : Int), (⟨#[90]⟩ : ByteArray), ()), ((1 : Int), (⟨#[88]⟩ : ByteArray), ())], ()), (0 : Int), ((0 : Int), (⟨#[]⟩ : ByteArray), ()), ((0 : Int), (⟨#[]⟩ : ByteArray), ()), ()), ((some ⟨w7.heap.size, 0, none⟩ : Option Addr), 2))] := hx
     simp only [List.mem_cons, List.not_mem_nil, or_false] at hx'
     rcases hx' with rfl | rfl
     ·exact ⟨HP0.out.kp hkB hoff, Nat.le_refl _, (by decide : 2 ≤ maxLen)⟩
     ·exact ⟨HP1.out.kp hkB hoff, Nat.le_refl _, (by decide : 2 ≤ maxLen)⟩
    ·have hi := HV.out.2.2.1 x hx
     exact ⟨((aFm hi.terms).mono fun k hk => ⟨by have := HX.out.2.2.2; omega, by omega⟩).ext hkA, hi.len, hi.cap⟩)
  have p0 : wA.cell? ⟨w.heap.size, 0, none⟩ = some (.string ⟨#[]⟩) := by rw [hRA.cell']; rfl
  have p1 : wA.cell? ⟨w.heap.size, 1, none⟩ = some (.slice none 0 0) := by rw [hRA.cell']; rfl
  have p2 : wA.cell? ⟨w.heap.size, 2, none⟩ = some (.slice none 0 0) := by rw [hRA.cell']; rfl
  clear h1 hM hBB hlen hnc hcm hkA hkB hRA hoff
  go_wp2_with fail
  refine (aCu (some ⟨w12.heap.size, 0, none⟩) (some ⟨gb, 0, none⟩) 2 2 (2 + mn) cap2 wA).mono ?_
  rintro e wB ⟨vB, rfl, hkC, rfl⟩
  have HRB := qH (HF.out.2.1.ext hkC)
  have XB := qH hkC
  have c0 : wB.cell? ⟨w.heap.size, 0, none⟩ = some (.string ⟨#[]⟩) := by rw [HRB.out.cell']; rfl
  have c1 : wB.cell? ⟨w.heap.size, 1, none⟩ = some (.slice none 0 0) := by rw [HRB.out.cell']; rfl
  have c2 : wB.cell? ⟨w.heap.size, 2, none⟩ = some (.slice none 0 0) := by rw [HRB.out.cell']; rfl
  have f0 := HRB.out.free 0
  have f1 := HRB.out.free 1
  have f2 := HRB.out.free 2
  clear hkC p0 p1 p2
  go_wp2
  obtain ⟨Z, eZ⟩ : ∃ x, (((wB.setCell ⟨w.heap.size, 0, none⟩ (.string ⟨#[116]⟩)).setCell ⟨w.heap.size, 1, none⟩ (.slice (some ⟨w12.heap.size, 0, none⟩) 2 2)).setCell ⟨w.heap.size, 2, none⟩ (.slice (some ⟨gb, 0, none⟩) (2 + mn) cap2)) = x := ⟨_, rfl⟩
  have hBZ : Blk Z w.heap.size [.string ⟨#[116]⟩, .slice (some ⟨w12.heap.size, 0, none⟩) 2 2, .slice (some ⟨gb, 0, none⟩) (2 + mn) cap2] 27 := by
   rw [<- eZ]; exact ((HRB.out.set 0 _).set 1 _).set 2 _
  have kZ : Kp (fun k => k = w.heap.size) wB Z := by
   rw [<- eZ]
   exact Kp.setCell (F := fun k => k = w.heap.size) (p := ⟨w.heap.size, 2, none⟩) (Kp.setCell (F := fun k => k = w.heap.size) (p := ⟨w.heap.size, 1, none⟩) (Kp.setCell (F := fun k => k = w.heap.size) (p := ⟨w.heap.size, 0, none⟩) (Kp.refl wB) (fun _ => rfl) _) (fun _ => rfl) _) (fun _ => rfl) _
  have d0 : Z.cell? ⟨w.heap.size, 0, none⟩ = some (.string ⟨#[116]⟩) := by rw [hBZ.cell']; rfl
  have d1 : Z.cell? ⟨w.heap.size, 1, none⟩ = some (.slice (some ⟨w12.heap.size, 0, none⟩) 2 2) := by rw [hBZ.cell']; rfl
  have d2 : Z.cell? ⟨w.heap.size, 2, none⟩ = some (.slice (some ⟨gb, 0, none⟩) (2 + mn) cap2) := by rw [hBZ.cell']; rfl
  rw [eZ]
  have hno : ∀ k, (fun k => k ≠ w9.heap.size /\ k ≠ w.heap.size) k -> ¬ k = w.heap.size := fun k hk => hk.2
  have hgb : ¬ gb = w.heap.size := fun e => by
   have hb := HF.out.2.2.2.1
   rw [e] at hb
   exact aEt (aI5 hb HF.out.2.1)
  refine bodyPost_ret (v := eF ⟨#[116]⟩ (some ⟨w12.heap.size, 0, none⟩) 2 2 (some ⟨gb, 0, none⟩) (2 + mn) cap2) (by simp [results, Tryz.results27, go_sem, d0, d1, d2]) rfl ?_
  refine RetN.mk ((HF.out.1.trans XB.out).trans' kZ fun i hi e => by have e' : i = w.heap.size := e; omega) ⟨_, _, _, _, rfl, ((HF.out.2.2.1.ext XB.out).kp kZ hno).mono fun _ _ => trivial, ?_⟩
  refine uC (vs := [((some ⟨w3.heap.size, 0, none⟩ : Option Addr), 2), ((some ⟨w7.heap.size, 0, none⟩ : Option Addr), 2)] ++ vs) (rest := rest) (e := 40) (by rw [List.length_append, List.length_append, HV.out.1]; rfl) (fun l hl => ?_) (fun x hx => ?_) trivial ((HF.out.2.2.2.1.ext XB.out).kp kZ hgb)
  ·rcases List.mem_append.1 hl with hl | hl
   ·exact rT (ls := oW) (by kernel_rfl) l hl
   ·exact HV.out.2.2.2.2 l hl
  ·obtain ⟨q1, q2, q3⟩ := HF.out.2.2.2.2 x hx
   exact ⟨((q1.ext XB.out).kp kZ hno).mono fun _ _ => trivial, q2, q3⟩
end Go.Proofs.YtinnmeiphbdogaaGreat
/- The law of joins: awake: the chapter's bindings. -/
namespace Go.Proofs.YtinnmeiphbdogaaGreat
open Go.RowKit Go.Shelf
attribute [local go_sem] Oper.semAt_some
theorem aEd (bb : Nat) (w : World) : (binOp .neq 29 (.pointer (some ⟨bb, 0, none⟩)) (.pointer none)).run Tryz.prog w = .ok (.bool true) w := by kernel_rfl
set_option maxRecDepth 100000 in
set_option maxHeartbeats 4000000 in
theorem nI (w : World) : Calls Tryz.prog 12 #[] w (RetN w fun w' v => v = .bool true) := by
 go_enter Tryz.func12, Tryz.ntmps12
 go_wp2_with fail
 refine (aGq w).mono ?_
 rintro e w1 ⟨vw1, rfl, hkw1, bb, E, SS, rfl, hBv, hCv⟩
 have Xw1 := qH (show Ext w w1 from hkw1)
 clear hkw1
 have HBv := qH (And.intro hBv hCv)
 clear hBv hCv
 have hnb := aEd bb w1
 go_wp2_with fail
 refine (aAq (ls := []) (ma := none) (mn := 0) (mc := 0) (w := w1) rfl (aIh w1 none) (by decide)).mono ?_
 rintro e w2 ⟨vw2, rfl, hkw2, ha1, hc1, ba1, bc1, hv1, hT1, hL1⟩
 have Xw2 := qH (show Ext w1 w2 from hkw2)
 clear hkw2
 have hv12 : vw2 = eF ⟨#[116]⟩ ha1 2 hc1 ba1 2 bc1 := hv1
 subst hv12
 have T1 := qH hT1
 have L1 := qH hL1
 clear hT1 hL1 hv1
 go_wp2_with fail
 refine (uW (p := ⟨#[116]⟩) (hs := yN) (ls := (oW ++ [])) (ha := ha1) (ba := ba1) (hn := 2) (hcap := hc1) (n := 2) (bcap := bc1) rfl (T1.out.ext (Kp.refl w2)) (by decide) rfl (L1.out.ext (Kp.refl w2)) (aIu (by kernel_rfl)) (aIw (by kernel_rfl)) (by decide) (HBv.out.1.ext Xw2.out) HBv.out.2 [(⟨#[97, 59, 98, 59, 98, 59]⟩ : ByteArray), (⟨#[97, 59, 98, 59, 99, 59]⟩ : ByteArray), (⟨#[98, 59, 98, 59, 98, 59]⟩ : ByteArray), (⟨#[98, 59, 98, 59, 99, 59]⟩ : ByteArray), (⟨#[98, 59, 99, 59, 97, 59]⟩ : ByteArray), (⟨#[99, 59, 97, 59, 98, 59]⟩ : ByteArray)] 6 (by kernel_rfl) rfl (by decide)).mono ?_
 rintro e w3 ⟨vw3, rfl, hkw3, ea2, ec2, rfl, hE2⟩
 have Xw3 := qH (show Ext w2 w3 from hkw3)
 clear hkw3
 have E2 := qH hE2
 clear hE2
 obtain ⟨w4, ew4⟩ : ∃ x, w3.alloc (.cells #[.string ⟨#[97, 59, 98, 59, 98, 59]⟩, .string ⟨#[97, 59, 98, 59, 99, 59]⟩, .string ⟨#[98, 59, 98, 59, 98, 59]⟩, .string ⟨#[98, 59, 98, 59, 99, 59]⟩, .string ⟨#[98, 59, 99, 59, 97, 59]⟩, .string ⟨#[99, 59, 97, 59, 98, 59]⟩] 9) = x := ⟨_, rfl⟩
 have Xw4 := qH (show Ext w3 w4 from by rw [<- ew4]; exact (Kp.refl w3).alloc _)
 have Sw4 := qH (show CellsAt w4 (some ⟨w3.heap.size, 0, none⟩) (strs [(⟨#[97, 59, 98, 59, 98, 59]⟩ : ByteArray), (⟨#[97, 59, 98, 59, 99, 59]⟩ : ByteArray), (⟨#[98, 59, 98, 59, 98, 59]⟩ : ByteArray), (⟨#[98, 59, 98, 59, 99, 59]⟩ : ByteArray), (⟨#[98, 59, 99, 59, 97, 59]⟩ : ByteArray), (⟨#[99, 59, 97, 59, 98, 59]⟩ : ByteArray)]) from by rw [<- ew4]; exact CellsAt.new w3 (strs [(⟨#[97, 59, 98, 59, 98, 59]⟩ : ByteArray), (⟨#[97, 59, 98, 59, 99, 59]⟩ : ByteArray), (⟨#[98, 59, 98, 59, 98, 59]⟩ : ByteArray), (⟨#[98, 59, 98, 59, 99, 59]⟩ : ByteArray), (⟨#[98, 59, 99, 59, 97, 59]⟩ : ByteArray), (⟨#[99, 59, 97, 59, 98, 59]⟩ : ByteArray)]) _)
 go_wp2_with fail
 clear ew4
 refine (tL [(⟨#[97, 59, 98, 59, 98, 59]⟩ : ByteArray), (⟨#[97, 59, 98, 59, 99, 59]⟩ : ByteArray), (⟨#[98, 59, 98, 59, 98, 59]⟩ : ByteArray), (⟨#[98, 59, 98, 59, 99, 59]⟩ : ByteArray), (⟨#[98, 59, 99, 59, 97, 59]⟩ : ByteArray), (⟨#[99, 59, 97, 59, 98, 59]⟩ : ByteArray)] (ea2) (some ⟨w3.heap.size, 0, none⟩) 6 ec2 6 w4 rfl (E2.out.ext Xw4.out) (Sw4.out.ext (Kp.refl w4)) (by decide)).mono ?_
 rintro e w5 ⟨vw5, rfl, hkw5, rfl⟩
 have Xw5 := qH (show Ext w4 w5 from hkw5)
 clear hkw5
 clear hnb
 go_wp2_with fail
 refine (kM ⟨#[88]⟩ w5).mono ?_
 rintro e w6 ⟨vw6, rfl, hkw6, rfl⟩
 have Xw6 := qH (show Ext w5 w6 from hkw6)
 clear hkw6
 obtain ⟨w7, ew7⟩ : ∃ x, w6.alloc (.cells #[.int .i64 1, .string ⟨#[88]⟩] 38) = x := ⟨_, rfl⟩
 have Xw7 := qH (show Ext w6 w7 from by rw [<- ew7]; exact (Kp.refl w6).alloc _)
 have T3 := qH (show aW w7 TT (some ⟨w6.heap.size, 0, none⟩) [((1 : Int), (⟨#[88]⟩ : ByteArray), ())] from by rw [<- ew7]; exact nM w6 [((1 : Int), (⟨#[88]⟩ : ByteArray), ())] (by kernel_rfl))
 go_wp2_with fail
 clear ew7
 refine (aF7 ⟨#[110]⟩ (some ⟨w6.heap.size, 0, none⟩) 1 1 w7).mono ?_
 rintro e w8 ⟨vw8, rfl, hkw8, rfl⟩
 have Xw8 := qH (show Ext w7 w8 from hkw8)
 clear hkw8
 obtain ⟨w9, ew9⟩ : ∃ x, w8.alloc (.cells #[.int .i64 2, .string ⟨#[110]⟩, .slice (some ⟨w6.heap.size, 0, none⟩) 1 1, .int .i64 0, .int .i64 0, .string ⟨#[]⟩, .int .i64 0, .string ⟨#[]⟩] 40) = x := ⟨_, rfl⟩
 have Xw9 := qH (show Ext w8 w9 from by rw [<- ew9]; exact (Kp.refl w8).alloc _)
 have L4 := qH (show cK w9 TT (some ⟨w8.heap.size, 0, none⟩) [(((2) : Int), ((⟨#[110]⟩ : ByteArray), [((1 : Int), (⟨#[88]⟩ : ByteArray), ())], ()), (0 : Int), ((0 : Int), (⟨#[]⟩ : ByteArray), ()), ((0 : Int), (⟨#[]⟩ : ByteArray), ()), ())] from by
  rw [<- ew9]
  refine aIi w8 [(((2) : Int), ((⟨#[110]⟩ : ByteArray), [((1 : Int), (⟨#[88]⟩ : ByteArray), ())], ()), (0 : Int), ((0 : Int), (⟨#[]⟩ : ByteArray), ()), ((0 : Int), (⟨#[]⟩ : ByteArray), ()), ())] [(some ⟨w6.heap.size, 0, none⟩, 1)] rfl (by kernel_rfl) fun x hx => ?_
  simp only [List.zip_cons_cons, List.zip_nil_right, List.mem_cons, List.not_mem_nil, or_false] at hx
  rcases hx with rfl
  ·exact ⟨(T3.out.ext Xw8.out), Nat.le_refl _, (by decide : 1 ≤ maxLen)⟩)
 go_wp2_with fail
 clear ew9
 refine (aAq (ls := [(((2) : Int), ((⟨#[110]⟩ : ByteArray), [((1 : Int), (⟨#[88]⟩ : ByteArray), ())], ()), (0 : Int), ((0 : Int), (⟨#[]⟩ : ByteArray), ()), ((0 : Int), (⟨#[]⟩ : ByteArray), ()), ())]) (ma := some ⟨w8.heap.size, 0, none⟩) (mn := 1) (mc := 1) (w := w9) rfl (L4.out.ext (Kp.refl w9)) (by decide)).mono ?_
 rintro e w10 ⟨vw10, rfl, hkw10, ha5, hc5, ba5, bc5, hv5, hT5, hL5⟩
 have Xw10 := qH (show Ext w9 w10 from hkw10)
 clear hkw10
 have hv52 : vw10 = eF ⟨#[116]⟩ ha5 2 hc5 ba5 3 bc5 := hv5
 subst hv52
 have T5 := qH hT5
 have L5 := qH hL5
 clear hT5 hL5 hv5
 go_wp2_with fail
 refine (uW (p := ⟨#[116]⟩) (hs := yN) (ls := (oW ++ [(((2) : Int), ((⟨#[110]⟩ : ByteArray), [((1 : Int), (⟨#[88]⟩ : ByteArray), ())], ()), (0 : Int), ((0 : Int), (⟨#[]⟩ : ByteArray), ()), ((0 : Int), (⟨#[]⟩ : ByteArray), ()), ())])) (ha := ha5) (ba := ba5) (hn := 2) (hcap := hc5) (n := 3) (bcap := bc5) rfl (T5.out.ext (Kp.refl w10)) (by decide) rfl (L5.out.ext (Kp.refl w10)) (aIu (by kernel_rfl)) (aIw (by kernel_rfl)) (by decide) (HBv.out.1.ext (Xw2.out.trans (Xw3.out.trans (Xw4.out.trans (Xw5.out.trans (Xw6.out.trans (Xw7.out.trans (Xw8.out.trans (Xw9.out.trans Xw10.out))))))))) HBv.out.2 [(⟨#[97, 59, 98, 59, 99, 59]⟩ : ByteArray), (⟨#[98, 59, 98, 59, 99, 59]⟩ : ByteArray), (⟨#[98, 59, 99, 59, 97, 59]⟩ : ByteArray)] 3 (by kernel_rfl) rfl (by decide)).mono ?_
 rintro e w11 ⟨vw11, rfl, hkw11, ea6, ec6, rfl, hE6⟩
 have Xw11 := qH (show Ext w10 w11 from hkw11)
 clear hkw11
 have E6 := qH hE6
 clear hE6
 obtain ⟨w12, ew12⟩ : ∃ x, w11.alloc (.cells #[.string ⟨#[97, 59, 98, 59, 99, 59]⟩, .string ⟨#[98, 59, 98, 59, 99, 59]⟩, .string ⟨#[98, 59, 99, 59, 97, 59]⟩] 9) = x := ⟨_, rfl⟩
 have Xw12 := qH (show Ext w11 w12 from by rw [<- ew12]; exact (Kp.refl w11).alloc _)
 have Sw12 := qH (show CellsAt w12 (some ⟨w11.heap.size, 0, none⟩) (strs [(⟨#[97, 59, 98, 59, 99, 59]⟩ : ByteArray), (⟨#[98, 59, 98, 59, 99, 59]⟩ : ByteArray), (⟨#[98, 59, 99, 59, 97, 59]⟩ : ByteArray)]) from by rw [<- ew12]; exact CellsAt.new w11 (strs [(⟨#[97, 59, 98, 59, 99, 59]⟩ : ByteArray), (⟨#[98, 59, 98, 59, 99, 59]⟩ : ByteArray), (⟨#[98, 59, 99, 59, 97, 59]⟩ : ByteArray)]) _)
 go_wp2_with fail
 clear ew12
 refine (tL [(⟨#[97, 59, 98, 59, 99, 59]⟩ : ByteArray), (⟨#[98, 59, 98, 59, 99, 59]⟩ : ByteArray), (⟨#[98, 59, 99, 59, 97, 59]⟩ : ByteArray)] (ea6) (some ⟨w11.heap.size, 0, none⟩) 3 ec6 3 w12 rfl (E6.out.ext Xw12.out) (Sw12.out.ext (Kp.refl w12)) (by decide)).mono ?_
 rintro e w13 ⟨vw13, rfl, hkw13, rfl⟩
 have Xw13 := qH (show Ext w12 w13 from hkw13)
 clear hkw13
 go_wp2
 go_ret
 exact RetN.mk (Xw1.out.trans (Xw2.out.trans (Xw3.out.trans (Xw4.out.trans (Xw5.out.trans (Xw6.out.trans (Xw7.out.trans (Xw8.out.trans (Xw9.out.trans (Xw10.out.trans (Xw11.out.trans (Xw12.out.trans Xw13.out)))))))))))) rfl
end Go.Proofs.YtinnmeiphbdogaaGreat
/- Ranging over a base's map, nil or not: the walk's laws. -/
namespace Go.Proofs.YtinnmeiphbdogaaGreat
open Go.RowKit Go.Maps
theorem Kp.of_grown {a c : World} (h : a.grownBy c none) : Ext a c := ⟨h.os, h.tape, h.output, h.size, fun k hk _ => h.block k hk (by simp)⟩
theorem Kp.of_row {a c : World} {row : Option Nat} (h : a.grownBy c row) : Kp (fun k => row = some k) a c := ⟨h.os, h.tape, h.output, h.size, fun k hk hf => h.block k hk fun e => hf e.symm⟩
def MapV (w : World) (mv : Value) (E : List Ent) : Prop := (mv = .map none /\ E = []) \/ ∃ r, mv = .map (some r) /\ MapIs w r (dJ E)
def IterE (w : World) (mv : Value) (it : Nat) (E : List Ent) (todo : ByteArray -> Bool) (cnt : Nat) : Prop :=
 (mv = .map none /\ E = [] /\ cnt = 0 /\ ∃ a b s, w.heap[it]? = some (.mapIter none a s b)) \/ ∃ r n D left, mv = .map (some r) /\ w.ranges Tryz.prog 9 oM r it n D left cnt /\ MapD (dJ E) D /\ ∀ e ∈ E, todo e.name = left (jP e.name)
def leftV (w : World) (mv : Value) (it : Nat) : Nat := match mv with
 | .map (some r) => w.rangeLeft r it
 | _ => 0
section
variable {w w' : World} {mv : Value} {it : Nat} {E : List Ent} {todo : ByteArray -> Bool} {cnt : Nat}
theorem IterE.left_eq (h : IterE w mv it E todo cnt) : leftV w mv it = cnt := by
 rcases h with ⟨rfl, _, h, _⟩ | ⟨r, n, D, left, rfl, h, _⟩
 ·exact h.symm
 ·exact h.left_eq
theorem IterE.lt (h : IterE w mv it E todo cnt) : it < w.heap.size := by
 rcases h with ⟨_, _, _, a, b, s, h⟩ | ⟨r, n, D, left, rfl, h, _⟩
 ·exact lt_of_block h
 ·exact h.lt
theorem IterE.kp {F : Nat -> Prop} (h : IterE w mv it E todo cnt) (hk : Kp F w w') (hi : ¬ F it) (hm : ∀ r, mv = .map (some r) -> ¬ F r) : IterE w' mv it E todo cnt := by
 have hlt := h.lt
 rcases h with ⟨h1, h2, h3, a, b, s, h⟩ | ⟨r, n, D, left, rfl, h, h2⟩
 ·exact .inl ⟨h1, h2, h3, a, b, s, (hk.block it hlt hi).trans h⟩
 ·obtain ⟨es, clock, since, seen, c0, g1, g2, g3, g4, g5, g6⟩ := h
  exact .inr ⟨r, n, D, left, rfl, ⟨es, clock, since, seen, c0, (hk.block r (lt_of_block g1) (hm r rfl)).trans g1, g2, g3, g4, (hk.block it hlt hi).trans g5, g6⟩, h2⟩
theorem MapV.kp {F : Nat -> Prop} (h : MapV w mv E) (hk : Kp F w w') (hm : ∀ r, mv = .map (some r) -> ¬ F r) : MapV w' mv E := by
 rcases h with h | ⟨r, rfl, h⟩
 ·exact .inl h
 ·exact .inr ⟨r, rfl, h.kp hk (hm r rfl)⟩
theorem MapV.ext (h : MapV w mv E) (hk : Ext w w') : MapV w' mv E := h.kp hk fun _ _ => id
theorem MapV.lookup_ok (h : MapV w mv E) (s : ByteArray) : (Instr.lookup 127 mv (.string s) true).run Tryz.prog w = .ok (.tuple #[((bB E s).map Ent.ptr).getD (.pointer none), .bool (bB E s).isSome]) w := by
 rcases h with ⟨rfl, rfl⟩ | ⟨r, rfl, h⟩
 ·have hc := eE (P := Tryz.prog) (w := w) Tryz.underlying9 s true 9999
  have hf := fC (P := Tryz.prog) (w := w) Tryz.underlying9 s (es := []) (r := none) rfl
  have hz : (zeroValue 88).run Tryz.prog w = .ok (.pointer none) w := by kernel_rfl
  simp [Instr.lookup, run_underlying (P := Tryz.prog) Tryz.underlying127, hc, hf, hz, Result.andThen, bB]
 ·have hlk := pM (P := Tryz.prog) Tryz.underlying127 Tryz.underlying9 (z := .pointer none) (by kernel_rfl) h s
  rw [kG, Option.isSome_map] at hlk
  exact hlk
theorem MapV.len (h : MapV w mv E) (hks : ∀ e ∈ E, e.name.size ≤ maxLen) (hl : E.length ≤ maxLen) (ty : TypeId) : (Builtin.len_ #[127] ty #[mv]).run Tryz.prog w = .ok (.int .i64 (E.length : Nat)) w := by
 rcases h with ⟨rfl, rfl⟩ | ⟨r, rfl, h⟩
 ·simp [Builtin.len_, run_underlying (P := Tryz.prog) Tryz.underlying127]
  rfl
 ·obtain ⟨D, h1, h2⟩ := aE5 h (fun p hp => by obtain ⟨e, he, rfl⟩ := List.mem_map.1 hp; exact hks e he) (by simpa [dJ] using hl)
  have h3 := h1.len (P := Tryz.prog) Tryz.underlying127 ty
  rw [h2.size] at h3
  rw [h3]; simp [dJ]
theorem yI {a b : Nat} {s : Array Nat} (h : w.heap[it]? = some (.mapIter none a s b)) (ty : TypeId) : (Instr.next (.pointer (some ⟨it, 0, none⟩)) false ty).run Tryz.prog w = .ok (.tuple #[.bool false]) w := by
 simp only [Instr.next, getObj, Sem.run_bind, Sem.run, h, Result.andThen]
 rfl
variable {ops : Array Oper} {rest : List Oper} {o : Oper} {a : Act} {Q : Exit -> Act -> World -> Prop}
theorem oD (hg : o.guard = none) (m : Operand) (hop : o.op = Op.range 127 m) (hm : a.eval m = mv) (hv : MapV w mv E) (hks : ∀ e ∈ E, e.name.size ≤ maxLen) (hl : E.length ≤ maxLen)
 (hK : ∀ w' cnt, IterE w' mv w.heap.size E (fun _ => true) cnt -> Ext w w' -> w'.heap.size = w.heap.size + 1 -> wpList Tryz.prog ops Q rest (a.put o.dst (.pointer (some ⟨w.heap.size, 0, none⟩))) w') : wpList Tryz.prog ops Q (o :: rest) a w := by
 rcases hv with ⟨rfl, rfl⟩ | ⟨r, rfl, hv⟩
 ·refine wpList_plain hg fun K' hK' => ?_
  have hrun := run_range_nilMap (P := Tryz.prog) w 127 9 88 Tryz.underlying127
  unfold Oper.wp
  simp [execOp, hop, hm, hrun, Result.andThen]
  refine hK' _ _ (hK _ 0 (.inl ⟨rfl, rfl, rfl, 0, 0, #[], ?_⟩) ((Kp.refl w).alloc _) (by rw [aJ]))
  show (w.heap.push _)[w.heap.size]? = _
  simp
 ·obtain ⟨D, h1, h2⟩ := aE5 hv (fun p hp => by obtain ⟨e, he, rfl⟩ := List.mem_map.1 hp; exact hks e he) (by simpa [dJ] using hl)
  refine wpList_range_own w hg m 127 hop 9 88 (string_keyed Tryz.underlying9) Tryz.underlying127 oM r _ D hm h1 fun w' hr hgr hs => ?_
  exact hK w' _ (.inr ⟨r, _, D, _, rfl, hr, h2, fun e he => (h2.has (e.name, e.ptr) (List.mem_map.2 ⟨e, he, rfl⟩)).symm⟩) (Kp.of_grown hgr) hs
set_option maxRecDepth 100000 in
theorem pE (hg : o.guard = none) (itm : Operand) (hop : o.op = Op.next itm false) (hit : a.eval itm = .pointer (some ⟨it, 0, none⟩)) (h : IterE w mv it E todo cnt)
 (hDone : (∀ e ∈ E, todo e.name = false) -> wpList Tryz.prog ops Q rest (a.put o.dst (.tuple #[.bool false])) w)
 (hMore : ∀ (e0 : Ent) (w' : World) (cnt' : Nat), e0 ∈ E -> todo e0.name = true -> IterE w' mv it E (fun s => todo s && !decide (s = e0.name)) cnt' -> cnt' < cnt -> Kp (fun k => k = it) w w' -> w'.heap.size = w.heap.size -> (Instr.entry (.pointer (some ⟨it, 0, none⟩))).run Tryz.prog w' = .ok (.tuple #[.string e0.name, e0.ptr]) w' ->
  wpList Tryz.prog ops Q rest (a.put o.dst (.tuple #[.bool true, .string e0.name, e0.ptr])) w') : wpList Tryz.prog ops Q (o :: rest) a w := by
 rcases h with ⟨rfl, rfl, rfl, a1, b1, s1, hb⟩ | ⟨r, n, D, left, rfl, hr, hD, htodo⟩
 ·refine wpList_plain hg fun K' hK' => ?_
  have hrun := yI hb o.type
  unfold Oper.wp
  simp [execOp, hop, hit, hrun, Result.andThen]
  exact hK' _ _ (hDone fun e he => by simp at he)
 ·refine wpList_next_ranges w hg itm hop 9 (string_keyed Tryz.underlying9) oM Value.string id (fun key kl h => (keyV h).imp fun x h => h.1) (fun v y h => ⟨v, rfl⟩) r it n D left cnt hit hr (fun _ hl => hDone fun e he => by rw [htodo e he]; exact hl _) fun x c kl y w' cnt' hkey hlk hv hat hr' hlt hgr hsz hen => ?_
  obtain rfl : kl = jP x := by
   obtain ⟨x', e1, e2⟩ := keyV hkey
   injection e1 with e1
   rw [e1]; exact e2
  obtain ⟨e0, he0, enx, rfl⟩ : ∃ e0 ∈ E, e0.name = x /\ c = e0.ptr := by
   obtain ⟨e0, h1, h2⟩ := List.mem_map.1 (hD.key x c fun zd => by
    rw [hat zd]
    have h3 : some (DataW.held c, ([] : List MemPlace)) = some y := hv
    injection h3 with h3
    rw [<- h3])
   exact ⟨e0, h1, congrArg Prod.fst h2, (congrArg Prod.snd h2).symm⟩
  subst enx
  refine hMore e0 w' cnt' he0 (by rw [htodo e0 he0]; exact hlk) (.inr ⟨r, n, D, _, rfl, hr', hD, fun e he => ?_⟩) hlt ((Kp.of_row hgr).mono fun i hi e => by injection e with e; exact e.symm) hsz hen
  show (todo e.name && !decide (e.name = e0.name)) = _
  rw [htodo e he]
  show (left (jP e.name) && !decide (e.name = e0.name)) = (left (jP e.name) && !(jP e.name).sameKey (jP e0.name))
  congr 2
  by_cases hn : e.name = e0.name
  ·rw [hn, decide_eq_true rfl]; simp [Lit.sameKey, jP]
  ·rw [decide_eq_false hn]
   cases hs : (jP e.name).sameKey (jP e0.name) with
   | false => rfl
   | true => exact absurd (zY (WideAt.sameKey_eq hs)) hn
end
structure BaseM (S : Nat -> Prop) (w : World) (bb : Nat) (mv : Value) (E : List Ent) : Prop where
 blk : Blk w bb [mv, .int .i64 (bG (aN E) : Nat)] 129
 map : MapV w mv E
 rows : ∀ e ∈ E, RowsAt S w e.b e.iv e.ar e.LL
 inS : ∀ k, S k -> k < w.heap.size
 mapLt : ∀ r, mv = .map (some r) -> r < w.heap.size
 ok : BaseOk (aN E)
theorem BaseAt.m {S : Nat -> Prop} {w : World} {bb r : Nat} {E : List Ent} (h : BaseAt S w bb r E) : BaseM S w bb (.map (some r)) E :=
 ⟨h.blk, .inr ⟨r, rfl, h.map⟩, h.rows, h.inS, fun r' e => by cases e; exact h.map.lt, h.ok⟩
theorem BaseM.ext {S : Nat -> Prop} {w w' : World} {bb : Nat} {mv : Value} {E : List Ent} (h : BaseM S w bb mv E) (hk : Ext w w') : BaseM S w' bb mv E :=
 ⟨h.blk.ext hk, h.map.ext hk, fun e he => (h.rows e he).ext hk, fun k hk' => Nat.lt_of_lt_of_le (h.inS k hk') hk.size, fun r e => Nat.lt_of_lt_of_le (h.mapLt r e) hk.size, h.ok⟩
theorem BaseM.size {S : Nat -> Prop} {w : World} {bb : Nat} {mv : Value} {E : List Ent} (h : BaseM S w bb mv E) : ∀ e ∈ E, e.name.size ≤ maxLen := fun e he => by
 have h2 : 1 ≤ e.name.size /\ e.name.size ≤ 4096 := of_decide_eq_true (h.ok.all _ (jW he)).name
 unfold maxLen; omega
theorem jF {E : List Ent} (h : BaseOk (aN E)) {e : Ent} (he : e ∈ E) : bB E e.name = some e := by
 have hnd : (E.map Ent.name).Nodup := by
  have := h.nodup
  unfold aN at this
  rw [List.map_map] at this
  exact this
 clear h
 induction E with
 | nil => simp at he
 | cons a E ih =>
  rw [List.map_cons, List.nodup_cons] at hnd
  unfold bB
  rw [List.find?_cons]
  by_cases ha : a.name = e.name
  ·rw [decide_eq_true ha]
   rcases List.mem_cons.1 he with rfl | he
   ·rfl
   ·exact absurd (List.mem_map.2 ⟨e, he, ha.symm⟩) hnd.1
  ·rw [decide_eq_false ha]
   rcases List.mem_cons.1 he with rfl | he
   ·exact absurd rfl ha
   ·exact ih he hnd.2
end Go.Proofs.YtinnmeiphbdogaaGreat
/- tuple.Base: Copy. -/
namespace Go.Proofs.YtinnmeiphbdogaaGreat
open Go.RowKit Go.Maps
theorem vG {E : List Ent} (h : ((aN E).map (·.1)).Nodup) : (aN E).Nodup := by
 generalize aN E = C at *
 induction C with
 | nil => exact List.nodup_nil
 | cons p C ih =>
  rw [List.map_cons, List.nodup_cons] at h
  exact List.nodup_cons.2 ⟨fun hp => h.1 (List.mem_map.2 ⟨p, hp, rfl⟩), ih h.2⟩
theorem tC {C D : List bA} (h : C.Perm D) : bG C = bG D := aH7 (h.map _)
theorem aE2 {C D : List bA} (h : C.Perm D) (hD : BaseOk D) : BaseOk C := ⟨(h.map (·.1)).nodup_iff.2 hD.nodup, fun p hp => hD.all p (h.mem_iff.1 hp), by rw [tC h]; exact hD.few⟩
theorem aFt {C D : List bA} (h : C.Perm D) (hD : BaseOk D) : aJf C D := fun s => by
 have hC := aE2 h hD
 cases hg : bK C s with
 | none =>
  cases hd : bK D s with
  | none => rfl
  | some v => rw [(dM hC.nodup).2 (h.mem_iff.2 ((dM hD.nodup).1 hd))] at hg; cases hg
 | some v => exact ((dM hD.nodup).2 (h.mem_iff.1 ((dM hC.nodup).1 hg))).symm
structure CopyB (S : Nat -> Prop) (lo : Nat) (w : World) (r : Nat) (E : List Ent) : Prop where
 map : MapIs w r (dJ E)
 rows : ∀ e ∈ E, RowsAt S w e.b e.iv e.ar e.LL
 apart : E.Pairwise fun e f => ∀ k, e.own k -> ¬ f.own k
 new : ∀ e ∈ E, ∀ k, e.own k -> lo ≤ k
theorem CopyB.ext {S : Nat -> Prop} {lo : Nat} {w w' : World} {r : Nat} {E : List Ent} (h : CopyB S lo w r E) (hk : Ext w w') : CopyB S lo w' r E := ⟨h.map.ext hk, fun e he => (h.rows e he).ext hk, h.apart, h.new⟩
def aK8 (S : Nat -> Prop) (wo w0 : World) (E : List Ent) (mv : Value) (it : Nat) (bb2 r2 : Nat) (m : Int) (w : World) : Prop := ∃ todo cnt, IterE w mv it E todo cnt /\ Hid (Ext wo w /\ w0.heap.size ≤ w.heap.size) /\
 Hid (∃ E2, CopyB S w0.heap.size w r2 E2 /\ Blk w bb2 [.map (some r2), .int .i64 m] 129 /\ (∀ e2 ∈ E2, ∃ e ∈ E, e2.cnt = e.cnt /\ todo e.name = false) /\ (∀ e ∈ E, todo e.name = false -> ∃ e2 ∈ E2, e2.cnt = e.cnt))
theorem aGr {m : List (ByteArray × Value)} {s : ByteArray} (h : ∀ p ∈ m, p.1 ≠ s) : uQ m s = none := by
 unfold uQ
 rw [List.find?_eq_none.2 fun p hp => by simpa using h p hp]; rfl
theorem CopyB.snoc {S : Nat -> Prop} {lo : Nat} {w w' : World} {r : Nat} {E : List Ent} {e : Ent} (h : CopyB S lo w r E) (hS : ∀ k, S k -> k < w.heap.size) (hr : r < lo) (hSr : ¬ S r) (hk : Kp (fun k => k = r) w w') (hm : MapIs w' r (kU (dJ E) e.name e.ptr)) (hn : ∀ f ∈ E, f.name ≠ e.name)
 (hE : RowsAt S w e.b e.iv e.ar e.LL) (hlo : ∀ k, e.own k -> lo ≤ k) (hap : ∀ f ∈ E, ∀ k, f.own k -> ¬ e.own k) : CopyB S lo w' r (E ++ [e]) := by
 have hg : uQ (dJ E) e.name = none := aGr fun p hp => by
  obtain ⟨f, hf, rfl⟩ := List.mem_map.1 hp
  exact hn f hf
 have hmv : ∀ f : Ent, RowsAt S w f.b f.iv f.ar f.LL -> (∀ k, f.own k -> lo ≤ k) -> RowsAt S w' f.b f.iv f.ar f.LL := fun f hf hl => hf.move hk (fun k e ho => by have := hl k ho; omega) (fun k e hs => hSr (e ▸ hs)) (fun _ x => x) (fun k hk' => Nat.lt_of_lt_of_le (hS k hk') hk.size) hf.notS
 refine ⟨?_, fun f hf => ?_, List.pairwise_append.2 ⟨h.apart, by simp, fun f hf g hg' => ?_⟩, fun f hf => ?_⟩
 ·have e1 : kU (dJ E) e.name e.ptr = dJ (E ++ [e]) := by
   unfold kU
   rw [hg]
   simp [dJ]
  rw [<- e1]; exact hm
 ·rcases List.mem_append.1 hf with hf | hf
  ·exact hmv f (h.rows f hf) (h.new f hf)
  ·rw [List.mem_singleton.1 hf]; exact hmv e hE hlo
 ·rw [List.mem_singleton.1 hg']; exact hap f hf
 ·rcases List.mem_append.1 hf with hf | hf
  ·exact h.new f hf
  ·rw [List.mem_singleton.1 hf]; exact hlo
set_option maxRecDepth 100000 in
set_option maxHeartbeats 4000000 in
theorem vW {S : Nat -> Prop} {w : World} {bb : Nat} {mv : Value} {E : List Ent} (h : BaseM S w bb mv E) (hl : E.length ≤ 1048576) :
 Calls Tryz.prog 45 #[.pointer (some ⟨bb, 0, none⟩)] w (RetN w fun w' v => ∃ bb2 r2 E2, v = .pointer (some ⟨bb2, 0, none⟩) /\ BaseAt S w' bb2 r2 E2 /\ (aN E2).Perm (aN E) /\ ∀ k, OwnB bb2 r2 E2 k -> w.heap.size ≤ k) := by
 have c0 := h.blk.cell 0 (by simp)
 have c1 := h.blk.cell 1 (by simp)
 simp only [List.getElem_cons_zero, List.getElem_cons_succ] at c0 c1
 obtain ⟨m, em⟩ : ∃ m : Int, ((bG (aN E) : Nat) : Int) = m := ⟨_, rfl⟩
 rw [em] at c1
 have H := qH (And.intro h (And.intro hl em))
 clear h em hl
 have hmm := @run_makeMap Tryz.prog
 obtain ⟨wA, ewA⟩ : ∃ wA, (w.alloc (.map #[] 0)).alloc (.cells #[.map (some w.heap.size), .int .i64 m] 129) = wA := ⟨_, rfl⟩
 have hxA : Ext w wA := by rw [<- ewA]; exact ((Kp.refl w).alloc _).alloc _
 have hsA : wA.heap.size = w.heap.size + 2 := by rw [<- ewA, aJ, aJ]
 have hBA : Blk wA (w.heap.size + 1) [.map (some w.heap.size), .int .i64 m] 129 := by
  rw [<- ewA]
  have hB := Blk.new (w.alloc (.map #[] 0)) [.map (some w.heap.size), .int .i64 m] 129
  rw [aJ] at hB
  exact hB
 have hMA : MapIs wA w.heap.size [] := by rw [<- ewA]; exact (MapIs.new w).ext ((Kp.refl _).alloc _)
 have hmA := H.out.1.map.ext hxA
 have cA := hxA.cell c0 id
 replace c1 : (w.alloc (.map #[] 0)).cell? ⟨bb, 1, none⟩ = some (.int .i64 m) := ((Kp.refl (F := fun _ => False) w).alloc _).cell c1 id
 have HA := qH (And.intro hxA (And.intro hsA (And.intro hBA hMA)))
 clear hxA hsA hBA hMA
 go_enter Tryz.func45, Tryz.ntmps45
 go_wp2_with (at_range; refine oD rfl _ rfl rfl hmA H.out.1.size (by have := H.out.2.1; unfold maxLen; omega) ?_; intro w0 cnt0 hrg0 hx0 hs0)
 go_frame
 obtain ⟨it, eit⟩ : ∃ it, wA.heap.size = it := ⟨_, rfl⟩
 obtain ⟨bb2, eb2⟩ : ∃ bb2, w.heap.size + 1 = bb2 := ⟨_, rfl⟩
 obtain ⟨r2, er2⟩ : ∃ r2, w.heap.size = r2 := ⟨_, rfl⟩
 have HX0 := qH (show Ext w w0 /\ Blk w0 bb2 [.map (some r2), .int .i64 m] 129 /\ MapIs w0 r2 [] /\ bb2 < w0.heap.size /\ r2 < w0.heap.size /\ it < w0.heap.size /\ bb2 = w.heap.size + 1 /\ r2 = w.heap.size /\ it = w.heap.size + 2 from by
  have := HA.out.2.1
  refine ⟨HA.out.1.trans hx0, ?_, ?_, by omega, by omega, by omega, eb2.symm, er2.symm, by omega⟩
  ·rw [<- eb2, <- er2]; exact HA.out.2.2.1.ext hx0
  ·rw [<- er2]; exact HA.out.2.2.2.ext hx0)
 rw [eit] at hrg0
 try rw [eit]
 try rw [eb2]
 try rw [er2]
 clear hx0 hs0 ewA hmA cA eit eb2 er2
 go_loopw [] (fun wr => aK8 S w w0 E mv it bb2 r2 m wr) (fun wr => leftV wr mv it)
 case atStart => exact ⟨_, _, hrg0, qH ⟨HX0.out.1, Nat.le_refl _⟩, qH ⟨[], ⟨HX0.out.2.2.1, fun e he => by simp at he, List.Pairwise.nil, fun e he => by simp at he⟩, HX0.out.2.1, fun e he => by simp at he, fun e he hl => by cases hl⟩⟩
 case round =>
  obtain ⟨todo, cnt, hrg, hex, hin⟩ := hrel
  have HIN := qH (And.intro hex.out hin.out)
  have HRG := qH hrg
  clear hex hin
  go_wp2_with (at_next; refine pE rfl _ rfl rfl hrg ?_ ?_)
  ·intro hl0
   obtain ⟨E2, hP, hB, h1, h2⟩ := HIN.out.2
   have hnd : ((aN E2).map (·.1)).Nodup := by
    obtain ⟨_, _, _, _, hn, _⟩ := hP.map
    rw [pB] at hn; exact hn
   have hperm : (aN E2).Perm (aN E) := (List.perm_ext_iff_of_nodup (vG hnd) (vG H.out.1.ok.nodup)).2 fun p => by
    constructor
    ·intro hp
     obtain ⟨e2, he2, rfl⟩ := List.mem_map.1 hp
     obtain ⟨e, he, hc, _⟩ := h1 e2 he2
     rw [hc]; exact jW he
    ·intro hp
     obtain ⟨e, he, rfl⟩ := List.mem_map.1 hp
     obtain ⟨e2, he2, hc⟩ := h2 e he (hl0 e he)
     rw [<- hc]; exact jW he2
   have HFin := qH (show Ext w wr /\ BaseAt S wr bb2 r2 E2 /\ (aN E2).Perm (aN E) /\ ∀ k, OwnB bb2 r2 E2 k -> w.heap.size ≤ k from by
    obtain ⟨x1, x2, x3, x4, x5, x6, x7, x8, x9⟩ := HX0.out
    have hin := H.out.1.inS
    have hsz := HIN.out.1.1.size
    have hsz0 := x1.size
    refine ⟨HIN.out.1.1, { blk := by rw [tC hperm, H.out.2.2]; exact hB, map := hP.map, rows := hP.rows, apart := hP.apart, inS := fun k hk => by have := hin k hk; omega, notS := ⟨fun hs => by have := hin _ hs; omega, fun hs => by have := hin _ hs; omega⟩, ne := by omega, off := fun e he k ho => by have := hP.new e he k ho; omega, ok := aE2 hperm H.out.1.ok }, hperm, ?_⟩
    rintro k (rfl | rfl | ⟨e, he, ho⟩)
    ·omega
    ·omega
    ·have := hP.new e he k ho; omega)
   clear hP hB h1 h2 hnd hperm
   go_wp2
   go_ret
   exact RetN.mk HFin.out.1 ⟨bb2, r2, E2, rfl, HFin.out.2⟩
  ·intro e0 w1 cnt1 he0 hlk hrg1 hlt hg1 hsz hen
   obtain ⟨x, enx⟩ : ∃ x, e0.name = x := ⟨_, rfl⟩
   have hw1 : Ext w w1 := HIN.out.1.1.trans' hg1 fun i hi e => by have := HX0.out; omega
   have hleft : ∀ e ∈ E, (todo e.name && !decide (e.name = e0.name)) = false -> todo e.name = false \/ e = e0 := fun e he h => by
    rw [Bool.and_eq_false_iff] at h
    rcases h with h | h
    ·exact .inl h
    ·right
     have h1 := jF H.out.1.ok he
     have h2 := jF H.out.1.ok he0
     rw [show e.name = e0.name by simpa using h, h2] at h1
     injection h1 with h1; exact h1.symm
   obtain ⟨E2, hP, hB, h1, h2⟩ := HIN.out.2
   have hP1 : CopyB S w0.heap.size w1 r2 E2 := by
    have hlt : it < w0.heap.size := HX0.out.2.2.2.2.2.1
    refine ⟨hP.map.kp hg1 (by have := HX0.out; omega), fun e he => (hP.rows e he).move hg1 (fun k e1 ho => by have := hP.new e he k ho; omega) (fun k e1 hs => by have := H.out.1.inS k hs; have := HX0.out; omega) (fun _ x => x) (fun k hk' => by have := H.out.1.inS k hk'; have := hw1.size; omega) (hP.rows e he).notS, hP.apart, hP.new⟩
   have hB1 : Blk w1 bb2 [.map (some r2), .int .i64 m] 129 := hB.kp hg1 (by have := HX0.out; omega)
   have HE := qH (And.intro he0 (And.intro enx (And.intro hleft (And.intro hlk (And.intro h1 h2)))))
   have HW := qH (And.intro hrg1 (And.intro hlt (And.intro hw1 (And.intro hsz (And.intro hP1 hB1)))))
   have hcp := fun w' (hw : Ext w1 w') => aCw (z := False) (((H.out.1.ext hw1).rows e0 he0).ext hw).q
   have cb := hB1.cell 0 (by simp)
   simp only [List.getElem_cons_zero] at cb
   obtain ⟨eb, eeb⟩ : ∃ eb, e0.b = eb := ⟨_, rfl⟩
   have ept : e0.ptr = .pointer (some ⟨eb, 0, none⟩) := by rw [<- eeb]; rfl
   rw [eeb] at hcp
   rw [ept] at hen ⊢
   rw [enx] at hen hlk ⊢
   have HC := qH hcp
   clear he0 enx hleft hlk h1 h2 hrg1 hlt hw1 hsz hP hP1 hB hB1 hg1 hcp ept eeb hrg
   go_wp2_with fail
   refine aT (fun w' : World => w'.cell? ⟨bb2, 0, none⟩ = some (.map (some r2))) [7] (by kernel_rfl) cb (fun hHeld => ?_)
   refine dF 0 ?_; try simp only [Act.put,sI,sZ,sS]
   refine dF 1 ?_; try simp only [Act.put,sI,sZ,sS]
   refine dF 2 ?_; try simp only [Act.put,sI,sZ,sS]
   refine dI 3 ?_; try simp only [Act.put,sI,sZ,sS]
   refine dF 4 ?_; try simp only [Act.put,sI,sZ,sS]
   refine dF 5 ?_; try simp only [Act.put,sI,sZ,sS]
   refine aE (i := 6) ?_
   refine aF (i := 6) rfl (fun K hK => ?_)
   go_simp
   (refine (HC.out _ (Kp.refl w1).drew).mono ?_; rintro e w5 ⟨v, rfl, hk3, _, b', iv', rfl, hb', hiv', hr'⟩; have X5 := qH (And.intro (show Ext w1 w5 from (Kp.refl w1).drew.trans (Kp.fq hk3)) (And.intro hb' (And.intro hiv' hr'))); clear hk3 hb' hiv' hr')
   go_wp2_with fail
   refine hK.out _ _ ?_ (fun hHeld => ?_)
   ·(try dsimp only); (exact X5.out.1.cell cb id)
   clear hK K; (try simp only [Act.put,sI,sZ,sS])
   refine aE (i := 7) ?_
   refine aI (i := 7) rfl (by kernel_rfl) (fun K hK => ?_)
   (obtain ⟨w6, hu, hm6, hk6⟩ := mH (P := Tryz.prog) Tryz.underlying127 Tryz.underlying9 (HW.out.2.2.2.2.1.map.ext X5.out.1) x (.pointer (some ⟨b', 0, none⟩)))
   go_simp
   refine hK.out _ _ ?_
   clear hK K; (try simp only [Act.put,sI,sZ,sS])
   refine aK (by kernel_rfl) ?_ _
   have HFin := qH (show IterE w6 mv it E (fun s => todo s && !decide (s = e0.name)) cnt1 /\ Ext w w6 /\ w0.heap.size ≤ w6.heap.size /\ ∃ E2, CopyB S w0.heap.size w6 r2 E2 /\ Blk w6 bb2 [.map (some r2), .int .i64 m] 129 /\ (∀ e2 ∈ E2, ∃ e ∈ E, e2.cnt = e.cnt /\ (todo e.name && !decide (e.name = e0.name)) = false) /\ (∀ e ∈ E, (todo e.name && !decide (e.name = e0.name)) = false -> ∃ e2 ∈ E2, e2.cnt = e.cnt) from by
    obtain ⟨hrg1, hlt, hw1, hsz, hP1, hB1⟩ := HW.out
    obtain ⟨he0, enx, hleft, hlk, h1, h2⟩ := HE.out
    obtain ⟨hx5, hb', hiv', hr'⟩ := X5.out
    obtain ⟨x1, x2, x3, x4, x5, x6, x7, x8, x9⟩ := HX0.out
    have hin := H.out.1.inS
    have hs0 := x1.size
    have hs1 := hw1.size
    have hs01 := HIN.out.1.2
    have hs5 := hx5.size
    have hs6 := hk6.size
    have hk16 : Kp (fun k => k = r2) w1 w6 := (Ext.kp hx5).trans hk6
    have hrg6 := hrg1.kp hk16 (by omega) (fun r hr e => by have := H.out.1.mapLt r hr; omega)
    have hown : ∀ k, dW b' iv' k -> w1.heap.size ≤ k := fun k ho => by
     rcases ho with ho | ho
     ·rw [ho]; exact hb'
     ·exact hiv' k ho
    have hP6 := (hP1.ext hx5).snoc (e := { name := x, b := b', iv := iv', ar := e0.ar, LL := e0.LL }) (fun k hk => by have := hin k hk; omega) x5 (fun hs => by have := hin _ hs; omega) hk6 hm6 (fun f hf e => by
     obtain ⟨g, hg, hc, hl⟩ := h1 f hf
     have e2 : f.name = g.name := congrArg Prod.fst hc
     rw [<- e2, show f.name = x from e, <- enx, hlk] at hl
     cases hl) hr' (fun k ho => by have := hown k ho; omega) (fun f hf k ho ho2 => by
     have h3 := RowsQ.ownLt (z := True) (hP1.rows f hf).q k ho
     have h4 := hown k ho2
     omega)
    refine ⟨hrg6, hw1.trans' hk16 fun k hk e => by omega, by omega, _, hP6, (hB1.ext hx5).kp hk6 (by omega), fun e2 he2 => ?_, fun e he hl => ?_⟩
    ·rcases List.mem_append.1 he2 with he2 | he2
     ·obtain ⟨e, he, hc, hl⟩ := h1 e2 he2
      exact ⟨e, he, hc, by rw [hl]; rfl⟩
     ·rw [List.mem_singleton.1 he2]
      exact ⟨e0, he0, by show (x, e0.ar, e0.LL) = (e0.name, e0.ar, e0.LL); rw [enx], by simp⟩
    ·rcases hleft e he hl with h | rfl
     ·obtain ⟨e2, he2, hc⟩ := h2 e he h
      exact ⟨e2, List.mem_append_left _ he2, hc⟩
     ·exact ⟨_, List.mem_append_right _ (List.mem_singleton.2 rfl), by show (x, e.ar, e.LL) = (e.name, e.ar, e.LL); rw [enx]⟩)
   clear hu hm6 hk6 hHeld cb hen
   go_wp2
   go_roundw
   case rel => exact ⟨_, _, HFin.out.1, qH ⟨HFin.out.2.1, HFin.out.2.2.1⟩, qH HFin.out.2.2.2⟩
   case measure =>
    rw [HFin.out.1.left_eq, HRG.out.left_eq]
    exact HW.out.2.1
theorem zI {S : Nat -> Prop} {w : World} {bb r : Nat} {E : List Ent} (h : BaseAt S w bb r E) (hl : E.length ≤ 1048576) :
 Calls Tryz.prog 45 #[.pointer (some ⟨bb, 0, none⟩)] w (RetN w fun w' v => ∃ bb2 r2 E2, v = .pointer (some ⟨bb2, 0, none⟩) /\ BaseAt S w' bb2 r2 E2 /\ (aN E2).Perm (aN E) /\ ∀ k, OwnB bb2 r2 E2 k -> w.heap.size ≤ k) := vW h.m hl
end Go.Proofs.YtinnmeiphbdogaaGreat
/- tuple.Base: Same: maps.EqualFunc over rows. -/
namespace Go.Proofs.YtinnmeiphbdogaaGreat
open Go.RowKit Go.Maps
def mP (E2 : List Ent) (e : Ent) : Bool := match bB E2 e.name with | some f => decide (e.ar = f.ar /\ e.LL = f.LL) | none => false
def mF (E1 E2 : List Ent) : Bool := decide (E1.length = E2.length) && E1.all (mP E2)
def EqTo (w0 : World) (E1 E2 : List Ent) (mv : Value) (it : Nat) (w : World) : Prop := ∃ todo cnt, IterE w mv it E1 todo cnt /\ Hid (Ext w0 w) /\ Hid (∀ e ∈ E1, todo e.name = false -> mP E2 e = true)
theorem aBu {S : Nat -> Prop} {w : World} {bb1 bb2 : Nat} {r1 r2 : Value} {E1 E2 : List Ent} (h1 : BaseM S w bb1 r1 E1) (h2 : BaseM S w bb2 r2 E2) {e f : Ent} (he : e ∈ E1) (hf : f ∈ E2) (hap : e = f \/ ∀ k, e.own k -> ¬ f.own k) :
 Calls Tryz.prog 94 #[e.ptr, f.ptr] w (RetN w fun w' v => v = .bool (decide (e.ar = f.ar /\ e.LL = f.LL))) := by
 have q1 : RowsQ True S w e.b e.iv e.ar e.LL := (h1.rows e he).q
 have q2 : RowsQ True S w f.b f.iv f.ar f.LL := (h2.rows f hf).q
 have a1 := (h1.rows e he)
 have a2 := (h2.rows f hf)
 rcases hap with rfl | hap
 ·refine (vN (a1.q (z := False))).mono ?_
  rintro e' w' ⟨v, rfl, hk, rfl, _⟩
  exact RetN.mk (Kp.fq hk) (by simp)
 by_cases har : e.ar = f.ar
 ·have r1 := (h1.rows e he).q (z := False)
  have r2 := (h2.rows f hf).q (z := False)
  rw [<- har] at r2
  refine (aCv r1 r2 hap).mono ?_
  rintro e' w' ⟨v, rfl, hk, rfl, _, _⟩
  refine RetN.mk (hk.mono fun _ _ h => by rcases h with h | h <;> exact h.1) ?_
  rw [show decide (e.ar = f.ar /\ e.LL = f.LL) = decide (e.LL = f.LL) by simp [har]]
 ·refine (tM q1.ar q2.ar har).mono ?_
  rintro e' w' ⟨rfl, n, rfl⟩
  refine RetN.mk ((Kp.refl _).drewN n) ?_
  rw [decide_eq_false fun h => har h.1]
set_option maxRecDepth 100000 in
set_option maxHeartbeats 4000000 in
theorem vR {S : Nat -> Prop} {w : World} {bb1 bb2 : Nat} {m1 m2 : Value} {E1 E2 : List Ent} (h1 : BaseM S w bb1 m1 E1) (h2 : BaseM S w bb2 m2 E2) (hap : ∀ e ∈ E1, ∀ f ∈ E2, e.name = f.name -> e = f \/ ∀ k, e.own k -> ¬ f.own k) (hl1 : E1.length ≤ 1048576) (hl2 : E2.length ≤ 1048576) :
 Calls Tryz.prog 93 #[m1, m2, .func (.func 94) #[] #[]] w (RetN w fun w' v => v = .bool (mF E1 E2)) := by
 have hL1 : E1.length ≤ maxLen := by unfold maxLen; omega
 have hL2 : E2.length ≤ maxLen := by unfold maxLen; omega
 obtain ⟨n1, en1⟩ : ∃ n, E1.length = n := ⟨_, rfl⟩
 obtain ⟨n2, en2⟩ : ∃ n, E2.length = n := ⟨_, rfl⟩
 have hlen1 := h1.map.len h1.size hL1
 have hlen2 := h2.map.len h2.size hL2
 rw [en1] at hlen1 hl1
 rw [en2] at hlen2
 have hmap1 := h1.map
 have hsz1 := qH (And.intro h1.size hL1)
 have H := qH (And.intro h1 (And.intro h2 hap))
 have EN := qH (And.intro en1 en2)
 have hent : ∀ args w, (callFunc 94 args).run Tryz.prog w = .ok (.enter 94 args) w := enters_of Tryz.func94 (by kernel_rfl) rfl
 clear h1 h2 hap en1 en2 hl2 hL1 hL2
 by_cases hne : n1 = n2
 ·have q1 : ((n1 : Int) != (n2 : Int)) = false := by simp [hne]
  have HNE := qH hne
  clear hne
  go_enter Tryz.func93, Tryz.ntmps93
  go_wp2_with (at_range; refine oD rfl _ rfl rfl hmap1 hsz1.out.1 hsz1.out.2 ?_; intro w0 cnt0 hrg0 hx0 hs0)
  go_frame
  obtain ⟨it, eit⟩ : ∃ it, w.heap.size = it := ⟨_, rfl⟩
  have HX0 := qH (And.intro hx0 eit)
  clear hx0 hs0
  rw [eit] at hrg0
  try rw [eit]
  go_loopw [] (fun wr => EqTo w E1 E2 m1 it wr) (fun wr => leftV wr m1 it)
  case atStart => exact ⟨_, _, hrg0, HX0.out.1, qH fun e he hl => by cases hl⟩
  case round =>
   obtain ⟨todo, cnt, hrg, hex, hin⟩ := hrel
   have HIN := qH (And.intro hex.out hin.out)
   have HRG := qH hrg
   clear hex hin
   go_wp2_with (at_next; refine pE rfl _ rfl rfl hrg ?_ ?_)
   ·intro hl0
    have hall := qH (fun e he => HIN.out.2 e he (hl0 e he))
    go_wp2
    go_ret
    refine RetN.mk HIN.out.1 ?_
    unfold mF
    rw [decide_eq_true (by rw [EN.out.1, EN.out.2]; exact HNE.out), List.all_eq_true.2 hall.out]; rfl
   ·intro e0 w1 cnt1 he0 hlk hrg1 hlt hg1 hsz hen
    obtain ⟨x, enx⟩ : ∃ x, e0.name = x := ⟨_, rfl⟩
    have hk1 : Ext w w1 := HIN.out.1.trans' hg1 fun i hi e => by have := HX0.out.2; omega
    have hleft : ∀ e ∈ E1, (todo e.name && !decide (e.name = e0.name)) = false -> todo e.name = false \/ e = e0 := fun e he h => by
     rw [Bool.and_eq_false_iff] at h
     rcases h with h | h
     ·exact .inl h
     ·right
      have h1 := jF H.out.1.ok he
      have h2 := jF H.out.1.ok he0
      rw [show e.name = e0.name by simpa using h, h2] at h1
      injection h1 with h1; exact h1.symm
    have HEN := qH (And.intro he0 (And.intro enx hleft))
    have HRG1 := qH (And.intro hrg1 (And.intro hlt hk1))
    have hlook : ∀ z, bB E2 x = z -> (Instr.lookup 127 m2 (.string x) true).run Tryz.prog w1 = .ok (.tuple #[(z.map Ent.ptr).getD (.pointer none), .bool z.isSome]) w1 := fun z hz => by
     rw [<- hz]
     exact (H.out.2.1.map.ext hk1).lookup_ok x
    rw [enx] at hen ⊢
    clear he0 enx hleft hrg1 hlt hk1 hlk hg1 hsz hrg
    cases hf : bB E2 x with
    | none =>
     have hl := hlook none hf
     have HF := qH hf
     clear hlook hf
     simp only [Option.map_none, Option.getD_none, Option.isSome_none] at hl
     go_wp2_with fail
     go_ret
     refine RetN.mk HRG1.out.2.2 ?_
     have h1 : mP E2 e0 = false := by unfold mP; rw [HEN.out.2.1, HF.out]
     have h2 : mF E1 E2 = false := by
      unfold mF
      rw [List.all_eq_false.2 ⟨e0, HEN.out.1, by rw [h1]; simp⟩, Bool.and_false]
     rw [h2]; rfl
    | some f =>
     have hl := hlook (some f) hf
     obtain ⟨hf2, hfn⟩ := bT hf
     have hmt : mP E2 e0 = decide (e0.ar = f.ar /\ e0.LL = f.LL) := by unfold mP; rw [HEN.out.2.1, hf]
     have HF := qH (And.intro hf2 (And.intro hfn hmt))
     clear hlook hf hf2 hfn hmt
     simp only [Option.map_some, Option.getD_some, Option.isSome_some] at hl
     go_wp2_with fail
     refine (aBu (H.out.1.ext HRG1.out.2.2) (H.out.2.1.ext HRG1.out.2.2) HEN.out.1 HF.out.1 (H.out.2.2 e0 HEN.out.1 f HF.out.1 (by rw [HEN.out.2.1, HF.out.2.1]))).mono ?_
     rintro e w2 ⟨v, rfl, hk2, rfl⟩
     have hrg2 := HRG1.out.1.kp hk2 id (fun _ _ => id)
     have HRG2 := qH (And.intro hrg2 (HRG1.out.2.2.trans hk2))
     clear hk2 hrg2 hl hen
     cases hv : decide (e0.ar = f.ar /\ e0.LL = f.LL) with
     | false =>
      have HV := qH hv
      clear hv
      go_wp2_with fail
      go_ret
      refine RetN.mk HRG2.out.2 ?_
      have h1 : mP E2 e0 = false := by rw [HF.out.2.2]; exact HV.out
      have h2 : mF E1 E2 = false := by
       unfold mF
       rw [List.all_eq_false.2 ⟨e0, HEN.out.1, by rw [h1]; simp⟩, Bool.and_false]
      rw [h2]; rfl
     | true =>
      have HV := qH hv
      clear hv
      go_wp2_with fail
      go_roundw
      case rel => exact ⟨_, _, HRG2.out.1, qH HRG2.out.2, qH fun e he hl => by
       rcases HEN.out.2.2 e he hl with h | rfl
       ·exact HIN.out.2 e he h
       ·rw [HF.out.2.2]; exact HV.out⟩
      case measure =>
       rw [HRG2.out.1.left_eq, HRG.out.left_eq]
       exact HRG1.out.2.1
 ·have q1 : ((n1 : Int) != (n2 : Int)) = true := by rw [bne_iff_ne]; omega
  have HNE := qH hne
  clear hne
  go_enter Tryz.func93, Tryz.ntmps93
  go_wp2
  go_ret
  exact RetN.mk (Kp.refl _) (by unfold mF; rw [decide_eq_false (by rw [EN.out.1, EN.out.2]; exact HNE.out)]; rfl)
set_option maxRecDepth 100000 in
set_option maxHeartbeats 4000000 in
theorem vV {S : Nat -> Prop} {w : World} {bb1 bb2 : Nat} {r1 r2 : Value} {E1 E2 : List Ent} (h1 : BaseM S w bb1 r1 E1) (h2 : BaseM S w bb2 r2 E2) (hap : ∀ e ∈ E1, ∀ f ∈ E2, e.name = f.name -> e = f \/ ∀ k, e.own k -> ¬ f.own k) (hl1 : E1.length ≤ 1048576) (hl2 : E2.length ≤ 1048576) :
 Calls Tryz.prog 47 #[.pointer (some ⟨bb1, 0, none⟩), .pointer (some ⟨bb2, 0, none⟩)] w (RetN w fun w' v => v = .bool (mF E1 E2)) := by
 have c1 := h1.blk.cell 0 (by simp)
 have c2 := h2.blk.cell 0 (by simp)
 have HEQ := qH (vR (h1.ext (Kp.refl w).drew) (h2.ext (Kp.refl w).drew) hap hl1 hl2)
 clear h1 h2 hap
 simp only [List.getElem_cons_zero] at c1 c2
 go_enter Tryz.func47, Tryz.ntmps47
 go_wp2
 refine aT (fun w' : World => w'.cell? ⟨bb1, 0, none⟩ = some r1 /\ w'.cell? ⟨bb2, 0, none⟩ = some r2) [] (by kernel_rfl) ⟨c1, c2⟩ (fun hHeld => ?_)
 refine dF 0 ?_; try simp only [Act.put,sI,sZ,sS]
 refine dF 1 ?_; try simp only [Act.put,sI,sZ,sS]
 refine dF 2 ?_; try simp only [Act.put,sI,sZ,sS]
 (first | (refine dF 3 ?_) | (refine dO 3 ?_)); (try simp only [Act.put,sI,sZ,sS])
 (first | (refine dF 4 ?_) | (refine dO 4 ?_)); (try simp only [Act.put,sI,sZ,sS])
 refine dF 5 ?_; try simp only [Act.put,sI,sZ,sS]
 refine dF 6 ?_; try simp only [Act.put,sI,sZ,sS]
 (first | (refine dF 7 ?_) | (refine dO 7 ?_)); (try simp only [Act.put,sI,sZ,sS])
 (first | (refine dF 8 ?_) | (refine dO 8 ?_)); (try simp only [Act.put,sI,sZ,sS])
 (first | (refine dF 9 ?_) | (refine dO 9 ?_)); (try simp only [Act.put,sI,sZ,sS])
 (first | (refine dI 10 ?_) | (refine dO 10 ?_)); (try simp only [Act.put,sI,sZ,sS])
 (first | (refine dF 11 ?_) | (refine dO 11 ?_)); (try simp only [Act.put,sI,sZ,sS])
 (first | (refine dF 12 ?_) | (refine dO 12 ?_)); (try simp only [Act.put,sI,sZ,sS])
 (first | (refine dF 13 ?_) | (refine dO 13 ?_)); (try simp only [Act.put,sI,sZ,sS])
 (first | (refine dI 14 ?_) | (refine dO 14 ?_)); (try simp only [Act.put,sI,sZ,sS])
 refine aE (i := 15) ?_
 refine aF (i := 15) rfl (fun K hK => ?_)
 go_simp
 (refine HEQ.out.mono ?_; rintro e w5 ⟨v, rfl, hk3, rfl⟩; have X5 := qH (show Ext w w5 from ((Kp.refl w).drew).trans hk3); clear hk3)
 go_wp2_with fail
 refine hK.out _ _ ?_ (fun hHeld => ?_)
 ·(try dsimp only); (exact ⟨X5.out.cell c1 id, X5.out.cell c2 id⟩)
 clear hK K; (try simp only [Act.put,sI,sZ,sS])
 refine dF 16 ?_; try simp only [Act.put,sI,sZ,sS]
 refine dF 17 ?_; try simp only [Act.put,sI,sZ,sS]
 refine aK (by kernel_rfl) ?_ _
 go_wp2
 go_ret
 exact RetN.mk X5.out rfl
theorem zE {S : Nat -> Prop} {w : World} {bb1 r1 bb2 r2 : Nat} {E1 E2 : List Ent} (h1 : BaseAt S w bb1 r1 E1) (h2 : BaseAt S w bb2 r2 E2) (hap : ∀ e ∈ E1, ∀ f ∈ E2, ∀ k, e.own k -> ¬ f.own k) (hl1 : E1.length ≤ 1048576) (hl2 : E2.length ≤ 1048576) :
 Calls Tryz.prog 47 #[.pointer (some ⟨bb1, 0, none⟩), .pointer (some ⟨bb2, 0, none⟩)] w (RetN w fun w' v => v = .bool (mF E1 E2)) := vV h1.m h2.m (fun e he f hf _ => .inr (hap e he f hf)) hl1 hl2
end Go.Proofs.YtinnmeiphbdogaaGreat
/- tuple.Base: Same, where one is nil. -/
namespace Go.Proofs.YtinnmeiphbdogaaGreat
open Go.RowKit
end Go.Proofs.YtinnmeiphbdogaaGreat
/- The law of joins: JoinOrder: plain. -/
namespace Go.Proofs.YtinnmeiphbdogaaGreat
def Val (N V : List ByteArray) (s x : ByteArray) : Prop := ∃ v : Nat, N[v]? = some s /\ V[v]? = some x
structure SameV (N V N' V' : List ByteArray) : Prop where
 val : ∀ s x, Val N V s x ↔ Val N' V' s x
 mem : ∀ s, s ∈ N ↔ s ∈ N'
section
variable {r r' : cN} {C : List bA}
end
def rM (C : List bA) : List aO -> Nat
 | [] => 1
 | l :: rest => if l.1 = 1 then (1 + (bF C (aX l)).length) * rM C rest else rM C rest
theorem tQ {R : Nat -> aD} {C : List bA} : ∀ {rest : List aO} {i : Nat}, (∀ (j : Nat) (l : aO), rest[j]? = some l -> (R (i + j)).length ≤ (bF C (aX l)).length) -> tR R rest i ≤ rM C rest
 | [], i, h => Nat.le_refl _
 | l :: rest, i, h => by
  have ht : ∀ (j : Nat) (l' : aO), rest[j]? = some l' -> (R (i + 1 + j)).length ≤ (bF C (aX l')).length := fun j l' hj => by
   have := h (j + 1) l' (by simpa using hj)
   rw [show i + (j + 1) = i + 1 + j by omega] at this; exact this
  have h0 := h 0 l rfl
  rw [Nat.add_zero] at h0
  unfold tR rM
  split
  ·exact Nat.mul_le_mul (by omega) (tQ ht)
  ·exact tQ ht
theorem aG9 (r : cN) (C : List bA) : (jN r C).length ≤ rM C r.2.1 := by
 unfold jN
 split
 ·refine Nat.le_trans (mK r.2.1 (aAi C r.2.1) r.2.1 0 ([], [])) (tQ fun j l hj => ?_)
  rw [Nat.zero_add]
  unfold aAi
  rw [hj]; exact Nat.le_refl _
 ·exact Nat.zero_le _
theorem rB {C : List bA} : ∀ {ls : List aO} {n m : Nat}, iY C ls n = some m -> n * rM C ls ≤ m
 | [], n, m, e => by cases e; show n * 1 ≤ n; omega
 | l :: ls, n, m, e => by
  unfold iY at e
  unfold rM
  split at e
  ·rename_i h1
   rw [if_pos h1]
   split at e
   ·cases e
   ·have h2 := rB e
    rw [Nat.mul_assoc] at h2; exact h2
  ·rename_i h1
   rw [if_neg h1]
   exact rB e
theorem aIv {C : List bA} {ls : List aO} (h : aBs C ls = true) : rM C ls ≤ 20000 := by
 unfold aBs at h
 obtain ⟨m, hm⟩ := Option.isSome_iff_exists.1 h
 have h1 := rB hm
 have h2 := zB (by decide) hm
 omega
end Go.Proofs.YtinnmeiphbdogaaGreat
