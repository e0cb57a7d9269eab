/- Texts joined for a claim (RowSame, BaseAdd, BaseAdd2, BaseDecl, BaseFrom, AggRun, AggGiv, AggOrd, RelRead). -/
import Derived.Test.YtikgpedgmnbcaaaGreatDoorAo9
set_option linter.unusedVariables false
set_option linter.unusedSimpArgs false
set_option maxRecDepth 100000
namespace Go.Proofs.YtikgpedgmnbcaaaGreatDoor
section
open Go.RowKit Go.Shelf
section
variable {z z1 z2 : Prop} {S : Nat -> Prop} {w w' : World} {b b1 b2 : Nat} {iv iv1 iv2 : Value} {arity a1 a2 : Nat} {LL L1 L2 : List (List ByteArray)}
theorem rQ (a : Int) (w : World) (ha : a < 0 \/ 64 < a) : Calls Tryz.prog 68 #[.int .i64 a] w (Ret (.tuple #[.pointer none, .int .i64 2]) w) := by
 by_cases h0 : a < 0
 ·have t1 : decide (a < 0) = true := by simp [h0]
  go_enter Tryz.func68, Tryz.ntmps68
  go_wp2
  go_ret2
  exact Ret.mk rfl
 ·have h1 : 64 < a := by omega
  have t1 : decide (a < 0) = false := by simp; omega
  have t2 : decide (a > 64) = true := by simp; omega
  have t3 : decide (64 < a) = true := by simp; omega
  go_enter Tryz.func68, Tryz.ntmps68
  go_wp2
  go_ret2
  exact Ret.mk rfl
end
end
section
open Go.RowKit
theorem aIs {C : List bH} {s : ByteArray} (row : List ByteArray) (h : cD s = false) : eU C s row = (false, 32) := if_pos h
theorem aIt {C : List bH} {s : ByteArray} {row : List ByteArray} (h : cD s = true) (hg : dH C s = none) (hl : 64 < row.length) : eU C s row = (false, 30) := by
 unfold eU
 rw [if_neg (by rw [h]; simp), if_pos (by unfold rG; rw [hg]; exact decide_eq_false (by omega))]
theorem aFw {C : List bH} {s : ByteArray} {row : List ByteArray} {v : Nat × aC} (h : cD s = true) (hg : dH C s = some v) (hl : v.1 ≠ row.length) : eU C s row = (false, 30) := by
 unfold eU
 rw [if_neg (by rw [h]; simp), if_pos (by unfold rG; rw [hg]; exact decide_eq_false hl)]
theorem yV {C : List bH} {s : ByteArray} {row : List ByteArray} (h : cD s = true) (hg : rG C s row = true) (ht : bT row = false) : eU C s row = (false, 31) := by
 unfold eU
 rw [if_neg (by rw [h]; simp), if_neg (by rw [hg]; simp), if_pos ht]
theorem yW {C : List bH} {s : ByteArray} {row : List ByteArray} (h : cD s = true) (hg : rG C s row = true) (ht : bT row = true) (hm : 262144 ≤ bJ C) (hi : bB aD (bP C s) row = false) : eU C s row = (false, 4) := by
 unfold eU
 rw [if_neg (by rw [h]; simp), if_neg (by rw [hg]; simp), if_neg (by rw [ht]; simp), if_pos ⟨hm, hi⟩]
theorem nS {C : List bH} {s : ByteArray} {row : List ByteArray} (h : cD s = true) (hg : rG C s row = true) (ht : bT row = true) (hm : ¬ (262144 ≤ bJ C /\ bB aD (bP C s) row = false)) :
 eU C s row = if 65536 ≤ (bP C s).length /\ bB aD (bP C s) row = false then (false, 4) else (!bB aD (bP C s) row, 0) := by
 unfold eU
 rw [if_neg (by rw [h]; simp), if_neg (by rw [hg]; simp), if_neg (by rw [ht]; simp), if_neg hm]
theorem pX {C : List bH} {s : ByteArray} {row : List ByteArray} {v : Nat × aC} (hg : dH C s = some v) (h : v.1 = row.length) : rG C s row = true := by unfold rG; rw [hg]; exact decide_eq_true h
theorem aAk {C : List bH} {s : ByteArray} {row : List ByteArray} (hg : dH C s = none) (h : row.length ≤ 64) : rG C s row = true := by unfold rG; rw [hg]; exact decide_eq_true h
theorem aDh {C : List bH} {s : ByteArray} {row : List ByteArray} (h : (eU C s row).2 ≠ 0) : rI C s row = C := if_neg h
section
variable {S S' : Nat -> Prop} {w w1 w2 w3 w4 : World} {bb r : Nat} {E : List Ent} {s : ByteArray} {ss : List ByteArray} {e : Ent} {iv' : Value}
def BaseAdded (S : Nat -> Prop) (w : World) (bb r : Nat) (E : List Ent) (s : ByteArray) (ss : List ByteArray) (w' : World) (v : Value) : Prop :=
 v = .tuple #[.bool (eU (aU E) s ss).1, .int .i64 ((eU (aU E) s ss).2 : Nat)] /\ ∃ S' E', (∀ k, S k -> S' k) /\ (∀ k, S' k -> S k \/ w.heap.size ≤ k) /\ BaseAt S' w' bb r E' /\ aU E' = rI (aU E) s ss /\ ∀ k, iI bb r E' k -> iI bb r E k \/ w.heap.size ≤ k
theorem BaseAdded.same (h : BaseAt S w bb r E) (hk : Ext w w1) {n : Nat} (hR : eU (aU E) s ss = (false, n)) (hn : n ≠ 0) {v : Value} (hv : v = .tuple #[.bool false, .int .i64 (n : Nat)]) : BaseAdded S w bb r E s ss w1 v :=
 ⟨by rw [hv, hR], S, E, fun _ h => h, fun _ h => .inl h, h.ext hk, (aDh (by rw [hR]; exact hn)).symm, fun _ h => .inl h⟩
theorem uB {pre post : List Ent} (hiv : ∀ k, iv'.ownBlock = some k -> e.iv.ownBlock = some k \/ w.heap.size ≤ k) (LL' : List (List ByteArray)) : ∀ k, iI bb r (pre ++ { e with iv := iv', LL := LL' } :: post) k -> iI bb r (pre ++ e :: post) k \/ w.heap.size ≤ k := by
 rintro k (h | h | ⟨f, hf, ho⟩)
 ·exact .inl (.inl h)
 ·exact .inl (.inr (.inl h))
 ·rcases List.mem_append.1 hf with hf | hf
  ·exact .inl (.inr (.inr ⟨f, List.mem_append_left _ hf, ho⟩))
  ·rcases List.mem_cons.1 hf with rfl | hf
   ·rcases ho with ho | ho
    ·exact .inl (.inr (.inr ⟨e, List.mem_append_right _ List.mem_cons_self, .inl ho⟩))
    ·rcases hiv k ho with h2 | h2
     ·exact .inl (.inr (.inr ⟨e, List.mem_append_right _ List.mem_cons_self, .inr h2⟩))
     ·exact .inr h2
   ·exact .inl (.inr (.inr ⟨f, List.mem_append_right _ (List.mem_cons_of_mem _ hf), ho⟩))
theorem nC (h : BaseAt S w bb r E) (he : bQ E s = some e) (hx : Ext w w2) (hk : Kp e.own w2 w3) : MapIs w3 r (gT E) := (h.map.ext hx).kp hk fun ho => (h.off e (dA he).1 r ho).2 rfl
theorem gV (h : BaseAt S w bb r E) (he : bQ E s = some e) (hx : Ext w w2) (hk : Kp e.own w2 w3) : Blk w3 bb [.map (some r), .int .i64 (bJ (aU E) : Nat)] 153 := (h.blk.ext hx).kp hk fun ho => (h.off e (dA he).1 bb ho).1 rfl
theorem pW {LL : List (List ByteArray)} (h : BaseAt S w bb r E) (he : bQ E s = some e) (hf : cD s = true /\ e.ar = ss.length /\ bT ss = true /\ e.LL = LL /\ ¬ (262144 ≤ bJ (aU E) /\ bB aD LL ss = false)) (hx : Ext w w2) (hk : Kp e.own w2 w3) (hss : ∀ k, S k -> S' k) (hsn : ∀ k, S' k -> S k \/ w2.heap.size ≤ k)
 (hr : RowsAt S' w3 e.b iv' e.ar (aV e.ar LL ss)) (hiv : ∀ k, iv'.ownBlock = some k -> e.iv.ownBlock = some k \/ w2.heap.size ≤ k) (h0 : aJ e.ar LL ss = if 65536 ≤ LL.length /\ bB aD LL ss = false then (false, 4) else (!bB aD LL ss, 0)) (h4 : 65536 ≤ LL.length /\ bB aD LL ss = false) :
 RetF (iI bb r E) w (BaseAdded S w bb r E s ss) (.returned (.tuple #[.bool false, .int .i64 4])) w3 := by
 obtain ⟨f1, f2, f3, f4, f5⟩ := hf
 obtain ⟨g1, g2⟩ := dS he
 have hL : aV e.ar LL ss = LL := by unfold aV; rw [h0, if_pos h4]; rfl
 rw [hL] at hr
 have hR : eU (aU E) s ss = (false, 4) := by
  rw [nS f1 (pX g1 f2) f3 (by rw [g2, f4]; exact f5), g2, f4, if_pos h4]
 have hC : rI (aU E) s ss = aU E := aDh (by rw [hR]; decide)
 obtain ⟨pre, post, rfl⟩ := jT he
 have hem : e ∈ pre ++ e :: post := List.mem_append_right _ List.mem_cons_self
 have hkw : Kp e.own w w3 := (Ext.kp hx).trans hk
 have hz := hx.size
 have hs2 : ∀ k, S' k -> S k \/ w.heap.size ≤ k := fun k hk' => (hsn k hk').imp id fun q => Nat.le_trans hz q
 have hiv2 : ∀ k, iv'.ownBlock = some k -> e.iv.ownBlock = some k \/ w.heap.size ≤ k := fun k hk' => (hiv k hk').imp id fun q => Nat.le_trans hz q
 have hsame : aU (pre ++ { e with iv := iv', LL := LL } :: post) = aU (pre ++ e :: post) := by
  rw [<- f4]; simp [aU, Ent.cnt]
 refine RetF.mk (hkw.mono fun k _ ho => .inr (.inr ⟨e, hem, ho⟩)) ⟨by rw [hR]; rfl, S', pre ++ { e with iv := iv', LL := LL } :: post, hss, hs2, ?_, by rw [hC, hsame], uB hiv2 LL⟩
 exact h.turn hkw hss hs2 hr hiv2 (Kp.refl _) (nC h he hx hk) (gV h he hx hk) (by rw [hsame]) (by rw [hsame]; exact h.ok)
theorem sH {LL : List (List ByteArray)} (h : BaseAt S w bb r E) (he : bQ E s = some e) (hf : cD s = true /\ e.ar = ss.length /\ bT ss = true /\ e.LL = LL /\ ¬ (262144 ≤ bJ (aU E) /\ bB aD LL ss = false)) (hx : Ext w w2) (hk : Kp e.own w2 w3) (hss : ∀ k, S k -> S' k) (hsn : ∀ k, S' k -> S k \/ w2.heap.size ≤ k)
 (hr : RowsAt S' w3 e.b iv' e.ar (aV e.ar LL ss)) (hiv : ∀ k, iv'.ownBlock = some k -> e.iv.ownBlock = some k \/ w2.heap.size ≤ k) (h0 : aJ e.ar LL ss = if 65536 ≤ LL.length /\ bB aD LL ss = false then (false, 4) else (!bB aD LL ss, 0)) (hi : bB aD LL ss = true)
 (hk4 : Kp (fun k => k = r) w3 w4) (hm4 : MapIs w4 r (lF (gT E) s (.pointer (some ⟨e.b, 0, none⟩)))) : RetF (iI bb r E) w (BaseAdded S w bb r E s ss) (.returned (.tuple #[.bool false, .int .i64 0])) w4 := by
 obtain ⟨f1, f2, f3, f4, f5⟩ := hf
 obtain ⟨g1, g2⟩ := dS he
 have hn4 : ¬ (65536 ≤ LL.length /\ bB aD LL ss = false) := fun k => by rw [hi] at k; cases k.2
 have hadd : cL aD LL ss = LL := by unfold cL; rw [if_pos hi]
 have hL : aV e.ar LL ss = LL := by unfold aV; rw [h0, if_neg hn4]; exact hadd
 rw [hL] at hr
 have hR : eU (aU E) s ss = (false, 0) := by
  rw [nS f1 (pX g1 f2) f3 (by rw [g2, f4]; exact f5), g2, f4, if_neg hn4, hi]; rfl
 have hnd := h.ok.nodup
 rw [show lF (gT E) s (.pointer (some ⟨e.b, 0, none⟩)) = gT E from aCw he (by rw [vR]; exact hnd)] at hm4
 obtain ⟨pre, post, rfl⟩ := jT he
 have hem : e ∈ pre ++ e :: post := List.mem_append_right _ List.mem_cons_self
 have hkw : Kp e.own w w3 := (Ext.kp hx).trans hk
 have hz := hx.size
 have hs2 : ∀ k, S' k -> S k \/ w.heap.size ≤ k := fun k hk' => (hsn k hk').imp id fun q => Nat.le_trans hz q
 have hiv2 : ∀ k, iv'.ownBlock = some k -> e.iv.ownBlock = some k \/ w.heap.size ≤ k := fun k hk' => (hiv k hk').imp id fun q => Nat.le_trans hz q
 have hsame : aU (pre ++ { e with iv := iv', LL := LL } :: post) = aU (pre ++ e :: post) := by
  rw [<- f4]; simp [aU, Ent.cnt]
 have hC : rI (aU (pre ++ e :: post)) s ss = aU (pre ++ { e with iv := iv', LL := LL } :: post) := by
  unfold rI
  rw [if_pos (by rw [hR]), g2, f4, hadd, <- f2]
  exact aC0 he hnd iv' LL
 refine RetF.mk ((hkw.mono fun k _ ho => .inr (.inr ⟨e, hem, ho⟩)).trans (hk4.mono fun k _ ho => .inr (.inl ho))) ⟨by rw [hR]; rfl, S', pre ++ { e with iv := iv', LL := LL } :: post, hss, hs2, ?_, hC.symm, uB hiv2 LL⟩
 exact h.turn hkw hss hs2 hr hiv2 (hk4.mono fun k _ ho => .inr ho) hm4 ((gV h he hx hk).kp hk4 h.ne) (by rw [hsame]) (by rw [hsame]; exact h.ok)
theorem sJ {LL : List (List ByteArray)} {n : Nat} (h : BaseAt S w bb r E) (he : bQ E s = some e) (hf : cD s = true /\ e.ar = ss.length /\ bT ss = true /\ e.LL = LL /\ ¬ (262144 ≤ bJ (aU E) /\ bB aD LL ss = false)) (hx : Ext w w2) (hk : Kp e.own w2 w3) (hss : ∀ k, S k -> S' k) (hsn : ∀ k, S' k -> S k \/ w2.heap.size ≤ k)
 (hr : RowsAt S' w3 e.b iv' e.ar (aV e.ar LL ss)) (hiv : ∀ k, iv'.ownBlock = some k -> e.iv.ownBlock = some k \/ w2.heap.size ≤ k) (h0 : aJ e.ar LL ss = if 65536 ≤ LL.length /\ bB aD LL ss = false then (false, 4) else (!bB aD LL ss, 0)) (hi : bB aD LL ss = false) (hn4 : ¬ (65536 ≤ LL.length /\ bB aD LL ss = false))
 (hk4 : Kp (fun k => k = r) w3 w4) (hm4 : MapIs w4 r (lF (gT E) s (.pointer (some ⟨e.b, 0, none⟩)))) (en : bJ (aU E) = n) : RetF (iI bb r E) w (BaseAdded S w bb r E s ss) (.returned (.tuple #[.bool true, .int .i64 0])) (w4.setCell ⟨bb, 1, none⟩ (.int .i64 ((n : Int) + 1))) := by
 obtain ⟨f1, f2, f3, f4, f5⟩ := hf
 obtain ⟨g1, g2⟩ := dS he
 have hL : aV e.ar LL ss = cL aD LL ss := by unfold aV; rw [h0, if_neg hn4]; rfl
 rw [hL] at hr
 have hR : eU (aU E) s ss = (true, 0) := by
  rw [nS f1 (pX g1 f2) f3 (by rw [g2, f4]; exact f5), g2, f4, if_neg hn4, hi]; rfl
 have hnd := h.ok.nodup
 rw [show lF (gT E) s (.pointer (some ⟨e.b, 0, none⟩)) = gT E from aCw he (by rw [vR]; exact hnd)] at hm4
 obtain ⟨pre, post, rfl⟩ := jT he
 have hem : e ∈ pre ++ e :: post := List.mem_append_right _ List.mem_cons_self
 have hkw : Kp e.own w w3 := (Ext.kp hx).trans hk
 have hz := hx.size
 have hs2 : ∀ k, S' k -> S k \/ w.heap.size ≤ k := fun k hk' => (hsn k hk').imp id fun q => Nat.le_trans hz q
 have hiv2 : ∀ k, iv'.ownBlock = some k -> e.iv.ownBlock = some k \/ w.heap.size ≤ k := fun k hk' => (hiv k hk').imp id fun q => Nat.le_trans hz q
 have hset := aC0 he hnd iv' (cL aD LL ss)
 have hC : rI (aU (pre ++ e :: post)) s ss = aU (pre ++ { e with iv := iv', LL := cL aD LL ss } :: post) := by
  unfold rI
  rw [if_pos (by rw [hR]), g2, f4, <- f2]
  exact hset
 have htot : n + 1 = bJ (aU (pre ++ { e with iv := iv', LL := cL aD LL ss } :: post)) := by
  have h1 := wY hnd (s := s) (v := (e.ar, cL aD LL ss))
  rw [hset, g2, f4] at h1
  have h2 := kO (c := aD) LL ss
  rw [hi] at h2
  simp only [Bool.false_eq_true, if_false] at h2
  have h3 : (e.ar, cL aD LL ss).2.length = LL.length + 1 := h2
  omega
 have kf : Kp (fun k => k = bb \/ k = r) w3 (w4.setCell ⟨bb, 1, none⟩ (.int .i64 ((n : Int) + 1))) := (hk4.mono fun k _ ho => .inr ho).trans (Kp.setCell (F := fun k => k = bb \/ k = r) (Kp.refl w4) (fun _ => .inl rfl) _)
 have hb5 : Blk (w4.setCell ⟨bb, 1, none⟩ (.int .i64 ((n : Int) + 1))) bb [.map (some r), .int .i64 ((n + 1 : Nat) : Int)] 153 := by
  have h1 := ((gV h he hx hk).kp hk4 h.ne).set 1 (.int .i64 ((n : Int) + 1))
  exact h1
 have hm5 := hm4.kp (Kp.setCell (F := fun k => k = bb) (Kp.refl w4) (p := ⟨bb, 1, none⟩) (fun _ => rfl) (.int .i64 ((n : Int) + 1))) (fun e2 => h.ne e2.symm)
 refine RetF.mk ((hkw.mono fun k _ ho => .inr (.inr ⟨e, hem, ho⟩)).trans (kf.mono fun k _ ho => ho.elim .inl fun h => .inr (.inl h))) ⟨by rw [hR]; rfl, S', pre ++ { e with iv := iv', LL := cL aD LL ss } :: post, hss, hs2, ?_, hC.symm, uB hiv2 _⟩
 exact h.turn hkw hss hs2 hr hiv2 kf hm5 hb5 htot (by rw [<- hC]; exact aJo h.ok s ss)
theorem aC7 {n : Nat} {b : Nat} (h : BaseAt S w bb r E) (he : bQ E s = none) (hf : cD s = true /\ ss.length ≤ 64 /\ bT ss = true /\ ¬ 262144 ≤ bJ (aU E)) (hx : Ext w w3) (hss : ∀ k, S k -> S' k) (hsn : ∀ k, S' k -> S k \/ w.heap.size ≤ k)
 (hr : RowsAt S' w3 b iv' ss.length [ss]) (hb : w.heap.size ≤ b) (hiv : ∀ k, iv'.ownBlock = some k -> w.heap.size ≤ k)
 (hk4 : Kp (fun k => k = r) w3 w4) (hm4 : MapIs w4 r (lF (gT E) s (.pointer (some ⟨b, 0, none⟩)))) (en : bJ (aU E) = n) : RetF (iI bb r E) w (BaseAdded S w bb r E s ss) (.returned (.tuple #[.bool true, .int .i64 0])) (w4.setCell ⟨bb, 1, none⟩ (.int .i64 ((n : Int) + 1))) := by
 obtain ⟨f1, f2, f3, f4⟩ := hf
 obtain ⟨g1, g2⟩ := eT he
 have hR : eU (aU E) s ss = (true, 0) := by
  rw [nS f1 (aAk g1 f2) f3 (fun k => f4 k.1), g2, if_neg (by simp)]; rfl
 have hone : cL aD [] ss = [ss] := by simp [cL, bB, below]
 have hpush := aId he b iv' ss.length [ss]
 have hC : rI (aU E) s ss = aU (E ++ [{ name := s, b := b, iv := iv', ar := ss.length, LL := [ss] }]) := by
  unfold rI
  rw [if_pos (by rw [hR]), g2, hone]
  exact hpush
 have htot : n + 1 = bJ (aU (E ++ [{ name := s, b := b, iv := iv', ar := ss.length, LL := [ss] }])) := by
  rw [<- en]
  simp [bJ, aU, Ent.cnt]
 rw [yH he b iv' ss.length [ss]] at hm4
 have kf : Kp (fun k => k = bb \/ k = r) w3 (w4.setCell ⟨bb, 1, none⟩ (.int .i64 ((n : Int) + 1))) := (hk4.mono fun k _ ho => .inr ho).trans (Kp.setCell (F := fun k => k = bb \/ k = r) (Kp.refl w4) (fun _ => .inl rfl) _)
 have hb5 : Blk (w4.setCell ⟨bb, 1, none⟩ (.int .i64 ((n : Int) + 1))) bb [.map (some r), .int .i64 ((n + 1 : Nat) : Int)] 153 := ((h.blk.ext hx).kp hk4 h.ne).set 1 (.int .i64 ((n : Int) + 1))
 have hm5 := hm4.kp (Kp.setCell (F := fun k => k = bb) (Kp.refl w4) (p := ⟨bb, 1, none⟩) (fun _ => rfl) (.int .i64 ((n : Int) + 1))) (fun e2 => h.ne e2.symm)
 have ho : ∀ k, dJ b iv' k -> w.heap.size ≤ k := fun k ho => by
  rcases ho with rfl | ho
  ·exact hb
  ·exact hiv k ho
 refine RetF.mk ((Ext.kp hx).trans (kf.mono fun k _ ho => ho.elim .inl fun h => .inr (.inl h))) ⟨by rw [hR]; rfl, S', E ++ [{ name := s, b := b, iv := iv', ar := ss.length, LL := [ss] }], hss, hsn, ?_, hC.symm, ?_⟩
 ·exact h.push (e := { name := s, b := b, iv := iv', ar := ss.length, LL := [ss] }) hx hss hsn hr ho kf hb5 hm5 htot (by rw [<- hC]; exact aJo h.ok s ss)
 ·rintro k (h1 | h1 | ⟨f, hf, ho2⟩)
  ·exact .inl (.inl h1)
  ·exact .inl (.inr (.inl h1))
  ·rcases List.mem_append.1 hf with hf | hf
   ·exact .inl (.inr (.inr ⟨f, hf, ho2⟩))
   ·obtain rfl := List.mem_singleton.1 hf
    exact .inr (ho k ho2)
end
set_option maxHeartbeats 4000000 in
theorem aC8 {S : Nat -> Prop} {w : World} {bb r : Nat} {E : List Ent} (h : BaseAt S w bb r E) (s : ByteArray) {ao : Option Addr} {k cap : Nat} {ss : List ByteArray} (hx : RowIn w (ao, k, cap) ss) (ho : jG (ao, k, cap) (iI bb r E)) :
 Calls Tryz.prog 57 #[.pointer (some ⟨bb, 0, none⟩), .string s, .slice ao k cap] w (RetF (iI bb r E) w (BaseAdded S w bb r E s ss)) := by
 have hkn : k = ss.length := hx.1.1
 have hcs : CellsAt w ao (strs ss) := hx.1.2
 have hkl : k ≤ 8796093021952 := by rw [hkn]; exact hx.2.1
 have c0 : w.cell? ⟨bb, 0, none⟩ = some (.map (some r)) := by rw [h.blk.cell']; rfl
 have hlk := iT (P := Tryz.prog) Tryz.underlying151 Tryz.underlying9 (z := .pointer none) (by kernel_rfl) h.map s
 rw [mW] at hlk
 have hnm := xO s w
 rw [show decide (1 ≤ s.size /\ s.size ≤ 4096) = cD s from rfl] at hnm
 have HN := qH hnm; clear hnm
 have HT := qH (fun w1 (hw : Ext w w1) => qE ss ao k cap w1 hkn (hcs.ext hw) (by omega))
 obtain ⟨n, en⟩ : ∃ n, bJ (aU E) = n := ⟨_, rfl⟩
 have EN := qH en
 have hnl : n ≤ 262144 := by rw [<- en]; exact h.ok.few
 have c1 : w.cell? ⟨bb, 1, none⟩ = some (.int .i64 n) := by rw [h.blk.cell', en]; rfl
 have HC1 := qH (fun w1 (hw : Ext w w1) => (hw.cell c1 id : w1.cell? ⟨bb, 1, none⟩ = some (.int .i64 n)))
 have H := qH h
 have HX := qH (And.intro hx ho)
 have HKN := qH hkn
 clear h hx ho hcs hkn en c1
 cases hn : cD s with
 | false =>
  rw [hn] at HN
  have HNM := qH hn
  clear hn hlk c0
  go_enter Tryz.func57, Tryz.ntmps57
  go_wp2_with fail
  refine HN.out.mono ?_
  rintro e w' ⟨rfl, rfl⟩
  go_wp2
  go_ret2
  exact RetF.mk (Kp.refl _) (BaseAdded.same H.out (Kp.refl _) (aIs ss HNM.out) (by decide) rfl)
 | true =>
  rw [hn] at HN
  have HNM := qH hn
  clear hn
  cases he : bQ E s with
  | none =>
   rw [he] at hlk
   have hlk' : ∀ w', w' = w -> (Instr.lookup 151 (.map (some r)) (.string s) false).run Tryz.prog w' = .ok (.pointer none) w' := fun w' e => by rw [e]; exact hlk
   replace hlk := hlk' w rfl
   clear hlk'
   have HE := qH he
   clear he
   by_cases hl : 64 < k
   ·have HNB := qH (rQ (k : Int) w (.inr (by omega)))
    go_enter Tryz.func57, Tryz.ntmps57
    go_wp2_with fail
    refine HN.out.mono ?_
    rintro e w' ⟨rfl, rfl⟩
    go_wp2_with fail
    refine HNB.out.mono ?_
    rintro e w' ⟨rfl, rfl⟩
    go_wp2
    go_ret2
    exact RetF.mk (Kp.refl _) (BaseAdded.same H.out (Kp.refl _) (aIt HNM.out (eT HE.out).1 (by rw [<- HKN.out]; exact hl)) (by decide) rfl)
   have hk64 : k ≤ 64 := by omega
   have HNR := qH (gM S w k hk64 H.out.inS)
   have HL := qH (show ss.length ≤ 64 by rw [<- HKN.out]; exact hk64)
   clear hl
   cases ht : bT ss with
   | false =>
    rw [ht] at HT
    have HTX := qH ht
    clear ht
    go_enter Tryz.func57, Tryz.ntmps57
    go_wp2_with fail
    refine HN.out.mono ?_
    rintro e w' ⟨rfl, rfl⟩
    go_wp2_with fail
    refine HNR.out.mono ?_
    rintro e w1 ⟨v, rfl, hk1, rfl, hrows⟩
    have d2 : w1.cell? ⟨w.heap.size, 2, none⟩ = some (.int .i64 k) := by rw [hrows.blk.cell']; rfl
    have HK1 := qH hk1
    clear hk1 hrows
    go_wp2_with fail
    refine (HT.out w1 HK1.out).mono ?_
    rintro e w2 ⟨v, rfl, hk2, rfl⟩
    have HK2 := qH (HK1.out.trans hk2)
    clear hk2
    go_wp2
    go_ret2
    exact RetF.mk (Ext.kp HK2.out) (BaseAdded.same H.out HK2.out (yV HNM.out (aAk (eT HE.out).1 HL.out) HTX.out) (by decide) rfl)
   | true =>
    rw [ht] at HT
    have HTX := qH ht
    clear ht
    have HAdd := qH (fun w1 (hw : Ext w w1) (hr : RowsAt S w1 w.heap.size (.slice none 0 0) k []) => mN hr List.Pairwise.nil (ao := ao) (n := k) (cap := cap) (ss := ss) ⟨⟨HKN.out, HX.out.1.1.2.ext hw⟩, HX.out.1.2.1, fun a e hne => Nat.lt_of_lt_of_le (HX.out.1.2.2 a e hne) hw.size⟩
     (fun a e hne ho => by
      have := HX.out.1.2.2 a e hne
      rcases ho with ho | ho
      ·omega
      ·cases ho) (by simp))
    by_cases hm : 262144 ≤ n
    ·have q2 : decide ((262144 : Int) ≤ (n : Int)) = true := by rw [decide_eq_true_iff]; omega
     have HM := qH hm
     have HHas := qH (fun w1 (hw : Ext w w1) (hr : RowsAt S w1 w.heap.size (.slice none 0 0) k []) => mM hr List.Pairwise.nil (x := (ao, k, cap)) (ss := ss) ⟨⟨HKN.out, HX.out.1.1.2.ext hw⟩, HX.out.1.2.1, fun a e hne => Nat.lt_of_lt_of_le (HX.out.1.2.2 a e hne) hw.size⟩
      (fun a e hne ho => by
       have := HX.out.1.2.2 a e hne
       rcases ho with ho | ho
       ·omega
       ·cases ho))
     clear hm
     go_enter Tryz.func57, Tryz.ntmps57
     go_wp2_with fail
     refine HN.out.mono ?_
     rintro e w' ⟨rfl, rfl⟩
     go_wp2_with fail
     refine HNR.out.mono ?_
     rintro e w1 ⟨v, rfl, hk1, rfl, hrows⟩
     have d2 : w1.cell? ⟨w.heap.size, 2, none⟩ = some (.int .i64 k) := by rw [hrows.blk.cell']; rfl
     have HK1 := qH (And.intro hk1 hrows)
     clear hk1 hrows
     go_wp2_with fail
     refine (HT.out w1 HK1.out.1).mono ?_
     rintro e w2 ⟨v, rfl, hk2, rfl⟩
     have HK2 := qH (HK1.out.1.trans hk2)
     have HR2 := qH (HK1.out.2.ext hk2)
     have c1' := HC1.out w2 HK2.out
     clear hk2 d2
     go_wp2_with fail
     refine (HHas.out w2 HK2.out HR2.out).mono ?_
     rintro e w3 ⟨v, rfl, hk3, rfl⟩
     have HK3 := qH (HK2.out.trans hk3)
     clear hk3 c1'
     have hni : bB aD ([] : List (List ByteArray)) ss = false := rfl
     go_wp2
     go_ret2
     exact RetF.mk (Ext.kp HK3.out) (BaseAdded.same H.out HK3.out (yW HNM.out (aAk (eT HE.out).1 HL.out) HTX.out (by rw [EN.out]; exact HM.out) (by rw [(eT HE.out).2]; rfl)) (by decide) rfl)
    ·have q2 : decide ((262144 : Int) ≤ (n : Int)) = false := by rw [decide_eq_false_iff_not]; omega
     have HM := qH hm
     clear hm
     go_enter Tryz.func57, Tryz.ntmps57
     go_wp2_with fail
     refine HN.out.mono ?_
     rintro e w' ⟨rfl, rfl⟩
     go_wp2_with fail
     refine HNR.out.mono ?_
     rintro e w1 ⟨v, rfl, hk1, rfl, hrows⟩
     have d2 : w1.cell? ⟨w.heap.size, 2, none⟩ = some (.int .i64 k) := by rw [hrows.blk.cell']; rfl
     have HK1 := qH (And.intro hk1 hrows)
     clear hk1 hrows
     go_wp2_with fail
     refine (HT.out w1 HK1.out.1).mono ?_
     rintro e w2 ⟨v, rfl, hk2, rfl⟩
     have HK2 := qH (HK1.out.1.trans hk2)
     have HR2 := qH (HK1.out.2.ext hk2)
     have c1' := HC1.out w2 HK2.out
     clear hk2 d2
     go_wp2_with fail
     refine (HAdd.out w2 HK2.out HR2.out).mono ?_
     rintro e w3 ⟨v, rfl, hk3, hv, S', iv', hss, hsn, hrows3, hiv⟩
     have e0 : aJ k [] ss = (true, 0) := by
      unfold aJ; rw [if_neg (by rw [HKN.out]; simp), if_neg (by rw [HTX.out]; simp), if_neg (by simp)]; simp [bB]
     have e1 : aV k [] ss = [ss] := by
      unfold aV; rw [e0]; simp [cL, bB, below]
     rw [e0] at hv
     rw [e1] at hrows3
     subst hv
     have hz := HK2.out.size
     have kk3 : Kp (fun g => g = w.heap.size) w2 w3 := hk3.mono fun g _ h => by
      rcases h with h | h
      ·exact h
      ·cases h
     have hex3 : Ext w w3 := HK2.out.trans' kk3 (fun i hi e => by omega)
     rw [HKN.out] at hrows3
     have HR3 := qH (And.intro hex3 (And.intro hss (And.intro (fun q (hq : S' q) => (hsn q hq).imp id fun u => Nat.le_trans hz u) (And.intro hrows3 (fun q (hq : iv'.ownBlock = some q) => show w.heap.size ≤ q by
      rcases hiv q hq with u | u
      ·cases u
      ·exact Nat.le_trans hz u)))))
     have HB3 := qH (And.intro (H.out.blk.ext hex3) (H.out.map.ext hex3))
     clear hk3 kk3 hex3 hrows3 hss hsn hiv e0 e1 c1' hlk c0 hz
     go_wp2_with fail
     refine (fF HB3.out.1 HB3.out.2 s (some ⟨w.heap.size, 0, none⟩)).mono ?_
     rintro e w4 ⟨v, rfl, hk4, hm4⟩
     have HM4 := qH (And.intro hk4 hm4)
     have hb4 : Blk w4 bb [.map (some r), .int .i64 (bJ (aU E) : Nat)] 153 := HB3.out.1.kp hk4 H.out.ne
     have c4 : w4.cell? ⟨bb, 1, none⟩ = some (.int .i64 n) := by rw [hb4.cell', EN.out]; rfl
     have f4 := hb4.free 1
     clear hk4 hm4 hb4
     go_wp2
     go_ret2
     exact aC7 H.out HE.out ⟨HNM.out, HL.out, HTX.out, by rw [EN.out]; exact HM.out⟩ HR3.out.1 HR3.out.2.1 HR3.out.2.2.1 HR3.out.2.2.2.1 (Nat.le_refl _) HR3.out.2.2.2.2 HM4.out.1 HM4.out.2 EN.out
  | some e0 =>
   rw [he] at hlk
   have HE := qH he
   obtain ⟨hem, hes⟩ := dA he
   obtain ⟨b0, eb0⟩ : ∃ b0, e0.b = b0 := ⟨_, rfl⟩
   obtain ⟨ar, ear⟩ : ∃ ar, e0.ar = ar := ⟨_, rfl⟩
   obtain ⟨LL, eLL⟩ : ∃ LL, e0.LL = LL := ⟨_, rfl⟩
   have hlk' : (Instr.lookup 151 (.map (some r)) (.string s) false).run Tryz.prog w = .ok (.pointer (some ⟨b0, 0, none⟩)) w := by rw [<- eb0]; exact hlk
   have hra := H.out.rows e0 hem
   have d2 : w.cell? ⟨b0, 2, none⟩ = some (.int .i64 ar) := by rw [<- eb0, hra.blk.cell', ear]; rfl
   have HEM := qH (And.intro hem (And.intro eb0 (And.intro ear eLL)))
   have hoff : jG (ao, k, cap) (dJ e0.b e0.iv) := fun a e hne hown => HX.out.2 a e hne (.inr (.inr ⟨e0, hem, hown⟩))
   have HOff := qH hoff
   have HHas := qH (fun w1 (hw : Ext w w1) => mM ((H.out.rows e0 hem).ext hw) (H.out.strict hem) (x := (ao, k, cap)) (ss := ss) ⟨⟨HKN.out, HX.out.1.1.2.ext hw⟩, HX.out.1.2.1, fun a e hne => Nat.lt_of_lt_of_le (HX.out.1.2.2 a e hne) hw.size⟩ hoff)
   have HA := qH (fun w1 (hw : Ext w w1) => mN ((H.out.rows e0 hem).ext hw) (H.out.strict hem) (ao := ao) (n := k) (cap := cap) (ss := ss) ⟨⟨HKN.out, HX.out.1.1.2.ext hw⟩, HX.out.1.2.1, fun a e hne => Nat.lt_of_lt_of_le (HX.out.1.2.2 a e hne) hw.size⟩ hoff (by have := H.out.few hem; omega))
   clear he hem hes hra hoff hlk
   rw [HEM.out.2.1, HEM.out.2.2.2] at HHas
   rw [HEM.out.2.1, HEM.out.2.2.1, HEM.out.2.2.2] at HA
   clear eb0 ear eLL
   by_cases ha : ar = k
   ·have HAr := qH ha
    have q1 : ((ar : Int) != (k : Int)) = false := by simp [ha]
    clear ha
    have hnil : Ext w w := Kp.refl w
    cases ht : bT ss with
    | false =>
     rw [ht] at HT
     have HTX := qH ht
     clear ht
     go_enter Tryz.func57, Tryz.ntmps57
     go_wp2_with fail
     refine HN.out.mono ?_
     rintro e w' ⟨rfl, rfl⟩
     go_wp2_with fail
     refine (HT.out w hnil).mono ?_
     rintro e w2 ⟨v, rfl, hk2, rfl⟩
     have HK2 := qH hk2
     clear hk2
     go_wp2
     go_ret2
     exact RetF.mk (Ext.kp HK2.out) (BaseAdded.same H.out HK2.out (yV HNM.out (pX (dS HE.out).1 (by rw [HEM.out.2.2.1, HAr.out]; exact HKN.out)) HTX.out) (by decide) rfl)
    | true =>
     rw [ht] at HT
     have HTX := qH ht
     clear ht
     have hR0 : aJ ar LL ss = if 65536 ≤ LL.length /\ bB aD LL ss = false then (false, 4) else (!bB aD LL ss, 0) := by
      unfold aJ
      rw [if_neg (by rw [HAr.out, HKN.out]; simp), if_neg (by rw [HTX.out]; simp)]
     have HR0 := qH hR0
     clear hR0
     by_cases hm : 262144 ≤ n
     ·have q2 : decide ((262144 : Int) ≤ (n : Int)) = true := by rw [decide_eq_true_iff]; omega
      have HM := qH hm
      clear hm
      cases hi : bB aD LL ss with
      | false =>
       have HI := qH hi
       rw [hi] at HHas
       clear hi
       go_enter Tryz.func57, Tryz.ntmps57
       go_wp2_with fail
       refine HN.out.mono ?_
       rintro e w' ⟨rfl, rfl⟩
       go_wp2_with fail
       refine (HT.out w hnil).mono ?_
       rintro e w2 ⟨v, rfl, hk2, rfl⟩
       have HK2 := qH hk2
       have c1' := HC1.out w2 hk2
       clear hk2
       go_wp2_with fail
       refine (HHas.out w2 HK2.out).mono ?_
       rintro e w3 ⟨v, rfl, hk3, rfl⟩
       have HK3 := qH (HK2.out.trans hk3)
       clear hk3 c1'
       go_wp2
       go_ret2
       exact RetF.mk (Ext.kp HK3.out) (BaseAdded.same H.out HK3.out (yW HNM.out (pX (dS HE.out).1 (by rw [HEM.out.2.2.1, HAr.out]; exact HKN.out)) HTX.out (by rw [EN.out]; exact HM.out) (by rw [(dS HE.out).2, HEM.out.2.2.2]; exact HI.out)) (by decide) rfl)
      | true =>
       have HI0 := qH hi
       rw [hi] at HHas
       clear hi
       have HF := qH (show (cD s = true /\ e0.ar = ss.length /\ bT ss = true /\ e0.LL = LL /\ ¬ (262144 ≤ bJ (aU E) /\ bB aD LL ss = false)) /\ True from ⟨⟨HNM.out, by rw [HEM.out.2.2.1, HAr.out]; exact HKN.out, HTX.out, HEM.out.2.2.2, fun q => by rw [HI0.out] at q; cases q.2⟩, trivial⟩)
       go_enter Tryz.func57, Tryz.ntmps57
       go_wp2_with fail
       refine HN.out.mono ?_
       rintro e w' ⟨rfl, rfl⟩
       go_wp2_with fail
       refine (HT.out w hnil).mono ?_
       rintro e w2 ⟨v, rfl, hk2, rfl⟩
       have HK2 := qH hk2
       have c1' := HC1.out w2 hk2
       clear hk2
       go_wp2_with fail
       refine (HHas.out w2 HK2.out).mono ?_
       rintro e w2b ⟨v, rfl, hk3, rfl⟩
       have HK2b := qH (HK2.out.trans hk3)
       clear hk3 c1'
       go_wp2_with fail
       refine (HA.out w2b HK2b.out).mono ?_
       rintro e w3 ⟨v, rfl, hk3, hv, S', iv', hss, hsn, hrows3, hiv⟩
       rw [<- HEM.out.2.1] at hk3 hrows3
       rw [<- HEM.out.2.2.1] at hrows3
       have HX3 := qH (And.intro hk3 (And.intro hss (And.intro hsn (And.intro hrows3 hiv))))
       rw [HR0.out] at hv
       subst hv
       clear hk3 hss hsn hrows3 hiv
       by_cases h4 : 65536 ≤ LL.length /\ bB aD LL ss = false
       ·have e4 : (if 65536 ≤ LL.length /\ bB aD LL ss = false then (false, 4) else (!bB aD LL ss, 0)) = (false, 4) := if_pos h4
        have H4 := qH (And.intro h4 e4)
        rw [e4]
        clear h4 e4
        go_wp2
        go_ret2
        exact pW H.out HE.out HF.out.1 HK2b.out HX3.out.1 HX3.out.2.1 HX3.out.2.2.1 HX3.out.2.2.2.1 HX3.out.2.2.2.2 (by rw [HEM.out.2.2.1]; exact HR0.out) H4.out.1
       ·have e4 : (if 65536 ≤ LL.length /\ bB aD LL ss = false then (false, 4) else (!bB aD LL ss, 0)) = (!bB aD LL ss, 0) := if_neg h4
        have H4 := qH (And.intro h4 e4)
        rw [e4]
        clear h4 e4
        have hm3 := nC H.out HE.out HK2b.out HX3.out.1
        have hb3 := gV H.out HE.out HK2b.out HX3.out.1
        have HB3 := qH (And.intro hb3 hm3)
        have c31 : w3.cell? ⟨bb, 1, none⟩ = some (.int .i64 n) := by rw [HB3.out.1.cell', EN.out]; rfl
        clear hm3 hb3 c31
        cases hi : bB aD LL ss with
        | true =>
         have HI := qH hi
         clear hi
         go_wp2_with fail
         refine (fF HB3.out.1 HB3.out.2 s (some ⟨b0, 0, none⟩)).mono ?_
         rintro e w4 ⟨v, rfl, hk4, hm4⟩
         rw [<- HEM.out.2.1] at hm4
         have HM4 := qH (And.intro hk4 hm4)
         clear hk4 hm4
         go_wp2
         go_ret2
         exact sH H.out HE.out HF.out.1 HK2b.out HX3.out.1 HX3.out.2.1 HX3.out.2.2.1 HX3.out.2.2.2.1 HX3.out.2.2.2.2 (by rw [HEM.out.2.2.1]; exact HR0.out) HI.out HM4.out.1 HM4.out.2
        | false =>
         have HI := qH hi
         clear hi
         go_wp2_with fail
         refine (fF HB3.out.1 HB3.out.2 s (some ⟨b0, 0, none⟩)).mono ?_
         rintro e w4 ⟨v, rfl, hk4, hm4⟩
         rw [<- HEM.out.2.1] at hm4
         have HM4 := qH (And.intro hk4 hm4)
         have hb4 : Blk w4 bb [.map (some r), .int .i64 (bJ (aU E) : Nat)] 153 := HB3.out.1.kp hk4 H.out.ne
         have c4 : w4.cell? ⟨bb, 1, none⟩ = some (.int .i64 n) := by rw [hb4.cell', EN.out]; rfl
         have f4 := hb4.free 1
         clear hk4 hm4 hb4
         go_wp2
         go_ret2
         exact sJ H.out HE.out HF.out.1 HK2b.out HX3.out.1 HX3.out.2.1 HX3.out.2.2.1 HX3.out.2.2.2.1 HX3.out.2.2.2.2 (by rw [HEM.out.2.2.1]; exact HR0.out) HI.out H4.out.1 HM4.out.1 HM4.out.2 EN.out
     ·have q2 : decide ((262144 : Int) ≤ (n : Int)) = false := by rw [decide_eq_false_iff_not]; omega
      have HM := qH hm
      clear hm
      have HF := qH (show (cD s = true /\ e0.ar = ss.length /\ bT ss = true /\ e0.LL = LL /\ ¬ (262144 ≤ bJ (aU E) /\ bB aD LL ss = false)) /\ True from ⟨⟨HNM.out, by rw [HEM.out.2.2.1, HAr.out]; exact HKN.out, HTX.out, HEM.out.2.2.2, fun q => HM.out (by rw [<- EN.out]; exact q.1)⟩, trivial⟩)
      go_enter Tryz.func57, Tryz.ntmps57
      go_wp2_with fail
      refine HN.out.mono ?_
      rintro e w' ⟨rfl, rfl⟩
      go_wp2_with fail
      refine (HT.out w hnil).mono ?_
      rintro e w2 ⟨v, rfl, hk2, rfl⟩
      have HK2 := qH hk2
      have c1' := HC1.out w2 hk2
      clear hk2
      go_wp2_with fail
      refine (HA.out w2 HK2.out).mono ?_
      rintro e w3 ⟨v, rfl, hk3, hv, S', iv', hss, hsn, hrows3, hiv⟩
      rw [<- HEM.out.2.1] at hk3 hrows3
      rw [<- HEM.out.2.2.1] at hrows3
      have HX3 := qH (And.intro hk3 (And.intro hss (And.intro hsn (And.intro hrows3 hiv))))
      rw [HR0.out] at hv
      subst hv
      clear hk3 hss hsn hrows3 hiv
      by_cases h4 : 65536 ≤ LL.length /\ bB aD LL ss = false
      ·have e4 : (if 65536 ≤ LL.length /\ bB aD LL ss = false then (false, 4) else (!bB aD LL ss, 0)) = (false, 4) := if_pos h4
       have H4 := qH (And.intro h4 e4)
       rw [e4]
       clear h4 e4
       go_wp2
       go_ret2
       exact pW H.out HE.out HF.out.1 HK2.out HX3.out.1 HX3.out.2.1 HX3.out.2.2.1 HX3.out.2.2.2.1 HX3.out.2.2.2.2 (by rw [HEM.out.2.2.1]; exact HR0.out) H4.out.1
      ·have e4 : (if 65536 ≤ LL.length /\ bB aD LL ss = false then (false, 4) else (!bB aD LL ss, 0)) = (!bB aD LL ss, 0) := if_neg h4
       have H4 := qH (And.intro h4 e4)
       rw [e4]
       clear h4 e4
       have hm3 := nC H.out HE.out HK2.out HX3.out.1
       have hb3 := gV H.out HE.out HK2.out HX3.out.1
       have HB3 := qH (And.intro hb3 hm3)
       have c31 : w3.cell? ⟨bb, 1, none⟩ = some (.int .i64 n) := by rw [HB3.out.1.cell', EN.out]; rfl
       clear hm3 hb3 c31
       cases hi : bB aD LL ss with
       | true =>
        have HI := qH hi
        clear hi
        go_wp2_with fail
        refine (fF HB3.out.1 HB3.out.2 s (some ⟨b0, 0, none⟩)).mono ?_
        rintro e w4 ⟨v, rfl, hk4, hm4⟩
        rw [<- HEM.out.2.1] at hm4
        have HM4 := qH (And.intro hk4 hm4)
        clear hk4 hm4
        go_wp2
        go_ret2
        exact sH H.out HE.out HF.out.1 HK2.out HX3.out.1 HX3.out.2.1 HX3.out.2.2.1 HX3.out.2.2.2.1 HX3.out.2.2.2.2 (by rw [HEM.out.2.2.1]; exact HR0.out) HI.out HM4.out.1 HM4.out.2
       | false =>
        have HI := qH hi
        clear hi
        go_wp2_with fail
        refine (fF HB3.out.1 HB3.out.2 s (some ⟨b0, 0, none⟩)).mono ?_
        rintro e w4 ⟨v, rfl, hk4, hm4⟩
        rw [<- HEM.out.2.1] at hm4
        have HM4 := qH (And.intro hk4 hm4)
        have hb4 : Blk w4 bb [.map (some r), .int .i64 (bJ (aU E) : Nat)] 153 := HB3.out.1.kp hk4 H.out.ne
        have c4 : w4.cell? ⟨bb, 1, none⟩ = some (.int .i64 n) := by rw [hb4.cell', EN.out]; rfl
        have f4 := hb4.free 1
        clear hk4 hm4 hb4
        go_wp2
        go_ret2
        exact sJ H.out HE.out HF.out.1 HK2.out HX3.out.1 HX3.out.2.1 HX3.out.2.2.1 HX3.out.2.2.2.1 HX3.out.2.2.2.2 (by rw [HEM.out.2.2.1]; exact HR0.out) HI.out H4.out.1 HM4.out.1 HM4.out.2 EN.out
   ·have HAr := qH ha
    have q1 : ((ar : Int) != (k : Int)) = true := by rw [bne_iff_ne]; omega
    clear ha
    go_enter Tryz.func57, Tryz.ntmps57
    go_wp2_with fail
    refine HN.out.mono ?_
    rintro e w' ⟨rfl, rfl⟩
    go_wp2
    go_ret2
    exact RetF.mk (Kp.refl _) (BaseAdded.same H.out (Kp.refl _) (aFw HNM.out (dS HE.out).1 (by show e0.ar ≠ ss.length; rw [HEM.out.2.2.1, <- HKN.out]; exact HAr.out)) (by decide) rfl)
section
variable {S S' : Nat -> Prop} {w w1 w2 w3 w4 : World} {bb r : Nat} {E : List Ent} {s : ByteArray} {e : Ent}
def BaseDecled (S : Nat -> Prop) (w : World) (bb r : Nat) (E : List Ent) (s : ByteArray) (a : Int) (w' : World) (v : Value) : Prop :=
 v = .int .i64 ((eD (aU E) s a : Nat) : Int) /\ ∃ E', BaseAt S w' bb r E' /\ aU E' = gU (aU E) s a /\ ∀ k, iI bb r E' k -> iI bb r E k \/ w.heap.size ≤ k
theorem BaseDecled.same {a : Int} (h : BaseAt S w bb r E) (hk : Ext w w1) {n : Nat} (hR : eD (aU E) s a = n) (hn : gU (aU E) s a = aU E) {v : Value} (hv : v = .int .i64 (n : Nat)) : BaseDecled S w bb r E s a w1 v :=
 ⟨by rw [hv, hR], E, h.ext hk, hn.symm, fun _ h => .inl h⟩
theorem vU {C : List bH} (a : Int) (h : cD s = false) : eD C s a = 32 := if_pos h
theorem aIa {C : List bH} {a : Int} (h : cD s = true) (ha : a < 0 \/ 64 < a) : eD C s a = 2 := by
 unfold eD
 rw [if_neg (by rw [h]; simp), if_pos ha]
theorem aFf {C : List bH} {a : Int} (h : cD s = true) (ha : ¬ (a < 0 \/ 64 < a)) (hg : dH C s = none) : eD C s a = 0 := by
 unfold eD
 rw [if_neg (by rw [h]; simp), if_neg ha, hg]
theorem aFe {C : List bH} {a : Int} {v : Nat × aC} (h : cD s = true) (ha : ¬ (a < 0 \/ 64 < a)) (hg : dH C s = some v) : eD C s a = if (v.1 : Int) = a then 0 else 30 := by
 unfold eD
 rw [if_neg (by rw [h]; simp), if_neg ha, hg]
theorem yM {C : List bH} {a : Int} (h : eD C s a ≠ 0) : gU C s a = C := if_neg fun k => h k.1
theorem aFg {C : List bH} {a : Int} {v : Nat × aC} (hg : dH C s = some v) : gU C s a = C := if_neg fun k => by rw [hg] at k; cases k.2
theorem aAi {k b : Nat} (h : BaseAt S w bb r E) (he : bQ E s = none) (hn : cD s = true) (hk : k ≤ 64) (hx : Ext w w3) (hr : RowsAt S w3 b (.slice none 0 0) k []) (hb : w.heap.size ≤ b)
 (hk4 : Kp (fun k => k = r) w3 w4) (hm4 : MapIs w4 r (lF (gT E) s (.pointer (some ⟨b, 0, none⟩)))) : RetF (iI bb r E) w (BaseDecled S w bb r E s (k : Int)) (.returned (.int .i64 0)) w4 := by
 obtain ⟨g1, g2⟩ := eT he
 have hR : eD (aU E) s (k : Int) = 0 := aFf hn (by omega) g1
 have hC : gU (aU E) s (k : Int) = aU (E ++ [{ name := s, b := b, iv := .slice none 0 0, ar := k, LL := [] }]) := by
  unfold gU
  rw [if_pos ⟨hR, g1⟩]
  simp [aU, Ent.cnt]
 rw [yH he b (.slice none 0 0) k []] at hm4
 have ho : ∀ q, dJ b (.slice none 0 0) q -> w.heap.size ≤ q := fun q ho => by
  rcases ho with rfl | ho
  ·exact hb
  ·cases ho
 have htot : bJ (aU E) = bJ (aU (E ++ [{ name := s, b := b, iv := .slice none 0 0, ar := k, LL := [] }])) := by simp [bJ, aU, Ent.cnt]
 refine RetF.mk ((Ext.kp hx).trans (hk4.mono fun k _ ho => .inr (.inl ho))) ⟨by rw [hR]; rfl, E ++ [{ name := s, b := b, iv := .slice none 0 0, ar := k, LL := [] }], ?_, hC.symm, ?_⟩
 ·exact h.push (e := { name := s, b := b, iv := .slice none 0 0, ar := k, LL := [] }) hx (fun _ x => x) (fun _ x => .inl x) hr ho (hk4.mono fun k _ ho => .inr ho) ((h.blk.ext hx).kp hk4 h.ne) hm4 htot (by rw [<- hC]; exact aLf h.ok s _)
 ·rintro q (h1 | h1 | ⟨f, hf, ho2⟩)
  ·exact .inl (.inl h1)
  ·exact .inl (.inr (.inl h1))
  ·rcases List.mem_append.1 hf with hf | hf
   ·exact .inl (.inr (.inr ⟨f, hf, ho2⟩))
   ·obtain rfl := List.mem_singleton.1 hf
    exact .inr (ho q ho2)
set_option maxHeartbeats 4000000 in
theorem aAj (h : BaseAt S w bb r E) (s : ByteArray) (a : Int) :
 Calls Tryz.prog 56 #[.pointer (some ⟨bb, 0, none⟩), .string s, .int .i64 a] w (RetF (iI bb r E) w (BaseDecled S w bb r E s a)) := by
 have c0 : w.cell? ⟨bb, 0, none⟩ = some (.map (some r)) := by rw [h.blk.cell']; rfl
 have hnm := xO s w
 rw [show decide (1 ≤ s.size /\ s.size ≤ 4096) = cD s from rfl] at hnm
 have HN := qH hnm; clear hnm
 have H := qH h
 have HLk := qH (fun w1 (hw : Ext w w1) => iT (P := Tryz.prog) Tryz.underlying151 Tryz.underlying9 (z := .pointer none) (by kernel_rfl) (h.map.ext hw) s)
 rw [mW] at HLk
 clear h
 cases hn : cD s with
 | false =>
  rw [hn] at HN
  have HNM := qH hn
  clear hn c0
  go_enter Tryz.func56, Tryz.ntmps56
  go_wp2_with fail
  refine HN.out.mono ?_
  rintro e w' ⟨rfl, rfl⟩
  go_wp2
  go_ret
  exact RetF.mk (Kp.refl _) (BaseDecled.same H.out (Kp.refl _) (vU a HNM.out) (yM (by rw [vU a HNM.out]; decide)) rfl)
 | true =>
  rw [hn] at HN
  have HNM := qH hn
  clear hn
  by_cases ha : a < 0 \/ 64 < a
  ·have HNB := qH (rQ a w ha)
   have HAB := qH ha
   obtain ⟨p, hp⟩ : ∃ p : Option Addr, ((bQ E s).map Ent.ptr).getD (.pointer none) = .pointer p := by
    cases bQ E s with
    | none => exact ⟨none, rfl⟩
    | some e => exact ⟨some ⟨e.b, 0, none⟩, rfl⟩
   have hlk := HLk.out w (Kp.refl w)
   rw [hp] at hlk
   clear ha hp
   go_enter Tryz.func56, Tryz.ntmps56
   go_wp2_with fail
   refine HN.out.mono ?_
   rintro e w' ⟨rfl, rfl⟩
   go_wp2_with fail
   refine HNB.out.mono ?_
   rintro e w' ⟨rfl, rfl⟩
   go_wp2
   go_ret
   have e2 := aIa (s := s) (C := aU E) HNM.out HAB.out
   exact RetF.mk (Kp.refl _) (BaseDecled.same H.out (Kp.refl _) e2 (yM (by rw [e2]; decide)) rfl)
  ·obtain ⟨k, rfl⟩ := Int.eq_ofNat_of_zero_le (show 0 ≤ a by omega)
   have hk64 : k ≤ 64 := by omega
   have HNR := qH (gM S w k hk64 H.out.inS)
   have HAN := qH ha
   clear ha
   cases he : bQ E s with
   | none =>
    rw [he] at HLk
    have HE := qH he
    clear he
    go_enter Tryz.func56, Tryz.ntmps56
    go_wp2_with fail
    refine HN.out.mono ?_
    rintro e w' ⟨rfl, rfl⟩
    go_wp2_with fail
    refine HNR.out.mono ?_
    rintro e w1 ⟨v, rfl, hk1, rfl, hrows⟩
    have hlk : (Instr.lookup 151 (.map (some r)) (.string s) false).run Tryz.prog w1 = .ok (.pointer none) w1 := HLk.out w1 hk1
    have c1 := hk1.cell c0 id
    have HK1 := qH (And.intro hk1 hrows)
    clear hk1 hrows
    go_wp2_with fail
    refine (fF (H.out.blk.ext HK1.out.1) (H.out.map.ext HK1.out.1) s (some ⟨w.heap.size, 0, none⟩)).mono ?_
    rintro e w4 ⟨v, rfl, hk4, hm4⟩
    have HM4 := qH (And.intro hk4 hm4)
    clear hk4 hm4
    go_wp2
    go_ret
    exact aAi H.out HE.out HNM.out hk64 HK1.out.1 HK1.out.2 (Nat.le_refl _) HM4.out.1 HM4.out.2
   | some e0 =>
    rw [he] at HLk
    have HE := qH he
    obtain ⟨hem, hes⟩ := dA he
    obtain ⟨b0, eb0⟩ : ∃ b0, e0.b = b0 := ⟨_, rfl⟩
    obtain ⟨ar, ear⟩ : ∃ ar, e0.ar = ar := ⟨_, rfl⟩
    have d2 : w.cell? ⟨b0, 2, none⟩ = some (.int .i64 ar) := by rw [<- eb0, (H.out.rows e0 hem).blk.cell', ear]; rfl
    have HEM := qH (And.intro eb0 ear)
    have hg : dH (aU E) s = some (ar, e0.LL) := by rw [<- ear]; exact (dS he).1
    have hR := aFe (C := aU E) HNM.out HAN.out hg
    have HR := qH (And.intro hR (aFg (C := aU E) (a := (k : Int)) hg))
    clear he hem hes eb0 ear hg hR
    by_cases hq : ar = k
    ·have q1 : ((ar : Int) != (k : Int)) = false := by simp [hq]
     have HQ := qH hq
     clear hq
     go_enter Tryz.func56, Tryz.ntmps56
     go_wp2_with fail
     refine HN.out.mono ?_
     rintro e w' ⟨rfl, rfl⟩
     go_wp2_with fail
     refine HNR.out.mono ?_
     rintro e w1 ⟨v, rfl, hk1, rfl, hrows⟩
     have hlk : (Instr.lookup 151 (.map (some r)) (.string s) false).run Tryz.prog w1 = .ok (.pointer (some ⟨b0, 0, none⟩)) w1 := by rw [<- HEM.out.1]; exact HLk.out w1 hk1
     have c1 := hk1.cell c0 id
     have d21 := hk1.cell d2 id
     have HK1 := qH hk1
     clear hk1 hrows
     go_wp2
     go_ret
     exact RetF.mk (Ext.kp HK1.out) (BaseDecled.same H.out HK1.out (by rw [HR.out.1, if_pos (by rw [HQ.out])]) HR.out.2 rfl)
    ·have q1 : ((ar : Int) != (k : Int)) = true := by rw [bne_iff_ne]; omega
     have HQ := qH hq
     clear hq
     go_enter Tryz.func56, Tryz.ntmps56
     go_wp2_with fail
     refine HN.out.mono ?_
     rintro e w' ⟨rfl, rfl⟩
     go_wp2_with fail
     refine HNR.out.mono ?_
     rintro e w1 ⟨v, rfl, hk1, rfl, hrows⟩
     have hlk : (Instr.lookup 151 (.map (some r)) (.string s) false).run Tryz.prog w1 = .ok (.pointer (some ⟨b0, 0, none⟩)) w1 := by rw [<- HEM.out.1]; exact HLk.out w1 hk1
     have c1 := hk1.cell c0 id
     have d21 := hk1.cell d2 id
     have HK1 := qH hk1
     clear hk1 hrows
     go_wp2
     go_ret
     exact RetF.mk (Ext.kp HK1.out) (BaseDecled.same H.out HK1.out (by rw [HR.out.1, if_neg (fun q => HQ.out (by omega))]) HR.out.2 rfl)
end
def RelsIn (S : Nat -> Prop) (w : World) (ao : Option Addr) (L : List lS) : Prop := ∀ (i : Nat) (q : lS), L[i]? = some q -> ∃ b off ra rcap, ao = some ⟨b, off, none⟩ /\ S b /\ w.cell? ⟨b, off + i * 3, none⟩ = some (.string q.1) /\ w.cell? ⟨b, off + i * 3 + 1, none⟩ = some (.int .i64 q.2.1) /\ w.cell? ⟨b, off + i * 3 + 2, none⟩ = some (.slice ra q.2.2.1.length rcap) /\ q.2.2.1.length ≤ rcap /\ rcap ≤ maxLen /\ RowsIn S w ra q.2.2.1
section
variable {S S' : Nat -> Prop} {w w' : World} {ao : Option Addr} {L : List lS}
theorem RelsIn.kp {F : Nat -> Prop} (h : RelsIn S w ao L) (hk : Kp F w w') (hF : ∀ k, F k -> ¬ S k) : RelsIn S w' ao L := fun i q hq => by
 obtain ⟨b, off, ra, rcap, e, hb, c0, c1, c2, h1, h2, h3⟩ := h i q hq
 exact ⟨b, off, ra, rcap, e, hb, hk.cell c0 (fun f => hF _ f hb), hk.cell c1 (fun f => hF _ f hb), hk.cell c2 (fun f => hF _ f hb), h1, h2, h3.kp hk hF⟩
theorem RelsIn.ext (h : RelsIn S w ao L) (hk : Ext w w') : RelsIn S w' ao L := h.kp hk fun _ x => x.elim
end
theorem aKh {C : List bH} {q : lS} {L : List lS} (h : eD C q.1 q.2.1 ≠ 0) : gS C (q :: L) = (C, eD C q.1 q.2.1) := if_neg h
theorem aKg {C : List bH} {q : lS} {L : List lS} (h : eD C q.1 q.2.1 = 0) (h2 : (fP (gU C q.1 q.2.1) q.1 q.2.2.1).2 ≠ 0) : gS C (q :: L) = fP (gU C q.1 q.2.1) q.1 q.2.2.1 := by
 show (if eD C q.1 q.2.1 = 0 then _ else _) = _
 rw [if_pos h, if_neg h2]
theorem aLn {C : List bH} {q : lS} {L : List lS} (h : eD C q.1 q.2.1 = 0) (h2 : (fP (gU C q.1 q.2.1) q.1 q.2.2.1).2 = 0) : gS C (q :: L) = gS (fP (gU C q.1 q.2.1) q.1 q.2.2.1).1 L := by
 show (if eD C q.1 q.2.1 = 0 then _ else _) = _
 rw [if_pos h, if_pos h2]
theorem aIu {C : List bH} {s : ByteArray} {x : List ByteArray} {rs : aC} (h : (eU C s x).2 = 0) : fP C s (x :: rs) = fP (rI C s x) s rs := if_pos h
theorem aFx {C : List bH} {s : ByteArray} {x : List ByteArray} {rs : aC} (h : (eU C s x).2 ≠ 0) : fP C s (x :: rs) = (C, (eU C s x).2) := if_neg h
def FromV (w : World) (L : List lS) (w' : World) (v : Value) : Prop :=
 ((gS [] L).2 = 0 -> ∃ bb r S E, v = .tuple #[.pointer (some ⟨bb, 0, none⟩), .int .i64 0] /\ BaseAt S w' bb r E /\ aU E = (gS [] L).1 /\ (∀ k, S k -> w.heap.size ≤ k) /\ ∀ k, iI bb r E k -> w.heap.size ≤ k) /\
 ((gS [] L).2 ≠ 0 -> v = .tuple #[.pointer none, .int .i64 (((gS [] L).2 : Nat) : Int)])
structure MyBase (w0 : World) (S : Nat -> Prop) (w : World) (bb r : Nat) (E : List Ent) : Prop where
 base : BaseAt S w bb r E
 ext : Ext w0 w
 pool : ∀ k, S k -> w0.heap.size ≤ k
 own : ∀ k, iI bb r E k -> w0.heap.size ≤ k
def aMs (w0 : World) (bb r : Nat) (L : List lS) (n : Nat) (iv : Value) (w : World) : Prop := ∃ i : Nat, i ≤ n /\ iv = .int .i64 i /\ Hid (∃ S E, MyBase w0 S w bb r E /\ gS (aU E) (L.drop i) = gS [] L)
def aMt (w0 : World) (bb r : Nat) (q : lS) (R : List bH × Nat) (g : Nat) (cs : List Value) (m : Nat) (jv : Value) (w : World) : Prop := ∃ j : Nat, j ≤ m /\ jv = .int .i64 j /\ Hid (∃ S E, MyBase w0 S w bb r E /\ fP (aU E) q.1 (q.2.2.1.drop j) = R /\ Blk w g cs 111 /\ ¬ iI bb r E g)
theorem drop_at {α : Type} {xs : List α} {i : Nat} {x : α} (h : xs[i]? = some x) : xs.drop i = x :: xs.drop (i + 1) := by
 obtain ⟨hi, e⟩ := List.getElem?_eq_some_iff.1 h
 rw [List.drop_eq_getElem_cons hi, e]
theorem cells_lt {w : World} {xa : Option Addr} {ss : List ByteArray} (h : CellsAt w xa (strs ss)) (hne : ss ≠ []) : ∀ a, xa = some a -> a.block < w.heap.size := fun a e => by
 cases ss with
 | nil => exact absurd rfl hne
 | cons s ss =>
  obtain ⟨b, off, e1, hc⟩ := h 0 (.string s) rfl
  rw [e] at e1; cases e1
  exact World.block_lt_of_cell? _ _ hc
set_option maxHeartbeats 4000000 in
theorem aCk (L : List lS) (ao : Option Addr) (n cap : Nat) (w : World) (S0 : Nat -> Prop) (hn : n = L.length) (hL : RelsIn S0 w ao L) (hl : n ≤ 4194304) (hr : ∀ q ∈ L, q.2.2.1.length ≤ 1048576) :
 Calls Tryz.prog 18 #[.slice ao n cap] w (RetN w (FromV w L)) := by
 have HN := qH hn
 have HL := qH hL
 have HR := qH hr
 clear hn hL hr
 go_enter Tryz.func18, Tryz.ntmps18
 go_wp2_with fail
 refine (aBr w).mono ?_
 rintro e w1 ⟨v, rfl, hk1, rfl, hB, hm⟩
 obtain ⟨bb, ebb⟩ : ∃ bb, w.heap.size + 1 = bb := ⟨_, rfl⟩
 rw [ebb] at hB ⊢
 obtain ⟨r, er⟩ : ∃ r, w.heap.size = r := ⟨_, rfl⟩
 rw [er] at hB hm
 have HM0 := qH (show MyBase w (fun _ => False) w1 bb r [] from
  {base := BaseAt.new (fun _ => False) (fun _ x => x.elim) hk1 (by omega) (by omega) (by omega) hB hm
   ext := hk1, pool := fun _ x => x.elim
   own := fun k hk => by
    rcases hk with rfl | rfl | ⟨e, he, _⟩
    ·omega
    ·omega
    ·simp at he })
 clear hB hm hk1 ebb er
 go_wp2
 go_loopw [15] (fun iv wr => aMs w bb r L n iv wr) (fun iv _ => n - (intOf iv).toNat)
 case atStart => exact ⟨0, Nat.zero_le _, rfl, _, [], HM0.out, rfl⟩
 case round =>
  clear HM0
  obtain ⟨i, hi, rfl, hin⟩ := hrel
  obtain ⟨S, E, hM, hF⟩ := hin.out
  have HM := qH hM
  have HF := qH hF
  clear hin hM hF
  by_cases hlt : i < n
  ·obtain ⟨q, hq⟩ : ∃ q, L[i]? = some q := ⟨_, qG (by rw [<- HN.out]; exact hlt)⟩
   obtain ⟨b, off, ra, rcap, eao, hSb, c0, c1, c2, hrl, hrm, hrows⟩ := HL.out i q hq
   subst eao
   replace c0 := HM.out.ext.cell c0 id
   replace c1 := HM.out.ext.cell c1 id
   replace c2 := HM.out.ext.cell c2 id
   obtain ⟨s, es⟩ : ∃ s, q.1 = s := ⟨_, rfl⟩
   obtain ⟨a, ea⟩ : ∃ a, q.2.1 = a := ⟨_, rfl⟩
   obtain ⟨m, em⟩ : ∃ m, q.2.2.1.length = m := ⟨_, rfl⟩
   rw [es] at c0
   rw [ea] at c1
   rw [em] at c2 hrl
   have hm1 : m ≤ 1048576 := by rw [<- em]; exact HR.out q (List.mem_of_getElem? hq)
   have HQ := qH (And.intro hq (And.intro es (And.intro ea em)))
   have HRows := qH hrows
   clear hq es ea em hrows hSb
   obtain ⟨gx, egx⟩ : ∃ g, wr.heap.size = g := ⟨_, rfl⟩
   obtain ⟨wx, ewx⟩ : ∃ wx, wr.alloc (.cells #[.string s, .int .i64 a, .slice ra m rcap] 111) = wx := ⟨_, rfl⟩
   have HBx := qH (show Blk wx gx [.string s, .int .i64 a, .slice ra m rcap] 111 by rw [<- ewx, <- egx]; exact Blk.new wr _ _)
   have HXx := qH (show Ext wr wx by rw [<- ewx]; exact (Kp.refl wr).alloc _)
   have HGx := qH (show ∀ k, iI bb r E k -> k < gx from fun k hk => by rw [<- egx]; exact HM.out.base.ownLt k hk)
   have EGX := qH egx
   have x0 : wx.cell? ⟨wr.heap.size, 0, none⟩ = some (.string s) := by rw [egx, HBx.out.cell']; rfl
   have x1 : wx.cell? ⟨wr.heap.size, 1, none⟩ = some (.int .i64 a) := by rw [egx, HBx.out.cell']; rfl
   clear egx
   go_wp2_with fail
   rw [EGX.out]
   refine (aAj (HM.out.base.ext HXx.out) s a).mono ?_
   rintro e w2 ⟨v, rfl, hk2, rfl, E1, hB1, hC1, ho1⟩
   have hgx : gx < wx.heap.size := HBx.out.lt
   have hbx2 : Blk w2 gx [.string s, .int .i64 a, .slice ra m rcap] 111 := HBx.out.kp hk2 fun ho => by have := HGx.out gx ho; omega
   have hM1 : MyBase w S w2 bb r E1 :=
    {base := hB1
     ext := (HM.out.ext.trans HXx.out).trans' hk2 fun k hk ho => by have := HM.out.own k ho; omega
     pool := HM.out.pool
     own := fun k hk => by
      rcases ho1 k hk with h1 | h1
      ·exact HM.out.own k h1
      ·have := (HM.out.ext.trans HXx.out).size; omega }
   have hng : ¬ iI bb r E1 gx := fun ho => by
    rcases ho1 gx ho with h1 | h1
    ·have := HGx.out gx h1; omega
    ·omega
   have HM1 := qH (And.intro hM1 (And.intro hC1 (And.intro hbx2 hng)))
   clear hk2 hB1 hC1 ho1 hgx hbx2 hM1 hng ewx x0 x1 c0 c1 c2
   obtain ⟨d, ed⟩ : ∃ d, eD (aU E) s a = d := ⟨_, rfl⟩
   rw [ed]
   have ED := qH ed
   clear ed
   have y2 : w2.cell? ⟨gx, 2, none⟩ = some (.slice ra m rcap) := by rw [HM1.out.2.2.1.cell']; rfl
   by_cases hd : d = 0
   ·have q1 : ((d : Int) != 0) = false := by simp [hd]
    have HD := qH hd
    clear hd
    have hdr : (L.drop i) = q :: L.drop (i + 1) := drop_at HQ.out.1
    have HDr := qH hdr
    clear hdr
    go_wp2
    clear q1
    generalize hw5 : w2 = w5 at *; clear hw5
    go_loopw [31] (fun jv wk => aMt w bb r q (fP (gU (aU E) s a) s q.2.2.1) gx [.string s, .int .i64 a, .slice ra m rcap] m jv wk) (fun jv _ => m - (intOf jv).toNat)
    case atStart => exact ⟨0, Nat.zero_le _, rfl, S, E1, HM1.out.1, by rw [HM1.out.2.1, HQ.out.2.1]; rfl, HM1.out.2.2.1, HM1.out.2.2.2⟩
    case round =>
     clear HM1 HBx HXx HGx EGX y2
     obtain ⟨j, hj, rfl, hin⟩ := hrel
     obtain ⟨S1, E2, hM2, hA2, hbx, hng⟩ := hin.out
     have HM2 := qH (And.intro hM2 (And.intro hA2 (And.intro hbx hng)))
     clear hin hM2 hA2 hbx hng
     by_cases hlt2 : j < m
     ·obtain ⟨ss, hss⟩ : ∃ ss, q.2.2.1[j]? = some ss := ⟨_, qG (by rw [HQ.out.2.2.2]; exact hlt2)⟩
      obtain ⟨g, o, xa, xcap, era, d0, d1, d2, d3⟩ := HRows.out.get hss
      subst era
      replace d0 := HM2.out.1.ext.cell d0 id
      obtain ⟨k, ek⟩ : ∃ k, ss.length = k := ⟨_, rfl⟩
      rw [ek] at d0
      have HSS := qH (And.intro hss ek)
      have HRow := qH (And.intro d1 (And.intro d2 d3))
      have y0 : wr.cell? ⟨gx, 0, none⟩ = some (.string s) := by rw [HM2.out.2.2.1.cell']; rfl
      clear hss ek d1 d2 d3
      go_wp2_with fail
      refine (aC8 HM2.out.1.base s (ao := xa) (k := k) (cap := xcap) (ss := ss) ⟨⟨HSS.out.2.symm, HRow.out.1.ext HM2.out.1.ext⟩, HRow.out.2.1, fun a e hne => Nat.lt_of_lt_of_le (cells_lt HRow.out.1 (fun h => hne (by show k = 0; rw [<- HSS.out.2, h]; rfl)) a e) HM2.out.1.ext.size⟩ (fun a e hne ho => by
       have h1 := HM2.out.1.own _ ho
       have h2 := cells_lt HRow.out.1 (fun h => hne (by show k = 0; rw [<- HSS.out.2, h]; rfl)) a e
       omega)).mono ?_
      rintro e w3 ⟨v, rfl, hk3, rfl, S3, E3, hs1, hs2, hB3, hC3, ho3⟩
      have hgx : gx < wr.heap.size := HM2.out.2.2.1.lt
      have hM3 : MyBase w S3 w3 bb r E3 :=
       {base := hB3
        ext := HM2.out.1.ext.trans' hk3 fun k hk ho => by have := HM2.out.1.own k ho; omega
        pool := fun k hk => by
         rcases hs2 k hk with h1 | h1
         ·exact HM2.out.1.pool k h1
         ·have := HM2.out.1.ext.size; omega
        own := fun k hk => by
         rcases ho3 k hk with h1 | h1
         ·exact HM2.out.1.own k h1
         ·have := HM2.out.1.ext.size; omega }
      have hb3 : Blk w3 gx [.string s, .int .i64 a, .slice (some ⟨g, o, none⟩) m rcap] 111 := HM2.out.2.2.1.kp hk3 HM2.out.2.2.2
      have hng : ¬ iI bb r E3 gx := fun ho => by
       rcases ho3 gx ho with h1 | h1
       ·exact HM2.out.2.2.2 h1
       ·omega
      have HM3 := qH (And.intro hM3 (And.intro hC3 (And.intro hb3 hng)))
      clear hk3 hB3 hC3 ho3 hgx hM3 hng hb3 hs1 hs2 y0 d0
      obtain ⟨x1, ex1⟩ : ∃ x, (eU (aU E2) s ss).1 = x := ⟨_, rfl⟩
      obtain ⟨x2, ex2⟩ : ∃ x, (eU (aU E2) s ss).2 = x := ⟨_, rfl⟩
      rw [ex1, ex2]
      have EX := qH ex2
      clear ex1 ex2
      have hdj : q.2.2.1.drop j = ss :: q.2.2.1.drop (j + 1) := drop_at HSS.out.1
      have HDj := qH hdj
      clear hdj
      by_cases hx : x2 = 0
      ·have q1 : ((x2 : Int) != 0) = false := by simp [hx]
       have HX := qH hx
       clear hx
       go_wp2
       go_roundw
       case rel =>
        refine ⟨j + 1, by omega, by first | rfl | (congr 1; done) | (congr 1; omega), S3, E3, HM3.out.1, ?_, HM3.out.2.2.1, HM3.out.2.2.2⟩
        rw [HM3.out.2.1, <- HM2.out.2.1, HDj.out, HQ.out.2.1]
        exact (aIu (by rw [EX.out]; exact HX.out)).symm
       case measure => simp [intOf]; omega
      ·have q1 : ((x2 : Int) != 0) = true := by simp; omega
       have HX := qH hx
       clear hx
       go_wp2
       go_ret2
       have hall := HM2.out.2.1
       rw [HDj.out, HQ.out.2.1, aFx (by rw [EX.out]; exact HX.out), EX.out] at hall
       have hfr : gS [] L = (aU E2, x2) := by
        rw [<- HF.out, HDr.out, aKg (by rw [HQ.out.2.1, HQ.out.2.2.1, ED.out]; exact HD.out) (by rw [HQ.out.2.1, HQ.out.2.2.1, <- hall]; exact HX.out), HQ.out.2.1, HQ.out.2.2.1, <- hall]
       exact RetN.mk HM3.out.1.ext ⟨fun h0 => by rw [hfr] at h0; exact absurd h0 HX.out, fun _ => by rw [hfr]; rfl⟩
     ·obtain rfl : j = m := by omega
      have hall := HM2.out.2.1
      rw [List.drop_of_length_le (by rw [HQ.out.2.2.2]; exact Nat.le_refl _)] at hall
      have hall' : fP (gU (aU E) s a) s q.2.2.1 = (aU E2, 0) := hall.symm
      have HAll := qH hall'
      clear hall hall'
      go_wp2
      go_roundw
      case rel =>
       refine ⟨i + 1, by omega, by first | rfl | (congr 1; done) | (congr 1; omega), S1, E2, HM2.out.1, ?_⟩
       rw [<- HF.out, HDr.out, aLn (by rw [HQ.out.2.1, HQ.out.2.2.1, ED.out]; exact HD.out) (by rw [HQ.out.2.1, HQ.out.2.2.1, HAll.out]), HQ.out.2.1, HQ.out.2.2.1, HAll.out]
      case measure => simp [intOf]; omega
   ·have q1 : ((d : Int) != 0) = true := by simp; omega
    have HD := qH hd
    clear hd
    go_wp2
    go_ret2
    have hfr : gS [] L = (aU E, d) := by
     rw [<- HF.out, drop_at HQ.out.1, aKh (by rw [HQ.out.2.1, HQ.out.2.2.1, ED.out]; exact HD.out), HQ.out.2.1, HQ.out.2.2.1, ED.out]
    exact RetN.mk HM1.out.1.ext ⟨fun h0 => by rw [hfr] at h0; exact absurd h0 HD.out, fun _ => by rw [hfr]; rfl⟩
  ·obtain rfl : i = n := by omega
   have hfr : gS [] L = (aU E, 0) := by
    rw [<- HF.out, List.drop_of_length_le (by rw [<- HN.out]; exact Nat.le_refl _)]; rfl
   have HFr := qH hfr
   clear hfr
   go_wp2
   go_ret2
   exact RetN.mk HM.out.ext ⟨fun _ => ⟨bb, r, S, E, rfl, HM.out.base, by rw [HFr.out], HM.out.pool, HM.out.own⟩, fun h0 => absurd (by rw [HFr.out]) h0⟩
end
section
open Go.RowKit Go.Shelf
attribute [local go_sem] Oper.semAt_some
def aF9 (L : aC) : Bool := L.all fun V => V.all fun s => decide (s.size ≤ 1048576)
theorem xH {L : aC} (h : aF9 L = true) : ∀ V ∈ L, ∀ s ∈ V, s.size ≤ 1048576 := fun V hV s hs => of_decide_eq_true (List.all_eq_true.1 (List.all_eq_true.1 h V hV) s hs)
def okR (r : bM) (C : List bH) : Bool := decide ((aZ r C).length ≤ 1048576) && (aF9 (aZ r C) && aF9 ((aZ r C).map fun V => aP (aA r.2.1) V r.1.2.1))
def FactsIs (e : Nat) (A : aC) (w w' : World) (v : Value) : Prop := (e ≠ 0 /\ v = .tuple #[.slice none 0 0, .int .i64 (e : Nat)]) \/ (e = 0 /\ ∃ a c, v = .tuple #[.slice a A.length c, .int .i64 0] /\ OwnRows w.heap.size w' (.slice a A.length c) A)
set_option maxHeartbeats 4000000 in
theorem vQ {S : Nat -> Prop} {w : World} {p : ByteArray} {hs : List aE} {ls : List aM} {ha ba : Option Addr} {hn hcap n bcap : Nat} {G : Nat -> Prop} {ob : Addr} {E : List Ent} {C : List bH} {e : Nat} {A : aC} (hhn : hn = hs.length) (hh : bD w G ha hs) (hhl : hn ≤ 1048576) (hbn : n = ls.length) (h : cF w G ba ls) (hf : Fit ls) (hnv : (aA ls).length ≤ 1048576) (hn16 : n ≤ 1048576)
 (hB : BaseV S w (.pointer (some ob)) E) (hC : aU E = C) (hok : (hs.any fun t => decide (4 ≤ t.1)) = true -> okR ((p, hs, ()), ls, ()) C = true) (hN : NumW w) (hM : cI ((p, hs, ()), ls, ()) false (aZ ((p, hs, ()), ls, ()) C) = (e, A)) :
 Calls Tryz.prog 21 #[dN p ha hn hcap ba n bcap, .pointer (some ob)] w (RetN w fun w' v => FactsIs e A w w' v) := by
 have HF := qH (fun W (hW : Ext w W) => aFu (hcap := hcap) (bcap := bcap) (p := p) (L := aZ ((p, hs, ()), ls, ()) C) hhn (hh.ext hW) hhl hbn (h.ext hW) hf hnv hn16 (hB.ext hW) (by have := aFn ((p, hs, ()), ls, ()) E; rw [hC] at this; exact this) (hN.ext hW) (fun ha => by
  have h2 := hok ha
  unfold okR at h2
  rw [Bool.and_eq_true, Bool.and_eq_true, decide_eq_true_eq] at h2
  exact ⟨h2.1, xH h2.2.1, fun V hV => xH h2.2.2 _ (List.mem_map.2 ⟨V, hV, rfl⟩)⟩))
 rw [show (some ob).isNone = false from rfl, hM] at HF
 clear hhn hh hhl hbn h hf hnv hn16 hB hC hok hN hM
 obtain ⟨gb, egb⟩ : ∃ g, w.heap.size = g := ⟨_, rfl⟩
 obtain ⟨w1, e1⟩ : ∃ x, w.alloc (.cells #[.string p, .slice ha hn hcap, .slice ba n bcap] 43) = x := ⟨_, rfl⟩
 have x1 : Ext w w1 := by rw [<- e1]; exact (Kp.refl w).alloc _
 have hB1 : Blk w1 gb [.string p, .slice ha hn hcap, .slice ba n bcap] 43 := by rw [<- e1, <- egb]; exact Blk.new w _ _
 have H1 := qH x1
 have r0 : w1.cell? ⟨gb, 0, none⟩ = some (.string p) := by rw [hB1.cell']; rfl
 have r1 : w1.cell? ⟨gb, 1, none⟩ = some (.slice ha hn hcap) := by rw [hB1.cell']; rfl
 have r2 : w1.cell? ⟨gb, 2, none⟩ = some (.slice ba n bcap) := by rw [hB1.cell']; rfl
 clear x1 hB1
 go_enter Tryz.func21, Tryz.ntmps21
 go_wp2_with fail
 clear e1
 refine (HF.out w1 H1.out).mono ?_
 rintro e2 w2 ⟨v2, rfl, hk2, hO⟩
 have HX := qH (H1.out.trans hk2)
 have hsz := H1.out.size
 have hO2 := hO
 clear hO hk2 r0 r1 r2
 unfold FactsR at hO2
 rcases hO2 with ⟨he, rfl⟩ | ⟨rfl, rb, iv, S2, rfl, hR, hrb, hS, hv⟩
 ·have HE := qH he
  have hnn : (binOp .eql 73 (.pointer none) (.pointer none)).run Tryz.prog w2 = .ok (.bool true) w2 := by kernel_rfl
  clear he
  go_wp2_with fail
  refine (nP (e : Nat) w2).mono ?_
  rintro e5 w5 ⟨v5, rfl, hk5, rfl⟩
  have X5 := qH (HX.out.trans hk5)
  clear hk5
  go_wp2_with fail
  go_ret2
  exact RetN.mk X5.out (.inl ⟨HE.out, rfl⟩)
 ·have HA := qH (xJ (hR.q (z := False)))
  have hnn : (binOp .eql 73 (.pointer (some ⟨rb, 0, none⟩)) (.pointer none)).run Tryz.prog w2 = .ok (.bool false) w2 := by kernel_rfl
  have HZ := qH HX.out.size
  clear hR hrb hS hv
  go_wp2_with fail
  refine HA.out.mono ?_
  rintro e5 w5 ⟨v5, rfl, hk5, _, hA⟩
  obtain ⟨aa, ac, ea, -⟩ := hA.shape
  subst ea
  have X5 := qH (And.intro (HX.out.trans (hk5.mono fun k _ f => f.1)) (OwnRows.mono hA HZ.out))
  clear hk5 hA
  go_wp2_with fail
  refine (nP 0 w5).mono ?_
  rintro e6 w6 ⟨v6, rfl, hk6, rfl⟩
  have X6 := qH (And.intro (X5.out.1.trans hk6) (X5.out.2.ext hk6))
  clear hk6
  go_wp2_with fail
  go_ret2
  exact RetN.mk X6.out.1 (.inr ⟨rfl, aa, ac, rfl, X6.out.2⟩)
set_option maxHeartbeats 4000000 in
theorem is15R {S : Nat -> Prop} {w : World} {p : ByteArray} {hs : List aE} {ls : List aM} {ha ba wa : Option Addr} {hn hcap n bcap wn wc : Nat} {G : Nat -> Prop} {ob : Addr} {E : List Ent} {C : List bH} {e : Nat} {A B : aC} (hhn : hn = hs.length) (hh : bD w G ha hs) (hhl : hn ≤ 1048576) (hbn : n = ls.length) (h : cF w G ba ls) (hf : Fit ls) (hnv : (aA ls).length ≤ 1048576) (hn16 : n ≤ 1048576)
 (hB : BaseV S w (.pointer (some ob)) E) (hC : aU E = C) (hok : (hs.any fun t => decide (4 ≤ t.1)) = true -> okR ((p, hs, ()), ls, ()) C = true) (hN : NumW w) (hM : cI ((p, hs, ()), ls, ()) false (aZ ((p, hs, ()), ls, ()) C) = (e, A)) (hAl : A.length ≤ 1048576) (hwn : wn = B.length) (hW : RowsIn TT w wa B) :
 Calls Tryz.prog 27 #[dN p ha hn hcap ba n bcap, .pointer (some ob), .slice wa wn wc] w (RetN w fun w' v => v = .bool (decide (e = 0 /\ A = B))) := by
 have HF := qH (fun W (hx : Ext w W) => vQ (hcap := hcap) (bcap := bcap) (p := p) hhn (hh.ext hx) hhl hbn (h.ext hx) hf hnv hn16 (hB.ext hx) hC hok (hN.ext hx) hM)
 have HW := qH (And.intro hwn (And.intro hW hAl))
 clear hhn hh hhl hbn h hf hnv hn16 hB hC hok hN hM hwn hW hAl
 obtain ⟨gb, egb⟩ : ∃ g, w.heap.size = g := ⟨_, rfl⟩
 obtain ⟨w1, e1⟩ : ∃ x, w.alloc (.cells #[.string p, .slice ha hn hcap, .slice ba n bcap] 43) = x := ⟨_, rfl⟩
 have x1 : Ext w w1 := by rw [<- e1]; exact (Kp.refl w).alloc _
 have hB1 : Blk w1 gb [.string p, .slice ha hn hcap, .slice ba n bcap] 43 := by rw [<- e1, <- egb]; exact Blk.new w _ _
 have H1 := qH x1
 have r0 : w1.cell? ⟨gb, 0, none⟩ = some (.string p) := by rw [hB1.cell']; rfl
 have r1 : w1.cell? ⟨gb, 1, none⟩ = some (.slice ha hn hcap) := by rw [hB1.cell']; rfl
 have r2 : w1.cell? ⟨gb, 2, none⟩ = some (.slice ba n bcap) := by rw [hB1.cell']; rfl
 clear x1 hB1
 go_enter Tryz.func27, Tryz.ntmps27
 go_wp2_with fail
 clear e1
 refine (HF.out w1 H1.out).mono ?_
 rintro e2 w2 ⟨v2, rfl, hk2, hO⟩
 have HX := qH (H1.out.trans hk2)
 clear r0 r1 r2 hk2
 rcases hO with ⟨he, rfl⟩ | ⟨rfl, aa, ac, rfl, hA⟩
 ·have h0 : ((e : Int) == 0) = false := by simp; omega
  have HE := qH he
  clear he
  go_wp2_with fail
  go_ret
  exact RetN.mk HX.out (by rw [decide_eq_false (fun h => HE.out h.1)]; rfl)
 ·obtain ⟨a2, c2, ea, hRI⟩ := hA.shape
  cases ea
  have HAl := qH (sK (w := w2) (n := A.length) (m := wn) (acap := ac) (bcap := wc) rfl HW.out.1 hRI (HW.out.2.1.ext HX.out) (by have := HW.out.2.2; omega))
  clear hA hRI
  go_wp2_with fail
  refine HAl.out.mono ?_
  rintro e5 w5 ⟨v5, rfl, hk5, rfl⟩
  have X5 := qH (HX.out.trans hk5)
  clear hk5
  by_cases hab : A = B
  ·have hd : decide (A = B) = true := decide_eq_true hab
   rw [hd]
   have HE := qH hab
   clear hab hd
   go_wp2_with fail
   go_ret
   exact RetN.mk X5.out (by rw [decide_eq_true HE.out]; rfl)
  ·have hd : decide (A = B) = false := decide_eq_false hab
   rw [hd]
   have HE := qH hab
   clear hab hd
   go_wp2_with fail
   go_ret
   exact RetN.mk X5.out (by rw [decide_eq_false HE.out]; rfl)
def vG : List lS := [(⟨#[101]⟩, 2, [[(⟨#[97]⟩ : ByteArray), (⟨#[49]⟩ : ByteArray)], [(⟨#[97]⟩ : ByteArray), (⟨#[49, 48]⟩ : ByteArray)], [(⟨#[97]⟩ : ByteArray), (⟨#[57]⟩ : ByteArray)], [(⟨#[98]⟩ : ByteArray), (⟨#[57]⟩ : ByteArray)], [(⟨#[98]⟩ : ByteArray), (⟨#[]⟩ : ByteArray)]], ())]
def aDa : List bH := [(⟨#[101]⟩, 2, [[(⟨#[97]⟩ : ByteArray), (⟨#[49]⟩ : ByteArray)], [(⟨#[97]⟩ : ByteArray), (⟨#[49, 48]⟩ : ByteArray)], [(⟨#[97]⟩ : ByteArray), (⟨#[57]⟩ : ByteArray)], [(⟨#[98]⟩ : ByteArray), (⟨#[]⟩ : ByteArray)], [(⟨#[98]⟩ : ByteArray), (⟨#[57]⟩ : ByteArray)]])]
theorem vF : gS [] vG = (aDa, 0) := by kernel_rfl
set_option maxHeartbeats 4000000 in
theorem aCj (w : World) : Calls Tryz.prog 23 #[] w (RetN w fun w' v => ∃ bb E S, v = .pointer (some ⟨bb, 0, none⟩) /\ BaseV S w' v E /\ aU E = aDa) := by
 obtain ⟨w1, e1⟩ : ∃ x, w.alloc (.cells #[.string ⟨#[97]⟩, .string ⟨#[49]⟩] 9) = x := ⟨_, rfl⟩
 have B1 := qH (show Blk w1 w.heap.size [.string ⟨#[97]⟩, .string ⟨#[49]⟩] 9 from by rw [<- e1]; exact Blk.new w _ _)
 have Y1 := qH (show Ext w w1 from by rw [<- e1]; exact (Kp.refl w).alloc _)
 obtain ⟨w2, e2⟩ : ∃ x, w1.alloc (.cells #[.string ⟨#[97]⟩, .string ⟨#[49, 48]⟩] 9) = x := ⟨_, rfl⟩
 have B2 := qH (show Blk w2 w1.heap.size [.string ⟨#[97]⟩, .string ⟨#[49, 48]⟩] 9 from by rw [<- e2]; exact Blk.new w1 _ _)
 have Y2 := qH (show Ext w1 w2 from by rw [<- e2]; exact (Kp.refl w1).alloc _)
 obtain ⟨w3, e3⟩ : ∃ x, w2.alloc (.cells #[.string ⟨#[97]⟩, .string ⟨#[57]⟩] 9) = x := ⟨_, rfl⟩
 have B3 := qH (show Blk w3 w2.heap.size [.string ⟨#[97]⟩, .string ⟨#[57]⟩] 9 from by rw [<- e3]; exact Blk.new w2 _ _)
 have Y3 := qH (show Ext w2 w3 from by rw [<- e3]; exact (Kp.refl w2).alloc _)
 obtain ⟨w4, e4⟩ : ∃ x, w3.alloc (.cells #[.string ⟨#[98]⟩, .string ⟨#[57]⟩] 9) = x := ⟨_, rfl⟩
 have B4 := qH (show Blk w4 w3.heap.size [.string ⟨#[98]⟩, .string ⟨#[57]⟩] 9 from by rw [<- e4]; exact Blk.new w3 _ _)
 have Y4 := qH (show Ext w3 w4 from by rw [<- e4]; exact (Kp.refl w3).alloc _)
 obtain ⟨w5, e5⟩ : ∃ x, w4.alloc (.cells #[.string ⟨#[98]⟩, .string ⟨#[]⟩] 9) = x := ⟨_, rfl⟩
 have B5 := qH (show Blk w5 w4.heap.size [.string ⟨#[98]⟩, .string ⟨#[]⟩] 9 from by rw [<- e5]; exact Blk.new w4 _ _)
 have Y5 := qH (show Ext w4 w5 from by rw [<- e5]; exact (Kp.refl w4).alloc _)
 obtain ⟨w6, e6⟩ : ∃ x, w5.alloc (.cells #[.slice (some ⟨w.heap.size, 0, none⟩) 2 2, .slice (some ⟨w1.heap.size, 0, none⟩) 2 2, .slice (some ⟨w2.heap.size, 0, none⟩) 2 2, .slice (some ⟨w3.heap.size, 0, none⟩) 2 2, .slice (some ⟨w4.heap.size, 0, none⟩) 2 2] 66) = x := ⟨_, rfl⟩
 have B6 := qH (show Blk w6 w5.heap.size [.slice (some ⟨w.heap.size, 0, none⟩) 2 2, .slice (some ⟨w1.heap.size, 0, none⟩) 2 2, .slice (some ⟨w2.heap.size, 0, none⟩) 2 2, .slice (some ⟨w3.heap.size, 0, none⟩) 2 2, .slice (some ⟨w4.heap.size, 0, none⟩) 2 2] 66 from by rw [<- e6]; exact Blk.new w5 _ _)
 have Y6 := qH (show Ext w5 w6 from by rw [<- e6]; exact (Kp.refl w5).alloc _)
 obtain ⟨w7, e7⟩ : ∃ x, w6.alloc (.cells #[.string ⟨#[101]⟩, .int .i64 2, .slice (some ⟨w5.heap.size, 0, none⟩) 5 5] 111) = x := ⟨_, rfl⟩
 have B7 := qH (show Blk w7 w6.heap.size [.string ⟨#[101]⟩, .int .i64 2, .slice (some ⟨w5.heap.size, 0, none⟩) 5 5] 111 from by rw [<- e7]; exact Blk.new w6 _ _)
 have Y7 := qH (show Ext w6 w7 from by rw [<- e7]; exact (Kp.refl w6).alloc _)
 have HE := qH (xI (w := w6) (g := w5.heap.size) (l := [(w.heap.size, [(⟨#[97]⟩ : ByteArray), (⟨#[49]⟩ : ByteArray)]), (w1.heap.size, [(⟨#[97]⟩ : ByteArray), (⟨#[49, 48]⟩ : ByteArray)]), (w2.heap.size, [(⟨#[97]⟩ : ByteArray), (⟨#[57]⟩ : ByteArray)]), (w3.heap.size, [(⟨#[98]⟩ : ByteArray), (⟨#[57]⟩ : ByteArray)]), (w4.heap.size, [(⟨#[98]⟩ : ByteArray), (⟨#[]⟩ : ByteArray)])]) (LL := [[(⟨#[97]⟩ : ByteArray), (⟨#[49]⟩ : ByteArray)], [(⟨#[97]⟩ : ByteArray), (⟨#[49, 48]⟩ : ByteArray)], [(⟨#[97]⟩ : ByteArray), (⟨#[57]⟩ : ByteArray)], [(⟨#[98]⟩ : ByteArray), (⟨#[57]⟩ : ByteArray)], [(⟨#[98]⟩ : ByteArray), (⟨#[]⟩ : ByteArray)]]) rfl B6.out (fun x hx => by
  simp only [List.mem_cons, List.not_mem_nil, or_false] at hx
  rcases hx with rfl | rfl | rfl | rfl | rfl
  ·exact ⟨B1.out.ext (Y2.out.trans (Y3.out.trans (Y4.out.trans (Y5.out.trans (Y6.out))))), by simp⟩
  ·exact ⟨B2.out.ext (Y3.out.trans (Y4.out.trans (Y5.out.trans (Y6.out)))), by simp⟩
  ·exact ⟨B3.out.ext (Y4.out.trans (Y5.out.trans (Y6.out))), by simp⟩
  ·exact ⟨B4.out.ext (Y5.out.trans (Y6.out)), by simp⟩
  ·exact ⟨B5.out.ext (Y6.out), by simp⟩))
 have X := qH (show Ext w w7 from Y1.out.trans (Y2.out.trans (Y3.out.trans (Y4.out.trans (Y5.out.trans (Y6.out.trans (Y7.out)))))))
 have XE := qH Y7.out
 have BR := qH B7.out
 clear B1 Y1 B2 Y2 B3 Y3 B4 Y4 B5 Y5 B6 Y6 B7 Y7
 have hL : RelsIn TT w7 (some ⟨w6.heap.size, 0, none⟩) vG := fun i q hq => by
  match i, hq with
  | 0, hq => cases hq; exact ⟨w6.heap.size, 0, some ⟨w5.heap.size, 0, none⟩, 5, rfl, trivial, by rw [BR.out.cell']; rfl, by rw [BR.out.cell']; rfl, by rw [BR.out.cell']; rfl, by decide, by decide, HE.out.ext XE.out⟩
  | n + 1, hq => cases hq
 have HFr := qH (aCk vG (some ⟨w6.heap.size, 0, none⟩) 1 1 w7 TT rfl hL (by decide) (by decide))
 clear hL
 go_enter Tryz.func23, Tryz.ntmps23
 go_wp2_with fail
 refine HFr.out.mono ?_
 rintro e w11 ⟨v, rfl, hk11, hv⟩
 obtain ⟨bb, r, S, E, rfl, hb, hC, -, -⟩ := hv.1 (by rw [vF])
 have H11 := qH (show Ext w w11 /\ BaseAt S w11 bb r E /\ aU E = aDa from ⟨X.out.trans hk11, hb, by rw [hC, vF]⟩)
 clear hv hb hC hk11
 go_wp2
 go_ret
 exact RetN.mk H11.out.1 ⟨bb, E, S, rfl, .full bb r E H11.out.2.1, H11.out.2.2⟩
def rF : List aE := [((1 : Int), (⟨#[88]⟩ : ByteArray), ()), ((4 : Int), (⟨#[]⟩ : ByteArray), ())]
def aKr : List aE := [((1 : Int), (⟨#[88]⟩ : ByteArray), ()), ((1 : Int), (⟨#[89]⟩ : ByteArray), ())]
def oT : List aM := [((1 : Int), ((⟨#[101]⟩ : ByteArray), aKr, ()), (0 : Int), ((0 : Int), (⟨#[]⟩ : ByteArray), ()), ((0 : Int), (⟨#[]⟩ : ByteArray), ()), ())]
def aC9 : aC := [[(⟨#[97]⟩ : ByteArray), (⟨#[51]⟩ : ByteArray)], [(⟨#[98]⟩ : ByteArray), (⟨#[50]⟩ : ByteArray)]]
theorem aLs : okR ((⟨#[116]⟩, rF, ()), oT, ()) aDa = true := by kernel_rfl
theorem aLt : cI ((⟨#[116]⟩, rF, ()), oT, ()) false (aZ ((⟨#[116]⟩, rF, ()), oT, ()) aDa) = (0, aC9) := by kernel_rfl
theorem aFp (bb : Nat) (w : World) : (binOp .neq 45 (.pointer (some ⟨bb, 0, none⟩)) (.pointer none)).run Tryz.prog w = .ok (.bool true) w := by kernel_rfl
set_option maxHeartbeats 4000000 in
theorem nD (w : World) (hN : NumW w) : Calls Tryz.prog 15 #[] w (RetN w fun w' v => v = .bool true) := by
 have HN := qH hN
 clear hN
 go_enter Tryz.func15, Tryz.ntmps15
 go_wp2_with fail
 refine (aCj w).mono ?_
 rintro e w1 ⟨v1, rfl, hk1, bb, E, SS, rfl, hBv, hCv⟩
 have X1 := qH (And.intro hk1 (And.intro hBv hCv))
 clear hk1 hBv hCv
 have hnb := aFp bb w1
 go_wp2_with fail
 refine (zE ⟨#[88]⟩ w1).mono ?_
 rintro e w2 ⟨v2, rfl, hk2, rfl⟩
 have X2 := qH hk2
 clear hk2 hnb
 obtain ⟨w3, ew3⟩ : ∃ x, w2.alloc (.cells #[.int .i64 1, .string ⟨#[88]⟩, .int .i64 4, .string ⟨#[]⟩] 58) = x := ⟨_, rfl⟩
 have X3 := qH (show Ext w2 w3 from by rw [<- ew3]; exact (Kp.refl w2).alloc _)
 have T3 := qH (show bD w3 TT (some ⟨w2.heap.size, 0, none⟩) rF from by rw [<- ew3]; exact wZ w2 rF (by kernel_rfl))
 go_wp2_with fail
 clear ew3
 refine (zE ⟨#[88]⟩ w3).mono ?_
 rintro e w4 ⟨v4, rfl, hk4, rfl⟩
 have X4 := qH hk4
 clear hk4
 go_wp2_with fail
 refine (zE ⟨#[89]⟩ w4).mono ?_
 rintro e w5 ⟨v5, rfl, hk5, rfl⟩
 have X5 := qH hk5
 clear hk5
 obtain ⟨w6, ew6⟩ : ∃ x, w5.alloc (.cells #[.int .i64 1, .string ⟨#[88]⟩, .int .i64 1, .string ⟨#[89]⟩] 58) = x := ⟨_, rfl⟩
 have X6 := qH (show Ext w5 w6 from by rw [<- ew6]; exact (Kp.refl w5).alloc _)
 have T6 := qH (show bD w6 TT (some ⟨w5.heap.size, 0, none⟩) aKr from by rw [<- ew6]; exact wZ w5 aKr (by kernel_rfl))
 go_wp2_with fail
 clear ew6
 refine (aG9 ⟨#[101]⟩ (some ⟨w5.heap.size, 0, none⟩) 2 2 w6).mono ?_
 rintro e w7 ⟨v7, rfl, hk7, rfl⟩
 have X7 := qH hk7
 clear hk7
 obtain ⟨w8, ew8⟩ : ∃ x, w7.alloc (.cells #[.int .i64 1, .string ⟨#[101]⟩, .slice (some ⟨w5.heap.size, 0, none⟩) 2 2, .int .i64 0, .int .i64 0, .string ⟨#[]⟩, .int .i64 0, .string ⟨#[]⟩] 60) = x := ⟨_, rfl⟩
 have X8 := qH (show Ext w7 w8 from by rw [<- ew8]; exact (Kp.refl w7).alloc _)
 have L8 := qH (show cF w8 TT (some ⟨w7.heap.size, 0, none⟩) oT from by
  rw [<- ew8]
  refine aJu w7 oT [(some ⟨w5.heap.size, 0, none⟩, 2)] rfl (by kernel_rfl) fun x hx => ?_
  unfold oT at hx
  simp only [List.zip_cons_cons, List.zip_nil_right, List.mem_cons, List.not_mem_nil, or_false] at hx
  rcases hx with rfl
  exact ⟨T6.out.ext X7.out, Nat.le_refl _, (by decide : 2 ≤ maxLen)⟩)
 go_wp2_with fail
 clear ew8
 refine (aD2 (some ⟨w2.heap.size, 0, none⟩) (some ⟨w7.heap.size, 0, none⟩) 2 2 1 1 w8).mono ?_
 rintro e w9 ⟨v9, rfl, hk9, rfl⟩
 have X9 := qH hk9
 clear hk9
 obtain ⟨w10, e10⟩ : ∃ x, w9.alloc (.cells #[.string ⟨#[97]⟩, .string ⟨#[51]⟩] 9) = x := ⟨_, rfl⟩
 obtain ⟨w11, e11⟩ : ∃ x, w10.alloc (.cells #[.string ⟨#[98]⟩, .string ⟨#[50]⟩] 9) = x := ⟨_, rfl⟩
 obtain ⟨w12, e12⟩ : ∃ x, w11.alloc (.cells #[.slice (some ⟨w9.heap.size, 0, none⟩) 2 2, .slice (some ⟨w10.heap.size, 0, none⟩) 2 2] 66) = x := ⟨_, rfl⟩
 have x10 : Ext w9 w10 := by rw [<- e10]; exact (Kp.refl w9).alloc _
 have x11 : Ext w10 w11 := by rw [<- e11]; exact (Kp.refl w10).alloc _
 have x12 : Ext w11 w12 := by rw [<- e12]; exact (Kp.refl w11).alloc _
 have b10 : Blk w10 w9.heap.size [.string ⟨#[97]⟩, .string ⟨#[51]⟩] 9 := by rw [<- e10]; exact Blk.new w9 _ _
 have b11 : Blk w11 w10.heap.size [.string ⟨#[98]⟩, .string ⟨#[50]⟩] 9 := by rw [<- e11]; exact Blk.new w10 _ _
 have b12 : Blk w12 w11.heap.size [.slice (some ⟨w9.heap.size, 0, none⟩) 2 2, .slice (some ⟨w10.heap.size, 0, none⟩) 2 2] 66 := by rw [<- e12]; exact Blk.new w11 _ _
 have HW := qH (show RowsIn TT w12 (some ⟨w11.heap.size, 0, none⟩) aC9 from xI (l := [(w9.heap.size, [(⟨#[97]⟩ : ByteArray), (⟨#[51]⟩ : ByteArray)]), (w10.heap.size, [(⟨#[98]⟩ : ByteArray), (⟨#[50]⟩ : ByteArray)])]) rfl b12 (fun x hx => by
  simp only [List.mem_cons, List.not_mem_nil, or_false] at hx
  rcases hx with rfl | rfl
  ·exact ⟨b10.ext (x11.trans x12), by simp⟩
  ·exact ⟨b11.ext x12, by simp⟩))
 have X12 := qH (x10.trans (x11.trans x12))
 clear x10 x11 x12 b10 b11 b12
 go_wp2_with fail
 clear e10 e11 e12
 have H9 := qH (show Ext w w12 /\ Ext w1 w12 /\ Ext w3 w12 /\ Ext w8 w12 from
  have a := X9.out.trans X12.out
  have b := X4.out.trans (X5.out.trans (X6.out.trans (X7.out.trans (X8.out.trans a))))
  have c := X2.out.trans (X3.out.trans b)
  ⟨X1.out.1.trans c, c, b, a⟩)
 refine (is15R (p := ⟨#[116]⟩) (hs := rF) (ls := oT) (hn := 2) (hcap := 2) (n := 1) (bcap := 1) (G := TT) (wc := 2) (B := aC9) rfl (T3.out.ext H9.out.2.2.1) (by decide) rfl (L8.out.ext H9.out.2.2.2) (aMj (by kernel_rfl)) (aMk (by kernel_rfl)) (by decide) (X1.out.2.1.ext H9.out.2.1) X1.out.2.2 (fun _ => aLs) (HN.out.ext H9.out.1) aLt (by decide) rfl HW.out).mono ?_
 rintro e w13 ⟨v13, rfl, hk13, rfl⟩
 have X13 := qH (H9.out.1.trans hk13)
 clear hk13
 rw [show decide (0 = 0 /\ aC9 = aC9) = true from decide_eq_true ⟨rfl, rfl⟩]
 go_wp2
 go_ret
 exact RetN.mk X13.out rfl
theorem yB {α : Type} (f : α -> List Value) (k : Nat) (hk : ∀ x, (f x).length = k) : ∀ (i : Nat) (L : List α), (L.flatMap f).drop (i * k) = (L.drop i).flatMap f
 | 0, L => by rw [Nat.zero_mul]; rfl
 | i + 1, [] => by simp
 | i + 1, x :: L => by
  rw [List.flatMap_cons, Nat.succ_mul, Nat.add_comm, <- List.drop_drop, List.drop_left' (hk x)]
  exact yB f k hk i L
theorem vI {α : Type} (f : α -> List Value) (k : Nat) (hk : ∀ x, (f x).length = k) : ∀ (i : Nat) (L : List α), (L.flatMap f).take (i * k) = (L.take i).flatMap f
 | 0, L => by rw [Nat.zero_mul]; rfl
 | i + 1, [] => by simp
 | i + 1, x :: L => by
  rw [List.flatMap_cons, Nat.succ_mul, Nat.add_comm, List.take_add, List.take_left' (hk x), List.drop_left' (hk x), vI f k hk i L]
  rfl
theorem aIf {w : World} {g off : Nat} {vs : List Value} (h : CellsAt w (some ⟨g, off, none⟩) vs) (k : Nat) : CellsAt w (some ⟨g, off + k, none⟩) (vs.drop k) := by
 intro i u hu
 rw [List.getElem?_drop] at hu
 obtain ⟨b, o, e, hc⟩ := h (k + i) u hu
 cases e
 exact ⟨g, off + k, rfl, by rw [Nat.add_assoc]; exact hc⟩
theorem aFl {w : World} {ao : Option Addr} {vs : List Value} (h : CellsAt w ao vs) (k : Nat) : CellsAt w ao (vs.take k) := by
 intro i u hu
 rw [List.getElem?_take] at hu
 split at hu
 ·exact h i u hu
 ·cases hu
abbrev LitP := aM × (Option Addr × Nat)
theorem aBx (Z : List LitP) : ∀ u ∈ Z.flatMap iA, u.oneCell' = true := fun u hu => by
 obtain ⟨x, _, hx⟩ := List.mem_flatMap.1 hu
 exact aJw x u hx
theorem aG8 {w : World} {e : TypeId} {k g : Nat} {M : Nat -> Prop} (h : Blk w g [] e) (hM : M g) : Row w e k (.slice (some ⟨g, 0, none⟩) 0 0) 0 [] M := ⟨by simp, .inr ⟨g, 0, [], rfl, hM, h, by simp, Nat.le_refl _, Nat.zero_le _⟩⟩
theorem aG7 {W : World} {G M : Nat -> Prop} {Z : List LitP} {v : Value} {m : Nat} (h : Row W 60 8 v m (Z.flatMap iA) M) (hall : ∀ x ∈ Z, LitAll x.1) (hin : ∀ x ∈ Z, LitIn W G x.1 x.2.1 x.2.2) : ∃ a c, v = .slice a m c /\ m = (Z.map Prod.fst).length /\ cF W TT a (Z.map Prod.fst) := by
 have hl : m = Z.length := by have h1 := h.1; rw [pR iA 8 gO] at h1; omega
 have hz : (Z.map Prod.fst).zip (Z.map Prod.snd) = Z := by
  rw [List.zip_map']
  exact List.map_id' _
 obtain ⟨h1, ⟨e, h0⟩ | ⟨g, cap, rest, e, hM, hB, _⟩⟩ := h
 ·have : Z = [] := List.eq_nil_of_length_eq_zero (by omega)
  subst this
  exact ⟨none, 0, by rw [e, h0], by rw [h0]; rfl, aJt _ _⟩
 ·refine ⟨_, cap, e, by rw [List.length_map]; exact hl, uM (vs := Z.map Prod.snd) (by rw [List.length_map, List.length_map]) (fun l hl => ?_) (fun x hx => ?_) trivial (by rw [hz]; exact hB)⟩
  ·obtain ⟨x, hx, rfl⟩ := List.mem_map.1 hl
   exact hall x hx
  ·rw [hz] at hx
   have h := hin x hx
   exact ⟨fun i t ht => by
    obtain ⟨b, off, es, e, hG, hr⟩ := h.terms i t ht
    exact ⟨b, off, es, e, trivial, hr⟩, h.len, h.cap⟩
theorem aHm {w : World} {G : Nat -> Prop} {ao : Option Addr} {ls : List aM} (h : cF w G ao ls) : ∃ vs : List (Option Addr × Nat), vs.length = ls.length /\ CellsAt w ao ((ls.zip vs).flatMap iA) /\ ∀ x ∈ ls.zip vs, LitIn w G x.1 x.2.1 x.2.2 := by
 have hex : ∀ i : Fin ls.length, ∃ p : Option Addr × Nat, LitIn w G ls[i] p.1 p.2 /\ ∀ c u, (iA (ls[i], p))[c]? = some u -> ∃ b off, ao = some ⟨b, off, none⟩ /\ w.cell? ⟨b, off + i.1 * 8 + c, none⟩ = some u := fun i => by
  obtain ⟨b, off, a, cap, e, -, -, hl, c0, c1, c2, c3, c4, c5, c6, c7⟩ := oN h (qG i.2)
  refine ⟨(a, cap), hl, fun c u hu => ⟨b, off, e, ?_⟩⟩
  match c, hu with
  | 0, hu => cases hu; exact c0
  | 1, hu => cases hu; exact c1
  | 2, hu => cases hu; exact c2
  | 3, hu => cases hu; exact c3
  | 4, hu => cases hu; exact c4
  | 5, hu => cases hu; exact c5
  | 6, hu => cases hu; exact c6
  | 7, hu => cases hu; exact c7
  | k + 8, hu => cases hu
 let f : Fin ls.length -> Option Addr × Nat := fun i => Classical.choose (hex i)
 have hf : ∀ i, _ := fun i => Classical.choose_spec (hex i)
 have hz : ∀ (i : Nat) x, (ls.zip (List.ofFn f))[i]? = some x -> ∃ hi : i < ls.length, x = (ls[i], f ⟨i, hi⟩) := fun i x hx => by
  obtain ⟨l, p⟩ := x
  rw [List.getElem?_zip_eq_some] at hx
  have hi := (List.getElem?_eq_some_iff.1 hx.1).1
  refine ⟨hi, ?_⟩
  have h1 := hx.1
  have h2 := hx.2
  rw [qG hi] at h1
  rw [List.getElem?_ofFn, dif_pos hi] at h2
  cases h1; cases h2; rfl
 refine ⟨List.ofFn f, List.length_ofFn, fun i u hu => ?_, fun x hx => ?_⟩
 ·have hl := (List.getElem?_eq_some_iff.1 hu).1
  rw [pR iA 8 gO, List.length_zip, List.length_ofFn, Nat.min_self] at hl
  have hq := Nat.div_add_mod i 8
  have hm := Nat.mod_lt i (show 8 > 0 by decide)
  have hi : i / 8 < ls.length := Nat.div_lt_of_lt_mul (by omega)
  have hzi : (ls.zip (List.ofFn f))[i / 8]? = some (ls[i / 8], f ⟨i / 8, hi⟩) := by
   rw [List.getElem?_zip_eq_some]
   exact ⟨qG hi, by rw [List.getElem?_ofFn, dif_pos hi]⟩
  have hg := flat_get iA 8 gO _ (i / 8) _ (i % 8) hzi hm
  rw [show i / 8 * 8 + i % 8 = i by omega, hu] at hg
  obtain ⟨b, off, e, hc⟩ := (hf ⟨i / 8, hi⟩).2 (i % 8) u hg.symm
  refine ⟨b, off, e, ?_⟩
  rw [<- hc]
  congr 2
  show off + i = off + i / 8 * 8 + i % 8
  omega
 ·obtain ⟨i, hi⟩ := List.mem_iff_getElem?.1 hx
  obtain ⟨hil, rfl⟩ := hz i x hi
  exact (hf ⟨i, hil⟩).1
def tZ (x : Int) (n : Nat) : Nat := (if x.tmod n < 0 then x.tmod n + n else x.tmod n).toNat
theorem aHb (x : Int) (n : Nat) (hn : 0 < n) : ((tZ x n : Nat) : Int) = (if x.tmod n < 0 then x.tmod n + n else x.tmod n) /\ tZ x n < n := by
 have b1 : x.tmod n < n := Int.tmod_lt_of_pos x (by omega)
 have b2 : -(n : Int) < x.tmod n := by
  have h1 := Int.tmod_eq_emod (a := x) (b := n)
  have h3 := Int.emod_lt_of_pos x (show (0 : Int) < n by omega)
  have h4 := Int.emod_nonneg x (show (n : Int) ≠ 0 by omega)
  have h5 : (n : Int).natAbs = n := by omega
  rw [h5] at h1
  split at h1 <;> omega
 unfold tZ
 split <;> omega
theorem aD3 (w : World) (a : Option Addr) : RowsIn (fun k => ∀ b, a = some b -> k = b.block) w a [] := ⟨[], rfl, fun i u h => by simp [dZ] at h, fun b hb c hc => by rw [hb] at hc; cases hc; rfl, fun p hp => by cases hp⟩
theorem sE (r : bM) (C : List bH) : (aZ r C).Nodup := by
 unfold aZ
 split
 ·rename_i hc
  exact Strict.nodup bR (wC hc _).rise
 ·exact List.nodup_nil
theorem aGh {r : bM} {C : List bH} (hC : BaseOk C) (hp : eY C r.2.1 ≤ 20000) (hts : ∀ t ∈ r.1.2.1, t.2.1.size ≤ 1048576) : okR r C = true := by
 have hl := yO r C
 have hV : ∀ V ∈ aZ r C, ∀ s ∈ V, s.size ≤ 4096 := fun V hV => by
  by_cases hc : aO r = 0
  ·exact aIh hc hC hV
  ·unfold aZ at hV
   rw [if_neg hc] at hV; cases hV
 have hz : ∀ {L : aC}, (∀ V ∈ L, ∀ s ∈ V, s.size ≤ 1048576) -> aF9 L = true := fun {L} h => List.all_eq_true.2 fun V hV => List.all_eq_true.2 fun s hs => decide_eq_true (h V hV s hs)
 unfold okR
 rw [decide_eq_true (by omega), Bool.true_and, hz (fun V h s hs => by have := hV V h s hs; omega), Bool.true_and]
 refine hz fun U hU s hs => ?_
 obtain ⟨V, h1, rfl⟩ := List.mem_map.1 hU
 obtain ⟨t, ht, e⟩ := List.mem_filterMap.1 hs
 have ht2 := hts t ht
 split at e
 ·cases e; exact ht2
 ·split at e
  ·rename_i h1'
   cases e
   unfold kC
   rw [if_pos h1']
   unfold aS
   rw [List.getD_eq_getElem?_getD]
   cases hx : V[(aA r.2.1).findIdx fun s => decide (s = t.2.1)]? with
   | none => decide
   | some y => have := hV V h1 y (List.mem_of_getElem? hx); show y.size ≤ _; omega
  ·cases e
theorem FactsIs.shape {e : Nat} {A : aC} {w w' : World} {v : Value} (h : FactsIs e A w w' v) : ∃ xa xn xc, v = .tuple #[.slice xa xn xc, .int .i64 (e : Nat)] /\ ∃ S, xn = (if e = 0 then A else []).length /\ RowsIn S w' xa (if e = 0 then A else []) := by
 rcases h with ⟨he, rfl⟩ | ⟨rfl, a, c, rfl, hA⟩
 ·rw [if_neg he]; exact ⟨none, 0, 0, rfl, _, rfl, aD3 w' none⟩
 ·rw [if_pos rfl]
  obtain ⟨a2, c2, ea, hR⟩ := hA.shape
  cases ea
  exact ⟨a, A.length, c, rfl, _, rfl, hR⟩
theorem aE7 {r : bM} {nb : Bool} {L : aC} {e : Nat} {A : aC} (h : cI r nb L = (e, A)) : A.length ≤ 65536 := by
 have e1 : (cI r nb L).2.length ≤ 65536 := by
  unfold cI
  split
  ·exact Nat.zero_le _
  ·split
   ·split
    ·exact Nat.zero_le _
    ·exact gK _ _ _ (Nat.zero_le _)
   ·split
    ·exact Nat.zero_le _
    ·split
     ·exact Nat.zero_le _
     ·unfold pZ
      split
      ·exact Nat.zero_le _
      ·split
       ·exact Nat.zero_le _
       ·exact gK _ _ _ (Nat.zero_le _)
 rw [h] at e1; exact e1
theorem lit84 (t : Array Value) (h : t.size = 84) : ∃ u : Nat -> Value, (∀ i, t.getD i undef = u i) /\ t = #[u 0, u 1, u 2, u 3, u 4, u 5, u 6, u 7, u 8, u 9, u 10, u 11, u 12, u 13, u 14, u 15, u 16, u 17, u 18, u 19, u 20, u 21, u 22, u 23, u 24, u 25, u 26, u 27, u 28, u 29, u 30, u 31, u 32, u 33, u 34, u 35, u 36, u 37, u 38, u 39, u 40, u 41, u 42, u 43, u 44, u 45, u 46, u 47, u 48, u 49, u 50, u 51, u 52, u 53, u 54, u 55, u 56, u 57, u 58, u 59, u 60, u 61, u 62, u 63, u 64, u 65, u 66, u 67, u 68, u 69, u 70, u 71, u 72, u 73, u 74, u 75, u 76, u 77, u 78, u 79, u 80, u 81, u 82, u 83] := by
 refine ⟨fun i => t.toList.getD i undef, fun i => by simp [Array.getD_eq_getD_getElem?, List.getD_eq_getElem?_getD], ?_⟩
 apply Array.ext'
 have := kJ t.toList 84 (by simpa using h)
 exact this
noncomputable def aGf : Code := zZ 5 (Tryz.f5.body.getD .skip)
set_option maxHeartbeats 16000000 in
theorem aJl {S1 : Nat -> Prop} {w W : World} {p : ByteArray} {hs : List aE} {ls : List aM} {ha ba : Option Addr} {hn hcap n bcap g3 kn b1 m1 : Nat} {G : Nat -> Prop} {E1 : List Ent} {t : Array Value} (hN : NumW W) (hx : Ext w W) (hhn : hn = hs.length) (hh : bD W G ha hs) (hhl : hn ≤ 1048576) (hbn : n = ls.length) (h : cF W G ba ls) (hf : Fit ls) (hnv : (aA ls).length ≤ 1048576)
 (hnc : n ≤ bcap) (hcm : bcap ≤ maxLen) (hl : n ≤ 1048575) (hts : ∀ t ∈ hs, t.2.1.size ≤ 1048576) (hB : BaseAt S1 W b1 m1 E1) (hfw : zY (aU E1) ls = true) (hk : kn < n)
 (h3 : Blk W g3 [.string p, .slice ha hn hcap, .slice ba n bcap] 43)
 (hz : t.size = 84) (t3 : t.getD 3 undef = .pointer (some ⟨g3, 0, none⟩)) (t7 : t.getD 7 undef = .pointer (some ⟨b1, 0, none⟩)) (t9 : t.getD 9 undef = .int .i64 kn) :
 aGf.wp Tryz.prog (bodyPost Tryz.prog Tryz.f5 (RetN w fun w' v => v = .bool true)) { tmps := t, defers := [] } W := by
 obtain ⟨u, hu', rfl⟩ := lit84 t hz
 have e3 := (hu' 3).symm.trans t3
 have e7 := (hu' 7).symm.trans t7
 have e9 := (hu' 9).symm.trans t9
 rw [e3, e7, e9]
 clear hz t3 t7 t9 e3 e7 e9 hu'
 obtain ⟨vs, hvl, hcs, hin⟩ := aHm h
 obtain ⟨l0, hl0⟩ : ∃ l0, ls[kn]? = some l0 := ⟨_, qG (by omega)⟩
 obtain ⟨b, off, _, _, eba, -⟩ := oN h hl0
 subst eba
 obtain ⟨Z, eZ⟩ : ∃ Z, ls.zip vs = Z := ⟨_, rfl⟩
 rw [eZ] at hcs hin
 have hZ : Z.map Prod.fst = ls := by rw [<- eZ, List.map_fst_zip]; omega
 have hZn : Z.length = n := by rw [hbn, <- hZ, List.length_map]
 have hall : ∀ x ∈ Z, LitAll x.1 := fun x hx => aJv h x.1 (by rw [<- hZ]; exact List.mem_map_of_mem hx)
 have HZ := qH (show Z.map Prod.fst = ls /\ Z.length = n /\ (∀ x ∈ Z, LitAll x.1) /\ (∀ x ∈ Z, LitIn W G x.1 x.2.1 x.2.2) from ⟨hZ, hZn, hall, hin⟩)
 have HCd := qH (show CellsAt W (some ⟨b, off + kn * 8, none⟩) ((Z.drop kn).flatMap iA) from by rw [<- yB iA 8 gO]; exact aIf hcs _)
 have HCt := qH (show CellsAt W (some ⟨b, off, none⟩) ((Z.take kn).flatMap iA) from by rw [<- vI iA 8 gO]; exact aFl hcs _)
 have H3 := qH h3
 have HR := qH (And.intro hN (And.intro hx (And.intro hhn (And.intro hh (And.intro hhl (And.intro hbn (And.intro h (And.intro hf (And.intro hnv (And.intro hts (And.intro hB hfw)))))))))))
 have hcm2 : bcap ≤ 9223372036854775807 := hcm
 clear hN hx hhn hh hbn h hf hnv hts hB hfw h3 hvl hcs hin hl0 eZ hZ hZn hall hcm
 conv => arg 2; whnf
 obtain ⟨gt, egt⟩ : ∃ g, W.heap.size = g := ⟨_, rfl⟩
 obtain ⟨w1, e1⟩ : ∃ x, W.alloc (.cells #[.string p, .slice ha hn hcap, .slice (some ⟨b, off, none⟩) n bcap] 43) = x := ⟨_, rfl⟩
 have hb1 : Blk w1 gt [.string p, .slice ha hn hcap, .slice (some ⟨b, off, none⟩) n bcap] 43 := by rw [<- e1, <- egt]; exact Blk.new W _ _
 have x1 : Ext W w1 := by rw [<- e1]; exact (Kp.refl W).alloc _
 have a0 : W.cell? ⟨g3, 0, none⟩ = some (.string p) := by rw [H3.out.cell']; rfl
 have a1 : W.cell? ⟨g3, 1, none⟩ = some (.slice ha hn hcap) := by rw [H3.out.cell']; rfl
 have a2 : W.cell? ⟨g3, 2, none⟩ = some (.slice (some ⟨b, off, none⟩) n bcap) := by rw [H3.out.cell']; rfl
 have H1 := qH (show Ext W w1 /\ Blk w1 gt [.string p, .slice ha hn hcap, .slice (some ⟨b, off, none⟩) n bcap] 43 /\ W.heap.size = gt /\ gt < w1.heap.size from ⟨x1, hb1, egt, hb1.lt⟩)
 clear hb1 x1
 go_wp2
 clear e1 egt a0 a1 a2
 have i1 : (kn : Int) ≤ (n : Int) := by omega
 have i2 : (n : Int) ≤ (bcap : Int) := by omega
 have i3 : (kn : Int) < (bcap : Int) := by omega
 have i4 : (kn : Int) ≤ (bcap : Int) := by omega
 have i5 : kn < bcap := by omega
 have i6 : bcap ≠ kn := by omega
 have j1 : n - kn + kn = n := by omega
 have hb3 := H3.out.ext H1.out.1
 have HJ := qH (show ∀ X, Ext w1 X -> (fun X : World => X.cell? ⟨g3, 2, none⟩ = some (.slice (some ⟨b, off, none⟩) n bcap)) X from fun X hX => by show X.cell? _ = _; rw [(hb3.ext hX).cell']; rfl)
 clear hb3
 refine bC (fun X : World => X.cell? ⟨g3, 2, none⟩ = some (.slice (some ⟨b, off, none⟩) n bcap)) [12] (by kernel_rfl) (HJ.out _ (Kp.refl w1).drew) (fun hHeld => ?_)
 refine dF 1 ?_; try simp only [Act.put,sI,sZ,sS]
 refine dI 2 ?_; try simp only [Act.put,sI,sZ,sS]
 refine dF 3 ?_; try simp only [Act.put,sI,sZ,sS]
 refine dI 4 ?_; try simp only [Act.put,sI,sZ,sS]
 refine dF 6 ?_; try simp only [Act.put,sI,sZ,sS]
 refine dI 7 ?_; try simp only [Act.put,sI,sZ,sS]
 refine dF 8 ?_; try simp only [Act.put,sI,sZ,sS]
 refine dI 9 ?_; try simp only [Act.put,sI,sZ,sS]
 refine aF (i := 0) ?_
 refine aG (i := 0) rfl (fun K hK => ?_)
 go_simp
 refine hK.out _ _ ?_ (fun hHeld => ?_)
 ·(try dsimp only); (first | exact HJ.out _ HA5.out.1 | exact HJ.out _ HA4.out.1 | exact HJ.out _ ((Kp.refl w1).drew.alloc _))
 clear hK K; (try simp only [Act.put,sI,sZ,sS])
 refine aF (i := 5) ?_
 refine aG (i := 5) rfl (fun K hK => ?_)
 refine yK (F := fun _ => False) (w0 := w1) aCx rfl _ _ rfl ((Kp.refl w1).drew.alloc _) rfl (aG8 (Blk.new w1 [] 60).drew (Nat.le_refl _)) rfl (HCd.out.ext (H1.out.1.trans ((Kp.refl w1).drew.alloc _))) (by rw [pR iA 8 gO, List.length_drop, HZ.out.2.1]) (aBx _) (by omega) (by unfold maxLen; omega) ?_; intro v4 w4 hr4 hk4 hk4b; rw [Nat.zero_add, List.nil_append] at hr4; obtain ⟨qa, qc, rfl, _, _⟩ := hr4.shape; have HA4 := qH (show Ext w1 w4 /\ Row w4 60 8 (.slice qa (n - kn) qc) (n - kn) ((Z.drop kn).flatMap iA) (New w1) from ⟨hk4, hr4⟩); clear hr4 hk4 hk4b
 refine hK.out _ _ ?_ (fun hHeld => ?_)
 ·(try dsimp only); (first | exact HJ.out _ HA5.out.1 | exact HJ.out _ HA4.out.1 | exact HJ.out _ ((Kp.refl w1).drew.alloc _))
 clear hK K; (try simp only [Act.put,sI,sZ,sS])
 refine aF (i := 10) ?_
 refine aG (i := 10) rfl (fun K hK => ?_)
 refine yK (F := fun _ => False) (w0 := w1) aCx rfl _ _ rfl HA4.out.1 rfl HA4.out.2 rfl (HCt.out.ext (H1.out.1.trans HA4.out.1)) (by rw [pR iA 8 gO, List.length_take, HZ.out.2.1, Nat.min_eq_left (Nat.le_of_lt hk)]) (aBx _) (by omega) (by unfold maxLen; omega) ?_; intro v5 w5 hr5 hk5 hk5b; rw [j1, <- List.flatMap_append] at hr5; obtain ⟨ra, rc, rfl, _, _⟩ := hr5.shape; have HA5 := qH (show Ext w1 w5 /\ Row w5 60 8 (.slice ra n rc) n ((Z.drop kn ++ Z.take kn).flatMap iA) (New w1) from ⟨hk5, hr5⟩); clear hr5 hk5 hk5b
 refine hK.out _ _ ?_ (fun hHeld => ?_)
 ·(try dsimp only); (first | exact HJ.out _ HA5.out.1 | exact HJ.out _ HA4.out.1 | exact HJ.out _ ((Kp.refl w1).drew.alloc _))
 clear hK K; (try simp only [Act.put,sI,sZ,sS])
 refine dF 11 ?_; try simp only [Act.put,sI,sZ,sS]
 refine aF (i := 12) ?_
 refine aI (i := 12) rfl (by kernel_rfl) (fun K hK => ?_)
 (have y0 : w5.cell? ⟨gt, 2, none⟩ = some (.slice (some ⟨b, off, none⟩) n bcap) := (by rw [(H1.out.2.1.ext HA5.out.1).cell']; rfl); have y1 := (H1.out.2.1.ext HA5.out.1).free 2)
 go_simp
 refine hK.out _ _ ?_
 clear hK K; (try simp only [Act.put,sI,sZ,sS])
 refine aN (by kernel_rfl) ?_ _
 obtain ⟨w6, e6⟩ : ∃ x, w5.setCell ⟨gt, 2, none⟩ (.slice ra n rc) = x := ⟨_, rfl⟩
 rw [e6]
 have hbu := H1.out.2.1.ext HA5.out.1
 have k6 : Kp (fun k => k = gt) w5 w6 := by rw [<- e6]; exact Kp.setCell (F := fun k => k = gt) (p := ⟨gt, 2, none⟩) (Kp.refl w5) (fun _ => rfl) _
 have hb6 : Blk w6 gt [.string p, .slice ha hn hcap, .slice ra n rc] 43 := by rw [<- e6]; exact hbu.set 2 _
 have x6 : Ext W w6 := (H1.out.1.trans HA5.out.1).trans' k6 fun i hi e => by have e' : i = gt := e; have := H1.out.2.2.1; omega
 have hr6 : Row w6 60 8 (.slice ra n rc) n ((Z.drop kn ++ Z.take kn).flatMap iA) (New w1) := HA5.out.2.kp' k6 fun g _ hg e => by
  have e' : g = gt := e
  have hg2 : w1.heap.size ≤ g := hg
  have := H1.out.2.2.2
  omega
 have hmT : ∀ x ∈ Z.drop kn ++ Z.take kn, x ∈ Z := fun x hx => by
  rcases List.mem_append.1 hx with h | h
  ·exact List.mem_of_mem_drop h
  ·exact List.mem_of_mem_take h
 obtain ⟨a1, c1, q1, q2, q3⟩ := aG7 hr6 (fun x hx => HZ.out.2.2.1 x (hmT x hx)) (fun x hx => (HZ.out.2.2.2 x (hmT x hx)).kp x6 fun _ _ => id)
 cases q1
 rw [List.map_append, List.map_drop, List.map_take, HZ.out.1] at q2 q3
 obtain ⟨hN, hx, hhn, hh, hhl2, hbn, h, hf, hnv, hts, hB, hfw⟩ := HR.out
 obtain ⟨lt, elt⟩ : ∃ x, ls.drop kn ++ ls.take kn = x := ⟨_, rfl⟩
 have hml : ∀ l, l ∈ lt ↔ l ∈ ls := fun l => by
  rw [<- elt, List.mem_append, Or.comm, <- List.mem_append, List.take_append_drop]
 have hpt : eY (aU E1) lt ≤ 20000 := by
  rw [<- elt, aD8, List.take_append_drop]; exact vP hfw
 rw [elt] at q2 q3
 have hft : Fit lt := ⟨by rw [<- q2]; exact Nat.le_succ_of_le hl, fun l hl => hf.terms l ((hml l).1 hl)⟩
 have hnt : (aA lt).length ≤ 1048576 := Nat.le_trans ((bA lt).length_le_of_subset fun s hs => (dR hml s).2 hs) hnv
 have hBk : BaseOk (aU E1) := hB.ok
 have hko := aGh (r := ((p, hs, ()), ls, ())) hBk (vP hfw) hts
 have hkt := aGh (r := ((p, hs, ()), lt, ())) hBk hpt hts
 have hbl := Nat.le_trans (yO ((p, hs, ()), ls, ()) (aU E1)) (vP hfw)
 have HT := aCu (r := ((p, hs, ()), ls, ())) (r' := ((p, hs, ()), lt, ())) (C := aU E1) rfl hml (sE _ _) (sE _ _) (by omega)
 obtain ⟨⟨ee, A⟩, hM⟩ : ∃ x, cI ((p, hs, ()), ls, ()) false (aZ ((p, hs, ()), ls, ()) (aU E1)) = x := ⟨_, rfl⟩
 obtain ⟨⟨et, At⟩, hMt⟩ : ∃ x, cI ((p, hs, ()), lt, ()) false (aZ ((p, hs, ()), lt, ()) (aU E1)) = x := ⟨_, rfl⟩
 rw [hM, hMt] at HT
 have HEq := qH HT
 have HAl := qH (aE7 hM)
 have HF1 := qH (vQ (p := p) (hcap := hcap) (bcap := bcap) hhn (hh.ext x6) hhl2 hbn (h.ext x6) hf hnv (by omega) (.full b1 m1 E1 (hB.ext x6)) rfl (fun _ => hko) (hN.ext x6) hM)
 have HF2 := qH (fun X (hX : Ext w6 X) => vQ (p := p) (hcap := hcap) (bcap := rc) (G := TT) hhn ((hh.ext (x6.trans hX)).mono fun _ _ => trivial) hhl2 q2 (q3.ext hX) hft hnt (by omega) (.full b1 m1 E1 (hB.ext (x6.trans hX))) rfl (fun _ => hkt) (hN.ext (x6.trans hX)) hMt)
 have H6 := qH (show Ext w w6 /\ Blk w6 gt [.string p, .slice ha hn hcap, .slice ra n rc] 43 /\ NumW w6 from ⟨hx.trans x6, hb6, hN.ext x6⟩)
 have hb3 := H3.out.ext x6
 have a0 : w6.cell? ⟨g3, 0, none⟩ = some (.string p) := by rw [hb3.cell']; rfl
 have a1 : w6.cell? ⟨g3, 1, none⟩ = some (.slice ha hn hcap) := by rw [hb3.cell']; rfl
 have a2 : w6.cell? ⟨g3, 2, none⟩ = some (.slice (some ⟨b, off, none⟩) n bcap) := by rw [hb3.cell']; rfl
 clear e6 hbu k6 hb6 x6 hr6 hmT q2 q3 hN hx hhn hh hhl2 hbn h hf hnv hts hB hfw elt hml hpt hft hnt hBk hko hkt hbl HT hM hMt hb3 y0 y1 HA5 HA4 HJ hHeld i1 i2 i3 i4 i5 i6 j1
 go_wp2_with fail
 refine HF1.out.mono ?_
 rintro e w7 ⟨v7, rfl, hk7, hO7⟩
 have X7 := qH hk7
 have a0 : w7.cell? ⟨gt, 0, none⟩ = some (.string p) := by rw [(H6.out.2.1.ext hk7).cell']; rfl
 have a1 : w7.cell? ⟨gt, 1, none⟩ = some (.slice ha hn hcap) := by rw [(H6.out.2.1.ext hk7).cell']; rfl
 have a2 : w7.cell? ⟨gt, 2, none⟩ = some (.slice ra n rc) := by rw [(H6.out.2.1.ext hk7).cell']; rfl
 obtain ⟨xa, xn, xc, ev7, hR7⟩ : ∃ xa xn xc, v7 = .tuple #[.slice xa xn xc, .int .i64 (ee : Nat)] /\ ∃ S, xn = (if ee = 0 then A else []).length /\ RowsIn S w7 xa (if ee = 0 then A else []) := hO7.shape
 subst ev7
 have HR7 := qH hR7
 clear hk7 hO7 hR7
 go_wp2_with fail
 refine (HF2.out w7 X7.out).mono ?_
 rintro e w8 ⟨v8, rfl, hk8, hO8⟩
 have X8 := qH hk8
 obtain ⟨ya, yn, yc, ev8, hR8⟩ : ∃ xa xn xc, v8 = .tuple #[.slice xa xn xc, .int .i64 (et : Nat)] /\ ∃ S, xn = (if et = 0 then At else []).length /\ RowsIn S w8 xa (if et = 0 then At else []) := hO8.shape
 subst ev8
 obtain ⟨S7, n7, r7⟩ := HR7.out
 obtain ⟨S8, n8, r8⟩ := hR8
 have ee2 : et = ee := HEq.out.1.symm
 subst ee2
 have hAA : (if et = 0 then At else []) = (if et = 0 then A else []) := by
  by_cases h0 : et = 0
  ·rw [if_pos h0, if_pos h0]; exact (HEq.out.2 h0).symm
  ·rw [if_neg h0, if_neg h0]
 rw [hAA] at n8 r8
 have HAl2 := qH (sK (w := w8) (acap := xc) (bcap := yc) n7 n8 (r7.ext hk8) r8 (by have := HAl.out; rw [n7]; split <;> simp <;> omega))
 have X8' := qH (H6.out.1.trans (X7.out.trans hk8))
 have HNw := qH (H6.out.2.2.ext (X7.out.trans hk8))
 clear hk8 hO8 n7 r7 n8 r8 hAA a0 a1 a2
 go_wp2_with fail
 refine HAl2.out.mono ?_
 rintro e w9 ⟨v9, rfl, hk9, rfl⟩
 rw [decide_true]
 have X9 := qH (And.intro (X8'.out.trans hk9) (HNw.out.ext hk9))
 clear hk9
 go_wp2_with fail
 refine (nD w9 X9.out.2).mono ?_
 rintro e wA ⟨vA, rfl, hkA, rfl⟩
 have XA := qH (X9.out.1.trans hkA)
 clear hkA
 go_wp2
 go_ret
 exact RetN.mk XA.out rfl
set_option maxHeartbeats 16000000 in
theorem aBk {w : World} {p : ByteArray} {hs : List aE} {ls : List aM} {ha ba la : Option Addr} {hn hcap n bcap ln lc : Nat} {G : Nat -> Prop} {L1 : List lS} {k : Int} (hN : NumW w) (hhn : hn = hs.length) (hh : bD w G ha hs) (hhl : hn ≤ 1048576) (hbn : n = ls.length) (h : cF w G ba ls) (hf : Fit ls) (hnv : (aA ls).length ≤ 1048576)
 (hnc : n ≤ bcap) (hcm : bcap ≤ maxLen) (hl : n ≤ 1048575) (hts : ∀ t ∈ hs, t.2.1.size ≤ 1048576)
 (hln : ln = L1.length) (hL1 : RelsIn TT w la L1) (hll : ln ≤ 1048576) (hr1 : ∀ q ∈ L1, q.2.2.1.length ≤ 1048576) :
 Calls Tryz.prog 5 #[dN p ha hn hcap ba n bcap, .slice la ln lc, .int .i64 k] w (RetN w fun w' v => v = .bool true) := by
 have HE := qH h; have HF := qH hf; have HN := qH hbn
 have HH := qH (And.intro hh (And.intro hhn hhl))
 have HM := qH (And.intro hnv (And.intro hnc (And.intro hcm (And.intro hl (And.intro hts hN)))))
 have HFr := qH (fun (W : World) (hW : Ext w W) => aCk L1 la ln lc W TT hln (hL1.ext hW) (by omega) hr1)
 have HFw := qH (fun (W : World) (hW : Ext w W) (S : Nat -> Prop) (v : Value) (E : List Ent) (hB : BaseV S W v E) => aH1 (p := p) (hs := hs) (hn := hn) (hcap := hcap) (bcap := bcap) (ha := ha) hbn (h.ext hW) hf hB)
 obtain ⟨g0, eg0⟩ : ∃ g, w.heap.size = g := ⟨_, rfl⟩
 obtain ⟨w1, e1⟩ : ∃ x, w.alloc (.cells #[.string p, .slice ha hn hcap, .slice ba n bcap] 43) = x := ⟨_, rfl⟩
 have hB1 : Blk w1 g0 [.string p, .slice ha hn hcap, .slice ba n bcap] 43 := by rw [<- e1, <- eg0]; exact Blk.new w _ _
 have hx1 : Ext w w1 := by rw [<- e1]; exact (Kp.refl w).alloc _
 have H1 := qH (And.intro hx1 hB1)
 have hnl : n ≤ 1048575 := hl
 clear hB1 hx1 hhn hh hhl hbn h hf hnv hnc hcm hl hts hln hL1 hll hr1 hN
 go_enter Tryz.func5, Tryz.ntmps5
 go_wp2_with fail
 clear e1 eg0
 refine (HFr.out w1 H1.out.1).mono ?_
 rintro e w2 ⟨v2, rfl, hk2, hv2⟩
 have H2 := qH (And.intro (H1.out.1.trans hk2) (H1.out.2.ext hk2))
 clear hk2
 by_cases he : (gS [] L1).2 = 0
 rotate_left
 ·have ev := hv2.2 he
  subst ev
  obtain ⟨ez, eez⟩ : ∃ x, (gS [] L1).2 = x := ⟨_, rfl⟩
  rw [eez] at he ⊢
  have h0 : ((ez : Int) != 0) = true := by simp; omega
  clear eez hv2 he
  go_wp2_with fail
  refine (nP (ez : Nat) w2).mono ?_
  rintro e w3 ⟨v3, rfl, hk3, rfl⟩
  have X3 := qH (H2.out.1.trans hk3)
  clear hk3
  go_wp2_with fail
  refine (nD w3 (HM.out.2.2.2.2.2.ext X3.out)).mono ?_
  rintro e w4 ⟨v, rfl, hk4, rfl⟩
  have X4 := qH (X3.out.trans hk4)
  clear hk4
  go_wp2
  go_ret
  exact RetN.mk X4.out rfl
 obtain ⟨b1, m1, S1, E1, rfl, hA1, -, -, -⟩ := hv2.1 he
 clear hv2 he
 have HA := qH hA1
 clear hA1
 go_wp2_with fail
 refine (nP 0 w2).mono ?_
 rintro e w3 ⟨v3, rfl, hk3, rfl⟩
 have H3 := qH (show Ext w w3 /\ Blk w3 g0 [.string p, .slice ha hn hcap, .slice ba n bcap] 43 /\ BaseAt S1 w3 b1 m1 E1 from ⟨H2.out.1.trans hk3, H2.out.2.ext hk3, HA.out.ext hk3⟩)
 have HFe := qH (HFw.out w3 H3.out.1 S1 (.pointer (some ⟨b1, 0, none⟩)) E1 (.full b1 m1 E1 H3.out.2.2))
 have r0 : w3.cell? ⟨g0, 0, none⟩ = some (.string p) := by rw [H3.out.2.1.cell']; rfl
 have r1 : w3.cell? ⟨g0, 1, none⟩ = some (.slice ha hn hcap) := by rw [H3.out.2.1.cell']; rfl
 have r2 : w3.cell? ⟨g0, 2, none⟩ = some (.slice ba n bcap) := by rw [H3.out.2.1.cell']; rfl
 obtain ⟨fb, efb⟩ : ∃ b, zY (aU E1) ls = b := ⟨_, rfl⟩
 rw [efb] at HFe
 have HFb := qH efb
 clear hk3 efb
 go_wp2_with fail
 refine HFe.out.mono ?_
 rintro e w4 ⟨v, rfl, hk4, rfl⟩
 have H4 := qH (show Ext w w4 /\ Blk w4 g0 [.string p, .slice ha hn hcap, .slice ba n bcap] 43 /\ BaseAt S1 w4 b1 m1 E1 from ⟨H3.out.1.trans hk4, H3.out.2.1.ext hk4, H3.out.2.2.ext hk4⟩)
 have s2 : w4.cell? ⟨g0, 2, none⟩ = some (.slice ba n bcap) := by rw [H4.out.2.1.cell']; rfl
 clear hk4 r0 r1 r2
 by_cases hor : fb = false \/ n = 0
 ·have HAw := qH (nD w4 (HM.out.2.2.2.2.2.ext H4.out.1))
  rcases hor with rfl | hn0
  ·go_wp2_with fail
   refine HAw.out.mono ?_
   rintro e w5 ⟨v, rfl, hk5, rfl⟩
   have X5 := qH (H4.out.1.trans hk5)
   clear hk5
   go_wp2
   go_ret
   exact RetN.mk X5.out rfl
  ·have hn1 : ((n : Int) == 0) = true := by simp; omega
   clear hn0
   cases fb
   ·go_wp2_with fail
    refine HAw.out.mono ?_
    rintro e w5 ⟨v, rfl, hk5, rfl⟩
    have X5 := qH (H4.out.1.trans hk5)
    clear hk5
    go_wp2
    go_ret
    exact RetN.mk X5.out rfl
   ·go_wp2_with fail
    refine HAw.out.mono ?_
    rintro e w5 ⟨v, rfl, hk5, rfl⟩
    have X5 := qH (H4.out.1.trans hk5)
    clear hk5
    go_wp2
    go_ret
    exact RetN.mk X5.out rfl
 have hfb : fb = true := by cases fb; exact absurd (.inl rfl) hor; rfl
 subst hfb
 have hn0 : ¬ n = 0 := fun e => hor (.inr e)
 have hn1 : ((n : Int) == 0) = false := by simp; omega
 clear hor
 obtain ⟨hkk, hkn⟩ := aHb k n (by omega)
 have hn00 : (n : Int) ≠ 0 := by omega
 have b1x : k.tmod n < n := Int.tmod_lt_of_pos k (by omega)
 have b2x : -(n : Int) < k.tmod n := by
  have h1 := Int.tmod_eq_emod (a := k) (b := n)
  have h3 := Int.emod_lt_of_pos k (show (0 : Int) < n by omega)
  have h4 := Int.emod_nonneg k hn00
  have h5 : (n : Int).natAbs = n := by omega
  rw [h5] at h1
  split at h1 <;> omega
 have e1 : IntKind.i64.wrap (k.tmod n) = k.tmod n := IntWalk.i64_in _ (by omega)
 have HKk := qH (And.intro hkk hkn)
 clear hkk hkn
 rename_i K2 hK2 K1 hK1 K0 hK0
 have HKK := qH hK2
 clear hK2
 go_wp2_with fail
 refine HKK.out _ _ ?_
 show Code.wp _ (Code.seq _ (Code.seq _ aGf)) _ _ _
 have HTl := qH (fun (kn : Nat) (t : Array Value) (hk : kn < n) => aJl (S1 := S1) (G := G) (t := t) (HM.out.2.2.2.2.2.ext H4.out.1) H4.out.1 HH.out.2.1 (HH.out.1.ext H4.out.1) HH.out.2.2 HN.out (HE.out.ext H4.out.1) HF.out HM.out.1 HM.out.2.1 HM.out.2.2.1 HM.out.2.2.2.1 HM.out.2.2.2.2.1 H4.out.2.2 HFb.out hk H4.out.2.1)
 by_cases hk0 : k.tmod n < 0
 ·have e2 : IntKind.i64.wrap (k.tmod n + n) = k.tmod n + n := IntWalk.i64_in _ (by omega)
  go_wp2_with fail
  obtain ⟨kn, hkn, hkn2⟩ : ∃ kn : Nat, k.tmod n + n = (kn : Int) /\ kn < n := ⟨tZ k n, by rw [HKk.out.1, if_pos hk0], HKk.out.2⟩
  rw [hkn]
  exact HTl.out kn _ hkn2 rfl rfl rfl rfl
 ·have hk0' : 0 ≤ k.tmod n := by omega
  go_wp2_with fail
  obtain ⟨kn, hkn, hkn2⟩ : ∃ kn : Nat, k.tmod n = (kn : Int) /\ kn < n := ⟨tZ k n, by rw [HKk.out.1, if_neg (Int.not_lt.2 hk0')], HKk.out.2⟩
  rw [hkn]
  exact HTl.out kn _ hkn2 rfl rfl rfl rfl
end
section
open Go.ChangeShapes Go.WideShapes Go.ChangeAt Go.RowKit
noncomputable def shT : Shp Tryz.prog ByteArray := aA1 9 Tryz.underlying9 (by kernel_rfl)
noncomputable def aA0 : Shp Tryz.prog (List ByteArray) := oY 66 shT Tryz.underlying66 (by kernel_rfl) (by decide)
noncomputable def shTss : Shp Tryz.prog (List (List ByteArray)) := oY 51 aA0 Tryz.underlying51 (by kernel_rfl) (by decide)
noncomputable def nY : Shp Tryz.prog lS := mF 111 (fN shT (fN (aGa 3 .i64 Tryz.underlying3 (by kernel_rfl)) (fN shTss aCs))) (fs := _) Tryz.underlying111 ⟨_, _, rfl, rfl, rfl, _, _, rfl, rfl, rfl, _, _, rfl, rfl, rfl, rfl⟩ (by kernel_rfl)
theorem aB0 {α β : Type} {P : Nat -> α -> β -> Prop} : ∀ (L : List α), (∀ i x, L[i]? = some x -> ∃ y, P i x y) -> ∃ ys : List β, ys.length = L.length /\ ∀ (i : Nat) (x : α) (y : β), L[i]? = some x -> ys[i]? = some y -> P i x y := by
 intro L
 induction L generalizing P with
 | nil => exact fun _ => ⟨[], rfl, fun i x y h => by simp at h⟩
 | cons a L ih =>
  intro h
  obtain ⟨y0, h0⟩ := h 0 a rfl
  obtain ⟨ys, h1, h2⟩ := ih (P := fun i x y => P (i + 1) x y) fun i x hx => h (i + 1) x (by simpa using hx)
  refine ⟨y0 :: ys, by simp [h1], fun i x y hx hy => ?_⟩
  cases i with
  | zero => simp at hx hy; subst hx; subst hy; exact h0
  | succ i => exact h2 i x y (by simpa using hx) (by simpa using hy)
theorem aFa {w : World} {G : Nat -> Prop} {ao : Option Addr} {LL : List (List ByteArray)} (h : ElemsAt aA0 w G ao LL) (hl : ∀ ss ∈ LL, ss.length ≤ 8796093021952) : RowsIn (fun _ => True) w ao LL := by
 have h1 : ∀ (i : Nat) (ss : List ByteArray), LL[i]? = some ss -> ∃ p : Option Addr × Nat × Nat, ∃ b off, ao = some ⟨b, off, none⟩ /\ w.cell? ⟨b, off + i, none⟩ = some (.slice p.1 p.2.1 p.2.2) /\ p.2.1 = ss.length /\ CellsAt w p.1 (strs ss) := fun i ss hi => by
  obtain ⟨b, off, es, e, _, _, ⟨a1, c1, ee, hl, _, hc⟩, hcell⟩ := h i ss hi
  refine ⟨(a1, ss.length, c1), b, off, e, ?_, rfl, aE9 (hu := Tryz.underlying9) (hc := by kernel_rfl) hc⟩
  have := hcell 0 (.slice a1 ss.length c1) (by rw [ee]; rfl)
  rw [show aA0.n = 1 from rfl, Nat.mul_one, Nat.add_zero] at this
  exact this
 obtain ⟨qs, hq, hP⟩ := aB0 LL h1
 have hz : ∀ p ∈ qs.zip LL, ReadsAs w p.1 p.2 /\ p.2.length ≤ 8796093021952 /\ ∀ a, p.1.1 = some a -> True := fun p hp => by
  obtain ⟨i, hi, e⟩ := List.getElem_of_mem hp
  have h2 : (qs.zip LL)[i]? = some p := by rw [qG hi, e]
  obtain ⟨h3, h4⟩ := List.getElem?_zip_eq_some.1 h2
  obtain ⟨b, off, _, _, h5, h6⟩ := hP i _ _ h4 h3
  exact ⟨⟨h5, h6⟩, hl _ (List.mem_of_getElem? h4), fun _ _ => trivial⟩
 refine ⟨qs.zip LL, ?_, fun i u hu => ?_, fun _ _ => trivial, hz⟩
 ·rw [List.map_snd_zip (by omega)]
 ·cases hp : (qs.zip LL)[i]? with
  | none => rw [show (dZ (qs.zip LL))[i]? = ((qs.zip LL)[i]?).map _ from List.getElem?_map .., hp] at hu; cases hu
  | some p =>
   rw [qM _ _ _ hp] at hu
   cases hu
   obtain ⟨h3, h4⟩ := List.getElem?_zip_eq_some.1 hp
   obtain ⟨b, off, e, hc, _⟩ := hP i _ _ h4 h3
   exact ⟨b, off, e, hc⟩
theorem aFb {w : World} {G : Nat -> Prop} {ao : Option Addr} {L : List lS} (h : ElemsAt nY w G ao L) (hl : ∀ q ∈ L, ∀ ss ∈ q.2.2.1, ss.length ≤ 8796093021952) : RelsIn (fun _ => True) w ao L := fun i q hq => by
 obtain ⟨b, off, es, e, _, _, hat, hcell⟩ := h i q hq
 obtain ⟨x1, y1, e1, ⟨ex1, _⟩, x2, y2, e2, ⟨ex2, _⟩, x3, y3, e3, ⟨ra, rcap, ex3, r1, r2, r3⟩, e4⟩ := hat
 have e4' : y3 = [] := e4
 have ee : es = [.string q.1, .int .i64 q.2.1, .slice ra q.2.2.1.length rcap] := by
  rw [e1, ex1, e2, ex2, e3, ex3, e4']; rfl
 have hc : ∀ c u, es[c]? = some u -> w.cell? ⟨b, off + i * 3 + c, none⟩ = some u := fun c u hu => by
  have := hcell c u hu
  rw [show nY.n = 3 from rfl, <- Nat.add_assoc] at this
  exact this
 exact ⟨b, off, ra, rcap, e, trivial, hc 0 _ (by rw [ee]; rfl), hc 1 _ (by rw [ee]; rfl), hc 2 _ (by rw [ee]; rfl), r1, r2, aFa r3 (hl q (List.mem_of_getElem? hq))⟩
theorem aJg {L : List lS} {N : Nat} (h : dB nY.bulk L ≤ N) : L.length ≤ N /\ ∀ q ∈ L, q.2.2.1.length ≤ N /\ ∀ ss ∈ q.2.2.1, ss.length ≤ N := by
 refine ⟨Nat.le_trans (fD nY.bulk (fun x => by show 1 ≤ _ + 1; omega) L) h, fun q hq => ?_⟩
 have h1 : nY.bulk q ≤ N := Nat.le_trans (gA nY.bulk hq) h
 have h2 : shT.bulk q.1 + (1 + ((dB aA0.bulk q.2.2.1 + 1) + 0)) + 1 ≤ N := h1
 have h3 := fD aA0.bulk (fun x => by show 1 ≤ _ + 1; omega) q.2.2.1
 refine ⟨by omega, fun ss hs => ?_⟩
 have h4 : aA0.bulk ss ≤ _ := gA aA0.bulk hs
 have h5 : dB shT.bulk ss + 1 ≤ dB aA0.bulk q.2.2.1 := h4
 have h6 := fD shT.bulk (fun x => by show 1 ≤ _ + 1; omega) ss
 omega
end
end Go.Proofs.YtikgpedgmnbcaaaGreatDoor
