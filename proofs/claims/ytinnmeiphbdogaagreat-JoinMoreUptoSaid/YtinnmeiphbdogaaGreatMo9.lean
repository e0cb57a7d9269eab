/- Texts joined for a claim (BaseAdd, BaseAdd2, BaseDecl, BaseFrom, JGiven, JOver, MergePlain, JMorePlain, JBase, JFew, JSubset, JPath, JAwake, MapIter). -/
import Derived.Test.YtinnmeiphbdogaaGreatMo8
import Derived.Laws.IdiomRangeMap
set_option linter.unusedVariables false
set_option linter.unusedSimpArgs false
/- tuple.Base: Add, at every base. -/
namespace Go.Proofs.YtinnmeiphbdogaaGreat
open Go.RowKit
theorem aIj {C : List aV} {s : ByteArray} (row : List ByteArray) (h : bY s = false) : eO C s row = (false, 32) := if_pos h
theorem aIk {C : List aV} {s : ByteArray} {row : List ByteArray} (h : bY s = true) (hg : bD C s = none) (hl : 64 < row.length) : eO C s row = (false, 30) := by
 unfold eO
 rw [if_neg (by rw [h]; simp), if_pos (by unfold rH; rw [hg]; exact decide_eq_false (by omega))]
theorem aFe {C : List aV} {s : ByteArray} {row : List ByteArray} {v : Nat × aD} (h : bY s = true) (hg : bD C s = some v) (hl : v.1 ≠ row.length) : eO C s row = (false, 30) := by
 unfold eO
 rw [if_neg (by rw [h]; simp), if_pos (by unfold rH; rw [hg]; exact decide_eq_false hl)]
theorem zF {C : List aV} {s : ByteArray} {row : List ByteArray} (h : bY s = true) (hg : rH C s row = true) (ht : bQ row = false) : eO C s row = (false, 31) := by
 unfold eO
 rw [if_neg (by rw [h]; simp), if_neg (by rw [hg]; simp), if_pos ht]
theorem zG {C : List aV} {s : ByteArray} {row : List ByteArray} (h : bY s = true) (hg : rH C s row = true) (ht : bQ row = true) (hm : 262144 ≤ aS C) (hi : bC aC (aP C s) row = false) : eO C s row = (false, 4) := by
 unfold eO
 rw [if_neg (by rw [h]; simp), if_neg (by rw [hg]; simp), if_neg (by rw [ht]; simp), if_pos ⟨hm, hi⟩]
theorem oR {C : List aV} {s : ByteArray} {row : List ByteArray} (h : bY s = true) (hg : rH C s row = true) (ht : bQ row = true) (hm : ¬ (262144 ≤ aS C /\ bC aC (aP C s) row = false)) :
 eO C s row = if 65536 ≤ (aP C s).length /\ bC aC (aP C s) row = false then (false, 4) else (!bC aC (aP C s) row, 0) := by
 unfold eO
 rw [if_neg (by rw [h]; simp), if_neg (by rw [hg]; simp), if_neg (by rw [ht]; simp), if_neg hm]
theorem rG {C : List aV} {s : ByteArray} {row : List ByteArray} {v : Nat × aD} (hg : bD C s = some v) (h : v.1 = row.length) : rH C s row = true := by unfold rH; rw [hg]; exact decide_eq_true h
theorem aAp {C : List aV} {s : ByteArray} {row : List ByteArray} (hg : bD C s = none) (h : row.length ≤ 64) : rH C s row = true := by unfold rH; rw [hg]; exact decide_eq_true h
theorem aC9 {C : List aV} {s : ByteArray} {row : List ByteArray} (h : (eO C s row).2 ≠ 0) : mA C s row = C := if_neg h
section
variable {S S' : Nat -> Prop} {w w1 w2 w3 w4 : World} {bb r : Nat} {E : List Ent} {s : ByteArray} {ss : List ByteArray} {e : Ent} {iv' : Value}
def BaseAdded (S : Nat -> Prop) (w : World) (bb r : Nat) (E : List Ent) (s : ByteArray) (ss : List ByteArray) (w' : World) (v : Value) : Prop :=
 v = .tuple #[.bool (eO (aE E) s ss).1, .int .i64 ((eO (aE E) s ss).2 : Nat)] /\ ∃ S' E', (∀ k, S k -> S' k) /\ (∀ k, S' k -> S k \/ w.heap.size ≤ k) /\ BaseAt S' w' bb r E' /\ aE E' = mA (aE E) s ss /\ ∀ k, dX bb r E' k -> dX bb r E k \/ w.heap.size ≤ k
theorem BaseAdded.same (h : BaseAt S w bb r E) (hk : Ext w w1) {n : Nat} (hR : eO (aE E) s ss = (false, n)) (hn : n ≠ 0) {v : Value} (hv : v = .tuple #[.bool false, .int .i64 (n : Nat)]) : BaseAdded S w bb r E s ss w1 v :=
 ⟨by rw [hv, hR], S, E, fun _ h => h, fun _ h => .inl h, h.ext hk, (aC9 (by rw [hR]; exact hn)).symm, fun _ h => .inl h⟩
theorem vF {pre post : List Ent} (hiv : ∀ k, iv'.ownBlock = some k -> e.iv.ownBlock = some k \/ w.heap.size ≤ k) (LL' : List (List ByteArray)) : ∀ k, dX bb r (pre ++ { e with iv := iv', LL := LL' } :: post) k -> dX bb r (pre ++ e :: post) k \/ w.heap.size ≤ k := by
 rintro k (h | h | ⟨f, hf, ho⟩)
 ·exact .inl (.inl h)
 ·exact .inl (.inr (.inl h))
 ·rcases List.mem_append.1 hf with hf | hf
  ·exact .inl (.inr (.inr ⟨f, List.mem_append_left _ hf, ho⟩))
  ·rcases List.mem_cons.1 hf with rfl | hf
   ·rcases ho with ho | ho
    ·exact .inl (.inr (.inr ⟨e, List.mem_append_right _ List.mem_cons_self, .inl ho⟩))
    ·rcases hiv k ho with h2 | h2
     ·exact .inl (.inr (.inr ⟨e, List.mem_append_right _ List.mem_cons_self, .inr h2⟩))
     ·exact .inr h2
   ·exact .inl (.inr (.inr ⟨f, List.mem_append_right _ (List.mem_cons_of_mem _ hf), ho⟩))
theorem oB (h : BaseAt S w bb r E) (he : aY E s = some e) (hx : Ext w w2) (hk : Kp e.own w2 w3) : MapIs w3 r (cJ E) := (h.map.ext hx).kp hk fun ho => (h.off e (bP he).1 r ho).2 rfl
theorem iE (h : BaseAt S w bb r E) (he : aY E s = some e) (hx : Ext w w2) (hk : Kp e.own w2 w3) : Blk w3 bb [.map (some r), .int .i64 (aS (aE E) : Nat)] 129 := (h.blk.ext hx).kp hk fun ho => (h.off e (bP he).1 bb ho).1 rfl
theorem rE {LL : List (List ByteArray)} (h : BaseAt S w bb r E) (he : aY E s = some e) (hf : bY s = true /\ e.ar = ss.length /\ bQ ss = true /\ e.LL = LL /\ ¬ (262144 ≤ aS (aE E) /\ bC aC LL ss = false)) (hx : Ext w w2) (hk : Kp e.own w2 w3) (hss : ∀ k, S k -> S' k) (hsn : ∀ k, S' k -> S k \/ w2.heap.size ≤ k)
 (hr : RowsAt S' w3 e.b iv' e.ar (bM e.ar LL ss)) (hiv : ∀ k, iv'.ownBlock = some k -> e.iv.ownBlock = some k \/ w2.heap.size ≤ k) (h0 : aZ e.ar LL ss = if 65536 ≤ LL.length /\ bC aC LL ss = false then (false, 4) else (!bC aC LL ss, 0)) (h4 : 65536 ≤ LL.length /\ bC aC LL ss = false) :
 RetF (dX bb r E) w (BaseAdded S w bb r E s ss) (.returned (.tuple #[.bool false, .int .i64 4])) w3 := by
 obtain ⟨f1, f2, f3, f4, f5⟩ := hf
 obtain ⟨g1, g2⟩ := eE he
 have hL : bM e.ar LL ss = LL := by unfold bM; rw [h0, if_pos h4]; rfl
 rw [hL] at hr
 have hR : eO (aE E) s ss = (false, 4) := by
  rw [oR f1 (rG g1 f2) f3 (by rw [g2, f4]; exact f5), g2, f4, if_pos h4]
 have hC : mA (aE E) s ss = aE E := aC9 (by rw [hR]; decide)
 obtain ⟨pre, post, rfl⟩ := jY he
 have hem : e ∈ pre ++ e :: post := List.mem_append_right _ List.mem_cons_self
 have hkw : Kp e.own w w3 := (Ext.kp hx).trans hk
 have hz := hx.size
 have hs2 : ∀ k, S' k -> S k \/ w.heap.size ≤ k := fun k hk' => (hsn k hk').imp id fun q => Nat.le_trans hz q
 have hiv2 : ∀ k, iv'.ownBlock = some k -> e.iv.ownBlock = some k \/ w.heap.size ≤ k := fun k hk' => (hiv k hk').imp id fun q => Nat.le_trans hz q
 have hsame : aE (pre ++ { e with iv := iv', LL := LL } :: post) = aE (pre ++ e :: post) := by
  rw [<- f4]; simp [aE, Ent.cnt]
 refine RetF.mk (hkw.mono fun k _ ho => .inr (.inr ⟨e, hem, ho⟩)) ⟨by rw [hR]; rfl, S', pre ++ { e with iv := iv', LL := LL } :: post, hss, hs2, ?_, by rw [hC, hsame], vF hiv2 LL⟩
 exact h.turn hkw hss hs2 hr hiv2 (Kp.refl _) (oB h he hx hk) (iE h he hx hk) (by rw [hsame]) (by rw [hsame]; exact h.ok)
theorem tP {LL : List (List ByteArray)} (h : BaseAt S w bb r E) (he : aY E s = some e) (hf : bY s = true /\ e.ar = ss.length /\ bQ ss = true /\ e.LL = LL /\ ¬ (262144 ≤ aS (aE E) /\ bC aC LL ss = false)) (hx : Ext w w2) (hk : Kp e.own w2 w3) (hss : ∀ k, S k -> S' k) (hsn : ∀ k, S' k -> S k \/ w2.heap.size ≤ k)
 (hr : RowsAt S' w3 e.b iv' e.ar (bM e.ar LL ss)) (hiv : ∀ k, iv'.ownBlock = some k -> e.iv.ownBlock = some k \/ w2.heap.size ≤ k) (h0 : aZ e.ar LL ss = if 65536 ≤ LL.length /\ bC aC LL ss = false then (false, 4) else (!bC aC LL ss, 0)) (hi : bC aC LL ss = true)
 (hk4 : Kp (fun k => k = r) w3 w4) (hm4 : MapIs w4 r (jE (cJ E) s (.pointer (some ⟨e.b, 0, none⟩)))) : RetF (dX bb r E) w (BaseAdded S w bb r E s ss) (.returned (.tuple #[.bool false, .int .i64 0])) w4 := by
 obtain ⟨f1, f2, f3, f4, f5⟩ := hf
 obtain ⟨g1, g2⟩ := eE he
 have hn4 : ¬ (65536 ≤ LL.length /\ bC aC LL ss = false) := fun k => by rw [hi] at k; cases k.2
 have hadd : bJ aC LL ss = LL := by unfold bJ; rw [if_pos hi]
 have hL : bM e.ar LL ss = LL := by unfold bM; rw [h0, if_neg hn4]; exact hadd
 rw [hL] at hr
 have hR : eO (aE E) s ss = (false, 0) := by
  rw [oR f1 (rG g1 f2) f3 (by rw [g2, f4]; exact f5), g2, f4, if_neg hn4, hi]; rfl
 have hnd := h.ok.nodup
 rw [show jE (cJ E) s (.pointer (some ⟨e.b, 0, none⟩)) = cJ E from aCs he (by rw [jH]; exact hnd)] at hm4
 obtain ⟨pre, post, rfl⟩ := jY he
 have hem : e ∈ pre ++ e :: post := List.mem_append_right _ List.mem_cons_self
 have hkw : Kp e.own w w3 := (Ext.kp hx).trans hk
 have hz := hx.size
 have hs2 : ∀ k, S' k -> S k \/ w.heap.size ≤ k := fun k hk' => (hsn k hk').imp id fun q => Nat.le_trans hz q
 have hiv2 : ∀ k, iv'.ownBlock = some k -> e.iv.ownBlock = some k \/ w.heap.size ≤ k := fun k hk' => (hiv k hk').imp id fun q => Nat.le_trans hz q
 have hsame : aE (pre ++ { e with iv := iv', LL := LL } :: post) = aE (pre ++ e :: post) := by
  rw [<- f4]; simp [aE, Ent.cnt]
 have hC : mA (aE (pre ++ e :: post)) s ss = aE (pre ++ { e with iv := iv', LL := LL } :: post) := by
  unfold mA
  rw [if_pos (by rw [hR]), g2, f4, hadd, <- f2]
  exact aCw he hnd iv' LL
 refine RetF.mk ((hkw.mono fun k _ ho => .inr (.inr ⟨e, hem, ho⟩)).trans (hk4.mono fun k _ ho => .inr (.inl ho))) ⟨by rw [hR]; rfl, S', pre ++ { e with iv := iv', LL := LL } :: post, hss, hs2, ?_, hC.symm, vF hiv2 LL⟩
 exact h.turn hkw hss hs2 hr hiv2 (hk4.mono fun k _ ho => .inr ho) hm4 ((iE h he hx hk).kp hk4 h.ne) (by rw [hsame]) (by rw [hsame]; exact h.ok)
theorem tQ {LL : List (List ByteArray)} {n : Nat} (h : BaseAt S w bb r E) (he : aY E s = some e) (hf : bY s = true /\ e.ar = ss.length /\ bQ ss = true /\ e.LL = LL /\ ¬ (262144 ≤ aS (aE E) /\ bC aC LL ss = false)) (hx : Ext w w2) (hk : Kp e.own w2 w3) (hss : ∀ k, S k -> S' k) (hsn : ∀ k, S' k -> S k \/ w2.heap.size ≤ k)
 (hr : RowsAt S' w3 e.b iv' e.ar (bM e.ar LL ss)) (hiv : ∀ k, iv'.ownBlock = some k -> e.iv.ownBlock = some k \/ w2.heap.size ≤ k) (h0 : aZ e.ar LL ss = if 65536 ≤ LL.length /\ bC aC LL ss = false then (false, 4) else (!bC aC LL ss, 0)) (hi : bC aC LL ss = false) (hn4 : ¬ (65536 ≤ LL.length /\ bC aC LL ss = false))
 (hk4 : Kp (fun k => k = r) w3 w4) (hm4 : MapIs w4 r (jE (cJ E) s (.pointer (some ⟨e.b, 0, none⟩)))) (en : aS (aE E) = n) : RetF (dX bb r E) w (BaseAdded S w bb r E s ss) (.returned (.tuple #[.bool true, .int .i64 0])) (w4.setCell ⟨bb, 1, none⟩ (.int .i64 ((n : Int) + 1))) := by
 obtain ⟨f1, f2, f3, f4, f5⟩ := hf
 obtain ⟨g1, g2⟩ := eE he
 have hL : bM e.ar LL ss = bJ aC LL ss := by unfold bM; rw [h0, if_neg hn4]; rfl
 rw [hL] at hr
 have hR : eO (aE E) s ss = (true, 0) := by
  rw [oR f1 (rG g1 f2) f3 (by rw [g2, f4]; exact f5), g2, f4, if_neg hn4, hi]; rfl
 have hnd := h.ok.nodup
 rw [show jE (cJ E) s (.pointer (some ⟨e.b, 0, none⟩)) = cJ E from aCs he (by rw [jH]; exact hnd)] at hm4
 obtain ⟨pre, post, rfl⟩ := jY he
 have hem : e ∈ pre ++ e :: post := List.mem_append_right _ List.mem_cons_self
 have hkw : Kp e.own w w3 := (Ext.kp hx).trans hk
 have hz := hx.size
 have hs2 : ∀ k, S' k -> S k \/ w.heap.size ≤ k := fun k hk' => (hsn k hk').imp id fun q => Nat.le_trans hz q
 have hiv2 : ∀ k, iv'.ownBlock = some k -> e.iv.ownBlock = some k \/ w.heap.size ≤ k := fun k hk' => (hiv k hk').imp id fun q => Nat.le_trans hz q
 have hset := aCw he hnd iv' (bJ aC LL ss)
 have hC : mA (aE (pre ++ e :: post)) s ss = aE (pre ++ { e with iv := iv', LL := bJ aC LL ss } :: post) := by
  unfold mA
  rw [if_pos (by rw [hR]), g2, f4, <- f2]
  exact hset
 have htot : n + 1 = aS (aE (pre ++ { e with iv := iv', LL := bJ aC LL ss } :: post)) := by
  have h1 := xP hnd (s := s) (v := (e.ar, bJ aC LL ss))
  rw [hset, g2, f4] at h1
  have h2 := oE (c := aC) LL ss
  rw [hi] at h2
  simp only [Bool.false_eq_true, if_false] at h2
  have h3 : (e.ar, bJ aC LL ss).2.length = LL.length + 1 := h2
  omega
 have kf : Kp (fun k => k = bb \/ k = r) w3 (w4.setCell ⟨bb, 1, none⟩ (.int .i64 ((n : Int) + 1))) := (hk4.mono fun k _ ho => .inr ho).trans (Kp.setCell (F := fun k => k = bb \/ k = r) (Kp.refl w4) (fun _ => .inl rfl) _)
 have hb5 : Blk (w4.setCell ⟨bb, 1, none⟩ (.int .i64 ((n : Int) + 1))) bb [.map (some r), .int .i64 ((n + 1 : Nat) : Int)] 129 := by
  have h1 := ((iE h he hx hk).kp hk4 h.ne).set 1 (.int .i64 ((n : Int) + 1))
  exact h1
 have hm5 := hm4.kp (Kp.setCell (F := fun k => k = bb) (Kp.refl w4) (p := ⟨bb, 1, none⟩) (fun _ => rfl) (.int .i64 ((n : Int) + 1))) (fun e2 => h.ne e2.symm)
 refine RetF.mk ((hkw.mono fun k _ ho => .inr (.inr ⟨e, hem, ho⟩)).trans (kf.mono fun k _ ho => ho.elim .inl fun h => .inr (.inl h))) ⟨by rw [hR]; rfl, S', pre ++ { e with iv := iv', LL := bJ aC LL ss } :: post, hss, hs2, ?_, hC.symm, vF hiv2 _⟩
 exact h.turn hkw hss hs2 hr hiv2 kf hm5 hb5 htot (by rw [<- hC]; exact zY h.ok s ss)
theorem aC4 {n : Nat} {b : Nat} (h : BaseAt S w bb r E) (he : aY E s = none) (hf : bY s = true /\ ss.length ≤ 64 /\ bQ ss = true /\ ¬ 262144 ≤ aS (aE E)) (hx : Ext w w3) (hss : ∀ k, S k -> S' k) (hsn : ∀ k, S' k -> S k \/ w.heap.size ≤ k)
 (hr : RowsAt S' w3 b iv' ss.length [ss]) (hb : w.heap.size ≤ b) (hiv : ∀ k, iv'.ownBlock = some k -> w.heap.size ≤ k)
 (hk4 : Kp (fun k => k = r) w3 w4) (hm4 : MapIs w4 r (jE (cJ E) s (.pointer (some ⟨b, 0, none⟩)))) (en : aS (aE E) = n) : RetF (dX bb r E) w (BaseAdded S w bb r E s ss) (.returned (.tuple #[.bool true, .int .i64 0])) (w4.setCell ⟨bb, 1, none⟩ (.int .i64 ((n : Int) + 1))) := by
 obtain ⟨f1, f2, f3, f4⟩ := hf
 obtain ⟨g1, g2⟩ := fP he
 have hR : eO (aE E) s ss = (true, 0) := by
  rw [oR f1 (aAp g1 f2) f3 (fun k => f4 k.1), g2, if_neg (by simp)]; rfl
 have hone : bJ aC [] ss = [ss] := by simp [bJ, bC, below]
 have hpush := aH3 he b iv' ss.length [ss]
 have hC : mA (aE E) s ss = aE (E ++ [{ name := s, b := b, iv := iv', ar := ss.length, LL := [ss] }]) := by
  unfold mA
  rw [if_pos (by rw [hR]), g2, hone]
  exact hpush
 have htot : n + 1 = aS (aE (E ++ [{ name := s, b := b, iv := iv', ar := ss.length, LL := [ss] }])) := by
  rw [<- en]
  simp [aS, aE, Ent.cnt]
 rw [yV he b iv' ss.length [ss]] at hm4
 have kf : Kp (fun k => k = bb \/ k = r) w3 (w4.setCell ⟨bb, 1, none⟩ (.int .i64 ((n : Int) + 1))) := (hk4.mono fun k _ ho => .inr ho).trans (Kp.setCell (F := fun k => k = bb \/ k = r) (Kp.refl w4) (fun _ => .inl rfl) _)
 have hb5 : Blk (w4.setCell ⟨bb, 1, none⟩ (.int .i64 ((n : Int) + 1))) bb [.map (some r), .int .i64 ((n + 1 : Nat) : Int)] 129 := ((h.blk.ext hx).kp hk4 h.ne).set 1 (.int .i64 ((n : Int) + 1))
 have hm5 := hm4.kp (Kp.setCell (F := fun k => k = bb) (Kp.refl w4) (p := ⟨bb, 1, none⟩) (fun _ => rfl) (.int .i64 ((n : Int) + 1))) (fun e2 => h.ne e2.symm)
 have ho : ∀ k, dS b iv' k -> w.heap.size ≤ k := fun k ho => by
  rcases ho with rfl | ho
  ·exact hb
  ·exact hiv k ho
 refine RetF.mk ((Ext.kp hx).trans (kf.mono fun k _ ho => ho.elim .inl fun h => .inr (.inl h))) ⟨by rw [hR]; rfl, S', E ++ [{ name := s, b := b, iv := iv', ar := ss.length, LL := [ss] }], hss, hsn, ?_, hC.symm, ?_⟩
 ·exact h.push (e := { name := s, b := b, iv := iv', ar := ss.length, LL := [ss] }) hx hss hsn hr ho kf hb5 hm5 htot (by rw [<- hC]; exact zY h.ok s ss)
 ·rintro k (h1 | h1 | ⟨f, hf, ho2⟩)
  ·exact .inl (.inl h1)
  ·exact .inl (.inr (.inl h1))
  ·rcases List.mem_append.1 hf with hf | hf
   ·exact .inl (.inr (.inr ⟨f, hf, ho2⟩))
   ·obtain rfl := List.mem_singleton.1 hf
    exact .inr (ho k ho2)
end
end Go.Proofs.YtinnmeiphbdogaaGreat
/- tuple.Base: Add, walked. -/
namespace Go.Proofs.YtinnmeiphbdogaaGreat
open Go.RowKit
set_option maxRecDepth 100000 in
set_option maxHeartbeats 4000000 in
theorem aC5 {S : Nat -> Prop} {w : World} {bb r : Nat} {E : List Ent} (h : BaseAt S w bb r E) (s : ByteArray) {ao : Option Addr} {k cap : Nat} {ss : List ByteArray} (hx : RowIn w (ao, k, cap) ss) (ho : jO (ao, k, cap) (dX bb r E)) :
 Calls Tryz.prog 42 #[.pointer (some ⟨bb, 0, none⟩), .string s, .slice ao k cap] w (RetF (dX bb r E) w (BaseAdded S w bb r E s ss)) := by
 have hkn : k = ss.length := hx.1.1
 have hcs : CellsAt w ao (strs ss) := hx.1.2
 have hkl : k ≤ 8796093021952 := by rw [hkn]; exact hx.2.1
 have c0 : w.cell? ⟨bb, 0, none⟩ = some (.map (some r)) := by rw [h.blk.cell']; rfl
 have hlk := fX (P := Tryz.prog) Tryz.underlying127 Tryz.underlying9 (z := .pointer none) (by kernel_rfl) h.map s
 rw [jI] at hlk
 have hnm := yF s w
 rw [show decide (1 ≤ s.size /\ s.size ≤ 4096) = bY s from rfl] at hnm
 have HN := qH hnm; clear hnm
 have HT := qH (fun w1 (hw : Ext w w1) => rM ss ao k cap w1 hkn (hcs.ext hw) (by omega))
 obtain ⟨n, en⟩ : ∃ n, aS (aE E) = n := ⟨_, rfl⟩
 have EN := qH en
 have hnl : n ≤ 262144 := by rw [<- en]; exact h.ok.few
 have c1 : w.cell? ⟨bb, 1, none⟩ = some (.int .i64 n) := by rw [h.blk.cell', en]; rfl
 have HC1 := qH (fun w1 (hw : Ext w w1) => (hw.cell c1 id : w1.cell? ⟨bb, 1, none⟩ = some (.int .i64 n)))
 have H := qH h
 have HX := qH (And.intro hx ho)
 have HKN := qH hkn
 clear h hx ho hcs hkn en c1
 cases hn : bY s with
 | false =>
  rw [hn] at HN
  have HNM := qH hn
  clear hn hlk c0
  go_enter Tryz.func42, Tryz.ntmps42
  go_wp2_with fail
  refine HN.out.mono ?_
  rintro e w' ⟨rfl, rfl⟩
  go_wp2
  go_ret2
  exact RetF.mk (Kp.refl _) (BaseAdded.same H.out (Kp.refl _) (aIj ss HNM.out) (by decide) rfl)
 | true =>
  rw [hn] at HN
  have HNM := qH hn
  clear hn
  cases he : aY E s with
  | none =>
   rw [he] at hlk
   have hlk' : ∀ w', w' = w -> (Instr.lookup 127 (.map (some r)) (.string s) false).run Tryz.prog w' = .ok (.pointer none) w' := fun w' e => by rw [e]; exact hlk
   replace hlk := hlk' w rfl
   clear hlk'
   have HE := qH he
   clear he
   by_cases hl : 64 < k
   ·have HNB := qH (sT (k : Int) w (.inr (by omega)))
    go_enter Tryz.func42, Tryz.ntmps42
    go_wp2_with fail
    refine HN.out.mono ?_
    rintro e w' ⟨rfl, rfl⟩
    go_wp2_with fail
    refine HNB.out.mono ?_
    rintro e w' ⟨rfl, rfl⟩
    go_wp2
    go_ret2
    exact RetF.mk (Kp.refl _) (BaseAdded.same H.out (Kp.refl _) (aIk HNM.out (fP HE.out).1 (by rw [<- HKN.out]; exact hl)) (by decide) rfl)
   have hk64 : k ≤ 64 := by omega
   have HNR := qH (nB S w k hk64 H.out.inS)
   have HL := qH (show ss.length ≤ 64 by rw [<- HKN.out]; exact hk64)
   clear hl
   cases ht : bQ ss with
   | false =>
    rw [ht] at HT
    have HTX := qH ht
    clear ht
    go_enter Tryz.func42, Tryz.ntmps42
    go_wp2_with fail
    refine HN.out.mono ?_
    rintro e w' ⟨rfl, rfl⟩
    go_wp2_with fail
    refine HNR.out.mono ?_
    rintro e w1 ⟨v, rfl, hk1, rfl, hrows⟩
    have d2 : w1.cell? ⟨w.heap.size, 2, none⟩ = some (.int .i64 k) := by rw [hrows.blk.cell']; rfl
    have HK1 := qH hk1
    clear hk1 hrows
    go_wp2_with fail
    refine (HT.out w1 HK1.out).mono ?_
    rintro e w2 ⟨v, rfl, hk2, rfl⟩
    have HK2 := qH (HK1.out.trans hk2)
    clear hk2
    go_wp2
    go_ret2
    exact RetF.mk (Ext.kp HK2.out) (BaseAdded.same H.out HK2.out (zF HNM.out (aAp (fP HE.out).1 HL.out) HTX.out) (by decide) rfl)
   | true =>
    rw [ht] at HT
    have HTX := qH ht
    clear ht
    have HAdd := qH (fun w1 (hw : Ext w w1) (hr : RowsAt S w1 w.heap.size (.slice none 0 0) k []) => mV hr List.Pairwise.nil (ao := ao) (n := k) (cap := cap) (ss := ss) ⟨⟨HKN.out, HX.out.1.1.2.ext hw⟩, HX.out.1.2.1, fun a e hne => Nat.lt_of_lt_of_le (HX.out.1.2.2 a e hne) hw.size⟩
     (fun a e hne ho => by
      have := HX.out.1.2.2 a e hne
      rcases ho with ho | ho
      ·omega
      ·cases ho) (by simp))
    by_cases hm : 262144 ≤ n
    ·have q2 : decide ((262144 : Int) ≤ (n : Int)) = true := by rw [decide_eq_true_iff]; omega
     have HM := qH hm
     have HHas := qH (fun w1 (hw : Ext w w1) (hr : RowsAt S w1 w.heap.size (.slice none 0 0) k []) => mU hr List.Pairwise.nil (x := (ao, k, cap)) (ss := ss) ⟨⟨HKN.out, HX.out.1.1.2.ext hw⟩, HX.out.1.2.1, fun a e hne => Nat.lt_of_lt_of_le (HX.out.1.2.2 a e hne) hw.size⟩
      (fun a e hne ho => by
       have := HX.out.1.2.2 a e hne
       rcases ho with ho | ho
       ·omega
       ·cases ho))
     clear hm
     go_enter Tryz.func42, Tryz.ntmps42
     go_wp2_with fail
     refine HN.out.mono ?_
     rintro e w' ⟨rfl, rfl⟩
     go_wp2_with fail
     refine HNR.out.mono ?_
     rintro e w1 ⟨v, rfl, hk1, rfl, hrows⟩
     have d2 : w1.cell? ⟨w.heap.size, 2, none⟩ = some (.int .i64 k) := by rw [hrows.blk.cell']; rfl
     have HK1 := qH (And.intro hk1 hrows)
     clear hk1 hrows
     go_wp2_with fail
     refine (HT.out w1 HK1.out.1).mono ?_
     rintro e w2 ⟨v, rfl, hk2, rfl⟩
     have HK2 := qH (HK1.out.1.trans hk2)
     have HR2 := qH (HK1.out.2.ext hk2)
     have c1' := HC1.out w2 HK2.out
     clear hk2 d2
     go_wp2_with fail
     refine (HHas.out w2 HK2.out HR2.out).mono ?_
     rintro e w3 ⟨v, rfl, hk3, rfl⟩
     have HK3 := qH (HK2.out.trans hk3)
     clear hk3 c1'
     have hni : bC aC ([] : List (List ByteArray)) ss = false := rfl
     go_wp2
     go_ret2
     exact RetF.mk (Ext.kp HK3.out) (BaseAdded.same H.out HK3.out (zG HNM.out (aAp (fP HE.out).1 HL.out) HTX.out (by rw [EN.out]; exact HM.out) (by rw [(fP HE.out).2]; rfl)) (by decide) rfl)
    ·have q2 : decide ((262144 : Int) ≤ (n : Int)) = false := by rw [decide_eq_false_iff_not]; omega
     have HM := qH hm
     clear hm
     go_enter Tryz.func42, Tryz.ntmps42
     go_wp2_with fail
     refine HN.out.mono ?_
     rintro e w' ⟨rfl, rfl⟩
     go_wp2_with fail
     refine HNR.out.mono ?_
     rintro e w1 ⟨v, rfl, hk1, rfl, hrows⟩
     have d2 : w1.cell? ⟨w.heap.size, 2, none⟩ = some (.int .i64 k) := by rw [hrows.blk.cell']; rfl
     have HK1 := qH (And.intro hk1 hrows)
     clear hk1 hrows
     go_wp2_with fail
     refine (HT.out w1 HK1.out.1).mono ?_
     rintro e w2 ⟨v, rfl, hk2, rfl⟩
     have HK2 := qH (HK1.out.1.trans hk2)
     have HR2 := qH (HK1.out.2.ext hk2)
     have c1' := HC1.out w2 HK2.out
     clear hk2 d2
     go_wp2_with fail
     refine (HAdd.out w2 HK2.out HR2.out).mono ?_
     rintro e w3 ⟨v, rfl, hk3, hv, S', iv', hss, hsn, hrows3, hiv⟩
     have e0 : aZ k [] ss = (true, 0) := by
      unfold aZ; rw [if_neg (by rw [HKN.out]; simp), if_neg (by rw [HTX.out]; simp), if_neg (by simp)]; simp [bC]
     have e1 : bM k [] ss = [ss] := by
      unfold bM; rw [e0]; simp [bJ, bC, below]
     rw [e0] at hv
     rw [e1] at hrows3
     subst hv
     have hz := HK2.out.size
     have kk3 : Kp (fun g => g = w.heap.size) w2 w3 := hk3.mono fun g _ h => by
      rcases h with h | h
      ·exact h
      ·cases h
     have hex3 : Ext w w3 := HK2.out.trans' kk3 (fun i hi e => by omega)
     rw [HKN.out] at hrows3
     have HR3 := qH (And.intro hex3 (And.intro hss (And.intro (fun q (hq : S' q) => (hsn q hq).imp id fun u => Nat.le_trans hz u) (And.intro hrows3 (fun q (hq : iv'.ownBlock = some q) => show w.heap.size ≤ q by
      rcases hiv q hq with u | u
      ·cases u
      ·exact Nat.le_trans hz u)))))
     have HB3 := qH (And.intro (H.out.blk.ext hex3) (H.out.map.ext hex3))
     clear hk3 kk3 hex3 hrows3 hss hsn hiv e0 e1 c1' hlk c0 hz
     go_wp2_with fail
     refine (fT HB3.out.1 HB3.out.2 s (some ⟨w.heap.size, 0, none⟩)).mono ?_
     rintro e w4 ⟨v, rfl, hk4, hm4⟩
     have HM4 := qH (And.intro hk4 hm4)
     have hb4 : Blk w4 bb [.map (some r), .int .i64 (aS (aE E) : Nat)] 129 := HB3.out.1.kp hk4 H.out.ne
     have c4 : w4.cell? ⟨bb, 1, none⟩ = some (.int .i64 n) := by rw [hb4.cell', EN.out]; rfl
     have f4 := hb4.free 1
     clear hk4 hm4 hb4
     go_wp2
     go_ret2
     exact aC4 H.out HE.out ⟨HNM.out, HL.out, HTX.out, by rw [EN.out]; exact HM.out⟩ HR3.out.1 HR3.out.2.1 HR3.out.2.2.1 HR3.out.2.2.2.1 (Nat.le_refl _) HR3.out.2.2.2.2 HM4.out.1 HM4.out.2 EN.out
  | some e0 =>
   rw [he] at hlk
   have HE := qH he
   obtain ⟨hem, hes⟩ := bP he
   obtain ⟨b0, eb0⟩ : ∃ b0, e0.b = b0 := ⟨_, rfl⟩
   obtain ⟨ar, ear⟩ : ∃ ar, e0.ar = ar := ⟨_, rfl⟩
   obtain ⟨LL, eLL⟩ : ∃ LL, e0.LL = LL := ⟨_, rfl⟩
   have hlk' : (Instr.lookup 127 (.map (some r)) (.string s) false).run Tryz.prog w = .ok (.pointer (some ⟨b0, 0, none⟩)) w := by rw [<- eb0]; exact hlk
   have hra := H.out.rows e0 hem
   have d2 : w.cell? ⟨b0, 2, none⟩ = some (.int .i64 ar) := by rw [<- eb0, hra.blk.cell', ear]; rfl
   have HEM := qH (And.intro hem (And.intro eb0 (And.intro ear eLL)))
   have hoff : jO (ao, k, cap) (dS e0.b e0.iv) := fun a e hne hown => HX.out.2 a e hne (.inr (.inr ⟨e0, hem, hown⟩))
   have HOff := qH hoff
   have HHas := qH (fun w1 (hw : Ext w w1) => mU ((H.out.rows e0 hem).ext hw) (H.out.strict hem) (x := (ao, k, cap)) (ss := ss) ⟨⟨HKN.out, HX.out.1.1.2.ext hw⟩, HX.out.1.2.1, fun a e hne => Nat.lt_of_lt_of_le (HX.out.1.2.2 a e hne) hw.size⟩ hoff)
   have HA := qH (fun w1 (hw : Ext w w1) => mV ((H.out.rows e0 hem).ext hw) (H.out.strict hem) (ao := ao) (n := k) (cap := cap) (ss := ss) ⟨⟨HKN.out, HX.out.1.1.2.ext hw⟩, HX.out.1.2.1, fun a e hne => Nat.lt_of_lt_of_le (HX.out.1.2.2 a e hne) hw.size⟩ hoff (by have := H.out.few hem; omega))
   clear he hem hes hra hoff hlk
   rw [HEM.out.2.1, HEM.out.2.2.2] at HHas
   rw [HEM.out.2.1, HEM.out.2.2.1, HEM.out.2.2.2] at HA
   clear eb0 ear eLL
   by_cases ha : ar = k
   ·have HAr := qH ha
    have q1 : ((ar : Int) != (k : Int)) = false := by simp [ha]
    clear ha
    have hnil : Ext w w := Kp.refl w
    cases ht : bQ ss with
    | false =>
     rw [ht] at HT
     have HTX := qH ht
     clear ht
     go_enter Tryz.func42, Tryz.ntmps42
     go_wp2_with fail
     refine HN.out.mono ?_
     rintro e w' ⟨rfl, rfl⟩
     go_wp2_with fail
     refine (HT.out w hnil).mono ?_
     rintro e w2 ⟨v, rfl, hk2, rfl⟩
     have HK2 := qH hk2
     clear hk2
     go_wp2
     go_ret2
     exact RetF.mk (Ext.kp HK2.out) (BaseAdded.same H.out HK2.out (zF HNM.out (rG (eE HE.out).1 (by rw [HEM.out.2.2.1, HAr.out]; exact HKN.out)) HTX.out) (by decide) rfl)
    | true =>
     rw [ht] at HT
     have HTX := qH ht
     clear ht
     have hR0 : aZ ar LL ss = if 65536 ≤ LL.length /\ bC aC LL ss = false then (false, 4) else (!bC aC LL ss, 0) := by
      unfold aZ
      rw [if_neg (by rw [HAr.out, HKN.out]; simp), if_neg (by rw [HTX.out]; simp)]
     have HR0 := qH hR0
     clear hR0
     by_cases hm : 262144 ≤ n
     ·have q2 : decide ((262144 : Int) ≤ (n : Int)) = true := by rw [decide_eq_true_iff]; omega
      have HM := qH hm
      clear hm
      cases hi : bC aC LL ss with
      | false =>
       have HI := qH hi
       rw [hi] at HHas
       clear hi
       go_enter Tryz.func42, Tryz.ntmps42
       go_wp2_with fail
       refine HN.out.mono ?_
       rintro e w' ⟨rfl, rfl⟩
       go_wp2_with fail
       refine (HT.out w hnil).mono ?_
       rintro e w2 ⟨v, rfl, hk2, rfl⟩
       have HK2 := qH hk2
       have c1' := HC1.out w2 hk2
       clear hk2
       go_wp2_with fail
       refine (HHas.out w2 HK2.out).mono ?_
       rintro e w3 ⟨v, rfl, hk3, rfl⟩
       have HK3 := qH (HK2.out.trans hk3)
       clear hk3 c1'
       go_wp2
       go_ret2
       exact RetF.mk (Ext.kp HK3.out) (BaseAdded.same H.out HK3.out (zG HNM.out (rG (eE HE.out).1 (by rw [HEM.out.2.2.1, HAr.out]; exact HKN.out)) HTX.out (by rw [EN.out]; exact HM.out) (by rw [(eE HE.out).2, HEM.out.2.2.2]; exact HI.out)) (by decide) rfl)
      | true =>
       have HI0 := qH hi
       rw [hi] at HHas
       clear hi
       have HF := qH (show (bY s = true /\ e0.ar = ss.length /\ bQ ss = true /\ e0.LL = LL /\ ¬ (262144 ≤ aS (aE E) /\ bC aC LL ss = false)) /\ True from ⟨⟨HNM.out, by rw [HEM.out.2.2.1, HAr.out]; exact HKN.out, HTX.out, HEM.out.2.2.2, fun q => by rw [HI0.out] at q; cases q.2⟩, trivial⟩)
       go_enter Tryz.func42, Tryz.ntmps42
       go_wp2_with fail
       refine HN.out.mono ?_
       rintro e w' ⟨rfl, rfl⟩
       go_wp2_with fail
       refine (HT.out w hnil).mono ?_
       rintro e w2 ⟨v, rfl, hk2, rfl⟩
       have HK2 := qH hk2
       have c1' := HC1.out w2 hk2
       clear hk2
       go_wp2_with fail
       refine (HHas.out w2 HK2.out).mono ?_
       rintro e w2b ⟨v, rfl, hk3, rfl⟩
       have HK2b := qH (HK2.out.trans hk3)
       clear hk3 c1'
       go_wp2_with fail
       refine (HA.out w2b HK2b.out).mono ?_
       rintro e w3 ⟨v, rfl, hk3, hv, S', iv', hss, hsn, hrows3, hiv⟩
       rw [<- HEM.out.2.1] at hk3 hrows3
       rw [<- HEM.out.2.2.1] at hrows3
       have HX3 := qH (And.intro hk3 (And.intro hss (And.intro hsn (And.intro hrows3 hiv))))
       rw [HR0.out] at hv
       subst hv
       clear hk3 hss hsn hrows3 hiv
       by_cases h4 : 65536 ≤ LL.length /\ bC aC LL ss = false
       ·have e4 : (if 65536 ≤ LL.length /\ bC aC LL ss = false then (false, 4) else (!bC aC LL ss, 0)) = (false, 4) := if_pos h4
        have H4 := qH (And.intro h4 e4)
        rw [e4]
        clear h4 e4
        go_wp2
        go_ret2
        exact rE H.out HE.out HF.out.1 HK2b.out HX3.out.1 HX3.out.2.1 HX3.out.2.2.1 HX3.out.2.2.2.1 HX3.out.2.2.2.2 (by rw [HEM.out.2.2.1]; exact HR0.out) H4.out.1
       ·have e4 : (if 65536 ≤ LL.length /\ bC aC LL ss = false then (false, 4) else (!bC aC LL ss, 0)) = (!bC aC LL ss, 0) := if_neg h4
        have H4 := qH (And.intro h4 e4)
        rw [e4]
        clear h4 e4
        have hm3 := oB H.out HE.out HK2b.out HX3.out.1
        have hb3 := iE H.out HE.out HK2b.out HX3.out.1
        have HB3 := qH (And.intro hb3 hm3)
        have c31 : w3.cell? ⟨bb, 1, none⟩ = some (.int .i64 n) := by rw [HB3.out.1.cell', EN.out]; rfl
        clear hm3 hb3 c31
        cases hi : bC aC LL ss with
        | true =>
         have HI := qH hi
         clear hi
         go_wp2_with fail
         refine (fT HB3.out.1 HB3.out.2 s (some ⟨b0, 0, none⟩)).mono ?_
         rintro e w4 ⟨v, rfl, hk4, hm4⟩
         rw [<- HEM.out.2.1] at hm4
         have HM4 := qH (And.intro hk4 hm4)
         clear hk4 hm4
         go_wp2
         go_ret2
         exact tP H.out HE.out HF.out.1 HK2b.out HX3.out.1 HX3.out.2.1 HX3.out.2.2.1 HX3.out.2.2.2.1 HX3.out.2.2.2.2 (by rw [HEM.out.2.2.1]; exact HR0.out) HI.out HM4.out.1 HM4.out.2
        | false =>
         have HI := qH hi
         clear hi
         go_wp2_with fail
         refine (fT HB3.out.1 HB3.out.2 s (some ⟨b0, 0, none⟩)).mono ?_
         rintro e w4 ⟨v, rfl, hk4, hm4⟩
         rw [<- HEM.out.2.1] at hm4
         have HM4 := qH (And.intro hk4 hm4)
         have hb4 : Blk w4 bb [.map (some r), .int .i64 (aS (aE E) : Nat)] 129 := HB3.out.1.kp hk4 H.out.ne
         have c4 : w4.cell? ⟨bb, 1, none⟩ = some (.int .i64 n) := by rw [hb4.cell', EN.out]; rfl
         have f4 := hb4.free 1
         clear hk4 hm4 hb4
         go_wp2
         go_ret2
         exact tQ H.out HE.out HF.out.1 HK2b.out HX3.out.1 HX3.out.2.1 HX3.out.2.2.1 HX3.out.2.2.2.1 HX3.out.2.2.2.2 (by rw [HEM.out.2.2.1]; exact HR0.out) HI.out H4.out.1 HM4.out.1 HM4.out.2 EN.out
     ·have q2 : decide ((262144 : Int) ≤ (n : Int)) = false := by rw [decide_eq_false_iff_not]; omega
      have HM := qH hm
      clear hm
      have HF := qH (show (bY s = true /\ e0.ar = ss.length /\ bQ ss = true /\ e0.LL = LL /\ ¬ (262144 ≤ aS (aE E) /\ bC aC LL ss = false)) /\ True from ⟨⟨HNM.out, by rw [HEM.out.2.2.1, HAr.out]; exact HKN.out, HTX.out, HEM.out.2.2.2, fun q => HM.out (by rw [<- EN.out]; exact q.1)⟩, trivial⟩)
      go_enter Tryz.func42, Tryz.ntmps42
      go_wp2_with fail
      refine HN.out.mono ?_
      rintro e w' ⟨rfl, rfl⟩
      go_wp2_with fail
      refine (HT.out w hnil).mono ?_
      rintro e w2 ⟨v, rfl, hk2, rfl⟩
      have HK2 := qH hk2
      have c1' := HC1.out w2 hk2
      clear hk2
      go_wp2_with fail
      refine (HA.out w2 HK2.out).mono ?_
      rintro e w3 ⟨v, rfl, hk3, hv, S', iv', hss, hsn, hrows3, hiv⟩
      rw [<- HEM.out.2.1] at hk3 hrows3
      rw [<- HEM.out.2.2.1] at hrows3
      have HX3 := qH (And.intro hk3 (And.intro hss (And.intro hsn (And.intro hrows3 hiv))))
      rw [HR0.out] at hv
      subst hv
      clear hk3 hss hsn hrows3 hiv
      by_cases h4 : 65536 ≤ LL.length /\ bC aC LL ss = false
      ·have e4 : (if 65536 ≤ LL.length /\ bC aC LL ss = false then (false, 4) else (!bC aC LL ss, 0)) = (false, 4) := if_pos h4
       have H4 := qH (And.intro h4 e4)
       rw [e4]
       clear h4 e4
       go_wp2
       go_ret2
       exact rE H.out HE.out HF.out.1 HK2.out HX3.out.1 HX3.out.2.1 HX3.out.2.2.1 HX3.out.2.2.2.1 HX3.out.2.2.2.2 (by rw [HEM.out.2.2.1]; exact HR0.out) H4.out.1
      ·have e4 : (if 65536 ≤ LL.length /\ bC aC LL ss = false then (false, 4) else (!bC aC LL ss, 0)) = (!bC aC LL ss, 0) := if_neg h4
       have H4 := qH (And.intro h4 e4)
       rw [e4]
       clear h4 e4
       have hm3 := oB H.out HE.out HK2.out HX3.out.1
       have hb3 := iE H.out HE.out HK2.out HX3.out.1
       have HB3 := qH (And.intro hb3 hm3)
       have c31 : w3.cell? ⟨bb, 1, none⟩ = some (.int .i64 n) := by rw [HB3.out.1.cell', EN.out]; rfl
       clear hm3 hb3 c31
       cases hi : bC aC LL ss with
       | true =>
        have HI := qH hi
        clear hi
        go_wp2_with fail
        refine (fT HB3.out.1 HB3.out.2 s (some ⟨b0, 0, none⟩)).mono ?_
        rintro e w4 ⟨v, rfl, hk4, hm4⟩
        rw [<- HEM.out.2.1] at hm4
        have HM4 := qH (And.intro hk4 hm4)
        clear hk4 hm4
        go_wp2
        go_ret2
        exact tP H.out HE.out HF.out.1 HK2.out HX3.out.1 HX3.out.2.1 HX3.out.2.2.1 HX3.out.2.2.2.1 HX3.out.2.2.2.2 (by rw [HEM.out.2.2.1]; exact HR0.out) HI.out HM4.out.1 HM4.out.2
       | false =>
        have HI := qH hi
        clear hi
        go_wp2_with fail
        refine (fT HB3.out.1 HB3.out.2 s (some ⟨b0, 0, none⟩)).mono ?_
        rintro e w4 ⟨v, rfl, hk4, hm4⟩
        rw [<- HEM.out.2.1] at hm4
        have HM4 := qH (And.intro hk4 hm4)
        have hb4 : Blk w4 bb [.map (some r), .int .i64 (aS (aE E) : Nat)] 129 := HB3.out.1.kp hk4 H.out.ne
        have c4 : w4.cell? ⟨bb, 1, none⟩ = some (.int .i64 n) := by rw [hb4.cell', EN.out]; rfl
        have f4 := hb4.free 1
        clear hk4 hm4 hb4
        go_wp2
        go_ret2
        exact tQ H.out HE.out HF.out.1 HK2.out HX3.out.1 HX3.out.2.1 HX3.out.2.2.1 HX3.out.2.2.2.1 HX3.out.2.2.2.2 (by rw [HEM.out.2.2.1]; exact HR0.out) HI.out H4.out.1 HM4.out.1 HM4.out.2 EN.out
   ·have HAr := qH ha
    have q1 : ((ar : Int) != (k : Int)) = true := by rw [bne_iff_ne]; omega
    clear ha
    go_enter Tryz.func42, Tryz.ntmps42
    go_wp2_with fail
    refine HN.out.mono ?_
    rintro e w' ⟨rfl, rfl⟩
    go_wp2
    go_ret2
    exact RetF.mk (Kp.refl _) (BaseAdded.same H.out (Kp.refl _) (aFe HNM.out (eE HE.out).1 (by show e0.ar ≠ ss.length; rw [HEM.out.2.2.1, <- HKN.out]; exact HAr.out)) (by decide) rfl)
end Go.Proofs.YtinnmeiphbdogaaGreat
/- tuple.Base: Declare, at every base. -/
namespace Go.Proofs.YtinnmeiphbdogaaGreat
open Go.RowKit
section
variable {S S' : Nat -> Prop} {w w1 w2 w3 w4 : World} {bb r : Nat} {E : List Ent} {s : ByteArray} {e : Ent}
def BaseDecled (S : Nat -> Prop) (w : World) (bb r : Nat) (E : List Ent) (s : ByteArray) (a : Int) (w' : World) (v : Value) : Prop :=
 v = .int .i64 ((dR (aE E) s a : Nat) : Int) /\ ∃ E', BaseAt S w' bb r E' /\ aE E' = eF (aE E) s a /\ ∀ k, dX bb r E' k -> dX bb r E k \/ w.heap.size ≤ k
theorem BaseDecled.same {a : Int} (h : BaseAt S w bb r E) (hk : Ext w w1) {n : Nat} (hR : dR (aE E) s a = n) (hn : eF (aE E) s a = aE E) {v : Value} (hv : v = .int .i64 (n : Nat)) : BaseDecled S w bb r E s a w1 v :=
 ⟨by rw [hv, hR], E, h.ext hk, hn.symm, fun _ h => .inl h⟩
theorem wL {C : List aV} (a : Int) (h : bY s = false) : dR C s a = 32 := if_pos h
theorem aH0 {C : List aV} {a : Int} (h : bY s = true) (ha : a < 0 \/ 64 < a) : dR C s a = 2 := by
 unfold dR
 rw [if_neg (by rw [h]; simp), if_pos ha]
theorem aE2 {C : List aV} {a : Int} (h : bY s = true) (ha : ¬ (a < 0 \/ 64 < a)) (hg : bD C s = none) : dR C s a = 0 := by
 unfold dR
 rw [if_neg (by rw [h]; simp), if_neg ha, hg]
theorem aE1 {C : List aV} {a : Int} {v : Nat × aD} (h : bY s = true) (ha : ¬ (a < 0 \/ 64 < a)) (hg : bD C s = some v) : dR C s a = if (v.1 : Int) = a then 0 else 30 := by
 unfold dR
 rw [if_neg (by rw [h]; simp), if_neg ha, hg]
theorem yZ {C : List aV} {a : Int} (h : dR C s a ≠ 0) : eF C s a = C := if_neg fun k => h k.1
theorem aE3 {C : List aV} {a : Int} {v : Nat × aD} (hg : bD C s = some v) : eF C s a = C := if_neg fun k => by rw [hg] at k; cases k.2
theorem aAm {k b : Nat} (h : BaseAt S w bb r E) (he : aY E s = none) (hn : bY s = true) (hk : k ≤ 64) (hx : Ext w w3) (hr : RowsAt S w3 b (.slice none 0 0) k []) (hb : w.heap.size ≤ b)
 (hk4 : Kp (fun k => k = r) w3 w4) (hm4 : MapIs w4 r (jE (cJ E) s (.pointer (some ⟨b, 0, none⟩)))) : RetF (dX bb r E) w (BaseDecled S w bb r E s (k : Int)) (.returned (.int .i64 0)) w4 := by
 obtain ⟨g1, g2⟩ := fP he
 have hR : dR (aE E) s (k : Int) = 0 := aE2 hn (by omega) g1
 have hC : eF (aE E) s (k : Int) = aE (E ++ [{ name := s, b := b, iv := .slice none 0 0, ar := k, LL := [] }]) := by
  unfold eF
  rw [if_pos ⟨hR, g1⟩]
  simp [aE, Ent.cnt]
 rw [yV he b (.slice none 0 0) k []] at hm4
 have ho : ∀ q, dS b (.slice none 0 0) q -> w.heap.size ≤ q := fun q ho => by
  rcases ho with rfl | ho
  ·exact hb
  ·cases ho
 have htot : aS (aE E) = aS (aE (E ++ [{ name := s, b := b, iv := .slice none 0 0, ar := k, LL := [] }])) := by simp [aS, aE, Ent.cnt]
 refine RetF.mk ((Ext.kp hx).trans (hk4.mono fun k _ ho => .inr (.inl ho))) ⟨by rw [hR]; rfl, E ++ [{ name := s, b := b, iv := .slice none 0 0, ar := k, LL := [] }], ?_, hC.symm, ?_⟩
 ·exact h.push (e := { name := s, b := b, iv := .slice none 0 0, ar := k, LL := [] }) hx (fun _ x => x) (fun _ x => .inl x) hr ho (hk4.mono fun k _ ho => .inr ho) ((h.blk.ext hx).kp hk4 h.ne) hm4 htot (by rw [<- hC]; exact qM h.ok s _)
 ·rintro q (h1 | h1 | ⟨f, hf, ho2⟩)
  ·exact .inl (.inl h1)
  ·exact .inl (.inr (.inl h1))
  ·rcases List.mem_append.1 hf with hf | hf
   ·exact .inl (.inr (.inr ⟨f, hf, ho2⟩))
   ·obtain rfl := List.mem_singleton.1 hf
    exact .inr (ho q ho2)
set_option maxRecDepth 100000 in
set_option maxHeartbeats 4000000 in
theorem aAn (h : BaseAt S w bb r E) (s : ByteArray) (a : Int) :
 Calls Tryz.prog 107 #[.pointer (some ⟨bb, 0, none⟩), .string s, .int .i64 a] w (RetF (dX bb r E) w (BaseDecled S w bb r E s a)) := by
 have c0 : w.cell? ⟨bb, 0, none⟩ = some (.map (some r)) := by rw [h.blk.cell']; rfl
 have hnm := yF s w
 rw [show decide (1 ≤ s.size /\ s.size ≤ 4096) = bY s from rfl] at hnm
 have HN := qH hnm; clear hnm
 have H := qH h
 have HLk := qH (fun w1 (hw : Ext w w1) => fX (P := Tryz.prog) Tryz.underlying127 Tryz.underlying9 (z := .pointer none) (by kernel_rfl) (h.map.ext hw) s)
 rw [jI] at HLk
 clear h
 cases hn : bY s with
 | false =>
  rw [hn] at HN
  have HNM := qH hn
  clear hn c0
  go_enter Tryz.func107, Tryz.ntmps107
  go_wp2_with fail
  refine HN.out.mono ?_
  rintro e w' ⟨rfl, rfl⟩
  go_wp2
  go_ret
  exact RetF.mk (Kp.refl _) (BaseDecled.same H.out (Kp.refl _) (wL a HNM.out) (yZ (by rw [wL a HNM.out]; decide)) rfl)
 | true =>
  rw [hn] at HN
  have HNM := qH hn
  clear hn
  by_cases ha : a < 0 \/ 64 < a
  ·have HNB := qH (sT a w ha)
   have HAB := qH ha
   obtain ⟨p, hp⟩ : ∃ p : Option Addr, ((aY E s).map Ent.ptr).getD (.pointer none) = .pointer p := by
    cases aY E s with
    | none => exact ⟨none, rfl⟩
    | some e => exact ⟨some ⟨e.b, 0, none⟩, rfl⟩
   have hlk := HLk.out w (Kp.refl w)
   rw [hp] at hlk
   clear ha hp
   go_enter Tryz.func107, Tryz.ntmps107
   go_wp2_with fail
   refine HN.out.mono ?_
   rintro e w' ⟨rfl, rfl⟩
   go_wp2_with fail
   refine HNB.out.mono ?_
   rintro e w' ⟨rfl, rfl⟩
   go_wp2
   go_ret
   have e2 := aH0 (s := s) (C := aE E) HNM.out HAB.out
   exact RetF.mk (Kp.refl _) (BaseDecled.same H.out (Kp.refl _) e2 (yZ (by rw [e2]; decide)) rfl)
  ·obtain ⟨k, rfl⟩ := Int.eq_ofNat_of_zero_le (show 0 ≤ a by omega)
   have hk64 : k ≤ 64 := by omega
   have HNR := qH (nB S w k hk64 H.out.inS)
   have HAN := qH ha
   clear ha
   cases he : aY E s with
   | none =>
    rw [he] at HLk
    have HE := qH he
    clear he
    go_enter Tryz.func107, Tryz.ntmps107
    go_wp2_with fail
    refine HN.out.mono ?_
    rintro e w' ⟨rfl, rfl⟩
    go_wp2_with fail
    refine HNR.out.mono ?_
    rintro e w1 ⟨v, rfl, hk1, rfl, hrows⟩
    have hlk : (Instr.lookup 127 (.map (some r)) (.string s) false).run Tryz.prog w1 = .ok (.pointer none) w1 := HLk.out w1 hk1
    have c1 := hk1.cell c0 id
    have HK1 := qH (And.intro hk1 hrows)
    clear hk1 hrows
    go_wp2_with fail
    refine (fT (H.out.blk.ext HK1.out.1) (H.out.map.ext HK1.out.1) s (some ⟨w.heap.size, 0, none⟩)).mono ?_
    rintro e w4 ⟨v, rfl, hk4, hm4⟩
    have HM4 := qH (And.intro hk4 hm4)
    clear hk4 hm4
    go_wp2
    go_ret
    exact aAm H.out HE.out HNM.out hk64 HK1.out.1 HK1.out.2 (Nat.le_refl _) HM4.out.1 HM4.out.2
   | some e0 =>
    rw [he] at HLk
    have HE := qH he
    obtain ⟨hem, hes⟩ := bP he
    obtain ⟨b0, eb0⟩ : ∃ b0, e0.b = b0 := ⟨_, rfl⟩
    obtain ⟨ar, ear⟩ : ∃ ar, e0.ar = ar := ⟨_, rfl⟩
    have d2 : w.cell? ⟨b0, 2, none⟩ = some (.int .i64 ar) := by rw [<- eb0, (H.out.rows e0 hem).blk.cell', ear]; rfl
    have HEM := qH (And.intro eb0 ear)
    have hg : bD (aE E) s = some (ar, e0.LL) := by rw [<- ear]; exact (eE he).1
    have hR := aE1 (C := aE E) HNM.out HAN.out hg
    have HR := qH (And.intro hR (aE3 (C := aE E) (a := (k : Int)) hg))
    clear he hem hes eb0 ear hg hR
    by_cases hq : ar = k
    ·have q1 : ((ar : Int) != (k : Int)) = false := by simp [hq]
     have HQ := qH hq
     clear hq
     go_enter Tryz.func107, Tryz.ntmps107
     go_wp2_with fail
     refine HN.out.mono ?_
     rintro e w' ⟨rfl, rfl⟩
     go_wp2_with fail
     refine HNR.out.mono ?_
     rintro e w1 ⟨v, rfl, hk1, rfl, hrows⟩
     have hlk : (Instr.lookup 127 (.map (some r)) (.string s) false).run Tryz.prog w1 = .ok (.pointer (some ⟨b0, 0, none⟩)) w1 := by rw [<- HEM.out.1]; exact HLk.out w1 hk1
     have c1 := hk1.cell c0 id
     have d21 := hk1.cell d2 id
     have HK1 := qH hk1
     clear hk1 hrows
     go_wp2
     go_ret
     exact RetF.mk (Ext.kp HK1.out) (BaseDecled.same H.out HK1.out (by rw [HR.out.1, if_pos (by rw [HQ.out])]) HR.out.2 rfl)
    ·have q1 : ((ar : Int) != (k : Int)) = true := by rw [bne_iff_ne]; omega
     have HQ := qH hq
     clear hq
     go_enter Tryz.func107, Tryz.ntmps107
     go_wp2_with fail
     refine HN.out.mono ?_
     rintro e w' ⟨rfl, rfl⟩
     go_wp2_with fail
     refine HNR.out.mono ?_
     rintro e w1 ⟨v, rfl, hk1, rfl, hrows⟩
     have hlk : (Instr.lookup 127 (.map (some r)) (.string s) false).run Tryz.prog w1 = .ok (.pointer (some ⟨b0, 0, none⟩)) w1 := by rw [<- HEM.out.1]; exact HLk.out w1 hk1
     have c1 := hk1.cell c0 id
     have d21 := hk1.cell d2 id
     have HK1 := qH hk1
     clear hk1 hrows
     go_wp2
     go_ret
     exact RetF.mk (Ext.kp HK1.out) (BaseDecled.same H.out HK1.out (by rw [HR.out.1, if_neg (fun q => HQ.out (by omega))]) HR.out.2 rfl)
end
end Go.Proofs.YtinnmeiphbdogaaGreat
/- tuple.Base: FromRelations. -/
namespace Go.Proofs.YtinnmeiphbdogaaGreat
open Go.RowKit
def RelsIn (S : Nat -> Prop) (w : World) (ao : Option Addr) (L : List iJ) : Prop := ∀ (i : Nat) (q : iJ), L[i]? = some q -> ∃ b off ra rcap, ao = some ⟨b, off, none⟩ /\ S b /\ w.cell? ⟨b, off + i * 3, none⟩ = some (.string q.1) /\ w.cell? ⟨b, off + i * 3 + 1, none⟩ = some (.int .i64 q.2.1) /\ w.cell? ⟨b, off + i * 3 + 2, none⟩ = some (.slice ra q.2.2.1.length rcap) /\ q.2.2.1.length ≤ rcap /\ rcap ≤ maxLen /\ RowsIn S w ra q.2.2.1
section
variable {S S' : Nat -> Prop} {w w' : World} {ao : Option Addr} {L : List iJ}
theorem RelsIn.kp {F : Nat -> Prop} (h : RelsIn S w ao L) (hk : Kp F w w') (hF : ∀ k, F k -> ¬ S k) : RelsIn S w' ao L := fun i q hq => by
 obtain ⟨b, off, ra, rcap, e, hb, c0, c1, c2, h1, h2, h3⟩ := h i q hq
 exact ⟨b, off, ra, rcap, e, hb, hk.cell c0 (fun f => hF _ f hb), hk.cell c1 (fun f => hF _ f hb), hk.cell c2 (fun f => hF _ f hb), h1, h2, h3.kp hk hF⟩
theorem RelsIn.ext (h : RelsIn S w ao L) (hk : Ext w w') : RelsIn S w' ao L := h.kp hk fun _ x => x.elim
end
theorem aJy {C : List aV} {q : iJ} {L : List iJ} (h : dR C q.1 q.2.1 ≠ 0) : cD C (q :: L) = (C, dR C q.1 q.2.1) := if_neg h
theorem aJx {C : List aV} {q : iJ} {L : List iJ} (h : dR C q.1 q.2.1 = 0) (h2 : (dB (eF C q.1 q.2.1) q.1 q.2.2.1).2 ≠ 0) : cD C (q :: L) = dB (eF C q.1 q.2.1) q.1 q.2.2.1 := by
 show (if dR C q.1 q.2.1 = 0 then _ else _) = _
 rw [if_pos h, if_neg h2]
theorem aLb {C : List aV} {q : iJ} {L : List iJ} (h : dR C q.1 q.2.1 = 0) (h2 : (dB (eF C q.1 q.2.1) q.1 q.2.2.1).2 = 0) : cD C (q :: L) = cD (dB (eF C q.1 q.2.1) q.1 q.2.2.1).1 L := by
 show (if dR C q.1 q.2.1 = 0 then _ else _) = _
 rw [if_pos h, if_pos h2]
theorem aIl {C : List aV} {s : ByteArray} {x : List ByteArray} {rs : aD} (h : (eO C s x).2 = 0) : dB C s (x :: rs) = dB (mA C s x) s rs := if_pos h
theorem aFf {C : List aV} {s : ByteArray} {x : List ByteArray} {rs : aD} (h : (eO C s x).2 ≠ 0) : dB C s (x :: rs) = (C, (eO C s x).2) := if_neg h
def FromV (w : World) (L : List iJ) (w' : World) (v : Value) : Prop :=
 ((cD [] L).2 = 0 -> ∃ bb r S E, v = .tuple #[.pointer (some ⟨bb, 0, none⟩), .int .i64 0] /\ BaseAt S w' bb r E /\ aE E = (cD [] L).1 /\ (∀ k, S k -> w.heap.size ≤ k) /\ ∀ k, dX bb r E k -> w.heap.size ≤ k) /\
 ((cD [] L).2 ≠ 0 -> v = .tuple #[.pointer none, .int .i64 (((cD [] L).2 : Nat) : Int)])
structure MyBase (w0 : World) (S : Nat -> Prop) (w : World) (bb r : Nat) (E : List Ent) : Prop where
 base : BaseAt S w bb r E
 ext : Ext w0 w
 pool : ∀ k, S k -> w0.heap.size ≤ k
 own : ∀ k, dX bb r E k -> w0.heap.size ≤ k
def aMd (w0 : World) (bb r : Nat) (L : List iJ) (n : Nat) (iv : Value) (w : World) : Prop := ∃ i : Nat, i ≤ n /\ iv = .int .i64 i /\ Hid (∃ S E, MyBase w0 S w bb r E /\ cD (aE E) (L.drop i) = cD [] L)
def aMe (w0 : World) (bb r : Nat) (q : iJ) (R : List aV × Nat) (g : Nat) (cs : List Value) (m : Nat) (jv : Value) (w : World) : Prop := ∃ j : Nat, j ≤ m /\ jv = .int .i64 j /\ Hid (∃ S E, MyBase w0 S w bb r E /\ dB (aE E) q.1 (q.2.2.1.drop j) = R /\ Blk w g cs 116 /\ ¬ dX bb r E g)
theorem drop_at {α : Type} {xs : List α} {i : Nat} {x : α} (h : xs[i]? = some x) : xs.drop i = x :: xs.drop (i + 1) := by
 obtain ⟨hi, e⟩ := List.getElem?_eq_some_iff.1 h
 rw [List.drop_eq_getElem_cons hi, e]
theorem cells_lt {w : World} {xa : Option Addr} {ss : List ByteArray} (h : CellsAt w xa (strs ss)) (hne : ss ≠ []) : ∀ a, xa = some a -> a.block < w.heap.size := fun a e => by
 cases ss with
 | nil => exact absurd rfl hne
 | cons s ss =>
  obtain ⟨b, off, e1, hc⟩ := h 0 (.string s) rfl
  rw [e] at e1; cases e1
  exact World.block_lt_of_cell? _ _ hc
set_option maxRecDepth 100000 in
set_option maxHeartbeats 4000000 in
theorem aCj (L : List iJ) (ao : Option Addr) (n cap : Nat) (w : World) (S0 : Nat -> Prop) (hn : n = L.length) (hL : RelsIn S0 w ao L) (hl : n ≤ 4194304) (hr : ∀ q ∈ L, q.2.2.1.length ≤ 1048576) :
 Calls Tryz.prog 59 #[.slice ao n cap] w (RetN w (FromV w L)) := by
 have HN := qH hn
 have HL := qH hL
 have HR := qH hr
 clear hn hL hr
 go_enter Tryz.func59, Tryz.ntmps59
 go_wp2_with fail
 refine (aBx w).mono ?_
 rintro e w1 ⟨v, rfl, hk1, rfl, hB, hm⟩
 obtain ⟨bb, ebb⟩ : ∃ bb, w.heap.size + 1 = bb := ⟨_, rfl⟩
 rw [ebb] at hB ⊢
 obtain ⟨r, er⟩ : ∃ r, w.heap.size = r := ⟨_, rfl⟩
 rw [er] at hB hm
 have HM0 := qH (show MyBase w (fun _ => False) w1 bb r [] from
  {base := BaseAt.new (fun _ => False) (fun _ x => x.elim) hk1 (by omega) (by omega) (by omega) hB hm
   ext := hk1, pool := fun _ x => x.elim
   own := fun k hk => by
    rcases hk with rfl | rfl | ⟨e, he, _⟩
    ·omega
    ·omega
    ·simp at he })
 clear hB hm hk1 ebb er
 go_wp2
 go_loopw [15] (fun iv wr => aMd w bb r L n iv wr) (fun iv _ => n - (intOf iv).toNat)
 case atStart => exact ⟨0, Nat.zero_le _, rfl, _, [], HM0.out, rfl⟩
 case round =>
  clear HM0
  obtain ⟨i, hi, rfl, hin⟩ := hrel
  obtain ⟨S, E, hM, hF⟩ := hin.out
  have HM := qH hM
  have HF := qH hF
  clear hin hM hF
  by_cases hlt : i < n
  ·obtain ⟨q, hq⟩ : ∃ q, L[i]? = some q := ⟨_, qG (by rw [<- HN.out]; exact hlt)⟩
   obtain ⟨b, off, ra, rcap, eao, hSb, c0, c1, c2, hrl, hrm, hrows⟩ := HL.out i q hq
   subst eao
   replace c0 := HM.out.ext.cell c0 id
   replace c1 := HM.out.ext.cell c1 id
   replace c2 := HM.out.ext.cell c2 id
   obtain ⟨s, es⟩ : ∃ s, q.1 = s := ⟨_, rfl⟩
   obtain ⟨a, ea⟩ : ∃ a, q.2.1 = a := ⟨_, rfl⟩
   obtain ⟨m, em⟩ : ∃ m, q.2.2.1.length = m := ⟨_, rfl⟩
   rw [es] at c0
   rw [ea] at c1
   rw [em] at c2 hrl
   have hm1 : m ≤ 1048576 := by rw [<- em]; exact HR.out q (List.mem_of_getElem? hq)
   have HQ := qH (And.intro hq (And.intro es (And.intro ea em)))
   have HRows := qH hrows
   clear hq es ea em hrows hSb
   obtain ⟨gx, egx⟩ : ∃ g, wr.heap.size = g := ⟨_, rfl⟩
   obtain ⟨wx, ewx⟩ : ∃ wx, wr.alloc (.cells #[.string s, .int .i64 a, .slice ra m rcap] 116) = wx := ⟨_, rfl⟩
   have HBx := qH (show Blk wx gx [.string s, .int .i64 a, .slice ra m rcap] 116 by rw [<- ewx, <- egx]; exact Blk.new wr _ _)
   have HXx := qH (show Ext wr wx by rw [<- ewx]; exact (Kp.refl wr).alloc _)
   have HGx := qH (show ∀ k, dX bb r E k -> k < gx from fun k hk => by rw [<- egx]; exact HM.out.base.ownLt k hk)
   have EGX := qH egx
   have x0 : wx.cell? ⟨wr.heap.size, 0, none⟩ = some (.string s) := by rw [egx, HBx.out.cell']; rfl
   have x1 : wx.cell? ⟨wr.heap.size, 1, none⟩ = some (.int .i64 a) := by rw [egx, HBx.out.cell']; rfl
   clear egx
   go_wp2_with fail
   rw [EGX.out]
   refine (aAn (HM.out.base.ext HXx.out) s a).mono ?_
   rintro e w2 ⟨v, rfl, hk2, rfl, E1, hB1, hC1, ho1⟩
   have hgx : gx < wx.heap.size := HBx.out.lt
   have hbx2 : Blk w2 gx [.string s, .int .i64 a, .slice ra m rcap] 116 := HBx.out.kp hk2 fun ho => by have := HGx.out gx ho; omega
   have hM1 : MyBase w S w2 bb r E1 :=
    {base := hB1
     ext := (HM.out.ext.trans HXx.out).trans' hk2 fun k hk ho => by have := HM.out.own k ho; omega
     pool := HM.out.pool
     own := fun k hk => by
      rcases ho1 k hk with h1 | h1
      ·exact HM.out.own k h1
      ·have := (HM.out.ext.trans HXx.out).size; omega }
   have hng : ¬ dX bb r E1 gx := fun ho => by
    rcases ho1 gx ho with h1 | h1
    ·have := HGx.out gx h1; omega
    ·omega
   have HM1 := qH (And.intro hM1 (And.intro hC1 (And.intro hbx2 hng)))
   clear hk2 hB1 hC1 ho1 hgx hbx2 hM1 hng ewx x0 x1 c0 c1 c2
   obtain ⟨d, ed⟩ : ∃ d, dR (aE E) s a = d := ⟨_, rfl⟩
   rw [ed]
   have ED := qH ed
   clear ed
   have y2 : w2.cell? ⟨gx, 2, none⟩ = some (.slice ra m rcap) := by rw [HM1.out.2.2.1.cell']; rfl
   by_cases hd : d = 0
   ·have q1 : ((d : Int) != 0) = false := by simp [hd]
    have HD := qH hd
    clear hd
    have hdr : (L.drop i) = q :: L.drop (i + 1) := drop_at HQ.out.1
    have HDr := qH hdr
    clear hdr
    go_wp2
    clear q1
    generalize hw5 : w2 = w5 at *; clear hw5
    go_loopw [31] (fun jv wk => aMe w bb r q (dB (eF (aE E) s a) s q.2.2.1) gx [.string s, .int .i64 a, .slice ra m rcap] m jv wk) (fun jv _ => m - (intOf jv).toNat)
    case atStart => exact ⟨0, Nat.zero_le _, rfl, S, E1, HM1.out.1, by rw [HM1.out.2.1, HQ.out.2.1]; rfl, HM1.out.2.2.1, HM1.out.2.2.2⟩
    case round =>
     clear HM1 HBx HXx HGx EGX y2
     obtain ⟨j, hj, rfl, hin⟩ := hrel
     obtain ⟨S1, E2, hM2, hA2, hbx, hng⟩ := hin.out
     have HM2 := qH (And.intro hM2 (And.intro hA2 (And.intro hbx hng)))
     clear hin hM2 hA2 hbx hng
     by_cases hlt2 : j < m
     ·obtain ⟨ss, hss⟩ : ∃ ss, q.2.2.1[j]? = some ss := ⟨_, qG (by rw [HQ.out.2.2.2]; exact hlt2)⟩
      obtain ⟨g, o, xa, xcap, era, d0, d1, d2, d3⟩ := HRows.out.get hss
      subst era
      replace d0 := HM2.out.1.ext.cell d0 id
      obtain ⟨k, ek⟩ : ∃ k, ss.length = k := ⟨_, rfl⟩
      rw [ek] at d0
      have HSS := qH (And.intro hss ek)
      have HRow := qH (And.intro d1 (And.intro d2 d3))
      have y0 : wr.cell? ⟨gx, 0, none⟩ = some (.string s) := by rw [HM2.out.2.2.1.cell']; rfl
      clear hss ek d1 d2 d3
      go_wp2_with fail
      refine (aC5 HM2.out.1.base s (ao := xa) (k := k) (cap := xcap) (ss := ss) ⟨⟨HSS.out.2.symm, HRow.out.1.ext HM2.out.1.ext⟩, HRow.out.2.1, fun a e hne => Nat.lt_of_lt_of_le (cells_lt HRow.out.1 (fun h => hne (by show k = 0; rw [<- HSS.out.2, h]; rfl)) a e) HM2.out.1.ext.size⟩ (fun a e hne ho => by
       have h1 := HM2.out.1.own _ ho
       have h2 := cells_lt HRow.out.1 (fun h => hne (by show k = 0; rw [<- HSS.out.2, h]; rfl)) a e
       omega)).mono ?_
      rintro e w3 ⟨v, rfl, hk3, rfl, S3, E3, hs1, hs2, hB3, hC3, ho3⟩
      have hgx : gx < wr.heap.size := HM2.out.2.2.1.lt
      have hM3 : MyBase w S3 w3 bb r E3 :=
       {base := hB3
        ext := HM2.out.1.ext.trans' hk3 fun k hk ho => by have := HM2.out.1.own k ho; omega
        pool := fun k hk => by
         rcases hs2 k hk with h1 | h1
         ·exact HM2.out.1.pool k h1
         ·have := HM2.out.1.ext.size; omega
        own := fun k hk => by
         rcases ho3 k hk with h1 | h1
         ·exact HM2.out.1.own k h1
         ·have := HM2.out.1.ext.size; omega }
      have hb3 : Blk w3 gx [.string s, .int .i64 a, .slice (some ⟨g, o, none⟩) m rcap] 116 := HM2.out.2.2.1.kp hk3 HM2.out.2.2.2
      have hng : ¬ dX bb r E3 gx := fun ho => by
       rcases ho3 gx ho with h1 | h1
       ·exact HM2.out.2.2.2 h1
       ·omega
      have HM3 := qH (And.intro hM3 (And.intro hC3 (And.intro hb3 hng)))
      clear hk3 hB3 hC3 ho3 hgx hM3 hng hb3 hs1 hs2 y0 d0
      obtain ⟨x1, ex1⟩ : ∃ x, (eO (aE E2) s ss).1 = x := ⟨_, rfl⟩
      obtain ⟨x2, ex2⟩ : ∃ x, (eO (aE E2) s ss).2 = x := ⟨_, rfl⟩
      rw [ex1, ex2]
      have EX := qH ex2
      clear ex1 ex2
      have hdj : q.2.2.1.drop j = ss :: q.2.2.1.drop (j + 1) := drop_at HSS.out.1
      have HDj := qH hdj
      clear hdj
      by_cases hx : x2 = 0
      ·have q1 : ((x2 : Int) != 0) = false := by simp [hx]
       have HX := qH hx
       clear hx
       go_wp2
       go_roundw
       case rel =>
        refine ⟨j + 1, by omega, by first | rfl | (congr 1; done) | (congr 1; omega), S3, E3, HM3.out.1, ?_, HM3.out.2.2.1, HM3.out.2.2.2⟩
        rw [HM3.out.2.1, <- HM2.out.2.1, HDj.out, HQ.out.2.1]
        exact (aIl (by rw [EX.out]; exact HX.out)).symm
       case measure => simp [intOf]; omega
      ·have q1 : ((x2 : Int) != 0) = true := by simp; omega
       have HX := qH hx
       clear hx
       go_wp2
       go_ret2
       have hall := HM2.out.2.1
       rw [HDj.out, HQ.out.2.1, aFf (by rw [EX.out]; exact HX.out), EX.out] at hall
       have hfr : cD [] L = (aE E2, x2) := by
        rw [<- HF.out, HDr.out, aJx (by rw [HQ.out.2.1, HQ.out.2.2.1, ED.out]; exact HD.out) (by rw [HQ.out.2.1, HQ.out.2.2.1, <- hall]; exact HX.out), HQ.out.2.1, HQ.out.2.2.1, <- hall]
       exact RetN.mk HM3.out.1.ext ⟨fun h0 => by rw [hfr] at h0; exact absurd h0 HX.out, fun _ => by rw [hfr]; rfl⟩
     ·obtain rfl : j = m := by omega
      have hall := HM2.out.2.1
      rw [List.drop_of_length_le (by rw [HQ.out.2.2.2]; exact Nat.le_refl _)] at hall
      have hall' : dB (eF (aE E) s a) s q.2.2.1 = (aE E2, 0) := hall.symm
      have HAll := qH hall'
      clear hall hall'
      go_wp2
      go_roundw
      case rel =>
       refine ⟨i + 1, by omega, by first | rfl | (congr 1; done) | (congr 1; omega), S1, E2, HM2.out.1, ?_⟩
       rw [<- HF.out, HDr.out, aLb (by rw [HQ.out.2.1, HQ.out.2.2.1, ED.out]; exact HD.out) (by rw [HQ.out.2.1, HQ.out.2.2.1, HAll.out]), HQ.out.2.1, HQ.out.2.2.1, HAll.out]
      case measure => simp [intOf]; omega
   ·have q1 : ((d : Int) != 0) = true := by simp; omega
    have HD := qH hd
    clear hd
    go_wp2
    go_ret2
    have hfr : cD [] L = (aE E, d) := by
     rw [<- HF.out, drop_at HQ.out.1, aJy (by rw [HQ.out.2.1, HQ.out.2.2.1, ED.out]; exact HD.out), HQ.out.2.1, HQ.out.2.2.1, ED.out]
    exact RetN.mk HM1.out.1.ext ⟨fun h0 => by rw [hfr] at h0; exact absurd h0 HD.out, fun _ => by rw [hfr]; rfl⟩
  ·obtain rfl : i = n := by omega
   have hfr : cD [] L = (aE E, 0) := by
    rw [<- HF.out, List.drop_of_length_le (by rw [<- HN.out]; exact Nat.le_refl _)]; rfl
   have HFr := qH hfr
   clear hfr
   go_wp2
   go_ret2
   exact RetN.mk HM.out.ext ⟨fun _ => ⟨bb, r, S, E, rfl, HM.out.base, by rw [HFr.out], HM.out.pool, HM.out.own⟩, fun h0 => absurd (by rw [HFr.out]) h0⟩
end Go.Proofs.YtinnmeiphbdogaaGreat
/- The law of joins: the chapter's base; rules that are uB out; each over that base. -/
namespace Go.Proofs.YtinnmeiphbdogaaGreat
open Go.RowKit Go.Shelf
attribute [local go_sem] Oper.semAt_some
def aI3 (C : List aV) (ls : List aO) (j : Nat) : aD := match ls[j]? with | some l => aP C (aX l) | none => []
def rD (r : cO) (C : List aV) : aD := if bO r = 0 then aKb r (aI3 C r.2.1) else []
theorem lP (E : List Ent) (s : ByteArray) : dP (aY E s) = aP (aE E) s := by
 unfold aP
 rw [jJ]
 cases aY E s <;> rfl
theorem aI1 (ls : List aO) (E : List Ent) : bF (zW ls E) ls = aI3 (aE E) ls := by
 funext j
 unfold bF zW aI3
 by_cases hj : j < ls.length
 ·rw [if_pos hj, qG hj, lP]; rfl
 ·rw [if_neg hj, List.getElem?_eq_none (by omega)]; rfl
theorem aE7 (r : cO) (E : List Ent) : kE r (bF (zW r.2.1 E) r.2.1) (rD r (aE E)) := by
 rw [aI1]
 unfold rD
 exact ⟨fun hc => by rw [if_pos hc]; exact wR hc _, fun hc => by rw [if_neg hc]⟩
abbrev TT : Nat -> Prop := fun _ => True
def fitB (ts : List aH) : Bool := ts.all fun t => (Lit.int .i64 t.1).wf && decide (t.2.1.size ≤ 4096)
theorem aHr {t : aH} (h : ((Lit.int .i64 t.1).wf && decide (t.2.1.size ≤ 4096)) = true) : gV t := by
 rw [Bool.and_eq_true, decide_eq_true_eq] at h
 exact ⟨h.1, by unfold maxLen; omega⟩
theorem wF {ts : List aH} (h : fitB ts = true) : ∀ t ∈ ts, gV t := fun t ht => aHr (List.all_eq_true.1 h t ht)
def aF0 (ls : List aO) : Bool := ls.all fun l => (Lit.int .i64 l.1).wf && (decide ((aX l).size ≤ 4096) && (fitB (aA l) && ((Lit.int .i64 (iI l)).wf && fitB [leftOf l, aR l])))
theorem tC {ls : List aO} (h : aF0 ls = true) : ∀ l ∈ ls, LitAll l := fun l hl => by
 have h1 := List.all_eq_true.1 h l hl
 simp only [Bool.and_eq_true, decide_eq_true_eq] at h1
 obtain ⟨a, b, c, d, e⟩ := h1
 have e2 := wF e
 exact ⟨a, by unfold maxLen; omega, wF c, d, e2 _ (by simp), e2 _ (by simp)⟩
theorem oF (w : World) (ts : List aH) (h : fitB ts = true) : bE (w.alloc (.cells (aDl ts).toArray 38)) TT (some ⟨w.heap.size, 0, none⟩) ts :=
 aJ2 (s := dJ) (f := aA4) (rest := []) (fun x => rfl) (fun i x hi => pV (wF h x (List.mem_of_getElem? hi))) trivial (by rw [List.append_nil]; exact Blk.new w (aDl ts) 38)
theorem aJk (w : World) (a : Option Addr) : dN w TT a [] := fun i x hx => by simp at hx
theorem aJl (w : World) (ls : List aO) (vs : List (Option Addr × Nat)) (hv : vs.length = ls.length) (h : aF0 ls = true) (ht : ∀ x ∈ ls.zip vs, bE w TT x.2.1 (aA x.1) /\ (aA x.1).length ≤ x.2.2 /\ x.2.2 ≤ maxLen) : dN (w.alloc (.cells ((ls.zip vs).flatMap nH).toArray 40)) TT (some ⟨w.heap.size, 0, none⟩) ls :=
 vN (rest := []) hv (tC h) (fun x hx => ⟨(ht x hx).1.ext ((Kp.refl w).alloc _), (ht x hx).2⟩) trivial (by rw [List.append_nil]; exact Blk.new w ((ls.zip vs).flatMap nH) 40)
theorem aHc {w : World} {G : Nat -> Prop} {ao : Option Addr} {ls : List aO} (h : dN w G ao ls) : ∃ vs : List (Option Addr × Nat), vs.length = ls.length /\ CellsAt w ao ((ls.zip vs).flatMap nH) /\ ∀ x ∈ ls.zip vs, LitIn w G x.1 x.2.1 x.2.2 := by
 have hex : ∀ i : Fin ls.length, ∃ p : Option Addr × Nat, LitIn w G ls[i] p.1 p.2 /\ ∀ c u, (nH (ls[i], p))[c]? = some u -> ∃ b off, ao = some ⟨b, off, none⟩ /\ w.cell? ⟨b, off + i.1 * 8 + c, none⟩ = some u := fun i => by
  obtain ⟨b, off, a, cap, e, -, -, hl, c0, c1, c2, c3, c4, c5, c6, c7⟩ := nG h (qG i.2)
  refine ⟨(a, cap), hl, fun c u hu => ⟨b, off, e, ?_⟩⟩
  match c, hu with
  | 0, hu => cases hu; exact c0
  | 1, hu => cases hu; exact c1
  | 2, hu => cases hu; exact c2
  | 3, hu => cases hu; exact c3
  | 4, hu => cases hu; exact c4
  | 5, hu => cases hu; exact c5
  | 6, hu => cases hu; exact c6
  | 7, hu => cases hu; exact c7
  | k + 8, hu => cases hu
 let f : Fin ls.length -> Option Addr × Nat := fun i => Classical.choose (hex i)
 have hf : ∀ i, _ := fun i => Classical.choose_spec (hex i)
 have hz : ∀ (i : Nat) x, (ls.zip (List.ofFn f))[i]? = some x -> ∃ hi : i < ls.length, x = (ls[i], f ⟨i, hi⟩) := fun i x hx => by
  obtain ⟨l, p⟩ := x
  rw [List.getElem?_zip_eq_some] at hx
  have hi := (List.getElem?_eq_some_iff.1 hx.1).1
  refine ⟨hi, ?_⟩
  have h1 := hx.1
  have h2 := hx.2
  rw [qG hi] at h1
  rw [List.getElem?_ofFn, dif_pos hi] at h2
  cases h1; cases h2; rfl
 refine ⟨List.ofFn f, List.length_ofFn, fun i u hu => ?_, fun x hx => ?_⟩
 ·have hl := (List.getElem?_eq_some_iff.1 hu).1
  rw [aCl nH 8 qS, List.length_zip, List.length_ofFn, Nat.min_self] at hl
  have hq := Nat.div_add_mod i 8
  have hm := Nat.mod_lt i (show 8 > 0 by decide)
  have hi : i / 8 < ls.length := Nat.div_lt_of_lt_mul (by omega)
  have hzi : (ls.zip (List.ofFn f))[i / 8]? = some (ls[i / 8], f ⟨i / 8, hi⟩) := by
   rw [List.getElem?_zip_eq_some]
   exact ⟨qG hi, by rw [List.getElem?_ofFn, dif_pos hi]⟩
  have hg := flat_get nH 8 qS _ (i / 8) _ (i % 8) hzi hm
  rw [show i / 8 * 8 + i % 8 = i by omega, hu] at hg
  obtain ⟨b, off, e, hc⟩ := (hf ⟨i / 8, hi⟩).2 (i % 8) u hg.symm
  refine ⟨b, off, e, ?_⟩
  rw [<- hc]
  congr 2
  show off + i = off + i / 8 * 8 + i % 8
  omega
 ·obtain ⟨i, hi⟩ := List.mem_iff_getElem?.1 hx
  obtain ⟨hil, rfl⟩ := hz i x hi
  exact (hf ⟨i, hil⟩).1
def sA : ByteArray := ⟨#[97]⟩
def sB : ByteArray := ⟨#[98]⟩
def sC : ByteArray := ⟨#[99]⟩
def aEr : List iJ := [(⟨#[101]⟩, 2, [[sA, sB], [sB, sC], [sB, sB], [sC, sA]], ()), (⟨#[110]⟩, 1, [[sB]], ()), (⟨#[122]⟩, 0, [[]], ())]
def awC : List aV := [(⟨#[101]⟩, 2, [[sA, sB], [sB, sB], [sB, sC], [sC, sA]]), (⟨#[110]⟩, 1, [[sB]]), (⟨#[122]⟩, 0, [[]])]
theorem aCe : cD [] aEr = (awC, 0) := by kernel_rfl
def aI4 (l : List (Nat × List ByteArray)) : List gI := l.map fun x => ((some ⟨x.1, 0, none⟩, x.2.length, x.2.length), x.2)
theorem rT {w : World} {g : Nat} {l : List (Nat × List ByteArray)} {LL : aD} (hl : LL = l.map Prod.snd) (hB : Blk w g (fD (aI4 l)) 34) (hr : ∀ x ∈ l, Blk w x.1 (strs x.2) 9 /\ x.2.length ≤ 64) : RowsIn TT w (some ⟨g, 0, none⟩) LL := by
 refine ⟨aI4 l, by rw [hl]; unfold aI4; rw [List.map_map]; rfl, CellsAt.pre (rest := []) (by rw [List.append_nil]; exact hB), fun _ _ => trivial, fun p hp => ?_⟩
 obtain ⟨x, hx, rfl⟩ := List.mem_map.1 hp
 obtain ⟨h1, h2⟩ := hr x hx
 exact ⟨⟨rfl, CellsAt.pre (rest := []) (by rw [List.append_nil]; exact h1)⟩, by show x.2.length ≤ _; omega, fun _ _ => trivial⟩
set_option maxRecDepth 100000 in
set_option maxHeartbeats 4000000 in
theorem aHn (w : World) : Calls Tryz.prog 26 #[] w (RetN w fun w' v => ∃ bb E S, v = .pointer (some ⟨bb, 0, none⟩) /\ BaseV S w' v E /\ aE E = awC) := by
 obtain ⟨w1, e1⟩ : ∃ x, w.alloc (.cells #[.string ⟨#[97]⟩, .string ⟨#[98]⟩] 9) = x := ⟨_, rfl⟩
 have B1 := qH (show Blk w1 w.heap.size [.string ⟨#[97]⟩, .string ⟨#[98]⟩] 9 from by rw [<- e1]; exact Blk.new w _ _)
 have Y1 := qH (show Ext w w1 from by rw [<- e1]; exact (Kp.refl w).alloc _)
 obtain ⟨w2, e2⟩ : ∃ x, w1.alloc (.cells #[.string ⟨#[98]⟩, .string ⟨#[99]⟩] 9) = x := ⟨_, rfl⟩
 have B2 := qH (show Blk w2 w1.heap.size [.string ⟨#[98]⟩, .string ⟨#[99]⟩] 9 from by rw [<- e2]; exact Blk.new w1 _ _)
 have Y2 := qH (show Ext w1 w2 from by rw [<- e2]; exact (Kp.refl w1).alloc _)
 obtain ⟨w3, e3⟩ : ∃ x, w2.alloc (.cells #[.string ⟨#[98]⟩, .string ⟨#[98]⟩] 9) = x := ⟨_, rfl⟩
 have B3 := qH (show Blk w3 w2.heap.size [.string ⟨#[98]⟩, .string ⟨#[98]⟩] 9 from by rw [<- e3]; exact Blk.new w2 _ _)
 have Y3 := qH (show Ext w2 w3 from by rw [<- e3]; exact (Kp.refl w2).alloc _)
 obtain ⟨w4, e4⟩ : ∃ x, w3.alloc (.cells #[.string ⟨#[99]⟩, .string ⟨#[97]⟩] 9) = x := ⟨_, rfl⟩
 have B4 := qH (show Blk w4 w3.heap.size [.string ⟨#[99]⟩, .string ⟨#[97]⟩] 9 from by rw [<- e4]; exact Blk.new w3 _ _)
 have Y4 := qH (show Ext w3 w4 from by rw [<- e4]; exact (Kp.refl w3).alloc _)
 obtain ⟨w5, e5⟩ : ∃ x, w4.alloc (.cells #[.slice (some ⟨w.heap.size, 0, none⟩) 2 2, .slice (some ⟨w1.heap.size, 0, none⟩) 2 2, .slice (some ⟨w2.heap.size, 0, none⟩) 2 2, .slice (some ⟨w3.heap.size, 0, none⟩) 2 2] 34) = x := ⟨_, rfl⟩
 have B5 := qH (show Blk w5 w4.heap.size [.slice (some ⟨w.heap.size, 0, none⟩) 2 2, .slice (some ⟨w1.heap.size, 0, none⟩) 2 2, .slice (some ⟨w2.heap.size, 0, none⟩) 2 2, .slice (some ⟨w3.heap.size, 0, none⟩) 2 2] 34 from by rw [<- e5]; exact Blk.new w4 _ _)
 have Y5 := qH (show Ext w4 w5 from by rw [<- e5]; exact (Kp.refl w4).alloc _)
 obtain ⟨w6, e6⟩ : ∃ x, w5.alloc (.cells #[.string ⟨#[98]⟩] 9) = x := ⟨_, rfl⟩
 have B6 := qH (show Blk w6 w5.heap.size [.string ⟨#[98]⟩] 9 from by rw [<- e6]; exact Blk.new w5 _ _)
 have Y6 := qH (show Ext w5 w6 from by rw [<- e6]; exact (Kp.refl w5).alloc _)
 obtain ⟨w7, e7⟩ : ∃ x, w6.alloc (.cells #[.slice (some ⟨w5.heap.size, 0, none⟩) 1 1] 34) = x := ⟨_, rfl⟩
 have B7 := qH (show Blk w7 w6.heap.size [.slice (some ⟨w5.heap.size, 0, none⟩) 1 1] 34 from by rw [<- e7]; exact Blk.new w6 _ _)
 have Y7 := qH (show Ext w6 w7 from by rw [<- e7]; exact (Kp.refl w6).alloc _)
 obtain ⟨w8, e8⟩ : ∃ x, w7.alloc (.cells #[] 9) = x := ⟨_, rfl⟩
 have B8 := qH (show Blk w8 w7.heap.size [] 9 from by rw [<- e8]; exact Blk.new w7 _ _)
 have Y8 := qH (show Ext w7 w8 from by rw [<- e8]; exact (Kp.refl w7).alloc _)
 obtain ⟨w9, e9⟩ : ∃ x, w8.alloc (.cells #[.slice (some ⟨w7.heap.size, 0, none⟩) 0 0] 34) = x := ⟨_, rfl⟩
 have B9 := qH (show Blk w9 w8.heap.size [.slice (some ⟨w7.heap.size, 0, none⟩) 0 0] 34 from by rw [<- e9]; exact Blk.new w8 _ _)
 have Y9 := qH (show Ext w8 w9 from by rw [<- e9]; exact (Kp.refl w8).alloc _)
 obtain ⟨w10, e10⟩ : ∃ x, w9.alloc (.cells #[.string ⟨#[101]⟩, .int .i64 2, .slice (some ⟨w4.heap.size, 0, none⟩) 4 4, .string ⟨#[110]⟩, .int .i64 1, .slice (some ⟨w6.heap.size, 0, none⟩) 1 1, .string ⟨#[122]⟩, .int .i64 0, .slice (some ⟨w8.heap.size, 0, none⟩) 1 1] 116) = x := ⟨_, rfl⟩
 have B10 := qH (show Blk w10 w9.heap.size [.string ⟨#[101]⟩, .int .i64 2, .slice (some ⟨w4.heap.size, 0, none⟩) 4 4, .string ⟨#[110]⟩, .int .i64 1, .slice (some ⟨w6.heap.size, 0, none⟩) 1 1, .string ⟨#[122]⟩, .int .i64 0, .slice (some ⟨w8.heap.size, 0, none⟩) 1 1] 116 from by rw [<- e10]; exact Blk.new w9 _ _)
 have Y10 := qH (show Ext w9 w10 from by rw [<- e10]; exact (Kp.refl w9).alloc _)
 have HE := qH (rT (w := w5) (g := w4.heap.size) (l := [(w.heap.size, [sA, sB]), (w1.heap.size, [sB, sC]), (w2.heap.size, [sB, sB]), (w3.heap.size, [sC, sA])]) (LL := [[sA, sB], [sB, sC], [sB, sB], [sC, sA]]) rfl B5.out (fun x hx => by
  simp only [List.mem_cons, List.not_mem_nil, or_false] at hx
  rcases hx with rfl | rfl | rfl | rfl
  ·exact ⟨B1.out.ext (Y2.out.trans (Y3.out.trans (Y4.out.trans Y5.out))), by simp⟩
  ·exact ⟨B2.out.ext (Y3.out.trans (Y4.out.trans Y5.out)), by simp⟩
  ·exact ⟨B3.out.ext (Y4.out.trans Y5.out), by simp⟩
  ·exact ⟨B4.out.ext Y5.out, by simp⟩))
 have HN := qH (rT (w := w7) (g := w6.heap.size) (l := [(w5.heap.size, [sB])]) (LL := [[sB]]) rfl B7.out (fun x hx => by
  simp only [List.mem_cons, List.not_mem_nil, or_false] at hx
  subst hx
  exact ⟨B6.out.ext Y7.out, by simp⟩))
 have HZ := qH (rT (w := w9) (g := w8.heap.size) (l := [(w7.heap.size, [])]) (LL := [[]]) rfl B9.out (fun x hx => by
  simp only [List.mem_cons, List.not_mem_nil, or_false] at hx
  subst hx
  exact ⟨B8.out.ext Y9.out, by simp⟩))
 have X5to10 := qH (Y6.out.trans (Y7.out.trans (Y8.out.trans (Y9.out.trans Y10.out))))
 have X7to10 := qH (Y8.out.trans (Y9.out.trans Y10.out))
 have X9to10 := qH Y10.out
 have X10 := qH (Y1.out.trans (Y2.out.trans (Y3.out.trans (Y4.out.trans (Y5.out.trans (Y6.out.trans (Y7.out.trans (Y8.out.trans (Y9.out.trans Y10.out)))))))))
 clear B1 Y1 B2 Y2 B3 Y3 B4 Y4 B5 Y5 B6 Y6 B7 Y7 B8 Y8 B9 Y9 Y10
 have hL : RelsIn TT w10 (some ⟨w9.heap.size, 0, none⟩) aEr := fun i q hq => by
  match i, hq with
  | 0, hq => cases hq; exact ⟨w9.heap.size, 0, some ⟨w4.heap.size, 0, none⟩, 4, rfl, trivial, by rw [B10.out.cell']; rfl, by rw [B10.out.cell']; rfl, by rw [B10.out.cell']; rfl, by decide, by decide, HE.out.ext (X5to10.out)⟩
  | 1, hq => cases hq; exact ⟨w9.heap.size, 0, some ⟨w6.heap.size, 0, none⟩, 1, rfl, trivial, by rw [B10.out.cell']; rfl, by rw [B10.out.cell']; rfl, by rw [B10.out.cell']; rfl, by decide, by decide, HN.out.ext (X7to10.out)⟩
  | 2, hq => cases hq; exact ⟨w9.heap.size, 0, some ⟨w8.heap.size, 0, none⟩, 1, rfl, trivial, by rw [B10.out.cell']; rfl, by rw [B10.out.cell']; rfl, by rw [B10.out.cell']; rfl, by decide, by decide, HZ.out.ext (X9to10.out)⟩
  | n + 3, hq => cases hq
 have HFr := qH (aCj aEr (some ⟨w9.heap.size, 0, none⟩) 3 3 w10 TT rfl hL (by decide) (by decide))
 clear hL
 go_enter Tryz.func26, Tryz.ntmps26
 go_wp2_with fail
 refine HFr.out.mono ?_
 rintro e w11 ⟨v, rfl, hk11, hv⟩
 obtain ⟨bb, r, S, E, rfl, hb, hC, -, -⟩ := hv.1 (by rw [aCe])
 have H11 := qH (show Ext w w11 /\ BaseAt S w11 bb r E /\ aE E = awC from ⟨X10.out.trans hk11, hb, by rw [hC, aCe]⟩)
 clear hv hb hC hk11
 go_wp2
 go_ret
 exact RetN.mk H11.out.1 ⟨bb, E, S, rfl, .full bb r E H11.out.2.1, H11.out.2.2⟩
theorem wK {S : Nat -> Prop} {w : World} {p : ByteArray} {hs : List aH} {ls : List aO} {ha ba : Option Addr} {hn hcap n bcap : Nat} {o : Option Addr} {E : List Ent} (hhn : hn = hs.length) (hh : bE w TT ha hs) (hhl : hn ≤ 1048576) (hbn : n = ls.length) (h : dN w TT ba ls) (hf : Fit ls) (hnv : (aB ls).length ≤ 1048576) (hn16 : n ≤ 1048576)
 (hB : BaseV S w (.pointer o) E) (hC : aE E = awC) (M : List ByteArray) (m : Nat) (hM : (rD ((p, hs, ()), ls, ()) awC).map cT = M) (hm : M.length = m) (hm2 : m ≤ 1048576) :
 Calls Tryz.prog 18 #[eS p ha hn hcap ba n bcap, .pointer o] w (RetN w fun w' v => ∃ ao cap, v = .slice ao m cap /\ CellsAt w' ao (strs M)) := by
 have hl : (rD ((p, hs, ()), ls, ()) (aE E)).length = m := by rw [hC, <- hm, <- hM, List.length_map]
 have h1 := aE0 (hcap := hcap) (bcap := bcap) (p := p) (L := rD ((p, hs, ()), ls, ()) (aE E)) hhn hh hhl hbn h hf hnv hn16 hB (aE7 ((p, hs, ()), ls, ()) E) (by omega)
 refine h1.mono ?_
 rintro e w' ⟨v, rfl, hk, hr⟩
 rw [hl, hC, hM] at hr
 obtain ⟨ao, cap, ev, hc, _⟩ := hr.shape
 exact RetN.mk hk ⟨ao, cap, ev, hc⟩
theorem uW (M : List ByteArray) (ao bo : Option Addr) (n acap bcap : Nat) (w : World) (hn : M.length = n) (ha : CellsAt w ao (strs M)) (hb : CellsAt w bo (strs M)) (hl : n ≤ 1048576) :
 Calls Tryz.prog 17 #[.slice ao n acap, .slice bo n bcap] w (RetN w fun w' v => v = .bool true) := by
 refine (jD M M ao bo n n acap bcap w hn.symm hn.symm ha hb (by omega)).mono ?_
 rintro e w' ⟨v, rfl, hk, rfl⟩
 exact RetN.mk hk (by rw [decide_eq_true rfl])
end Go.Proofs.YtinnmeiphbdogaaGreat
/- The law of joins: over: the bindings of a rule one of whose literals looks into another base, as texts, rising. -/
namespace Go.Proofs.YtinnmeiphbdogaaGreat
open Go.RowKit Go.Shelf
attribute [local go_sem] Oper.semAt_some
section
variable {w8 W1 W : World} {b : Nat} {f : List XB -> List ByteArray} {T T' : Nat -> Prop} {pre : List XB}
theorem ListI.round2 {v v' : Value} {X : World} {x : XB} {Z : Nat -> Prop} (h : ListI w8 b f T pre W) (hb : b < w8.heap.size) (hTlt : ∀ k, T k -> k < W.heap.size) (hZ : ∀ k, Z k -> b < k /\ k < w8.heap.size) (hv : Blk W b [v] 34) (hk : Kp (fun k => k = b \/ v.ownBlock = some k) W X) (hB : Blk X b [v'] 34) (hr : Row X 9 1 v' (f (pre ++ [x])).length (strs (f (pre ++ [x]))) (fun g => v.ownBlock = some g \/ W.heap.size ≤ g)) :
 KeepsFrom w8.heap.size W X /\ Kp (fun k => ¬ gH Z T k) W X /\ ListI w8 b f T (pre ++ [x]) X := by
 obtain ⟨h1, h2, v0, h3, h4⟩ := h
 have e0 : v0 = v := by
  unfold Blk at h3 hv
  rw [h3] at hv; cases hv; rfl
 subst e0
 have hsz := h1.size
 have hno : ∀ k, (k = b \/ v0.ownBlock = some k) -> ¬ T k /\ (k = b \/ w8.heap.size ≤ k) := fun k hk => by
  rcases hk with h | h
  ·exact ⟨fun ht => by have := h2 k ht; omega, .inl h⟩
  ·exact ⟨(h4.block k h).2, .inr (h4.block k h).1⟩
 refine ⟨⟨hk.size, fun k o hB2 hk2 ho => (hk.block k (lt_of_block hk2) fun hf => ?_).trans hk2⟩, hk.mono fun k hk2 hf hz => ?_, h1.trans' hk fun k hk2 hf => ?_, h2, v', hB, ?_⟩
 ·rcases hf with e | e
  ·unfold Blk at h3; rw [e, h3] at hk2; cases hk2; cases ho
  ·obtain ⟨cs, hb'⟩ := aT h4 e
   unfold Blk at hb'; rw [hb'] at hk2; cases hk2; cases ho
 ·rcases hz with hz | hz
  ·exact (hno k hf).1 hz
  ·have := hZ k hz
   rcases (hno k hf).2 with h | h <;> omega
 ·rcases (hno k hf).2 with h | h
  ·exact h
  ·omega
 ·refine hr.mono fun g hg => ?_
  rcases hg with hg | hg
  ·exact h4.block g hg
  ·exact ⟨by omega, fun ht => by have := hTlt g ht; omega⟩
end
def pB (pre : List XB) : List ByteArray := cG bL (pre.map fun x => cT x.2)
theorem aD3 (pre : List XB) (x : XB) : pB (pre ++ [x]) = bJ bL (pB pre) (cT x.2) := by
 unfold pB
 rw [List.map_append]
 exact yC _ _
noncomputable def aBs : Code := ((Tryz.f56.body.bind cH).getD .skip)
set_option maxRecDepth 100000 in
theorem lit54 (t : Array Value) (h : t.size = 54) : ∃ u : Nat -> Value, (∀ i, t.getD i undef = u i) /\ t = #[u 0, u 1, u 2, u 3, u 4, u 5, u 6, u 7, u 8, u 9, u 10, u 11, u 12, u 13, u 14, u 15, u 16, u 17, u 18, u 19, u 20, u 21, u 22, u 23, u 24, u 25, u 26, u 27, u 28, u 29, u 30, u 31, u 32, u 33, u 34, u 35, u 36, u 37, u 38, u 39, u 40, u 41, u 42, u 43, u 44, u 45, u 46, u 47, u 48, u 49, u 50, u 51, u 52, u 53] := by
 refine ⟨fun i => t.toList.getD i undef, fun i => by simp [Array.getD_eq_getD_getElem?, List.getD_eq_getElem?_getD], ?_⟩
 apply Array.ext'
 have := oO t.toList 54 (by simpa using h)
 exact this
set_option maxRecDepth 100000 in
set_option maxHeartbeats 4000000 in
theorem aD2 {X : World} {b5 l : Nat} {xa : Option Addr} {xc : Nat} {V ss : List ByteArray} {v : Value} {M : Nat -> Prop} {t : Array Value} {Qn : World -> Prop}
 (h5 : Blk X b5 [v] 34) (hr : Row X 9 1 v ss.length (strs ss) M) (hn : ss.length ≤ 1048576 * 1048576) (hst : Strict bL ss) (hV : CellsAt X xa (strs V)) (hVl : V.length ≤ 1048576) (hVs : ∀ s ∈ V, s.size ≤ 4096)
 (hz : t.size = 54) (t11 : t.getD 11 undef = .pointer (some ⟨b5, 0, none⟩)) (t12 : t.getD 12 undef = .slice xa V.length xc)
 (hQn : ∀ X', Kp (fun k => k = b5) X X' -> (∃ v', Blk X' b5 [v'] 34 /\ Row X' 9 1 v' (bJ bL ss (cT V)).length (strs (bJ bL ss (cT V))) (fun g => X.heap.size ≤ g)) -> Qn X') :
 aBs.wpIn (Fence.wide.inRound l) 2 Tryz.prog (iB Qn fun _ => False) { tmps := t, defers := [] } X := by
 obtain ⟨u, hu, rfl⟩ := lit54 t hz
 have e5 := (hu 11).symm.trans t11
 have e6 := (hu 12).symm.trans t12
 rw [e5, e6]
 clear hz t11 t12 e5 e6 hu
 obtain ⟨oa, oc, ev, _, _⟩ := hr.shape
 subst ev
 obtain ⟨n, en⟩ : ∃ n, ss.length = n := ⟨_, rfl⟩
 rw [en] at h5 hr
 have HQ := qH hQn
 have H0 := qH (And.intro h5 hr)
 have HP := qH (fun W (hW : Ext X W) (s : ByteArray) => vD (s := s) (w := W) hst (by rw [en]; exact hr.ext hW) hn)
 have HV := qH (And.intro hV hVs)
 obtain ⟨m, em⟩ : ∃ m, V.length = m := ⟨_, rfl⟩
 rw [em] at hVl ⊢
 have HM := qH em
 clear hQn h5 hr hV hVs em hst hn en
 conv => arg 4; whnf
 gi_wp2
 gi_loopw [13, 14] (fun sv iv wr => aKq X V m sv iv wr) (fun _ iv _ => m - (intOf iv).toNat)
 case atStart => exact ⟨0, Nat.zero_le _, rfl, rfl, qH (Kp.refl _)⟩
 case round =>
  obtain ⟨i, hi, rfl, rfl, hex⟩ := hrel
  by_cases hlt : i < m
  ·obtain ⟨x, hx⟩ : ∃ x, V[i]? = some x := ⟨_, qG (by rw [HM.out]; exact hlt)⟩
   obtain ⟨xb, xo, exa, xc0⟩ := (HV.out.1.ext hex.out) i (.string x) (by simp [strs, hx])
   subst exa
   have HX := qH (pP hx)
   have hs1 := tE HV.out.2 i
   have hs2 := HV.out.2 x (List.mem_of_getElem? hx)
   obtain ⟨sa, esa⟩ : ∃ s, cT (V.take i) = s := ⟨_, rfl⟩
   rw [esa] at HX hs1 ⊢
   have hadd1 : (Op.stringOp .add sa x).run Tryz.prog wr = .ok (.string (sa ++ x)) wr := run_string_add_sum _ _ _ (by omega)
   have hadd2 : (Op.stringOp .add (sa ++ x) ⟨#[59]⟩).run Tryz.prog wr = .ok (.string (sa ++ x ++ ⟨#[59]⟩)) wr := run_string_add_sum _ _ _ (by rw [ByteArray.size_append]; have h3 : (⟨#[59]⟩ : ByteArray).size = 1 := rfl; omega)
   have i1 : (i : Int) < (m : Int) := by omega
   clear hx hs1 hs2 esa
   gi_wp2
   go_roundw
   case rel => exact ⟨i + 1, by omega, by first | rfl | (congr 1; done) | (congr 1; omega), by rw [HX.out], hex⟩
   case measure => simp [intOf]; omega
  ·obtain rfl : i = m := by omega
   have hall : V.take i = V := List.take_of_length_le (by rw [HM.out]; exact Nat.le_refl _)
   rw [hall]
   obtain ⟨s, es⟩ : ∃ s, cT V = s := ⟨_, rfl⟩
   rw [es] at HQ ⊢
   have b0 : wr.cell? ⟨b5, 0, none⟩ = some (.slice oa n oc) := by rw [(H0.out.1.ext hex.out).cell']; rfl
   have HC := qH (HP.out wr hex.out s)
   clear hall es hi hlt
   gi_wp2
   refine And.intro trivial ?_
   refine (CallsIn.inRound l (callsIn_wide.2 HC.out)).mono ?_
   rintro e w6 ⟨v6, rfl, hk6, hr6⟩
   have hB6 : Blk w6 b5 [.slice oa n oc] 34 := (H0.out.1.ext hex.out).ext hk6
   have c6 : w6.cell? ⟨b5, 0, none⟩ = some (.slice oa n oc) := by rw [hB6.cell']; rfl
   have f6 := hB6.free 0
   obtain ⟨la, lcap, elv, _, _⟩ := hr6.shape
   subst elv
   obtain ⟨nn, enn⟩ : ∃ k, (bJ bL ss s).length = k := ⟨_, rfl⟩
   rw [enn] at hr6 ⊢
   have H6 := qH (And.intro (show Row w6 9 1 (.slice la nn lcap) nn (strs (bJ bL ss s)) (New X) from hr6.mono fun g hg => Nat.le_trans hex.out.size hg) (And.intro (hex.out.trans hk6) (And.intro hB6 enn)))
   clear hr6 hk6 hB6 b0 enn
   gi_wp2
   have ks : Kp (fun k => k = b5) w6 (w6.setCell ⟨b5, 0, none⟩ (.slice la nn lcap)) := Kp.setCell (F := fun k => k = b5) (p := ⟨b5, 0, none⟩) (Kp.refl w6) (fun _ => rfl) _
   refine HQ.out _ ((Ext.kp H6.out.2.1).trans ks) ⟨_, H6.out.2.2.1.set 0 _, ?_⟩
   rw [H6.out.2.2.2]
   refine H6.out.1.kp' ks fun g hg _ e2 => ?_
   obtain ⟨cs, hb⟩ := aT H6.out.1 hg
   rw [show g = b5 from e2] at hb
   exact absurd (aU hb H6.out.2.2.1) (by decide)
theorem aJc {w W : World} {P : World -> Value -> Prop} {tmps : Array Value} {ds : List Deferred} {lo : Nat} {v : Value} (hm : Marks lo W ds) (hk : Ext w W) (hlo : w.heap.size ≤ lo) (h4 : tmps.getD 8 undef = v)
 (hP : ∀ w', Ext w w' -> Kp (fun k => lo ≤ k /\ ¬ iH W k) W w' -> P w' v) :
 bodyPostM Fence.wide 4 Tryz.prog Tryz.f56 (RetN w P) .ret { tmps := tmps, defers := ds } W := by
 refine gC hm fun w' e1 e2 e3 e4 e5 e6 => ?_
 have kx : Kp (fun k => lo ≤ k /\ ¬ iH W k) W w' := ⟨e1, e2, e3, by omega, fun k hk hf => by
  by_cases h : lo ≤ k
  ·by_cases h2 : ∃ o : Obj, W.heap[k]? = some o /\ o.isCells = true
   ·obtain ⟨o, h2, h3⟩ := h2
    rw [h2]; exact e6 k o h2 h3
   ·exact absurd ⟨h, h2⟩ hf
  ·exact e5 k (by omega)⟩
 have hx : Ext w w' := hk.trans' kx fun i hi h => absurd h.1 (by omega)
 refine ⟨v, ?_, RetN.mk hx (hP w' hx kx)⟩
 have h4' : tmps[8]?.getD undef = v := by simpa using h4
 simp [results, Tryz.f56, go_sem, h4']
def aA1 (ls : List aO) (E1 E2 : List Ent) (k : Int) (j : Nat) : List Ent := if j < ls.length then (if (j : Int) = k then E2 else E1) else []
def pJ (o1 o2 : Option Addr) (k : Int) (i : Nat) : List Value := (List.range i).map fun j => .pointer (if ((j : Nat) : Int) = k then o2 else o1)
theorem aIr (o1 o2 : Option Addr) (k : Int) (i : Nat) : (pJ o1 o2 k i).length = i := by unfold pJ; rw [List.length_map, List.length_range]
theorem xO (o1 o2 : Option Addr) (k : Int) (i : Nat) : pJ o1 o2 k (i + 1) = pJ o1 o2 k i ++ [.pointer (if ((i : Nat) : Int) = k then o2 else o1)] := by unfold pJ; rw [List.range_succ, List.map_append]; rfl
def BldTo (w0 : World) (g0 : Nat) (cs : List Value) (o1 o2 : Option Addr) (k : Int) (n : Nat) (ov iv : Value) (W : World) : Prop := ∃ i : Nat, i ≤ n /\ iv = .int .i64 i /\ Hid (Ext w0 W) /\ Hid (Row W 29 1 ov i (pJ o1 o2 k i) (New w0)) /\ Hid (Blk W g0 cs 27)
theorem aGe {S1 S2 : Nat -> Prop} {w : World} {v1 v2 : Value} {E1 E2 : List Ent} {ls : List aO} {k : Int} (h1 : BaseV S1 w v1 E1) (h2 : BaseV S2 w v2 E2) : ∀ j x, x ∈ bF (aA1 ls E1 E2 k) ls j -> bQ x = true := fun j x hx => by
 unfold bF aA1 at hx
 split at hx
 ·split at hx
  ·exact pT h2 _ x hx
  ·exact pT h1 _ x hx
 ·simp [aY, dP] at hx
set_option maxRecDepth 100000 in
set_option maxHeartbeats 8000000 in
theorem aD4 {S1 S2 : Nat -> Prop} {w : World} {p : ByteArray} {hs : List aH} {ls : List aO} {ha ba : Option Addr} {hn hcap n bcap : Nat} {G : Nat -> Prop} {o1 o2 : Option Addr} {E1 E2 : List Ent} {L : aD} {k : Int} (hhn : hn = hs.length) (hh : bE w G ha hs) (hhl : hn ≤ 1048576) (hbn : n = ls.length) (h : dN w G ba ls) (hf : Fit ls) (hnv : (aB ls).length ≤ 1048576) (hn16 : n ≤ 1048576)
 (hB1 : BaseV S1 w (.pointer o1) E1) (hB2 : BaseV S2 w (.pointer o2) E2) (hL : kE ((p, hs, ()), ls, ()) (bF (aA1 ls E1 E2 k) ls) L) (hLn : L.length ≤ 1048576 * 1048576) :
 Calls Tryz.prog 56 #[eS p ha hn hcap ba n bcap, .pointer o1, .pointer o2, .int .i64 k] w (RetN w fun w' v => Row w' 9 1 v (cG bL (L.map cT)).length (strs (cG bL (L.map cT))) (New w)) := by
 have HOv := qH (fun W (hW : Ext w W) (bsa : Option Addr) (bsc : Nat) (hbs : CellsAt W bsa (pJ o1 o2 k n)) => aBr (w := W) (p := p) (hs := hs) (ls := ls) (ha := ha) (ba := ba) (bsa := bsa) (hn := hn) (hcap := hcap) (n := n) (bcap := bcap) (nb := n) (bsc := bsc) (G := G) (bvs := pJ o1 o2 k n) (Es := aA1 ls E1 E2 k) (L := L) hhn (hh.ext hW) hhl hbn (h.ext hW) hf hnv hn16 (by rw [aIr]) hbs (fun j => by
  unfold aA1 pJ
  by_cases hj : j < n
  ·rw [List.getD_eq_getElem?_getD, List.getElem?_map, List.getElem?_range hj, if_pos (by omega)]
   show ∃ S, BaseV S W (.pointer (if (j : Int) = k then o2 else o1)) (if (j : Int) = k then E2 else E1)
   by_cases hk : (j : Int) = k
   ·rw [if_pos hk, if_pos hk]; exact ⟨S2, hB2.ext hW⟩
   ·rw [if_neg hk, if_neg hk]; exact ⟨S1, hB1.ext hW⟩
  ·rw [List.getD_eq_getElem?_getD, List.getElem?_map, List.getElem?_eq_none (by rw [List.length_range]; omega), if_neg (by omega)]
   exact ⟨fun _ => False, BaseV.nil⟩) hL)
 have HK := qH (tO hL (aGe hB1 hB2))
 have HN := qH (And.intro hnv (And.intro hLn hbn))
 obtain ⟨gb, egb⟩ : ∃ g, w.heap.size = g := ⟨_, rfl⟩
 obtain ⟨w1, e1⟩ : ∃ x, w.alloc (.cells #[.string p, .slice ha hn hcap, .slice ba n bcap] 27) = x := ⟨_, rfl⟩
 have x1 : Ext w w1 := by rw [<- e1]; exact (Kp.refl w).alloc _
 have hB1' : Blk w1 gb [.string p, .slice ha hn hcap, .slice ba n bcap] 27 := by rw [<- e1, <- egb]; exact Blk.new w _ _
 have H1 := qH (And.intro x1 hB1')
 clear hhn hh hhl hbn h hf hnv hB1 hB2 hL x1 hB1' hLn
 refine callsIn_wide.1 (callsIn_of_wp_marks (n := 4) Tryz.func56 rfl trivial ?_ rfl)
 refine wpIn_wide.2 ?_
 obtain ⟨Q, eQ⟩ : ∃ Q, Q = bodyPostM Fence.wide 4 Tryz.prog Tryz.f56 (RetN w fun w' v => Row w' 9 1 v (cG bL (L.map cT)).length (strs (cG bL (L.map cT))) (New w)) := ⟨_, rfl⟩
 rw [<- eQ]
 have EQ := qH eQ; clear eQ
 simp only [Tryz.ntmps56, List.size_toArray, List.length_cons, List.length_nil, Nat.reduceAdd, Nat.reduceSub, Array.replicate_succ, Array.replicate_zero, List.push_toArray, List.append_toArray, List.nil_append, List.cons_append]
 go_wp2
 clear e1
 have HG := qH egb
 clear egb
 go_loopw [9, 10] (fun ov iv wr => BldTo w gb [.string p, .slice ha hn hcap, .slice ba n bcap] o1 o2 k n ov iv wr) (fun _ iv _ => n - (intOf iv).toNat)
 case atStart => exact ⟨0, Nat.zero_le _, rfl, qH H1.out.1, qH (Row.nil _ _ _ _), qH H1.out.2⟩
 case round =>
  obtain ⟨i, hi, rfl, hex, hro, hbk⟩ := hrel
  obtain ⟨oa, oc, eov, hoc, _⟩ := hro.out.shape
  subst eov
  have r2 : wr.cell? ⟨gb, 2, none⟩ = some (.slice ba n bcap) := by rw [hbk.out.cell']; rfl
  by_cases hlt : i < n
  ·by_cases hik : (i : Int) = k
   ·have hik2 : ((i : Int) == k) = true := by simp [hik]
    have HS := qH (show pJ o1 o2 k (i + 1) = pJ o1 o2 k i ++ [.pointer o2] from by rw [xO, if_pos hik])
    clear hik hoc
    go_wp2_with (first | (at_builtin; refine Halted.out ?_))
    refine Halted.mk (dC (m := 1) (n := i) lD rfl _ _ rfl (hex.out.alloc _) rfl (hro.out.alloc _) rfl (CellsAt.one wr (.pointer o2) 29) (by rfl) (by simp [Value.oneCell']) (by omega) (by unfold maxLen; omega) ?_)
    intro v6 w6 hr6 hk6 hk6b _
    have hb6 := (hbk.out.alloc (.cells #[.pointer o2] 29)).kp hk6b fun hg => by
     obtain ⟨cs, hb⟩ := aT hro.out hg
     exact absurd (aU hb hbk.out) (by decide)
    have HF := qH (show Ext w w6 /\ Row w6 29 1 v6 (i + 1) (pJ o1 o2 k (i + 1)) (New w) /\ Blk w6 gb [.string p, .slice ha hn hcap, .slice ba n bcap] 27 from ⟨hk6, by rw [HS.out]; exact hr6, hb6⟩)
    obtain ⟨la, lcap, elv, _, _⟩ := hr6.shape
    subst elv
    clear hr6 hk6 hk6b hb6
    go_wp2
    go_roundw
    case rel => exact ⟨i + 1, by omega, by first | rfl | (congr 1; done) | (congr 1; omega), qH HF.out.1, qH HF.out.2.1, qH HF.out.2.2⟩
    case measure => simp [intOf]; omega
   ·have hik2 : ((i : Int) == k) = false := by simp [hik]
    have HS := qH (show pJ o1 o2 k (i + 1) = pJ o1 o2 k i ++ [.pointer o1] from by rw [xO, if_neg hik])
    clear hik hoc
    go_wp2_with (first | (at_builtin; refine Halted.out ?_))
    refine Halted.mk (dC (m := 1) (n := i) lD rfl _ _ rfl (hex.out.alloc _) rfl (hro.out.alloc _) rfl (CellsAt.one wr (.pointer o1) 29) (by rfl) (by simp [Value.oneCell']) (by omega) (by unfold maxLen; omega) ?_)
    intro v6 w6 hr6 hk6 hk6b _
    have hb6 := (hbk.out.alloc (.cells #[.pointer o1] 29)).kp hk6b fun hg => by
     obtain ⟨cs, hb⟩ := aT hro.out hg
     exact absurd (aU hb hbk.out) (by decide)
    have HF := qH (show Ext w w6 /\ Row w6 29 1 v6 (i + 1) (pJ o1 o2 k (i + 1)) (New w) /\ Blk w6 gb [.string p, .slice ha hn hcap, .slice ba n bcap] 27 from ⟨hk6, by rw [HS.out]; exact hr6, hb6⟩)
    obtain ⟨la, lcap, elv, _, _⟩ := hr6.shape
    subst elv
    clear hr6 hk6 hk6b hb6
    go_wp2
    go_roundw
    case rel => exact ⟨i + 1, by omega, by first | rfl | (congr 1; done) | (congr 1; omega), qH HF.out.1, qH HF.out.2.1, qH HF.out.2.2⟩
    case measure => simp [intOf]; omega
  ·obtain rfl : n = i := by omega
   obtain ⟨g11, eg11⟩ : ∃ g, wr.heap.size = g := ⟨_, rfl⟩
   obtain ⟨w2, e2⟩ : ∃ x, wr.alloc (.cells #[.slice none 0 0] 34) = x := ⟨_, rfl⟩
   have x2 : Ext wr w2 := by rw [<- e2]; exact (Kp.refl wr).alloc _
   have hB11 : Blk w2 g11 [.slice none 0 0] 34 := by rw [<- e2, <- eg11]; exact Blk.new wr _ _
   have hb2 := hbk.out.ext x2
   have q0 : w2.cell? ⟨gb, 0, none⟩ = some (.string p) := by rw [hb2.cell']; rfl
   have q1 : w2.cell? ⟨gb, 1, none⟩ = some (.slice ha hn hcap) := by rw [hb2.cell']; rfl
   have q2 : w2.cell? ⟨gb, 2, none⟩ = some (.slice ba n bcap) := by rw [hb2.cell']; rfl
   have HC := qH (HOv.out w2 (hex.out.trans x2) oa oc (hoc.ext x2))
   have H2 := qH (And.intro (hex.out.trans x2) (And.intro hB11 (show w.heap.size ≤ g11 from by rw [<- eg11]; exact hex.out.size)))
   clear x2 hB11 hb2 hoc hro hbk hex
   go_wp2_with fail
   clear e2 eg11
   refine HC.out.mono ?_
   rintro e w8 ⟨v8, rfl, hk8, xb, lo, hlo, rfl, hseq⟩
   have HS := qH (show wT Fence.wide 3 Tryz.prog 82 #[.pointer (some ⟨xb, 0, none⟩)] (fun x : XB => #[.slice x.1.1 x.1.2.1 x.1.2.2]) (fun k => lo ≤ k /\ k < w8.heap.size) GvRow (fun xs => xs.map Prod.snd = L) (fun pre => pre.map Prod.snd <+: L) w8 from hseq 3)
   have H8 := qH (show Blk w8 g11 [.slice none 0 0] 34 /\ Ext w w8 /\ g11 < lo from ⟨H2.out.2.1.ext hk8, H2.out.1.trans hk8, Nat.lt_of_lt_of_le H2.out.2.1.lt hlo⟩)
   clear hseq hk8 hlo q0 q1 q2 r2
   go_wp2_with fail
   have hb8 : g11 < w8.heap.size := H8.out.1.lt
   refine' wpIn_wide.1 (oT (F := Fence.wide) (n := 4) (w0 := w8) rfl (by omega) (gf := 82) (lb := #[.pointer (some ⟨xb, 0, none⟩)]) rfl trivial (enters_of Tryz.func82 (by kernel_rfl) rfl)
    HS.out (Kp.refl _) (fun k h => h.2) (fun _ => rfl) GvRow.put (ListI w8 g11 pB) (fun _ _ _ _ => False)
    (fun T s W l o o' h _ hl ho hc => h.put hb8 hl ho hc) (fun c T s W l o o' h _ hl ho hc => h.elim)
    (fun W o h => h.step hb8 ((Kp.refl W).alloc o) (fun k hk => hk.elim)) (ListI.start H8.out.1 rfl) _ ?assign ?body ?done ?stop)
   case assign =>
    intro l x W K hK
    gi_wp2
    exact hK
   case body =>
    rintro l T T' pre ⟨⟨xa, xn, xc⟩, V⟩ W1 W hI hT hk hsub hgv hpre
    have hI2 := hI.step hb8 hk hsub
    have hTlt : ∀ k, T' k -> k < W.heap.size := fun k hk' => by
     rcases hsub k hk' with h | h
     ·exact Nat.lt_of_lt_of_le (hT k h) hk.size
     ·exact h.2
    obtain ⟨hx1, hxc⟩ := hgv.cells
    have hxn : xn = V.length := hx1.1
    have hxc2 : xc = V.length := hx1.2
    subst hxn hxc2
    have hmem : V ∈ L := hpre.subset (by rw [List.map_append]; exact List.mem_append_right _ (List.mem_singleton.2 rfl))
    have hpl : pre.length < L.length := by
     have h := hpre.length_le
     rw [List.length_map, List.length_append, List.length_singleton] at h
     omega
    obtain ⟨hc0, hVl, hVs⟩ := HK.out V hmem
    have hN1 := HN.out.1
    have hN2 := HN.out.2.1
    have hVl' : V.length = (aB ls).length := hVl
    obtain ⟨v, hv, hrv⟩ := hI2.2.2
    have hel : (pB pre).length ≤ pre.length := by
     unfold pB
     have h := mZ (c := bL) (pre.map fun x => cT x.2)
     rw [List.length_map] at h; exact h
    refine wpIn_mono (Q := iB (fun X' => KeepsFrom w8.heap.size W X' /\ Kp (fun k => ¬ gH (fun k => lo ≤ k /\ k < w8.heap.size) T' k) W X' /\ ListI w8 g11 pB T' (pre ++ [((xa, V.length, V.length), V)]) X') (fun _ => False)) ?_ ?_
    ·show Code.wpIn _ _ _ aBs _ _ _
     refine aD2 (v := v) (ss := pB pre) (V := V) hv hrv (by omega) (Strict.new jM _) hxc (by omega) hVs rfl rfl rfl ?_
     rintro X' hk' ⟨v', hv', hr'⟩
     exact hI2.round2 hb8 hTlt (fun k hk => ⟨by have := H8.out.2.2; have := hk.1; omega, hk.2⟩) hv (hk'.mono fun k _ h => .inl h) hv' (by rw [aD3]; exact hr'.mono fun g hg => .inr hg)
    ·intro e a W' h
     cases e <;> first | exact h | exact h.elim
   case done =>
    rintro D T xs W1 W hD hxs hI hT hk hd
    have hI2 := hI.step (T' := fun _ => False) hb8 hk (fun k hk' => hk'.elim)
    obtain ⟨kX, hTge, v, hv, hrv⟩ := hI2
    have hxs' : pB xs = cG bL (L.map cT) := by
     have h : xs.map Prod.snd = L := hxs
     unfold pB
     rw [<- h, List.map_map]; rfl
    rw [hxs'] at hrv
    have hm1 : Marks w8.heap.size W [{ target := .collected D, args := #[] }] := Marks.push (Marks.nil w8.heap.size w8) (fun k o h ho => (kX.block k (lt_of_block h) (fun e => by
     have e' : k = g11 := e
     have h8 := H8.out.1
     unfold Blk at h8
     rw [e', h8] at h; cases h; cases ho)).trans h) hD hD hd
    have v7 : W.cell? ⟨g11, 0, none⟩ = some v := by rw [hv.cell']; rfl
    obtain ⟨la, lc, ev, _, _⟩ := hrv.shape
    subst ev
    have HZ := qH (And.intro hm1 (And.intro hrv kX))
    clear hxs' hm1 hrv kX hTge hI hT hk hd hD hxs hv
    go_wp2_with fail
    obtain ⟨hm1, hrv, kX⟩ := HZ.out
    have hx8 := H8.out.2.1.size
    have hgl := H2.out.2.2
    rw [EQ.out]
    refine aJc (lo := w8.heap.size) hm1 (H8.out.2.1.trans' kX fun i hi hf => by have e : i = g11 := hf; omega) hx8 rfl fun w' hx' kx => ?_
    refine (hrv.kp' kx fun g hg hM hf => ?_).mono fun g hg => Nat.le_trans hx8 hg.1
    obtain ⟨cs, hb⟩ := aT hrv hg
    exact hf.2 ⟨_, hb, rfl⟩
   case stop =>
    rintro D c T pre W1 W hD hpre hX hT hk hd
    exact hX.elim
end Go.Proofs.YtinnmeiphbdogaaGreat
/- Bases merged, in plain Lean. No program in sight. -/
namespace Go.Proofs.YtinnmeiphbdogaaGreat
def sG (C D : List aV) : Bool := D.any fun p => match bD C p.1 with
 | some v => decide (v.1 ≠ p.2.1)
 | none => false
def cB (C : List aV) (p : aV) : aD := match bD C p.1 with
 | some v => cG aC (v.2 ++ p.2.2)
 | none => p.2.2
def lE (C : List aV) (p : aV) : aV := (p.1, p.2.1, cB C p)
def aFx (C D : List aV) : List aV := C.filter fun p => (bD D p.1).isNone
def fO (C D : List aV) : List aV := aFx C D ++ D.map (lE C)
def gQ (C D : List aV) : Nat := if sG C D = true then 30 else if D.any (fun p => decide (65536 < (cB C p).length)) = true then 4 else if 262144 < aS (fO C D) then 4 else 0
theorem nE {C D : List aV} (hC : (C.map (·.1)).Nodup) (hD : (D.map (·.1)).Nodup) : ((fO C D).map (·.1)).Nodup := by
 unfold fO
 rw [List.map_append, List.map_map]
 have e : (D.map ((fun p : aV => p.1) ∘ lE C)) = D.map (·.1) := List.map_congr_left fun p _ => rfl
 rw [e]
 refine List.nodup_append.2 ⟨hC.sublist ((List.filter_sublist).map _), hD, fun a ha b hb e2 => ?_⟩
 subst e2
 obtain ⟨p, hp, rfl⟩ := List.mem_map.1 ha
 unfold aFx at hp
 obtain ⟨_, h2⟩ := List.mem_filter.1 hp
 have h3 : bD D p.1 = none := by
  cases hg : bD D p.1 with
  | none => rfl
  | some v => rw [hg] at h2; cases h2
 exact iT.1 h3 hb
theorem aJh {C D : List aV} (hC : BaseOk C) (hD : BaseOk D) (h : gQ C D = 0) : BaseOk (fO C D) := by
 unfold gQ at h
 split at h
 ·cases h
 ·rename_i h1
  split at h
  ·cases h
  ·rename_i h2
   split at h
   ·cases h
   ·rename_i h3
    refine ⟨nE hC.nodup hD.nodup, fun p hp => ?_, by omega⟩
    unfold fO at hp
    rcases List.mem_append.1 hp with hp | hp
    ·exact hC.all p (List.mem_filter.1 hp).1
    ·obtain ⟨q, hq, rfl⟩ := List.mem_map.1 hp
     have hq' := hD.all q hq
     have hlen : (cB C q).length ≤ 65536 := by
      have h4 : ¬ (D.any (fun p => decide (65536 < (cB C p).length)) = true) := h2
      rw [List.any_eq_true] at h4
      have h5 : ¬ 65536 < (cB C q).length := fun h6 => h4 ⟨q, hq, decide_eq_true h6⟩
      omega
     cases hg : bD C q.1 with
     | none =>
      have e : cB C q = q.2.2 := by unfold cB; rw [hg]
      refine ⟨hq'.name, hq'.ar, ?_, ?_, ?_, hlen⟩
      ·show Strict aC (cB C q); rw [e]; exact hq'.strict
      ·show ∀ r ∈ cB C q, _; rw [e]; exact hq'.len
      ·show ∀ r ∈ cB C q, _; rw [e]; exact hq'.txt
     | some v =>
      have e : cB C q = cG aC (v.2 ++ q.2.2) := by unfold cB; rw [hg]
      have hv := hC.all _ ((cV hC.nodup).1 hg)
      have har : v.1 = q.2.1 := by
       have h6 : ¬ sG C D = true := h1
       unfold sG at h6
       rw [List.any_eq_true] at h6
       by_cases h7 : v.1 = q.2.1
       ·exact h7
       ·exact absurd ⟨q, hq, by rw [hg]; exact decide_eq_true h7⟩ h6
      have hmem : ∀ r ∈ cB C q, r ∈ v.2 \/ r ∈ q.2.2 := fun r hr => by
       rw [e] at hr
       exact List.mem_append.1 ((aJi cC iN).1 hr)
      refine ⟨hq'.name, hq'.ar, ?_, fun r hr => ?_, fun r hr => ?_, hlen⟩
      ·show Strict aC (cB C q); rw [e]; exact Strict.new cC _
      ·rcases hmem r hr with h8 | h8
       ·exact (hv.len r h8).trans har
       ·exact hq'.len r h8
      ·rcases hmem r hr with h8 | h8
       ·exact hv.txt r h8
       ·exact hq'.txt r h8
end Go.Proofs.YtinnmeiphbdogaaGreat
/- The law of joins: JoinMore: plain. -/
namespace Go.Proofs.YtinnmeiphbdogaaGreat
def fN (C D : List aV) (k : Int) (ls : List aO) (j : Nat) : aD := match ls[j]? with | some l => aP (if (j : Int) = k then D else C) (aX l) | none => []
def bA (r : cO) (C D : List aV) (k : Int) : aD := if bO r = 0 then aKb r (fN C D k r.2.1) else []
theorem aIz (ls : List aO) (E1 E2 : List Ent) (k : Int) : bF (aA1 ls E1 E2 k) ls = fN (aE E1) (aE E2) k ls := by
 funext j
 unfold bF aA1 fN
 by_cases hj : j < ls.length
 ·rw [if_pos hj, qG hj, lP]
  by_cases hk : (j : Int) = k
  ·rw [if_pos hk, if_pos hk]; rfl
  ·rw [if_neg hk, if_neg hk]; rfl
 ·rw [if_neg hj, List.getElem?_eq_none (by omega)]; rfl
theorem aC2 (r : cO) (E1 E2 : List Ent) (k : Int) : kE r (bF (aA1 r.2.1 E1 E2 k) r.2.1) (bA r (aE E1) (aE E2) k) := by
 rw [aIz]
 unfold bA
 exact ⟨fun hc => by rw [if_pos hc]; exact wR hc _, fun hc => by rw [if_neg hc]⟩
theorem eM {r : cO} (hc : bO r = 0) {C D : List aV} {k : Int} {V : List ByteArray} : V ∈ bA r C D k ↔ bZ r.2.1 (fN C D k r.2.1) V := by
 unfold bA
 rw [if_pos hc]
 exact (wR hc _).iff V
def bU (L : aD) : List ByteArray := cG bL (L.map cT)
theorem yG {acc : List ByteArray} {y x : ByteArray} : x ∈ bJ bL acc y ↔ x ∈ acc \/ x = y := by
 rw [dT]
 constructor
 ·rintro (h | h)
  ·exact .inl h
  ·exact .inr h.1
 ·rintro (h | rfl)
  ·exact .inl h
  ·by_cases hx : x ∈ acc
   ·exact .inl hx
   ·refine .inr ⟨rfl, ?_⟩
    cases hi : bC bL acc x with
    | false => rfl
    | true =>
     obtain ⟨z, hz, e⟩ := fI.1 hi
     rw [uL.1 e] at hz
     exact absurd hz hx
theorem aG9 {xs : List ByteArray} {x : ByteArray} : x ∈ cG bL xs ↔ x ∈ xs := by
 suffices h : ∀ (xs acc : List ByteArray), x ∈ xs.foldl (bJ bL) acc ↔ x ∈ acc \/ x ∈ xs from (h xs []).trans (by simp)
 intro xs
 induction xs with
 | nil => intro acc; simp
 | cons y xs ih =>
  intro acc
  rw [List.foldl_cons, ih]
  have h1 := yG (acc := acc) (y := y) (x := x)
  rw [h1, List.mem_cons, or_assoc]
theorem aHq {xs acc : List ByteArray} {x : ByteArray} : x ∈ xs.foldl (bJ bL) acc ↔ x ∈ acc \/ x ∈ xs := by
 induction xs generalizing acc with
 | nil => simp
 | cons y xs ih =>
  rw [List.foldl_cons, ih]
  have h1 := yG (acc := acc) (y := y) (x := x)
  rw [h1, List.mem_cons, or_assoc]
theorem lW (xs : List ByteArray) : ∀ {acc : List ByteArray}, Strict bL acc -> Strict bL (xs.foldl (bJ bL) acc) := by
 induction xs with
 | nil => exact fun h => h
 | cons x xs ih => exact fun h => ih (h.add jM x)
theorem sM {A B : List ByteArray} (hA : Strict bL A) (hB : Strict bL B) (h : ∀ x, x ∈ A ↔ x ∈ B) : A = B := hA.unique jM hB h
theorem gL {L : aD} {s : ByteArray} : s ∈ bU L ↔ ∃ V ∈ L, cT V = s := by
 unfold bU
 rw [aG9, List.mem_map]
theorem dD (L : aD) : Strict bL (bU L) := Strict.new jM _
theorem aB0 {r : cO} {C1 C2 C12 : List aV} {k : Nat} {l : aO} (hl : r.2.1[k]? = some l) (hU : ∀ s x, x ∈ aP C12 s ↔ x ∈ aP C1 s \/ x ∈ aP C2 s) :
 (l.1 = 2 -> ∀ s ∈ bU (bA r C1 C12 k), s ∈ bU (bA r C1 C1 k)) /\
 (l.1 ≠ 2 -> l.1 ≠ 1 -> bU (bA r C1 C12 k) = bU (bA r C1 C1 k)) /\
 (l.1 = 1 -> bU (bA r C1 C12 k) = (bU (bA r C1 C2 k)).foldl (bJ bL) (bU (bA r C1 C1 k))) := by
 by_cases hc : bO r = 0
 ·have hrow : ∀ D : List aV, fN C1 D k r.2.1 k = aP D (aX l) := fun D => by unfold fN; rw [hl]; simp
  have hother : ∀ (D D' : List aV) (j : Nat), j ≠ k -> fN C1 D k r.2.1 j = fN C1 D' k r.2.1 j := fun D D' j hj => by
   unfold fN
   have hj' : ¬ (j : Int) = (k : Int) := by omega
   simp only [if_neg hj']
  have hok : ∀ D V, bZ r.2.1 (fN C1 D k r.2.1) V ↔ (V.length = (aB r.2.1).length /\ ∀ (i : Nat) (m : aO), r.2.1[i]? = some m -> i ≠ k -> gD (aB r.2.1) V (fN C1 C1 k r.2.1 i) m) /\ gD (aB r.2.1) V (aP D (aX l)) l := fun D V => by
   unfold bZ
   constructor
   ·rintro ⟨h1, h2⟩
    exact ⟨⟨h1, fun i m hm hi => by rw [hother C1 D i hi]; exact h2 i m hm⟩, by rw [<- hrow D]; exact h2 k l hl⟩
   ·rintro ⟨⟨h1, h2⟩, h3⟩
    refine ⟨h1, fun i m hm => ?_⟩
    by_cases hi : i = k
    ·subst hi
     rw [hl] at hm; cases hm
     rw [hrow]; exact h3
    ·rw [hother D C1 i hi]; exact h2 i m hm hi
  refine ⟨fun h2 s hs => ?_, fun h2 h1 => ?_, fun h1 => ?_⟩
  ·obtain ⟨V, hV, e⟩ := gL.1 hs
   refine gL.2 ⟨V, ?_, e⟩
   rw [eM hc, hok] at hV ⊢
   refine ⟨hV.1, ?_⟩
   have h3 := hV.2
   unfold gD at h3 ⊢
   rw [if_neg (by omega), if_pos h2] at h3 ⊢
   rintro ⟨x, hx, hf⟩
   exact h3 ⟨x, (hU _ _).2 (.inl hx), hf⟩
  ·refine sM (dD _) (dD _) fun s => ?_
   rw [gL, gL]
   have e : ∀ V, V ∈ bA r C1 C12 k ↔ V ∈ bA r C1 C1 k := fun V => by
    rw [eM hc, eM hc, hok, hok]
    unfold gD
    rw [if_neg h1, if_neg h2, if_neg h1, if_neg h2]
   exact ⟨fun ⟨V, h, e2⟩ => ⟨V, (e V).1 h, e2⟩, fun ⟨V, h, e2⟩ => ⟨V, (e V).2 h, e2⟩⟩
  ·refine sM (dD _) (lW _ (dD _)) fun s => ?_
   rw [aHq, gL, gL, gL]
   have e : ∀ V, V ∈ bA r C1 C12 k ↔ V ∈ bA r C1 C1 k \/ V ∈ bA r C1 C2 k := fun V => by
    rw [eM hc, eM hc, eM hc, hok, hok, hok, <- and_or_left]
    refine and_congr_right fun _ => ?_
    unfold gD
    rw [if_pos h1, if_pos h1, if_pos h1]
    constructor
    ·rintro ⟨x, hx, hf⟩
     rcases (hU _ _).1 hx with hx | hx
     ·exact .inl ⟨x, hx, hf⟩
     ·exact .inr ⟨x, hx, hf⟩
    ·rintro (⟨x, hx, hf⟩ | ⟨x, hx, hf⟩)
     ·exact ⟨x, (hU _ _).2 (.inl hx), hf⟩
     ·exact ⟨x, (hU _ _).2 (.inr hx), hf⟩
   constructor
   ·rintro ⟨V, h, e2⟩
    rcases (e V).1 h with h | h
    ·exact .inl ⟨V, h, e2⟩
    ·exact .inr ⟨V, h, e2⟩
   ·rintro (⟨V, h, e2⟩ | ⟨V, h, e2⟩)
    ·exact ⟨V, (e V).2 (.inl h), e2⟩
    ·exact ⟨V, (e V).2 (.inr h), e2⟩
 ·have h0 : ∀ C D, bA r C D k = [] := fun C D => by unfold bA; rw [if_neg hc]
  rw [h0, h0, h0]
  exact ⟨fun _ s hs => hs, fun _ _ => rfl, fun _ => rfl⟩
theorem aEe {C D : List aV} (hC : BaseOk C) (hD : BaseOk D) (s : ByteArray) (x : List ByteArray) : x ∈ aP (fO C D) s ↔ x ∈ aP C s \/ x ∈ aP D s := by
 have hn := nE hC.nodup hD.nodup
 have rc : ∀ {C : List aV}, (C.map (·.1)).Nodup -> (x ∈ aP C s ↔ ∃ v, (s, v) ∈ C /\ x ∈ v.2) := fun {C} h => by
  unfold aP
  constructor
  ·intro hx
   cases hg : bD C s with
   | none => rw [hg] at hx; simp at hx
   | some v => rw [hg] at hx; exact ⟨v, (cV h).1 hg, hx⟩
  ·rintro ⟨v, hv, hx⟩
   rw [(cV h).2 hv]; exact hx
 rw [rc hn, rc hC.nodup, rc hD.nodup]
 unfold fO
 constructor
 ·rintro ⟨v, hv, hx⟩
  rcases List.mem_append.1 hv with hv | hv
  ·exact .inl ⟨v, (List.mem_filter.1 hv).1, hx⟩
  ·obtain ⟨p, hp, e⟩ := List.mem_map.1 hv
   unfold lE at e
   have e1 : p.1 = s := congrArg (·.1) e
   have e2 : cB C p = v.2 := congrArg (·.2.2) e
   rw [<- e2] at hx
   unfold cB at hx
   rw [e1] at hx
   cases hg : bD C s with
   | none =>
    rw [hg] at hx
    exact .inr ⟨p.2, by rw [<- e1]; exact hp, hx⟩
   | some u =>
    rw [hg] at hx
    rcases List.mem_append.1 (qN hx) with h | h
    ·exact .inl ⟨u, (cV hC.nodup).1 hg, h⟩
    ·exact .inr ⟨p.2, by rw [<- e1]; exact hp, h⟩
 ·rintro (⟨v, hv, hx⟩ | ⟨v, hv, hx⟩)
  ·have hg := (cV hC.nodup).2 hv
   cases hd : bD D s with
   | none =>
    refine ⟨v, List.mem_append_left _ (List.mem_filter.2 ⟨hv, ?_⟩), hx⟩
    show (bD D s).isNone = true
    rw [hd]; rfl
   | some u =>
    have hu := (cV hD.nodup).1 hd
    refine ⟨(u.1, cB C (s, u)), List.mem_append_right _ (List.mem_map.2 ⟨(s, u), hu, rfl⟩), ?_⟩
    show x ∈ cB C (s, u)
    unfold cB
    rw [show bD C (s, u).1 = some v from hg]
    exact qO.2 (List.mem_append_left _ hx)
  ·refine ⟨(v.1, cB C (s, v)), List.mem_append_right _ (List.mem_map.2 ⟨(s, v), hv, rfl⟩), ?_⟩
   show x ∈ cB C (s, v)
   unfold cB
   cases hg : bD C (s, v).1 with
   | none => exact hx
   | some u => exact qO.2 (List.mem_append_right _ hx)
end Go.Proofs.YtinnmeiphbdogaaGreat
/- The law of joins: base, few. -/
namespace Go.Proofs.YtinnmeiphbdogaaGreat
open Go.RowKit Go.Shelf
attribute [local go_sem] Oper.semAt_some
def BaseIn (w : World) (L : List iJ) (w' : World) (v : Value) : Prop :=
 ((cD [] L).2 = 0 /\ ∃ bb r S E, v = .tuple #[.pointer (some ⟨bb, 0, none⟩), .bool (decide (aS (cD [] L).1 ≤ 60))] /\ BaseAt S w' bb r E /\ aE E = (cD [] L).1 /\ (∀ k, S k -> w.heap.size ≤ k) /\ ∀ k, dX bb r E k -> w.heap.size ≤ k) \/
 ((cD [] L).2 ≠ 0 /\ v = .tuple #[.pointer none, .bool false])
set_option maxRecDepth 100000 in
set_option maxHeartbeats 4000000 in
theorem wS (L : List iJ) (ao : Option Addr) (n cap : Nat) (w : World) (S0 : Nat -> Prop) (hn : n = L.length) (hL : RelsIn S0 w ao L) (hl : n ≤ 4194304) (hr : ∀ q ∈ L, q.2.2.1.length ≤ 1048576) :
 Calls Tryz.prog 10 #[.slice ao n cap] w (RetN w (BaseIn w L)) := by
 have HFr := qH (aCj L ao n cap w S0 hn hL hl hr)
 clear hn hL hl hr
 go_enter Tryz.func10, Tryz.ntmps10
 go_wp2_with fail
 refine HFr.out.mono ?_
 rintro e w1 ⟨v, rfl, hk1, hv⟩
 by_cases hc : (cD [] L).2 = 0
 ·obtain ⟨bb, r, S, E, rfl, hb, hC, h1, h2⟩ := hv.1 hc
  have H1 := qH (show Ext w w1 /\ BaseAt S w1 bb r E /\ aE E = (cD [] L).1 /\ (∀ k, S k -> w.heap.size ≤ k) /\ ∀ k, dX bb r E k -> w.heap.size ≤ k from ⟨hk1, hb, hC, h1, h2⟩)
  have HC := qH hc
  clear hv hk1 hb hC h1 h2 hc
  go_wp2_with fail
  refine (rU 0 w1).mono ?_
  rintro e w2 ⟨v, rfl, hk2, rfl⟩
  have HLn := qH (aC3 (H1.out.2.1.ext hk2).blk)
  have X2 := qH hk2
  clear hk2
  obtain ⟨tc, etc⟩ : ∃ t, aS (aE E) = t := ⟨_, rfl⟩
  rw [etc] at HLn
  have HTc := qH etc
  clear etc
  go_wp2_with fail
  refine HLn.out.mono ?_
  rintro e w3 ⟨rfl, rfl⟩
  have hd : decide ((tc : Int) ≤ 60) = decide (tc ≤ 60) := by rw [decide_eq_decide]; omega
  have HD := qH hd
  clear hd
  go_wp2
  go_ret2
  refine RetN.mk (H1.out.1.trans X2.out) (.inl ⟨HC.out, bb, r, S, E, ?_, H1.out.2.1.ext X2.out, H1.out.2.2.1, H1.out.2.2.2.1, H1.out.2.2.2.2⟩)
  rw [<- H1.out.2.2.1, HTc.out]
  first
   | rfl
   | (rw [<- HD.out]; rfl)
   | simp
 ·have hv2 := hv.2 hc
  subst hv2
  have HC := qH (And.intro hc hk1)
  obtain ⟨z, ez⟩ : ∃ z, (cD [] L).2 = z := ⟨_, rfl⟩
  rw [ez] at hc ⊢
  have hz : ((z : Int) == 0) = false := by simp; omega
  clear hv hk1 hc ez
  go_wp2_with fail
  refine (rU z w1).mono ?_
  rintro e w2 ⟨v, rfl, hk2, rfl⟩
  have X2 := qH hk2
  clear hk2
  go_wp2
  go_ret2
  exact RetN.mk (HC.out.2.trans X2.out) (.inr ⟨HC.out.1, rfl⟩)
def jG (C : List aV) : List aO -> Nat -> Option Nat
 | [], n => some n
 | l :: ls, n => if l.1 = 1 then (if 20000 < n * (1 + (aP C (aX l)).length) then none else jG C ls (n * (1 + (aP C (aX l)).length))) else jG C ls n
def xD (C : List aV) (ls : List aO) : Bool := (jG C ls 1).isSome
theorem iV (C : List aV) : ∀ (a b : List aO) (n : Nat), jG C (a ++ b) n = (jG C a n).bind (jG C b)
 | [], b, n => rfl
 | l :: a, b, n => by
  show jG C (l :: (a ++ b)) n = (jG C (l :: a) n).bind _
  unfold jG
  split
  ·split
   ·rfl
   ·exact iV C a b _
  ·exact iV C a b n
def FewTo (w0 : World) (C : List aV) (ls : List aO) (n : Nat) (pv iv : Value) (w : World) : Prop := ∃ (i m : Nat), i ≤ n /\ iv = .int .i64 i /\ pv = .int .i64 m /\ m ≤ 20000 /\ Hid (Ext w0 w) /\ Hid (jG C (ls.take i) 1 = some m)
set_option maxRecDepth 100000 in
set_option maxHeartbeats 4000000 in
theorem aHt {S : Nat -> Prop} {w : World} {p : ByteArray} {hs : List aH} {ls : List aO} {ha ba : Option Addr} {hn hcap n bcap : Nat} {G : Nat -> Prop} {v : Value} {E : List Ent} (hbn : n = ls.length) (h : dN w G ba ls) (hf : Fit ls) (hB : BaseV S w v E) :
 Calls Tryz.prog 11 #[eS p ha hn hcap ba n bcap, v] w (RetN w fun w' u => u = .bool (xD (aE E) ls)) := by
 have HN := qH hbn; have HE := qH h; have HF := qH hf; have hl : n ≤ 1048576 := by have := hf.len; omega
 have HSz := qH (fun W (hW : Ext w W) (s : ByteArray) => aAk (hB.ext hW) s)
 have hok := hB.ok
 have HSm := qH (show ∀ s, (aP (aE E) s).length ≤ 65536 from fun s => by
  unfold aP
  cases hg : bD (aE E) s with
  | none => exact Nat.zero_le _
  | some x => exact (hok.all (s, x) ((cV hok.nodup).1 hg)).few)
 clear hbn h hf hB hok
 obtain ⟨g0, eg0⟩ : ∃ g, w.heap.size = g := ⟨_, rfl⟩
 obtain ⟨w1, e1⟩ : ∃ x, w.alloc (.cells #[.string p, .slice ha hn hcap, .slice ba n bcap] 27) = x := ⟨_, rfl⟩
 have hB1 : Blk w1 g0 [.string p, .slice ha hn hcap, .slice ba n bcap] 27 := by rw [<- e1, <- eg0]; exact Blk.new w _ _
 have hx1 : Ext w w1 := by rw [<- e1]; exact (Kp.refl w).alloc _
 have H1 := qH (And.intro hx1 hB1)
 clear hB1 hx1
 go_enter Tryz.func11, Tryz.ntmps11
 go_wp2
 clear e1 eg0
 go_loopw [5, 6] (fun pv iv wr => FewTo w1 (aE E) ls n pv iv wr) (fun _ iv _ => n - (intOf iv).toNat)
 case atStart => exact ⟨0, 1, Nat.zero_le _, rfl, rfl, by decide, qH (Kp.refl _), qH rfl⟩
 case round =>
  obtain ⟨i, m, hi, rfl, rfl, hm, hex, hfe⟩ := hrel
  have XR := qH (H1.out.1.trans hex.out)
  have b2 : wr.cell? ⟨g0, 2, none⟩ = some (.slice ba n bcap) := by rw [(H1.out.2.ext hex.out).cell']; rfl
  by_cases hlt : i < n
  ·have hltl : i < ls.length := by rw [<- HN.out]; exact hlt
   obtain ⟨l, hli⟩ : ∃ l, ls[i]? = some l := ⟨_, qG hltl⟩
   obtain ⟨b, off, a2, cap2, eao, hG, hb, hL, c0, c1, c2, c3, c4, c5, c6, c7⟩ := nG HE.out hli
   subst eao
   replace c0 := XR.out.cell c0 id
   replace c1 := XR.out.cell c1 id
   replace c2 := XR.out.cell c2 id
   replace c3 := XR.out.cell c3 id
   replace c4 := XR.out.cell c4 id
   replace c5 := XR.out.cell c5 id
   replace c6 := XR.out.cell c6 id
   replace c7 := XR.out.cell c7 id
   obtain ⟨mm, emm⟩ : ∃ mm, mm = (aA l).length := ⟨_, rfl⟩
   rw [<- emm] at c2
   have hmm : mm ≤ 1048576 := by rw [emm]; exact HF.out.terms l (List.mem_of_getElem? hli)
   obtain ⟨k, ek⟩ : ∃ k, k = l.1 := ⟨_, rfl⟩
   rw [<- ek] at c0
   clear hltl hG hb
   obtain ⟨pl, epl⟩ : ∃ pl, aX l = pl := ⟨_, rfl⟩
   rw [epl] at c1
   have HT := qH (show ls.take (i + 1) = ls.take i ++ [l] from by rw [List.take_add_one, hli]; rfl)
   have HL := qH (And.intro hli (And.intro ek epl))
   clear hli ek epl emm hL hmm
   by_cases hk1 : k = 1
   ·subst hk1
    obtain ⟨z, ez⟩ : ∃ z, (dP (aY E pl)).length = z := ⟨_, rfl⟩
    have hz16 : z ≤ 65536 := by rw [<- ez, lP]; exact HSm.out pl
    have hSz := HSz.out wr XR.out pl
    rw [ez] at hSz
    have HS := qH hSz
    have HZ := qH (show (aP (aE E) pl).length = z from by rw [<- lP]; exact ez)
    clear ez hSz
    go_wp2_with fail
    refine HS.out.mono ?_
    rintro e w2 ⟨v2, rfl, hk2, rfl⟩
    have X2 := qH (hex.out.trans hk2)
    have hmz : m * (1 + z) ≤ 20000 * 65537 := Nat.mul_le_mul hm (by omega)
    have hw1 : IntKind.i64.wrap ((1 : Int) + (z : Int)) = (1 : Int) + (z : Int) := IntWalk.i64_in _ (by omega)
    obtain ⟨q, eq⟩ : ∃ q, m * (1 + z) = q := ⟨_, rfl⟩
    have hqi : (m : Int) * (1 + (z : Int)) = (q : Int) := by rw [<- eq]; push_cast; rfl
    rw [eq] at hmz
    have hw2 : IntKind.i64.wrap ((m : Int) * (1 + (z : Int))) = (q : Int) := by rw [hqi]; exact IntWalk.i64_in _ (by omega)
    have HQ := qH eq
    clear hk2 eq hqi c0 c1 c2 c3 c4 c5 c6 c7 b2
    by_cases hq : 20000 < q
    ·have HFa := qH (show xD (aE E) ls = false from by
      have e1 : ls = ls.take (i + 1) ++ ls.drop (i + 1) := (List.take_append_drop _ _).symm
      have e2 : jG (aE E) (ls.take (i + 1)) 1 = none := by
       rw [HT.out, iV, hfe.out]
       show jG (aE E) [l] m = none
       unfold jG
       rw [if_pos HL.out.2.1.symm, HL.out.2.2, HZ.out, HQ.out, if_pos hq]
      unfold xD
      rw [e1, iV, e2]; rfl)
     have hq2 : (20000 : Int) < (q : Int) := by omega
     clear hq hz16 hmz
     go_wp2
     go_ret
     exact RetN.mk (H1.out.1.trans X2.out) (by rw [HFa.out]; rfl)
    ·have HFa := qH (show jG (aE E) (ls.take (i + 1)) 1 = some q from by
      rw [HT.out, iV, hfe.out]
      show jG (aE E) [l] m = some q
      unfold jG
      rw [if_pos HL.out.2.1.symm, HL.out.2.2, HZ.out, HQ.out, if_neg hq]
      rfl)
     have hq2 : ¬ (20000 : Int) < (q : Int) := by omega
     have hq3 : q ≤ 20000 := by omega
     clear hq hz16 hmz hm
     go_wp2
     go_roundw
     case rel => exact ⟨i + 1, q, by omega, by first | rfl | (congr 1; done) | (congr 1; omega), rfl, hq3, X2, HFa⟩
     case measure => simp [intOf]; omega
   ·have hk2 : (k == 1) = false := by simp [hk1]
    have HFa := qH (show jG (aE E) (ls.take (i + 1)) 1 = some m from by
     rw [HT.out, iV, hfe.out]
     show jG (aE E) [l] m = some m
     unfold jG
     rw [if_neg (fun e => hk1 (HL.out.2.1.trans e))]
     rfl)
    clear hk1
    go_wp2
    go_roundw
    case rel => exact ⟨i + 1, m, by omega, by first | rfl | (congr 1; done) | (congr 1; omega), rfl, hm, hex, HFa⟩
    case measure => simp [intOf]; omega
  ·obtain rfl : n = i := by omega
   have HFa := qH (show xD (aE E) ls = true from by
    have h := hfe.out
    rw [List.take_of_length_le (by rw [<- HN.out]; exact Nat.le_refl _)] at h
    unfold xD; rw [h]; rfl)
   go_wp2
   go_ret
   exact RetN.mk XR.out (by rw [HFa.out]; rfl)
end Go.Proofs.YtinnmeiphbdogaaGreat
/- The law of joins: few rows, few bindings: plain. -/
namespace Go.Proofs.YtinnmeiphbdogaaGreat
def sR (R : Nat -> aD) : List aO -> Nat -> Nat
 | [], _ => 1
 | l :: rest, i => if l.1 = 1 then (1 + (R i).length) * sR R rest (i + 1) else sR R rest (i + 1)
theorem tG {α β : Type} {f : α -> List β} {m : Nat} : ∀ {L : List α}, (∀ x, (f x).length ≤ m) -> (L.flatMap f).length ≤ L.length * m
 | [], h => Nat.zero_le _
 | x :: L, h => by
  rw [List.flatMap_cons, List.length_append, List.length_cons, Nat.succ_mul]
  have h1 := tG (L := L) h
  have h2 := h x
  omega
theorem aDj (e : dL) (ts : List aH) (R : aD) : (cW e ts R).length ≤ R.length := by
 unfold cW
 refine Nat.le_trans (mZ _) ?_
 exact List.length_filterMap_le _ _
theorem mW (all : List aO) (R : Nat -> aD) : ∀ (rest : List aO) (i : Nat) (e : dL), (fZ all R rest i e).length ≤ sR R rest i
 | [], i, e => by
  unfold fZ sR
  split
  ·exact Nat.le_refl _
  ·exact Nat.zero_le _
 | l :: rest, i, e => by
  unfold fZ sR
  split
  ·refine Nat.le_trans (tG fun q => mW all R rest (i + 1) _) (Nat.mul_le_mul_right _ ?_)
   have h1 := aDj e (aA l) (jU (aA l) (R i))
   have h2 : (jU (aA l) (R i)).length ≤ (R i).length := List.length_filter_le _ _
   omega
  ·exact mW all R rest (i + 1) e
theorem aAh {C : List aV} : ∀ {ls : List aO} {n m : Nat}, n ≤ 20000 -> jG C ls n = some m -> m ≤ 20000
 | [], n, m, h, e => by cases e; exact h
 | l :: ls, n, m, h, e => by
  unfold jG at e
  split at e
  ·split at e
   ·cases e
   ·rename_i hq
    exact aAh (Nat.not_lt.1 hq) e
  ·exact aAh h e
theorem zS {R : Nat -> aD} {C : List aV} : ∀ {rest : List aO} {i n m : Nat}, (∀ (j : Nat) (l : aO), rest[j]? = some l -> (R (i + j)).length ≤ (aP C (aX l)).length) -> jG C rest n = some m -> n * sR R rest i ≤ m
 | [], i, n, m, h, e => by cases e; unfold sR; rw [Nat.mul_one]; exact Nat.le_refl _
 | l :: rest, i, n, m, h, e => by
  have ht : ∀ (j : Nat) (l' : aO), rest[j]? = some l' -> (R (i + 1 + j)).length ≤ (aP C (aX l')).length := fun j l' hj => by
   have := h (j + 1) l' (by simpa using hj)
   rw [show i + (j + 1) = i + 1 + j by omega] at this; exact this
  unfold jG at e
  unfold sR
  split at e
  ·rename_i h1
   rw [if_pos h1]
   split at e
   ·cases e
   ·have h2 := zS ht e
    have h0 := h 0 l rfl
    rw [Nat.add_zero] at h0
    refine Nat.le_trans ?_ h2
    rw [<- Nat.mul_assoc]
    exact Nat.mul_le_mul_right _ (Nat.mul_le_mul_left _ (by omega))
  ·rename_i h1
   rw [if_neg h1]
   exact zS ht e
theorem iU {C1 D C : List aV} {r : cO} {k : Int} (h : xD C r.2.1 = true) (h1 : ∀ s, (aP C1 s).length ≤ (aP C s).length) (h2 : ∀ s, (aP D s).length ≤ (aP C s).length) : (bA r C1 D k).length ≤ 20000 := by
 unfold xD at h
 obtain ⟨m, hm⟩ := Option.isSome_iff_exists.1 h
 have hm2 := aAh (by decide) hm
 unfold bA
 split
 ·have h3 := mW r.2.1 (fN C1 D k r.2.1) r.2.1 0 ([], [])
  have h4 := zS (R := fN C1 D k r.2.1) (i := 0) (fun j l hj => by
   rw [Nat.zero_add]
   unfold fN
   rw [hj]
   show (aP (if (j : Int) = k then D else C1) (aX l)).length ≤ _
   split
   ·exact h2 _
   ·exact h1 _) hm
  rw [Nat.one_mul] at h4
  show (fZ r.2.1 (fN C1 D k r.2.1) r.2.1 0 ([], [])).length ≤ _
  omega
 ·exact Nat.zero_le _
theorem zO {C : List aV} (h : BaseOk C) (s : ByteArray) : Strict aC (aP C s) := by
 unfold aP
 cases hg : bD C s with
 | none => exact List.Pairwise.nil
 | some v => exact (h.all _ ((cV h.nodup).1 hg)).strict
theorem jT {C D : List aV} (hC : BaseOk C) {s : ByteArray} (h : ∀ x, x ∈ aP C s -> x ∈ aP D s) : (aP C s).length ≤ (aP D s).length :=
 ((zO hC s).nodup cC).length_le_of_subset h
end Go.Proofs.YtinnmeiphbdogaaGreat
/- The law of joins: subset. -/
namespace Go.Proofs.YtinnmeiphbdogaaGreat
open Go.RowKit Go.Shelf
attribute [local go_sem] Oper.semAt_some
def LowK (A B : List ByteArray) (k i : Nat) : Prop := ∀ (j : Nat) (y x : ByteArray), j < k -> B[j]? = some y -> A[i]? = some x -> bL y x < 0
def aL7 (w0 : World) (A B : List ByteArray) (n m : Nat) (kv iv : Value) (W : World) : Prop := ∃ k i : Nat, k ≤ m /\ i ≤ n /\ kv = .int .i64 k /\ iv = .int .i64 i /\ Hid (Ext w0 W) /\ Hid (LowK A B k i)
def SubIn (w0 : World) (A B : List ByteArray) (m i : Nat) (kv : Value) (W : World) : Prop := ∃ k : Nat, k ≤ m /\ kv = .int .i64 k /\ Hid (Ext w0 W) /\ Hid (LowK A B k i)
theorem LowK.place {A B : List ByteArray} {k i p : Nat} {x : ByteArray} (h : LowK A B k i) (hx : A[i]? = some x) (hp : B[p]? = some x) : k ≤ p := by
 rcases Nat.lt_or_ge p k with h1 | h1
 ·have h2 := h p x x h1 hp hx
  rw [uL.2 rfl] at h2
  exact absurd h2 (by decide)
 ·exact h1
set_option maxRecDepth 100000 in
set_option maxHeartbeats 4000000 in
theorem pX {A B : List ByteArray} {ao bo : Option Addr} {n m acap bcap : Nat} {w : World} (hn : n = A.length) (hm : m = B.length) (ha : CellsAt w ao (strs A)) (hb : CellsAt w bo (strs B)) (hA : Strict bL A) (hB : Strict bL B) (hsub : ∀ x ∈ A, x ∈ B) (hl : n ≤ 1048576 * 1048576) (hl2 : m ≤ 1048576 * 1048576) :
 Calls Tryz.prog 57 #[.slice ao n acap, .slice bo m bcap] w (RetN w fun w' v => v = .bool true) := by
 have HN := qH (And.intro hn hm)
 have HA := qH (And.intro ha hA)
 have HB := qH (And.intro hb (And.intro hB hsub))
 clear hn hm ha hb hA hB hsub
 go_enter Tryz.func57, Tryz.ntmps57
 go_wp2
 go_loopw [5, 6] (fun kv iv wr => aL7 w A B n m kv iv wr) (fun _ iv _ => n - (intOf iv).toNat)
 case atStart => exact ⟨0, 0, Nat.zero_le _, Nat.zero_le _, rfl, rfl, qH (Kp.refl _), qH (fun j y x hj => absurd hj (Nat.not_lt_zero _))⟩
 case round =>
  obtain ⟨k, i, hk, hi, rfl, rfl, hex, hlow⟩ := hrel
  by_cases hlt : i < n
  ·have HLt := qH hlt
   obtain ⟨x, hx⟩ : ∃ x, A[i]? = some x := ⟨_, qG (by rw [<- HN.out.1]; exact hlt)⟩
   obtain ⟨ab, ab0, ea, ca⟩ := (HA.out.1.ext hex.out) i (.string x) (by simp [strs, hx])
   subst ea
   obtain ⟨p, hp⟩ := List.mem_iff_getElem?.1 (HB.out.2.2 x (List.mem_of_getElem? hx))
   have hpm : p < m := by rw [HN.out.2]; exact (List.getElem?_eq_some_iff.1 hp).1
   obtain ⟨bb, bb0, eb, cb⟩ := (HB.out.1.ext hex.out) p (.string x) (by simp [strs, hp])
   subst eb
   have HX := qH (And.intro hx (And.intro hp hpm))
   have HKp := qH (And.intro hk hlow.out)
   have HEx := hex
   have HAi := qH (show ∀ (x2 : ByteArray), A[i + 1]? = some x2 -> bL x x2 < 0 from fun x2 hx2 => by
    have hs := HA.out.2
    unfold Strict at hs
    rw [List.pairwise_iff_getElem] at hs
    obtain ⟨h1, e1⟩ := List.getElem?_eq_some_iff.1 HX.out.1
    obtain ⟨h2, e2⟩ := List.getElem?_eq_some_iff.1 hx2
    have := hs i (i + 1) h1 h2 (by omega)
    rw [e1, e2] at this; exact this)
   have HBk := qH (show ∀ (k2 : Nat) (y : ByteArray), k2 < p -> B[k2]? = some y -> bL y x < 0 from fun k2 y hk2 hy => by
    have hs := HB.out.2.1
    unfold Strict at hs
    rw [List.pairwise_iff_getElem] at hs
    obtain ⟨h1, e1⟩ := List.getElem?_eq_some_iff.1 hy
    obtain ⟨h2, e2⟩ := List.getElem?_eq_some_iff.1 HX.out.2.1
    have := hs k2 p h1 h2 hk2
    rw [e1, e2] at this; exact this)
   clear hx hp hpm cb hk hlow hex
   generalize hwY : wr = Y at *; clear hwY
   go_wp2
   go_loopw [5] (fun kv wr2 => SubIn Y A B m i kv wr2) (fun kv _ => m - (intOf kv).toNat)
   case atStart => exact ⟨k, HKp.out.1, rfl, qH (Kp.refl _), qH HKp.out.2⟩
   case round =>
    obtain ⟨k2, hk2, rfl, hex2, hlow2⟩ := hrel
    have hkp : k2 ≤ p := hlow2.out.place HX.out.1 HX.out.2.1
    have hkm : k2 < m := by have := HX.out.2.2; omega
    obtain ⟨y, hy⟩ : ∃ y, B[k2]? = some y := ⟨_, qG (by rw [<- HN.out.2]; exact hkm)⟩
    obtain ⟨bb2, bb3, eb, cb⟩ := (HB.out.1.ext (HEx.out.trans hex2.out)) k2 (.string y) (by simp [strs, hy])
    cases eb
    have ca2 := hex2.out.cell ca id
    have HY := qH hy
    have i1 : (k2 : Int) < (m : Int) := by omega
    have i2 : (i : Int) < (n : Int) := by omega
    have i3 : ((k2 : Int) == (m : Int)) = false := by simp; omega
    clear hy
    by_cases hyx : Op.bytesLess y.toList x.toList = true
    ·have HS := qH hyx
     clear hyx
     have hyx2 : Op.bytesLess y.toList x.toList = true := HS.out
     go_wp2
     go_quiet (fail)
     go_wp2
     go_roundw
     case rel =>
      refine ⟨k2 + 1, by omega, by first | rfl | (congr 1; done) | (congr 1; omega), qH (hex2.out.drewN _), qH fun j z x2 hj hz hx2 => ?_⟩
      rw [HX.out.1] at hx2; cases hx2
      by_cases e : j = k2
      ·subst e
       rw [HY.out] at hz; cases hz
       exact uK.2 HS.out
      ·exact hlow2.out j z x (by omega) hz HX.out.1
     case measure => simp [intOf]; omega
    ·have hyx2 : Op.bytesLess y.toList x.toList = false := by simpa using hyx
     have hkp2 : k2 = p := by
      rcases Nat.lt_or_ge k2 p with h | h
      ·exact absurd (uK.1 (HBk.out k2 y h HY.out)) hyx
      ·omega
     have hyx3 : y = x := by
      have h := HX.out.2.1
      rw [<- hkp2, HY.out] at h; cases h; rfl
     subst hyx3
     have hq := str_eq y
     have hq2 : (y.toList != y.toList) = false := by unfold bne; rw [hq]; rfl
     clear hyx hkp2 hkp
     go_wp2
     go_quiet (fail)
     go_wp2
     go_quiet (fail)
     go_wp2
     go_roundw
     case rel =>
      refine ⟨k2, i + 1, by omega, by have := HLt.out; omega, rfl, by first | rfl | (congr 1; done) | (congr 1; omega), qH (HEx.out.trans (hex2.out.drewN _)), qH fun j z x2 hj hz hx2 => ?_⟩
      exact jM.lt_trans (hlow2.out j z y hj hz HX.out.1) (by have := HAi.out x2 hx2; omega)
     case measure => have := HLt.out; simp [intOf]; omega
  ·obtain rfl : i = n := by omega
   go_wp2
   go_ret
   exact RetN.mk hex.out rfl
end Go.Proofs.YtinnmeiphbdogaaGreat
/- The law of joins: path: the chapter's rule, with further literals. -/
namespace Go.Proofs.YtinnmeiphbdogaaGreat
open Go.RowKit Go.Shelf
attribute [local go_sem] Oper.semAt_some
def fewB (ls : List aO) : Bool := decide ((aB ls).length ≤ 1048576)
theorem aJ0 {ls : List aO} (h : fewB ls = true) : (aB ls).length ≤ 1048576 := of_decide_eq_true h
def aLp (ls : List aO) : Bool := decide (ls.length ≤ 64) && ls.all fun l => decide ((aA l).length ≤ 64)
theorem aJz {ls : List aO} (h : aLp ls = true) : Fit ls := by
 unfold aLp at h
 rw [Bool.and_eq_true, decide_eq_true_eq] at h
 exact ⟨by omega, fun l hl => by have := of_decide_eq_true (List.all_eq_true.1 h.2 l hl); omega⟩
def zT : List aH := [((1 : Int), (⟨#[88]⟩ : ByteArray), ()), ((1 : Int), (⟨#[89]⟩ : ByteArray), ())]
def pN : List aO := [(((1) : Int), ((⟨#[101]⟩ : ByteArray), [((1 : Int), (⟨#[89]⟩ : ByteArray), ()), ((1 : Int), (⟨#[90]⟩ : ByteArray), ())], ()), (0 : Int), ((0 : Int), (⟨#[]⟩ : ByteArray), ()), ((0 : Int), (⟨#[]⟩ : ByteArray), ()), ()), (((1) : Int), ((⟨#[101]⟩ : ByteArray), [((1 : Int), (⟨#[90]⟩ : ByteArray), ()), ((1 : Int), (⟨#[88]⟩ : ByteArray), ())], ()), (0 : Int), ((0 : Int), (⟨#[]⟩ : ByteArray), ()), ((0 : Int), (⟨#[]⟩ : ByteArray), ()), ())]
theorem pL {w : World} {G : Nat -> Prop} {g o : Nat} {ts : List aH} (h : bE w TT (some ⟨g, o, none⟩) ts) (hG : G g) : bE w G (some ⟨g, o, none⟩) ts := fun i x hx => by
 obtain ⟨b, off, es, e, _, hb, ha, hc⟩ := h i x hx
 cases e
 refine ⟨g, o, es, rfl, hG, hb, ?_, hc⟩
 have hf := iY ha
 rw [iZ ha]
 exact pV hf
theorem aGi {w : World} {G : Nat -> Prop} {a : Option Addr} {ts : List aH} (h : bE w G a ts) : bE w (fun k => k < w.heap.size) a ts := fun i x hx => by
 obtain ⟨b, off, es, e, _, hb, ha, hc⟩ := h i x hx
 refine ⟨b, off, es, e, hb, hb, ?_, hc⟩
 have hf := iY ha
 rw [iZ ha]
 exact pV hf
theorem aA3 {w : World} {G : Nat -> Prop} {g o : Nat} {ts : List aH} (h : bE w G (some ⟨g, o, none⟩) ts) (hne : ts ≠ []) : g < w.heap.size := by
 cases ts with
 | nil => exact absurd rfl hne
 | cons t ts =>
  obtain ⟨b, off, es, e, _, hb, _⟩ := h 0 t rfl
  cases e; exact hb
set_option maxRecDepth 100000 in
set_option maxHeartbeats 4000000 in
theorem aBo {ls : List aO} {ma : Option Addr} {mn mc : Nat} {w : World} (hn : mn = ls.length) (h : dN w TT ma ls) (hl : mn ≤ 65536) :
 Calls Tryz.prog 27 #[.slice ma mn mc] w (RetN w fun w' u => ∃ ha hc ba bc, u = eS ⟨#[116]⟩ ha 2 hc ba (2 + mn) bc /\ bE w' TT ha zT /\ dN w' TT ba (pN ++ ls)) := by
 obtain ⟨vs, hvs, hcs, hin⟩ := aHc h
 have HV := qH (And.intro hvs (And.intro hcs (And.intro hin (And.intro hn (aJm h)))))
 clear hvs hcs hin h hn
 obtain ⟨w1, ew1⟩ : ∃ x, w.alloc (.cells #[.string ⟨#[]⟩, .slice none 0 0, .slice none 0 0] 27) = x := ⟨_, rfl⟩
 have Xw1 := qH (show Ext w w1 from by rw [<- ew1]; exact (Kp.refl w).alloc _)
 have HR := qH (show Blk w1 w.heap.size [.string ⟨#[]⟩, .slice none 0 0, .slice none 0 0] 27 from by rw [<- ew1]; exact Blk.new w _ _)
 go_enter Tryz.func27, Tryz.ntmps27
 go_wp2_with fail
 refine (lI ⟨#[89]⟩ w1).mono ?_
 rintro e w2 ⟨vw2, rfl, hkw2, rfl⟩
 have Xw2 := qH (show Ext w1 w2 from hkw2)
 clear hkw2
 go_wp2_with fail
 refine (lI ⟨#[90]⟩ w2).mono ?_
 rintro e w3 ⟨vw3, rfl, hkw3, rfl⟩
 have Xw3 := qH (show Ext w2 w3 from hkw3)
 clear hkw3
 obtain ⟨w4, ew4⟩ : ∃ x, w3.alloc (.cells #[.int .i64 1, .string ⟨#[89]⟩, .int .i64 1, .string ⟨#[90]⟩] 38) = x := ⟨_, rfl⟩
 have Xw4 := qH (show Ext w3 w4 from by rw [<- ew4]; exact (Kp.refl w3).alloc _)
 have T1 := qH (show bE w4 TT (some ⟨w3.heap.size, 0, none⟩) [((1 : Int), (⟨#[89]⟩ : ByteArray), ()), ((1 : Int), (⟨#[90]⟩ : ByteArray), ())] from by rw [<- ew4]; exact oF w3 [((1 : Int), (⟨#[89]⟩ : ByteArray), ()), ((1 : Int), (⟨#[90]⟩ : ByteArray), ())] (by kernel_rfl))
 go_wp2_with fail
 clear ew4
 refine (xY ⟨#[101]⟩ (some ⟨w3.heap.size, 0, none⟩) 2 2 w4).mono ?_
 rintro e w5 ⟨vw5, rfl, hkw5, rfl⟩
 have Xw5 := qH (show Ext w4 w5 from hkw5)
 clear hkw5
 go_wp2_with fail
 refine (lI ⟨#[90]⟩ w5).mono ?_
 rintro e w6 ⟨vw6, rfl, hkw6, rfl⟩
 have Xw6 := qH (show Ext w5 w6 from hkw6)
 clear hkw6
 go_wp2_with fail
 refine (lI ⟨#[88]⟩ w6).mono ?_
 rintro e w7 ⟨vw7, rfl, hkw7, rfl⟩
 have Xw7 := qH (show Ext w6 w7 from hkw7)
 clear hkw7
 obtain ⟨w8, ew8⟩ : ∃ x, w7.alloc (.cells #[.int .i64 1, .string ⟨#[90]⟩, .int .i64 1, .string ⟨#[88]⟩] 38) = x := ⟨_, rfl⟩
 have Xw8 := qH (show Ext w7 w8 from by rw [<- ew8]; exact (Kp.refl w7).alloc _)
 have T2 := qH (show bE w8 TT (some ⟨w7.heap.size, 0, none⟩) [((1 : Int), (⟨#[90]⟩ : ByteArray), ()), ((1 : Int), (⟨#[88]⟩ : ByteArray), ())] from by rw [<- ew8]; exact oF w7 [((1 : Int), (⟨#[90]⟩ : ByteArray), ()), ((1 : Int), (⟨#[88]⟩ : ByteArray), ())] (by kernel_rfl))
 go_wp2_with fail
 clear ew8
 refine (xY ⟨#[101]⟩ (some ⟨w7.heap.size, 0, none⟩) 2 2 w8).mono ?_
 rintro e w9 ⟨vw9, rfl, hkw9, rfl⟩
 have Xw9 := qH (show Ext w8 w9 from hkw9)
 clear hkw9
 obtain ⟨w10, ew10⟩ : ∃ x, w9.alloc (.cells #[.int .i64 1, .string ⟨#[101]⟩, .slice (some ⟨w3.heap.size, 0, none⟩) 2 2, .int .i64 0, .int .i64 0, .string ⟨#[]⟩, .int .i64 0, .string ⟨#[]⟩, .int .i64 1, .string ⟨#[101]⟩, .slice (some ⟨w7.heap.size, 0, none⟩) 2 2, .int .i64 0, .int .i64 0, .string ⟨#[]⟩, .int .i64 0, .string ⟨#[]⟩] 40) = x := ⟨_, rfl⟩
 have Xw10 := qH (show Ext w9 w10 from by rw [<- ew10]; exact (Kp.refl w9).alloc _)
 have HB := qH (show Blk w10 w9.heap.size [.int .i64 1, .string ⟨#[101]⟩, .slice (some ⟨w3.heap.size, 0, none⟩) 2 2, .int .i64 0, .int .i64 0, .string ⟨#[]⟩, .int .i64 0, .string ⟨#[]⟩, .int .i64 1, .string ⟨#[101]⟩, .slice (some ⟨w7.heap.size, 0, none⟩) 2 2, .int .i64 0, .int .i64 0, .string ⟨#[]⟩, .int .i64 0, .string ⟨#[]⟩] 40 from by rw [<- ew10]; exact Blk.new w9 _ _)
 go_wp2_with fail
 refine (lI ⟨#[88]⟩ w10).mono ?_
 rintro e w11 ⟨vw11, rfl, hkw11, rfl⟩
 have Xw11 := qH (show Ext w10 w11 from hkw11)
 clear hkw11
 go_wp2_with fail
 refine (lI ⟨#[89]⟩ w11).mono ?_
 rintro e w12 ⟨vw12, rfl, hkw12, rfl⟩
 have Xw12 := qH (show Ext w11 w12 from hkw12)
 clear hkw12
 obtain ⟨w13, ew13⟩ : ∃ x, w12.alloc (.cells #[.int .i64 1, .string ⟨#[88]⟩, .int .i64 1, .string ⟨#[89]⟩] 38) = x := ⟨_, rfl⟩
 have Xw13 := qH (show Ext w12 w13 from by rw [<- ew13]; exact (Kp.refl w12).alloc _)
 have T3 := qH (show bE w13 TT (some ⟨w12.heap.size, 0, none⟩) [((1 : Int), (⟨#[88]⟩ : ByteArray), ()), ((1 : Int), (⟨#[89]⟩ : ByteArray), ())] from by rw [<- ew13]; exact oF w12 [((1 : Int), (⟨#[88]⟩ : ByteArray), ()), ((1 : Int), (⟨#[89]⟩ : ByteArray), ())] (by kernel_rfl))
 have hgL : w9.heap.size < w10.heap.size := HB.out.lt
 have hg0 : w.heap.size < w1.heap.size := HR.out.lt
 have hg1 : w.heap.size < w9.heap.size := by have h2 := (Xw2.out.trans (Xw3.out.trans (Xw4.out.trans (Xw5.out.trans (Xw6.out.trans (Xw7.out.trans (Xw8.out.trans Xw9.out))))))).size; omega
 have HX := qH (show Ext w w13 /\ Row w13 40 8 (.slice (some ⟨w9.heap.size, 0, none⟩) 2 2) 2 ((pN.zip [((some ⟨w3.heap.size, 0, none⟩ : Option Addr), 2), ((some ⟨w7.heap.size, 0, none⟩ : Option Addr), 2)]).flatMap nH) (New w) /\ Blk w13 w.heap.size [.string ⟨#[]⟩, .slice none 0 0, .slice none 0 0] 27 /\ w.heap.size < w9.heap.size from
  ⟨(Xw1.out.trans (Xw2.out.trans (Xw3.out.trans (Xw4.out.trans (Xw5.out.trans (Xw6.out.trans (Xw7.out.trans (Xw8.out.trans (Xw9.out.trans (Xw10.out.trans (Xw11.out.trans (Xw12.out.trans Xw13.out)))))))))))), ⟨rfl, .inr ⟨_, 2, [], rfl, Nat.le_of_lt hg1, by rw [List.append_nil]; exact HB.out.ext (Xw11.out.trans (Xw12.out.trans Xw13.out)), rfl, Nat.le_refl _, by decide⟩⟩, HR.out.ext (Xw2.out.trans (Xw3.out.trans (Xw4.out.trans (Xw5.out.trans (Xw6.out.trans (Xw7.out.trans (Xw8.out.trans (Xw9.out.trans (Xw10.out.trans (Xw11.out.trans (Xw12.out.trans Xw13.out))))))))))), hg1⟩)
 have HP0 := qH (pL (G := (fun k => k ≠ w9.heap.size /\ k ≠ w.heap.size)) (T1.out.ext (Xw5.out.trans (Xw6.out.trans (Xw7.out.trans (Xw8.out.trans (Xw9.out.trans (Xw10.out.trans (Xw11.out.trans (Xw12.out.trans Xw13.out))))))))) ⟨by have h1 := aA3 T1.out (by simp); have h2 := (Xw5.out.trans (Xw6.out.trans (Xw7.out.trans (Xw8.out.trans Xw9.out)))).size; omega, by have h3 := (Xw2.out.trans Xw3.out).size; omega⟩)
 have HP1 := qH (pL (G := (fun k => k ≠ w9.heap.size /\ k ≠ w.heap.size)) (T2.out.ext (Xw9.out.trans (Xw10.out.trans (Xw11.out.trans (Xw12.out.trans Xw13.out))))) ⟨by have h1 := aA3 T2.out (by simp); have h2 := Xw9.out.size; omega, by have h3 := (Xw2.out.trans (Xw3.out.trans (Xw4.out.trans (Xw5.out.trans (Xw6.out.trans Xw7.out))))).size; omega⟩)
 have HPh := qH (pL (G := (fun k => k ≠ w9.heap.size /\ k ≠ w.heap.size)) (T3.out.ext (Kp.refl w13)) ⟨by have h2 := (Xw11.out.trans Xw12.out).size; omega, by have h2 := (Xw11.out.trans Xw12.out).size; omega⟩)
 clear HB HR hgL hg0 hg1 Xw1 Xw2 Xw3 Xw4 Xw5 Xw6 Xw7 Xw8 Xw9 Xw10 Xw11 Xw12 Xw13 T1 T2 T3
 go_wp2_with (first | (at_builtin; refine Halted.out ?_))
 clear ew13 ew10
 refine Halted.mk (dC (m := mn) (n := 2) aJ3 rfl _ _ rfl HX.out.1 rfl HX.out.2.1 rfl (HV.out.2.1.ext HX.out.1) (by rw [aCl nH 8 qS, List.length_zip, HV.out.1, Nat.min_self, HV.out.2.2.2.1]) (fun u hu => by obtain ⟨x, _, hx⟩ := List.mem_flatMap.1 hu; exact aJn x u hx) (by omega) (by unfold maxLen; omega) ?_)
 intro vA wA hrA hkA hkB _
 have hRA : Blk wA w.heap.size [.string ⟨#[]⟩, .slice none 0 0, .slice none 0 0] 27 := HX.out.2.2.1.kp hkB fun hg => by
  obtain ⟨cs, hb⟩ := aT HX.out.2.1 hg
  exact aFq (aKa hb HX.out.2.2.1)
 have hoff : ∀ k, (fun k => k ≠ w9.heap.size /\ k ≠ w.heap.size) k -> ¬ (Value.slice (some ⟨w9.heap.size, 0, none⟩) 2 2).ownBlock = some k := fun k hk e => by cases e; exact hk.1 rfl
 obtain ⟨h1, ⟨_, h0⟩ | ⟨gb, cap2, rest, rfl, hM, hBB, hlen, hnc, hcm⟩⟩ := hrA
 ·omega
 ·have HF := qH (show Ext w wA /\ Blk wA w.heap.size [.string ⟨#[]⟩, .slice none 0 0, .slice none 0 0] 27 /\ bE wA (fun k => k ≠ w9.heap.size /\ k ≠ w.heap.size) (some ⟨w12.heap.size, 0, none⟩) zT /\ Blk wA gb (((pN ++ ls).zip ([((some ⟨w3.heap.size, 0, none⟩ : Option Addr), 2), ((some ⟨w7.heap.size, 0, none⟩ : Option Addr), 2)] ++ vs)).flatMap nH ++ rest) 40 /\ (∀ x ∈ (pN ++ ls).zip ([((some ⟨w3.heap.size, 0, none⟩ : Option Addr), 2), ((some ⟨w7.heap.size, 0, none⟩ : Option Addr), 2)] ++ vs), bE wA (fun k => k ≠ w9.heap.size /\ k ≠ w.heap.size) x.2.1 (aA x.1) /\ (aA x.1).length ≤ x.2.2 /\ x.2.2 ≤ maxLen) from by
   refine ⟨hkA, hRA, HPh.out.kp hkB hoff, ?_, fun x hx => ?_⟩
   ·rw [List.zip_append (by rfl), List.flatMap_append]; exact hBB
   ·rw [List.zip_append (by rfl)] at hx
    rcases List.mem_append.1 hx with hx | hx
    ·have hx' : x ∈ [((((1) : Int), ((⟨#[101]⟩ : ByteArray), [((1 : Int), (⟨#[89]⟩ : ByteArray), ()), ((1 : Int), (⟨#[90]⟩ : ByteArray), ())], ()), (0 : Int), ((0 : Int), (⟨#[]⟩ : ByteArray), ()), ((0 : Int), (⟨#[]⟩ : ByteArray), ()), ()), ((some ⟨w3.heap.size, 0, none⟩ : Option Addr), 2)), ((((1) : Int), ((⟨#[101]⟩ : ByteArray), [((1 : Int), (⟨#[90]⟩ : ByteArray), ()), ((1 : Int), (⟨#[88]⟩ : ByteArray), ())], ()), (0 : Int), ((0 : Int), (⟨#[]⟩ : ByteArray), ()), ((0 : Int), (⟨#[]⟩ : ByteArray), ()), ()), ((some ⟨w7.heap.size, 0, none⟩ : Option Addr), 2))] := hx
     simp only [List.mem_cons, List.not_mem_nil, or_false] at hx'
     rcases hx' with rfl | rfl
     ·exact ⟨HP0.out.kp hkB hoff, Nat.le_refl _, (by decide : 2 ≤ maxLen)⟩
     ·exact ⟨HP1.out.kp hkB hoff, Nat.le_refl _, (by decide : 2 ≤ maxLen)⟩
    ·have hi := HV.out.2.2.1 x hx
     exact ⟨((aGi hi.terms).mono fun k hk => ⟨by have := HX.out.2.2.2; omega, by omega⟩).ext hkA, hi.len, hi.cap⟩)
  have p0 : wA.cell? ⟨w.heap.size, 0, none⟩ = some (.string ⟨#[]⟩) := by rw [hRA.cell']; rfl
  have p1 : wA.cell? ⟨w.heap.size, 1, none⟩ = some (.slice none 0 0) := by rw [hRA.cell']; rfl
  have p2 : wA.cell? ⟨w.heap.size, 2, none⟩ = some (.slice none 0 0) := by rw [hRA.cell']; rfl
  clear h1 hM hBB hlen hnc hcm hkA hkB hRA hoff
  go_wp2_with fail
  refine (aDp (some ⟨w12.heap.size, 0, none⟩) (some ⟨gb, 0, none⟩) 2 2 (2 + mn) cap2 wA).mono ?_
  rintro e wB ⟨vB, rfl, hkC, rfl⟩
  have HRB := qH (HF.out.2.1.ext hkC)
  have XB := qH hkC
  have c0 : wB.cell? ⟨w.heap.size, 0, none⟩ = some (.string ⟨#[]⟩) := by rw [HRB.out.cell']; rfl
  have c1 : wB.cell? ⟨w.heap.size, 1, none⟩ = some (.slice none 0 0) := by rw [HRB.out.cell']; rfl
  have c2 : wB.cell? ⟨w.heap.size, 2, none⟩ = some (.slice none 0 0) := by rw [HRB.out.cell']; rfl
  have f0 := HRB.out.free 0
  have f1 := HRB.out.free 1
  have f2 := HRB.out.free 2
  clear hkC p0 p1 p2
  go_wp2
  obtain ⟨Z, eZ⟩ : ∃ x, (((wB.setCell ⟨w.heap.size, 0, none⟩ (.string ⟨#[116]⟩)).setCell ⟨w.heap.size, 1, none⟩ (.slice (some ⟨w12.heap.size, 0, none⟩) 2 2)).setCell ⟨w.heap.size, 2, none⟩ (.slice (some ⟨gb, 0, none⟩) (2 + mn) cap2)) = x := ⟨_, rfl⟩
  have hBZ : Blk Z w.heap.size [.string ⟨#[116]⟩, .slice (some ⟨w12.heap.size, 0, none⟩) 2 2, .slice (some ⟨gb, 0, none⟩) (2 + mn) cap2] 27 := by
   rw [<- eZ]; exact ((HRB.out.set 0 _).set 1 _).set 2 _
  have kZ : Kp (fun k => k = w.heap.size) wB Z := by
   rw [<- eZ]
   exact Kp.setCell (F := fun k => k = w.heap.size) (p := ⟨w.heap.size, 2, none⟩) (Kp.setCell (F := fun k => k = w.heap.size) (p := ⟨w.heap.size, 1, none⟩) (Kp.setCell (F := fun k => k = w.heap.size) (p := ⟨w.heap.size, 0, none⟩) (Kp.refl wB) (fun _ => rfl) _) (fun _ => rfl) _) (fun _ => rfl) _
  have d0 : Z.cell? ⟨w.heap.size, 0, none⟩ = some (.string ⟨#[116]⟩) := by rw [hBZ.cell']; rfl
  have d1 : Z.cell? ⟨w.heap.size, 1, none⟩ = some (.slice (some ⟨w12.heap.size, 0, none⟩) 2 2) := by rw [hBZ.cell']; rfl
  have d2 : Z.cell? ⟨w.heap.size, 2, none⟩ = some (.slice (some ⟨gb, 0, none⟩) (2 + mn) cap2) := by rw [hBZ.cell']; rfl
  rw [eZ]
  have hno : ∀ k, (fun k => k ≠ w9.heap.size /\ k ≠ w.heap.size) k -> ¬ k = w.heap.size := fun k hk => hk.2
  have hgb : ¬ gb = w.heap.size := fun e => by
   have hb := HF.out.2.2.2.1
   rw [e] at hb
   exact aFq (aKa hb HF.out.2.1)
  refine bodyPost_ret (v := eS ⟨#[116]⟩ (some ⟨w12.heap.size, 0, none⟩) 2 2 (some ⟨gb, 0, none⟩) (2 + mn) cap2) (by simp [results, Tryz.results27, go_sem, d0, d1, d2]) rfl ?_
  refine RetN.mk ((HF.out.1.trans XB.out).trans' kZ fun i hi e => by have e' : i = w.heap.size := e; omega) ⟨_, _, _, _, rfl, ((HF.out.2.2.1.ext XB.out).kp kZ hno).mono fun _ _ => trivial, ?_⟩
  refine vN (vs := [((some ⟨w3.heap.size, 0, none⟩ : Option Addr), 2), ((some ⟨w7.heap.size, 0, none⟩ : Option Addr), 2)] ++ vs) (rest := rest) (e := 40) (by rw [List.length_append, List.length_append, HV.out.1]; rfl) (fun l hl => ?_) (fun x hx => ?_) trivial ((HF.out.2.2.2.1.ext XB.out).kp kZ hgb)
  ·rcases List.mem_append.1 hl with hl | hl
   ·exact tC (ls := pN) (by kernel_rfl) l hl
   ·exact HV.out.2.2.2.2 l hl
  ·obtain ⟨q1, q2, q3⟩ := HF.out.2.2.2.2 x hx
   exact ⟨((q1.ext XB.out).kp kZ hno).mono fun _ _ => trivial, q2, q3⟩
end Go.Proofs.YtinnmeiphbdogaaGreat
/- The law of joins: awake: the chapter's bindings. -/
namespace Go.Proofs.YtinnmeiphbdogaaGreat
open Go.RowKit Go.Shelf
attribute [local go_sem] Oper.semAt_some
theorem aE9 (bb : Nat) (w : World) : (binOp .neq 29 (.pointer (some ⟨bb, 0, none⟩)) (.pointer none)).run Tryz.prog w = .ok (.bool true) w := by kernel_rfl
set_option maxRecDepth 100000 in
set_option maxHeartbeats 4000000 in
theorem kD (w : World) : Calls Tryz.prog 12 #[] w (RetN w fun w' v => v = .bool true) := by
 go_enter Tryz.func12, Tryz.ntmps12
 go_wp2_with fail
 refine (aHn w).mono ?_
 rintro e w1 ⟨vw1, rfl, hkw1, bb, E, SS, rfl, hBv, hCv⟩
 have Xw1 := qH (show Ext w w1 from hkw1)
 clear hkw1
 have HBv := qH (And.intro hBv hCv)
 clear hBv hCv
 have hnb := aE9 bb w1
 go_wp2_with fail
 refine (aBo (ls := []) (ma := none) (mn := 0) (mc := 0) (w := w1) rfl (aJk w1 none) (by decide)).mono ?_
 rintro e w2 ⟨vw2, rfl, hkw2, ha1, hc1, ba1, bc1, hv1, hT1, hL1⟩
 have Xw2 := qH (show Ext w1 w2 from hkw2)
 clear hkw2
 have hv12 : vw2 = eS ⟨#[116]⟩ ha1 2 hc1 ba1 2 bc1 := hv1
 subst hv12
 have T1 := qH hT1
 have L1 := qH hL1
 clear hT1 hL1 hv1
 go_wp2_with fail
 refine (wK (p := ⟨#[116]⟩) (hs := zT) (ls := (pN ++ [])) (ha := ha1) (ba := ba1) (hn := 2) (hcap := hc1) (n := 2) (bcap := bc1) rfl (T1.out.ext (Kp.refl w2)) (by decide) rfl (L1.out.ext (Kp.refl w2)) (aJz (by kernel_rfl)) (aJ0 (by kernel_rfl)) (by decide) (HBv.out.1.ext Xw2.out) HBv.out.2 [(⟨#[97, 59, 98, 59, 98, 59]⟩ : ByteArray), (⟨#[97, 59, 98, 59, 99, 59]⟩ : ByteArray), (⟨#[98, 59, 98, 59, 98, 59]⟩ : ByteArray), (⟨#[98, 59, 98, 59, 99, 59]⟩ : ByteArray), (⟨#[98, 59, 99, 59, 97, 59]⟩ : ByteArray), (⟨#[99, 59, 97, 59, 98, 59]⟩ : ByteArray)] 6 (by kernel_rfl) rfl (by decide)).mono ?_
 rintro e w3 ⟨vw3, rfl, hkw3, ea2, ec2, rfl, hE2⟩
 have Xw3 := qH (show Ext w2 w3 from hkw3)
 clear hkw3
 have E2 := qH hE2
 clear hE2
 obtain ⟨w4, ew4⟩ : ∃ x, w3.alloc (.cells #[.string ⟨#[97, 59, 98, 59, 98, 59]⟩, .string ⟨#[97, 59, 98, 59, 99, 59]⟩, .string ⟨#[98, 59, 98, 59, 98, 59]⟩, .string ⟨#[98, 59, 98, 59, 99, 59]⟩, .string ⟨#[98, 59, 99, 59, 97, 59]⟩, .string ⟨#[99, 59, 97, 59, 98, 59]⟩] 9) = x := ⟨_, rfl⟩
 have Xw4 := qH (show Ext w3 w4 from by rw [<- ew4]; exact (Kp.refl w3).alloc _)
 have Sw4 := qH (show CellsAt w4 (some ⟨w3.heap.size, 0, none⟩) (strs [(⟨#[97, 59, 98, 59, 98, 59]⟩ : ByteArray), (⟨#[97, 59, 98, 59, 99, 59]⟩ : ByteArray), (⟨#[98, 59, 98, 59, 98, 59]⟩ : ByteArray), (⟨#[98, 59, 98, 59, 99, 59]⟩ : ByteArray), (⟨#[98, 59, 99, 59, 97, 59]⟩ : ByteArray), (⟨#[99, 59, 97, 59, 98, 59]⟩ : ByteArray)]) from by rw [<- ew4]; exact CellsAt.new w3 (strs [(⟨#[97, 59, 98, 59, 98, 59]⟩ : ByteArray), (⟨#[97, 59, 98, 59, 99, 59]⟩ : ByteArray), (⟨#[98, 59, 98, 59, 98, 59]⟩ : ByteArray), (⟨#[98, 59, 98, 59, 99, 59]⟩ : ByteArray), (⟨#[98, 59, 99, 59, 97, 59]⟩ : ByteArray), (⟨#[99, 59, 97, 59, 98, 59]⟩ : ByteArray)]) _)
 go_wp2_with fail
 clear ew4
 refine (uW [(⟨#[97, 59, 98, 59, 98, 59]⟩ : ByteArray), (⟨#[97, 59, 98, 59, 99, 59]⟩ : ByteArray), (⟨#[98, 59, 98, 59, 98, 59]⟩ : ByteArray), (⟨#[98, 59, 98, 59, 99, 59]⟩ : ByteArray), (⟨#[98, 59, 99, 59, 97, 59]⟩ : ByteArray), (⟨#[99, 59, 97, 59, 98, 59]⟩ : ByteArray)] (ea2) (some ⟨w3.heap.size, 0, none⟩) 6 ec2 6 w4 rfl (E2.out.ext Xw4.out) (Sw4.out.ext (Kp.refl w4)) (by decide)).mono ?_
 rintro e w5 ⟨vw5, rfl, hkw5, rfl⟩
 have Xw5 := qH (show Ext w4 w5 from hkw5)
 clear hkw5
 clear hnb
 go_wp2_with fail
 refine (lI ⟨#[88]⟩ w5).mono ?_
 rintro e w6 ⟨vw6, rfl, hkw6, rfl⟩
 have Xw6 := qH (show Ext w5 w6 from hkw6)
 clear hkw6
 obtain ⟨w7, ew7⟩ : ∃ x, w6.alloc (.cells #[.int .i64 1, .string ⟨#[88]⟩] 38) = x := ⟨_, rfl⟩
 have Xw7 := qH (show Ext w6 w7 from by rw [<- ew7]; exact (Kp.refl w6).alloc _)
 have T3 := qH (show bE w7 TT (some ⟨w6.heap.size, 0, none⟩) [((1 : Int), (⟨#[88]⟩ : ByteArray), ())] from by rw [<- ew7]; exact oF w6 [((1 : Int), (⟨#[88]⟩ : ByteArray), ())] (by kernel_rfl))
 go_wp2_with fail
 clear ew7
 refine (aG2 ⟨#[110]⟩ (some ⟨w6.heap.size, 0, none⟩) 1 1 w7).mono ?_
 rintro e w8 ⟨vw8, rfl, hkw8, rfl⟩
 have Xw8 := qH (show Ext w7 w8 from hkw8)
 clear hkw8
 obtain ⟨w9, ew9⟩ : ∃ x, w8.alloc (.cells #[.int .i64 2, .string ⟨#[110]⟩, .slice (some ⟨w6.heap.size, 0, none⟩) 1 1, .int .i64 0, .int .i64 0, .string ⟨#[]⟩, .int .i64 0, .string ⟨#[]⟩] 40) = x := ⟨_, rfl⟩
 have Xw9 := qH (show Ext w8 w9 from by rw [<- ew9]; exact (Kp.refl w8).alloc _)
 have L4 := qH (show dN w9 TT (some ⟨w8.heap.size, 0, none⟩) [(((2) : Int), ((⟨#[110]⟩ : ByteArray), [((1 : Int), (⟨#[88]⟩ : ByteArray), ())], ()), (0 : Int), ((0 : Int), (⟨#[]⟩ : ByteArray), ()), ((0 : Int), (⟨#[]⟩ : ByteArray), ()), ())] from by
  rw [<- ew9]
  refine aJl w8 [(((2) : Int), ((⟨#[110]⟩ : ByteArray), [((1 : Int), (⟨#[88]⟩ : ByteArray), ())], ()), (0 : Int), ((0 : Int), (⟨#[]⟩ : ByteArray), ()), ((0 : Int), (⟨#[]⟩ : ByteArray), ()), ())] [(some ⟨w6.heap.size, 0, none⟩, 1)] rfl (by kernel_rfl) fun x hx => ?_
  simp only [List.zip_cons_cons, List.zip_nil_right, List.mem_cons, List.not_mem_nil, or_false] at hx
  rcases hx with rfl
  ·exact ⟨(T3.out.ext Xw8.out), Nat.le_refl _, (by decide : 1 ≤ maxLen)⟩)
 go_wp2_with fail
 clear ew9
 refine (aBo (ls := [(((2) : Int), ((⟨#[110]⟩ : ByteArray), [((1 : Int), (⟨#[88]⟩ : ByteArray), ())], ()), (0 : Int), ((0 : Int), (⟨#[]⟩ : ByteArray), ()), ((0 : Int), (⟨#[]⟩ : ByteArray), ()), ())]) (ma := some ⟨w8.heap.size, 0, none⟩) (mn := 1) (mc := 1) (w := w9) rfl (L4.out.ext (Kp.refl w9)) (by decide)).mono ?_
 rintro e w10 ⟨vw10, rfl, hkw10, ha5, hc5, ba5, bc5, hv5, hT5, hL5⟩
 have Xw10 := qH (show Ext w9 w10 from hkw10)
 clear hkw10
 have hv52 : vw10 = eS ⟨#[116]⟩ ha5 2 hc5 ba5 3 bc5 := hv5
 subst hv52
 have T5 := qH hT5
 have L5 := qH hL5
 clear hT5 hL5 hv5
 go_wp2_with fail
 refine (wK (p := ⟨#[116]⟩) (hs := zT) (ls := (pN ++ [(((2) : Int), ((⟨#[110]⟩ : ByteArray), [((1 : Int), (⟨#[88]⟩ : ByteArray), ())], ()), (0 : Int), ((0 : Int), (⟨#[]⟩ : ByteArray), ()), ((0 : Int), (⟨#[]⟩ : ByteArray), ()), ())])) (ha := ha5) (ba := ba5) (hn := 2) (hcap := hc5) (n := 3) (bcap := bc5) rfl (T5.out.ext (Kp.refl w10)) (by decide) rfl (L5.out.ext (Kp.refl w10)) (aJz (by kernel_rfl)) (aJ0 (by kernel_rfl)) (by decide) (HBv.out.1.ext (Xw2.out.trans (Xw3.out.trans (Xw4.out.trans (Xw5.out.trans (Xw6.out.trans (Xw7.out.trans (Xw8.out.trans (Xw9.out.trans Xw10.out))))))))) HBv.out.2 [(⟨#[97, 59, 98, 59, 99, 59]⟩ : ByteArray), (⟨#[98, 59, 98, 59, 99, 59]⟩ : ByteArray), (⟨#[98, 59, 99, 59, 97, 59]⟩ : ByteArray)] 3 (by kernel_rfl) rfl (by decide)).mono ?_
 rintro e w11 ⟨vw11, rfl, hkw11, ea6, ec6, rfl, hE6⟩
 have Xw11 := qH (show Ext w10 w11 from hkw11)
 clear hkw11
 have E6 := qH hE6
 clear hE6
 obtain ⟨w12, ew12⟩ : ∃ x, w11.alloc (.cells #[.string ⟨#[97, 59, 98, 59, 99, 59]⟩, .string ⟨#[98, 59, 98, 59, 99, 59]⟩, .string ⟨#[98, 59, 99, 59, 97, 59]⟩] 9) = x := ⟨_, rfl⟩
 have Xw12 := qH (show Ext w11 w12 from by rw [<- ew12]; exact (Kp.refl w11).alloc _)
 have Sw12 := qH (show CellsAt w12 (some ⟨w11.heap.size, 0, none⟩) (strs [(⟨#[97, 59, 98, 59, 99, 59]⟩ : ByteArray), (⟨#[98, 59, 98, 59, 99, 59]⟩ : ByteArray), (⟨#[98, 59, 99, 59, 97, 59]⟩ : ByteArray)]) from by rw [<- ew12]; exact CellsAt.new w11 (strs [(⟨#[97, 59, 98, 59, 99, 59]⟩ : ByteArray), (⟨#[98, 59, 98, 59, 99, 59]⟩ : ByteArray), (⟨#[98, 59, 99, 59, 97, 59]⟩ : ByteArray)]) _)
 go_wp2_with fail
 clear ew12
 refine (uW [(⟨#[97, 59, 98, 59, 99, 59]⟩ : ByteArray), (⟨#[98, 59, 98, 59, 99, 59]⟩ : ByteArray), (⟨#[98, 59, 99, 59, 97, 59]⟩ : ByteArray)] (ea6) (some ⟨w11.heap.size, 0, none⟩) 3 ec6 3 w12 rfl (E6.out.ext Xw12.out) (Sw12.out.ext (Kp.refl w12)) (by decide)).mono ?_
 rintro e w13 ⟨vw13, rfl, hkw13, rfl⟩
 have Xw13 := qH (show Ext w12 w13 from hkw13)
 clear hkw13
 go_wp2
 go_ret
 exact RetN.mk (Xw1.out.trans (Xw2.out.trans (Xw3.out.trans (Xw4.out.trans (Xw5.out.trans (Xw6.out.trans (Xw7.out.trans (Xw8.out.trans (Xw9.out.trans (Xw10.out.trans (Xw11.out.trans (Xw12.out.trans Xw13.out)))))))))))) rfl
end Go.Proofs.YtinnmeiphbdogaaGreat
/- Ranging over a base's map, nil or not: the walk's laws. -/
namespace Go.Proofs.YtinnmeiphbdogaaGreat
open Go.RowKit Go.Maps
theorem Kp.of_grown {a c : World} (h : a.grownBy c none) : Ext a c := ⟨h.os, h.tape, h.output, h.size, fun k hk _ => h.block k hk (by simp)⟩
theorem Kp.of_row {a c : World} {row : Option Nat} (h : a.grownBy c row) : Kp (fun k => row = some k) a c := ⟨h.os, h.tape, h.output, h.size, fun k hk hf => h.block k hk fun e => hf e.symm⟩
def MapV (w : World) (mv : Value) (E : List Ent) : Prop := (mv = .map none /\ E = []) \/ ∃ r, mv = .map (some r) /\ MapIs w r (cJ E)
def IterE (w : World) (mv : Value) (it : Nat) (E : List Ent) (todo : ByteArray -> Bool) (cnt : Nat) : Prop :=
 (mv = .map none /\ E = [] /\ cnt = 0 /\ ∃ a b s, w.heap[it]? = some (.mapIter none a s b)) \/ ∃ r n D left, mv = .map (some r) /\ w.ranges Tryz.prog 9 pA r it n D left cnt /\ MapD (cJ E) D /\ ∀ e ∈ E, todo e.name = left (kH e.name)
def leftV (w : World) (mv : Value) (it : Nat) : Nat := match mv with
 | .map (some r) => w.rangeLeft r it
 | _ => 0
section
variable {w w' : World} {mv : Value} {it : Nat} {E : List Ent} {todo : ByteArray -> Bool} {cnt : Nat}
theorem IterE.left_eq (h : IterE w mv it E todo cnt) : leftV w mv it = cnt := by
 rcases h with ⟨rfl, _, h, _⟩ | ⟨r, n, D, left, rfl, h, _⟩
 ·exact h.symm
 ·exact h.left_eq
theorem IterE.lt (h : IterE w mv it E todo cnt) : it < w.heap.size := by
 rcases h with ⟨_, _, _, a, b, s, h⟩ | ⟨r, n, D, left, rfl, h, _⟩
 ·exact lt_of_block h
 ·exact h.lt
theorem IterE.kp {F : Nat -> Prop} (h : IterE w mv it E todo cnt) (hk : Kp F w w') (hi : ¬ F it) (hm : ∀ r, mv = .map (some r) -> ¬ F r) : IterE w' mv it E todo cnt := by
 have hlt := h.lt
 rcases h with ⟨h1, h2, h3, a, b, s, h⟩ | ⟨r, n, D, left, rfl, h, h2⟩
 ·exact .inl ⟨h1, h2, h3, a, b, s, (hk.block it hlt hi).trans h⟩
 ·obtain ⟨es, clock, since, seen, c0, g1, g2, g3, g4, g5, g6⟩ := h
  exact .inr ⟨r, n, D, left, rfl, ⟨es, clock, since, seen, c0, (hk.block r (lt_of_block g1) (hm r rfl)).trans g1, g2, g3, g4, (hk.block it hlt hi).trans g5, g6⟩, h2⟩
theorem MapV.kp {F : Nat -> Prop} (h : MapV w mv E) (hk : Kp F w w') (hm : ∀ r, mv = .map (some r) -> ¬ F r) : MapV w' mv E := by
 rcases h with h | ⟨r, rfl, h⟩
 ·exact .inl h
 ·exact .inr ⟨r, rfl, h.kp hk (hm r rfl)⟩
theorem MapV.ext (h : MapV w mv E) (hk : Ext w w') : MapV w' mv E := h.kp hk fun _ _ => id
theorem MapV.lookup (h : MapV w mv E) (s : ByteArray) (z : Option Value) (hz : (aY E s).map Ent.ptr = z) : (Instr.lookup 127 mv (.string s) false).run Tryz.prog w = .ok (z.getD (.pointer none)) w := by
 subst hz
 rcases h with ⟨rfl, rfl⟩ | ⟨r, rfl, h⟩
 ·have hc := gU (P := Tryz.prog) (w := w) Tryz.underlying9 s true 9999
  have hf := iL (P := Tryz.prog) (w := w) Tryz.underlying9 s (es := []) (r := none) rfl
  have hz : (zeroValue 88).run Tryz.prog w = .ok (.pointer none) w := by kernel_rfl
  simp [Instr.lookup, run_underlying (P := Tryz.prog) Tryz.underlying127, hc, hf, hz, Result.andThen, aY]
 ·have hlk := fX (P := Tryz.prog) Tryz.underlying127 Tryz.underlying9 (z := .pointer none) (by kernel_rfl) h s
  rwa [jI] at hlk
theorem zN {a b : Nat} {s : Array Nat} (h : w.heap[it]? = some (.mapIter none a s b)) (ty : TypeId) : (Instr.next (.pointer (some ⟨it, 0, none⟩)) false ty).run Tryz.prog w = .ok (.tuple #[.bool false]) w := by
 simp only [Instr.next, getObj, Sem.run_bind, Sem.run, h, Result.andThen]
 rfl
variable {ops : Array Oper} {rest : List Oper} {o : Oper} {a : Act} {Q : Exit -> Act -> World -> Prop}
theorem fA (hg : o.guard = none) (m : Operand) (hop : o.op = Op.range 127 m) (hm : a.eval m = mv) (hv : MapV w mv E) (hks : ∀ e ∈ E, e.name.size ≤ maxLen) (hl : E.length ≤ maxLen)
 (hK : ∀ w' cnt, IterE w' mv w.heap.size E (fun _ => true) cnt -> Ext w w' -> w'.heap.size = w.heap.size + 1 -> wpList Tryz.prog ops Q rest (a.put o.dst (.pointer (some ⟨w.heap.size, 0, none⟩))) w') : wpList Tryz.prog ops Q (o :: rest) a w := by
 rcases hv with ⟨rfl, rfl⟩ | ⟨r, rfl, hv⟩
 ·refine wpList_plain hg fun K' hK' => ?_
  have hrun := run_range_nilMap (P := Tryz.prog) w 127 9 88 Tryz.underlying127
  unfold Oper.wp
  simp [execOp, hop, hm, hrun, Result.andThen]
  refine hK' _ _ (hK _ 0 (.inl ⟨rfl, rfl, rfl, 0, 0, #[], ?_⟩) ((Kp.refl w).alloc _) (by rw [aN]))
  show (w.heap.push _)[w.heap.size]? = _
  simp
 ·obtain ⟨D, h1, h2⟩ := aK6 hv (fun p hp => by obtain ⟨e, he, rfl⟩ := List.mem_map.1 hp; exact hks e he) (by simpa [cJ] using hl)
  refine wpList_range_own w hg m 127 hop 9 88 (string_keyed Tryz.underlying9) Tryz.underlying127 pA r _ D hm h1 fun w' hr hgr hs => ?_
  exact hK w' _ (.inr ⟨r, _, D, _, rfl, hr, h2, fun e he => (h2.has (e.name, e.ptr) (List.mem_map.2 ⟨e, he, rfl⟩)).symm⟩) (Kp.of_grown hgr) hs
set_option maxRecDepth 100000 in
theorem fV (hg : o.guard = none) (itm : Operand) (hop : o.op = Op.next itm false) (hit : a.eval itm = .pointer (some ⟨it, 0, none⟩)) (h : IterE w mv it E todo cnt)
 (hDone : (∀ e ∈ E, todo e.name = false) -> wpList Tryz.prog ops Q rest (a.put o.dst (.tuple #[.bool false])) w)
 (hMore : ∀ (e0 : Ent) (w' : World) (cnt' : Nat), e0 ∈ E -> todo e0.name = true -> IterE w' mv it E (fun s => todo s && !decide (s = e0.name)) cnt' -> cnt' < cnt -> Kp (fun k => k = it) w w' -> w'.heap.size = w.heap.size -> (Instr.entry (.pointer (some ⟨it, 0, none⟩))).run Tryz.prog w' = .ok (.tuple #[.string e0.name, e0.ptr]) w' ->
  wpList Tryz.prog ops Q rest (a.put o.dst (.tuple #[.bool true, .string e0.name, e0.ptr])) w') : wpList Tryz.prog ops Q (o :: rest) a w := by
 rcases h with ⟨rfl, rfl, rfl, a1, b1, s1, hb⟩ | ⟨r, n, D, left, rfl, hr, hD, htodo⟩
 ·refine wpList_plain hg fun K' hK' => ?_
  have hrun := zN hb o.type
  unfold Oper.wp
  simp [execOp, hop, hit, hrun, Result.andThen]
  exact hK' _ _ (hDone fun e he => by simp at he)
 ·refine wpList_next_ranges w hg itm hop 9 (string_keyed Tryz.underlying9) pA Value.string id (fun key kl h => (keyV h).imp fun x h => h.1) (fun v y h => ⟨v, rfl⟩) r it n D left cnt hit hr (fun _ hl => hDone fun e he => by rw [htodo e he]; exact hl _) fun x c kl y w' cnt' hkey hlk hv hat hr' hlt hgr hsz hen => ?_
  obtain rfl : kl = kH x := by
   obtain ⟨x', e1, e2⟩ := keyV hkey
   injection e1 with e1
   rw [e1]; exact e2
  obtain ⟨e0, he0, enx, rfl⟩ : ∃ e0 ∈ E, e0.name = x /\ c = e0.ptr := by
   obtain ⟨e0, h1, h2⟩ := List.mem_map.1 (hD.key x c fun zd => by
    rw [hat zd]
    have h3 : some (DataW.held c, ([] : List MemPlace)) = some y := hv
    injection h3 with h3
    rw [<- h3])
   exact ⟨e0, h1, congrArg Prod.fst h2, (congrArg Prod.snd h2).symm⟩
  subst enx
  refine hMore e0 w' cnt' he0 (by rw [htodo e0 he0]; exact hlk) (.inr ⟨r, n, D, _, rfl, hr', hD, fun e he => ?_⟩) hlt ((Kp.of_row hgr).mono fun i hi e => by injection e with e; exact e.symm) hsz hen
  show (todo e.name && !decide (e.name = e0.name)) = _
  rw [htodo e he]
  show (left (kH e.name) && !decide (e.name = e0.name)) = (left (kH e.name) && !(kH e.name).sameKey (kH e0.name))
  congr 2
  by_cases hn : e.name = e0.name
  ·rw [hn, decide_eq_true rfl]; simp [Lit.sameKey, kH]
  ·rw [decide_eq_false hn]
   cases hs : (kH e.name).sameKey (kH e0.name) with
   | false => rfl
   | true => exact absurd (aA7 (WideAt.sameKey_eq hs)) hn
end
structure BaseM (S : Nat -> Prop) (w : World) (bb : Nat) (mv : Value) (E : List Ent) : Prop where
 blk : Blk w bb [mv, .int .i64 (aS (aE E) : Nat)] 129
 map : MapV w mv E
 rows : ∀ e ∈ E, RowsAt S w e.b e.iv e.ar e.LL
 inS : ∀ k, S k -> k < w.heap.size
 mapLt : ∀ r, mv = .map (some r) -> r < w.heap.size
 ok : BaseOk (aE E)
theorem BaseAt.m {S : Nat -> Prop} {w : World} {bb r : Nat} {E : List Ent} (h : BaseAt S w bb r E) : BaseM S w bb (.map (some r)) E :=
 ⟨h.blk, .inr ⟨r, rfl, h.map⟩, h.rows, h.inS, fun r' e => by cases e; exact h.map.lt, h.ok⟩
theorem BaseM.ext {S : Nat -> Prop} {w w' : World} {bb : Nat} {mv : Value} {E : List Ent} (h : BaseM S w bb mv E) (hk : Ext w w') : BaseM S w' bb mv E :=
 ⟨h.blk.ext hk, h.map.ext hk, fun e he => (h.rows e he).ext hk, fun k hk' => Nat.lt_of_lt_of_le (h.inS k hk') hk.size, fun r e => Nat.lt_of_lt_of_le (h.mapLt r e) hk.size, h.ok⟩
theorem BaseM.size {S : Nat -> Prop} {w : World} {bb : Nat} {mv : Value} {E : List Ent} (h : BaseM S w bb mv E) : ∀ e ∈ E, e.name.size ≤ maxLen := fun e he => by
 have h2 : 1 ≤ e.name.size /\ e.name.size ≤ 4096 := of_decide_eq_true (h.ok.all _ (cM he)).name
 unfold maxLen; omega
theorem dQ {E : List Ent} (h : BaseOk (aE E)) {e : Ent} (he : e ∈ E) : aY E e.name = some e := by
 have hnd : (E.map Ent.name).Nodup := by
  have := h.nodup
  unfold aE at this
  rw [List.map_map] at this
  exact this
 clear h
 induction E with
 | nil => simp at he
 | cons a E ih =>
  rw [List.map_cons, List.nodup_cons] at hnd
  unfold aY
  rw [List.find?_cons]
  by_cases ha : a.name = e.name
  ·rw [decide_eq_true ha]
   rcases List.mem_cons.1 he with rfl | he
   ·rfl
   ·exact absurd (List.mem_map.2 ⟨e, he, ha.symm⟩) hnd.1
  ·rw [decide_eq_false ha]
   rcases List.mem_cons.1 he with rfl | he
   ·exact absurd rfl ha
   ·exact ih he hnd.2
end Go.Proofs.YtinnmeiphbdogaaGreat
