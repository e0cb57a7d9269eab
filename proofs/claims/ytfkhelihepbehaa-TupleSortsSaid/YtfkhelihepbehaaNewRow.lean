/- tuple.NewSet at []string. -/
import Derived.Test.YtfkhelihepbehaaSetRow
namespace Go.Proofs.Ytfkhelihepbehaa
open Go.RowKit
set_option linter.unusedVariables false

theorem compactRow_nil (fv : Value) (w : World) : Calls Try.prog 151 #[.slice none 0 0, fv] w (Ret (.slice none 0 0) w) := by
  go_enter Try.func151, Try.ntmps151
  go_wp2
  go_ret
  exact Ret.mk rfl

/-- A new row laid into a set's struct. -/
theorem setAtRow_store {P : Program} {S : Nat → Prop} {w : World} {b : Nat} {ov iv0 iv : Value} {tail : List Value} {te : TypeId} {D : Option Addr × Nat × Nat → Prop} {c : Option Addr × Nat × Nat → Option Addr × Nat × Nat → Int} {zs : List (Option Addr × Nat × Nat)} {M : Nat → Prop}
    (hB : Blk w b (ov :: iv0 :: tail) te) (hr : Row w 22 1 iv zs.length (zs.map fun x => (Value.slice (x).1 (x).2.1 (x).2.2)) M) (hap : iv.ownBlock ≠ some b) (hS : ∀ k, S k → k < w.heap.size) (hn : ∀ k, Owns b iv k → ¬ S k)
    (ho : OrdVRow P S w ov D c) (hD : ∀ x ∈ zs, D x) (hl : zs.length ≤ 1048576 * 1048576) : SetAtRow P S (w.setCell ⟨b, 1, none⟩ iv) b ov iv tail te D c zs := by
  have hk : Kp (fun k => k = b) w (w.setCell ⟨b, 1, none⟩ iv) := Kp.setCell (F := fun k => k = b) (Kp.refl w) (fun _ => rfl) iv
  exact ⟨hB.set 1 iv, hr.own.kp hk fun g hg e => hap (by rw [hg, e]), hap, fun k h => Nat.lt_of_lt_of_le (hS k h) hk.size, hn, ho.same (hk.same hS fun k h e => hn k (.inl e) h), hD, hl⟩

theorem newWRow {P : Program} {S : Nat → Prop} {w w1 : World} {ov : Value} {D : Option Addr × Nat × Nat → Prop} {c : Option Addr × Nat × Nat → Option Addr × Nat × Nat → Int} {g : Nat} {cs : List Value} {e : TypeId} (ho : OrdVRow P S w ov D c) (hk : Ext w w1) (hS : ∀ k, S k → k < w.heap.size) (hB : Blk w1 g cs e) (iv : Value) (te : TypeId) :
    ∃ w2, w1.alloc (.cells #[ov, iv] te) = w2 ∧ Ext w w2 ∧ Blk w2 w1.heap.size [ov, iv] te ∧ Blk w2 g cs e ∧ OrdVRow P S w2 ov D c ∧ ∀ k, S k → k < w2.heap.size :=
  ⟨_, rfl, hk.alloc _, Blk.new w1 [ov, iv] te, hB.alloc _, ho.same ((hk.alloc _).same hS fun _ _ => id), fun k h => Nat.lt_of_lt_of_le (hS k h) (hk.alloc _).size⟩

set_option maxRecDepth 100000 in
set_option maxHeartbeats 2000000 in
theorem newSetRow_any (S : Nat → Prop) (w : World) (ov : Value) (ao : Option Addr) (n cap : Nat) (D : Option Addr × Nat × Nat → Prop) (c : Option Addr × Nat × Nat → Option Addr × Nat × Nat → Int) (O : OrdLaw c) (zs : List (Option Addr × Nat × Nat)) (hn : n = zs.length) (hc : CellsAt w ao (zs.map fun x => (Value.slice (x).1 (x).2.1 (x).2.2)))
    (hS : ∀ k, S k → k < w.heap.size) (ho : OrdVRow Try.prog S w ov D c) (hD : ∀ x ∈ zs, D x) (hl : n ≤ 1048576 * 1048576) :
    Calls Try.prog 133 #[ov, .slice ao n cap] w
      (RetN w fun w' v => ∃ b iv, v = .pointer (some ⟨b, 0, none⟩) ∧ w.heap.size ≤ b ∧ (∀ k, iv.ownBlock = some k → w.heap.size ≤ k) ∧ SetAtRow Try.prog S w' b ov iv [] 66 D c (newS c zs)) := by
  have hform : ov = .nilFunc ∨ ∃ f first cap, ov = .func f first cap := by
    rcases ho with ⟨h, _⟩ | ⟨f, first, cap, h, _⟩
    · exact .inl h
    · exact .inr ⟨_, _, _, h⟩
  have HO := Lib.hid ho; clear ho
  have HN := Lib.hid (And.intro hn hD); clear hn hD
  have HC := Lib.hid hc; clear hc
  rcases hform with rfl | ⟨f1, first1, cap2, rfl⟩
  all_goals
    go_enter Try.func133, Try.ntmps133
    go_wp2_with fail
    refine (cloneRow_any (zs.map fun x => (Value.slice (x).1 (x).2.1 (x).2.2)) ao cap w n (by rw [HN.out.1, List.length_map]) HC.out (by intro u hu; obtain ⟨x, _, rfl⟩ := List.mem_map.1 hu; rfl) (by omega)).mono ?_
    rintro e w1 ⟨v, rfl, hk, hr⟩
    have HK := Lib.hid hk; clear hk
    obtain ⟨h1, ⟨rfl, h0⟩ | ⟨g, cap1, rest, rfl, hg, hB, hlen, hnc, hcm⟩⟩ := hr
    · have HZ := Lib.hid h0; clear h0 h1
      go_wp2_with fail
      refine (sortStableRow_nil none 0 _ _).mono ?_
      rintro e w' ⟨rfl, rfl⟩
      go_wp2_with fail
      refine (compactRow_nil _ _).mono ?_
      rintro e w' ⟨rfl, rfl⟩
      go_wp2
      go_ret
      have hz : zs = [] := List.eq_nil_of_length_eq_zero (by rw [← HN.out.1]; exact HZ.out)
      subst hz
      have hk1 := HK.out
      refine RetN.mk (hk1.alloc _) ⟨w1.heap.size, .slice none 0 0, rfl, hk1.size, (fun k hk => by cases hk), ?_⟩
      refine ⟨Blk.new w1 [_, _] _, Row.nil _ _ _ _, (fun h => by cases h), (fun k h => Nat.lt_of_lt_of_le (hS k h) (hk1.alloc _).size), (fun k h hs => ?_), HO.out.same ((hk1.alloc _).same hS fun _ _ => id), by simp [newS], by simp [newS]⟩
      have := hS k hs; have := hk1.size
      rcases h with h | h
      · omega
      · cases h
    · have HB := Lib.hid hB; clear hB
      have HG := Lib.hid hg; clear hg
      have hLN := Lib.hid hlen; clear hlen
      obtain ⟨b, eb⟩ : ∃ b, b = w1.heap.size := ⟨_, rfl⟩
      have hgb : g < b := by rw [eb]; exact HB.out.lt
      have hentc : ∀ args w, (callFunc 147 args).run Try.prog w = .ok (.enter 147 args) w := enters_of Try.func147 (by kernel_rfl) rfl
      have henta : ∀ args w, (callFunc 142 args).run Try.prog w = .ok (.enter 142 args) w := enters_of Try.func142 (by kernel_rfl) rfl
      have HE := Lib.hid (And.intro hentc henta); clear hentc henta
      have get : ∀ i, i < n → ∃ h : i < zs.length, zs.getD i default = zs[i] := fun i hi => ⟨by rw [← HN.out.1]; exact hi, by simp [List.getD, show i < zs.length by rw [← HN.out.1]; exact hi]⟩
      have inD : ∀ i, i < n → D (zs.getD i default) := fun i hi => by obtain ⟨h, e⟩ := get i hi; rw [e]; exact HN.out.2 _ (List.getElem_mem _)
      have evals : zs.map (fun x => (Value.slice (x).1 (x).2.1 (x).2.2)) = (List.range n).map (valRow fun i => zs.getD i default) := by
        refine List.ext_getElem (by simp [HN.out.1]) fun i h1 h2 => ?_
        simp only [List.getElem_map, List.getElem_range]
        obtain ⟨h, e⟩ := get i (by simpa using h2)
        show (Value.slice (zs[i]).1 (zs[i]).2.1 (zs[i]).2.2) = (Value.slice (zs.getD i default).1 (zs.getD i default).2.1 (zs.getD i default).2.2)
        rw [e]
      have ezs : (List.range n).map (fun i => zs.getD i default) = zs := by
        refine List.ext_getElem (by simp [HN.out.1]) fun i h1 h2 => ?_
        simp only [List.getElem_map, List.getElem_range]
        exact (get i (by simpa using h1)).2
      have HV := Lib.hid (And.intro evals ezs)
      have HI := Lib.hid inD
      clear evals ezs inD get
      have OL := (O.idx fun i : Nat => zs.getD i default)
      go_wp2_with fail
      obtain ⟨w2, hw2, hk2, hB2, hG2, ho2, hS2⟩ := newWRow HO.out HK.out hS HB.out (.slice (some ⟨g, 0, none⟩) n cap1) 66
      rw [← eb] at hB2
      rw [HV.out.1] at hG2
      have hsz : w.heap.size ≤ b := by rw [eb]; exact HK.out.size
      rw [← eb, hw2]
      clear hw2 eb
      have hSg : ∀ k, S k → ¬ k = g := fun k h e => by have := hS k h; have := HG.out; simp only [New] at this; omega
      have hSb : ∀ k, S k → ¬ k = b := fun k h e => by have := hS k h; omega
      have hcmp : CmpOn Try.prog 147 #[.pointer (some ⟨b, 0, none⟩)] #[] g n w2 (valRow fun i => zs.getD i default) (fun i j => c (zs.getD i default) (zs.getD j default)) :=
        ⟨HE.out.1, fun w' hw i j hi hj => setCmpRow_any S w' b _ _ _ D c _ _ (HI.out i hi) (HI.out j hj) (hB2.kp hw (by omega)) (fun k h => Nat.lt_of_lt_of_le (hS2 k h) hw.size) (ho2.same (hw.same hS2 hSg))⟩
      refine (sortStableRow_any (fun i => zs.getD i default) g n cap1 rest 147 #[.pointer (some ⟨b, 0, none⟩)] #[] (fun i j => c (zs.getD i default) (zs.getD j default)) OL.nat w2 hcmp (by omega) hG2).mono ?_
      clear hcmp
      rintro e w3 ⟨v, rfl, hk3, rfl, C, hp, hs, hG3⟩
      have hB3 := hB2.kp hk3 (by omega)
      have ho3 := ho2.same (hk3.same hS2 hSg)
      have hS3 : ∀ k, S k → k < w3.heap.size := fun k h => Nat.lt_of_lt_of_le (hS2 k h) hk3.size
      have hCl : C.length = n := by simpa using hp.length_eq
      have c1 : w3.cell? ⟨b, 1, none⟩ = some (.slice (some ⟨g, 0, none⟩) n cap1) := by rw [hB3.cell']; rfl
      have hlike : LikeOn Try.prog 142 #[.pointer (some ⟨b, 0, none⟩)] #[] g n w3 (valRow fun i => zs.getD i default) (fun i j => decide (c (zs.getD i default) (zs.getD j default) = 0)) :=
        ⟨HE.out.2, fun w' hw i j hi hj => setAlikeRow_any S w' b _ _ _ D c _ _ (HI.out i hi) (HI.out j hj) (hB3.kp hw (by omega)) (fun k h => Nat.lt_of_lt_of_le (hS3 k h) hw.size) (ho3.same (hw.same hS3 hSg))⟩
      have hcomp := compactRow_any (fun i => zs.getD i default) C g n cap1 n rest 142 #[.pointer (some ⟨b, 0, none⟩)] #[] _ w3 hlike hCl.symm (fun i hi => List.mem_range.1 (hp.subset hi)) (by omega) hG3 (by have := hLN.out; simp only [List.length_append, List.length_map, hCl] at this ⊢; rw [← HN.out.1] at this; omega) hcm
      have hkeep := keep_new OL hp hs
      rw [hkeep] at hcomp
      have HCOMP := Lib.hid hcomp
      have HCM := Lib.hid hcm
      have HP := Lib.hid (And.intro hk2 (And.intro hk3 (And.intro hB3 (And.intro ho3 hS3))))
      clear hlike hcomp hkeep hk2 hk3 hB3 ho3 hS3 hp hs hG3 hB2 hG2 ho2 hS2 hcm
      go_wp2_with fail
      refine HCOMP.out.mono ?_
      rintro e w4 ⟨v, rfl, hk4, rest', rfl, hG4, hl4⟩
      obtain ⟨hk2, hk3, hB3, ho3, hS3⟩ := HP.out
      have hB4 := hB3.kp hk4 (by omega)
      have ho4 := ho3.same (hk4.same hS3 hSg)
      have hS4 : ∀ k, S k → k < w4.heap.size := fun k h => Nat.lt_of_lt_of_le (hS3 k h) hk4.size
      have d0 : w4.cell? ⟨b, 1, none⟩ = some (.slice (some ⟨g, 0, none⟩) n cap1) := by rw [hB4.cell']; rfl
      have f0 := hB4.free 1
      have hkk : Kp (fun k => k = g) w w4 := (hk2.kp.trans hk3).trans hk4
      have HQ := Lib.hid (And.intro hB4 (And.intro ho4 (And.intro hS4 (And.intro hG4 (And.intro hl4 hkk)))))
      clear hk2 hk3 hB3 ho3 hS3 hk4 hG4 hl4 hB4 ho4 hS4 hkk c1
      go_wp2
      go_ret
      obtain ⟨hB4, ho4, hS4, hG4, hl4, hkk⟩ := HQ.out
      have eN : (newS (fun i j => c (zs.getD i default) (zs.getD j default)) (List.range n)).map (fun i => zs.getD i default) = newS c zs := by rw [← newS_map, HV.out.2]
      have eL : (newS (fun i j => c (zs.getD i default) (zs.getD j default)) (List.range n)).length = (newS c zs).length := by rw [← eN, List.length_map]
      have eV : (newS (fun i j => c (zs.getD i default) (zs.getD j default)) (List.range n)).map (valRow fun i => zs.getD i default) = (newS c zs).map fun x => (Value.slice (x).1 (x).2.1 (x).2.2) := by
        rw [← eN, List.map_map]; rfl
      rw [eV] at hG4 hl4
      have hgw : w.heap.size ≤ g := HG.out
      have hex : Ext w w4 := hkk.mono fun k hk e => by omega
      refine RetN.mk (hex.setCell (fun h => absurd hsz (Nat.not_le.2 h)) _) ⟨b, .slice (some ⟨g, 0, none⟩) (newS (fun i j => c (zs.getD i default) (zs.getD j default)) (List.range n)).length cap1, rfl, hsz, (fun k hk => by have e : g = k := Option.some.inj hk; omega), ?_⟩
      have hlen := newS_len (c := c) zs
      refine setAtRow_store hB4 (M := fun _ => True) ⟨by simp, .inr ⟨g, cap1, rest', congrArg (fun t => Value.slice (some ⟨g, 0, none⟩) t cap1) eL, trivial, hG4, by rw [hl4, Nat.mul_one], by rw [← hl4]; simp, HCM.out⟩⟩ (fun h => by have e : g = b := Option.some.inj h; omega) hS4 (fun k h hs => ?_) ho4 (fun x hx => HN.out.2 x (newS_mem hx)) (by rw [← HN.out.1] at hlen; omega)
      rcases h with h | h
      · exact hSb k hs h
      · have e : g = k := Option.some.inj h
        exact hSg _ hs e.symm
end Go.Proofs.Ytfkhelihepbehaa
