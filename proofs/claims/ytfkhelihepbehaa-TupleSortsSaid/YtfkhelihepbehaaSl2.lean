/- More laws of the walk on slices: runs of copy and clear as equations. No program in sight. -/
import Derived.Test.YtfkhelihepbehaaSl
namespace Go.Proofs.Ytfkhelihepbehaa
open Go.RowKit
set_option linter.unusedVariables false

section
variable {P : Program} {w : World} {t e : TypeId} {bytes : Nat} {z : Value}

theorem Row.own {k : Nat} {v : Value} {n : Nat} {xs : List Value} {M : Nat → Prop} (h : Row w e k v n xs M) : Row w e k v n xs (fun g => v.ownBlock = some g) := by
  obtain ⟨h1, h2 | ⟨g, cap, rest, a, b, c⟩⟩ := h
  · exact ⟨h1, .inl h2⟩
  · exact ⟨h1, .inr ⟨g, cap, rest, a, by rw [a]; rfl, c⟩⟩

theorem run_copyB (E : ElemT P t e 1 bytes z) {g off dLen dCap : Nat} {cur : List Value} {e' : TypeId} (hB : Blk w g cur e') {dp sp : Option Addr} {sLen sCap : Nat}
    {cs : List Value} (hl : cs.length = Nat.min sLen dLen) (hdp : 0 < cs.length → dp = some ⟨g, off, none⟩) (hsrc : CellsAt w sp cs) (hfit : off + cs.length ≤ cur.length) (h1 : ∀ u ∈ cs, u.oneCell' = true) :
    ∃ w', (∀ ty, (Builtin.copy_ #[t, t] ty #[.slice dp dLen dCap, .slice sp sLen sCap]).run P w = .ok (goInt cs.length) w') ∧ Kp (fun k => k = g) w w' ∧ Blk w' g (splice cur off cs) e' := by
  obtain ⟨ht, hi, hz, hk⟩ := E
  obtain ⟨i, hi, hz1, hz2, hz3⟩ := info_parts hi
  have hsz : (P.info? e).map (·.size) = some 1 := by rw [hi]; simp [hz2]
  by_cases h0 : cs.length = 0
  · obtain rfl : cs = [] := List.eq_nil_of_length_eq_zero h0
    exact ⟨w, fun ty => run_copy_none (P := P) w t t ty e dp sp dLen dCap sLen sCap ht hsz (by simpa using hl.symm), Kp.refl w, hB.congrL (by simp [splice])⟩
  · have hdp := hdp (by omega)
    subst hdp
    obtain ⟨b, off', rfl, hlt⟩ := hsrc.off (by rintro rfl; simp at h0)
    have hb := blk_setRow (cs := cur.take off ++ (cs ++ cur.drop (off + cs.length))) hB
    refine ⟨_, fun ty => run_copy_row (P := P) w t t ty e g off dLen dCap ⟨b, off', none⟩ sLen sCap cur.toArray e' cs ht hsz hB hl (fun j v hj => ?_) (by simpa using hfit) h1, kp_setRow g _, by simpa [splice] using hb⟩
    obtain ⟨b', o', he, hc⟩ := hsrc j v hj
    cases he
    rw [Addr.add_lit]; exact hc

/-- An append that fits, onto the head of a known block; what is appended may lie in it. -/
theorem run_app_room (E : ElemT P t e 1 bytes z) {g k cap : Nat} {cur : List Value} (hB : Blk w g cur e) {ao : Option Addr} {m c : Nat} {news : List Value} (hl : news.length = m) (hs : CellsAt w ao news) (h1 : ∀ u ∈ news, u.oneCell' = true)
    (hroom : k + m ≤ cap) (hfit : k + m ≤ cur.length) :
    ∃ w', (∀ ty, (Builtin.append_ #[t, t] ty #[.slice (some ⟨g, 0, none⟩) k cap, .slice ao m c]).run P w = .ok (.slice (some ⟨g, 0, none⟩) (k + m) cap) w') ∧ Kp (fun k => k = g) w w' ∧ Blk w' g (splice cur k news) e := by
  by_cases hm : m = 0
  · subst hm
    have hn : news = [] := List.eq_nil_of_length_eq_zero hl
    subst hn
    exact ⟨w, fun ty => run_append_none' E ty (by omega) _ _, Kp.refl w, hB.congrL (by simp [splice])⟩
  · obtain ⟨b, off, rfl, _⟩ := hs.off (by rintro rfl; simp at hl; omega)
    obtain ⟨ht, hi, hz, hk⟩ := E
    obtain ⟨i, hi, hz1, hz2, hz3⟩ := info_parts hi
    have hb := blk_setRow (cs := cur.take k ++ (news ++ cur.drop (k + news.length))) hB
    refine ⟨_, fun ty => run_append_room (P := P) w t ty e i ht hi g k cap cur.toArray hB ⟨b, off, none⟩ m c news (by rw [hz2, Nat.mul_one]; exact hl) (fun j u hj => ?_) h1 hroom (by rw [hz2]; simp; omega), kp_setRow g _, ?_⟩
    · obtain ⟨b', o', he, hc⟩ := hs j u hj
      cases he
      rw [Addr.add_lit]; exact hc
    · rw [hz2]; simpa [splice] using hb

theorem Blk.shape {g : Nat} {cs : List Value} (h : Blk w g cs e) : w.shape? g = some (e, cs.length) := by
  unfold Blk at h
  simp [World.shape?, h]
end

theorem splice_at {α : Type} (a b c cs : List α) (k : Nat) (hk : k = a.length) (h : b.length = cs.length) : splice (a ++ b ++ c) k cs = a ++ cs ++ c := by
  subst hk
  unfold splice
  rw [List.append_assoc, List.take_left, ← h, ← List.length_append, ← List.append_assoc a b c, List.drop_left, List.append_assoc]
theorem splice_ins {α : Type} (xs rest : List α) (x y : α) (i : Nat) (hi : i < xs.length) :
    splice (splice (xs ++ y :: rest) (i + 1) (xs.drop i)) i [x] = (xs.take i ++ x :: xs.drop i) ++ rest := by
  have h2 : (xs.take i).length = i := by simp; omega
  have e0 : xs ++ y :: rest = (xs.take i ++ [xs[i]]) ++ (xs.drop (i + 1) ++ [y]) ++ rest := by
    have : xs = xs.take i ++ xs[i] :: xs.drop (i + 1) := by rw [← List.drop_eq_getElem_cons hi, List.take_append_drop]
    have h3 : xs ++ y :: rest = (xs.take i ++ xs[i] :: xs.drop (i + 1)) ++ y :: rest := by rw [← this]
    rw [h3]
    simp only [List.append_assoc, List.cons_append, List.nil_append]
  rw [e0, splice_at _ _ _ _ _ (by simp; omega) (by simp; omega), List.append_assoc, List.append_assoc, ← List.append_assoc, splice_at _ _ _ _ _ h2.symm (by simp)]
  simp
theorem splice_ins2 {α : Type} (xs : List α) (x z : α) (i G : Nat) (hi : i < xs.length) (hG : xs.length + 1 ≤ G) :
    splice (splice (xs.take i ++ List.replicate (G - i) z) i [x]) (i + 1) (xs.drop i) = (xs.take i ++ x :: xs.drop i) ++ List.replicate (G - (xs.length + 1)) z := by
  have h2 : (xs.take i).length = i := by simp; omega
  have e1 : List.replicate (G - i) z = [z] ++ (List.replicate (xs.length - i) z ++ List.replicate (G - (xs.length + 1)) z) := by
    rw [List.replicate_append_replicate, ← List.replicate_one, List.replicate_append_replicate]; congr 1; omega
  rw [e1, ← List.append_assoc, splice_at _ _ _ _ _ h2.symm (by simp), ← List.append_assoc, splice_at _ _ _ _ _ (by simp; omega) (by simp)]
  simp

end Go.Proofs.Ytfkhelihepbehaa
