/- Texts joined for a claim (Law9, Law10, Greedy1, Greedy2, FloMono, BestPlain). -/
import Derived.Test.YtcphalpcdcddpaaBe7
import Derived.Laws.CopyOwn
import Derived.Defers
import Derived.Recover
/- The law of costs: other counts of the same predicates: others. -/
namespace Go.Proofs.Ytcphalpcdcddpaa
open Go.RowKit
set_option linter.unusedVariables false
attribute [local go_sem] run_store_float

/-- A sum or a product: a word, whatever it is; the world is as it was but for what was drawn. -/
theorem arith_some (op : BinOp) (hop : op = .add ∨ op = .mul) (t : TypeId) (x y : Nat) : ∃ (fb : World → Nat) (fw : World → World), (∀ W, (binOp op t (.float .f64 x) (.float .f64 y)).run Try.prog W = .ok (.float .f64 (fb W)) (fw W)) ∧ (∀ W, fb W < 18446744073709551616) ∧ ∀ W, Ext W (fw W) := by
  have h1 : ∀ W : World, ∃ z : Nat × World, (binOp op t (.float .f64 x) (.float .f64 y)).run Try.prog W = .ok (.float .f64 z.1) z.2 ∧ z.1 < 18446744073709551616 ∧ Ext W z.2 := fun W => by
    cases e : floatBits op .f64 x y with
    | some r =>
      refine ⟨(r, W), run_float_arith W op t .f64 x y r e, ?_, Kp.refl W⟩
      rcases hop with rfl | rfl
      · exact Ieee.Format.add_lt Ieee.double e
      · exact Ieee.Format.mul_lt Ieee.double e
    | none =>
      refine ⟨((Question.nanBits .f64 x y).cut (W.tape W.drawn (.nanBits .f64 x y)), W.drew), ?_, ?_, (Kp.refl W).drew⟩
      · rcases hop with rfl | rfl
        · have h' : (FloatKind.format .f64).add x y = none := e
          simp [binOp, Op.floatArith, h', Question.forced]
        · have h' : (FloatKind.format .f64).mul x y = none := e
          simp [binOp, Op.floatArith, h', Question.forced]
      · generalize W.tape W.drawn (.nanBits .f64 x y) = q
        have hb : (Question.nanBits .f64 x y).cut q = (q % 2) * 9223372036854775808 + 9218868437227405312 + 1 + (q / 2) % 4503599627370495 := rfl
        show (Question.nanBits .f64 x y).cut q < _
        rw [hb]
        have h1 : (q / 2) % 4503599627370495 < 4503599627370495 := Nat.mod_lt _ (by decide)
        have h2 : q % 2 < 2 := Nat.mod_lt _ (by decide)
        omega
  exact ⟨fun W => (Classical.choose (h1 W)).1, fun W => (Classical.choose (h1 W)).2, fun W => (Classical.choose_spec (h1 W)).1, fun W => (Classical.choose_spec (h1 W)).2.1, fun W => (Classical.choose_spec (h1 W)).2.2⟩

theorem elem_known : ElemT Try.prog 29 53 3 48 (.agg #[.string ⟨#[]⟩, .int .u64 0, .slice none 0 0]) := ⟨by kernel_rfl, by kernel_rfl, rfl, by decide⟩
theorem elem_u64 : ElemT Try.prog 51 50 1 8 (.int .u64 0) := ⟨by kernel_rfl, by kernel_rfl, rfl, by decide⟩
theorem typ_uk : 50 ≠ 53 := by decide
def knownC (x : StatZ × (Option Addr × Nat)) : List Value := [.string x.1.1, .int .u64 x.1.2.1, .slice x.2.1 x.1.2.2.1.length x.2.2]
theorem knownC_len (x : StatZ × (Option Addr × Nat)) : (knownC x).length = 3 := rfl
def WordsAt (w0 w : World) (x : StatZ × (Option Addr × Nat)) : Prop := Row w 50 1 (.slice x.2.1 x.1.2.2.1.length x.2.2) x.1.2.2.1.length (words x.1.2.2.1) (New w0)
theorem CellsAt.kpN {F : Nat → Prop} {w w' : World} {ao : Option Addr} {vs : List Value} (h : CellsAt w ao vs) (k : Kp F w w') (hf : vs ≠ [] → Off F ao) : CellsAt w' ao vs := by
  by_cases e : vs = []
  · subst e; exact CellsAt.nil _ _
  · exact h.kp k (hf e)
theorem words_ne {xs : List Nat} (h : words xs ≠ []) : xs ≠ [] := fun e => h (by rw [e]; rfl)
theorem ints_ne {xs : List Int} (h : ints xs ≠ []) : xs ≠ [] := fun e => h (by rw [e]; rfl)
/-- What is known, by bits, in blocks of M. -/
def KnownIn (w : World) (M : Nat → Prop) (ao : Option Addr) (S : List StatZ) : Prop := ∀ (i : Nat) (s : StatZ), S[i]? = some s → ∃ b off da dcap, ao = some ⟨b, off, none⟩ ∧ M b ∧ (s.2.2.1 ≠ [] → ∀ a, da = some a → M a.block) ∧ w.cell? ⟨b, off + i * 3, none⟩ = some (.string s.1) ∧ w.cell? ⟨b, off + i * 3 + 1, none⟩ = some (.int .u64 s.2.1) ∧ w.cell? ⟨b, off + i * 3 + 2, none⟩ = some (.slice da s.2.2.1.length dcap) ∧ s.2.2.1.length ≤ dcap ∧ dcap ≤ maxLen ∧ CellsAt w da (words s.2.2.1)
theorem KnownIn.at {w : World} {M : Nat → Prop} {ao : Option Addr} {S : List StatZ} (h : KnownIn w M ao S) : KnownAt w ao S := fun i s hs => by
  obtain ⟨b, off, da, dcap, e, _, _, h1, h2, h3, h4, h5, h6⟩ := h i s hs
  exact ⟨b, off, da, dcap, e, h1, h2, h3, h4, h5, h6⟩
theorem KnownIn.kp {F : Nat → Prop} {w w' : World} {M : Nat → Prop} {ao : Option Addr} {S : List StatZ} (h : KnownIn w M ao S) (hk : Kp F w w') (hF : ∀ k, M k → ¬ F k) : KnownIn w' M ao S := fun i s hs => by
  obtain ⟨b, off, da, dcap, e, m1, m2, h1, h2, h3, h4, h5, h6⟩ := h i s hs
  exact ⟨b, off, da, dcap, e, m1, m2, hk.cell h1 (hF _ m1), hk.cell h2 (hF _ m1), hk.cell h3 (hF _ m1), h4, h5, h6.kpN hk fun hne a ha => hF _ (m2 (words_ne hne) a ha)⟩
theorem KnownIn.ext {w w' : World} {M : Nat → Prop} {ao : Option Addr} {S : List StatZ} (h : KnownIn w M ao S) (hk : Ext w w') : KnownIn w' M ao S := h.kp hk fun _ _ => id
theorem KnownIn.mono {w : World} {M M' : Nat → Prop} {ao : Option Addr} {S : List StatZ} (h : KnownIn w M ao S) (hM : ∀ k, M k → M' k) : KnownIn w M' ao S := fun i s hs => by
  obtain ⟨b, off, da, dcap, e, m1, m2, h1⟩ := h i s hs
  exact ⟨b, off, da, dcap, e, hM _ m1, fun hne a ha => hM _ (m2 hne a ha), h1⟩
theorem known_cells {w0 w : World} {S : List StatZ} {vs : List (Option Addr × Nat)} {v : Value} {n : Nat} (hl : vs.length = S.length) (hr : Row w 53 3 v n ((S.zip vs).flatMap knownC) (New w0)) (hd : ∀ x ∈ S.zip vs, WordsAt w0 w x) {ao : Option Addr} {cap : Nat} (hv : v = .slice ao n cap) : KnownIn w (New w0) ao S := fun i s hs => by
  obtain ⟨_, _, e0, hc, _, _⟩ := hr.cap
  rw [e0] at hv
  cases hv
  have hv : i < vs.length := by rw [hl]; exact (List.getElem?_eq_some_iff.1 hs).1
  have hz : (S.zip vs)[i]? = some (s, vs[i]) := by rw [List.getElem?_zip_eq_some]; exact ⟨hs, List.getElem?_eq_getElem hv⟩
  have hrow := hd _ (List.mem_of_getElem? hz)
  obtain ⟨_, _, e, q1, q2, q3⟩ := Row.cap hrow
  cases e
  have hg := fun c hcc => flat_get knownC 3 knownC_len (S.zip vs) i _ c hz hcc
  obtain ⟨b, off, rfl, h0⟩ := hc (i * 3 + 0) _ (hg 0 (by decide))
  obtain ⟨_, _, e1, h1⟩ := hc (i * 3 + 1) _ (hg 1 (by decide))
  cases e1
  obtain ⟨_, _, e2, h2⟩ := hc (i * 3 + 2) _ (hg 2 (by decide))
  cases e2
  refine ⟨b, off, _, _, rfl, hr.block b (by rw [e0]; rfl), fun _ a ha => ?_, h0, h1, h2, q2, q3, q1⟩
  refine Row.block hrow a.block ?_
  show (Value.slice vs[i].1 _ _).ownBlock = some a.block
  rw [ha]; rfl

/-- Other counts of the same predicate. -/
def Alike1 (s s' : StatZ) : Prop := s'.1 = s.1 ∧ s'.2.2.1.length = s.2.2.1.length ∧ s'.2.1 < 18446744073709551616 ∧ ∀ x ∈ s'.2.2.1, x < 18446744073709551616
def AlikeTo (S T : List StatZ) (i : Nat) : Prop := ∀ (j : Nat) s s', j < i → S[j]? = some s → T[j]? = some s' → Alike1 s s'
theorem AlikeTo.snoc {S T : List StatZ} {i : Nat} {s s' : StatZ} (h : AlikeTo S T i) (hl : T.length = i) (hs : S[i]? = some s) (ha : Alike1 s s') : AlikeTo S (T ++ [s']) (i + 1) := fun j u u' hj hu hu' => by
  by_cases e : j = i
  · subst e
    rw [hs] at hu; cases hu
    rw [← hl, List.getElem?_append_right (Nat.le_refl _), Nat.sub_self] at hu'
    cases hu'; exact ha
  · rw [List.getElem?_append_left (by omega)] at hu'
    exact h j u u' (by omega) hu hu'
theorem AlikeTo.fit {S T : List StatZ} (h : AlikeTo S T S.length) (hl : T.length = S.length) (hf : StatsFit S) : StatsFit T := by
  have hall : ∀ t ∈ T, ∃ s ∈ S, Alike1 s t := fun t ht => by
    obtain ⟨i, hi⟩ := List.mem_iff_getElem?.1 ht
    have hlt : i < S.length := by rw [← hl]; exact (List.getElem?_eq_some_iff.1 hi).1
    exact ⟨_, List.getElem_mem hlt, h i _ _ hlt (List.getElem?_eq_getElem hlt) hi⟩
  refine ⟨by rw [hl]; exact hf.len, fun t ht => ?_, fun t ht => ?_, fun t ht => ?_⟩
  · obtain ⟨s, hs, ha⟩ := hall t ht
    rw [ha.2.1]; exact hf.dist s hs
  · obtain ⟨s, hs, ha⟩ := hall t ht
    exact ha.2.2.1
  · obtain ⟨s, hs, ha⟩ := hall t ht
    exact ha.2.2.2

def OthersTo (S : List StatZ) (w0 : World) (n : Nat) (iv ov : Value) (w : World) : Prop := ∃ i : Nat, i ≤ n ∧ iv = .int .i64 i ∧ Hid (∃ (T : List StatZ) (vs : List (Option Addr × Nat)), T.length = i ∧ vs.length = i ∧ Row w 53 3 ov i ((T.zip vs).flatMap knownC) (New w0) ∧ (∀ x ∈ T.zip vs, WordsAt w0 w x) ∧ AlikeTo S T i) ∧ Hid (Ext w0 w)
def WordsTo (p : ByteArray) (y gx : Nat) (w0 : World) (m : Nat) (kv : Value) (w : World) : Prop := ∃ k : Nat, k ≤ m ∧ kv = .int .i64 k ∧ Hid (∃ (dv : Value) (zs : List Nat), zs.length = k ∧ (∀ z ∈ zs, z < 18446744073709551616) ∧ Blk w gx [.string p, .int .u64 y, dv] 53 ∧ Row w 50 1 dv k (words zs) (New w0)) ∧ Hid (Ext w0 w)

set_option maxRecDepth 100000 in
set_option maxHeartbeats 4000000 in
theorem others_any (S : List StatZ) (ao : Option Addr) (n cap : Nat) (w : World) (hn : n = S.length) (h : KnownAt w ao S) (hf : StatsFit S) :
    Calls Try.prog 21 #[.slice ao n cap] w (RetN w fun w' v => ∃ a c, ∃ T : List StatZ, v = .slice a n c ∧ n ≤ c ∧ c ≤ maxLen ∧ T.length = n ∧ KnownIn w' (New w) a T ∧ AlikeTo S T n) := by
  have HN := Lib.hid hn
  have HK := Lib.hid h
  have HF := Lib.hid hf
  have hl : n ≤ 1048576 := by have := hf.len; omega
  have hq1 := frombits_run
  have hq2 := bits_run
  clear hn h hf
  go_enter Try.func21, Try.ntmps21
  go_wp2
  go_loopw [4, 3] (fun iv ov wr => OthersTo S w n iv ov wr) (fun iv _ _ => n - (intOf iv).toNat)
  case atStart => exact ⟨0, Nat.zero_le _, rfl, ⟨[], [], rfl, rfl, Row.nil _ _ _ _, fun x hx => by simp at hx, fun j s s' hj => by omega⟩, Kp.refl _⟩
  case round =>
    obtain ⟨i, hi, rfl, hin, hex⟩ := hrel
    by_cases hlt : i < n
    · obtain ⟨s, hs⟩ : ∃ s, S[i]? = some s := ⟨_, List.getElem?_eq_getElem (by rw [← HN.out]; exact hlt)⟩
      obtain ⟨b, off, da, dcap, eao, c0, c1, c2, d1, d2, d3⟩ := HK.out i s hs
      subst eao
      have hm : s.2.2.1.length ≤ 1048576 := HF.out.dist s (List.mem_of_getElem? hs)
      replace c0 := hex.out.cell c0 id
      replace c1 := hex.out.cell c1 id
      replace c2 := hex.out.cell c2 id
      have HD := Lib.hid (d3.ext hex.out)
      obtain ⟨p, ep⟩ : ∃ p, p = s.1 := ⟨_, rfl⟩
      obtain ⟨r, er⟩ : ∃ r, r = s.2.1 := ⟨_, rfl⟩
      obtain ⟨ds, eds⟩ : ∃ ds, ds = s.2.2.1 := ⟨_, rfl⟩
      obtain ⟨m, em⟩ : ∃ m, m = ds.length := ⟨_, rfl⟩
      rw [← ep] at c0
      rw [← er] at c1
      rw [← eds] at HD hm d1
      rw [← eds, ← em] at c2
      rw [← em] at hm d1
      have HS := Lib.hid (And.intro hs (And.intro ep eds))
      have EM := Lib.hid em
      have HCells := Lib.hid (show ∀ w', Ext wr w' → (fun w' : World => w'.cell? ⟨b, off + i * 3, none⟩ = some (.string p) ∧ w'.cell? ⟨b, off + i * 3 + 1, none⟩ = some (.int .u64 r)) w' from fun w' hw => ⟨hw.cell c0 id, hw.cell c1 id⟩)
      have HC2 := Lib.hid c2
      clear hs ep er eds em d3 c0 c1 c2
      obtain ⟨fb, fw, hadd, hfb, hfw⟩ := arith_some .add (.inl rfl) 37 r 4613937818241073152
      have HFB := Lib.hid (And.intro hfb hfw)
      clear hfb hfw
      go_wp2
      refine draw_begin (fun w' : World => w'.cell? ⟨b, off + i * 3, none⟩ = some (.string p) ∧ w'.cell? ⟨b, off + i * 3 + 1, none⟩ = some (.int .u64 r)) [15] (by kernel_rfl) (HCells.out _ (Kp.refl wr).drew) (fun hHeld => ?_)
      (refine draw_free (i := 0) (v := ?_) rfl ?_ ?_; rotate_left; (intro w; go_simp; try with_reducible rfl)); (try simp only [Act.put, List.setIfInBounds_toArray, List.set_cons_zero, List.set_cons_succ])
      (refine draw_free (i := 1) (v := ?_) rfl ?_ ?_; rotate_left; (intro w; go_simp; try with_reducible rfl)); (try simp only [Act.put, List.setIfInBounds_toArray, List.set_cons_zero, List.set_cons_succ])
      (refine draw_in (i := 2) (v := ?_) rfl ?_ ?_; rotate_left; (intro w hSw; (try dsimp only at hSw); go_simp; try with_reducible rfl)); (try simp only [Act.put, List.setIfInBounds_toArray, List.set_cons_zero, List.set_cons_succ])
      (refine draw_free (i := 3) (v := ?_) rfl ?_ ?_; rotate_left; (intro w; go_simp; try with_reducible rfl)); (try simp only [Act.put, List.setIfInBounds_toArray, List.set_cons_zero, List.set_cons_succ])
      (refine draw_in (i := 4) (v := ?_) rfl ?_ ?_; rotate_left; (intro w hSw; (try dsimp only at hSw); go_simp; try with_reducible rfl)); (try simp only [Act.put, List.setIfInBounds_toArray, List.set_cons_zero, List.set_cons_succ])
      (refine draw_free (i := 5) (v := ?_) rfl ?_ ?_; rotate_left; (intro w; go_simp; try with_reducible rfl)); (try simp only [Act.put, List.setIfInBounds_toArray, List.set_cons_zero, List.set_cons_succ])
      (refine draw_free (i := 6) (v := ?_) rfl ?_ ?_; rotate_left; (intro w; go_simp; try with_reducible rfl)); (try simp only [Act.put, List.setIfInBounds_toArray, List.set_cons_zero, List.set_cons_succ])
      (refine draw_in (i := 7) (v := ?_) rfl ?_ ?_; rotate_left; (intro w hSw; (try dsimp only at hSw); go_simp; try with_reducible rfl)); (try simp only [Act.put, List.setIfInBounds_toArray, List.set_cons_zero, List.set_cons_succ])
      (refine draw_free (i := 8) (v := ?_) rfl ?_ ?_; rotate_left; (intro w; go_simp; try with_reducible rfl)); (try simp only [Act.put, List.setIfInBounds_toArray, List.set_cons_zero, List.set_cons_succ])
      (refine draw_in (i := 9) (v := ?_) rfl ?_ ?_; rotate_left; (intro w hSw; (try dsimp only at hSw); go_simp; try with_reducible rfl)); (try simp only [Act.put, List.setIfInBounds_toArray, List.set_cons_zero, List.set_cons_succ])
      (refine draw_free (i := 10) (v := ?_) rfl ?_ ?_; rotate_left; (intro w; go_simp; try with_reducible rfl)); (try simp only [Act.put, List.setIfInBounds_toArray, List.set_cons_zero, List.set_cons_succ])
      refine draw_two (i := 11) (k := 14) ?_ ?_
      · refine comes_turn (i := 11) rfl (fun K hK => ?_)
        go_simp
        refine hK.out _ _ ?_ (fun hHeld => ?_)
        · (try dsimp only); (first | exact HCells.out _ ((Kp.refl wr).drew.trans (HFB.out.2 _)) | exact HCells.out _ ((Kp.refl wr).alloc _).drew | exact HCells.out _ (((Kp.refl wr).drew.trans (HFB.out.2 _)).alloc _) | exact HCells.out _ ((((Kp.refl wr).alloc _).drew).trans (HFB.out.2 _)))
        clear hK K; (try simp only [Act.put, List.setIfInBounds_toArray, List.set_cons_zero, List.set_cons_succ])
        (refine draw_free (i := 12) (v := ?_) rfl ?_ ?_; rotate_left; (intro w; go_simp; try with_reducible rfl)); (try simp only [Act.put, List.setIfInBounds_toArray, List.set_cons_zero, List.set_cons_succ])
        (refine draw_free (i := 13) (v := ?_) rfl ?_ ?_; rotate_left; (intro w; go_simp; try with_reducible rfl)); (try simp only [Act.put, List.setIfInBounds_toArray, List.set_cons_zero, List.set_cons_succ])
        refine draw_one (i := 14) ?_
        refine comes_turn (i := 14) rfl (fun K hK => ?_)
        go_simp
        refine hK.out _ _ ?_ (fun hHeld => ?_)
        · (try dsimp only); (first | exact HCells.out _ ((Kp.refl wr).drew.trans (HFB.out.2 _)) | exact HCells.out _ ((Kp.refl wr).alloc _).drew | exact HCells.out _ (((Kp.refl wr).drew.trans (HFB.out.2 _)).alloc _) | exact HCells.out _ ((((Kp.refl wr).alloc _).drew).trans (HFB.out.2 _)))
        clear hK K; (try simp only [Act.put, List.setIfInBounds_toArray, List.set_cons_zero, List.set_cons_succ])
        refine draw_one (i := 15) ?_
        refine comes_late (i := 15) rfl (by kernel_rfl) (fun K hK => ?_)
        ((first | (obtain ⟨w3, e3⟩ : ∃ x, (fw wr.drew).alloc (.cells #[.string ⟨#[]⟩, .int .u64 0, .slice none 0 0] 53) = x := ⟨_, rfl⟩; rw [e3]; obtain ⟨gx, eg⟩ : ∃ g, g = (fw wr.drew).heap.size := ⟨_, rfl⟩; rw [← eg]; obtain ⟨y, ey⟩ : ∃ y, fb wr.drew = y := ⟨_, rfl⟩; rw [ey]; have HZ := Lib.hid (show Blk w3 gx [.string ⟨#[]⟩, .int .u64 0, .slice none 0 0] 53 from (by rw [← e3, eg]; exact Blk.new _ _ _)); have X3 := Lib.hid (show Ext wr w3 from (by rw [← e3]; exact ((Kp.refl wr).drew.trans (HFB.out.2 _)).alloc _)); have EGX := Lib.hid (show wr.heap.size ≤ gx from (by rw [eg]; exact ((Kp.refl (F := fun _ => False) wr).drew.trans (HFB.out.2 _)).size))) | (obtain ⟨w3, e3⟩ : ∃ x, fw ((wr.alloc (.cells #[.string ⟨#[]⟩, .int .u64 0, .slice none 0 0] 53)).drew) = x := ⟨_, rfl⟩; rw [e3]; obtain ⟨gx, eg⟩ : ∃ g, g = wr.heap.size := ⟨_, rfl⟩; rw [← eg]; obtain ⟨y, ey⟩ : ∃ y, fb ((wr.alloc (.cells #[.string ⟨#[]⟩, .int .u64 0, .slice none 0 0] 53)).drew) = y := ⟨_, rfl⟩; rw [ey]; have HZ := Lib.hid (show Blk w3 gx [.string ⟨#[]⟩, .int .u64 0, .slice none 0 0] 53 from (by rw [← e3, eg]; exact ((Blk.new wr _ _).drew).ext (HFB.out.2 _))); have X3 := Lib.hid (show Ext wr w3 from (by rw [← e3]; exact (((Kp.refl wr).alloc _).drew).trans (HFB.out.2 _))); have EGX := Lib.hid (show wr.heap.size ≤ gx from (by rw [eg]; exact Nat.le_refl _)))); have HY := Lib.hid (show y < 18446744073709551616 from (by rw [← ey]; exact HFB.out.1 _)); clear e3 eg ey; have z0 : w3.cell? ⟨gx, 0, none⟩ = some (.string ⟨#[]⟩) := (by rw [HZ.out.cell']; rfl); have z1 : w3.cell? ⟨gx, 1, none⟩ = some (.int .u64 0) := (by rw [HZ.out.cell']; rfl); have z2 : w3.cell? ⟨gx, 2, none⟩ = some (.slice none 0 0) := (by rw [HZ.out.cell']; rfl); have f0 := HZ.out.free 0; have f1 := HZ.out.free 1; have f2 := HZ.out.free 2)
        go_simp
        refine hK.out _ _ ?_
        clear hK K; (try simp only [Act.put, List.setIfInBounds_toArray, List.set_cons_zero, List.set_cons_succ])
        refine wpAnyD_done (by kernel_rfl) ?_ _
        obtain ⟨w2, ew2⟩ : ∃ x, ((w3.setCell ⟨gx, 0, none⟩ (.string p)).setCell ⟨gx, 1, none⟩ (.int .u64 y)).setCell ⟨gx, 2, none⟩ (.slice none 0 0) = x := ⟨_, rfl⟩
        rw [ew2]
        have HGX := Lib.hid (show Blk w2 gx [.string p, .int .u64 y, .slice none 0 0] 53 by rw [← ew2]; exact ((HZ.out.set 0 _).set 1 _).set 2 _)
        have X2 := Lib.hid (show Ext wr w2 from by
          rw [← ew2]
          have hno : ∀ c, (⟨gx, c, none⟩ : Addr).block < wr.heap.size → False := fun c h => by have := EGX.out; simp only at h; omega
          exact ((X3.out.setCell (fun h => hno 0 h) _).setCell (fun h => hno 1 h) _).setCell (fun h => hno 2 h) _)
        clear ew2 hHeld z0 z1 z2 f0 f1 f2 HZ X3 hadd HFB
        go_wp2
        generalize hw5 : wr = w5 at *; clear hw5
        go_loopw [6] (fun kv wk => WordsTo p y gx w5 m kv wk) (fun kv _ => m - (intOf kv).toNat)
        case atStart => exact ⟨0, Nat.zero_le _, rfl, ⟨_, [], rfl, fun z hz => by simp at hz, HGX.out, Row.nil _ _ _ _⟩, X2.out⟩
        case round =>
          obtain ⟨j, hj, rfl, hin2, hex2⟩ := hrel
          obtain ⟨dv, zs, hzl, hzw, hB, hr⟩ := hin2.out
          obtain ⟨ba, bc, edv, _, _⟩ := hr.shape
          subst edv
          have c2 := hex2.out.cell HC2.out id
          have HBj := Lib.hid hB
          have HRj := Lib.hid hr
          have HZs := Lib.hid (And.intro hzl hzw)
          clear hin2 hB hr hzl hzw
          by_cases hlt2 : j < m
          · obtain ⟨x, hx⟩ : ∃ x, ds[j]? = some x := ⟨_, List.getElem?_eq_getElem (by rw [← EM.out]; exact hlt2)⟩
            obtain ⟨b2, off2, eda, e0⟩ := HD.out.word hx
            subst eda
            replace e0 := hex2.out.cell e0 id
            have g2 : wr.cell? ⟨gx, 2, none⟩ = some (.slice ba j bc) := by rw [HBj.out.cell']; rfl
            have g2f := HBj.out.free 2
            clear hx
            obtain ⟨fb, fw, hmul, hfb, hfw⟩ := arith_some .mul (.inr rfl) 37 x 4611686018427387904
            have HFB := Lib.hid (And.intro hfb hfw)
            clear hfb hfw
            go_wp2
            have HJ := Lib.hid (show ∀ w', Ext wr w' → (fun w' : World => w'.cell? ⟨gx, 2, none⟩ = some (.slice ba j bc) ∧ w'.cell? ⟨b, off + i * 3 + 2, none⟩ = some (.slice (some ⟨b2, off2, none⟩) m dcap) ∧ w'.cell? ⟨b2, off2 + j, none⟩ = some (.int .u64 x)) w' from fun w' hw => ⟨hw.cell g2 id, hw.cell c2 id, hw.cell e0 id⟩)
            clear g2 c2 e0
            have XM := Lib.hid (show Ext wr (fw wr.drew) from (Kp.refl wr).drew.trans (HFB.out.2 _))
            refine draw_begin (fun w' : World => w'.cell? ⟨gx, 2, none⟩ = some (.slice ba j bc) ∧ w'.cell? ⟨b, off + i * 3 + 2, none⟩ = some (.slice (some ⟨b2, off2, none⟩) m dcap) ∧ w'.cell? ⟨b2, off2 + j, none⟩ = some (.int .u64 x)) [14, 16] (by kernel_rfl) (HJ.out _ (Kp.refl wr).drew) (fun hHeld => ?_)
            (refine draw_free (i := 0) (v := ?_) rfl ?_ ?_; rotate_left; (intro w; go_simp; try with_reducible rfl)); (try simp only [Act.put, List.setIfInBounds_toArray, List.set_cons_zero, List.set_cons_succ])
            (refine draw_in (i := 1) (v := ?_) rfl ?_ ?_; rotate_left; (intro w hSw; (try dsimp only at hSw); go_simp; try with_reducible rfl)); (try simp only [Act.put, List.setIfInBounds_toArray, List.set_cons_zero, List.set_cons_succ])
            (refine draw_free (i := 2) (v := ?_) rfl ?_ ?_; rotate_left; (intro w; go_simp; try with_reducible rfl)); (try simp only [Act.put, List.setIfInBounds_toArray, List.set_cons_zero, List.set_cons_succ])
            (refine draw_free (i := 3) (v := ?_) rfl ?_ ?_; rotate_left; (intro w; go_simp; try with_reducible rfl)); (try simp only [Act.put, List.setIfInBounds_toArray, List.set_cons_zero, List.set_cons_succ])
            (refine draw_in (i := 4) (v := ?_) rfl ?_ ?_; rotate_left; (intro w hSw; (try dsimp only at hSw); go_simp; try with_reducible rfl)); (try simp only [Act.put, List.setIfInBounds_toArray, List.set_cons_zero, List.set_cons_succ])
            (refine draw_free (i := 5) (v := ?_) rfl ?_ ?_; rotate_left; (intro w; go_simp; try with_reducible rfl)); (try simp only [Act.put, List.setIfInBounds_toArray, List.set_cons_zero, List.set_cons_succ])
            (refine draw_in (i := 6) (v := ?_) rfl ?_ ?_; rotate_left; (intro w hSw; (try dsimp only at hSw); go_simp; try with_reducible rfl)); (try simp only [Act.put, List.setIfInBounds_toArray, List.set_cons_zero, List.set_cons_succ])
            (refine draw_free (i := 7) (v := ?_) rfl ?_ ?_; rotate_left; (intro w; go_simp; try with_reducible rfl)); (try simp only [Act.put, List.setIfInBounds_toArray, List.set_cons_zero, List.set_cons_succ])
            (refine draw_in (i := 8) (v := ?_) rfl ?_ ?_; rotate_left; (intro w hSw; (try dsimp only at hSw); go_simp; try with_reducible rfl)); (try simp only [Act.put, List.setIfInBounds_toArray, List.set_cons_zero, List.set_cons_succ])
            (refine draw_in (i := 9) (v := ?_) rfl ?_ ?_; rotate_left; (intro w hSw; (try dsimp only at hSw); go_simp; try with_reducible rfl)); (try simp only [Act.put, List.setIfInBounds_toArray, List.set_cons_zero, List.set_cons_succ])
            (refine draw_free (i := 10) (v := ?_) rfl ?_ ?_; rotate_left; (intro w; go_simp; try with_reducible rfl)); (try simp only [Act.put, List.setIfInBounds_toArray, List.set_cons_zero, List.set_cons_succ])
            refine draw_one (i := 11) ?_
            refine comes_turn (i := 11) rfl (fun K hK => ?_)
            go_simp
            refine hK.out _ _ ?_ (fun hHeld => ?_)
            · (try dsimp only); (first | exact HJ.out _ XM.out | exact HJ.out _ (XM.out.alloc _))
            clear hK K; (try simp only [Act.put, List.setIfInBounds_toArray, List.set_cons_zero, List.set_cons_succ])
            (refine draw_free (i := 12) (v := ?_) rfl ?_ ?_; rotate_left; (intro w; go_simp; try with_reducible rfl)); (try simp only [Act.put, List.setIfInBounds_toArray, List.set_cons_zero, List.set_cons_succ])
            refine draw_one (i := 13) ?_
            refine comes_turn (i := 13) rfl (fun K hK => ?_)
            go_simp
            refine hK.out _ _ ?_ (fun hHeld => ?_)
            · (try dsimp only); (first | exact HJ.out _ XM.out | exact HJ.out _ (XM.out.alloc _))
            clear hK K; (try simp only [Act.put, List.setIfInBounds_toArray, List.set_cons_zero, List.set_cons_succ])
            refine draw_one (i := 14) ?_
            refine comes_late (i := 14) rfl (by kernel_rfl) (fun K hK => ?_)
            refine draw_appN elem_u64 rfl _ _ rfl ((hex2.out.trans XM.out).alloc _) rfl ((HRj.out.ext XM.out).alloc _) rfl (CellsAt.one (fw wr.drew) (.int .u64 (fb wr.drew)) 50) (by rfl) (by simp [Value.oneCell']) (by omega) (by unfold maxLen; omega) ?_; intro v1 w6 hr1 hk1 hk2
            refine hK.out _ _ ?_
            clear hK K; (try simp only [Act.put, List.setIfInBounds_toArray, List.set_cons_zero, List.set_cons_succ])
            (refine draw_free (i := 15) (v := ?_) rfl ?_ ?_; rotate_left; (intro w; go_simp; try with_reducible rfl)); (try simp only [Act.put, List.setIfInBounds_toArray, List.set_cons_zero, List.set_cons_succ])
            refine draw_one (i := 16) ?_
            refine comes_late (i := 16) rfl (by kernel_rfl) (fun K hK => ?_)
            (obtain ⟨b6, c6, ev6, _, _⟩ := hr1.shape; subst ev6; have hB6 : Blk w6 gx [.string p, .int .u64 y, .slice ba j bc] 53 := ((HBj.out.ext XM.out).alloc _).kp hk2 (fun e => (by obtain ⟨cs, hb⟩ := HRj.out.blkOf e; exact typ_uk (blk_ne hb HBj.out))); have x6 : w6.cell? ⟨gx, 2, none⟩ = some (.slice ba j bc) := (by rw [hB6.cell']; rfl); have x6f := hB6.free 2; have HA := Lib.hid (And.intro hr1 (And.intro hk1 hB6)); clear hr1 hk1 hk2 hB6)
            go_simp
            refine hK.out _ _ ?_
            clear hK K; (try simp only [Act.put, List.setIfInBounds_toArray, List.set_cons_zero, List.set_cons_succ])
            refine wpAnyD_done (by kernel_rfl) ?_ _
            obtain ⟨hr1, hk1, hB6⟩ := HA.out
            obtain ⟨w7, ew7⟩ : ∃ w7, w6.setCell ⟨gx, 2, none⟩ (.slice b6 (j + 1) c6) = w7 := ⟨_, rfl⟩
            have hk67 : Kp (fun k => k = gx) w6 w7 := by rw [← ew7]; exact Kp.setCell (F := fun k => k = gx) (Kp.refl w6) (fun _ => rfl) _
            have hB7 : Blk w7 gx [.string p, .int .u64 y, .slice b6 (j + 1) c6] 53 := by rw [← ew7]; exact hB6.set 2 _
            have hx7 : Ext w5 w7 := by rw [← ew7]; exact Kp.setCell (F := fun _ => False) hk1 (fun h => by have := EGX.out; simp only at h; omega) _
            have hr7 := hr1.kp' hk67 fun g hg _ e => by
              obtain ⟨cs, hb⟩ := hr1.blkOf hg
              subst e
              exact typ_uk (blk_ne hb hB6)
            have e7 : words (zs ++ [fb wr.drew]) = words zs ++ [.int .u64 (fb wr.drew)] := by simp [words]
            rw [← e7] at hr7
            clear e7
            have HFin := Lib.hid (show ∃ (dv : Value) (zs : List Nat), zs.length = j + 1 ∧ (∀ z ∈ zs, z < 18446744073709551616) ∧ Blk w7 gx [.string p, .int .u64 y, dv] 53 ∧ Row w7 50 1 dv (j + 1) (words zs) (New w5) from ⟨_, _, by rw [List.length_append, HZs.out.1]; rfl, fun z hz => by
              rcases List.mem_append.1 hz with hz | hz
              · exact HZs.out.2 z hz
              · rw [List.mem_singleton] at hz; subst hz; exact HFB.out.1 _, hB7, hr7⟩)
            have HX7 := Lib.hid hx7
            rw [ew7]
            clear hr1 hk1 hB6 hk67 hB7 hx7 hr7 g2f x6 x6f HA ew7 hHeld hmul HFB
            go_wp2
            go_roundw
            case rel => exact ⟨j + 1, by omega, by first | rfl | (congr 1; done) | (congr 1; omega), HFin.out, HX7.out⟩
            case measure => simp [intOf]; omega
          · obtain rfl : j = m := by omega
            obtain ⟨T, vs, hT, hvs, hrow, hds, hal⟩ := hin.out
            obtain ⟨oa, oc, eov, _, _⟩ := hrow.shape
            subst eov
            have l0 : wr.cell? ⟨gx, 0, none⟩ = some (.string p) := by rw [HBj.out.cell']; rfl
            have l1 : wr.cell? ⟨gx, 1, none⟩ = some (.int .u64 y) := by rw [HBj.out.cell']; rfl
            have l2 : wr.cell? ⟨gx, 2, none⟩ = some (.slice ba j bc) := by rw [HBj.out.cell']; rfl
            have HRo := Lib.hid (hrow.ext hex2.out)
            have HDs := Lib.hid (And.intro hvs (And.intro hT (And.intro hal (fun x hx => Row.ext (hds x hx) hex2.out))))
            have hXw := hex.out.trans hex2.out
            clear hvs hT hrow hds hal hin
            go_wp2_with (first | (at_builtin; refine Halted.out ?_))
            refine Halted.mk (wp_appN (m := 1) (n := i) elem_known rfl _ _ rfl (hXw.alloc _) rfl (HRo.out.alloc _) rfl (CellsAt.new wr [.string p, .int .u64 y, .slice ba j bc] 53) (by rfl) (by simp [Value.oneCell']) (by omega) (by unfold maxLen; omega) ?_)
            intro v1 w6 hr1 hk1 hk2 _
            have HFin := Lib.hid (show ∃ (T : List StatZ) (vs : List (Option Addr × Nat)), T.length = i + 1 ∧ vs.length = i + 1 ∧ Row w6 53 3 v1 (i + 1) ((T.zip vs).flatMap knownC) (New w) ∧ (∀ x ∈ T.zip vs, WordsAt w w6 x) ∧ AlikeTo S T (i + 1) by
              have hlen : T.length = vs.length := by rw [HDs.out.1, HDs.out.2.1]
              have hkd : ∀ x, WordsAt w (wr.alloc (.cells #[.string p, .int .u64 y, .slice ba j bc] 53)) x → WordsAt w w6 x := fun x hx => Row.kp' hx hk2 fun g hg _ e => by
                obtain ⟨cs, hb⟩ := (HRo.out.alloc _).blkOf e
                obtain ⟨cs', hb'⟩ := Row.blkOf hx hg
                exact typ_uk (blk_ne hb' hb)
              refine ⟨T ++ [(p, y, zs, ())], vs ++ [(ba, bc)], by rw [List.length_append, HDs.out.2.1]; rfl, by rw [List.length_append, HDs.out.1]; rfl, ?_, ?_, ?_⟩
              · rw [List.zip_append hlen, List.flatMap_append]
                have e2 : (([((p, y, zs, ()) : StatZ)].zip [(ba, bc)]).flatMap knownC) = [.string p, .int .u64 y, .slice ba j bc] := by
                  show [Value.string p, .int .u64 y, .slice ba zs.length bc] ++ [] = _
                  rw [List.append_nil, HZs.out.1]
                rw [e2]; exact hr1
              · intro x hx
                rw [List.zip_append hlen, List.mem_append] at hx
                rcases hx with hx | hx
                · exact hkd _ (Row.alloc (HDs.out.2.2.2 x hx) _)
                · simp at hx; subst hx
                  refine hkd _ (Row.alloc (show Row wr 50 1 (.slice ba zs.length bc) zs.length (words zs) (New w) from ?_) _)
                  rw [HZs.out.1]
                  exact HRj.out.mono (M' := New w) fun g hg => Nat.le_trans hex.out.size hg
              · refine AlikeTo.snoc HDs.out.2.2.1 HDs.out.2.1 HS.out.1 ⟨HS.out.2.1, ?_, HY.out, HZs.out.2⟩
                show zs.length = _
                rw [HZs.out.1, EM.out, HS.out.2.2])
            have HX6 := Lib.hid hk1
            clear hr1 hk1 hk2 l0 l1 l2 hXw c2
            go_wp2
            go_roundw
            case rel => exact ⟨i + 1, by omega, by first | rfl | (congr 1; done) | (congr 1; omega), HFin.out, HX6.out⟩
            case measure => simp [intOf]; omega
      · refine comes_turn (i := 14) rfl (fun K hK => ?_)
        go_simp
        refine hK.out _ _ ?_ (fun hHeld => ?_)
        · (try dsimp only); (first | exact HCells.out _ ((Kp.refl wr).drew.trans (HFB.out.2 _)) | exact HCells.out _ ((Kp.refl wr).alloc _).drew | exact HCells.out _ (((Kp.refl wr).drew.trans (HFB.out.2 _)).alloc _) | exact HCells.out _ ((((Kp.refl wr).alloc _).drew).trans (HFB.out.2 _)))
        clear hK K; (try simp only [Act.put, List.setIfInBounds_toArray, List.set_cons_zero, List.set_cons_succ])
        refine draw_one (i := 11) ?_
        refine comes_turn (i := 11) rfl (fun K hK => ?_)
        go_simp
        refine hK.out _ _ ?_ (fun hHeld => ?_)
        · (try dsimp only); (first | exact HCells.out _ ((Kp.refl wr).drew.trans (HFB.out.2 _)) | exact HCells.out _ ((Kp.refl wr).alloc _).drew | exact HCells.out _ (((Kp.refl wr).drew.trans (HFB.out.2 _)).alloc _) | exact HCells.out _ ((((Kp.refl wr).alloc _).drew).trans (HFB.out.2 _)))
        clear hK K; (try simp only [Act.put, List.setIfInBounds_toArray, List.set_cons_zero, List.set_cons_succ])
        (refine draw_free (i := 12) (v := ?_) rfl ?_ ?_; rotate_left; (intro w; go_simp; try with_reducible rfl)); (try simp only [Act.put, List.setIfInBounds_toArray, List.set_cons_zero, List.set_cons_succ])
        (refine draw_free (i := 13) (v := ?_) rfl ?_ ?_; rotate_left; (intro w; go_simp; try with_reducible rfl)); (try simp only [Act.put, List.setIfInBounds_toArray, List.set_cons_zero, List.set_cons_succ])
        refine draw_one (i := 15) ?_
        refine comes_late (i := 15) rfl (by kernel_rfl) (fun K hK => ?_)
        ((first | (obtain ⟨w3, e3⟩ : ∃ x, (fw wr.drew).alloc (.cells #[.string ⟨#[]⟩, .int .u64 0, .slice none 0 0] 53) = x := ⟨_, rfl⟩; rw [e3]; obtain ⟨gx, eg⟩ : ∃ g, g = (fw wr.drew).heap.size := ⟨_, rfl⟩; rw [← eg]; obtain ⟨y, ey⟩ : ∃ y, fb wr.drew = y := ⟨_, rfl⟩; rw [ey]; have HZ := Lib.hid (show Blk w3 gx [.string ⟨#[]⟩, .int .u64 0, .slice none 0 0] 53 from (by rw [← e3, eg]; exact Blk.new _ _ _)); have X3 := Lib.hid (show Ext wr w3 from (by rw [← e3]; exact ((Kp.refl wr).drew.trans (HFB.out.2 _)).alloc _)); have EGX := Lib.hid (show wr.heap.size ≤ gx from (by rw [eg]; exact ((Kp.refl (F := fun _ => False) wr).drew.trans (HFB.out.2 _)).size))) | (obtain ⟨w3, e3⟩ : ∃ x, fw ((wr.alloc (.cells #[.string ⟨#[]⟩, .int .u64 0, .slice none 0 0] 53)).drew) = x := ⟨_, rfl⟩; rw [e3]; obtain ⟨gx, eg⟩ : ∃ g, g = wr.heap.size := ⟨_, rfl⟩; rw [← eg]; obtain ⟨y, ey⟩ : ∃ y, fb ((wr.alloc (.cells #[.string ⟨#[]⟩, .int .u64 0, .slice none 0 0] 53)).drew) = y := ⟨_, rfl⟩; rw [ey]; have HZ := Lib.hid (show Blk w3 gx [.string ⟨#[]⟩, .int .u64 0, .slice none 0 0] 53 from (by rw [← e3, eg]; exact ((Blk.new wr _ _).drew).ext (HFB.out.2 _))); have X3 := Lib.hid (show Ext wr w3 from (by rw [← e3]; exact (((Kp.refl wr).alloc _).drew).trans (HFB.out.2 _))); have EGX := Lib.hid (show wr.heap.size ≤ gx from (by rw [eg]; exact Nat.le_refl _)))); have HY := Lib.hid (show y < 18446744073709551616 from (by rw [← ey]; exact HFB.out.1 _)); clear e3 eg ey; have z0 : w3.cell? ⟨gx, 0, none⟩ = some (.string ⟨#[]⟩) := (by rw [HZ.out.cell']; rfl); have z1 : w3.cell? ⟨gx, 1, none⟩ = some (.int .u64 0) := (by rw [HZ.out.cell']; rfl); have z2 : w3.cell? ⟨gx, 2, none⟩ = some (.slice none 0 0) := (by rw [HZ.out.cell']; rfl); have f0 := HZ.out.free 0; have f1 := HZ.out.free 1; have f2 := HZ.out.free 2)
        go_simp
        refine hK.out _ _ ?_
        clear hK K; (try simp only [Act.put, List.setIfInBounds_toArray, List.set_cons_zero, List.set_cons_succ])
        refine wpAnyD_done (by kernel_rfl) ?_ _
        obtain ⟨w2, ew2⟩ : ∃ x, ((w3.setCell ⟨gx, 0, none⟩ (.string p)).setCell ⟨gx, 1, none⟩ (.int .u64 y)).setCell ⟨gx, 2, none⟩ (.slice none 0 0) = x := ⟨_, rfl⟩
        rw [ew2]
        have HGX := Lib.hid (show Blk w2 gx [.string p, .int .u64 y, .slice none 0 0] 53 by rw [← ew2]; exact ((HZ.out.set 0 _).set 1 _).set 2 _)
        have X2 := Lib.hid (show Ext wr w2 from by
          rw [← ew2]
          have hno : ∀ c, (⟨gx, c, none⟩ : Addr).block < wr.heap.size → False := fun c h => by have := EGX.out; simp only at h; omega
          exact ((X3.out.setCell (fun h => hno 0 h) _).setCell (fun h => hno 1 h) _).setCell (fun h => hno 2 h) _)
        clear ew2 hHeld z0 z1 z2 f0 f1 f2 HZ X3 hadd HFB
        go_wp2
        generalize hw5 : wr = w5 at *; clear hw5
        go_loopw [6] (fun kv wk => WordsTo p y gx w5 m kv wk) (fun kv _ => m - (intOf kv).toNat)
        case atStart => exact ⟨0, Nat.zero_le _, rfl, ⟨_, [], rfl, fun z hz => by simp at hz, HGX.out, Row.nil _ _ _ _⟩, X2.out⟩
        case round =>
          obtain ⟨j, hj, rfl, hin2, hex2⟩ := hrel
          obtain ⟨dv, zs, hzl, hzw, hB, hr⟩ := hin2.out
          obtain ⟨ba, bc, edv, _, _⟩ := hr.shape
          subst edv
          have c2 := hex2.out.cell HC2.out id
          have HBj := Lib.hid hB
          have HRj := Lib.hid hr
          have HZs := Lib.hid (And.intro hzl hzw)
          clear hin2 hB hr hzl hzw
          by_cases hlt2 : j < m
          · obtain ⟨x, hx⟩ : ∃ x, ds[j]? = some x := ⟨_, List.getElem?_eq_getElem (by rw [← EM.out]; exact hlt2)⟩
            obtain ⟨b2, off2, eda, e0⟩ := HD.out.word hx
            subst eda
            replace e0 := hex2.out.cell e0 id
            have g2 : wr.cell? ⟨gx, 2, none⟩ = some (.slice ba j bc) := by rw [HBj.out.cell']; rfl
            have g2f := HBj.out.free 2
            clear hx
            obtain ⟨fb, fw, hmul, hfb, hfw⟩ := arith_some .mul (.inr rfl) 37 x 4611686018427387904
            have HFB := Lib.hid (And.intro hfb hfw)
            clear hfb hfw
            go_wp2
            have HJ := Lib.hid (show ∀ w', Ext wr w' → (fun w' : World => w'.cell? ⟨gx, 2, none⟩ = some (.slice ba j bc) ∧ w'.cell? ⟨b, off + i * 3 + 2, none⟩ = some (.slice (some ⟨b2, off2, none⟩) m dcap) ∧ w'.cell? ⟨b2, off2 + j, none⟩ = some (.int .u64 x)) w' from fun w' hw => ⟨hw.cell g2 id, hw.cell c2 id, hw.cell e0 id⟩)
            clear g2 c2 e0
            have XM := Lib.hid (show Ext wr (fw wr.drew) from (Kp.refl wr).drew.trans (HFB.out.2 _))
            refine draw_begin (fun w' : World => w'.cell? ⟨gx, 2, none⟩ = some (.slice ba j bc) ∧ w'.cell? ⟨b, off + i * 3 + 2, none⟩ = some (.slice (some ⟨b2, off2, none⟩) m dcap) ∧ w'.cell? ⟨b2, off2 + j, none⟩ = some (.int .u64 x)) [14, 16] (by kernel_rfl) (HJ.out _ (Kp.refl wr).drew) (fun hHeld => ?_)
            (refine draw_free (i := 0) (v := ?_) rfl ?_ ?_; rotate_left; (intro w; go_simp; try with_reducible rfl)); (try simp only [Act.put, List.setIfInBounds_toArray, List.set_cons_zero, List.set_cons_succ])
            (refine draw_in (i := 1) (v := ?_) rfl ?_ ?_; rotate_left; (intro w hSw; (try dsimp only at hSw); go_simp; try with_reducible rfl)); (try simp only [Act.put, List.setIfInBounds_toArray, List.set_cons_zero, List.set_cons_succ])
            (refine draw_free (i := 2) (v := ?_) rfl ?_ ?_; rotate_left; (intro w; go_simp; try with_reducible rfl)); (try simp only [Act.put, List.setIfInBounds_toArray, List.set_cons_zero, List.set_cons_succ])
            (refine draw_free (i := 3) (v := ?_) rfl ?_ ?_; rotate_left; (intro w; go_simp; try with_reducible rfl)); (try simp only [Act.put, List.setIfInBounds_toArray, List.set_cons_zero, List.set_cons_succ])
            (refine draw_in (i := 4) (v := ?_) rfl ?_ ?_; rotate_left; (intro w hSw; (try dsimp only at hSw); go_simp; try with_reducible rfl)); (try simp only [Act.put, List.setIfInBounds_toArray, List.set_cons_zero, List.set_cons_succ])
            (refine draw_free (i := 5) (v := ?_) rfl ?_ ?_; rotate_left; (intro w; go_simp; try with_reducible rfl)); (try simp only [Act.put, List.setIfInBounds_toArray, List.set_cons_zero, List.set_cons_succ])
            (refine draw_in (i := 6) (v := ?_) rfl ?_ ?_; rotate_left; (intro w hSw; (try dsimp only at hSw); go_simp; try with_reducible rfl)); (try simp only [Act.put, List.setIfInBounds_toArray, List.set_cons_zero, List.set_cons_succ])
            (refine draw_free (i := 7) (v := ?_) rfl ?_ ?_; rotate_left; (intro w; go_simp; try with_reducible rfl)); (try simp only [Act.put, List.setIfInBounds_toArray, List.set_cons_zero, List.set_cons_succ])
            (refine draw_in (i := 8) (v := ?_) rfl ?_ ?_; rotate_left; (intro w hSw; (try dsimp only at hSw); go_simp; try with_reducible rfl)); (try simp only [Act.put, List.setIfInBounds_toArray, List.set_cons_zero, List.set_cons_succ])
            (refine draw_in (i := 9) (v := ?_) rfl ?_ ?_; rotate_left; (intro w hSw; (try dsimp only at hSw); go_simp; try with_reducible rfl)); (try simp only [Act.put, List.setIfInBounds_toArray, List.set_cons_zero, List.set_cons_succ])
            (refine draw_free (i := 10) (v := ?_) rfl ?_ ?_; rotate_left; (intro w; go_simp; try with_reducible rfl)); (try simp only [Act.put, List.setIfInBounds_toArray, List.set_cons_zero, List.set_cons_succ])
            refine draw_one (i := 11) ?_
            refine comes_turn (i := 11) rfl (fun K hK => ?_)
            go_simp
            refine hK.out _ _ ?_ (fun hHeld => ?_)
            · (try dsimp only); (first | exact HJ.out _ XM.out | exact HJ.out _ (XM.out.alloc _))
            clear hK K; (try simp only [Act.put, List.setIfInBounds_toArray, List.set_cons_zero, List.set_cons_succ])
            (refine draw_free (i := 12) (v := ?_) rfl ?_ ?_; rotate_left; (intro w; go_simp; try with_reducible rfl)); (try simp only [Act.put, List.setIfInBounds_toArray, List.set_cons_zero, List.set_cons_succ])
            refine draw_one (i := 13) ?_
            refine comes_turn (i := 13) rfl (fun K hK => ?_)
            go_simp
            refine hK.out _ _ ?_ (fun hHeld => ?_)
            · (try dsimp only); (first | exact HJ.out _ XM.out | exact HJ.out _ (XM.out.alloc _))
            clear hK K; (try simp only [Act.put, List.setIfInBounds_toArray, List.set_cons_zero, List.set_cons_succ])
            refine draw_one (i := 14) ?_
            refine comes_late (i := 14) rfl (by kernel_rfl) (fun K hK => ?_)
            refine draw_appN elem_u64 rfl _ _ rfl ((hex2.out.trans XM.out).alloc _) rfl ((HRj.out.ext XM.out).alloc _) rfl (CellsAt.one (fw wr.drew) (.int .u64 (fb wr.drew)) 50) (by rfl) (by simp [Value.oneCell']) (by omega) (by unfold maxLen; omega) ?_; intro v1 w6 hr1 hk1 hk2
            refine hK.out _ _ ?_
            clear hK K; (try simp only [Act.put, List.setIfInBounds_toArray, List.set_cons_zero, List.set_cons_succ])
            (refine draw_free (i := 15) (v := ?_) rfl ?_ ?_; rotate_left; (intro w; go_simp; try with_reducible rfl)); (try simp only [Act.put, List.setIfInBounds_toArray, List.set_cons_zero, List.set_cons_succ])
            refine draw_one (i := 16) ?_
            refine comes_late (i := 16) rfl (by kernel_rfl) (fun K hK => ?_)
            (obtain ⟨b6, c6, ev6, _, _⟩ := hr1.shape; subst ev6; have hB6 : Blk w6 gx [.string p, .int .u64 y, .slice ba j bc] 53 := ((HBj.out.ext XM.out).alloc _).kp hk2 (fun e => (by obtain ⟨cs, hb⟩ := HRj.out.blkOf e; exact typ_uk (blk_ne hb HBj.out))); have x6 : w6.cell? ⟨gx, 2, none⟩ = some (.slice ba j bc) := (by rw [hB6.cell']; rfl); have x6f := hB6.free 2; have HA := Lib.hid (And.intro hr1 (And.intro hk1 hB6)); clear hr1 hk1 hk2 hB6)
            go_simp
            refine hK.out _ _ ?_
            clear hK K; (try simp only [Act.put, List.setIfInBounds_toArray, List.set_cons_zero, List.set_cons_succ])
            refine wpAnyD_done (by kernel_rfl) ?_ _
            obtain ⟨hr1, hk1, hB6⟩ := HA.out
            obtain ⟨w7, ew7⟩ : ∃ w7, w6.setCell ⟨gx, 2, none⟩ (.slice b6 (j + 1) c6) = w7 := ⟨_, rfl⟩
            have hk67 : Kp (fun k => k = gx) w6 w7 := by rw [← ew7]; exact Kp.setCell (F := fun k => k = gx) (Kp.refl w6) (fun _ => rfl) _
            have hB7 : Blk w7 gx [.string p, .int .u64 y, .slice b6 (j + 1) c6] 53 := by rw [← ew7]; exact hB6.set 2 _
            have hx7 : Ext w5 w7 := by rw [← ew7]; exact Kp.setCell (F := fun _ => False) hk1 (fun h => by have := EGX.out; simp only at h; omega) _
            have hr7 := hr1.kp' hk67 fun g hg _ e => by
              obtain ⟨cs, hb⟩ := hr1.blkOf hg
              subst e
              exact typ_uk (blk_ne hb hB6)
            have e7 : words (zs ++ [fb wr.drew]) = words zs ++ [.int .u64 (fb wr.drew)] := by simp [words]
            rw [← e7] at hr7
            clear e7
            have HFin := Lib.hid (show ∃ (dv : Value) (zs : List Nat), zs.length = j + 1 ∧ (∀ z ∈ zs, z < 18446744073709551616) ∧ Blk w7 gx [.string p, .int .u64 y, dv] 53 ∧ Row w7 50 1 dv (j + 1) (words zs) (New w5) from ⟨_, _, by rw [List.length_append, HZs.out.1]; rfl, fun z hz => by
              rcases List.mem_append.1 hz with hz | hz
              · exact HZs.out.2 z hz
              · rw [List.mem_singleton] at hz; subst hz; exact HFB.out.1 _, hB7, hr7⟩)
            have HX7 := Lib.hid hx7
            rw [ew7]
            clear hr1 hk1 hB6 hk67 hB7 hx7 hr7 g2f x6 x6f HA ew7 hHeld hmul HFB
            go_wp2
            go_roundw
            case rel => exact ⟨j + 1, by omega, by first | rfl | (congr 1; done) | (congr 1; omega), HFin.out, HX7.out⟩
            case measure => simp [intOf]; omega
          · obtain rfl : j = m := by omega
            obtain ⟨T, vs, hT, hvs, hrow, hds, hal⟩ := hin.out
            obtain ⟨oa, oc, eov, _, _⟩ := hrow.shape
            subst eov
            have l0 : wr.cell? ⟨gx, 0, none⟩ = some (.string p) := by rw [HBj.out.cell']; rfl
            have l1 : wr.cell? ⟨gx, 1, none⟩ = some (.int .u64 y) := by rw [HBj.out.cell']; rfl
            have l2 : wr.cell? ⟨gx, 2, none⟩ = some (.slice ba j bc) := by rw [HBj.out.cell']; rfl
            have HRo := Lib.hid (hrow.ext hex2.out)
            have HDs := Lib.hid (And.intro hvs (And.intro hT (And.intro hal (fun x hx => Row.ext (hds x hx) hex2.out))))
            have hXw := hex.out.trans hex2.out
            clear hvs hT hrow hds hal hin
            go_wp2_with (first | (at_builtin; refine Halted.out ?_))
            refine Halted.mk (wp_appN (m := 1) (n := i) elem_known rfl _ _ rfl (hXw.alloc _) rfl (HRo.out.alloc _) rfl (CellsAt.new wr [.string p, .int .u64 y, .slice ba j bc] 53) (by rfl) (by simp [Value.oneCell']) (by omega) (by unfold maxLen; omega) ?_)
            intro v1 w6 hr1 hk1 hk2 _
            have HFin := Lib.hid (show ∃ (T : List StatZ) (vs : List (Option Addr × Nat)), T.length = i + 1 ∧ vs.length = i + 1 ∧ Row w6 53 3 v1 (i + 1) ((T.zip vs).flatMap knownC) (New w) ∧ (∀ x ∈ T.zip vs, WordsAt w w6 x) ∧ AlikeTo S T (i + 1) by
              have hlen : T.length = vs.length := by rw [HDs.out.1, HDs.out.2.1]
              have hkd : ∀ x, WordsAt w (wr.alloc (.cells #[.string p, .int .u64 y, .slice ba j bc] 53)) x → WordsAt w w6 x := fun x hx => Row.kp' hx hk2 fun g hg _ e => by
                obtain ⟨cs, hb⟩ := (HRo.out.alloc _).blkOf e
                obtain ⟨cs', hb'⟩ := Row.blkOf hx hg
                exact typ_uk (blk_ne hb' hb)
              refine ⟨T ++ [(p, y, zs, ())], vs ++ [(ba, bc)], by rw [List.length_append, HDs.out.2.1]; rfl, by rw [List.length_append, HDs.out.1]; rfl, ?_, ?_, ?_⟩
              · rw [List.zip_append hlen, List.flatMap_append]
                have e2 : (([((p, y, zs, ()) : StatZ)].zip [(ba, bc)]).flatMap knownC) = [.string p, .int .u64 y, .slice ba j bc] := by
                  show [Value.string p, .int .u64 y, .slice ba zs.length bc] ++ [] = _
                  rw [List.append_nil, HZs.out.1]
                rw [e2]; exact hr1
              · intro x hx
                rw [List.zip_append hlen, List.mem_append] at hx
                rcases hx with hx | hx
                · exact hkd _ (Row.alloc (HDs.out.2.2.2 x hx) _)
                · simp at hx; subst hx
                  refine hkd _ (Row.alloc (show Row wr 50 1 (.slice ba zs.length bc) zs.length (words zs) (New w) from ?_) _)
                  rw [HZs.out.1]
                  exact HRj.out.mono (M' := New w) fun g hg => Nat.le_trans hex.out.size hg
              · refine AlikeTo.snoc HDs.out.2.2.1 HDs.out.2.1 HS.out.1 ⟨HS.out.2.1, ?_, HY.out, HZs.out.2⟩
                show zs.length = _
                rw [HZs.out.1, EM.out, HS.out.2.2])
            have HX6 := Lib.hid hk1
            clear hr1 hk1 hk2 l0 l1 l2 hXw c2
            go_wp2
            go_roundw
            case rel => exact ⟨i + 1, by omega, by first | rfl | (congr 1; done) | (congr 1; omega), HFin.out, HX6.out⟩
            case measure => simp [intOf]; omega
    · obtain rfl : i = n := by omega
      obtain ⟨T, vs, hT, hvs, hrow, hds, hal⟩ := hin.out
      obtain ⟨oa, oc, eov, h2, h1, h3⟩ := hrow.cap
      have HSt := Lib.hid (And.intro (known_cells (hvs.trans hT.symm) hrow hds eov) (And.intro hT hal))
      subst eov
      clear hvs hT hrow hds hin hal h2
      go_wp2
      go_ret
      exact RetN.mk hex.out ⟨_, _, T, rfl, h1, h3, HSt.out.2.1, HSt.out.1, HSt.out.2.2⟩
end Go.Proofs.Ytcphalpcdcddpaa

/- The law of costs: memory of one's own that is written over: copy, counts one by one. -/
namespace Go.Proofs.Ytcphalpcdcddpaa
open Go.RowKit
set_option linter.unusedVariables false

section
variable {P : Program} {w : World} {t e : TypeId} {bytes : Nat} {z : Value}
theorem blk_setRow {g : Nat} {cur cs : List Value} (h : Blk w g cur e) : Blk (w.setRow g cs.toArray) g cs e := setRow_heap w g _ _ e _ h
theorem kp_setRow (g : Nat) (cs : Array Value) : Kp (fun k => k = g) w (w.setRow g cs) :=
  ⟨rfl, rfl, rfl, by simp [World.setRow], fun k _ hf => setRow_other w g k cs hf⟩
/-- copy(d, s) into a known block. -/
theorem run_copyB (E : ElemT P t e 1 bytes z) {g off dLen dCap : Nat} {cur : List Value} {e' : TypeId} (hB : Blk w g cur e') {dp sp : Option Addr} {sLen sCap : Nat}
    {cs : List Value} (hl : cs.length = Nat.min sLen dLen) (hdp : 0 < cs.length → dp = some ⟨g, off, none⟩) (hsrc : CellsAt w sp cs) (hfit : off + cs.length ≤ cur.length) (h1 : ∀ u ∈ cs, u.oneCell' = true) :
    ∃ w', (∀ ty, (Builtin.copy_ #[t, t] ty #[.slice dp dLen dCap, .slice sp sLen sCap]).run P w = .ok (goInt cs.length) w') ∧ Kp (fun k => k = g) w w' ∧ Blk w' g (splice cur off cs) e' := by
  obtain ⟨ht, hi, hz, hk⟩ := E
  obtain ⟨i, hi, hz1, hz2, hz3⟩ := info_parts hi
  have hsz : (P.info? e).map (·.size) = some 1 := by rw [hi]; simp [hz2]
  by_cases h0 : cs.length = 0
  · obtain rfl : cs = [] := List.eq_nil_of_length_eq_zero h0
    exact ⟨w, fun ty => run_copy_none (P := P) w t t ty e dp sp dLen dCap sLen sCap ht hsz (by simpa using hl.symm), Kp.refl w, hB.congrL (by simp [splice])⟩
  · have hdp := hdp (by omega)
    subst hdp
    obtain ⟨b, off', rfl, hlt⟩ := hsrc.off (by rintro rfl; simp at h0)
    have hb := blk_setRow (cs := cur.take off ++ (cs ++ cur.drop (off + cs.length))) hB
    refine ⟨_, fun ty => run_copy_row (P := P) w t t ty e g off dLen dCap ⟨b, off', none⟩ sLen sCap cur.toArray e' cs ht hsz hB hl (fun j v hj => ?_) (by simpa using hfit) h1, kp_setRow g _, by simpa [splice] using hb⟩
    obtain ⟨b', o', he, hc⟩ := hsrc j v hj
    cases he
    rw [Addr.add_lit]; exact hc
end

/-- Numbers with a mark, all of them written over. -/
theorem IntsM.copied {w0 w w' : World} {g n cap : Nat} {xs ys : List Int} (h : IntsM w0 w g n cap xs) (hl : ys.length = n) (hB : ∀ cur, Blk w g cur 3 → Blk w' g (splice cur 0 (ints ys)) 3) : IntsM w0 w' g n cap ys := by
  obtain ⟨rest, hn, h1, h2, hg, hb, hlen⟩ := h
  have hb' := hB _ hb
  have e : splice (ints (xs ++ [-77]) ++ rest) 0 (ints ys) = ints (ys ++ [-77]) ++ rest := by
    unfold splice
    have h1 : ints (xs ++ [-77]) = ints xs ++ ints [-77] := by simp [ints]
    have h2 : ints (ys ++ [-77]) = ints ys ++ ints [-77] := by simp [ints]
    have h3 : (ints xs).length = (ints ys).length := by rw [ints_len, ints_len, hl, hn]
    rw [h1, h2, List.take_zero, List.nil_append, Nat.zero_add, List.append_assoc, ← h3, List.drop_left, List.append_assoc]
  rw [e] at hb'
  refine ⟨rest, hl.symm, h1, h2, hg, hb', ?_⟩
  rw [← hlen]
  simp only [List.length_append, ints_len, hl, hn, List.length_cons, List.length_nil]

/-- What is known in memory of its own, by what lies where. -/
structure StatsZ (w0 w : World) (g n cap : Nat) (Z : List (StatZ × (Nat × Nat))) : Prop where
  body : ∃ rest : List Value, n = Z.length ∧ n + 1 ≤ cap ∧ cap ≤ maxLen ∧ w0.heap.size ≤ g ∧ (Z.map (·.2.1)).Nodup ∧ Blk w g (Z.flatMap statM ++ (markS ++ rest)) 56 ∧ ∀ x ∈ Z, DistM w0 w x
theorem StatsZ.m {w0 w : World} {g n cap : Nat} {Z : List (StatZ × (Nat × Nat))} (h : StatsZ w0 w g n cap Z) : StatsM w0 w g n cap (Z.map (·.1)) := by
  obtain ⟨rest, h1, h2, h3, h4, h5, h6, h7⟩ := h.body
  have e : (Z.map (·.1)).zip (Z.map (·.2)) = Z := by
    rw [List.zip_map']; simp
  exact ⟨rest, Z.map (·.2), by rw [List.length_map]; exact h1, h2, h3, h4, by rw [List.length_map, List.length_map], by rw [List.map_map]; exact h5, by rw [e]; exact h6, by rw [e]; exact h7⟩
theorem StatsM.z {w0 w : World} {g n cap : Nat} {S : List StatZ} (h : StatsM w0 w g n cap S) : ∃ Z, Z.map (·.1) = S ∧ StatsZ w0 w g n cap Z := by
  obtain ⟨rest, vs, h1, h2, h3, h4, h5, h6, h7, h8⟩ := h.body
  refine ⟨S.zip vs, List.map_fst_zip (by omega), rest, by rw [List.length_zip, h5, Nat.min_self, h1], h2, h3, h4, ?_, h7, h8⟩
  have e : (S.zip vs).map (·.2.1) = ((S.zip vs).map (·.2)).map (·.1) := by rw [List.map_map]; rfl
  rw [e, List.map_snd_zip (by omega)]; exact h6
/-- The blocks in which it lies. -/
def blksZ (g : Nat) (vs : List (Nat × Nat)) (k : Nat) : Prop := k = g ∨ ∃ v ∈ vs, v.1 = k
theorem StatsZ.kp {F : Nat → Prop} {w0 w w' : World} {g n cap : Nat} {Z : List (StatZ × (Nat × Nat))} (h : StatsZ w0 w g n cap Z) (hk : Kp F w w') (hF : ∀ k, blksZ g (Z.map (·.2)) k → ¬ F k) : StatsZ w0 w' g n cap Z := by
  obtain ⟨rest, h1, h2, h3, h4, h5, h6, h7⟩ := h.body
  exact ⟨rest, h1, h2, h3, h4, h5, h6.kp hk (hF g (.inl rfl)), fun x hx => (h7 x hx).kp hk (hF _ (.inr ⟨x.2, List.mem_map.2 ⟨x, hx, rfl⟩, rfl⟩))⟩
theorem StatsZ.lt {w0 w : World} {g n cap : Nat} {Z : List (StatZ × (Nat × Nat))} (h : StatsZ w0 w g n cap Z) : ∀ k, blksZ g (Z.map (·.2)) k → k < w.heap.size ∧ w0.heap.size ≤ k := by
  obtain ⟨rest, h1, h2, h3, h4, h5, h6, h7⟩ := h.body
  rintro k (rfl | ⟨v, hv, rfl⟩)
  · exact ⟨h6.lt, h4⟩
  · obtain ⟨x, hx, rfl⟩ := List.mem_map.1 hv
    obtain ⟨cs, hb⟩ := (h7 x hx).blk
    obtain ⟨_, _, _, h, _⟩ := h7 x hx
    exact ⟨hb.lt, h⟩
theorem StatsZ.ty {w0 w : World} {g n cap : Nat} {Z : List (StatZ × (Nat × Nat))} (h : StatsZ w0 w g n cap Z) : ∀ k, blksZ g (Z.map (·.2)) k → ∃ cs e, Blk w k cs e ∧ (e = 56 ∨ e = 37) := by
  obtain ⟨rest, h1, h2, h3, h4, h5, h6, h7⟩ := h.body
  rintro k (rfl | ⟨v, hv, rfl⟩)
  · exact ⟨_, _, h6, .inl rfl⟩
  · obtain ⟨x, hx, rfl⟩ := List.mem_map.1 hv
    obtain ⟨cs, hb⟩ := (h7 x hx).blk
    exact ⟨cs, _, hb, .inr rfl⟩

theorem flat_set {α : Type} (f : α → List Value) (k : Nat) (hk : ∀ x, (f x).length = k) : ∀ (L : List α) (i : Nat) (x y : α) (c : Nat) (v : Value), L[i]? = some x → c < k → f y = (f x).set c v → (L.flatMap f).set (i * k + c) v = (L.set i y).flatMap f
  | a :: L, 0, x, y, c, v, hi, hc, he => by
    cases hi
    rw [List.flatMap_cons, List.set_cons_zero, List.flatMap_cons, he, Nat.zero_mul, Nat.zero_add, List.set_append_left _ _ (by rw [hk]; exact hc)]
  | a :: L, i + 1, x, y, c, v, hi, hc, he => by
    have hi' : L[i]? = some x := by simpa using hi
    rw [List.flatMap_cons, List.set_cons_succ, List.flatMap_cons, ← flat_set f k hk L i x y c v hi' hc he, List.set_append_right _ _ (by rw [hk, Nat.succ_mul]; omega)]
    congr 2
    rw [hk, Nat.succ_mul]; omega

theorem set_same {α : Type} {xs : List α} {i : Nat} {x : α} (h : xs[i]? = some x) : xs.set i x = xs := by
  have hlt := (List.getElem?_eq_some_iff.1 h).1
  apply List.ext_getElem?
  intro j
  rw [List.getElem?_set]
  by_cases e : i = j
  · subst e; rw [if_pos rfl, if_pos hlt, h]
  · rw [if_neg e]
theorem StatsZ.setRows {w0 w : World} {g n cap : Nat} {Z : List (StatZ × (Nat × Nat))} (h : StatsZ w0 w g n cap Z) {i : Nat} {z : StatZ × (Nat × Nat)} (hi : Z[i]? = some z) (r : Nat) : StatsZ w0 (w.setCell ⟨g, i * 3 + 1, none⟩ (.float .f64 r)) g n cap (Z.set i ((z.1.1, r, z.1.2.2), z.2)) := by
  obtain ⟨rest, h1, h2, h3, h4, h5, h6, h7⟩ := h.body
  have hlt : i < Z.length := (List.getElem?_eq_some_iff.1 hi).1
  have hk : Kp (fun k => k = g) w (w.setCell ⟨g, i * 3 + 1, none⟩ (.float .f64 r)) := Kp.setCell (F := fun k => k = g) (Kp.refl w) (fun _ => rfl) _
  have hd : ∀ x ∈ Z, DistM w0 (w.setCell ⟨g, i * 3 + 1, none⟩ (.float .f64 r)) x := fun x hx => (h7 x hx).kp hk fun e => by
    obtain ⟨cs, hb⟩ := (h7 x hx).blk
    rw [e] at hb
    exact typ_fc (blk_ne hb h6)
  refine ⟨rest, by rw [List.length_set]; exact h1, h2, h3, h4, ?_, ?_, fun x hx => ?_⟩
  · have e : (Z.set i ((z.1.1, r, z.1.2.2), z.2)).map (·.2.1) = Z.map (·.2.1) := by
      rw [List.map_set]
      have := List.getElem?_map (f := fun x : StatZ × (Nat × Nat) => x.2.1) (l := Z) (i := i)
      rw [hi] at this
      exact set_same this
    rw [e]; exact h5
  · have hb := h6.set (i * 3 + 1) (.float .f64 r)
    rw [List.set_append_left _ _ (by rw [flat_len statM 3 statM_len]; omega), flat_set statM 3 statM_len Z i z ((z.1.1, r, z.1.2.2), z.2) 1 _ hi (by decide) rfl] at hb
    exact hb
  · rcases List.mem_or_eq_of_mem_set hx with hx | rfl
    · exact hd x hx
    · exact hd z (List.mem_of_getElem? hi)
theorem nodup_at {xs : List Nat} (h : xs.Nodup) {i j a : Nat} (hi : xs[i]? = some a) (hj : xs[j]? = some a) : i = j := by
  have h1 := (List.getElem?_eq_some_iff.1 hi)
  obtain ⟨hi1, hi2⟩ := h1
  obtain ⟨hj1, hj2⟩ := List.getElem?_eq_some_iff.1 hj
  rcases Nat.lt_trichotomy i j with c | c | c
  · exact absurd (hi2.trans hj2.symm) (List.pairwise_iff_getElem.1 h i j hi1 hj1 c)
  · exact c
  · exact absurd (hj2.trans hi2.symm) (List.pairwise_iff_getElem.1 h j i hj1 hi1 c)
theorem StatsZ.setDist {w0 w : World} {g n cap : Nat} {Z : List (StatZ × (Nat × Nat))} (h : StatsZ w0 w g n cap Z) {i : Nat} {z : StatZ × (Nat × Nat)} (hi : Z[i]? = some z) {m : Nat} (hm : m < z.1.2.2.1.length) (x : Nat) : StatsZ w0 (w.setCell ⟨z.2.1, m, none⟩ (.float .f64 x)) g n cap (Z.set i ((z.1.1, z.1.2.1, z.1.2.2.1.set m x, ()), z.2)) := by
  obtain ⟨rest, h1, h2, h3, h4, h5, h6, h7⟩ := h.body
  have hlt : i < Z.length := (List.getElem?_eq_some_iff.1 hi).1
  have hk : Kp (fun k => k = z.2.1) w (w.setCell ⟨z.2.1, m, none⟩ (.float .f64 x)) := Kp.setCell (F := fun k => k = z.2.1) (Kp.refl w) (fun _ => rfl) _
  have hz := h7 z (List.mem_of_getElem? hi)
  refine ⟨rest, by rw [List.length_set]; exact h1, h2, h3, h4, ?_, ?_, fun y hy => ?_⟩
  · have e : (Z.set i ((z.1.1, z.1.2.1, z.1.2.2.1.set m x, ()), z.2)).map (·.2.1) = Z.map (·.2.1) := by
      rw [List.map_set]
      have := List.getElem?_map (f := fun x : StatZ × (Nat × Nat) => x.2.1) (l := Z) (i := i)
      rw [hi] at this
      exact set_same this
    rw [e]; exact h5
  · have e : (Z.set i ((z.1.1, z.1.2.1, z.1.2.2.1.set m x, ()), z.2)).flatMap statM = Z.flatMap statM := by
      have hs := flat_set statM 3 statM_len Z i z ((z.1.1, z.1.2.1, z.1.2.2.1.set m x, ()), z.2) 0 (.string z.1.1) hi (by decide) (by
        show statM _ = _
        simp [statM])
      rw [← hs]
      refine set_same ?_
      have hg := flat_get statM 3 statM_len Z i z 0 hi (by decide)
      exact hg
    rw [e]
    exact h6.kp hk fun e => by
      obtain ⟨cs, hb⟩ := hz.blk
      rw [← e] at hb
      exact typ_fc (blk_ne hb h6)
  · obtain ⟨j, hj⟩ := List.mem_iff_getElem?.1 hy
    rw [List.getElem?_set] at hj
    by_cases e : i = j
    · rw [if_pos e, if_pos hlt] at hj
      cases hj
      obtain ⟨r, a, b, c, d⟩ := hz
      refine ⟨r, by show (z.1.2.2.1.set m x).length + 1 ≤ _; rw [List.length_set]; exact a, b, c, ?_⟩
      have hb := d.set m (.float .f64 x)
      have e2 : (flts (z.1.2.2.1 ++ [markF]) ++ r).set m (.float .f64 x) = flts (z.1.2.2.1.set m x ++ [markF]) ++ r := by
        rw [List.set_append_left _ _ (by rw [flts_len, List.length_append]; omega)]
        congr 1
        unfold flts
        rw [← List.map_set, List.set_append_left _ _ hm]
      rw [e2] at hb
      exact hb
    · rw [if_neg e] at hj
      refine (h7 y (List.mem_of_getElem? hj)).kp hk fun e' => e ?_
      refine nodup_at h5 (a := z.2.1) ?_ ?_
      · rw [List.getElem?_map, hi]; rfl
      · rw [List.getElem?_map, hj, ← e']; rfl

/-- The counts before place i are those of K, behind it they are of the same predicates. -/
def Part (K : List StatZ) (Z : List (StatZ × (Nat × Nat))) (i : Nat) : Prop := Z.length = K.length ∧ ∀ (j : Nat) z k, Z[j]? = some z → K[j]? = some k → (j < i → z.1 = k) ∧ z.1.1 = k.1 ∧ z.1.2.2.1.length = k.2.2.1.length
theorem Part.all {K : List StatZ} {Z : List (StatZ × (Nat × Nat))} (h : Part K Z K.length) : Z.map (·.1) = K := by
  apply List.ext_getElem?
  intro j
  rw [List.getElem?_map]
  cases e : Z[j]? with
  | none =>
    have := List.getElem?_eq_none_iff.1 e
    rw [Option.map_none, eq_comm, List.getElem?_eq_none_iff, ← h.1]; exact this
  | some z =>
    have hj : j < K.length := by rw [← h.1]; exact (List.getElem?_eq_some_iff.1 e).1
    have hk := List.getElem?_eq_getElem hj
    rw [hk, Option.map_some, (h.2 j z _ e hk).1 hj]
/-- ... and at place i the rows too, and m of the counts. -/
def PartIn (K : List StatZ) (Z : List (StatZ × (Nat × Nat))) (i m : Nat) : Prop := Part K Z i ∧ ∀ z k, Z[i]? = some z → K[i]? = some k → z.1.2.1 = k.2.1 ∧ ∀ c, c < m → z.1.2.2.1[c]? = k.2.2.1[c]?
theorem Part.rows {K : List StatZ} {Z : List (StatZ × (Nat × Nat))} {i : Nat} {z : StatZ × (Nat × Nat)} {k : StatZ} (h : Part K Z i) (hz : Z[i]? = some z) (hk : K[i]? = some k) : PartIn K (Z.set i ((z.1.1, k.2.1, z.1.2.2), z.2)) i 0 := by
  have hlt : i < Z.length := (List.getElem?_eq_some_iff.1 hz).1
  have h0 := h.2 i z k hz hk
  refine ⟨⟨by rw [List.length_set]; exact h.1, fun j y u hy hu => ?_⟩, fun y u hy hu => ?_⟩
  · rw [List.getElem?_set] at hy
    by_cases e : i = j
    · subst e
      rw [if_pos rfl, if_pos hlt] at hy
      cases hy
      rw [hk] at hu; cases hu
      exact ⟨fun h => absurd h (Nat.lt_irrefl _), h0.2⟩
    · rw [if_neg e] at hy
      exact h.2 j y u hy hu
  · rw [List.getElem?_set, if_pos rfl, if_pos hlt] at hy
    cases hy
    rw [hk] at hu; cases hu
    exact ⟨rfl, fun c hc => by omega⟩
theorem PartIn.dist {K : List StatZ} {Z : List (StatZ × (Nat × Nat))} {i m : Nat} {z : StatZ × (Nat × Nat)} {k : StatZ} {x : Nat} (h : PartIn K Z i m) (hz : Z[i]? = some z) (hk : K[i]? = some k) (hx : k.2.2.1[m]? = some x) : PartIn K (Z.set i ((z.1.1, z.1.2.1, z.1.2.2.1.set m x, ()), z.2)) i (m + 1) := by
  have hlt : i < Z.length := (List.getElem?_eq_some_iff.1 hz).1
  have h0 := h.1.2 i z k hz hk
  have hml : m < k.2.2.1.length := (List.getElem?_eq_some_iff.1 hx).1
  refine ⟨⟨by rw [List.length_set]; exact h.1.1, fun j y u hy hu => ?_⟩, fun y u hy hu => ?_⟩
  · rw [List.getElem?_set] at hy
    by_cases e : i = j
    · subst e
      rw [if_pos rfl, if_pos hlt] at hy
      cases hy
      rw [hk] at hu; cases hu
      exact ⟨fun h => absurd h (Nat.lt_irrefl _), h0.2.1, by show (z.1.2.2.1.set m x).length = _; rw [List.length_set]; exact h0.2.2⟩
    · rw [if_neg e] at hy
      exact h.1.2 j y u hy hu
  · rw [List.getElem?_set, if_pos rfl, if_pos hlt] at hy
    cases hy
    rw [hk] at hu; cases hu
    have h1 := h.2 z k hz hk
    refine ⟨h1.1, fun c hc => ?_⟩
    show (z.1.2.2.1.set m x)[c]? = _
    rw [List.getElem?_set]
    by_cases e : m = c
    · subst e
      rw [if_pos rfl, if_pos (by rw [h0.2.2]; exact hml), hx]
    · rw [if_neg e]
      exact h1.2 c (by omega)
theorem PartIn.done {K : List StatZ} {Z : List (StatZ × (Nat × Nat))} {i m : Nat} {k : StatZ} (h : PartIn K Z i m) (hk : K[i]? = some k) (hm : m = k.2.2.1.length) : Part K Z (i + 1) := by
  refine ⟨h.1.1, fun j z u hz hu => ?_⟩
  have h0 := h.1.2 j z u hz hu
  refine ⟨fun hj => ?_, h0.2⟩
  by_cases e : j = i
  · subst e
    rw [hk] at hu; cases hu
    have h1 := h.2 z k hz hk
    have h2 : z.1.2.2.1 = k.2.2.1 := by
      apply List.ext_getElem?
      intro c
      by_cases hc : c < m
      · exact h1.2 c hc
      · rw [List.getElem?_eq_none_iff.2 (by omega), List.getElem?_eq_none_iff.2 (by omega)]
    obtain ⟨⟨zp, zr, zd, ⟨⟩⟩, zv⟩ := z
    obtain ⟨kp, kr, kd, ⟨⟩⟩ := k
    simp only at h2 h1 h0 ⊢
    rw [h0.2.1, h1.1, h2]
  · exact h0.1 (by omega)
end Go.Proofs.Ytcphalpcdcddpaa

/- cost.Greedy: the function that tries a literal, and what it defers. -/
namespace Go.Proofs.Ytcphalpcdcddpaa
open Go.RowKit
set_option linter.unusedVariables false
attribute [local go_sem] run_store_float

/-- The same, but it does not panic. -/
def NoPanic (Q : Exit → Act → World → Prop) (e : Exit) (a : Act) (w : World) : Prop := match e with
  | .panic _ => False
  | e => Q e a w
theorem wp_nopanic {P : Program} {c : Code} {Q : Exit → Act → World → Prop} {a : Act} {w : World} (h : c.wp P (NoPanic Q) a w) : c.wp P Q a w := wp_mono h fun e a w h => by
  cases e <;> first | exact h.elim | exact h
theorem nopanic_normal {Q : Exit → Act → World → Prop} {a : Act} {w : World} (h : Q .normal a w) : NoPanic Q .normal a w := h
theorem undo_any (gin gi gib n i : Nat) (y : Value) (u : FrameMode) (w : World) (hi : i < n) (c1 : w.cell? ⟨gin, 0, none⟩ = some (.slice (some ⟨gi, 0, none⟩) n n)) (c2 : w.cell? ⟨gib, 0, none⟩ = some (.int .i64 i)) (c3 : w.cell? ⟨gi, i, none⟩ = some (.bool true)) (c4 : w.frozen? ⟨gi, i, none⟩ = false) :
    CallsD Try.prog 42 #[.pointer (some ⟨gin, 0, none⟩), .pointer (some ⟨gib, 0, none⟩)] u w fun e u' w' => u' = u ∧ (e = .returned (.tuple #[]) ∧ w' = w.setCell ⟨gi, i, none⟩ (.bool false)) := by
  go_enter_d Try.func42, Try.ntmps42
  go_wp2
  go_end0
  first | exact ⟨rfl, rfl⟩ | exact ⟨rfl, rfl, rfl⟩

/-- What stays while literals are tried. -/
structure TryI (wB : World) (gin gi gbb gb n : Nat) (inn : List Bool) (w : World) : Prop where
  ext : Ext wB w
  fin : Blk w gin [.slice (some ⟨gi, 0, none⟩) n n] 74
  fgi : Blk w gi (bools inn) 4
  fbb : Blk w gbb [.pointer (some ⟨gb, 0, none⟩)] 71
  new : wB.heap.size ≤ gi
theorem TryI.to {wB : World} {gin gi gbb gb n : Nat} {inn : List Bool} {w w' : World} (h : TryI wB gin gi gbb gb n inn w) (hk : Ext w w') : TryI wB gin gi gbb gb n inn w' := ⟨h.ext.trans hk, h.fin.ext hk, h.fgi.ext hk, h.fbb.ext hk, h.new⟩
theorem typ_bo : 4 ≠ 74 ∧ 4 ≠ 71 ∧ 4 ≠ 95 ∧ 4 ≠ 3 := by decide
theorem TryI.put {wB : World} {gin gi gbb gb n : Nat} {inn : List Bool} {w : World} (h : TryI wB gin gi gbb gb n inn w) (i : Nat) (b : Bool) : TryI wB gin gi gbb gb n (inn.set i b) (w.setCell ⟨gi, i, none⟩ (.bool b)) := by
  have hk : Kp (fun k => k = gi) w (w.setCell ⟨gi, i, none⟩ (.bool b)) := Kp.setCell (F := fun k => k = gi) (Kp.refl w) (fun _ => rfl) _
  refine ⟨Kp.setCell (F := fun _ => False) h.ext (fun hl => by have := h.new; simp only at hl; omega) _, h.fin.kp hk fun e => ?_, ?_, h.fbb.kp hk fun e => ?_, h.new⟩
  · have h2 := h.fin
    rw [e] at h2
    exact typ_bo.1 (blk_ne h.fgi h2)
  · have h2 := h.fgi.set i (.bool b)
    have e : (bools inn).set i (.bool b) = bools (inn.set i b) := by simp [bools, List.map_set]
    rw [e] at h2; exact h2
  · have h2 := h.fbb
    rw [e] at h2
    exact typ_bo.2.1 (blk_ne h.fgi h2)
theorem TryI.noPlan {wB : World} {gin gi gbb gb n : Nat} {inn : List Bool} {w : World} (h : TryI wB gin gi gbb gb n inn w) : NoPlan w (fun k => k = gi) := fun k cs e hb hk => by
  subst hk
  rw [blk_ne hb h.fgi]; exact typ_bo.2.2
theorem set_back {inn : List Bool} {i : Nat} (h : inn[i]? = some false) : (inn.set i true).set i false = inn := by
  rw [List.set_set]; exact set_same h

open Classical in
set_option maxRecDepth 100000 in
set_option maxHeartbeats 4000000 in
theorem tryMade_any (S : List StatZ) (ls : List LitZ) (wB : World) (gin gi gbb gb n i : Nat) (inn : List Bool) (w : World) (hn : n = ls.length) (hf : Fit ls) (K : Known S ls) (hi : i < n) (hin : inn.length = n) (hB : BodyAt wB gb S ls) (hI : TryI wB gin gi gbb gb n inn w) :
    Calls Try.prog 41 #[.int .i64 i, .pointer (some ⟨gin, 0, none⟩), .pointer (some ⟨gbb, 0, none⟩)] w (fun e w' => ∃ v, e = .returned v ∧ TryI wB gin gi gbb gb n inn w' ∧ Kp (fun k => k = gi) w w' ∧ OptAt w' (New w) v (candG S ls inn i)) := by
  have hl : n ≤ 1048576 := by have := hf.len; omega
  have hmf : ∀ (fn : Fn) (first cap : Array Value) (w : World), (Instr.makeFunc fn first cap).run Try.prog w = .ok (.func fn first cap) w := fun _ _ _ _ => rfl
  obtain ⟨b, hb⟩ : ∃ b, inn[i]? = some b := ⟨_, List.getElem?_eq_getElem (by omega)⟩
  have HStands := Lib.hid (fun (inn : List Bool) (W : World) (hW : Ext wB W) (hin : inn.length = n) (hI : CellsAt W (some ⟨gi, 0, none⟩) (bools inn)) => stands_any gb S ls n inn _ n W hn hl (varsL_fit hf) (hB.ext hW) hin hI)
  have HG := Lib.hid (fun (inn : List Bool) (W : World) (hW : Ext wB W) (hin : inn.length = n) (hI : CellsAt W (some ⟨gi, 0, none⟩) (bools inn)) => guess_any gb S ls n inn _ n W hn hf K (hB.ext hW) hin hI)
  have HI := Lib.hid hI
  have HL := Lib.hid hin
  have HBi := Lib.hid hb
  obtain ⟨wb, eb⟩ : ∃ wb, w.alloc (.cells #[.int .i64 i] 3) = wb := ⟨_, rfl⟩
  have HIb := Lib.hid (show TryI wB gin gi gbb gb n inn wb by rw [← eb]; exact hI.to ((Kp.refl w).alloc _))
  have HBox := Lib.hid (show Blk wb w.heap.size [.int .i64 i] 3 by rw [← eb]; exact Blk.new w _ _)
  have HXb := Lib.hid (show Ext w wb by rw [← eb]; exact (Kp.refl w).alloc _)
  have c1 : wb.cell? ⟨gin, 0, none⟩ = some (.slice (some ⟨gi, 0, none⟩) n n) := by rw [HIb.out.fin.cell']; rfl
  have c2 : wb.cell? ⟨w.heap.size, 0, none⟩ = some (.int .i64 i) := by rw [HBox.out.cell']; rfl
  have c3 : wb.cell? ⟨gi, i, none⟩ = some (.bool b) := by rw [HIb.out.fgi.cell']; simp [bools, hb]
  have c4 := HIb.out.fgi.free i
  clear hn hf K hin hB hI hb
  cases b with
  | true =>
    have HR := Lib.hid (show candG S ls inn i = none by
      unfold candG
      rw [if_neg (by rw [HBi.out]; rintro ⟨h, _⟩; cases h)])
    go_enter_defers Try.func41, Try.ntmps41
    go_wp2
    exact ⟨_, results_tmp rfl _ _ _, _, rfl, HIb.out, HXb.out.kp, by rw [HR.out]; rfl⟩
  | false =>
    obtain ⟨gib, egib⟩ : ∃ g, g = w.heap.size := ⟨_, rfl⟩
    obtain ⟨w2, e2⟩ : ∃ w2, wb.setCell ⟨gi, i, none⟩ (.bool true) = w2 := ⟨_, rfl⟩
    have hI2 : TryI wB gin gi gbb gb n (inn.set i true) w2 := by rw [← e2]; exact HIb.out.put i true
    have hk2 : Kp (fun k => k = gi) w w2 := by rw [← e2]; exact Kp.setCell (F := fun k => k = gi) HXb.out.kp (fun _ => rfl) _
    have hbx2 : Blk w2 gib [.int .i64 i] 3 := by
      rw [← e2, egib]
      exact HBox.out.other (fun h => by
        have h2 := HBox.out
        rw [show w.heap.size = gi from h] at h2
        exact typ_bo.2.2.2 (blk_ne HIb.out.fgi h2)) _
    have HI2 := Lib.hid hI2
    have HK2 := Lib.hid hk2
    have HBx2 := Lib.hid hbx2
    have d1 : w2.cell? ⟨gin, 0, none⟩ = some (.slice (some ⟨gi, 0, none⟩) n n) := by rw [hI2.fin.cell']; rfl
    have d2 : w2.cell? ⟨gbb, 0, none⟩ = some (.pointer (some ⟨gb, 0, none⟩)) := by rw [hI2.fbb.cell']; rfl
    have HIn2 := Lib.hid (show (inn.set i true).length = n by rw [List.length_set]; exact HL.out)
    clear hI2 hk2 hbx2
    go_enter_defers Try.func41, Try.ntmps41
    go_wp2_with fail
    rw [← egib]
    refine (HStands.out (inn.set i true) w2 HI2.out.ext HIn2.out (CellsAt.pre (rest := []) (by rw [List.append_nil]; exact HI2.out.fgi))).mono ?_
    rintro e w3 ⟨v, rfl, hk3, rfl⟩
    have HI3 := Lib.hid (HI2.out.to hk3)
    have HK3 := Lib.hid (HK2.out.ext hk3)
    have HBx3 := Lib.hid (HBx2.out.ext hk3)
    clear hk3 d1 d2 c1 c2 c3 c4 e2 eb egib
    have HDone := Lib.hid (show ∀ (W : World), TryI wB gin gi gbb gb n (inn.set i true) W → Blk W gib [.int .i64 i] 3 → Kp (fun k => k = gi) w W → ∀ (o : Option Plan) (v : Value), OptAt W (New w) v o → candG S ls inn i = o →
        CallsD Try.prog 42 #[.pointer (some ⟨gin, 0, none⟩), .pointer (some ⟨gib, 0, none⟩)] .returning W fun e u' w' => u' = .returning ∧ e = .returned (.tuple #[]) ∧ TryI wB gin gi gbb gb n inn w' ∧ Kp (fun k => k = gi) w w' ∧ OptAt w' (New w) v (candG S ls inn i) from fun W hW hbx hk o v ho hc => by
      have hil : i < inn.length := (List.getElem?_eq_some_iff.1 HBi.out).1
      refine (undo_any gin gi gib n i (.bool true) .returning W hi (by rw [hW.fin.cell']; rfl) (by rw [hbx.cell']; rfl) (by rw [hW.fgi.cell']; simp [bools, hil]) (hW.fgi.free i)).mono ?_
      rintro e u' w' ⟨rfl, rfl, rfl⟩
      have h1 := hW.put i false
      rw [set_back HBi.out] at h1
      have hk' : Kp (fun k => k = gi) W (W.setCell ⟨gi, i, none⟩ (.bool false)) := Kp.setCell (F := fun k => k = gi) (Kp.refl W) (fun _ => rfl) _
      exact ⟨rfl, rfl, h1, hk.trans hk', by rw [hc]; exact ho.kp hk' hW.noPlan⟩)
    by_cases hst : stands ls (inn.set i true)
    · have hd : decide (stands ls (inn.set i true)) = true := decide_eq_true hst
      rw [hd]
      have HC := Lib.hid (show candG S ls inn i = some ([(i : Int)], guessW S ls (inn.set i true)) by
        unfold candG
        rw [if_pos ⟨HBi.out, hst⟩])
      obtain ⟨g, eg⟩ : ∃ g, guessW S ls (inn.set i true) = g := ⟨_, rfl⟩
      rw [eg] at HC
      have EG := Lib.hid eg
      clear hd hst eg
      have HJ := Lib.hid (show ∀ w', Ext w3 w' → (fun w' : World => w'.cell? ⟨gib, 0, none⟩ = some (.int .i64 i) ∧ w'.cell? ⟨gbb, 0, none⟩ = some (.pointer (some ⟨gb, 0, none⟩)) ∧ w'.cell? ⟨gin, 0, none⟩ = some (.slice (some ⟨gi, 0, none⟩) n n)) w' from fun w' hw => ⟨by rw [(HBx3.out.ext hw).cell']; rfl, by rw [(HI3.out.to hw).fbb.cell']; rfl, by rw [(HI3.out.to hw).fin.cell']; rfl⟩)
      go_wp2
      refine wp_nopanic ?_
      refine draw_begin (fun w' : World => w'.cell? ⟨gib, 0, none⟩ = some (.int .i64 i) ∧ w'.cell? ⟨gbb, 0, none⟩ = some (.pointer (some ⟨gb, 0, none⟩)) ∧ w'.cell? ⟨gin, 0, none⟩ = some (.slice (some ⟨gi, 0, none⟩) n n)) [] (by kernel_rfl) (HJ.out _ (Kp.refl w3).drew) (fun hHeld => ?_)
      (refine draw_in (i := 0) (v := ?_) rfl ?_ ?_; rotate_left; (intro w hSw; (try dsimp only at hSw); go_simp; try with_reducible rfl)); (try simp only [Act.put, List.setIfInBounds_toArray, List.set_cons_zero, List.set_cons_succ])
      (refine draw_in (i := 2) (v := ?_) rfl ?_ ?_; rotate_left; (intro w hSw; (try dsimp only at hSw); go_simp; try with_reducible rfl)); (try simp only [Act.put, List.setIfInBounds_toArray, List.set_cons_zero, List.set_cons_succ])
      (refine draw_in (i := 3) (v := ?_) rfl ?_ ?_; rotate_left; (intro w hSw; (try dsimp only at hSw); go_simp; try with_reducible rfl)); (try simp only [Act.put, List.setIfInBounds_toArray, List.set_cons_zero, List.set_cons_succ])
      refine draw_two (i := 1) (k := 4) ?_ ?_
      · refine comes_turn (i := 1) rfl (fun K hK => ?_)
        go_simp
        refine hK.out _ _ ?_ (fun hHeld => ?_)
        · (try dsimp only); (first | exact HJ.out _ HK4.out | exact HJ.out _ (HK4.out.alloc _) | exact HJ.out _ ((HK4.out.alloc _).alloc _) | exact HJ.out _ ((Kp.refl w3).alloc _).drew)
        clear hK K; (try simp only [Act.put, List.setIfInBounds_toArray, List.set_cons_zero, List.set_cons_succ])
        refine draw_one (i := 4) ?_
        refine comes_turn (i := 4) rfl (fun K hK => ?_)
        go_simp
        ((with_reducible refine (HG.out (inn.set i true) _ (by first | exact HI3.out.ext.drew | exact (HI3.out.ext.alloc _).drew) HIn2.out (by first | exact CellsAt.ext (CellsAt.pre (rest := []) (by rw [List.append_nil]; exact HI3.out.fgi)) (Kp.refl w3).drew | exact CellsAt.ext (CellsAt.pre (rest := []) (by rw [List.append_nil]; exact HI3.out.fgi)) ((Kp.refl w3).alloc _).drew)).mono ?_); rintro e w4 ⟨v, rfl, hk4, rfl⟩; rw [EG.out]; have HK4 := Lib.hid (show Ext w3 w4 from (by first | exact ((Kp.refl w3).drew).trans hk4 | exact (((Kp.refl w3).alloc _).drew).trans hk4)); have HSl := Lib.hid hk4; clear hk4)
        go_wp2_with fail
        refine hK.out _ _ ?_ (fun hHeld => ?_)
        · (try dsimp only); (first | exact HJ.out _ HK4.out | exact HJ.out _ (HK4.out.alloc _) | exact HJ.out _ ((HK4.out.alloc _).alloc _) | exact HJ.out _ ((Kp.refl w3).alloc _).drew)
        clear hK K; (try simp only [Act.put, List.setIfInBounds_toArray, List.set_cons_zero, List.set_cons_succ])
        (refine draw_free (i := 5) (v := ?_) rfl ?_ ?_; rotate_left; (intro w; go_simp; try with_reducible rfl)); (try simp only [Act.put, List.setIfInBounds_toArray, List.set_cons_zero, List.set_cons_succ])
        refine draw_one (i := 6) ?_
        refine comes_turn (i := 6) rfl (fun K hK => ?_)
        go_simp
        refine hK.out _ _ ?_ (fun hHeld => ?_)
        · (try dsimp only); (first | exact HJ.out _ HK4.out | exact HJ.out _ (HK4.out.alloc _) | exact HJ.out _ ((HK4.out.alloc _).alloc _) | exact HJ.out _ ((Kp.refl w3).alloc _).drew)
        clear hK K; (try simp only [Act.put, List.setIfInBounds_toArray, List.set_cons_zero, List.set_cons_succ])
        (refine draw_free (i := 7) (v := ?_) rfl ?_ ?_; rotate_left; (intro w; go_simp; try with_reducible rfl)); (try simp only [Act.put, List.setIfInBounds_toArray, List.set_cons_zero, List.set_cons_succ])
        refine wpAnyD_done (by kernel_rfl) ?_ _
        clear hHeld HJ
        refine nopanic_normal ?_
        go_wp2
        first
          | (have hW : Ext w3 ((w4.alloc (.cells #[.int .i64 i] 3)).alloc (.cells #[.slice (some ⟨w4.heap.size, 0, none⟩) 1 1, .float .f64 g] 95)) := (HK4.out.alloc _).alloc _
             have hO : OptAt ((w4.alloc (.cells #[.int .i64 i] 3)).alloc (.cells #[.slice (some ⟨w4.heap.size, 0, none⟩) 1 1, .float .f64 g] 95)) (New w) (.pointer (some ⟨w4.heap.size + 1, 0, none⟩)) (some ([(i : Int)], g)) :=
               ⟨_, rfl, .slice (some ⟨w4.heap.size, 0, none⟩) 1 1, (by have h := Blk.new (w4.alloc (.cells #[.int .i64 i] 3)) [.slice (some ⟨w4.heap.size, 0, none⟩) 1 1, .float .f64 g] 95; rw [alloc_size] at h; exact h), (Row.one w4 3 (.int .i64 i) (New w) (Nat.le_trans HK3.out.size HK4.out.size)).alloc _⟩
             refine leaves_cons (f := 42) (args := #[.pointer (some ⟨gin, 0, none⟩), .pointer (some ⟨gib, 0, none⟩)]) (by simp) (by simp [go_sem]) ?_
             refine (HDone.out _ (HI3.out.to hW) (HBx3.out.ext hW) (HK3.out.ext hW) _ (.pointer (some ⟨w4.heap.size + 1, 0, none⟩)) hO HC.out).mono ?_
             rintro e u' w'' ⟨rfl, rfl, h1, h2, h3⟩
             exact ⟨_, results_tmp rfl _ _ _, .pointer (some ⟨w4.heap.size + 1, 0, none⟩), rfl, h1, h2, h3⟩)
          | (have hW : Ext w3 (w4.alloc (.cells #[.slice (some ⟨w3.heap.size, 0, none⟩) 1 1, .float .f64 g] 95)) := HK4.out.alloc _
             have hRw : Row w4 3 1 (.slice (some ⟨w3.heap.size, 0, none⟩) 1 1) 1 [.int .i64 i] (New w) := Row.ext (w := (w3.alloc (.cells #[.int .i64 i] 3)).drew) (Row.one w3 3 (.int .i64 i) (New w) HK3.out.size) HSl.out
             have hO : OptAt (w4.alloc (.cells #[.slice (some ⟨w3.heap.size, 0, none⟩) 1 1, .float .f64 g] 95)) (New w) (.pointer (some ⟨w4.heap.size, 0, none⟩)) (some ([(i : Int)], g)) :=
               ⟨_, rfl, .slice (some ⟨w3.heap.size, 0, none⟩) 1 1, Blk.new w4 [.slice (some ⟨w3.heap.size, 0, none⟩) 1 1, .float .f64 g] 95, hRw.alloc _⟩
             refine leaves_cons (f := 42) (args := #[.pointer (some ⟨gin, 0, none⟩), .pointer (some ⟨gib, 0, none⟩)]) (by simp) (by simp [go_sem]) ?_
             refine (HDone.out _ (HI3.out.to hW) (HBx3.out.ext hW) (HK3.out.ext hW) _ (.pointer (some ⟨w4.heap.size, 0, none⟩)) hO HC.out).mono ?_
             rintro e u' w'' ⟨rfl, rfl, h1, h2, h3⟩
             exact ⟨_, results_tmp rfl _ _ _, .pointer (some ⟨w4.heap.size, 0, none⟩), rfl, h1, h2, h3⟩)
      · refine comes_turn (i := 4) rfl (fun K hK => ?_)
        go_simp
        ((with_reducible refine (HG.out (inn.set i true) _ (by first | exact HI3.out.ext.drew | exact (HI3.out.ext.alloc _).drew) HIn2.out (by first | exact CellsAt.ext (CellsAt.pre (rest := []) (by rw [List.append_nil]; exact HI3.out.fgi)) (Kp.refl w3).drew | exact CellsAt.ext (CellsAt.pre (rest := []) (by rw [List.append_nil]; exact HI3.out.fgi)) ((Kp.refl w3).alloc _).drew)).mono ?_); rintro e w4 ⟨v, rfl, hk4, rfl⟩; rw [EG.out]; have HK4 := Lib.hid (show Ext w3 w4 from (by first | exact ((Kp.refl w3).drew).trans hk4 | exact (((Kp.refl w3).alloc _).drew).trans hk4)); have HSl := Lib.hid hk4; clear hk4)
        go_wp2_with fail
        refine hK.out _ _ ?_ (fun hHeld => ?_)
        · (try dsimp only); (first | exact HJ.out _ HK4.out | exact HJ.out _ (HK4.out.alloc _) | exact HJ.out _ ((HK4.out.alloc _).alloc _) | exact HJ.out _ ((Kp.refl w3).alloc _).drew)
        clear hK K; (try simp only [Act.put, List.setIfInBounds_toArray, List.set_cons_zero, List.set_cons_succ])
        refine draw_one (i := 1) ?_
        refine comes_turn (i := 1) rfl (fun K hK => ?_)
        go_simp
        refine hK.out _ _ ?_ (fun hHeld => ?_)
        · (try dsimp only); (first | exact HJ.out _ HK4.out | exact HJ.out _ (HK4.out.alloc _) | exact HJ.out _ ((HK4.out.alloc _).alloc _) | exact HJ.out _ ((Kp.refl w3).alloc _).drew)
        clear hK K; (try simp only [Act.put, List.setIfInBounds_toArray, List.set_cons_zero, List.set_cons_succ])
        (refine draw_free (i := 5) (v := ?_) rfl ?_ ?_; rotate_left; (intro w; go_simp; try with_reducible rfl)); (try simp only [Act.put, List.setIfInBounds_toArray, List.set_cons_zero, List.set_cons_succ])
        refine draw_one (i := 6) ?_
        refine comes_turn (i := 6) rfl (fun K hK => ?_)
        go_simp
        refine hK.out _ _ ?_ (fun hHeld => ?_)
        · (try dsimp only); (first | exact HJ.out _ HK4.out | exact HJ.out _ (HK4.out.alloc _) | exact HJ.out _ ((HK4.out.alloc _).alloc _) | exact HJ.out _ ((Kp.refl w3).alloc _).drew)
        clear hK K; (try simp only [Act.put, List.setIfInBounds_toArray, List.set_cons_zero, List.set_cons_succ])
        (refine draw_free (i := 7) (v := ?_) rfl ?_ ?_; rotate_left; (intro w; go_simp; try with_reducible rfl)); (try simp only [Act.put, List.setIfInBounds_toArray, List.set_cons_zero, List.set_cons_succ])
        refine wpAnyD_done (by kernel_rfl) ?_ _
        clear hHeld HJ
        refine nopanic_normal ?_
        go_wp2
        first
          | (have hW : Ext w3 ((w4.alloc (.cells #[.int .i64 i] 3)).alloc (.cells #[.slice (some ⟨w4.heap.size, 0, none⟩) 1 1, .float .f64 g] 95)) := (HK4.out.alloc _).alloc _
             have hO : OptAt ((w4.alloc (.cells #[.int .i64 i] 3)).alloc (.cells #[.slice (some ⟨w4.heap.size, 0, none⟩) 1 1, .float .f64 g] 95)) (New w) (.pointer (some ⟨w4.heap.size + 1, 0, none⟩)) (some ([(i : Int)], g)) :=
               ⟨_, rfl, .slice (some ⟨w4.heap.size, 0, none⟩) 1 1, (by have h := Blk.new (w4.alloc (.cells #[.int .i64 i] 3)) [.slice (some ⟨w4.heap.size, 0, none⟩) 1 1, .float .f64 g] 95; rw [alloc_size] at h; exact h), (Row.one w4 3 (.int .i64 i) (New w) (Nat.le_trans HK3.out.size HK4.out.size)).alloc _⟩
             refine leaves_cons (f := 42) (args := #[.pointer (some ⟨gin, 0, none⟩), .pointer (some ⟨gib, 0, none⟩)]) (by simp) (by simp [go_sem]) ?_
             refine (HDone.out _ (HI3.out.to hW) (HBx3.out.ext hW) (HK3.out.ext hW) _ (.pointer (some ⟨w4.heap.size + 1, 0, none⟩)) hO HC.out).mono ?_
             rintro e u' w'' ⟨rfl, rfl, h1, h2, h3⟩
             exact ⟨_, results_tmp rfl _ _ _, .pointer (some ⟨w4.heap.size + 1, 0, none⟩), rfl, h1, h2, h3⟩)
          | (have hW : Ext w3 (w4.alloc (.cells #[.slice (some ⟨w3.heap.size, 0, none⟩) 1 1, .float .f64 g] 95)) := HK4.out.alloc _
             have hRw : Row w4 3 1 (.slice (some ⟨w3.heap.size, 0, none⟩) 1 1) 1 [.int .i64 i] (New w) := Row.ext (w := (w3.alloc (.cells #[.int .i64 i] 3)).drew) (Row.one w3 3 (.int .i64 i) (New w) HK3.out.size) HSl.out
             have hO : OptAt (w4.alloc (.cells #[.slice (some ⟨w3.heap.size, 0, none⟩) 1 1, .float .f64 g] 95)) (New w) (.pointer (some ⟨w4.heap.size, 0, none⟩)) (some ([(i : Int)], g)) :=
               ⟨_, rfl, .slice (some ⟨w3.heap.size, 0, none⟩) 1 1, Blk.new w4 [.slice (some ⟨w3.heap.size, 0, none⟩) 1 1, .float .f64 g] 95, hRw.alloc _⟩
             refine leaves_cons (f := 42) (args := #[.pointer (some ⟨gin, 0, none⟩), .pointer (some ⟨gib, 0, none⟩)]) (by simp) (by simp [go_sem]) ?_
             refine (HDone.out _ (HI3.out.to hW) (HBx3.out.ext hW) (HK3.out.ext hW) _ (.pointer (some ⟨w4.heap.size, 0, none⟩)) hO HC.out).mono ?_
             rintro e u' w'' ⟨rfl, rfl, h1, h2, h3⟩
             exact ⟨_, results_tmp rfl _ _ _, .pointer (some ⟨w4.heap.size, 0, none⟩), rfl, h1, h2, h3⟩)
    · have hd : decide (stands ls (inn.set i true)) = false := decide_eq_false hst
      rw [hd]
      have HC := Lib.hid (show candG S ls inn i = none by
        unfold candG
        rw [if_neg (fun h => hst h.2)])
      clear hd hst
      go_wp2
      refine leaves_cons (f := 42) (args := #[.pointer (some ⟨gin, 0, none⟩), .pointer (some ⟨gib, 0, none⟩)]) (by simp) (by simp [go_sem]) ?_
      refine (HDone.out w3 HI3.out HBx3.out HK3.out none (.pointer none) rfl HC.out).mono ?_
      rintro e u' w'' ⟨rfl, rfl, h1, h2, h3⟩
      exact ⟨_, results_tmp rfl _ _ _, .pointer none, rfl, h1, h2, h3⟩
end Go.Proofs.Ytcphalpcdcddpaa

/- cost.Greedy. -/
namespace Go.Proofs.Ytcphalpcdcddpaa
open Go.RowKit
set_option linter.unusedVariables false
attribute [local go_sem] run_store_float

theorem greedyE_bad {r : RuleZ} {S : List StatZ} (h : errR r S ≠ 0) : greedyE r S = ([], 0, errR r S) := by unfold greedyE; rw [if_neg h]
theorem greedyE_ok {r : RuleZ} {S : List StatZ} (h : errR r S = 0) : greedyE r S = ((greedG S r.2.1 r.2.1.length).1, (greedG S r.2.1 r.2.1.length).2.1, 0) := by unfold greedyE; rw [if_pos h]
theorem greed_succ {S : List StatZ} {ls : List LitZ} {k i : Nat} {g : Nat} (h : nextG S ls (greedG S ls k).2.2 = some ([(i : Int)], g)) : greedG S ls (k + 1) = ((greedG S ls k).1 ++ [(i : Int)], fadd (greedG S ls k).2.1 g, (greedG S ls k).2.2.set i true) := by
  show stepG S ls (greedG S ls k) = _
  unfold stepG
  rw [h]
  simp only [List.headD_cons, Int.toNat_natCast]

def GreedTo (S : List StatZ) (ls : List LitZ) (w1 : World) (gin gi gbb gb n : Nat) (iv ov sv : Value) (w : World) : Prop := ∃ (k : Nat) (o1 : Value), k ≤ n ∧ iv = .int .i64 k ∧ o1 = ov ∧ sv = .float .f64 (greedG S ls k).2.1 ∧ Hid (Row w 3 1 o1 k (ints (greedG S ls k).1) (New w1)) ∧ Hid (TryI w1 gin gi gbb gb n (greedG S ls k).2.2 w)
theorem Row.two {w : World} {e e' : TypeId} {k k' : Nat} {v v' : Value} {n n' : Nat} {xs xs' : List Value} {M M' : Nat → Prop} (h : Row w e k v n xs M) (h' : Row w e' k' v' n' xs' M') (hne : e ≠ e') {g : Nat} (hg : v.ownBlock = some g) : ¬ v'.ownBlock = some g := fun hg' => by
  obtain ⟨cs, hb⟩ := h.blkOf hg
  obtain ⟨cs', hb'⟩ := h'.blkOf hg'
  exact hne (blk_ne hb hb')
theorem TryI.own {wB : World} {gin gi gbb gb n : Nat} {inn : List Bool} {w w' : World} (h : TryI wB gin gi gbb gb n inn w) {v : Value} {k : Nat} {xs : List Value} (hr : Row w 3 1 v k xs (New wB)) (hk : Kp (fun g => v.ownBlock = some g) w w') (hx : Ext wB w') : TryI wB gin gi gbb gb n inn w' := by
  have hn : ∀ {g : Nat} {cs : List Value} {e : TypeId}, Blk w g cs e → e ≠ 3 → ¬ v.ownBlock = some g := fun hb he hg => by
    obtain ⟨cs', hb'⟩ := hr.blkOf hg
    exact he (blk_ne hb hb')
  exact ⟨hx, h.fin.kp hk (hn h.fin (by decide)), h.fgi.kp hk (hn h.fgi (by decide)), h.fbb.kp hk (hn h.fbb (by decide)), h.new⟩

open Classical in
set_option maxRecDepth 100000 in
set_option maxHeartbeats 8000000 in
theorem greedy_any (p : ByteArray) (hs : List TermZ) (ls : List LitZ) (ha : Option Addr) (hn hcap : Nat) (ba : Option Addr) (n bcap : Nat) (S : List StatZ) (sa : Option Addr) (sn scap : Nat) (w : World) (G : Nat → Prop) (hhn : hn = hs.length) (hh : TermsAt w G ha hs) (hhl : hn ≤ 1048576) (hbn : n = ls.length) (h : LitsAt w G ba ls) (hf : Fit ls)
    (hsn : sn = S.length) (hsc : sn ≤ scap) (hS : StatsAt w sa S) (hSf : StatsFit S) :
    Calls Try.prog 23 #[ruleV p ha hn hcap ba n bcap, .slice sa sn scap] w (RetN w (BestV (greedyE ((p, hs, ()), ls, ()) S))) := by
  obtain ⟨e, ee⟩ : ∃ e, e = errR ((p, hs, ()), ls, ()) S := ⟨_, rfl⟩
  have hl : n ≤ 1048576 := by have := hf.len; omega
  have hmf : ∀ (fn : Fn) (first cap : Array Value) (w : World), (Instr.makeFunc fn first cap).run Try.prog w = .ok (.func fn first cap) w := fun _ _ _ _ => rfl
  have HBo := Lib.hid (fun (W : World) (hW : Ext w W) => bodyOf_any p hs ls ha hn hcap ba n bcap S sa sn scap W G hhn (hh.ext hW) hhl hbn (h.ext hW) hf hsn hsc (hS.ext hW) hSf)
  have EE := Lib.hid ee
  have HN := Lib.hid hbn
  have HFt := Lib.hid hf
  clear hhn hh hbn h hf hsn hS hSf ee
  go_enter Try.func23, Try.ntmps23
  go_wp2_with fail
  obtain ⟨wb, eb⟩ : ∃ wb, w.alloc (.cells #[.string p, .slice ha hn hcap, .slice ba n bcap] 27) = wb := ⟨_, rfl⟩
  rw [eb]
  have HB := Lib.hid (Blk.new w [.string p, .slice ha hn hcap, .slice ba n bcap] 27)
  have HX := Lib.hid ((Kp.refl (F := fun _ => False) w).alloc (.cells #[.string p, .slice ha hn hcap, .slice ba n bcap] 27))
  have eb2 : w.alloc (.cells [Value.string p, .slice ha hn hcap, .slice ba n bcap].toArray 27) = wb := eb
  rw [eb2] at HB
  rw [eb] at HX
  clear eb eb2
  refine (HBo.out _ HX.out).mono ?_
  rintro e1 w1 ⟨v, rfl, hk1, hbv⟩
  have X1 := Lib.hid (HX.out.trans hk1)
  clear hk1 HX HB
  by_cases he : e = 0
  · obtain ⟨gb, rfl, _, hB⟩ := hbv.yes (EE.out.symm.trans he)
    have HB := Lib.hid hB
    have HE := Lib.hid (EE.out.symm.trans he)
    have HK := Lib.hid (Known.of (errR_zero HE.out).2)
    have HAll := Lib.hid (full_stands (errR_zero HE.out).1)
    obtain ⟨pa, pcap, na', ncap, gm, mm, ca, ccap, hR⟩ := hB.read
    have b0 : w1.cell? ⟨gb, 0, none⟩ = some (.slice pa n pcap) := by rw [hR.blk.cell', HN.out]; rfl
    clear hbv hB he hR
    obtain ⟨wA, eA⟩ : ∃ wA, w1.alloc (.cells #[.pointer (some ⟨gb, 0, none⟩)] 71) = wA := ⟨_, rfl⟩
    have hA : Blk wA w1.heap.size [.pointer (some ⟨gb, 0, none⟩)] 71 := by rw [← eA]; exact Blk.new w1 _ _
    have xA : Ext w1 wA := by rw [← eA]; exact (Kp.refl w1).alloc _
    have hmk := run_make_row' (P := Try.prog) 74 4 (.bool false) 1 Try.underlying74 (by kernel_rfl) rfl .i64 .i64 n (by omega) (by omega)
    obtain ⟨wC, eC⟩ : ∃ wC, wA.alloc (.cells (madeCells #[.bool false] n) 4) = wC := ⟨_, rfl⟩
    have hC : Blk wC wA.heap.size (List.replicate n (.bool false)) 4 := by rw [← eC]; exact blk_made wA _ n _
    have xC : Ext wA wC := by rw [← eC]; exact (Kp.refl wA).alloc _
    obtain ⟨wD, eD⟩ : ∃ wD, wC.alloc (.cells #[.slice (some ⟨wA.heap.size, 0, none⟩) n n] 74) = wD := ⟨_, rfl⟩
    have hD : Blk wD wC.heap.size [.slice (some ⟨wA.heap.size, 0, none⟩) n n] 74 := by rw [← eD]; exact Blk.new wC _ _
    have xD : Ext wC wD := by rw [← eD]; exact (Kp.refl wC).alloc _
    have a0 : wA.cell? ⟨w1.heap.size, 0, none⟩ = some (.pointer (some ⟨gb, 0, none⟩)) := by rw [hA.cell']; rfl
    have a1 := xA.cell b0 id
    have d0 : wD.cell? ⟨w1.heap.size, 0, none⟩ = some (.pointer (some ⟨gb, 0, none⟩)) := by rw [((hA.ext xC).ext xD).cell']; rfl
    have d1 := xD.cell (xC.cell a1 id) id
    have HT0 := Lib.hid (show TryI w1 wC.heap.size wA.heap.size w1.heap.size gb n (greedG S ls 0).2.2 wD from ⟨(xA.trans xC).trans xD, hD, by
      show Blk wD _ (bools (List.replicate ls.length false)) _
      rw [← HN.out, bools_rep]; exact hC.ext xD, (hA.ext xC).ext xD, xA.size⟩)
    clear hA xA hC xC hD xD b0
    go_wp2
    obtain ⟨gi, egi⟩ : ∃ g, g = wA.heap.size := ⟨_, rfl⟩
    obtain ⟨gin, egin⟩ : ∃ g, g = wC.heap.size := ⟨_, rfl⟩
    obtain ⟨gbb, egbb⟩ : ∃ g, g = w1.heap.size := ⟨_, rfl⟩
    rw [← egi, ← egin, ← egbb] at HT0
    rw [← egi, ← egin, ← egbb]
    clear eA eC eD a0 a1 d0 d1 egi egin egbb hmk
    go_loopw [33, 9, 10] (fun iv ov sv wr => GreedTo S ls w1 gin gi gbb gb n iv ov sv wr) (fun iv _ _ _ => n - (intOf iv).toNat)
    case atStart => exact ⟨0, _, Nat.zero_le _, rfl, rfl, rfl, Row.nil _ _ _ _, HT0.out⟩
    case round =>
      clear HT0
      obtain ⟨k, o1, hk, rfl, rfl, rfl, hrow, htry⟩ := hrel
      have c1 : wr.cell? ⟨gin, 0, none⟩ = some (.slice (some ⟨gi, 0, none⟩) n n) := by rw [htry.out.fin.cell']; rfl
      obtain ⟨oa, oc, eov, _, _⟩ := hrow.out.shape
      subst eov
      by_cases hlt : k < n
      · obtain ⟨x, ex⟩ : ∃ x, x = greedG S ls k := ⟨_, rfl⟩
        have hok := greed_ok HK.out HAll.out (show k ≤ ls.length by rw [← HN.out]; omega)
        rw [← ex] at hrow htry hok
        rw [← ex]
        obtain ⟨i, hi, hi1, hi2, hnext⟩ := next_some (S := S) HAll.out (show k < ls.length by rw [← HN.out]; exact hlt) hok
        rw [← HN.out] at hi
        have HSucc := Lib.hid (greed_succ (by rw [← ex]; exact hnext))
        rw [← ex] at HSucc
        have hxl : x.2.2.length = n := by rw [HN.out]; exact hok.inn
        obtain ⟨g, eg⟩ : ∃ g, guessW S ls (x.2.2.set i true) = g := ⟨_, rfl⟩
        rw [eg] at hnext HSucc
        have hgl : g ≤ infW := by rw [← eg]; exact guessW_le HK.out _
        have hadd : ∀ W, (binOp .add 37 (.float .f64 x.2.1) (.float .f64 g)).run Try.prog W = .ok (.float .f64 (fadd x.2.1 g)) W := fun W => run_float_arith W .add _ .f64 _ _ _ (fadd_eq hok.cost hgl)
        have HNext := Lib.hid (show leastP (candG S ls x.2.2) n = some ([(i : Int)], g) by rw [HN.out]; exact hnext)
        have HMade := Lib.hid (show MadeT 41 #[] #[.pointer (some ⟨gin, 0, none⟩), .pointer (some ⟨gbb, 0, none⟩)] (TryI w1 gin gi gbb gb n x.2.2) (fun k => k = gi) n (candG S ls x.2.2) from
          ⟨enters_of Try.func41 (by kernel_rfl) rfl, fun W h => h.noPlan, fun W W' h hk => h.to hk, fun W h j hj => tryMade_any S ls w1 gin gi gbb gb n j x.2.2 W HN.out HFt.out HK.out hj hxl HB.out h⟩)
        have HOk := Lib.hid (fun (j : Nat) (pp : Plan) (_ : j < n) (hp : candG S ls x.2.2 j = some pp) => show pp.2 ≤ infW ∧ pp.1.length = 1 by
          obtain ⟨rfl, _, _⟩ := candG_some hp
          exact ⟨guessW_le HK.out _, rfl⟩)
        have HIn := Lib.hid (show i < x.2.2.length by rw [hxl]; exact hi)
        clear hok hnext hi1 hi2 eg hxl ex
        go_wp2_with fail
        refine (leastOf_any 41 #[] _ (TryI w1 gin gi gbb gb n x.2.2) (fun k => k = gi) n (candG S ls x.2.2) 1 wr htry.out HMade.out HOk.out (by omega) hl).mono ?_
        rintro e1 w2 ⟨v, rfl, hT2, hk2, ho2⟩
        rw [HNext.out] at ho2
        obtain ⟨b, rfl, ov, hb1, hb2⟩ := ho2
        obtain ⟨pa2, pc2, epv, hcc, hp1, hp2⟩ := hb2.cap
        have HPl := Lib.hid (And.intro hb1 hb2)
        have HT2 := Lib.hid hT2
        have HRow2 := Lib.hid (hrow.out.kp' hk2 fun g' hg' _ e => by
          obtain ⟨cs, hb⟩ := hrow.out.blkOf hg'
          rw [e] at hb
          exact typ_bo.2.2.2 (blk_ne htry.out.fgi hb))
        have HNo := Lib.hid (show ∀ g', (Value.slice oa k oc).ownBlock = some g' → ¬ ov.ownBlock = some g' ∧ g' ≠ b from fun g' hg' => ⟨fun h => by
          have h1 := hb2.block g' h
          have h2 := hrow.out.ltB hg'
          exact absurd h1 (by unfold New; omega), fun e => by
          obtain ⟨cs, hb⟩ := HRow2.out.blkOf hg'
          rw [e] at hb
          exact absurd (blk_ne hb hb1) (by decide)⟩)
        subst epv
        obtain ⟨gp2, go2, epa, hw0⟩ := hcc 0 (.int .i64 i) rfl
        subst epa
        rw [Nat.add_zero] at hw0
        have p0 : w2.cell? ⟨b, 0, none⟩ = some (.slice (some ⟨gp2, go2, none⟩) 1 pc2) := by rw [hb1.cell']; rfl
        clear hT2 hk2 hb1 hb2 hcc hp1 hp2 hrow htry HMade HOk HNext
        go_wp2_with (first | (at_builtin; refine Halted.out ?_))
        refine Halted.mk (wp_appN (m := 1) (n := k) elem_int rfl _ _ rfl (HT2.out.ext.alloc _) rfl (HRow2.out.alloc _) rfl (CellsAt.one w2 (.int .i64 i) 3) (by rfl) (by simp [Value.oneCell']) (by omega) (by unfold maxLen; omega) ?_)
        intro v3 w3 hr3 hk3 hk4 _
        have HX3 := Lib.hid hk3
        have HR3 := Lib.hid hr3
        have HT3 := Lib.hid ((HT2.out.to ((Kp.refl w2).alloc _)).own (HRow2.out.alloc _) hk4 hk3)
        have hpb : Blk w3 b [.slice (some ⟨gp2, go2, none⟩) 1 pc2, .float .f64 g] 95 := (HPl.out.1.alloc _).kp hk4 fun hg => (HNo.out b hg).2 rfl
        have hpr := (HPl.out.2.alloc (.cells #[.int .i64 i] 3)).kp' hk4 fun g' hg' _ hg => (HNo.out g' hg).1 hg'
        obtain ⟨_, _, epv, hcc, _, _⟩ := hpr.cap
        cases epv
        obtain ⟨_, _, epa, hw3⟩ := hcc 0 (.int .i64 i) rfl
        cases epa
        rw [Nat.add_zero] at hw3
        have HJ := Lib.hid (show ∀ w', Ext w3 w' → (fun w' : World => w'.cell? ⟨gin, 0, none⟩ = some (.slice (some ⟨gi, 0, none⟩) n n) ∧ w'.cell? ⟨b, 0, none⟩ = some (.slice (some ⟨gp2, go2, none⟩) 1 pc2) ∧ w'.cell? ⟨gp2, go2, none⟩ = some (.int .i64 i)) w' from fun w' hw => ⟨by rw [(HT3.out.to hw).fin.cell']; rfl, by rw [(hpb.ext hw).cell']; rfl, hw.cell hw3 id⟩)
        have HPb := Lib.hid hpb
        obtain ⟨y, y0⟩ : ∃ y, w3.cell? ⟨gi, i, none⟩ = some (.bool y) := ⟨x.2.2[i]'HIn.out, by rw [HT3.out.fgi.cell']; simp [bools, HIn.out]⟩
        have y1 := HT3.out.fgi.free i
        obtain ⟨w4, e4⟩ : ∃ w4, w3.setCell ⟨gi, i, none⟩ (.bool true) = w4 := ⟨_, rfl⟩
        have HT4 := Lib.hid (show TryI w1 gin gi gbb gb n (x.2.2.set i true) w4 by rw [← e4]; exact HT3.out.put i true)
        have hk34 : Kp (fun j => j = gi) w3 w4 := by rw [← e4]; exact Kp.setCell (F := fun j => j = gi) (Kp.refl w3) (fun _ => rfl) _
        have HR4 := Lib.hid (HR3.out.kp' hk34 fun g' hg' _ e => by
          obtain ⟨cs, hb⟩ := HR3.out.blkOf hg'
          rw [e] at hb
          exact typ_bo.2.2.2 (blk_ne HT3.out.fgi hb))
        have p4 : w4.cell? ⟨b, 1, none⟩ = some (.float .f64 g) := by
          rw [(hpb.kp hk34 fun e => by rw [e] at hpb; exact typ_bo.2.2.1 (blk_ne HT3.out.fgi hpb)).cell']; rfl
        clear hk3 hk4 hr3 hpb hpr hcc hw3 hw0 p0 c1 hk34
        go_wp2
        refine draw_begin (fun w' : World => w'.cell? ⟨gin, 0, none⟩ = some (.slice (some ⟨gi, 0, none⟩) n n) ∧ w'.cell? ⟨b, 0, none⟩ = some (.slice (some ⟨gp2, go2, none⟩) 1 pc2) ∧ w'.cell? ⟨gp2, go2, none⟩ = some (.int .i64 i)) [8] (by kernel_rfl) (HJ.out _ (Kp.refl w3).drew) (fun hHeld => ?_)
        (refine draw_in (i := 0) (v := ?_) rfl ?_ ?_; rotate_left; (intro w hSw; (try dsimp only at hSw); go_simp; try with_reducible rfl)); (try simp only [Act.put, List.setIfInBounds_toArray, List.set_cons_zero, List.set_cons_succ])
        (refine draw_free (i := 1) (v := ?_) rfl ?_ ?_; rotate_left; (intro w; go_simp; try with_reducible rfl)); (try simp only [Act.put, List.setIfInBounds_toArray, List.set_cons_zero, List.set_cons_succ])
        (refine draw_free (i := 2) (v := ?_) rfl ?_ ?_; rotate_left; (intro w; go_simp; try with_reducible rfl)); (try simp only [Act.put, List.setIfInBounds_toArray, List.set_cons_zero, List.set_cons_succ])
        (refine draw_free (i := 3) (v := ?_) rfl ?_ ?_; rotate_left; (intro w; go_simp; try with_reducible rfl)); (try simp only [Act.put, List.setIfInBounds_toArray, List.set_cons_zero, List.set_cons_succ])
        (refine draw_in (i := 4) (v := ?_) rfl ?_ ?_; rotate_left; (intro w hSw; (try dsimp only at hSw); go_simp; try with_reducible rfl)); (try simp only [Act.put, List.setIfInBounds_toArray, List.set_cons_zero, List.set_cons_succ])
        (refine draw_in (i := 5) (v := ?_) rfl ?_ ?_; rotate_left; (intro w hSw; (try dsimp only at hSw); go_simp; try with_reducible rfl)); (try simp only [Act.put, List.setIfInBounds_toArray, List.set_cons_zero, List.set_cons_succ])
        (refine draw_in (i := 6) (v := ?_) rfl ?_ ?_; rotate_left; (intro w hSw; (try dsimp only at hSw); go_simp; try with_reducible rfl)); (try simp only [Act.put, List.setIfInBounds_toArray, List.set_cons_zero, List.set_cons_succ])
        (refine draw_in (i := 7) (v := ?_) rfl ?_ ?_; rotate_left; (intro w hSw; (try dsimp only at hSw); go_simp; try with_reducible rfl)); (try simp only [Act.put, List.setIfInBounds_toArray, List.set_cons_zero, List.set_cons_succ])
        refine draw_one (i := 8) ?_
        refine comes_late (i := 8) rfl (by kernel_rfl) (fun K hK => ?_)
        go_simp
        refine hK.out _ _ ?_
        clear hK K; (try simp only [Act.put, List.setIfInBounds_toArray, List.set_cons_zero, List.set_cons_succ])
        refine wpAnyD_done (by kernel_rfl) ?_ _
        clear hHeld HJ
        have e5 : ints (x.1 ++ [(i : Int)]) = ints x.1 ++ [.int .i64 i] := by simp [ints]
        have HFin := Lib.hid (show Row w4.drew 3 1 v3 (k + 1) (ints (greedG S ls (k + 1)).1) (New w1) by rw [HSucc.out]; show Row _ _ _ _ _ (ints (x.1 ++ [(i : Int)])) _; rw [e5]; exact HR4.out.drew)
        have HFin2 := Lib.hid (show TryI w1 gin gi gbb gb n (greedG S ls (k + 1)).2.2 w4.drew by rw [HSucc.out]; exact HT4.out.to (Kp.refl w4).drew)
        have HFin3 := Lib.hid (show Value.float .f64 (fadd x.2.1 g) = .float .f64 (greedG S ls (k + 1)).2.1 by rw [HSucc.out])
        clear e5
        go_wp2
        clear e4 y0 y1 p4
        go_roundw
        case rel => exact ⟨k + 1, _, by omega, by first | rfl | (congr 1; done) | (congr 1; omega), rfl, HFin3.out, HFin, HFin2⟩
        case measure => simp [intOf]; omega
      · obtain rfl : k = n := by omega
        have HVal := Lib.hid (greedyE_ok HE.out)
        have HX := Lib.hid (X1.out.trans htry.out.ext)
        obtain ⟨_, _, ecp, h2, h3, h4⟩ := hrow.out.cap
        cases ecp
        have HD := Lib.hid (And.intro h2 (And.intro h3 h4))
        have HLn := Lib.hid (greed_ok HK.out HAll.out (show k ≤ ls.length by rw [← HN.out]; exact Nat.le_refl _)).len
        clear h2 h3 h4 c1
        go_wp2
        go_ret3
        refine RetN.mk HX.out ?_
        rw [HVal.out]
        show BestV ((greedG S ls ls.length).1, (greedG S ls ls.length).2.1, 0) _ _
        rw [← HN.out]
        refine ⟨oa, oc, ?_, HD.out.1, ?_, HD.out.2.2⟩
        · rw [show ((greedG S ls k).1, (greedG S ls k).2.1, (0 : Nat)).1.length = k from HLn.out]; rfl
        · rw [show ((greedG S ls k).1, (greedG S ls k).2.1, (0 : Nat)).1.length = k from HLn.out]; exact HD.out.2.1
  · have hv := hbv.no (fun q => he (EE.out.trans q))
    rw [← EE.out] at hv
    subst hv
    have b1 : ((e : Int) == 0) = false := by simp; omega
    have b2 : ((e : Int) != 0) = true := by simp; omega
    have HH := Lib.hid he
    clear he hbv
    go_wp2
    go_ret3
    exact RetN.mk (X1.out.alloc _) (by rw [greedyE_bad (fun q => HH.out (EE.out.trans q)), ← EE.out]; exact ⟨none, 0, rfl, CellsAt.nil _ _, Nat.le_refl _, by unfold maxLen; omega⟩)
end Go.Proofs.Ytcphalpcdcddpaa

/- Sums of real numbers from 0 on: they do not fall where an operand grows. No program in sight. -/
namespace Go.Proofs.Ytcphalpcdcddpaa
open Ieee
set_option linter.unusedVariables false

/-- n / 2 ^ d, to the nearest, ties to even. -/
def rne (n d : Nat) : Nat := n / 2 ^ d + (decide (2 ^ d < 2 * (n % 2 ^ d)) || (2 ^ d == 2 * (n % 2 ^ d) && n / 2 ^ d % 2 == 1)).toNat
theorem rne_zero (n : Nat) : rne n 0 = n := by
  unfold rne
  simp [Nat.mod_one]
theorem cut_eq (n d : Nat) (h : d ≤ n.log2 + 2) : Toward.even.cut false n d = rne n d := by
  unfold Toward.cut rne
  simp only [Nat.min_eq_left h, Nat.shiftLeft_eq, Nat.one_mul]
theorem toNat_mono {a b : Bool} (h : a = true → b = true) : a.toNat ≤ b.toNat := by
  cases a
  · exact Nat.zero_le _
  · rw [h rfl]; exact Nat.le_refl _
theorem rne_mono {n m d : Nat} (h : n ≤ m) : rne n d ≤ rne m d := by
  unfold rne
  have hg : 0 < 2 ^ d := Nat.two_pow_pos d
  have hd : n / 2 ^ d ≤ m / 2 ^ d := Nat.div_le_div_right h
  rcases Nat.lt_or_eq_of_le hd with hl | he
  · have : (decide (2 ^ d < 2 * (n % 2 ^ d)) || (2 ^ d == 2 * (n % 2 ^ d) && n / 2 ^ d % 2 == 1)).toNat ≤ 1 := Bool.toNat_le _
    omega
  · rw [he]
    have hr : n % 2 ^ d ≤ m % 2 ^ d := by
      have a := Nat.div_add_mod n (2 ^ d)
      have b := Nat.div_add_mod m (2 ^ d)
      rw [he] at a
      omega
    refine Nat.add_le_add_left (toNat_mono fun hh => ?_) _
    simp only [Bool.or_eq_true, decide_eq_true_eq, Bool.and_eq_true, beq_iff_eq] at hh ⊢
    rcases hh with hh | ⟨h1, h2⟩
    · left; omega
    · rcases Nat.lt_or_eq_of_le hr with h3 | h3
      · left; omega
      · right; exact ⟨by omega, h2⟩
theorem rne_ge (n d : Nat) : n / 2 ^ d ≤ rne n d := Nat.le_add_right _ _
theorem rne_le (n d : Nat) : rne n d ≤ n / 2 ^ d + 1 := Nat.add_le_add_left (Bool.toNat_le _) _
theorem rne_scale (n d q : Nat) : rne (n * 2 ^ q) (d + q) = rne n d := by
  unfold rne
  have hq : 0 < 2 ^ q := Nat.two_pow_pos q
  have e1 : n * 2 ^ q / 2 ^ (d + q) = n / 2 ^ d := by rw [Nat.pow_add, Nat.mul_div_mul_right _ _ hq]
  have e2 : n * 2 ^ q % 2 ^ (d + q) = n % 2 ^ d * 2 ^ q := by rw [Nat.pow_add, Nat.mul_mod_mul_right]
  rw [e1, e2, Nat.pow_add]
  have e3 : 2 * (n % 2 ^ d * 2 ^ q) = 2 * (n % 2 ^ d) * 2 ^ q := by rw [Nat.mul_assoc]
  rw [e3]
  have e4 : decide (2 ^ d * 2 ^ q < 2 * (n % 2 ^ d) * 2 ^ q) = decide (2 ^ d < 2 * (n % 2 ^ d)) := decide_eq_decide.2 (Nat.mul_lt_mul_right hq)
  have e5 : (2 ^ d * 2 ^ q == 2 * (n % 2 ^ d) * 2 ^ q) = (2 ^ d == 2 * (n % 2 ^ d)) := by
    rw [Bool.eq_iff_iff]; simp only [beq_iff_eq]
    exact ⟨fun h => Nat.eq_of_mul_eq_mul_right hq h, fun h => congrArg (· * 2 ^ q) h⟩
  rw [e4, e5]
theorem rne_whole (n q d : Nat) (h : d ≤ q) : rne (n * 2 ^ q) d = n * 2 ^ (q - d) := by
  have e : n * 2 ^ q = n * 2 ^ (q - d) * 2 ^ d := by rw [Nat.mul_assoc, ← Nat.pow_add]; congr 2; omega
  rw [e]
  have := rne_scale (n * 2 ^ (q - d)) 0 d
  rw [Nat.zero_add] at this
  rw [this, rne_zero]

/-- The word nearest to a number of units of the last place of all. -/
def roundW (v : Nat) : Nat := if v = 0 then 0 else min ((v.log2 - 52) * 4503599627370496 + rne v (v.log2 - 52)) infW

theorem log2_scale {n : Nat} (q : Nat) (h : n ≠ 0) : (n * 2 ^ q).log2 = n.log2 + q := by
  have h1 := Nat.log2_self_le h
  have h2 := @Nat.lt_log2_self n
  have hq : 0 < 2 ^ q := Nat.two_pow_pos q
  have hne : n * 2 ^ q ≠ 0 := Nat.mul_ne_zero h (by omega)
  apply Nat.le_antisymm
  · have : (n * 2 ^ q).log2 < n.log2 + q + 1 := (Nat.log2_lt hne).2 (by
      rw [show n.log2 + q + 1 = (n.log2 + 1) + q by omega, Nat.pow_add]
      exact Nat.mul_lt_mul_of_pos_right h2 hq)
    omega
  · exact (Nat.le_log2 hne).2 (by rw [Nat.pow_add]; exact Nat.mul_le_mul_right _ h1)

theorem nearest_round (m q : Nat) : double.nearest false m (-1074 + (q : Int)) = roundW (m * 2 ^ q) := by
  unfold Format.nearest roundW
  by_cases h : m = 0
  · rw [if_pos h, if_pos (by rw [h]; omega)]; rfl
  · have hne : m * 2 ^ q ≠ 0 := Nat.mul_ne_zero h (by have := Nat.two_pow_pos q; omega)
    rw [if_neg h, if_neg hne, word_false, infRung_eq, log2_scale q h]
    have e1 : double.leastPlace = -1074 := by decide
    have e2 : double.binade = 4503599627370496 := by decide
    have e3 : double.fractionBits = 52 := rfl
    rw [e1, e2, e3]
    have e4 : max (-1074 + (q : Int) + (m.log2 : Int) - ((52 : Nat) : Int)) (-1074) = -1074 + ((m.log2 + q - 52 : Nat) : Int) := by omega
    simp only [e4]
    have e5 : (-1074 + ((m.log2 + q - 52 : Nat) : Int) - -1074).toNat = m.log2 + q - 52 := by omega
    have e6 : (-1074 + (q : Int) - (-1074 + ((m.log2 + q - 52 : Nat) : Int))).toNat = q - (m.log2 + q - 52) := by omega
    have e7 : (-1074 + ((m.log2 + q - 52 : Nat) : Int) - (-1074 + (q : Int))).toNat = (m.log2 + q - 52) - q := by omega
    rw [e5, e6, e7]
    generalize he : m.log2 + q - 52 = e
    have hk : Toward.even.cut false (m <<< (q - e)) (e - q) = rne (m * 2 ^ q) e := by
      by_cases hq : e ≤ q
      · rw [show e - q = 0 by omega, cut_eq _ _ (Nat.zero_le _), rne_zero, Nat.shiftLeft_eq, rne_whole _ _ _ hq]
      · rw [show q - e = 0 by omega, Nat.shiftLeft_eq, Nat.pow_zero, Nat.mul_one, cut_eq _ _ (by omega)]
        have := rne_scale m (e - q) q
        rw [show e - q + q = e by omega] at this
        exact this.symm
    rw [hk]

theorem roundW_mono {v u : Nat} (h : v ≤ u) : roundW v ≤ roundW u := by
  unfold roundW
  by_cases hv : v = 0
  · rw [if_pos hv]; exact Nat.zero_le _
  · have hu : u ≠ 0 := by omega
    rw [if_neg hv, if_neg hu]
    have hl : v.log2 ≤ u.log2 := (Nat.le_log2 hu).2 (Nat.le_trans (Nat.log2_self_le hv) h)
    have key : (v.log2 - 52) * 4503599627370496 + rne v (v.log2 - 52) ≤ (u.log2 - 52) * 4503599627370496 + rne u (u.log2 - 52) := by
      by_cases he : v.log2 - 52 = u.log2 - 52
      · rw [he]; exact Nat.add_le_add_left (rne_mono h) _
      · have hlt : v.log2 - 52 + 1 ≤ u.log2 - 52 := by omega
        have h1 := rne_le v (v.log2 - 52)
        have h2 := rne_ge u (u.log2 - 52)
        have h3 : v / 2 ^ (v.log2 - 52) < 9007199254740992 := by
          rw [Nat.div_lt_iff_lt_mul (Nat.two_pow_pos _), show (9007199254740992 : Nat) = 2 ^ 53 by decide, ← Nat.pow_add]
          exact Nat.lt_of_lt_of_le (@Nat.lt_log2_self v) (Nat.pow_le_pow_right (by decide) (by omega))
        have h4 : 4503599627370496 ≤ u / 2 ^ (u.log2 - 52) := by
          rw [Nat.le_div_iff_mul_le (Nat.two_pow_pos _), show (4503599627370496 : Nat) = 2 ^ 52 by decide, ← Nat.pow_add, show 52 + (u.log2 - 52) = u.log2 by omega]
          exact Nat.log2_self_le hu
        have h5 : (v.log2 - 52) * 4503599627370496 + 4503599627370496 ≤ (u.log2 - 52) * 4503599627370496 := by
          have := Nat.mul_le_mul_right 4503599627370496 hlt
          omega
        omega
    omega

theorem roundW_val {x : Nat} (h : x < infW) : roundW (valW x) = x := by
  unfold roundW valW
  have hd := Nat.div_add_mod x 4503599627370496
  have hm := Nat.mod_lt x (show 0 < 4503599627370496 by decide)
  by_cases hs : x < 4503599627370496
  · rw [if_pos hs]
    by_cases h0 : x = 0
    · rw [if_pos h0, h0]
    · rw [if_neg h0]
      have : x.log2 < 52 := (Nat.log2_lt h0).2 (by rw [show (2 : Nat) ^ 52 = 4503599627370496 by decide]; exact hs)
      rw [show x.log2 - 52 = 0 by omega, rne_zero]
      omega
  · rw [if_neg hs]
    generalize hr : x % 4503599627370496 = r at *
    generalize hp : x / 4503599627370496 = p at *
    have hp1 : 1 ≤ p := by omega
    have hne : 4503599627370496 + r ≠ 0 := by omega
    have hl : (4503599627370496 + r).log2 = 52 := by
      apply Nat.le_antisymm
      · have : (4503599627370496 + r).log2 < 53 := (Nat.log2_lt hne).2 (by rw [show (2 : Nat) ^ 53 = 9007199254740992 by decide]; omega)
        omega
      · exact (Nat.le_log2 hne).2 (by rw [show (2 : Nat) ^ 52 = 4503599627370496 by decide]; omega)
    rw [if_neg (Nat.mul_ne_zero hne (by have := Nat.two_pow_pos (p - 1); omega)), log2_scale _ hne, hl, show 52 + (p - 1) - 52 = p - 1 by omega, rne_whole _ _ _ (Nat.le_refl _), Nat.sub_self, Nat.pow_zero, Nat.mul_one]
    have : (p - 1) * 4503599627370496 + 4503599627370496 = p * 4503599627370496 := by
      rw [← Nat.succ_mul]; congr 1; omega
    omega

theorem fadd_fin {x y : Nat} (hx : x < infW) (hy : y < infW) : fadd x y = roundW (valW x + valW y) := by
  obtain ⟨m, k, e1, v1⟩ := read_fin hx
  obtain ⟨n, l, e2, v2⟩ := read_fin hy
  unfold fadd Format.add
  rw [e1, e2]
  simp only [Datum.sum]
  have e3 := signed_min n l k
  rw [Int.min_comm, Nat.min_comm] at e3
  rw [signed_min, e3]
  simp only [Option.map_some, Option.getD_some]
  show double.nearest _ _ _ = _
  have h2 : ∀ (c d : Nat), (if ((c : Int) + (d : Int) = 0) then (false && false) else decide ((c : Int) + (d : Int) < 0)) = false := fun c d => by
    split
    · rfl
    · exact decide_eq_false (by omega)
  rw [h2]
  have e4 : min (-1074 + (k : Int)) (-1074 + (l : Int)) = -1074 + ((min k l : Nat) : Int) := by omega
  rw [e4]
  have e5 : ∀ (c d : Nat), ((c : Int) + (d : Int)).natAbs = c + d := fun c d => by omega
  rw [e5, nearest_round, Nat.add_mul]
  congr 1
  have a1 : m * 2 ^ (k - min k l) * 2 ^ min k l = m * 2 ^ k := by rw [Nat.mul_assoc, ← Nat.pow_add]; congr 2; omega
  have a2 : n * 2 ^ (l - min k l) * 2 ^ min k l = n * 2 ^ l := by rw [Nat.mul_assoc, ← Nat.pow_add]; congr 2; omega
  rw [a1, a2, v1, v2]
theorem fadd_inf_l {y : Nat} (hy : y ≤ infW) : fadd infW y = infW := by
  unfold fadd Format.add
  rw [read_inf]
  rcases Nat.lt_or_eq_of_le hy with hy | hy
  · obtain ⟨m, k, e1, _⟩ := read_fin hy
    rw [e1]; rfl
  · rw [hy, read_inf]; rfl
theorem fadd_inf_r {x : Nat} (hx : x ≤ infW) : fadd x infW = infW := by
  unfold fadd Format.add
  rw [read_inf]
  rcases Nat.lt_or_eq_of_le hx with hx | hx
  · obtain ⟨m, k, e1, _⟩ := read_fin hx
    rw [e1]; rfl
  · rw [hx, read_inf]; rfl
theorem fadd_mono {a b g : Nat} (h : a ≤ b) (hb : b ≤ infW) (hg : g ≤ infW) : fadd a g ≤ fadd b g := by
  rcases Nat.lt_or_eq_of_le hb with hb' | hb'
  · rcases Nat.lt_or_eq_of_le hg with hg' | hg'
    · rw [fadd_fin (by omega) hg', fadd_fin hb' hg']
      apply roundW_mono
      rcases Nat.lt_or_eq_of_le h with h | h
      · have := valW_lt h; omega
      · rw [h]; exact Nat.le_refl _
    · rw [hg', fadd_inf_r (by omega), fadd_inf_r hb]; exact Nat.le_refl _
  · rw [hb', fadd_inf_l hg]; exact fadd_le (by omega) hg
theorem fadd_ge {a g : Nat} (ha : a ≤ infW) (hg : g ≤ infW) : a ≤ fadd a g := by
  rcases Nat.lt_or_eq_of_le ha with ha' | ha'
  · rcases Nat.lt_or_eq_of_le hg with hg' | hg'
    · rw [fadd_fin ha' hg']
      have := roundW_mono (Nat.le_add_right (valW a) (valW g))
      rw [roundW_val ha'] at this
      exact this
    · rw [hg', fadd_inf_r ha]; exact ha
  · rw [ha', fadd_inf_l hg]; exact Nat.le_refl _
/-- A number from 1 on is written as a word from that of 1 on. -/
theorem nearest_one {m p : Nat} (h : 2 ^ p ≤ m) : oneW ≤ double.nearest false m (-(p : Int)) := by
  have hm : m ≠ 0 := by have := Nat.two_pow_pos p; omega
  have hl : p ≤ m.log2 := (Nat.le_log2 hm).2 h
  unfold Format.nearest
  have e1 : double.leastPlace = -1074 := by decide
  have e2 : double.binade = 4503599627370496 := by decide
  have e3 : double.fractionBits = 52 := rfl
  rw [if_neg hm, word_false, infRung_eq, e1, e2, e3]
  have e4 : max (-(p : Int) + (m.log2 : Int) - ((52 : Nat) : Int)) (-1074) = -(p : Int) + (m.log2 : Int) - ((52 : Nat) : Int) := by omega
  simp only [e4]
  have e5 : 1022 ≤ (-(p : Int) + (m.log2 : Int) - ((52 : Nat) : Int) - -1074).toNat := by omega
  have e6 : (-(p : Int) - (-(p : Int) + (m.log2 : Int) - ((52 : Nat) : Int))).toNat = 52 - m.log2 := by omega
  have e7 : ((-(p : Int) + (m.log2 : Int) - ((52 : Nat) : Int)) - -(p : Int)).toNat = m.log2 - 52 := by omega
  rw [e6, e7]
  have hk : 4503599627370496 ≤ Toward.even.cut false (m <<< (52 - m.log2)) (m.log2 - 52) := by
    by_cases hq : m.log2 ≤ 52
    · rw [show m.log2 - 52 = 0 by omega, cut_eq _ _ (Nat.zero_le _), rne_zero, Nat.shiftLeft_eq]
      have h1 := Nat.mul_le_mul_right (2 ^ (52 - m.log2)) (Nat.log2_self_le hm)
      rw [← Nat.pow_add, show m.log2 + (52 - m.log2) = 52 by omega] at h1
      exact h1
    · rw [show 52 - m.log2 = 0 by omega, Nat.shiftLeft_eq, Nat.pow_zero, Nat.mul_one, cut_eq _ _ (by omega)]
      refine Nat.le_trans ?_ (rne_ge _ _)
      rw [Nat.le_div_iff_mul_le (Nat.two_pow_pos _), show (4503599627370496 : Nat) = 2 ^ 52 by decide, ← Nat.pow_add, show 52 + (m.log2 - 52) = m.log2 by omega]
      exact Nat.log2_self_le hm
  generalize Toward.even.cut false (m <<< (52 - m.log2)) (m.log2 - 52) = K at *
  generalize (-(p : Int) + (m.log2 : Int) - ((52 : Nat) : Int) - -1074).toNat = E at *
  have h9 : 1022 * 4503599627370496 ≤ E * 4503599627370496 := Nat.mul_le_mul_right _ e5
  exact Nat.le_min.2 ⟨Nat.le_trans (show oneW ≤ 1022 * 4503599627370496 + 4503599627370496 by decide) (Nat.add_le_add h9 hk), by decide⟩
theorem fadd_zero {g : Nat} (hg : g ≤ infW) : fadd 0 g = g := by
  rcases Nat.lt_or_eq_of_le hg with hg' | hg'
  · rw [fadd_fin (by decide) hg', show valW 0 = 0 by decide, Nat.zero_add, roundW_val hg']
  · rw [hg', fadd_inf_r (by decide)]
end Go.Proofs.Ytcphalpcdcddpaa

/- Costs: no order costs less than the best one; the best and the greedy one are orders that cost what is said. No program in sight. -/
namespace Go.Proofs.Ytcphalpcdcddpaa
set_option linter.unusedVariables false

theorem bits_none {n s : Nat} (hs : s < 2 ^ n) (h : bitsS n s = List.replicate n false) : s = 0 := by
  rcases Nat.eq_zero_or_pos s with h0 | h0
  · exact h0
  · obtain ⟨i, hi, hb⟩ := bits_some (by omega) hs
    have e := bits_at (s := s) hi
    rw [h, List.getElem?_replicate, if_pos hi, hb] at e
    cases e
theorem bits_zero (n : Nat) : bitsS n 0 = List.replicate n false := by
  apply List.ext_getElem?
  intro j
  by_cases hj : j < n
  · rw [bits_at hj, List.getElem?_replicate, if_pos hj, Nat.zero_testBit]
  · rw [List.getElem?_eq_none_iff.2 (by rw [bits_len]; omega), List.getElem?_replicate, if_neg hj]
theorem setB_same {xs : List Bool} {i : Nat} {b c : Bool} (h : xs[i]? = some b) : (xs.set i c).set i b = xs := by
  apply List.ext_getElem?
  intro j
  rw [List.set_set, List.getElem?_set]
  by_cases e : i = j
  · subst e
    rw [if_pos rfl, if_pos (List.getElem?_eq_some_iff.1 h).1, h]
  · rw [if_neg e]
theorem setB_put {xs : List Bool} {i : Nat} {b c : Bool} (h : xs[i]? = some b) : (xs.set i c)[i]? = some c := by
  rw [List.getElem?_set, if_pos rfl, if_pos (List.getElem?_eq_some_iff.1 h).1]

theorem setOk_of {ls : List LitZ} {xs : List Int} {inn : List Bool} (h : setW ls.length xs = some inn) (hs : stands ls inn) : setOk ls xs = some inn := by
  unfold setOk
  rw [h]
  exact if_pos hs
theorem setOk_inv {ls : List LitZ} {xs : List Int} {inn : List Bool} (h : setOk ls xs = some inn) : setW ls.length xs = some inn ∧ stands ls inn := by
  unfold setOk at h
  split at h
  · rename_i k hk
    split at h
    · rename_i hs; cases h; exact ⟨hk, hs⟩
    · cases h
  · cases h
theorem guessOf_of (S : List StatZ) {ls : List LitZ} {xs : List Int} {inn : List Bool} (h : setOk ls xs = some inn) : guessOf S ls xs = guessW S ls inn := by
  unfold guessOf
  rw [h]
theorem costTo_inf {S : List StatZ} {ls : List LitZ} (K : Known S ls) (xs : List Int) : ∀ i, costTo S ls xs i ≤ infW
  | 0 => Nat.zero_le _
  | i + 1 => fadd_le (costTo_inf K xs i) (guessOf_le K _)
theorem costTo_app (S : List StatZ) (ls : List LitZ) (xs ys : List Int) : ∀ k, k ≤ xs.length → costTo S ls (xs ++ ys) k = costTo S ls xs k
  | 0, _ => rfl
  | k + 1, h => by
    show fadd (costTo S ls (xs ++ ys) k) (guessOf S ls ((xs ++ ys).take (k + 1))) = fadd (costTo S ls xs k) (guessOf S ls (xs.take (k + 1)))
    rw [costTo_app S ls xs ys k (by omega), List.take_append_of_le_length h]

/-- A beginning of an order: which literals it has, what it costs. -/
structure Begun (S : List StatZ) (ls : List LitZ) (xs : List Int) (inn : List Bool) (c : Nat) : Prop where
  set : setW ls.length xs = some inn
  st : ∀ i, i ≤ xs.length → (setOk ls (xs.take i)).isSome = true
  cost : costTo S ls xs xs.length = c
theorem Begun.nil (S : List StatZ) (ls : List LitZ) : Begun S ls [] (List.replicate ls.length false) 0 :=
  ⟨rfl, fun i hi => by rw [List.take_nil, setOk_of (inn := List.replicate ls.length false) rfl (stands_none _)]; rfl, rfl⟩
theorem Begun.snoc {S : List StatZ} {ls : List LitZ} {xs : List Int} {inn : List Bool} {c : Nat} (t : Begun S ls xs inn c) {i : Nat} (hi : inn[i]? = some false) (hs : stands ls (inn.set i true)) : Begun S ls (xs ++ [(i : Int)]) (inn.set i true) (fadd c (guessW S ls (inn.set i true))) := by
  have h1 := setW_snoc t.set hi
  have h2 := setOk_of h1 hs
  refine ⟨h1, fun k hk => ?_, ?_⟩
  · rcases Nat.lt_or_ge xs.length k with h | h
    · rw [List.take_of_length_le (by rw [List.length_append]; simp; omega), h2]; rfl
    · rw [List.take_append_of_le_length h]; exact t.st k h
  · rw [List.length_append]
    show fadd (costTo S ls (xs ++ [(i : Int)]) xs.length) (guessOf S ls ((xs ++ [(i : Int)]).take (xs.length + 1))) = _
    rw [costTo_app S ls xs _ _ (Nat.le_refl _), t.cost, List.take_of_length_le (by rw [List.length_append]; simp), guessOf_of S h2]

theorem plan_begun {S : List StatZ} {ls : List LitZ} : ∀ (s : Nat) (p : Plan), s < 2 ^ ls.length → planS S ls s = some p → Begun S ls p.1 (bitsS ls.length s) p.2 := by
  intro s
  induction s using Nat.strongRecOn with
  | _ s ih =>
    intro p hs h
    rw [plan_eq] at h
    unfold rowP at h
    split at h
    · rename_i h0
      cases h
      subst h0
      rw [bits_zero]
      exact Begun.nil S ls
    · split at h
      · rename_i hst
        obtain ⟨i, hi, hq⟩ := leastP_mem h
        unfold candP at hq
        split at hq
        · rename_i hb
          cases hT : planS S ls (s - 2 ^ i) with
          | none => rw [hT] at hq; cases hq
          | some q =>
            rw [hT] at hq
            cases hq
            have hle := (subBit i s hb).1
            have hp := Nat.two_pow_pos i
            have t := ih (s - 2 ^ i) (by omega) q (by omega) hT
            rw [bits_sub hb] at t
            have hbit : (bitsS ls.length s)[i]? = some true := by rw [bits_at hi, hb]
            have hset := setB_same (c := false) hbit
            have t' := t.snoc (setB_put hbit) (by rw [hset]; exact hst)
            rw [hset] at t'
            exact t'
        · cases hq
      · cases h

theorem leastP_le {q : Nat → Option Plan} {c : Plan} : ∀ {n i : Nat}, i < n → q i = some c → ∃ p, leastP q n = some p ∧ p.2 ≤ c.2
  | n + 1, i, hi, h => by
    by_cases e : i = n
    · subst e
      show ∃ p, pickP (leastP q i) (q i) = some p ∧ _
      rw [h]
      cases hb : leastP q i with
      | none => exact ⟨c, rfl, Nat.le_refl _⟩
      | some b =>
        show ∃ p, (if betterP c b then some c else some b) = some p ∧ _
        split
        · exact ⟨c, rfl, Nat.le_refl _⟩
        · rename_i hn
          refine ⟨b, rfl, ?_⟩
          rcases Nat.lt_or_ge c.2 b.2 with hl | hl
          · exact absurd (by unfold betterP; rw [decide_eq_true hl]; rfl) hn
          · exact hl
    · obtain ⟨b, hb, hle⟩ := leastP_le (n := n) (i := i) (by omega) h
      show ∃ p, pickP (leastP q n) (q n) = some p ∧ _
      rw [hb]
      cases hx : q n with
      | none => exact ⟨b, rfl, hle⟩
      | some x =>
        show ∃ p, (if betterP x b then some x else some b) = some p ∧ _
        split
        · rename_i hbt
          refine ⟨x, rfl, ?_⟩
          unfold betterP at hbt
          rw [Bool.or_eq_true, Bool.and_eq_true, decide_eq_true_eq, decide_eq_true_eq] at hbt
          rcases hbt with h | ⟨h, _⟩ <;> omega
        · exact ⟨b, rfl, hle⟩

theorem setW_last {n : Nat} {xs : List Int} {x : Int} {inn : List Bool} (h : setW n (xs ++ [x]) = some inn) : ∃ (i : Nat) (k : List Bool), setW n xs = some k ∧ k[i]? = some false ∧ inn = k.set i true := by
  unfold setW at h ⊢
  rw [List.foldl_append] at h
  cases hk : xs.foldl putNum (some (List.replicate n false)) with
  | none => rw [hk] at h; cases h
  | some k =>
    rw [hk] at h
    have h' : (if 0 ≤ x ∧ k[x.toNat]? = some false then some (k.set x.toNat true) else none) = some inn := h
    split at h'
    · rename_i hc
      cases h'
      exact ⟨x.toNat, k, rfl, hc.2, rfl⟩
    · cases h'

theorem plan_under {S : List StatZ} {ls : List LitZ} (K : Known S ls) {xs : List Int} (ho : orderOk ls xs) : ∀ i, i ≤ xs.length → ∃ inn, setW ls.length (xs.take i) = some inn ∧ inn.length = ls.length ∧ inn.countP id = i ∧ ∀ s, s < 2 ^ ls.length → bitsS ls.length s = inn → ∃ q, planS S ls s = some q ∧ q.2 ≤ costTo S ls xs i
  | 0, _ => ⟨List.replicate ls.length false, rfl, List.length_replicate, by rw [List.countP_eq_zero]; intro b hb; rw [(List.mem_replicate.1 hb).2]; simp, fun s hs hb => by
      obtain rfl := bits_none hs hb
      exact ⟨([], 0), by rw [plan_eq]; unfold rowP; rw [if_pos rfl], Nat.le_refl _⟩⟩
  | i + 1, hi => by
    obtain ⟨inn, h1, h2, h3, ih⟩ := plan_under K ho i (by omega)
    obtain ⟨inn', hin⟩ := Option.isSome_iff_exists.1 (ho.2 (i + 1) hi)
    obtain ⟨hw, hst⟩ := setOk_inv hin
    have hg := guessOf_of S hin
    have hx : xs[i]? = some xs[i] := List.getElem?_eq_getElem (by omega)
    have htk : xs.take (i + 1) = xs.take i ++ [xs[i]] := by rw [List.take_add_one, hx]; rfl
    rw [htk] at hw
    obtain ⟨j, k, e1, e2, rfl⟩ := setW_last hw
    rw [h1] at e1
    cases e1
    have hj : j < ls.length := by rw [← h2]; exact (List.getElem?_eq_some_iff.1 e2).1
    refine ⟨inn.set j true, by rw [htk]; exact hw, by rw [List.length_set]; exact h2, by rw [count_set e2, h3], fun s hs hb => ?_⟩
    have hbt : s.testBit j = true := by
      have e := bits_at (s := s) hj
      rw [hb, setB_put e2] at e
      first | exact Option.some.inj e | exact (Option.some.inj e).symm
    have h0 : s ≠ 0 := by rintro rfl; rw [Nat.zero_testBit] at hbt; cases hbt
    have hpj := Nat.two_pow_pos j
    obtain ⟨q, hq, hle⟩ := ih (s - 2 ^ j) (by omega) (by rw [bits_sub hbt, hb, setB_same e2])
    have hc : candP (planS S ls) (guessW S ls (bitsS ls.length s)) s j = some (q.1 ++ [(j : Int)], fadd q.2 (guessW S ls (bitsS ls.length s))) := by
      unfold candP
      rw [if_pos hbt, hq]; rfl
    obtain ⟨p, hp, hpl⟩ := leastP_le hj hc
    refine ⟨p, by rw [plan_eq]; unfold rowP; rw [if_neg h0, if_pos (by rw [hb]; exact hst)]; exact hp, Nat.le_trans hpl ?_⟩
    show fadd q.2 _ ≤ fadd (costTo S ls xs i) (guessOf S ls (xs.take (i + 1)))
    rw [hg, hb]
    exact fadd_mono hle (costTo_inf K xs i) (guessW_le K _)
theorem set_full {n : Nat} {inn : List Bool} (h : inn.length = n) (hc : inn.countP id = n) : inn = List.replicate n true := by
  refine List.eq_replicate_iff.2 ⟨h, fun b hb => ?_⟩
  have := List.countP_eq_length.1 (hc.trans h.symm) b hb
  exact this
/-- No order costs less. -/
theorem best_least {S : List StatZ} {ls : List LitZ} (K : Known S ls) {p : Plan} (h : planS S ls (2 ^ ls.length - 1) = some p) {xs : List Int} (ho : orderOk ls xs) : p.2 ≤ costTo S ls xs xs.length := by
  obtain ⟨inn, _, h2, h3, ih⟩ := plan_under (S := S) K ho xs.length (Nat.le_refl _)
  have hp := Nat.two_pow_pos ls.length
  obtain ⟨q, hq, hle⟩ := ih (2 ^ ls.length - 1) (by omega) (by rw [bits_all, set_full h2 (by rw [h3, ho.1])])
  rw [h] at hq
  cases hq
  exact hle

theorem greed_begun {S : List StatZ} {ls : List LitZ} (K : Known S ls) (hall : stands ls (List.replicate ls.length true)) : ∀ {k : Nat}, k ≤ ls.length → Begun S ls (greedG S ls k).1 (greedG S ls k).2.2 (greedG S ls k).2.1
  | 0, _ => Begun.nil S ls
  | k + 1, hk => by
    have t := greed_begun K hall (k := k) (by omega)
    obtain ⟨i, hi, h1, h2, h3⟩ := next_some (S := S) hall (by omega) (greed_ok K hall (k := k) (by omega))
    have e : greedG S ls (k + 1) = ((greedG S ls k).1 ++ [(i : Int)], fadd (greedG S ls k).2.1 (guessW S ls ((greedG S ls k).2.2.set i true)), (greedG S ls k).2.2.set i true) := by
      show stepG S ls (greedG S ls k) = _
      unfold stepG
      rw [h3]; rfl
    rw [e]
    exact t.snoc h1 h2
theorem Begun.order {S : List StatZ} {ls : List LitZ} {xs : List Int} {inn : List Bool} {c : Nat} (t : Begun S ls xs inn c) (h : xs.length = ls.length) : orderOk ls xs := ⟨h, t.st⟩

/-- All that is wanted of the best order. -/
structure BestP (r : RuleZ) (S : List StatZ) (l : List Int) (c : Nat) : Prop where
  ok : bestE r S = (l, c, 0)
  len : l.length = r.2.1.length
  ord : orderOk r.2.1 l
  cost : costTo S r.2.1 l l.length = c
  known : Known S r.2.1
  le : c ≤ infW
  least : ∀ xs, orderOk r.2.1 xs → c ≤ costTo S r.2.1 xs xs.length
theorem best_p {r : RuleZ} {S : List StatZ} (h : errR r S = 0) (hn : ¬ 12 < r.2.1.length) : ∃ l c, BestP r S l c := by
  obtain ⟨pp, hp⟩ := best_some (S := S) (errR_zero h).1
  have K := Known.of (errR_zero h).2
  have h2 := Nat.two_pow_pos r.2.1.length
  have t := plan_begun _ _ (by omega) hp
  have hl : pp.1.length = r.2.1.length := by
    rw [(plan_ok K _ _ hp).2, bits_all, List.countP_eq_length.2 (fun b hb => by rw [(List.mem_replicate.1 hb).2]; rfl), List.length_replicate]
  exact ⟨pp.1, pp.2, bestE_some h hn hp, hl, t.order hl, t.cost, K, (plan_ok K _ _ hp).1, fun xs ho => best_least K hp ho⟩
structure GreedP (r : RuleZ) (S : List StatZ) (l : List Int) (c : Nat) : Prop where
  ok : greedyE r S = (l, c, 0)
  len : l.length = r.2.1.length
  ord : orderOk r.2.1 l
  cost : costTo S r.2.1 l l.length = c
  le : c ≤ infW
theorem greed_p {r : RuleZ} {S : List StatZ} (h : errR r S = 0) : ∃ l c, GreedP r S l c := by
  have K := Known.of (errR_zero h).2
  have hall := full_stands (errR_zero h).1
  have t := greed_begun K hall (k := r.2.1.length) (Nat.le_refl _)
  have g := greed_ok K hall (k := r.2.1.length) (Nat.le_refl _)
  exact ⟨_, _, greedyE_ok h, g.len, t.order g.len, t.cost, g.cost⟩
theorem costE_of {r : RuleZ} {S : List StatZ} (h : errR r S = 0) {xs : List Int} (ho : orderOk r.2.1 xs) : costE r S xs = (costTo S r.2.1 xs xs.length, 0) := by
  unfold costE
  rw [if_pos h, if_pos ho]
theorem costE_no {r : RuleZ} {S : List StatZ} (h : errR r S = 0) {xs : List Int} (ho : ¬ orderOk r.2.1 xs) : costE r S xs = (0, 2) := by
  unfold costE
  rw [if_pos h, if_neg ho]
theorem guessE_of {r : RuleZ} {S : List StatZ} (h : errR r S = 0) {xs : List Int} (ho : (setOk r.2.1 xs).isSome = true) : guessE r S xs = (guessOf S r.2.1 xs, 0) := by
  obtain ⟨inn, hi⟩ := Option.isSome_iff_exists.1 ho
  unfold guessE guessOf
  rw [if_pos h, hi]
end Go.Proofs.Ytcphalpcdcddpaa
