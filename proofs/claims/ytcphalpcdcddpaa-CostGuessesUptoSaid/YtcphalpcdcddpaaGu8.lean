/- Proved here: the statement CostGuessesUptoSaid: the law returns true for every input of the bound that the row names and leaves its arguments as they were. No condition of its own. -/
import Derived.Test.YtcphalpcdcddpaaGu7
import Derived.Deep.CondSized
/- The law of costs: the state of CostGuesses between two rounds; what its calls answer in it. (Written by mk_law11.py.) -/
namespace Go.Proofs.Ytcphalpcdcddpaa
open Go.RowKit
set_option linter.unusedVariables false

theorem RuleM.old {w0 w1 w : World} {hs : List TermZ} {ls : List LitZ} {ha : Option Addr} {hn hcap : Nat} {ba : Option Addr} {n bcap : Nat} (h : RuleM w1 w hs ls ha hn hcap ba n bcap) (hs' : w0.heap.size ≤ w1.heap.size) : RuleM w0 w hs ls ha hn hcap ba n bcap := by
  obtain ⟨h1, g, rest, vs, e, a1, a2, a3, a4, a5, hB, hx⟩ := h
  exact ⟨h1.old hs', g, rest, vs, e, a1, a2, a3, Nat.le_trans hs' a4, a5, hB, fun x hxx => (hx x hxx).old hs'⟩
theorem IntsM.old {w0 w1 w : World} {g n cap : Nat} {xs : List Int} (h : IntsM w1 w g n cap xs) (hs : w0.heap.size ≤ w1.heap.size) : IntsM w0 w g n cap xs := by
  obtain ⟨rest, hn, h1, h2, hg, hB, hl⟩ := h
  exact ⟨rest, hn, h1, h2, Nat.le_trans hs hg, hB, hl⟩
theorem StatsZ.old {w0 w1 w : World} {g n cap : Nat} {Z : List (StatZ × (Nat × Nat))} (h : StatsZ w1 w g n cap Z) (hs : w0.heap.size ≤ w1.heap.size) : StatsZ w0 w g n cap Z := by
  obtain ⟨rest, h1, h2, h3, h4, h5, h6, h7⟩ := h.body
  exact ⟨rest, h1, h2, h3, Nat.le_trans hs h4, h5, h6, fun x hx => by
    obtain ⟨r, a, b, c, d⟩ := h7 x hx
    exact ⟨r, a, b, Nat.le_trans hs c, d⟩⟩
/-- The blocks that are written over. -/
def OwnG (ga gb gs : Nat) (vs : List (Nat × Nat)) (k : Nat) : Prop := k = ga ∨ k = gb ∨ blksZ gs vs k
abbrev Old (w : World) (k : Nat) : Prop := k < w.heap.size
structure St (w : World) (p : ByteArray) (hs : List TermZ) (ls : List LitZ) (ha : Option Addr) (hn hcap : Nat) (ba : Option Addr) (n bcap : Nat) (ha' : Option Addr) (hcap' : Nat) (ba' : Option Addr) (bcap' gr gx ga ca gb cb gs cs ns no nk : Nat) (vs : List (Nat × Nat)) (W : World) (us bs xs ys : List Int) (Z : List (StatZ × (Nat × Nat))) (K : List StatZ) (sa : Option Addr) (sc : Nat) (oa : Option Addr) (oc : Nat) (ka : Option Addr) : Prop where
  hhn : hn = hs.length
  hhl : hn ≤ 1048576
  hh : TermsAt w (Old w) ha hs
  hbn : n = ls.length
  h : LitsAt w (Old w) ba ls
  hf : Fit ls
  ext : Ext w W
  rbox : Blk W gr [.string p, .slice ha hn hcap, .slice ba n bcap] 27
  xbox : Blk W gx [.string p, .slice ha' hn hcap', .slice ba' n bcap'] 27
  rule : RuleM w W hs ls ha' hn hcap' ba' n bcap'
  a : IntsM w W ga ns ca us
  b : IntsM w W gb no cb bs
  ne : ga ≠ gb
  z : StatsZ w W gs nk cs Z
  vz : Z.map (·.2) = vs
  xl : xs.length = ns
  xc : ns ≤ sc
  xm : sc ≤ maxLen
  xat : CellsAt W sa (ints xs)
  xoff : xs ≠ [] → Off (OwnG ga gb gs vs) sa
  yl : ys.length = no
  yc : no ≤ oc
  ym : oc ≤ maxLen
  yat : CellsAt W oa (ints ys)
  yoff : ys ≠ [] → Off (OwnG ga gb gs vs) oa
  kl : K.length = nk
  kat : ∃ M, KnownIn W M ka K ∧ ∀ k, M k → ¬ OwnG ga gb gs vs k
  kf : StatsFit K
  nsl : ns ≤ 1048576
  nol : no ≤ 1048576
section
variable {w : World} {p : ByteArray} {hs : List TermZ} {ls : List LitZ} {ha : Option Addr} {hn hcap : Nat} {ba : Option Addr} {n bcap : Nat} {ha' : Option Addr} {hcap' : Nat} {ba' : Option Addr} {bcap' gr gx ga ca gb cb gs cs ns no nk : Nat} {vs : List (Nat × Nat)} {W : World} {us bs xs ys : List Int} {Z : List (StatZ × (Nat × Nat))} {K : List StatZ} {sa : Option Addr} {sc : Nat} {oa : Option Addr} {oc : Nat} {ka : Option Addr}
theorem St.to {W' : World} (s : St w p hs ls ha hn hcap ba n bcap ha' hcap' ba' bcap' gr gx ga ca gb cb gs cs ns no nk vs W us bs xs ys Z K sa sc oa oc ka) (hk : Ext W W') : St w p hs ls ha hn hcap ba n bcap ha' hcap' ba' bcap' gr gx ga ca gb cb gs cs ns no nk vs W' us bs xs ys Z K sa sc oa oc ka :=
  { hhn := s.hhn, hhl := s.hhl, hh := s.hh, hbn := s.hbn, h := s.h, hf := s.hf, ext := s.ext.trans hk, rbox := s.rbox.ext hk, xbox := s.xbox.ext hk, rule := s.rule.ext hk, a := s.a.ext hk, b := s.b.ext hk, ne := s.ne, z := s.z.kp hk fun _ _ => id, vz := s.vz, xl := s.xl, xc := s.xc, xm := s.xm, xat := s.xat.ext hk, xoff := s.xoff, yl := s.yl, yc := s.yc, ym := s.ym, yat := s.yat.ext hk, yoff := s.yoff, kl := s.kl, kat := (by obtain ⟨M, h1, h2⟩ := s.kat; exact ⟨M, h1.ext hk, h2⟩), kf := s.kf, nsl := s.nsl, nol := s.nol }
theorem St.guess (s : St w p hs ls ha hn hcap ba n bcap ha' hcap' ba' bcap' gr gx ga ca gb cb gs cs ns no nk vs W xs ys xs ys Z K sa sc oa oc ka) (hZ : Z.map (·.1) = K) : Calls Try.prog 11 #[ruleV p ha' hn hcap' ba' n bcap', .slice (some ⟨ga, 0, none⟩) ns ca, .slice (some ⟨gs, 0, none⟩) nk cs] W (RetN W fun w' v => v = .tuple #[.float .f64 (guessE ((p, hs, ()), ls, ()) K xs).1, .int .i64 (guessE ((p, hs, ()), ls, ()) K xs).2]) := by
  have hz := s.z.m
  rw [hZ] at hz
  have hc := hz.mark.1
  have hnl := s.nsl
  exact guessE_any p hs ls ha' hn hcap' ba' n bcap' xs _ ns ca K _ nk cs W (New w) s.hhn (s.rule.terms (terms_fit s.hh)) s.hhl s.hbn (s.rule.lits (lits_all s.h)) s.hf s.xl.symm s.a.at (by omega) s.kl.symm (by omega) hz.at s.kf
theorem St.cost (s : St w p hs ls ha hn hcap ba n bcap ha' hcap' ba' bcap' gr gx ga ca gb cb gs cs ns no nk vs W xs ys xs ys Z K sa sc oa oc ka) (hZ : Z.map (·.1) = K) : Calls Try.prog 12 #[ruleV p ha' hn hcap' ba' n bcap', .slice (some ⟨gb, 0, none⟩) no cb, .slice (some ⟨gs, 0, none⟩) nk cs] W (RetN W fun w' v => v = .tuple #[.float .f64 (costE ((p, hs, ()), ls, ()) K ys).1, .int .i64 (costE ((p, hs, ()), ls, ()) K ys).2]) := by
  have hz := s.z.m
  rw [hZ] at hz
  have hc := hz.mark.1
  have hnl := s.nol
  obtain ⟨_, _, h1, h2, _⟩ := s.b
  exact costE_any p hs ls ha' hn hcap' ba' n bcap' ys _ no cb K _ nk cs W (New w) s.hhn (s.rule.terms (terms_fit s.hh)) s.hhl s.hbn (s.rule.lits (lits_all s.h)) s.hf s.yl.symm s.b.at (by omega) (by omega) h2 s.kl.symm (by omega) hz.at s.kf
theorem St.plain (s : St w p hs ls ha hn hcap ba n bcap ha' hcap' ba' bcap' gr gx ga ca gb cb gs cs ns no nk vs W us bs xs ys Z K sa sc oa oc ka) (kc : Nat) : Calls Try.prog 14 #[.slice ka nk kc] W (RetN W fun w' v => ∃ a c, v = .slice a nk c ∧ nk ≤ c ∧ c ≤ maxLen ∧ StatsAt w' a K) := by
  obtain ⟨M, hk, _⟩ := s.kat
  exact plain_any K ka nk kc W s.kl.symm hk.at s.kf
theorem St.refGuess (s : St w p hs ls ha hn hcap ba n bcap ha' hcap' ba' bcap' gr gx ga ca gb cb gs cs ns no nk vs W us bs xs ys Z K sa sc oa oc ka) {a : Option Addr} {c : Nat} (hS : StatsAt W a K) : Calls Try.prog 13 #[ruleV p ha hn hcap ba n bcap, .slice sa ns sc, .slice a nk c] W (RetN W fun w' v => v = .tuple #[.float .f64 (guessE ((p, hs, ()), ls, ()) K xs).1, .int .i64 (guessE ((p, hs, ()), ls, ()) K xs).2]) := by
  have hnl := s.nsl
  exact refGuessE_any p hs ls ha hn hcap ba n bcap xs sa ns sc K a nk c W (Old w) s.hhn (s.hh.ext s.ext) s.hhl s.hbn (s.h.ext s.ext) s.hf s.xl.symm s.xat (by omega) s.kl.symm hS s.kf
theorem St.refCost (s : St w p hs ls ha hn hcap ba n bcap ha' hcap' ba' bcap' gr gx ga ca gb cb gs cs ns no nk vs W us bs xs ys Z K sa sc oa oc ka) {a : Option Addr} {c : Nat} (hS : StatsAt W a K) : Calls Try.prog 15 #[ruleV p ha hn hcap ba n bcap, .slice oa no oc, .slice a nk c] W (RetN W fun w' v => v = .tuple #[.float .f64 (costE ((p, hs, ()), ls, ()) K ys).1, .int .i64 (costE ((p, hs, ()), ls, ()) K ys).2]) := by
  have hnl := s.nol
  exact refCostE_any p hs ls ha hn hcap ba n bcap ys oa no oc K a nk c W (Old w) s.hhn (s.hh.ext s.ext) s.hhl s.hbn (s.h.ext s.ext) s.hf s.yl.symm s.yat (by omega) s.yc s.ym s.kl.symm hS s.kf
theorem St.stays (s : St w p hs ls ha hn hcap ba n bcap ha' hcap' ba' bcap' gr gx ga ca gb cb gs cs ns no nk vs W us bs xs ys Z K sa sc oa oc ka) : Calls Try.prog 17 #[ruleV p ha' hn hcap' ba' n bcap', ruleV p ha hn hcap ba n bcap] W (RetN W fun w' v => v = .bool true) :=
  stays_any p hs ls w ha' ha hn hcap' hcap ba' ba n bcap' bcap W (Old w) s.hhn (s.hh.ext s.ext) s.hhl s.hbn (s.h.ext s.ext) s.hf s.rule
theorem St.intsA (s : St w p hs ls ha hn hcap ba n bcap ha' hcap' ba' bcap' gr gx ga ca gb cb gs cs ns no nk vs W xs bs xs ys Z K sa sc oa oc ka) : Calls Try.prog 18 #[.slice (some ⟨ga, 0, none⟩) ns ca, .slice sa ns sc] W (RetN W fun w' v => v = .bool true) := by
  have hnl := s.nsl
  exact ints_any xs _ _ ns ca sc W s.xl.symm s.a.at s.xat (by omega)
theorem St.intsB (s : St w p hs ls ha hn hcap ba n bcap ha' hcap' ba' bcap' gr gx ga ca gb cb gs cs ns no nk vs W us ys xs ys Z K sa sc oa oc ka) : Calls Try.prog 18 #[.slice (some ⟨gb, 0, none⟩) no cb, .slice oa no oc] W (RetN W fun w' v => v = .bool true) := by
  have hnl := s.nol
  exact ints_any ys _ _ no cb oc W s.yl.symm s.b.at s.yat (by omega)
theorem St.kept (s : St w p hs ls ha hn hcap ba n bcap ha' hcap' ba' bcap' gr gx ga ca gb cb gs cs ns no nk vs W us bs xs ys Z K sa sc oa oc ka) (hZ : Z.map (·.1) = K) (kc : Nat) : Calls Try.prog 19 #[.slice (some ⟨gs, 0, none⟩) nk cs, .slice ka nk kc] W (RetN W fun w' v => v = .bool true) := by
  obtain ⟨M, hk, _⟩ := s.kat
  have hz := s.z.m
  rw [hZ] at hz
  exact kept_any K w gs nk cs ka kc W s.kl.symm hk.at s.kf hz
theorem St.back (s : St w p hs ls ha hn hcap ba n bcap ha' hcap' ba' bcap' gr gx ga ca gb cb gs cs ns no nk vs W us bs xs ys Z K sa sc oa oc ka) : Calls Try.prog 20 #[.slice sa ns sc] W (RetN W fun w' v => ∃ a c, ∃ zs : List Int, v = .slice a ns c ∧ zs.length = ns ∧ ns ≤ c ∧ c ≤ maxLen ∧ CellsAt w' a (ints zs) ∧ ∀ x, a = some x → W.heap.size ≤ x.block) :=
  backward_any xs sa ns sc W s.xl.symm s.xat s.nsl
theorem St.backO (s : St w p hs ls ha hn hcap ba n bcap ha' hcap' ba' bcap' gr gx ga ca gb cb gs cs ns no nk vs W us bs xs ys Z K sa sc oa oc ka) : Calls Try.prog 20 #[.slice oa no oc] W (RetN W fun w' v => ∃ a c, ∃ zs : List Int, v = .slice a no c ∧ zs.length = no ∧ no ≤ c ∧ c ≤ maxLen ∧ CellsAt w' a (ints zs) ∧ ∀ x, a = some x → W.heap.size ≤ x.block) :=
  backward_any ys oa no oc W s.yl.symm s.yat s.nol
theorem St.others (s : St w p hs ls ha hn hcap ba n bcap ha' hcap' ba' bcap' gr gx ga ca gb cb gs cs ns no nk vs W us bs xs ys Z K sa sc oa oc ka) (kc : Nat) : Calls Try.prog 21 #[.slice ka nk kc] W (RetN W fun w' v => ∃ a c, ∃ T : List StatZ, v = .slice a nk c ∧ nk ≤ c ∧ c ≤ maxLen ∧ T.length = nk ∧ KnownIn w' (New W) a T ∧ AlikeTo K T nk) := by
  obtain ⟨M, hk, _⟩ := s.kat
  exact others_any K ka nk kc W s.kl.symm hk.at s.kf

/-- What lies where. -/
theorem St.own_lt (s : St w p hs ls ha hn hcap ba n bcap ha' hcap' ba' bcap' gr gx ga ca gb cb gs cs ns no nk vs W us bs xs ys Z K sa sc oa oc ka) : ∀ k, OwnG ga gb gs vs k → k < W.heap.size ∧ w.heap.size ≤ k := by
  rintro k (rfl | rfl | h)
  · obtain ⟨_, _, _, _, h1, h2, _⟩ := s.a
    exact ⟨h2.lt, h1⟩
  · obtain ⟨_, _, _, _, h1, h2, _⟩ := s.b
    exact ⟨h2.lt, h1⟩
  · rw [← s.vz] at h
    exact s.z.lt k h
theorem St.own_ty (s : St w p hs ls ha hn hcap ba n bcap ha' hcap' ba' bcap' gr gx ga ca gb cb gs cs ns no nk vs W us bs xs ys Z K sa sc oa oc ka) : ∀ k, OwnG ga gb gs vs k → ∃ cs e, Blk W k cs e ∧ (e = 3 ∨ e = 56 ∨ e = 37) := by
  rintro k (rfl | rfl | h)
  · obtain ⟨_, _, _, _, h1, h2, _⟩ := s.a
    exact ⟨_, _, h2, .inl rfl⟩
  · obtain ⟨_, _, _, _, h1, h2, _⟩ := s.b
    exact ⟨_, _, h2, .inl rfl⟩
  · rw [← s.vz] at h
    obtain ⟨cs, e, hb, h⟩ := s.z.ty k h
    exact ⟨cs, e, hb, .inr h⟩
theorem St.own_not (s : St w p hs ls ha hn hcap ba n bcap ha' hcap' ba' bcap' gr gx ga ca gb cb gs cs ns no nk vs W us bs xs ys Z K sa sc oa oc ka) {e : TypeId} (he : e ≠ 3 ∧ e ≠ 56 ∧ e ≠ 37) {k : Nat} {cs : List Value} (hb : Blk W k cs e) : ¬ OwnG ga gb gs vs k := fun h => by
  obtain ⟨cs', e', hb', h⟩ := s.own_ty k h
  have := blk_ne hb hb'
  rcases h with h | h | h
  · exact he.1 (this.trans h)
  · exact he.2.1 (this.trans h)
  · exact he.2.2 (this.trans h)
theorem St.new_off (s : St w p hs ls ha hn hcap ba n bcap ha' hcap' ba' bcap' gr gx ga ca gb cb gs cs ns no nk vs W us bs xs ys Z K sa sc oa oc ka) {a : Option Addr} (h : ∀ x, a = some x → W.heap.size ≤ x.block) : Off (OwnG ga gb gs vs) a := fun x hx ho => by
  have h1 := h x hx
  have h2 := (s.own_lt _ ho).1
  omega
theorem St.setNew (s : St w p hs ls ha hn hcap ba n bcap ha' hcap' ba' bcap' gr gx ga ca gb cb gs cs ns no nk vs W us bs xs ys Z K sa sc oa oc ka) {a : Option Addr} {c : Nat} {zs : List Int} (h1 : zs.length = ns) (h2 : ns ≤ c) (h3 : c ≤ maxLen) (h4 : CellsAt W a (ints zs)) (h5 : Off (OwnG ga gb gs vs) a) : St w p hs ls ha hn hcap ba n bcap ha' hcap' ba' bcap' gr gx ga ca gb cb gs cs ns no nk vs W us bs zs ys Z K a c oa oc ka :=
  { hhn := s.hhn, hhl := s.hhl, hh := s.hh, hbn := s.hbn, h := s.h, hf := s.hf, ext := s.ext, rbox := s.rbox, xbox := s.xbox, rule := s.rule, a := s.a, b := s.b, ne := s.ne, z := s.z, vz := s.vz, xl := h1, xc := h2, xm := h3, xat := h4, xoff := fun _ => h5, yl := s.yl, yc := s.yc, ym := s.ym, yat := s.yat, yoff := s.yoff, kl := s.kl, kat := s.kat, kf := s.kf, nsl := s.nsl, nol := s.nol }
theorem St.ordNew (s : St w p hs ls ha hn hcap ba n bcap ha' hcap' ba' bcap' gr gx ga ca gb cb gs cs ns no nk vs W us bs xs ys Z K sa sc oa oc ka) {a : Option Addr} {c : Nat} {zs : List Int} (h1 : zs.length = no) (h2 : no ≤ c) (h3 : c ≤ maxLen) (h4 : CellsAt W a (ints zs)) (h5 : Off (OwnG ga gb gs vs) a) : St w p hs ls ha hn hcap ba n bcap ha' hcap' ba' bcap' gr gx ga ca gb cb gs cs ns no nk vs W us bs xs zs Z K sa sc a c ka :=
  { hhn := s.hhn, hhl := s.hhl, hh := s.hh, hbn := s.hbn, h := s.h, hf := s.hf, ext := s.ext, rbox := s.rbox, xbox := s.xbox, rule := s.rule, a := s.a, b := s.b, ne := s.ne, z := s.z, vz := s.vz, xl := s.xl, xc := s.xc, xm := s.xm, xat := s.xat, xoff := s.xoff, yl := h1, yc := h2, ym := h3, yat := h4, yoff := fun _ => h5, kl := s.kl, kat := s.kat, kf := s.kf, nsl := s.nsl, nol := s.nol }
theorem St.knownNew (s : St w p hs ls ha hn hcap ba n bcap ha' hcap' ba' bcap' gr gx ga ca gb cb gs cs ns no nk vs W us bs xs ys Z K sa sc oa oc ka) {a : Option Addr} {T : List StatZ} (h1 : T.length = nk) (h2 : ∃ M, KnownIn W M a T ∧ ∀ k, M k → ¬ OwnG ga gb gs vs k) (h3 : StatsFit T) : St w p hs ls ha hn hcap ba n bcap ha' hcap' ba' bcap' gr gx ga ca gb cb gs cs ns no nk vs W us bs xs ys Z T sa sc oa oc a :=
  { hhn := s.hhn, hhl := s.hhl, hh := s.hh, hbn := s.hbn, h := s.h, hf := s.hf, ext := s.ext, rbox := s.rbox, xbox := s.xbox, rule := s.rule, a := s.a, b := s.b, ne := s.ne, z := s.z, vz := s.vz, xl := s.xl, xc := s.xc, xm := s.xm, xat := s.xat, xoff := s.xoff, yl := s.yl, yc := s.yc, ym := s.ym, yat := s.yat, yoff := s.yoff, kl := h1, kat := h2, kf := h3, nsl := s.nsl, nol := s.nol }
/-- All but what is written over, after a write. -/
theorem St.wrote (s : St w p hs ls ha hn hcap ba n bcap ha' hcap' ba' bcap' gr gx ga ca gb cb gs cs ns no nk vs W us bs xs ys Z K sa sc oa oc ka) {W' : World} (hk : Kp (OwnG ga gb gs vs) W W') {us' bs' : List Int} {Z' : List (StatZ × (Nat × Nat))} (ha1 : IntsM w W' ga ns ca us') (hb1 : IntsM w W' gb no cb bs') (hz1 : StatsZ w W' gs nk cs Z') (hz2 : Z'.map (·.2) = vs) : St w p hs ls ha hn hcap ba n bcap ha' hcap' ba' bcap' gr gx ga ca gb cb gs cs ns no nk vs W' us' bs' xs ys Z' K sa sc oa oc ka :=
  { hhn := s.hhn, hhl := s.hhl, hh := s.hh, hbn := s.hbn, h := s.h, hf := s.hf, ext := s.ext.trans' hk (fun i hi ho => absurd hi (Nat.not_lt.2 (s.own_lt i ho).2)), rbox := s.rbox.kp hk (s.own_not (by decide) s.rbox), xbox := s.xbox.kp hk (s.own_not (by decide) s.xbox), rule := (s.rule.kp hk fun k cs h => by rcases h with h | h <;> exact s.own_not (by decide) h), a := ha1, b := hb1, ne := s.ne, z := hz1, vz := hz2, xl := s.xl, xc := s.xc, xm := s.xm, xat := s.xat.kpN hk fun hne => s.xoff (ints_ne hne), xoff := s.xoff, yl := s.yl, yc := s.yc, ym := s.ym, yat := s.yat.kpN hk fun hne => s.yoff (ints_ne hne), yoff := s.yoff, kl := s.kl, kat := (by obtain ⟨M, h1, h2⟩ := s.kat; exact ⟨M, h1.kp hk h2, h2⟩), kf := s.kf, nsl := s.nsl, nol := s.nol }
theorem St.stat_ne_int (s : St w p hs ls ha hn hcap ba n bcap ha' hcap' ba' bcap' gr gx ga ca gb cb gs cs ns no nk vs W us bs xs ys Z K sa sc oa oc ka) {k : Nat} (h : blksZ gs vs k) {cs : List Value} (hb : Blk W k cs 3) : False := by
  rw [← s.vz] at h
  obtain ⟨cs', e, hb', h⟩ := s.z.ty k h
  have := blk_ne hb hb'
  rcases h with h | h
  · rw [h] at this; exact absurd this (by decide)
  · rw [h] at this; exact absurd this (by decide)
theorem St.blkA (s : St w p hs ls ha hn hcap ba n bcap ha' hcap' ba' bcap' gr gx ga ca gb cb gs cs ns no nk vs W us bs xs ys Z K sa sc oa oc ka) : ∃ cur, Blk W ga cur 3 ∧ ns ≤ cur.length := by
  obtain ⟨rest, h0, _, _, _, h2, _⟩ := s.a
  exact ⟨_, h2, by rw [List.length_append, ints_len, List.length_append]; omega⟩
theorem St.blkB (s : St w p hs ls ha hn hcap ba n bcap ha' hcap' ba' bcap' gr gx ga ca gb cb gs cs ns no nk vs W us bs xs ys Z K sa sc oa oc ka) : ∃ cur, Blk W gb cur 3 ∧ no ≤ cur.length := by
  obtain ⟨rest, h0, _, _, _, h2, _⟩ := s.b
  exact ⟨_, h2, by rw [List.length_append, ints_len, List.length_append]; omega⟩
theorem St.copyA (s : St w p hs ls ha hn hcap ba n bcap ha' hcap' ba' bcap' gr gx ga ca gb cb gs cs ns no nk vs W us bs xs ys Z K sa sc oa oc ka) {W' : World} {cur : List Value} (hc : Blk W ga cur 3) (hk : Kp (fun k => k = ga) W W') (hB : Blk W' ga (splice cur 0 (ints xs)) 3) : St w p hs ls ha hn hcap ba n bcap ha' hcap' ba' bcap' gr gx ga ca gb cb gs cs ns no nk vs W' xs bs xs ys Z K sa sc oa oc ka := by
  refine s.wrote (hk.mono fun i _ h => .inl h) (s.a.copied s.xl fun c h => ?_) (s.b.kp hk fun e => s.ne e.symm) (s.z.kp hk fun k h e => ?_) s.vz
  · have : c = cur := by
      unfold Blk at h hc
      rw [h] at hc
      simpa using hc
    rw [this]; exact hB
  · subst e
    rw [s.vz] at h
    exact s.stat_ne_int h hc
theorem St.copyB (s : St w p hs ls ha hn hcap ba n bcap ha' hcap' ba' bcap' gr gx ga ca gb cb gs cs ns no nk vs W us bs xs ys Z K sa sc oa oc ka) {W' : World} {cur : List Value} (hc : Blk W gb cur 3) (hk : Kp (fun k => k = gb) W W') (hB : Blk W' gb (splice cur 0 (ints ys)) 3) : St w p hs ls ha hn hcap ba n bcap ha' hcap' ba' bcap' gr gx ga ca gb cb gs cs ns no nk vs W' us ys xs ys Z K sa sc oa oc ka := by
  refine s.wrote (hk.mono fun i _ h => .inr (.inl h)) (s.a.kp hk fun e => s.ne e) (s.b.copied s.yl fun c h => ?_) (s.z.kp hk fun k h e => ?_) s.vz
  · have : c = cur := by
      unfold Blk at h hc
      rw [h] at hc
      simpa using hc
    rw [this]; exact hB
  · subst e
    rw [s.vz] at h
    exact s.stat_ne_int h hc
theorem map_set_snd {α β : Type} {Z : List (α × β)} {i : Nat} {z : α × β} {y : α} (h : Z[i]? = some z) : (Z.set i (y, z.2)).map (·.2) = Z.map (·.2) := by
  rw [List.map_set]
  have := List.getElem?_map (f := fun x : α × β => x.2) (l := Z) (i := i)
  rw [h] at this
  exact set_same this
theorem St.stat_kp (s : St w p hs ls ha hn hcap ba n bcap ha' hcap' ba' bcap' gr gx ga ca gb cb gs cs ns no nk vs W us bs xs ys Z K sa sc oa oc ka) {k : Nat} (hk : blksZ gs vs k) (c : Nat) (v : Value) : Kp (OwnG ga gb gs vs) W (W.setCell ⟨k, c, none⟩ v) ∧ IntsM w (W.setCell ⟨k, c, none⟩ v) ga ns ca us ∧ IntsM w (W.setCell ⟨k, c, none⟩ v) gb no cb bs := by
  have h1 : Kp (fun i => i = k) W (W.setCell ⟨k, c, none⟩ v) := Kp.setCell (F := fun i => i = k) (Kp.refl W) (fun _ => rfl) _
  obtain ⟨ca', hA, _⟩ := s.blkA
  obtain ⟨cb', hB, _⟩ := s.blkB
  exact ⟨h1.mono fun i _ e => .inr (.inr (by rw [e]; exact hk)), s.a.kp h1 fun e => s.stat_ne_int (by rw [e]; exact hk) hA, s.b.kp h1 fun e => s.stat_ne_int (by rw [e]; exact hk) hB⟩
theorem St.rows (s : St w p hs ls ha hn hcap ba n bcap ha' hcap' ba' bcap' gr gx ga ca gb cb gs cs ns no nk vs W us bs xs ys Z K sa sc oa oc ka) {i : Nat} {z : StatZ × (Nat × Nat)} (hi : Z[i]? = some z) (r : Nat) : St w p hs ls ha hn hcap ba n bcap ha' hcap' ba' bcap' gr gx ga ca gb cb gs cs ns no nk vs (W.setCell ⟨gs, i * 3 + 1, none⟩ (.float .f64 r)) us bs xs ys (Z.set i ((z.1.1, r, z.1.2.2), z.2)) K sa sc oa oc ka := by
  obtain ⟨h1, h2, h3⟩ := s.stat_kp (k := gs) (.inl rfl) (i * 3 + 1) (.float .f64 r)
  exact s.wrote h1 h2 h3 (s.z.setRows hi r) ((map_set_snd hi).trans s.vz)
theorem St.dist (s : St w p hs ls ha hn hcap ba n bcap ha' hcap' ba' bcap' gr gx ga ca gb cb gs cs ns no nk vs W us bs xs ys Z K sa sc oa oc ka) {i : Nat} {z : StatZ × (Nat × Nat)} (hi : Z[i]? = some z) {m : Nat} (hm : m < z.1.2.2.1.length) (x : Nat) : St w p hs ls ha hn hcap ba n bcap ha' hcap' ba' bcap' gr gx ga ca gb cb gs cs ns no nk vs (W.setCell ⟨z.2.1, m, none⟩ (.float .f64 x)) us bs xs ys (Z.set i ((z.1.1, z.1.2.1, z.1.2.2.1.set m x, ()), z.2)) K sa sc oa oc ka := by
  obtain ⟨h1, h2, h3⟩ := s.stat_kp (k := z.2.1) (.inr ⟨z.2, by rw [← s.vz]; exact List.mem_map.2 ⟨z, List.mem_of_getElem? hi, rfl⟩, rfl⟩) m (.float .f64 x)
  exact s.wrote h1 h2 h3 (s.z.setDist hi hm x) ((map_set_snd hi).trans s.vz)
/-- A place's cells. -/
theorem St.place (s : St w p hs ls ha hn hcap ba n bcap ha' hcap' ba' bcap' gr gx ga ca gb cb gs cs ns no nk vs W us bs xs ys Z K sa sc oa oc ka) {i : Nat} {z : StatZ × (Nat × Nat)} (hi : Z[i]? = some z) : W.cell? ⟨gs, i * 3 + 1, none⟩ = some (.float .f64 z.1.2.1) ∧ W.cell? ⟨gs, i * 3 + 2, none⟩ = some (.slice (some ⟨z.2.1, 0, none⟩) z.1.2.2.1.length z.2.2) ∧ (∀ c, W.frozen? ⟨gs, c, none⟩ = false) ∧ (∀ c, W.frozen? ⟨z.2.1, c, none⟩ = false) ∧ (∀ (c x : Nat), z.1.2.2.1[c]? = some x → W.cell? ⟨z.2.1, c, none⟩ = some (.float .f64 x)) ∧ z.1.2.2.1.length + 1 ≤ z.2.2 ∧ z.2.2 ≤ maxLen := by
  obtain ⟨rest, h1, h2, h3, h4, h5, h6, h7⟩ := s.z.body
  have hd := h7 z (List.mem_of_getElem? hi)
  have hb : ∀ c, c < 3 → W.cell? ⟨gs, i * 3 + c, none⟩ = (statM z)[c]? := fun c hc => by
    have hg := flat_get statM 3 statM_len Z i _ c hi hc
    have hlt : i * 3 + c < (Z.flatMap statM).length := by
      rw [flat_len statM 3 statM_len]
      have := (List.getElem?_eq_some_iff.1 hi).1
      omega
    rw [h6.cell', List.getElem?_append_left hlt, hg]
  obtain ⟨cs, hbz⟩ := hd.blk
  have hat := hd.at
  obtain ⟨r, a1, b1, c1, d1⟩ := hd
  refine ⟨hb 1 (by decide), hb 2 (by decide), fun c => h6.free c, fun c => hbz.free c, fun c x hx => ?_, a1, b1⟩
  obtain ⟨_, _, e, hcell⟩ := hat c (.float .f64 x) (by simp [flts, hx])
  cases e
  rw [Nat.zero_add] at hcell
  exact hcell
end
end Go.Proofs.Ytcphalpcdcddpaa

/- The law of costs: CostGuesses, walked. (Written by mk_law12.py.) -/
namespace Go.Proofs.Ytcphalpcdcddpaa
open Go.RowKit
set_option linter.unusedVariables false
attribute [local go_sem] run_store_float

def GuessTo (w : World) (p : ByteArray) (hs : List TermZ) (ls : List LitZ) (ha : Option Addr) (hn hcap : Nat) (ba : Option Addr) (n bcap : Nat) (ha' : Option Addr) (hcap' : Nat) (ba' : Option Addr) (bcap' gr gx ga ca gb cb gs cs ns no nk : Nat) (vs : List (Nat × Nat)) (iv sv ov kv : Value) (W : World) : Prop := ∃ (i : Nat) (xs ys : List Int) (Z : List (StatZ × (Nat × Nat))) (K : List StatZ) (sa : Option Addr) (sc : Nat) (oa : Option Addr) (oc : Nat) (ka : Option Addr) (kc : Nat), i ≤ 3 ∧ iv = .int .i64 i ∧ sv = .slice sa ns sc ∧ ov = .slice oa no oc ∧ kv = .slice ka nk kc ∧ Hid (St w p hs ls ha hn hcap ba n bcap ha' hcap' ba' bcap' gr gx ga ca gb cb gs cs ns no nk vs W xs ys xs ys Z K sa sc oa oc ka ∧ Z.map (·.1) = K)
def RowsTo (w : World) (p : ByteArray) (hs : List TermZ) (ls : List LitZ) (ha : Option Addr) (hn hcap : Nat) (ba : Option Addr) (n bcap : Nat) (ha' : Option Addr) (hcap' : Nat) (ba' : Option Addr) (bcap' gr gx ga ca gb cb gs cs ns no nk : Nat) (vs : List (Nat × Nat)) (xs ys : List Int) (K : List StatZ) (sa : Option Addr) (sc : Nat) (oa : Option Addr) (oc : Nat) (ka : Option Addr) (iv : Value) (W : World) : Prop := ∃ (i : Nat) (Z : List (StatZ × (Nat × Nat))), i ≤ nk ∧ iv = .int .i64 i ∧ Hid (St w p hs ls ha hn hcap ba n bcap ha' hcap' ba' bcap' gr gx ga ca gb cb gs cs ns no nk vs W xs ys xs ys Z K sa sc oa oc ka ∧ Part K Z i)
def CountsTo (w : World) (p : ByteArray) (hs : List TermZ) (ls : List LitZ) (ha : Option Addr) (hn hcap : Nat) (ba : Option Addr) (n bcap : Nat) (ha' : Option Addr) (hcap' : Nat) (ba' : Option Addr) (bcap' gr gx ga ca gb cb gs cs ns no nk : Nat) (vs : List (Nat × Nat)) (xs ys : List Int) (K : List StatZ) (sa : Option Addr) (sc : Nat) (oa : Option Addr) (oc : Nat) (ka : Option Addr) (i mm : Nat) (iv : Value) (W : World) : Prop := ∃ (c : Nat) (Z : List (StatZ × (Nat × Nat))), c ≤ mm ∧ iv = .int .i64 c ∧ Hid (St w p hs ls ha hn hcap ba n bcap ha' hcap' ba' bcap' gr gx ga ca gb cb gs cs ns no nk vs W xs ys xs ys Z K sa sc oa oc ka ∧ PartIn K Z i c)
theorem part_zero {K T : List StatZ} {Z : List (StatZ × (Nat × Nat))} (hZ : Z.map (·.1) = K) (hl : T.length = K.length) (h : AlikeTo K T K.length) : Part T Z 0 := by
  have hzl : Z.length = K.length := by rw [← hZ, List.length_map]
  refine ⟨hzl.trans hl.symm, fun j z k hz hk => ⟨fun h => by omega, ?_⟩⟩
  have hj : j < K.length := by rw [← hl]; exact (List.getElem?_eq_some_iff.1 hk).1
  have hs : K[j]? = some z.1 := by rw [← hZ, List.getElem?_map, hz]; rfl
  have ha := h j z.1 k hj hs hk
  exact ⟨ha.1.symm, ha.2.1.symm⟩

set_option maxRecDepth 100000 in
set_option maxHeartbeats 8000000 in
theorem guesses_any (p : ByteArray) (hs : List TermZ) (ls : List LitZ) (ha : Option Addr) (hn hcap : Nat) (ba : Option Addr) (n bcap : Nat) (xs ys : List Int) (sa oa : Option Addr) (ns scap no ocap : Nat) (S : List StatZ) (ka : Option Addr) (nk kcap : Nat) (w : World)
    (hhn : hn = hs.length) (hh : TermsAt w (Old w) ha hs) (hhl : hn ≤ 1048576) (hbn : n = ls.length) (h : LitsAt w (Old w) ba ls) (hf : Fit ls)
    (hns : ns = xs.length) (hsx : CellsAt w sa (ints xs)) (hso : xs ≠ [] → Off (fun k => ¬ Old w k) sa) (hsc : ns ≤ scap) (hsm : scap ≤ maxLen) (hsl : ns ≤ 1048576)
    (hno : no = ys.length) (hoy : CellsAt w oa (ints ys)) (hoo : ys ≠ [] → Off (fun k => ¬ Old w k) oa) (hoc : no ≤ ocap) (hom : ocap ≤ maxLen) (hol : no ≤ 1048576)
    (hnk : nk = S.length) (hS : KnownIn w (Old w) ka S) (hSf : StatsFit S) :
    Calls Try.prog 3 #[.agg #[.string p, .slice ha hn hcap, .slice ba n bcap, .slice sa ns scap, .slice oa no ocap, .slice ka nk kcap]] w (RetN w fun w' v => v = .bool true) := by
  have hl : n ≤ 1048576 := by have := hf.len; omega
  have hkl : nk ≤ 1048576 := by have := hSf.len; omega
  have HIn := Lib.hid (And.intro hhn (And.intro hh (And.intro hbn (And.intro h hf))))
  have HSet := Lib.hid (And.intro hns (And.intro hsx (And.intro hso hsm)))
  have HOrd := Lib.hid (And.intro hno (And.intro hoy (And.intro hoo hom)))
  have HKn := Lib.hid (And.intro hnk (And.intro hS hSf))
  have hq1 := frombits_run
  clear hhn hh hbn h hf hns hsx hso hsm hno hoy hoo hom hnk hS hSf
  go_enter Try.func3, Try.ntmps3
  obtain ⟨wq, eq0⟩ : ∃ wq, w.alloc (.cells #[.string p, .slice ha hn hcap, .slice ba n bcap, .slice sa ns scap, .slice oa no ocap, .slice ka nk kcap] 31) = wq := ⟨_, rfl⟩
  have hB0 : Blk wq w.heap.size [.string p, .slice ha hn hcap, .slice ba n bcap, .slice sa ns scap, .slice oa no ocap, .slice ka nk kcap] 31 := by rw [← eq0]; exact Blk.new w _ _
  have XQ := Lib.hid (show Ext w wq from by rw [← eq0]; exact (Kp.refl w).alloc _)
  obtain ⟨gr, egr⟩ : ∃ gr, gr = wq.heap.size := ⟨_, rfl⟩
  obtain ⟨wb, eb⟩ : ∃ wb, wq.alloc (.cells #[.string p, .slice ha hn hcap, .slice ba n bcap] 27) = wb := ⟨_, rfl⟩
  have hB1 : Blk wb gr [.string p, .slice ha hn hcap, .slice ba n bcap] 27 := by rw [← eb, egr]; exact Blk.new wq _ _
  have XB := Lib.hid (show Ext w wb from by rw [← eb]; exact XQ.out.alloc _)
  have hB0' : Blk wb w.heap.size [.string p, .slice ha hn hcap, .slice ba n bcap, .slice sa ns scap, .slice oa no ocap, .slice ka nk kcap] 31 := by rw [← eb]; exact hB0.alloc _
  have q0 : wq.cell? ⟨w.heap.size, 0, none⟩ = some (.string p) := by rw [hB0.cell']; rfl
  have q1 : wq.cell? ⟨w.heap.size, 1, none⟩ = some (.slice ha hn hcap) := by rw [hB0.cell']; rfl
  have q2 : wq.cell? ⟨w.heap.size, 2, none⟩ = some (.slice ba n bcap) := by rw [hB0.cell']; rfl
  have q3 : wb.cell? ⟨w.heap.size, 3, none⟩ = some (.slice sa ns scap) := by rw [hB0'.cell']; rfl
  have q4 : wb.cell? ⟨w.heap.size, 4, none⟩ = some (.slice oa no ocap) := by rw [hB0'.cell']; rfl
  have q5 : wb.cell? ⟨w.heap.size, 5, none⟩ = some (.slice ka nk kcap) := by rw [hB0'.cell']; rfl
  have r0 : wb.cell? ⟨gr, 0, none⟩ = some (.string p) := by rw [hB1.cell']; rfl
  have r1 : wb.cell? ⟨gr, 1, none⟩ = some (.slice ha hn hcap) := by rw [hB1.cell']; rfl
  have r2 : wb.cell? ⟨gr, 2, none⟩ = some (.slice ba n bcap) := by rw [hB1.cell']; rfl
  have r0' : wb.cell? ⟨wq.heap.size, 0, none⟩ = some (.string p) := by rw [← egr]; exact r0
  have r1' : wb.cell? ⟨wq.heap.size, 1, none⟩ = some (.slice ha hn hcap) := by rw [← egr]; exact r1
  have r2' : wb.cell? ⟨wq.heap.size, 2, none⟩ = some (.slice ba n bcap) := by rw [← egr]; exact r2
  have HR := Lib.hid hB1
  have EGR := Lib.hid egr
  clear hB0 hB1 hB0' egr
  go_wp2_with fail
  rw [← EGR.out]
  refine (great_any p ha hn hcap ba n bcap wb (by omega)).mono ?_
  rintro e w1 ⟨v, rfl, hk1, rfl⟩
  have X1 := Lib.hid (XB.out.trans hk1)
  have HR1 := Lib.hid (HR.out.ext hk1)
  have EB := Lib.hid eb
  clear hk1 q0 q1 q2 q3 q4 q5 r0 r1 r2 r0' r1' r2' eq0 eb
  by_cases hg : 40 < n
  · have hgd : decide (40 < n) = true := decide_eq_true hg
    go_wp2
    go_ret
    exact RetN.mk X1.out rfl
  have hgd : decide (40 < n) = false := decide_eq_false hg
  have r0 : w1.cell? ⟨gr, 0, none⟩ = some (.string p) := by rw [HR1.out.cell']; rfl
  have r1 : w1.cell? ⟨gr, 1, none⟩ = some (.slice ha hn hcap) := by rw [HR1.out.cell']; rfl
  have r2 : w1.cell? ⟨gr, 2, none⟩ = some (.slice ba n bcap) := by rw [HR1.out.cell']; rfl
  go_wp2_with fail
  refine (twin_any p hs ls ha hn hcap ba n bcap w1 (Old w) HIn.out.1 (HIn.out.2.1.ext X1.out) hhl HIn.out.2.2.1 (HIn.out.2.2.2.1.ext X1.out) HIn.out.2.2.2.2).mono ?_
  rintro e w2 ⟨v, rfl, hk2, ha', hcap', ba', bcap', rfl, hRM⟩
  have X2 := Lib.hid (X1.out.trans hk2)
  have HR2 := Lib.hid (HR1.out.ext hk2)
  obtain ⟨gx, egx⟩ : ∃ gx, gx = w2.heap.size := ⟨_, rfl⟩
  obtain ⟨wx, ex⟩ : ∃ wx, w2.alloc (.cells #[.string p, .slice ha' hn hcap', .slice ba' n bcap'] 27) = wx := ⟨_, rfl⟩
  have HX3 := Lib.hid (show Blk wx gx [.string p, .slice ha' hn hcap', .slice ba' n bcap'] 27 from by rw [← ex, egx]; exact Blk.new w2 _ _)
  have XX2 := Lib.hid (show Ext w2 wx from by rw [← ex]; exact (Kp.refl w2).alloc _)
  have X3 := Lib.hid (X2.out.trans XX2.out)
  have HR3 := Lib.hid (HR2.out.ext XX2.out)
  have HM3 := Lib.hid ((hRM.ext XX2.out).old X1.out.size)
  have EGX := Lib.hid egx
  clear hk2 hRM egx r0 r1 r2 hgd hg
  go_wp2_with fail
  rw [← EGX.out]
  refine (lent_any xs sa ns scap wx HSet.out.1 (HSet.out.2.1.ext X3.out) hsl).mono ?_
  rintro e w3 ⟨v, rfl, hk3, ga, ca, rfl, hA⟩
  clear ex
  go_wp2_with fail
  refine (lent_any ys oa no ocap w3 HOrd.out.1 (HOrd.out.2.1.ext (X3.out.trans hk3)) hol).mono ?_
  rintro e w4 ⟨v, rfl, hk4, gb, cb, rfl, hBb⟩
  have hne : ga ≠ gb := by
    obtain ⟨_, _, _, _, _, h1, _⟩ := hA
    obtain ⟨_, _, _, _, h2, _⟩ := hBb
    have := h1.lt
    omega
  go_wp2_with fail
  refine (stats_any S ka nk kcap w4 HKn.out.1 (HKn.out.2.1.ext ((X3.out.trans hk3).trans hk4)).at HKn.out.2.2).mono ?_
  rintro e w5 ⟨v, rfl, hk5, gs, cs, rfl, hSM⟩
  obtain ⟨Z, hZ, hSZ⟩ := hSM.z
  obtain ⟨vs, evs⟩ : ∃ vs, Z.map (·.2) = vs := ⟨_, rfl⟩
  have hown : ∀ k, OwnG ga gb gs vs k → ¬ Old w k := by
    rintro k (rfl | rfl | hk) hold
    · obtain ⟨_, _, _, _, h1, _, _⟩ := hA
      have := X3.out.size
      exact absurd hold (by unfold Old; omega)
    · obtain ⟨_, _, _, _, h1, _, _⟩ := hBb
      have := (X3.out.trans hk3).size
      exact absurd hold (by unfold Old; omega)
    · rw [← evs] at hk
      have h1 := (hSZ.lt k hk).2
      have := ((X3.out.trans hk3).trans hk4).size
      exact absurd hold (by unfold Old; omega)
  have X5 := Lib.hid (((X3.out.trans hk3).trans hk4).trans hk5)
  have X35 := Lib.hid ((hk3.trans hk4).trans hk5)
  have HSt := Lib.hid (show St w p hs ls ha hn hcap ba n bcap ha' hcap' ba' bcap' gr gx ga ca gb cb gs cs ns no nk vs w5 xs ys xs ys Z S sa scap oa ocap ka from
    { hhn := HIn.out.1, hhl := hhl, hh := HIn.out.2.1, hbn := HIn.out.2.2.1, h := HIn.out.2.2.2.1, hf := HIn.out.2.2.2.2, ext := X5.out, rbox := HR3.out.ext X35.out, xbox := HX3.out.ext X35.out, rule := HM3.out.ext X35.out,
      a := (hA.ext (hk4.trans hk5)).old X3.out.size, b := (hBb.ext hk5).old (X3.out.trans hk3).size, ne := hne, z := hSZ.old ((X3.out.trans hk3).trans hk4).size, vz := evs,
      xl := HSet.out.1.symm, xc := hsc, xm := HSet.out.2.2.2, xat := HSet.out.2.1.ext X5.out, xoff := fun hne x hx ho => HSet.out.2.2.1 hne x hx (hown _ ho),
      yl := HOrd.out.1.symm, yc := hoc, ym := HOrd.out.2.2.2, yat := HOrd.out.2.1.ext X5.out, yoff := fun hne x hx ho => HOrd.out.2.2.1 hne x hx (hown _ ho),
      kl := HKn.out.1.symm, kat := ⟨Old w, HKn.out.2.1.ext X5.out, fun k hk ho => hown k ho hk⟩, kf := HKn.out.2.2, nsl := hsl, nol := hol })
  have HZ0 := Lib.hid hZ
  clear hA hBb hSM hSZ hown hk3 hk4 hk5 hne hZ evs
  go_wp2
  go_loopw [11, 4, 5, 6] (fun iv sv ov kv wr => GuessTo w p hs ls ha hn hcap ba n bcap ha' hcap' ba' bcap' gr gx ga ca gb cb gs cs ns no nk vs iv sv ov kv wr) (fun iv _ _ _ _ => 3 - (intOf iv).toNat)
  case atStart => exact ⟨0, xs, ys, Z, S, sa, scap, oa, ocap, ka, kcap, by omega, rfl, rfl, rfl, rfl, ⟨HSt.out, HZ0.out⟩⟩
  case round =>
    clear HSt HZ0 HIn HSet HOrd HKn X5 X35 HR3 HX3 HM3 XX2 X3 X2 HR2 X1 HR1 XB XQ HR EB EGR EGX
    obtain ⟨i, xs, ys, Z, K, sa, sc, oa, oc, ka, kc, hi, rfl, rfl, rfl, rfl, hst⟩ := hrel
    by_cases hlt : i < 3
    · have x0 : wr.cell? ⟨gx, 0, none⟩ = some (.string p) := by rw [hst.out.1.xbox.cell']; rfl
      have x1 : wr.cell? ⟨gx, 1, none⟩ = some (.slice ha' hn hcap') := by rw [hst.out.1.xbox.cell']; rfl
      have x2 : wr.cell? ⟨gx, 2, none⟩ = some (.slice ba' n bcap') := by rw [hst.out.1.xbox.cell']; rfl
      go_wp2_with fail
      refine (hst.out.1.guess hst.out.2).mono ?_
      rintro e w1 ⟨v, rfl, hk1, rfl⟩
      have S1 := Lib.hid (hst.out.1.to hk1)
      have HZ := Lib.hid hst.out.2
      obtain ⟨g1, eg1⟩ : ∃ g1, (guessE ((p, hs, ()), ls, ()) K xs).1 = g1 := ⟨_, rfl⟩
      obtain ⟨g2, eg2⟩ : ∃ g2, (guessE ((p, hs, ()), ls, ()) K xs).2 = g2 := ⟨_, rfl⟩
      rw [eg1, eg2]
      have EG := Lib.hid (And.intro eg1 eg2)
      clear hk1 hst x0 x1 x2 eg1 eg2
      have x0 : w1.cell? ⟨gx, 0, none⟩ = some (.string p) := by rw [S1.out.xbox.cell']; rfl
      have x1 : w1.cell? ⟨gx, 1, none⟩ = some (.slice ha' hn hcap') := by rw [S1.out.xbox.cell']; rfl
      have x2 : w1.cell? ⟨gx, 2, none⟩ = some (.slice ba' n bcap') := by rw [S1.out.xbox.cell']; rfl
      go_wp2_with fail
      refine (S1.out.cost HZ.out).mono ?_
      rintro e w2 ⟨v, rfl, hk2, rfl⟩
      have S2 := Lib.hid (S1.out.to hk2)
      obtain ⟨c1, ec1⟩ : ∃ c1, (costE ((p, hs, ()), ls, ()) K ys).1 = c1 := ⟨_, rfl⟩
      obtain ⟨c2, ec2⟩ : ∃ c2, (costE ((p, hs, ()), ls, ()) K ys).2 = c2 := ⟨_, rfl⟩
      rw [ec1, ec2]
      have EC := Lib.hid (And.intro ec1 ec2)
      clear hk2 S1 x0 x1 x2 ec1 ec2
      have HC := Lib.hid (show ∀ w', Ext w2 w' → (fun w' : World => w'.cell? ⟨gr, 0, none⟩ = some (.string p) ∧ w'.cell? ⟨gr, 1, none⟩ = some (.slice ha hn hcap) ∧ w'.cell? ⟨gr, 2, none⟩ = some (.slice ba n bcap)) w' from fun w' hw => ⟨by rw [(S2.out.to hw).rbox.cell']; rfl, by rw [(S2.out.to hw).rbox.cell']; rfl, by rw [(S2.out.to hw).rbox.cell']; rfl⟩)
      go_wp2
      refine draw_begin (fun w' : World => w'.cell? ⟨gr, 0, none⟩ = some (.string p) ∧ w'.cell? ⟨gr, 1, none⟩ = some (.slice ha hn hcap) ∧ w'.cell? ⟨gr, 2, none⟩ = some (.slice ba n bcap)) [4] (by kernel_rfl) (HC.out _ (Kp.refl w2).drew) (fun hHeld => ?_)
      (refine draw_in (i := 0) (v := ?_) rfl ?_ ?_; rotate_left; (intro w hSw; (try dsimp only at hSw); go_simp; try with_reducible rfl)); (try simp only [Act.put, List.setIfInBounds_toArray, List.set_cons_zero, List.set_cons_succ])
      (refine draw_free (i := 1) (v := ?_) rfl ?_ ?_; rotate_left; (intro w; go_simp; try with_reducible rfl)); (try simp only [Act.put, List.setIfInBounds_toArray, List.set_cons_zero, List.set_cons_succ])
      (refine draw_free (i := 2) (v := ?_) rfl ?_ ?_; rotate_left; (intro w; go_simp; try with_reducible rfl)); (try simp only [Act.put, List.setIfInBounds_toArray, List.set_cons_zero, List.set_cons_succ])
      refine draw_one (i := 3) ?_
      refine comes_turn (i := 3) rfl (fun K hK => ?_)
      go_simp
      (refine ((S2.out.to (Kp.refl w2).drew).plain kc).mono ?_; rintro e w3 ⟨v, rfl, hk3, pa, pc, rfl, _, _, hp3⟩; have X3 := Lib.hid (show Ext w2 w3 from ((Kp.refl w2).drew).trans hk3); have HP := Lib.hid hp3; clear hk3 hp3)
      go_wp2_with fail
      refine hK.out _ _ ?_ (fun hHeld => ?_)
      · (try dsimp only); (exact HC.out _ X3.out)
      clear hK K; (try simp only [Act.put, List.setIfInBounds_toArray, List.set_cons_zero, List.set_cons_succ])
      refine draw_one (i := 4) ?_
      refine comes_late (i := 4) rfl (by kernel_rfl) (fun K hK => ?_)
      go_simp
      (refine ((S2.out.to X3.out).refGuess HP.out).mono ?_; rintro e w4 ⟨v, rfl, hk4, rfl⟩; rw [EG.out.1, EG.out.2]; have S4 := Lib.hid (S2.out.to (X3.out.trans hk4)); clear hk4)
      go_wp2_with fail
      refine hK.out _ _ ?_
      clear hK K; (try simp only [Act.put, List.setIfInBounds_toArray, List.set_cons_zero, List.set_cons_succ])
      (refine draw_free (i := 5) (v := ?_) rfl ?_ ?_; rotate_left; (intro w; go_simp; try with_reducible rfl)); (try simp only [Act.put, List.setIfInBounds_toArray, List.set_cons_zero, List.set_cons_succ])
      (refine draw_free (i := 6) (v := ?_) rfl ?_ ?_; rotate_left; (intro w; go_simp; try with_reducible rfl)); (try simp only [Act.put, List.setIfInBounds_toArray, List.set_cons_zero, List.set_cons_succ])
      (refine draw_free (i := 8) (v := ?_) rfl ?_ ?_; rotate_left; (intro w; go_simp; try with_reducible rfl)); (try simp only [Act.put, List.setIfInBounds_toArray, List.set_cons_zero, List.set_cons_succ])
      (refine draw_free (i := 7) (v := ?_) rfl ?_ ?_; rotate_left; (intro w; go_simp; try with_reducible rfl)); (try simp only [Act.put, List.setIfInBounds_toArray, List.set_cons_zero, List.set_cons_succ])
      (refine draw_free (i := 9) (v := ?_) rfl ?_ ?_; rotate_left; (intro w; go_simp; try with_reducible rfl)); (try simp only [Act.put, List.setIfInBounds_toArray, List.set_cons_zero, List.set_cons_succ])
      refine wpAnyD_done (by kernel_rfl) ?_ _
      clear hHeld HC X3 HP
      have HC := Lib.hid (show ∀ w', Ext w4 w' → (fun w' : World => w'.cell? ⟨gr, 0, none⟩ = some (.string p) ∧ w'.cell? ⟨gr, 1, none⟩ = some (.slice ha hn hcap) ∧ w'.cell? ⟨gr, 2, none⟩ = some (.slice ba n bcap)) w' from fun w' hw => ⟨by rw [(S4.out.to hw).rbox.cell']; rfl, by rw [(S4.out.to hw).rbox.cell']; rfl, by rw [(S4.out.to hw).rbox.cell']; rfl⟩)
      go_wp2
      refine draw_begin (fun w' : World => w'.cell? ⟨gr, 0, none⟩ = some (.string p) ∧ w'.cell? ⟨gr, 1, none⟩ = some (.slice ha hn hcap) ∧ w'.cell? ⟨gr, 2, none⟩ = some (.slice ba n bcap)) [4] (by kernel_rfl) (HC.out _ (Kp.refl w4).drew) (fun hHeld => ?_)
      (refine draw_in (i := 0) (v := ?_) rfl ?_ ?_; rotate_left; (intro w hSw; (try dsimp only at hSw); go_simp; try with_reducible rfl)); (try simp only [Act.put, List.setIfInBounds_toArray, List.set_cons_zero, List.set_cons_succ])
      (refine draw_free (i := 1) (v := ?_) rfl ?_ ?_; rotate_left; (intro w; go_simp; try with_reducible rfl)); (try simp only [Act.put, List.setIfInBounds_toArray, List.set_cons_zero, List.set_cons_succ])
      (refine draw_free (i := 2) (v := ?_) rfl ?_ ?_; rotate_left; (intro w; go_simp; try with_reducible rfl)); (try simp only [Act.put, List.setIfInBounds_toArray, List.set_cons_zero, List.set_cons_succ])
      refine draw_one (i := 3) ?_
      refine comes_turn (i := 3) rfl (fun K hK => ?_)
      go_simp
      (refine ((S4.out.to (Kp.refl w4).drew).plain kc).mono ?_; rintro e w5 ⟨v, rfl, hk5, pa2, pc2, rfl, _, _, hp5⟩; have X5 := Lib.hid (show Ext w4 w5 from ((Kp.refl w4).drew).trans hk5); have HP := Lib.hid hp5; clear hk5 hp5)
      go_wp2_with fail
      refine hK.out _ _ ?_ (fun hHeld => ?_)
      · (try dsimp only); (exact HC.out _ X5.out)
      clear hK K; (try simp only [Act.put, List.setIfInBounds_toArray, List.set_cons_zero, List.set_cons_succ])
      refine draw_one (i := 4) ?_
      refine comes_late (i := 4) rfl (by kernel_rfl) (fun K hK => ?_)
      go_simp
      (refine ((S4.out.to X5.out).refCost HP.out).mono ?_; rintro e w6 ⟨v, rfl, hk6, rfl⟩; rw [EC.out.1, EC.out.2]; have S6 := Lib.hid (S4.out.to (X5.out.trans hk6)); clear hk6)
      go_wp2_with fail
      refine hK.out _ _ ?_
      clear hK K; (try simp only [Act.put, List.setIfInBounds_toArray, List.set_cons_zero, List.set_cons_succ])
      (refine draw_free (i := 5) (v := ?_) rfl ?_ ?_; rotate_left; (intro w; go_simp; try with_reducible rfl)); (try simp only [Act.put, List.setIfInBounds_toArray, List.set_cons_zero, List.set_cons_succ])
      (refine draw_free (i := 6) (v := ?_) rfl ?_ ?_; rotate_left; (intro w; go_simp; try with_reducible rfl)); (try simp only [Act.put, List.setIfInBounds_toArray, List.set_cons_zero, List.set_cons_succ])
      (refine draw_free (i := 8) (v := ?_) rfl ?_ ?_; rotate_left; (intro w; go_simp; try with_reducible rfl)); (try simp only [Act.put, List.setIfInBounds_toArray, List.set_cons_zero, List.set_cons_succ])
      (refine draw_free (i := 7) (v := ?_) rfl ?_ ?_; rotate_left; (intro w; go_simp; try with_reducible rfl)); (try simp only [Act.put, List.setIfInBounds_toArray, List.set_cons_zero, List.set_cons_succ])
      (refine draw_free (i := 9) (v := ?_) rfl ?_ ?_; rotate_left; (intro w; go_simp; try with_reducible rfl)); (try simp only [Act.put, List.setIfInBounds_toArray, List.set_cons_zero, List.set_cons_succ])
      refine wpAnyD_done (by kernel_rfl) ?_ _
      clear hHeld HC X5 HP EG EC S2 S4
      have e1 : ((g2 : Int) != (g2 : Int)) = false := by simp
      have e2 : ((c2 : Int) != (c2 : Int)) = false := by simp
      go_wp2_with fail
      refine (alike_any g1 w6).mono ?_
      rintro e w7 ⟨v, rfl, hk7, rfl⟩
      have S7 := Lib.hid (S6.out.to hk7)
      clear hk7 S6
      go_wp2_with fail
      refine (alike_any c1 w7).mono ?_
      rintro e w8 ⟨v, rfl, hk8, rfl⟩
      have S8 := Lib.hid (S7.out.to hk8)
      clear hk8 S7
      have x0 : w8.cell? ⟨gx, 0, none⟩ = some (.string p) := by rw [S8.out.xbox.cell']; rfl
      have x1 : w8.cell? ⟨gx, 1, none⟩ = some (.slice ha' hn hcap') := by rw [S8.out.xbox.cell']; rfl
      have x2 : w8.cell? ⟨gx, 2, none⟩ = some (.slice ba' n bcap') := by rw [S8.out.xbox.cell']; rfl
      have r0 : w8.cell? ⟨gr, 0, none⟩ = some (.string p) := by rw [S8.out.rbox.cell']; rfl
      have r1 : w8.cell? ⟨gr, 1, none⟩ = some (.slice ha hn hcap) := by rw [S8.out.rbox.cell']; rfl
      have r2 : w8.cell? ⟨gr, 2, none⟩ = some (.slice ba n bcap) := by rw [S8.out.rbox.cell']; rfl
      go_wp2_with fail
      refine S8.out.stays.mono ?_
      rintro e w9 ⟨v, rfl, hk9, rfl⟩
      have S9 := Lib.hid (S8.out.to hk9)
      clear hk9 S8 x0 x1 x2 r0 r1 r2
      go_wp2_with fail
      refine S9.out.intsA.mono ?_
      rintro e w10 ⟨v, rfl, hk10, rfl⟩
      have S10 := Lib.hid (S9.out.to hk10)
      clear hk10 S9
      go_wp2_with fail
      refine S10.out.intsB.mono ?_
      rintro e w11 ⟨v, rfl, hk11, rfl⟩
      have S11 := Lib.hid (S10.out.to hk11)
      clear hk11 S10
      have m1 := S11.out.a.mark
      have m2 := S11.out.b.mark
      obtain ⟨hca1, hca2⟩ : ns + 1 ≤ ca ∧ ca ≤ maxLen := by obtain ⟨_, _, h1, h2, _⟩ := S11.out.a; exact ⟨h1, h2⟩
      obtain ⟨hcb1, hcb2⟩ : no + 1 ≤ cb ∧ cb ≤ maxLen := by obtain ⟨_, _, h1, h2, _⟩ := S11.out.b; exact ⟨h1, h2⟩
      have hca3 : ca ≤ 9223372036854775807 := hca2
      have hcb3 : cb ≤ 9223372036854775807 := hcb2
      have i1 : (ns : Int) + 1 ≤ (ca : Int) := by omega
      have i2 : (no : Int) + 1 ≤ (cb : Int) := by omega
      clear hca2 hcb2
      go_wp2_with fail
      refine (S11.out.kept HZ.out kc).mono ?_
      rintro e w12 ⟨v, rfl, hk12, rfl⟩
      have S12 := Lib.hid (S11.out.to hk12)
      clear hk12 S11 m1 m2 hca1 hcb1 hca3 hcb3 i1 i2
      by_cases h0 : i = 0
      · have z0 : ((i : Int) == 0) = true := by simp [h0]
        have z1 : decide ((i : Int) = 0) = true := by simp [h0]
        go_wp2_with fail
        refine S12.out.back.mono ?_
        rintro e w13 ⟨v, rfl, hk13, a1, d1, zs, rfl, u1, u2, u3, u4, u5⟩
        have S13 := Lib.hid ((S12.out.to hk13).setNew u1 u2 u3 u4 (S12.out.new_off u5))
        clear hk13 S12 u1 u2 u3 u4 u5
        go_wp2_with fail
        refine S13.out.backO.mono ?_
        rintro e w14 ⟨v, rfl, hk14, a2, d2, zs2, rfl, u1, u2, u3, u4, u5⟩
        have S14 := Lib.hid ((S13.out.to hk14).ordNew u1 u2 u3 u4 (S13.out.new_off u5))
        clear hk14 S13 u1 u2 u3 u4 u5
        obtain ⟨cur, hcur, hcl⟩ := S14.out.blkA
        have HCur := Lib.hid (And.intro hcur hcl)
        clear hcur hcl
        obtain ⟨w15, hrun1, hk15, hB15⟩ := run_copyB (P := Try.prog) elem_int HCur.out.1 (dp := some ⟨ga, 0, none⟩) (dLen := ns) (dCap := ca) (sp := a1) (sLen := ns) (sCap := d1) (cs := ints zs) (by rw [ints_len, S14.out.xl]; exact (Nat.min_self _).symm) (fun _ => rfl) S14.out.xat (by rw [ints_len, S14.out.xl, Nat.zero_add]; exact HCur.out.2) (ints_one _)
        have S15 := Lib.hid (S14.out.copyA HCur.out.1 hk15 hB15)
        clear hk15 hB15 HCur S14
        obtain ⟨cur, hcur, hcl⟩ := S15.out.blkB
        have HCur := Lib.hid (And.intro hcur hcl)
        clear hcur hcl
        obtain ⟨w16, hrun2, hk16, hB16⟩ := run_copyB (P := Try.prog) elem_int HCur.out.1 (dp := some ⟨gb, 0, none⟩) (dLen := no) (dCap := cb) (sp := a2) (sLen := no) (sCap := d2) (cs := ints zs2) (by rw [ints_len, S15.out.yl]; exact (Nat.min_self _).symm) (fun _ => rfl) S15.out.yat (by rw [ints_len, S15.out.yl, Nat.zero_add]; exact HCur.out.2) (ints_one _)
        have S16 := Lib.hid (And.intro (S15.out.copyB HCur.out.1 hk16 hB16) HZ.out)
        clear hk16 hB16 HCur S15
        go_wp2
        go_roundw
        case rel => exact ⟨i + 1, _, _, _, _, _, _, _, _, _, _, by omega, by first | rfl | (congr 1; done) | (congr 1; omega), rfl, rfl, rfl, S16⟩
        case measure => simp [intOf]; omega
      · have z0 : ((i : Int) == 0) = false := by simp [h0]
        have z1 : decide ((i : Int) = 0) = false := by simp [h0]
        go_wp2_with fail
        refine (S12.out.others kc).mono ?_
        rintro e w13 ⟨v, rfl, hk13, kb, kd, T, rfl, u1, u2, u3, u4, u5⟩
        have hkl2 : T.length = K.length := by rw [u3, S12.out.kl]
        have S13 := Lib.hid (And.intro ((S12.out.to hk13).knownNew u3 ⟨_, u4, fun k hk ho => by have := (S12.out.own_lt k ho).1; exact absurd hk (by omega)⟩ (AlikeTo.fit (by rw [S12.out.kl]; exact u5) hkl2 S12.out.kf)) (part_zero HZ.out hkl2 (by rw [S12.out.kl]; exact u5)))
        clear hk13 S12 u1 u2 u3 u4 u5 hkl2 HZ z0 z1
        go_wp2
        go_loopw [20] (fun jv wk => RowsTo w p hs ls ha hn hcap ba n bcap ha' hcap' ba' bcap' gr gx ga ca gb cb gs cs ns no nk vs xs ys T sa sc oa oc kb jv wk) (fun jv _ => nk - (intOf jv).toNat)
        case atStart => exact ⟨0, Z, Nat.zero_le _, rfl, S13⟩
        case round =>
          clear S13
          obtain ⟨m, Z, hm, rfl, hsm⟩ := hrel
          by_cases hlt2 : m < nk
          · obtain ⟨k, hk⟩ : ∃ k, T[m]? = some k := ⟨_, List.getElem?_eq_getElem (by rw [hsm.out.1.kl]; exact hlt2)⟩
            obtain ⟨z, hz⟩ : ∃ z, Z[m]? = some z := ⟨_, List.getElem?_eq_getElem (by rw [hsm.out.2.1, hsm.out.1.kl]; exact hlt2)⟩
            obtain ⟨M, hKI, _⟩ := hsm.out.1.kat
            obtain ⟨b, off, da, dcap, eao, _, _, d0, d1, d2, d3, d4, d5⟩ := hKI m k hk
            subst eao
            obtain ⟨p1, p2, p3, p4, p5, p6, p7⟩ := hsm.out.1.place hz
            have hlen := (hsm.out.2.2 m z k hz hk).2.2
            have hmm : k.2.2.1.length ≤ 1048576 := hsm.out.1.kf.dist k (List.mem_of_getElem? hk)
            obtain ⟨r, er⟩ : ∃ r, r = k.2.1 := ⟨_, rfl⟩
            obtain ⟨mm, emm⟩ : ∃ mm, mm = k.2.2.1.length := ⟨_, rfl⟩
            rw [← er] at d1
            rw [← emm] at hmm
            obtain ⟨old, eold⟩ : ∃ old, old = z.1.2.1 := ⟨_, rfl⟩
            rw [← eold] at p1
            obtain ⟨w6, e6⟩ : ∃ x, wr.setCell ⟨gs, m * 3 + 1, none⟩ (.float .f64 r) = x := ⟨_, rfl⟩
            have p3' := p3 (m * 3 + 1)
            have S6 := Lib.hid (show St w p hs ls ha hn hcap ba n bcap ha' hcap' ba' bcap' gr gx ga ca gb cb gs cs ns no nk vs w6 xs ys xs ys (Z.set m ((z.1.1, k.2.1, z.1.2.2), z.2)) T sa sc oa oc (some ⟨b, off, none⟩) from by rw [← e6, er]; exact hsm.out.1.rows hz _)
            have P6 := Lib.hid (hsm.out.2.rows hz hk)
            have HK6 := Lib.hid (And.intro hk (And.intro er emm))
            clear hz hKI d0 d2 d3 d4 d5 p2 p3 p4 p5 p6 p7 hlen er emm eold hk
            go_wp2
            clear e6 p1 p3' d1
            go_loopw [21] (fun jv wk => CountsTo w p hs ls ha hn hcap ba n bcap ha' hcap' ba' bcap' gr gx ga ca gb cb gs cs ns no nk vs xs ys T sa sc oa oc (some ⟨b, off, none⟩) m mm jv wk) (fun jv _ => mm - (intOf jv).toNat)
            case atStart => exact ⟨0, _, Nat.zero_le _, rfl, ⟨S6.out, P6.out⟩⟩
            case round =>
              clear S6 P6 hsm z
              obtain ⟨c, Z2, hc, rfl, hs2⟩ := hrel
              obtain ⟨z, hz⟩ : ∃ z, Z2[m]? = some z := ⟨_, List.getElem?_eq_getElem (by rw [hs2.out.2.1.1, hs2.out.1.kl]; exact hlt2)⟩
              obtain ⟨p1, p2, p3, p4, p5, p6, p7⟩ := hs2.out.1.place hz
              have hlen := (hs2.out.2.1.2 m z k hz HK6.out.1).2.2
              rw [hlen, ← HK6.out.2.2] at p2 p6
              obtain ⟨gd, egd⟩ : ∃ gd, gd = z.2.1 := ⟨_, rfl⟩
              obtain ⟨dc, edc⟩ : ∃ dc, dc = z.2.2 := ⟨_, rfl⟩
              rw [← egd, ← edc] at p2
              rw [← egd] at p4 p5
              by_cases hlt3 : c < mm
              · obtain ⟨M, hKI, _⟩ := hs2.out.1.kat
                obtain ⟨b', off', da, dcap, eao, _, _, d0, d1, d2, d3, d4, d5⟩ := hKI m k HK6.out.1
                cases eao
                rw [← HK6.out.2.2] at d2
                obtain ⟨x, hx⟩ : ∃ x, k.2.2.1[c]? = some x := ⟨_, List.getElem?_eq_getElem (by rw [← HK6.out.2.2]; exact hlt3)⟩
                obtain ⟨b2, off2, eda, d6⟩ := d5.word hx
                subst eda
                obtain ⟨y, hy⟩ : ∃ y, z.1.2.2.1[c]? = some y := ⟨_, List.getElem?_eq_getElem (by rw [hlen, ← HK6.out.2.2]; exact hlt3)⟩
                have p8 := p5 c y hy
                have p9 := p4 c
                obtain ⟨w7, e7⟩ : ∃ x', wr.setCell ⟨gd, c, none⟩ (.float .f64 x) = x' := ⟨_, rfl⟩
                have HFin := Lib.hid (show St w p hs ls ha hn hcap ba n bcap ha' hcap' ba' bcap' gr gx ga ca gb cb gs cs ns no nk vs w7 xs ys xs ys (Z2.set m ((z.1.1, z.1.2.1, z.1.2.2.1.set c x, ()), z.2)) T sa sc oa oc (some ⟨b, off, none⟩) ∧ PartIn T (Z2.set m ((z.1.1, z.1.2.1, z.1.2.2.1.set c x, ()), z.2)) m (c + 1) from by
                  rw [← e7, egd]
                  exact ⟨hs2.out.1.dist hz (by rw [hlen, ← HK6.out.2.2]; exact hlt3) x, hs2.out.2.dist hz HK6.out.1 hx⟩)
                have HJ := Lib.hid (show ∀ w', Ext wr w' → (fun w' : World => w'.cell? ⟨gs, m * 3 + 2, none⟩ = some (.slice (some ⟨gd, 0, none⟩) mm dc) ∧ w'.cell? ⟨b, off + m * 3 + 2, none⟩ = some (.slice (some ⟨b2, off2, none⟩) mm dcap) ∧ w'.cell? ⟨b2, off2 + c, none⟩ = some (.int .u64 x)) w' from fun w' hw => ⟨hw.cell p2 id, hw.cell d2 id, hw.cell d6 id⟩)
                clear hKI d0 d1 d3 d4 d5 hx hy p1 p3 p4 p5 p6 p7 egd edc hlen hz
                go_wp2
                clear p2 d2 d6
                refine draw_begin (fun w' : World => w'.cell? ⟨gs, m * 3 + 2, none⟩ = some (.slice (some ⟨gd, 0, none⟩) mm dc) ∧ w'.cell? ⟨b, off + m * 3 + 2, none⟩ = some (.slice (some ⟨b2, off2, none⟩) mm dcap) ∧ w'.cell? ⟨b2, off2 + c, none⟩ = some (.int .u64 x)) [16] (by kernel_rfl) (HJ.out _ (Kp.refl wr).drew) (fun hHeld => ?_)
                (refine draw_free (i := 0) (v := ?_) rfl ?_ ?_; rotate_left; (intro w; go_simp; try with_reducible rfl)); (try simp only [Act.put, List.setIfInBounds_toArray, List.set_cons_zero, List.set_cons_succ])
                (refine draw_free (i := 1) (v := ?_) rfl ?_ ?_; rotate_left; (intro w; go_simp; try with_reducible rfl)); (try simp only [Act.put, List.setIfInBounds_toArray, List.set_cons_zero, List.set_cons_succ])
                (refine draw_in (i := 2) (v := ?_) rfl ?_ ?_; rotate_left; (intro w hSw; (try dsimp only at hSw); go_simp; try with_reducible rfl)); (try simp only [Act.put, List.setIfInBounds_toArray, List.set_cons_zero, List.set_cons_succ])
                (refine draw_free (i := 3) (v := ?_) rfl ?_ ?_; rotate_left; (intro w; go_simp; try with_reducible rfl)); (try simp only [Act.put, List.setIfInBounds_toArray, List.set_cons_zero, List.set_cons_succ])
                (refine draw_in (i := 4) (v := ?_) rfl ?_ ?_; rotate_left; (intro w hSw; (try dsimp only at hSw); go_simp; try with_reducible rfl)); (try simp only [Act.put, List.setIfInBounds_toArray, List.set_cons_zero, List.set_cons_succ])
                (refine draw_free (i := 5) (v := ?_) rfl ?_ ?_; rotate_left; (intro w; go_simp; try with_reducible rfl)); (try simp only [Act.put, List.setIfInBounds_toArray, List.set_cons_zero, List.set_cons_succ])
                (refine draw_free (i := 6) (v := ?_) rfl ?_ ?_; rotate_left; (intro w; go_simp; try with_reducible rfl)); (try simp only [Act.put, List.setIfInBounds_toArray, List.set_cons_zero, List.set_cons_succ])
                (refine draw_free (i := 7) (v := ?_) rfl ?_ ?_; rotate_left; (intro w; go_simp; try with_reducible rfl)); (try simp only [Act.put, List.setIfInBounds_toArray, List.set_cons_zero, List.set_cons_succ])
                (refine draw_in (i := 8) (v := ?_) rfl ?_ ?_; rotate_left; (intro w hSw; (try dsimp only at hSw); go_simp; try with_reducible rfl)); (try simp only [Act.put, List.setIfInBounds_toArray, List.set_cons_zero, List.set_cons_succ])
                (refine draw_free (i := 9) (v := ?_) rfl ?_ ?_; rotate_left; (intro w; go_simp; try with_reducible rfl)); (try simp only [Act.put, List.setIfInBounds_toArray, List.set_cons_zero, List.set_cons_succ])
                (refine draw_in (i := 10) (v := ?_) rfl ?_ ?_; rotate_left; (intro w hSw; (try dsimp only at hSw); go_simp; try with_reducible rfl)); (try simp only [Act.put, List.setIfInBounds_toArray, List.set_cons_zero, List.set_cons_succ])
                (refine draw_free (i := 11) (v := ?_) rfl ?_ ?_; rotate_left; (intro w; go_simp; try with_reducible rfl)); (try simp only [Act.put, List.setIfInBounds_toArray, List.set_cons_zero, List.set_cons_succ])
                (refine draw_in (i := 12) (v := ?_) rfl ?_ ?_; rotate_left; (intro w hSw; (try dsimp only at hSw); go_simp; try with_reducible rfl)); (try simp only [Act.put, List.setIfInBounds_toArray, List.set_cons_zero, List.set_cons_succ])
                (refine draw_in (i := 13) (v := ?_) rfl ?_ ?_; rotate_left; (intro w hSw; (try dsimp only at hSw); go_simp; try with_reducible rfl)); (try simp only [Act.put, List.setIfInBounds_toArray, List.set_cons_zero, List.set_cons_succ])
                (refine draw_free (i := 14) (v := ?_) rfl ?_ ?_; rotate_left; (intro w; go_simp; try with_reducible rfl)); (try simp only [Act.put, List.setIfInBounds_toArray, List.set_cons_zero, List.set_cons_succ])
                (refine draw_in (i := 15) (v := ?_) rfl ?_ ?_; rotate_left; (intro w hSw; (try dsimp only at hSw); go_simp; try with_reducible rfl)); (try simp only [Act.put, List.setIfInBounds_toArray, List.set_cons_zero, List.set_cons_succ])
                refine draw_one (i := 16) ?_
                refine comes_late (i := 16) rfl (by kernel_rfl) (fun K hK => ?_)
                go_simp
                refine hK.out _ _ ?_
                clear hK K; (try simp only [Act.put, List.setIfInBounds_toArray, List.set_cons_zero, List.set_cons_succ])
                refine wpAnyD_done (by kernel_rfl) ?_ _
                have HFin2 := Lib.hid (show St w p hs ls ha hn hcap ba n bcap ha' hcap' ba' bcap' gr gx ga ca gb cb gs cs ns no nk vs w7.drew xs ys xs ys (Z2.set m ((z.1.1, z.1.2.1, z.1.2.2.1.set c x, ()), z.2)) T sa sc oa oc (some ⟨b, off, none⟩) ∧ PartIn T (Z2.set m ((z.1.1, z.1.2.1, z.1.2.2.1.set c x, ()), z.2)) m (c + 1) from ⟨HFin.out.1.to (Kp.refl w7).drew, HFin.out.2⟩)
                clear hHeld p8 p9
                go_wp2
                clear e7
                go_roundw
                case rel => exact ⟨c + 1, _, by omega, by first | rfl | (congr 1; done) | (congr 1; omega), HFin2⟩
                case measure => simp [intOf]; omega
              · obtain rfl : c = mm := by omega
                have HFin := Lib.hid (And.intro hs2.out.1 (hs2.out.2.done HK6.out.1 HK6.out.2.2))
                clear p1 p3 p4 p5 p6 p7 egd edc hlen hz
                go_wp2
                go_roundw
                case rel => exact ⟨m + 1, _, by omega, by first | rfl | (congr 1; done) | (congr 1; omega), HFin⟩
                case measure => simp [intOf]; omega
          · obtain rfl : m = nk := by omega
            have HFin := Lib.hid (And.intro hsm.out.1 (show Z.map (·.1) = T from Part.all (by have h := hsm.out.2; rw [← hsm.out.1.kl] at h; exact h)))
            go_wp2
            go_roundw
            case rel => exact ⟨i + 1, _, _, _, _, _, _, _, _, _, _, by omega, by first | rfl | (congr 1; done) | (congr 1; omega), rfl, rfl, rfl, HFin⟩
            case measure => simp [intOf]; omega
    · go_wp2
      go_ret
      exact RetN.mk hst.out.1.ext rfl
end Go.Proofs.Ytcphalpcdcddpaa

/- The law of costs: its arguments as they come in. -/
namespace Go.Proofs.Ytcphalpcdcddpaa
open Go.RowKit
set_option linter.unusedVariables false

abbrev KnownZ := ByteArray × Int × List Int × Unit
noncomputable def shI : Shp Try.prog Int := shInt 3 .i64 Try.underlying3 (by kernel_rfl)
noncomputable def shInts : Shp Try.prog (List Int) := shSlice 28 shI Try.underlying28 (by kernel_rfl) (by decide)
noncomputable def shWord : Shp Try.prog Int := shInt 50 .u64 Try.underlying50 (by kernel_rfl)
noncomputable def shWords : Shp Try.prog (List Int) := shSlice 51 shWord Try.underlying51 (by kernel_rfl) (by decide)
noncomputable def shKnown : Shp Try.prog KnownZ := shStruct 53 (fdCons (shStr 9 Try.underlying9 (by kernel_rfl)) (fdCons shWord (fdCons shWords fdNil))) (fs := _) Try.underlying53 ⟨_, _, rfl, rfl, rfl, _, _, rfl, rfl, rfl, _, _, rfl, rfl, rfl, rfl⟩ (by kernel_rfl)
noncomputable def shKnowns : Shp Try.prog (List KnownZ) := shSlice 29 shKnown Try.underlying29 (by kernel_rfl) (by decide)

/-- By words. -/
def natK (k : KnownZ) : StatZ := (k.1, k.2.1.toNat, k.2.2.1.map Int.toNat, ())
theorem wf_u64 {z : Int} (h : (Lit.int .u64 z).wf = true) : 0 ≤ z ∧ z < 18446744073709551616 := by
  have h' : (decide (IntKind.u64.min ≤ z) && decide (z ≤ IntKind.u64.max)) = true := h
  rw [Bool.and_eq_true, decide_eq_true_eq, decide_eq_true_eq] at h'
  have h1 : IntKind.u64.min = 0 := by decide
  have h2 : IntKind.u64.max = 18446744073709551615 := by decide
  rw [h1, h2] at h'
  omega
theorem word_cells {w : World} {G : Nat → Prop} {ao : Option Addr} {zs : List Int} (h : ElemsAt shWord w G ao zs) : CellsAt w ao (words (zs.map Int.toNat)) ∧ (∀ x ∈ zs.map Int.toNat, x < 18446744073709551616) ∧ (zs.map Int.toNat ≠ [] → ∀ a, ao = some a → G a.block) := by
  refine ⟨fun i u hu => ?_, fun x hx => ?_, fun hne a ha => ?_⟩
  · rw [words, List.getElem?_map, List.getElem?_map] at hu
    cases hz : zs[i]? with
    | none => rw [hz] at hu; cases hu
    | some z =>
      rw [hz] at hu; cases hu
      obtain ⟨b, off, es, e, _, _, ⟨ha, hw⟩, hc⟩ := h i z hz
      refine ⟨b, off, e, ?_⟩
      have h0 := hc 0 (.int .u64 z) (by rw [ha]; rfl)
      rw [show shWord.n = 1 from rfl, Nat.mul_one, Nat.add_zero] at h0
      rw [h0]
      show some (Value.int .u64 z) = some (.int .u64 ((z.toNat : Nat) : Int))
      rw [Int.toNat_of_nonneg (wf_u64 hw).1]
  · obtain ⟨z, hz, rfl⟩ := List.mem_map.1 hx
    obtain ⟨i, hi⟩ := List.mem_iff_getElem?.1 hz
    obtain ⟨b, off, es, e, _, _, ⟨ha, hw⟩, hc⟩ := h i z hi
    have := wf_u64 hw
    omega
  · cases zs with
    | nil => exact absurd rfl hne
    | cons z zs =>
      obtain ⟨b, off, es, e, hG, _⟩ := h 0 z rfl
      rw [e] at ha; cases ha; exact hG
theorem known_in {w : World} {G : Nat → Prop} {ao : Option Addr} {ks : List KnownZ} (h : ElemsAt shKnown w G ao ks) : KnownIn w G ao (ks.map natK) := fun i s hs => by
  rw [List.getElem?_map] at hs
  cases hk : ks[i]? with
  | none => rw [hk] at hs; cases hs
  | some k =>
    rw [hk] at hs; cases hs
    obtain ⟨b, off, es, e, hG, _, ⟨a1, b1, e1, ⟨e2, _⟩, a3, b3, e3, ⟨e4, hw⟩, a5, b5, e5, ⟨da, dcap, e6, h1, h2, h3⟩, e7⟩, hc⟩ := h i k hk
    have ees : es = [.string k.1, .int .u64 k.2.1, .slice da k.2.2.1.length dcap] := by
      have e7' : b5 = [] := e7
      rw [e1, e2, e3, e4, e5, e6, e7']; rfl
    rw [ees, show shKnown.n = 3 from rfl] at hc
    obtain ⟨w1, w2, w3⟩ := word_cells h3
    refine ⟨b, off, da, dcap, e, hG, w3, (show w.cell? ⟨b, off + i * 3, none⟩ = some (.string k.1) by simpa using hc 0 _ rfl), ?_, ?_, ?_, h2, w1⟩
    · rw [Nat.add_assoc]
      have h0 := hc 1 _ rfl
      rw [h0]
      show some (Value.int .u64 k.2.1) = some (.int .u64 ((k.2.1.toNat : Nat) : Int))
      rw [Int.toNat_of_nonneg (wf_u64 hw).1]
    · rw [Nat.add_assoc]
      have h0 := hc 2 _ rfl
      rw [h0]
      show some (Value.slice da k.2.2.1.length dcap) = some (.slice da (k.2.2.1.map Int.toNat).length dcap)
      rw [List.length_map]
    · show (k.2.2.1.map Int.toNat).length ≤ dcap
      rw [List.length_map]; exact h1
theorem known_fit {w : World} {G : Nat → Prop} {ao : Option Addr} {ks : List KnownZ} (h : ElemsAt shKnown w G ao ks) (hb : bulkL shKnown.bulk ks + 1 ≤ 1048576) : StatsFit (ks.map natK) := by
  have hall : ∀ k ∈ ks, k.2.2.1.length ≤ 1048576 ∧ k.2.1.toNat < 18446744073709551616 ∧ ∀ x ∈ k.2.2.1.map Int.toNat, x < 18446744073709551616 := fun k hk => by
    obtain ⟨i, hi⟩ := List.mem_iff_getElem?.1 hk
    obtain ⟨b, off, es, e, hG, _, ⟨a1, b1, e1, ⟨e2, _⟩, a3, b3, e3, ⟨e4, hw⟩, a5, b5, e5, ⟨da, dcap, e6, h1, h2, h3⟩, e7⟩, hc⟩ := h i k hi
    have hbk := bulkL_mem shKnown.bulk hk
    have hbk' : shKnown.bulk k = ((k.1.size + 1) + (1 + ((bulkL shWord.bulk k.2.2.1 + 1) + 0))) + 1 := rfl
    have hlen := bulkL_len shWord.bulk (fun _ => Nat.le_refl 1) k.2.2.1
    have hwf := wf_u64 hw
    exact ⟨by omega, by omega, (word_cells h3).2.1⟩
  have hlen := bulkL_len shKnown.bulk (fun k => by show 1 ≤ _ + 1; omega) ks
  refine ⟨by rw [List.length_map]; omega, fun s hs => ?_, fun s hs => ?_, fun s hs => ?_⟩
  all_goals obtain ⟨k, hk, rfl⟩ := List.mem_map.1 hs
  · show (k.2.2.1.map Int.toNat).length ≤ _
    rw [List.length_map]; exact (hall k hk).1
  · exact (hall k hk).2.1
  · exact (hall k hk).2.2
theorem int_cells {w : World} {G : Nat → Prop} {ao : Option Addr} {zs : List Int} (h : ElemsAt shI w G ao zs) : CellsAt w ao (ints zs) ∧ (zs ≠ [] → ∀ a, ao = some a → G a.block) := by
  refine ⟨fun i u hu => ?_, fun hne a ha => ?_⟩
  · rw [ints, List.getElem?_map] at hu
    cases hz : zs[i]? with
    | none => rw [hz] at hu; cases hu
    | some z =>
      rw [hz] at hu; cases hu
      obtain ⟨b, off, es, e, _, _, ⟨ha, hw⟩, hc⟩ := h i z hz
      refine ⟨b, off, e, ?_⟩
      have h0 := hc 0 (.int .i64 z) (by rw [ha]; rfl)
      rw [show shI.n = 1 from rfl, Nat.mul_one, Nat.add_zero] at h0
      exact h0
  · cases zs with
    | nil => exact absurd rfl hne
    | cons z zs =>
      obtain ⟨b, off, es, e, hG, _⟩ := h 0 z rfl
      rw [e] at ha; cases ha; exact hG
/-- A rule that came in is not too big. -/
theorem rule_fit {r : RuleZ} (hb : shRule.bulk r ≤ 1048576) : r.1.2.1.length ≤ 1048576 ∧ Fit r.2.1 := by
  have e : shRule.bulk r = (shAtom.bulk r.1 + ((bulkL shLit.bulk r.2.1 + 1) + 0)) + 1 := rfl
  have ea : ∀ a : AtomZ, shAtom.bulk a = ((a.1.size + 1) + ((bulkL shTerm.bulk a.2.1 + 1) + 0)) + 1 := fun _ => rfl
  have el : ∀ l : LitZ, shLit.bulk l = (1 + (shAtom.bulk l.2.1 + (1 + (shTerm.bulk l.2.2.2.1 + (shTerm.bulk l.2.2.2.2.1 + 0))))) + 1 := fun _ => rfl
  have et : ∀ ts : List TermZ, ts.length ≤ bulkL shTerm.bulk ts := fun ts => bulkL_len shTerm.bulk (fun t => by show 1 ≤ _ + 1; omega) ts
  have h1 := ea r.1
  have h2 := et r.1.2.1
  have h3 := bulkL_len shLit.bulk (fun l => by show 1 ≤ _ + 1; omega) r.2.1
  refine ⟨by omega, by omega, fun l hl => ?_⟩
  have h4 := bulkL_mem shLit.bulk hl
  have h5 := el l
  have h6 := ea l.2.1
  have h7 := et (termsOf l)
  have h8 : bulkL shTerm.bulk (termsOf l) = bulkL shTerm.bulk l.2.1.2.1 := rfl
  omega
end Go.Proofs.Ytcphalpcdcddpaa

/- Proved here: the statement CostGuessesUptoSaid: the law returns true for every input of the bound that the row names and leaves its arguments as they were. No condition of its own. -/
namespace Go.Proofs.Ytcphalpcdcddpaa.lawCostGuesses
open Go.ChangeShapes Go.WideShapes Go.ChangeAt Go.RowKit
set_option linter.unusedVariables false

theorem own : ownKnob Try.prog.godebug = none := by kernel_rfl
theorem laidOut : laidOutB Try.prog = true := by kernel_rfl

noncomputable def shAsk : Shp Try.prog (RuleZ × List Int × List Int × List KnownZ × Unit) := shStruct 31 (fdCons shRule (fdCons shInts (fdCons shInts (fdCons shKnowns fdNil)))) (fs := _) Try.underlying31 ⟨_, _, rfl, rfl, rfl, _, _, rfl, rfl, rfl, _, _, rfl, rfl, rfl, _, _, rfl, rfl, rfl, rfl⟩ (by kernel_rfl)

theorem guesses_walk {v : Value} {W : World} (hv : ∃ cs x, v = .agg cs ∧ shAsk.At W (fun k => k < W.heap.size) cs.toList x ∧ shAsk.bulk x ≤ 1048576) :
    Calls Try.prog 3 #[v] W (fun e w' => e = .returned (.bool true) ∧ Below W.heap.size W w') := by
  obtain ⟨cs, x, rfl, ⟨a1, b1, e1, h1, a2, b2, e2, ⟨sa, sc, e3, s1, s2, s3⟩, a4, b4, e4, ⟨oa, oc, e5, o1, o2, o3⟩, a6, b6, e6, ⟨ka, kc, e7, k1, k2, k3⟩, e8⟩, hb⟩ := hv
  obtain ⟨ha, hcap, ba, bcap, hR, ec⟩ := rule_cells h1
  have e8' : b6 = [] := e8
  have ecs : cs = #[.string x.1.1.1, .slice ha x.1.1.2.1.length hcap, .slice ba x.1.2.1.length bcap, .slice sa x.2.1.length sc, .slice oa x.2.2.1.length oc, .slice ka x.2.2.2.1.length kc] := by
    rw [← Array.toList_inj, e1, ec, e2, e3, e4, e5, e6, e7, e8']; rfl
  have hbk : shAsk.bulk x = (shRule.bulk x.1 + ((bulkL shI.bulk x.2.1 + 1) + ((bulkL shI.bulk x.2.2.1 + 1) + ((bulkL shKnown.bulk x.2.2.2.1 + 1) + 0)))) + 1 := rfl
  have l1 := bulkL_len shI.bulk (fun _ => Nat.le_refl 1) x.2.1
  have l2 := bulkL_len shI.bulk (fun _ => Nat.le_refl 1) x.2.2.1
  obtain ⟨f1, f2⟩ := rule_fit (r := x.1) (by omega)
  obtain ⟨i1, i2⟩ := int_cells s3
  obtain ⟨j1, j2⟩ := int_cells o3
  rw [ecs]
  refine (guesses_any x.1.1.1 x.1.1.2.1 x.1.2.1 ha _ hcap ba _ bcap x.2.1 x.2.2.1 sa oa _ sc _ oc (x.2.2.2.1.map natK) ka _ kc W rfl hR.head f1 rfl hR.body f2 rfl i1 (fun hne a ha hn => hn (i2 hne a ha)) s1 s2 (by omega) rfl j1 (fun hne a ha hn => hn (j2 hne a ha)) o1 o2 (by omega) (by rw [List.length_map]) (known_in k3) (known_fit k3 (by omega))).mono ?_
  rintro e w' ⟨v, rfl, hk, rfl⟩
  exact ⟨rfl, hk.below⟩

set_option maxRecDepth 100000 in
theorem lifted (os : Os) (started : os.Started) (H : Type) (enc : TypeId × Value → H) (F : Stop.Interp) :
    ReturnsInHanded {} Try.checked os 3 .any ((Rows.OpenSpec.upto Rows.costGuessesSpec).pre6 enc Try.prog Try.f3 Rows.costGuessesUptoRow.domain false) (((Rows.OpenSpec.upto Rows.costGuessesSpec).at F).post enc Try.prog Try.f3 false true false false) := by
  refine returnsInHanded_of_cond (C := Try.checked) (s := Rows.OpenSpec.upto Rows.costGuessesSpec) (k := Rows.uptoSmall) rfl own started (by kernel_rfl) Try.func3
    (OpenSpec.witness (enc := enc) (C := Try.checked) (s := Rows.OpenSpec.upto Rows.costGuessesSpec) (k := Rows.uptoSmall) rfl false ⟨#[], #[.agg #[.string ⟨#[]⟩, .slice none 0 0, .slice none 0 0, .slice none 0 0, .slice none 0 0, .slice none 0 0]], []⟩ 8 (by kernel_rfl) (by kernel_rfl) (by kernel_rfl)
      (x := ([.agg [.agg [.agg [.lit (.string []), .nil], .nil], .nil, .nil, .nil]], [], [])) (by kernel_rfl) rfl (by kernel_rfl)) ?_
  intro W base args ds gs before hval0 hW hcnd hk0 _
  have hk : Rows.uptoSmall H (ds ++ gs) = true := hk0
  clear hk0
  have hval : ∀ (j : Nat) t v, Try.f3.params[j]? = some t → args[j]? = some v → Value.okWide Try.prog W .any base t v := hval0
  have hW' := hW
  obtain ⟨p, q, hA0, hV, rfl, hfz, hnd⟩ := hW
  have hA : DataW.TrodAll enc Try.prog W 0 (fun _ => true) true Try.f3.params.toList args.toList ds p := hA0
  rw [Try.params3] at hA hval
  obtain ⟨v0, vs0, d0, ds0, p0, q0, hargs, rfl, rfl, h0, r0⟩ := trodAll_cons hA
  obtain ⟨rfl, rfl, rfl⟩ := trodAll_nil r0
  obtain rfl : args = #[v0] := by cases args; simp_all
  obtain ⟨rfl, rfl⟩ := trodVars_none hV
  have lt0 : ∀ x ∈ p0, x.block < W.heap.size := by obtain ⟨m, hm⟩ := h0; exact DataW.trod_lt m _ _ _ hm
  clear hA0 hval0
  simp only [List.append_nil] at hk
  have hk1 : Rows.uptoBulkAll [d0] ≤ 1048576 := of_decide_eq_true hk
  clear hk
  have x0 : ∃ cs x, v0 = .agg cs ∧ shAsk.At W (fun k => k < W.heap.size) cs.toList x ∧ shAsk.bulk x ≤ 1048576 := by
    obtain ⟨cs, rfl, hcs⟩ := okWide_struct Try.underlying31 (hval 0 31 v0 rfl rfl)
    obtain ⟨x, hx, hb⟩ := shAsk.arg h0 (bulk_in hk1 (by simp))
    exact ⟨cs, x, rfl, hx, hb⟩
  refine (guesses_walk x0).mono fun e W' ⟨he, bel⟩ => ?_
  subst he
  exact ⟨_, rfl, _, _, _, [], _, [], hW', trodAll_mk1 (shut_bool Try.underlying4 _), (trodAll_cons_mk (Below.trod laidOut (by kernel_rfl) (of_decide_eq_true (by kernel_rfl)) h0 bel lt0) trodAll_mk0), rfl, bel.frame _, fun h => by cases h⟩

theorem over : Rows.costGuessesUptoRow.holds Try.pinned (Rows.OpenSpec.upto Rows.costGuessesSpec) :=
  OpenClaim.holds_of_cond 3 Try.f3 rfl rfl rfl rfl rfl rfl rfl ⟨rfl, rfl, rfl, rfl, rfl⟩ rfl rfl rfl rfl rfl (by kernel_rfl) Try.func3 (by kernel_rfl)
    (of_decide_eq_true (by kernel_rfl)) (by unfold Func.isWrapper; first | (rw [if_pos (by decide +kernel)]; kernel_rfl) | (rw [if_neg (by decide +kernel)]; exact ⟨rfl, rfl⟩))
    (fun os started H enc _ F => lifted os started H enc F)

theorem proved : Rows.CostGuessesUptoSaid := over
#print axioms proved
end Go.Proofs.Ytcphalpcdcddpaa.lawCostGuesses
