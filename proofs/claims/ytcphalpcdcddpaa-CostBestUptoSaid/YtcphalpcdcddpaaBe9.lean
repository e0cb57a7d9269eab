/- Proved here: the statement CostBestUptoSaid: the law returns true for every input of the bound that the row names and leaves its arguments as they were. No condition of its own. -/
import Derived.Test.YtcphalpcdcddpaaBe8
import Derived.Deep.CondSized
/- The law of costs: the state of CostGuesses between two rounds; what its calls answer in it. (Written by mk_law11.py.) -/
namespace Go.Proofs.Ytcphalpcdcddpaa
open Go.RowKit
set_option linter.unusedVariables false

theorem RuleM.old {w0 w1 w : World} {hs : List TermZ} {ls : List LitZ} {ha : Option Addr} {hn hcap : Nat} {ba : Option Addr} {n bcap : Nat} (h : RuleM w1 w hs ls ha hn hcap ba n bcap) (hs' : w0.heap.size ≤ w1.heap.size) : RuleM w0 w hs ls ha hn hcap ba n bcap := by
  obtain ⟨h1, g, rest, vs, e, a1, a2, a3, a4, a5, hB, hx⟩ := h
  exact ⟨h1.old hs', g, rest, vs, e, a1, a2, a3, Nat.le_trans hs' a4, a5, hB, fun x hxx => (hx x hxx).old hs'⟩
theorem IntsM.old {w0 w1 w : World} {g n cap : Nat} {xs : List Int} (h : IntsM w1 w g n cap xs) (hs : w0.heap.size ≤ w1.heap.size) : IntsM w0 w g n cap xs := by
  obtain ⟨rest, hn, h1, h2, hg, hB, hl⟩ := h
  exact ⟨rest, hn, h1, h2, Nat.le_trans hs hg, hB, hl⟩
theorem StatsZ.old {w0 w1 w : World} {g n cap : Nat} {Z : List (StatZ × (Nat × Nat))} (h : StatsZ w1 w g n cap Z) (hs : w0.heap.size ≤ w1.heap.size) : StatsZ w0 w g n cap Z := by
  obtain ⟨rest, h1, h2, h3, h4, h5, h6, h7⟩ := h.body
  exact ⟨rest, h1, h2, h3, Nat.le_trans hs h4, h5, h6, fun x hx => by
    obtain ⟨r, a, b, c, d⟩ := h7 x hx
    exact ⟨r, a, b, Nat.le_trans hs c, d⟩⟩
/-- The blocks that are written over. -/
def OwnG (ga gb gs : Nat) (vs : List (Nat × Nat)) (k : Nat) : Prop := k = ga ∨ k = gb ∨ blksZ gs vs k
abbrev Old (w : World) (k : Nat) : Prop := k < w.heap.size
structure St (w : World) (p : ByteArray) (hs : List TermZ) (ls : List LitZ) (ha : Option Addr) (hn hcap : Nat) (ba : Option Addr) (n bcap : Nat) (ha' : Option Addr) (hcap' : Nat) (ba' : Option Addr) (bcap' gr gx ga ca gb cb gs cs ns no nk : Nat) (vs : List (Nat × Nat)) (W : World) (us bs xs ys : List Int) (Z : List (StatZ × (Nat × Nat))) (K : List StatZ) (sa : Option Addr) (sc : Nat) (oa : Option Addr) (oc : Nat) (ka : Option Addr) : Prop where
  hhn : hn = hs.length
  hhl : hn ≤ 1048576
  hh : TermsAt w (Old w) ha hs
  hbn : n = ls.length
  h : LitsAt w (Old w) ba ls
  hf : Fit ls
  ext : Ext w W
  rbox : Blk W gr [.string p, .slice ha hn hcap, .slice ba n bcap] 27
  xbox : Blk W gx [.string p, .slice ha' hn hcap', .slice ba' n bcap'] 27
  rule : RuleM w W hs ls ha' hn hcap' ba' n bcap'
  a : IntsM w W ga ns ca us
  b : IntsM w W gb no cb bs
  ne : ga ≠ gb
  z : StatsZ w W gs nk cs Z
  vz : Z.map (·.2) = vs
  xl : xs.length = ns
  xc : ns ≤ sc
  xm : sc ≤ maxLen
  xat : CellsAt W sa (ints xs)
  xoff : xs ≠ [] → Off (OwnG ga gb gs vs) sa
  yl : ys.length = no
  yc : no ≤ oc
  ym : oc ≤ maxLen
  yat : CellsAt W oa (ints ys)
  yoff : ys ≠ [] → Off (OwnG ga gb gs vs) oa
  kl : K.length = nk
  kat : ∃ M, KnownIn W M ka K ∧ ∀ k, M k → ¬ OwnG ga gb gs vs k
  kf : StatsFit K
  nsl : ns ≤ 1048576
  nol : no ≤ 1048576
section
variable {w : World} {p : ByteArray} {hs : List TermZ} {ls : List LitZ} {ha : Option Addr} {hn hcap : Nat} {ba : Option Addr} {n bcap : Nat} {ha' : Option Addr} {hcap' : Nat} {ba' : Option Addr} {bcap' gr gx ga ca gb cb gs cs ns no nk : Nat} {vs : List (Nat × Nat)} {W : World} {us bs xs ys : List Int} {Z : List (StatZ × (Nat × Nat))} {K : List StatZ} {sa : Option Addr} {sc : Nat} {oa : Option Addr} {oc : Nat} {ka : Option Addr}
theorem St.to {W' : World} (s : St w p hs ls ha hn hcap ba n bcap ha' hcap' ba' bcap' gr gx ga ca gb cb gs cs ns no nk vs W us bs xs ys Z K sa sc oa oc ka) (hk : Ext W W') : St w p hs ls ha hn hcap ba n bcap ha' hcap' ba' bcap' gr gx ga ca gb cb gs cs ns no nk vs W' us bs xs ys Z K sa sc oa oc ka :=
  { hhn := s.hhn, hhl := s.hhl, hh := s.hh, hbn := s.hbn, h := s.h, hf := s.hf, ext := s.ext.trans hk, rbox := s.rbox.ext hk, xbox := s.xbox.ext hk, rule := s.rule.ext hk, a := s.a.ext hk, b := s.b.ext hk, ne := s.ne, z := s.z.kp hk fun _ _ => id, vz := s.vz, xl := s.xl, xc := s.xc, xm := s.xm, xat := s.xat.ext hk, xoff := s.xoff, yl := s.yl, yc := s.yc, ym := s.ym, yat := s.yat.ext hk, yoff := s.yoff, kl := s.kl, kat := (by obtain ⟨M, h1, h2⟩ := s.kat; exact ⟨M, h1.ext hk, h2⟩), kf := s.kf, nsl := s.nsl, nol := s.nol }
theorem St.guess (s : St w p hs ls ha hn hcap ba n bcap ha' hcap' ba' bcap' gr gx ga ca gb cb gs cs ns no nk vs W xs ys xs ys Z K sa sc oa oc ka) (hZ : Z.map (·.1) = K) : Calls Try.prog 11 #[ruleV p ha' hn hcap' ba' n bcap', .slice (some ⟨ga, 0, none⟩) ns ca, .slice (some ⟨gs, 0, none⟩) nk cs] W (RetN W fun w' v => v = .tuple #[.float .f64 (guessE ((p, hs, ()), ls, ()) K xs).1, .int .i64 (guessE ((p, hs, ()), ls, ()) K xs).2]) := by
  have hz := s.z.m
  rw [hZ] at hz
  have hc := hz.mark.1
  have hnl := s.nsl
  exact guessE_any p hs ls ha' hn hcap' ba' n bcap' xs _ ns ca K _ nk cs W (New w) s.hhn (s.rule.terms (terms_fit s.hh)) s.hhl s.hbn (s.rule.lits (lits_all s.h)) s.hf s.xl.symm s.a.at (by omega) s.kl.symm (by omega) hz.at s.kf
theorem St.cost (s : St w p hs ls ha hn hcap ba n bcap ha' hcap' ba' bcap' gr gx ga ca gb cb gs cs ns no nk vs W xs ys xs ys Z K sa sc oa oc ka) (hZ : Z.map (·.1) = K) : Calls Try.prog 12 #[ruleV p ha' hn hcap' ba' n bcap', .slice (some ⟨gb, 0, none⟩) no cb, .slice (some ⟨gs, 0, none⟩) nk cs] W (RetN W fun w' v => v = .tuple #[.float .f64 (costE ((p, hs, ()), ls, ()) K ys).1, .int .i64 (costE ((p, hs, ()), ls, ()) K ys).2]) := by
  have hz := s.z.m
  rw [hZ] at hz
  have hc := hz.mark.1
  have hnl := s.nol
  obtain ⟨_, _, h1, h2, _⟩ := s.b
  exact costE_any p hs ls ha' hn hcap' ba' n bcap' ys _ no cb K _ nk cs W (New w) s.hhn (s.rule.terms (terms_fit s.hh)) s.hhl s.hbn (s.rule.lits (lits_all s.h)) s.hf s.yl.symm s.b.at (by omega) (by omega) h2 s.kl.symm (by omega) hz.at s.kf
theorem St.plain (s : St w p hs ls ha hn hcap ba n bcap ha' hcap' ba' bcap' gr gx ga ca gb cb gs cs ns no nk vs W us bs xs ys Z K sa sc oa oc ka) (kc : Nat) : Calls Try.prog 14 #[.slice ka nk kc] W (RetN W fun w' v => ∃ a c, v = .slice a nk c ∧ nk ≤ c ∧ c ≤ maxLen ∧ StatsAt w' a K) := by
  obtain ⟨M, hk, _⟩ := s.kat
  exact plain_any K ka nk kc W s.kl.symm hk.at s.kf
theorem St.refGuess (s : St w p hs ls ha hn hcap ba n bcap ha' hcap' ba' bcap' gr gx ga ca gb cb gs cs ns no nk vs W us bs xs ys Z K sa sc oa oc ka) {a : Option Addr} {c : Nat} (hS : StatsAt W a K) : Calls Try.prog 13 #[ruleV p ha hn hcap ba n bcap, .slice sa ns sc, .slice a nk c] W (RetN W fun w' v => v = .tuple #[.float .f64 (guessE ((p, hs, ()), ls, ()) K xs).1, .int .i64 (guessE ((p, hs, ()), ls, ()) K xs).2]) := by
  have hnl := s.nsl
  exact refGuessE_any p hs ls ha hn hcap ba n bcap xs sa ns sc K a nk c W (Old w) s.hhn (s.hh.ext s.ext) s.hhl s.hbn (s.h.ext s.ext) s.hf s.xl.symm s.xat (by omega) s.kl.symm hS s.kf
theorem St.refCost (s : St w p hs ls ha hn hcap ba n bcap ha' hcap' ba' bcap' gr gx ga ca gb cb gs cs ns no nk vs W us bs xs ys Z K sa sc oa oc ka) {a : Option Addr} {c : Nat} (hS : StatsAt W a K) : Calls Try.prog 15 #[ruleV p ha hn hcap ba n bcap, .slice oa no oc, .slice a nk c] W (RetN W fun w' v => v = .tuple #[.float .f64 (costE ((p, hs, ()), ls, ()) K ys).1, .int .i64 (costE ((p, hs, ()), ls, ()) K ys).2]) := by
  have hnl := s.nol
  exact refCostE_any p hs ls ha hn hcap ba n bcap ys oa no oc K a nk c W (Old w) s.hhn (s.hh.ext s.ext) s.hhl s.hbn (s.h.ext s.ext) s.hf s.yl.symm s.yat (by omega) s.yc s.ym s.kl.symm hS s.kf
theorem St.stays (s : St w p hs ls ha hn hcap ba n bcap ha' hcap' ba' bcap' gr gx ga ca gb cb gs cs ns no nk vs W us bs xs ys Z K sa sc oa oc ka) : Calls Try.prog 17 #[ruleV p ha' hn hcap' ba' n bcap', ruleV p ha hn hcap ba n bcap] W (RetN W fun w' v => v = .bool true) :=
  stays_any p hs ls w ha' ha hn hcap' hcap ba' ba n bcap' bcap W (Old w) s.hhn (s.hh.ext s.ext) s.hhl s.hbn (s.h.ext s.ext) s.hf s.rule
theorem St.intsA (s : St w p hs ls ha hn hcap ba n bcap ha' hcap' ba' bcap' gr gx ga ca gb cb gs cs ns no nk vs W xs bs xs ys Z K sa sc oa oc ka) : Calls Try.prog 18 #[.slice (some ⟨ga, 0, none⟩) ns ca, .slice sa ns sc] W (RetN W fun w' v => v = .bool true) := by
  have hnl := s.nsl
  exact ints_any xs _ _ ns ca sc W s.xl.symm s.a.at s.xat (by omega)
theorem St.intsB (s : St w p hs ls ha hn hcap ba n bcap ha' hcap' ba' bcap' gr gx ga ca gb cb gs cs ns no nk vs W us ys xs ys Z K sa sc oa oc ka) : Calls Try.prog 18 #[.slice (some ⟨gb, 0, none⟩) no cb, .slice oa no oc] W (RetN W fun w' v => v = .bool true) := by
  have hnl := s.nol
  exact ints_any ys _ _ no cb oc W s.yl.symm s.b.at s.yat (by omega)
theorem St.kept (s : St w p hs ls ha hn hcap ba n bcap ha' hcap' ba' bcap' gr gx ga ca gb cb gs cs ns no nk vs W us bs xs ys Z K sa sc oa oc ka) (hZ : Z.map (·.1) = K) (kc : Nat) : Calls Try.prog 19 #[.slice (some ⟨gs, 0, none⟩) nk cs, .slice ka nk kc] W (RetN W fun w' v => v = .bool true) := by
  obtain ⟨M, hk, _⟩ := s.kat
  have hz := s.z.m
  rw [hZ] at hz
  exact kept_any K w gs nk cs ka kc W s.kl.symm hk.at s.kf hz
theorem St.back (s : St w p hs ls ha hn hcap ba n bcap ha' hcap' ba' bcap' gr gx ga ca gb cb gs cs ns no nk vs W us bs xs ys Z K sa sc oa oc ka) : Calls Try.prog 20 #[.slice sa ns sc] W (RetN W fun w' v => ∃ a c, ∃ zs : List Int, v = .slice a ns c ∧ zs.length = ns ∧ ns ≤ c ∧ c ≤ maxLen ∧ CellsAt w' a (ints zs) ∧ ∀ x, a = some x → W.heap.size ≤ x.block) :=
  backward_any xs sa ns sc W s.xl.symm s.xat s.nsl
theorem St.backO (s : St w p hs ls ha hn hcap ba n bcap ha' hcap' ba' bcap' gr gx ga ca gb cb gs cs ns no nk vs W us bs xs ys Z K sa sc oa oc ka) : Calls Try.prog 20 #[.slice oa no oc] W (RetN W fun w' v => ∃ a c, ∃ zs : List Int, v = .slice a no c ∧ zs.length = no ∧ no ≤ c ∧ c ≤ maxLen ∧ CellsAt w' a (ints zs) ∧ ∀ x, a = some x → W.heap.size ≤ x.block) :=
  backward_any ys oa no oc W s.yl.symm s.yat s.nol
theorem St.others (s : St w p hs ls ha hn hcap ba n bcap ha' hcap' ba' bcap' gr gx ga ca gb cb gs cs ns no nk vs W us bs xs ys Z K sa sc oa oc ka) (kc : Nat) : Calls Try.prog 21 #[.slice ka nk kc] W (RetN W fun w' v => ∃ a c, ∃ T : List StatZ, v = .slice a nk c ∧ nk ≤ c ∧ c ≤ maxLen ∧ T.length = nk ∧ KnownIn w' (New W) a T ∧ AlikeTo K T nk) := by
  obtain ⟨M, hk, _⟩ := s.kat
  exact others_any K ka nk kc W s.kl.symm hk.at s.kf

/-- What lies where. -/
theorem St.own_lt (s : St w p hs ls ha hn hcap ba n bcap ha' hcap' ba' bcap' gr gx ga ca gb cb gs cs ns no nk vs W us bs xs ys Z K sa sc oa oc ka) : ∀ k, OwnG ga gb gs vs k → k < W.heap.size ∧ w.heap.size ≤ k := by
  rintro k (rfl | rfl | h)
  · obtain ⟨_, _, _, _, h1, h2, _⟩ := s.a
    exact ⟨h2.lt, h1⟩
  · obtain ⟨_, _, _, _, h1, h2, _⟩ := s.b
    exact ⟨h2.lt, h1⟩
  · rw [← s.vz] at h
    exact s.z.lt k h
theorem St.own_ty (s : St w p hs ls ha hn hcap ba n bcap ha' hcap' ba' bcap' gr gx ga ca gb cb gs cs ns no nk vs W us bs xs ys Z K sa sc oa oc ka) : ∀ k, OwnG ga gb gs vs k → ∃ cs e, Blk W k cs e ∧ (e = 3 ∨ e = 56 ∨ e = 37) := by
  rintro k (rfl | rfl | h)
  · obtain ⟨_, _, _, _, h1, h2, _⟩ := s.a
    exact ⟨_, _, h2, .inl rfl⟩
  · obtain ⟨_, _, _, _, h1, h2, _⟩ := s.b
    exact ⟨_, _, h2, .inl rfl⟩
  · rw [← s.vz] at h
    obtain ⟨cs, e, hb, h⟩ := s.z.ty k h
    exact ⟨cs, e, hb, .inr h⟩
theorem St.own_not (s : St w p hs ls ha hn hcap ba n bcap ha' hcap' ba' bcap' gr gx ga ca gb cb gs cs ns no nk vs W us bs xs ys Z K sa sc oa oc ka) {e : TypeId} (he : e ≠ 3 ∧ e ≠ 56 ∧ e ≠ 37) {k : Nat} {cs : List Value} (hb : Blk W k cs e) : ¬ OwnG ga gb gs vs k := fun h => by
  obtain ⟨cs', e', hb', h⟩ := s.own_ty k h
  have := blk_ne hb hb'
  rcases h with h | h | h
  · exact he.1 (this.trans h)
  · exact he.2.1 (this.trans h)
  · exact he.2.2 (this.trans h)
theorem St.new_off (s : St w p hs ls ha hn hcap ba n bcap ha' hcap' ba' bcap' gr gx ga ca gb cb gs cs ns no nk vs W us bs xs ys Z K sa sc oa oc ka) {a : Option Addr} (h : ∀ x, a = some x → W.heap.size ≤ x.block) : Off (OwnG ga gb gs vs) a := fun x hx ho => by
  have h1 := h x hx
  have h2 := (s.own_lt _ ho).1
  omega
theorem St.setNew (s : St w p hs ls ha hn hcap ba n bcap ha' hcap' ba' bcap' gr gx ga ca gb cb gs cs ns no nk vs W us bs xs ys Z K sa sc oa oc ka) {a : Option Addr} {c : Nat} {zs : List Int} (h1 : zs.length = ns) (h2 : ns ≤ c) (h3 : c ≤ maxLen) (h4 : CellsAt W a (ints zs)) (h5 : Off (OwnG ga gb gs vs) a) : St w p hs ls ha hn hcap ba n bcap ha' hcap' ba' bcap' gr gx ga ca gb cb gs cs ns no nk vs W us bs zs ys Z K a c oa oc ka :=
  { hhn := s.hhn, hhl := s.hhl, hh := s.hh, hbn := s.hbn, h := s.h, hf := s.hf, ext := s.ext, rbox := s.rbox, xbox := s.xbox, rule := s.rule, a := s.a, b := s.b, ne := s.ne, z := s.z, vz := s.vz, xl := h1, xc := h2, xm := h3, xat := h4, xoff := fun _ => h5, yl := s.yl, yc := s.yc, ym := s.ym, yat := s.yat, yoff := s.yoff, kl := s.kl, kat := s.kat, kf := s.kf, nsl := s.nsl, nol := s.nol }
theorem St.ordNew (s : St w p hs ls ha hn hcap ba n bcap ha' hcap' ba' bcap' gr gx ga ca gb cb gs cs ns no nk vs W us bs xs ys Z K sa sc oa oc ka) {a : Option Addr} {c : Nat} {zs : List Int} (h1 : zs.length = no) (h2 : no ≤ c) (h3 : c ≤ maxLen) (h4 : CellsAt W a (ints zs)) (h5 : Off (OwnG ga gb gs vs) a) : St w p hs ls ha hn hcap ba n bcap ha' hcap' ba' bcap' gr gx ga ca gb cb gs cs ns no nk vs W us bs xs zs Z K sa sc a c ka :=
  { hhn := s.hhn, hhl := s.hhl, hh := s.hh, hbn := s.hbn, h := s.h, hf := s.hf, ext := s.ext, rbox := s.rbox, xbox := s.xbox, rule := s.rule, a := s.a, b := s.b, ne := s.ne, z := s.z, vz := s.vz, xl := s.xl, xc := s.xc, xm := s.xm, xat := s.xat, xoff := s.xoff, yl := h1, yc := h2, ym := h3, yat := h4, yoff := fun _ => h5, kl := s.kl, kat := s.kat, kf := s.kf, nsl := s.nsl, nol := s.nol }
theorem St.knownNew (s : St w p hs ls ha hn hcap ba n bcap ha' hcap' ba' bcap' gr gx ga ca gb cb gs cs ns no nk vs W us bs xs ys Z K sa sc oa oc ka) {a : Option Addr} {T : List StatZ} (h1 : T.length = nk) (h2 : ∃ M, KnownIn W M a T ∧ ∀ k, M k → ¬ OwnG ga gb gs vs k) (h3 : StatsFit T) : St w p hs ls ha hn hcap ba n bcap ha' hcap' ba' bcap' gr gx ga ca gb cb gs cs ns no nk vs W us bs xs ys Z T sa sc oa oc a :=
  { hhn := s.hhn, hhl := s.hhl, hh := s.hh, hbn := s.hbn, h := s.h, hf := s.hf, ext := s.ext, rbox := s.rbox, xbox := s.xbox, rule := s.rule, a := s.a, b := s.b, ne := s.ne, z := s.z, vz := s.vz, xl := s.xl, xc := s.xc, xm := s.xm, xat := s.xat, xoff := s.xoff, yl := s.yl, yc := s.yc, ym := s.ym, yat := s.yat, yoff := s.yoff, kl := h1, kat := h2, kf := h3, nsl := s.nsl, nol := s.nol }
/-- All but what is written over, after a write. -/
theorem St.wrote (s : St w p hs ls ha hn hcap ba n bcap ha' hcap' ba' bcap' gr gx ga ca gb cb gs cs ns no nk vs W us bs xs ys Z K sa sc oa oc ka) {W' : World} (hk : Kp (OwnG ga gb gs vs) W W') {us' bs' : List Int} {Z' : List (StatZ × (Nat × Nat))} (ha1 : IntsM w W' ga ns ca us') (hb1 : IntsM w W' gb no cb bs') (hz1 : StatsZ w W' gs nk cs Z') (hz2 : Z'.map (·.2) = vs) : St w p hs ls ha hn hcap ba n bcap ha' hcap' ba' bcap' gr gx ga ca gb cb gs cs ns no nk vs W' us' bs' xs ys Z' K sa sc oa oc ka :=
  { hhn := s.hhn, hhl := s.hhl, hh := s.hh, hbn := s.hbn, h := s.h, hf := s.hf, ext := s.ext.trans' hk (fun i hi ho => absurd hi (Nat.not_lt.2 (s.own_lt i ho).2)), rbox := s.rbox.kp hk (s.own_not (by decide) s.rbox), xbox := s.xbox.kp hk (s.own_not (by decide) s.xbox), rule := (s.rule.kp hk fun k cs h => by rcases h with h | h <;> exact s.own_not (by decide) h), a := ha1, b := hb1, ne := s.ne, z := hz1, vz := hz2, xl := s.xl, xc := s.xc, xm := s.xm, xat := s.xat.kpN hk fun hne => s.xoff (ints_ne hne), xoff := s.xoff, yl := s.yl, yc := s.yc, ym := s.ym, yat := s.yat.kpN hk fun hne => s.yoff (ints_ne hne), yoff := s.yoff, kl := s.kl, kat := (by obtain ⟨M, h1, h2⟩ := s.kat; exact ⟨M, h1.kp hk h2, h2⟩), kf := s.kf, nsl := s.nsl, nol := s.nol }
theorem St.stat_ne_int (s : St w p hs ls ha hn hcap ba n bcap ha' hcap' ba' bcap' gr gx ga ca gb cb gs cs ns no nk vs W us bs xs ys Z K sa sc oa oc ka) {k : Nat} (h : blksZ gs vs k) {cs : List Value} (hb : Blk W k cs 3) : False := by
  rw [← s.vz] at h
  obtain ⟨cs', e, hb', h⟩ := s.z.ty k h
  have := blk_ne hb hb'
  rcases h with h | h
  · rw [h] at this; exact absurd this (by decide)
  · rw [h] at this; exact absurd this (by decide)
theorem St.blkA (s : St w p hs ls ha hn hcap ba n bcap ha' hcap' ba' bcap' gr gx ga ca gb cb gs cs ns no nk vs W us bs xs ys Z K sa sc oa oc ka) : ∃ cur, Blk W ga cur 3 ∧ ns ≤ cur.length := by
  obtain ⟨rest, h0, _, _, _, h2, _⟩ := s.a
  exact ⟨_, h2, by rw [List.length_append, ints_len, List.length_append]; omega⟩
theorem St.blkB (s : St w p hs ls ha hn hcap ba n bcap ha' hcap' ba' bcap' gr gx ga ca gb cb gs cs ns no nk vs W us bs xs ys Z K sa sc oa oc ka) : ∃ cur, Blk W gb cur 3 ∧ no ≤ cur.length := by
  obtain ⟨rest, h0, _, _, _, h2, _⟩ := s.b
  exact ⟨_, h2, by rw [List.length_append, ints_len, List.length_append]; omega⟩
theorem St.copyA (s : St w p hs ls ha hn hcap ba n bcap ha' hcap' ba' bcap' gr gx ga ca gb cb gs cs ns no nk vs W us bs xs ys Z K sa sc oa oc ka) {W' : World} {cur : List Value} (hc : Blk W ga cur 3) (hk : Kp (fun k => k = ga) W W') (hB : Blk W' ga (splice cur 0 (ints xs)) 3) : St w p hs ls ha hn hcap ba n bcap ha' hcap' ba' bcap' gr gx ga ca gb cb gs cs ns no nk vs W' xs bs xs ys Z K sa sc oa oc ka := by
  refine s.wrote (hk.mono fun i _ h => .inl h) (s.a.copied s.xl fun c h => ?_) (s.b.kp hk fun e => s.ne e.symm) (s.z.kp hk fun k h e => ?_) s.vz
  · have : c = cur := by
      unfold Blk at h hc
      rw [h] at hc
      simpa using hc
    rw [this]; exact hB
  · subst e
    rw [s.vz] at h
    exact s.stat_ne_int h hc
theorem St.copyB (s : St w p hs ls ha hn hcap ba n bcap ha' hcap' ba' bcap' gr gx ga ca gb cb gs cs ns no nk vs W us bs xs ys Z K sa sc oa oc ka) {W' : World} {cur : List Value} (hc : Blk W gb cur 3) (hk : Kp (fun k => k = gb) W W') (hB : Blk W' gb (splice cur 0 (ints ys)) 3) : St w p hs ls ha hn hcap ba n bcap ha' hcap' ba' bcap' gr gx ga ca gb cb gs cs ns no nk vs W' us ys xs ys Z K sa sc oa oc ka := by
  refine s.wrote (hk.mono fun i _ h => .inr (.inl h)) (s.a.kp hk fun e => s.ne e) (s.b.copied s.yl fun c h => ?_) (s.z.kp hk fun k h e => ?_) s.vz
  · have : c = cur := by
      unfold Blk at h hc
      rw [h] at hc
      simpa using hc
    rw [this]; exact hB
  · subst e
    rw [s.vz] at h
    exact s.stat_ne_int h hc
theorem map_set_snd {α β : Type} {Z : List (α × β)} {i : Nat} {z : α × β} {y : α} (h : Z[i]? = some z) : (Z.set i (y, z.2)).map (·.2) = Z.map (·.2) := by
  rw [List.map_set]
  have := List.getElem?_map (f := fun x : α × β => x.2) (l := Z) (i := i)
  rw [h] at this
  exact set_same this
theorem St.stat_kp (s : St w p hs ls ha hn hcap ba n bcap ha' hcap' ba' bcap' gr gx ga ca gb cb gs cs ns no nk vs W us bs xs ys Z K sa sc oa oc ka) {k : Nat} (hk : blksZ gs vs k) (c : Nat) (v : Value) : Kp (OwnG ga gb gs vs) W (W.setCell ⟨k, c, none⟩ v) ∧ IntsM w (W.setCell ⟨k, c, none⟩ v) ga ns ca us ∧ IntsM w (W.setCell ⟨k, c, none⟩ v) gb no cb bs := by
  have h1 : Kp (fun i => i = k) W (W.setCell ⟨k, c, none⟩ v) := Kp.setCell (F := fun i => i = k) (Kp.refl W) (fun _ => rfl) _
  obtain ⟨ca', hA, _⟩ := s.blkA
  obtain ⟨cb', hB, _⟩ := s.blkB
  exact ⟨h1.mono fun i _ e => .inr (.inr (by rw [e]; exact hk)), s.a.kp h1 fun e => s.stat_ne_int (by rw [e]; exact hk) hA, s.b.kp h1 fun e => s.stat_ne_int (by rw [e]; exact hk) hB⟩
theorem St.rows (s : St w p hs ls ha hn hcap ba n bcap ha' hcap' ba' bcap' gr gx ga ca gb cb gs cs ns no nk vs W us bs xs ys Z K sa sc oa oc ka) {i : Nat} {z : StatZ × (Nat × Nat)} (hi : Z[i]? = some z) (r : Nat) : St w p hs ls ha hn hcap ba n bcap ha' hcap' ba' bcap' gr gx ga ca gb cb gs cs ns no nk vs (W.setCell ⟨gs, i * 3 + 1, none⟩ (.float .f64 r)) us bs xs ys (Z.set i ((z.1.1, r, z.1.2.2), z.2)) K sa sc oa oc ka := by
  obtain ⟨h1, h2, h3⟩ := s.stat_kp (k := gs) (.inl rfl) (i * 3 + 1) (.float .f64 r)
  exact s.wrote h1 h2 h3 (s.z.setRows hi r) ((map_set_snd hi).trans s.vz)
theorem St.dist (s : St w p hs ls ha hn hcap ba n bcap ha' hcap' ba' bcap' gr gx ga ca gb cb gs cs ns no nk vs W us bs xs ys Z K sa sc oa oc ka) {i : Nat} {z : StatZ × (Nat × Nat)} (hi : Z[i]? = some z) {m : Nat} (hm : m < z.1.2.2.1.length) (x : Nat) : St w p hs ls ha hn hcap ba n bcap ha' hcap' ba' bcap' gr gx ga ca gb cb gs cs ns no nk vs (W.setCell ⟨z.2.1, m, none⟩ (.float .f64 x)) us bs xs ys (Z.set i ((z.1.1, z.1.2.1, z.1.2.2.1.set m x, ()), z.2)) K sa sc oa oc ka := by
  obtain ⟨h1, h2, h3⟩ := s.stat_kp (k := z.2.1) (.inr ⟨z.2, by rw [← s.vz]; exact List.mem_map.2 ⟨z, List.mem_of_getElem? hi, rfl⟩, rfl⟩) m (.float .f64 x)
  exact s.wrote h1 h2 h3 (s.z.setDist hi hm x) ((map_set_snd hi).trans s.vz)
/-- A place's cells. -/
theorem St.place (s : St w p hs ls ha hn hcap ba n bcap ha' hcap' ba' bcap' gr gx ga ca gb cb gs cs ns no nk vs W us bs xs ys Z K sa sc oa oc ka) {i : Nat} {z : StatZ × (Nat × Nat)} (hi : Z[i]? = some z) : W.cell? ⟨gs, i * 3 + 1, none⟩ = some (.float .f64 z.1.2.1) ∧ W.cell? ⟨gs, i * 3 + 2, none⟩ = some (.slice (some ⟨z.2.1, 0, none⟩) z.1.2.2.1.length z.2.2) ∧ (∀ c, W.frozen? ⟨gs, c, none⟩ = false) ∧ (∀ c, W.frozen? ⟨z.2.1, c, none⟩ = false) ∧ (∀ (c x : Nat), z.1.2.2.1[c]? = some x → W.cell? ⟨z.2.1, c, none⟩ = some (.float .f64 x)) ∧ z.1.2.2.1.length + 1 ≤ z.2.2 ∧ z.2.2 ≤ maxLen := by
  obtain ⟨rest, h1, h2, h3, h4, h5, h6, h7⟩ := s.z.body
  have hd := h7 z (List.mem_of_getElem? hi)
  have hb : ∀ c, c < 3 → W.cell? ⟨gs, i * 3 + c, none⟩ = (statM z)[c]? := fun c hc => by
    have hg := flat_get statM 3 statM_len Z i _ c hi hc
    have hlt : i * 3 + c < (Z.flatMap statM).length := by
      rw [flat_len statM 3 statM_len]
      have := (List.getElem?_eq_some_iff.1 hi).1
      omega
    rw [h6.cell', List.getElem?_append_left hlt, hg]
  obtain ⟨cs, hbz⟩ := hd.blk
  have hat := hd.at
  obtain ⟨r, a1, b1, c1, d1⟩ := hd
  refine ⟨hb 1 (by decide), hb 2 (by decide), fun c => h6.free c, fun c => hbz.free c, fun c x hx => ?_, a1, b1⟩
  obtain ⟨_, _, e, hcell⟩ := hat c (.float .f64 x) (by simp [flts, hx])
  cases e
  rw [Nat.zero_add] at hcell
  exact hcell
end
end Go.Proofs.Ytcphalpcdcddpaa

/- The law of costs: its arguments as they come in. -/
namespace Go.Proofs.Ytcphalpcdcddpaa
open Go.RowKit
set_option linter.unusedVariables false

abbrev KnownZ := ByteArray × Int × List Int × Unit
noncomputable def shI : Shp Try.prog Int := shInt 3 .i64 Try.underlying3 (by kernel_rfl)
noncomputable def shInts : Shp Try.prog (List Int) := shSlice 28 shI Try.underlying28 (by kernel_rfl) (by decide)
noncomputable def shWord : Shp Try.prog Int := shInt 50 .u64 Try.underlying50 (by kernel_rfl)
noncomputable def shWords : Shp Try.prog (List Int) := shSlice 51 shWord Try.underlying51 (by kernel_rfl) (by decide)
noncomputable def shKnown : Shp Try.prog KnownZ := shStruct 53 (fdCons (shStr 9 Try.underlying9 (by kernel_rfl)) (fdCons shWord (fdCons shWords fdNil))) (fs := _) Try.underlying53 ⟨_, _, rfl, rfl, rfl, _, _, rfl, rfl, rfl, _, _, rfl, rfl, rfl, rfl⟩ (by kernel_rfl)
noncomputable def shKnowns : Shp Try.prog (List KnownZ) := shSlice 29 shKnown Try.underlying29 (by kernel_rfl) (by decide)

/-- By words. -/
def natK (k : KnownZ) : StatZ := (k.1, k.2.1.toNat, k.2.2.1.map Int.toNat, ())
theorem wf_u64 {z : Int} (h : (Lit.int .u64 z).wf = true) : 0 ≤ z ∧ z < 18446744073709551616 := by
  have h' : (decide (IntKind.u64.min ≤ z) && decide (z ≤ IntKind.u64.max)) = true := h
  rw [Bool.and_eq_true, decide_eq_true_eq, decide_eq_true_eq] at h'
  have h1 : IntKind.u64.min = 0 := by decide
  have h2 : IntKind.u64.max = 18446744073709551615 := by decide
  rw [h1, h2] at h'
  omega
theorem word_cells {w : World} {G : Nat → Prop} {ao : Option Addr} {zs : List Int} (h : ElemsAt shWord w G ao zs) : CellsAt w ao (words (zs.map Int.toNat)) ∧ (∀ x ∈ zs.map Int.toNat, x < 18446744073709551616) ∧ (zs.map Int.toNat ≠ [] → ∀ a, ao = some a → G a.block) := by
  refine ⟨fun i u hu => ?_, fun x hx => ?_, fun hne a ha => ?_⟩
  · rw [words, List.getElem?_map, List.getElem?_map] at hu
    cases hz : zs[i]? with
    | none => rw [hz] at hu; cases hu
    | some z =>
      rw [hz] at hu; cases hu
      obtain ⟨b, off, es, e, _, _, ⟨ha, hw⟩, hc⟩ := h i z hz
      refine ⟨b, off, e, ?_⟩
      have h0 := hc 0 (.int .u64 z) (by rw [ha]; rfl)
      rw [show shWord.n = 1 from rfl, Nat.mul_one, Nat.add_zero] at h0
      rw [h0]
      show some (Value.int .u64 z) = some (.int .u64 ((z.toNat : Nat) : Int))
      rw [Int.toNat_of_nonneg (wf_u64 hw).1]
  · obtain ⟨z, hz, rfl⟩ := List.mem_map.1 hx
    obtain ⟨i, hi⟩ := List.mem_iff_getElem?.1 hz
    obtain ⟨b, off, es, e, _, _, ⟨ha, hw⟩, hc⟩ := h i z hi
    have := wf_u64 hw
    omega
  · cases zs with
    | nil => exact absurd rfl hne
    | cons z zs =>
      obtain ⟨b, off, es, e, hG, _⟩ := h 0 z rfl
      rw [e] at ha; cases ha; exact hG
theorem known_in {w : World} {G : Nat → Prop} {ao : Option Addr} {ks : List KnownZ} (h : ElemsAt shKnown w G ao ks) : KnownIn w G ao (ks.map natK) := fun i s hs => by
  rw [List.getElem?_map] at hs
  cases hk : ks[i]? with
  | none => rw [hk] at hs; cases hs
  | some k =>
    rw [hk] at hs; cases hs
    obtain ⟨b, off, es, e, hG, _, ⟨a1, b1, e1, ⟨e2, _⟩, a3, b3, e3, ⟨e4, hw⟩, a5, b5, e5, ⟨da, dcap, e6, h1, h2, h3⟩, e7⟩, hc⟩ := h i k hk
    have ees : es = [.string k.1, .int .u64 k.2.1, .slice da k.2.2.1.length dcap] := by
      have e7' : b5 = [] := e7
      rw [e1, e2, e3, e4, e5, e6, e7']; rfl
    rw [ees, show shKnown.n = 3 from rfl] at hc
    obtain ⟨w1, w2, w3⟩ := word_cells h3
    refine ⟨b, off, da, dcap, e, hG, w3, (show w.cell? ⟨b, off + i * 3, none⟩ = some (.string k.1) by simpa using hc 0 _ rfl), ?_, ?_, ?_, h2, w1⟩
    · rw [Nat.add_assoc]
      have h0 := hc 1 _ rfl
      rw [h0]
      show some (Value.int .u64 k.2.1) = some (.int .u64 ((k.2.1.toNat : Nat) : Int))
      rw [Int.toNat_of_nonneg (wf_u64 hw).1]
    · rw [Nat.add_assoc]
      have h0 := hc 2 _ rfl
      rw [h0]
      show some (Value.slice da k.2.2.1.length dcap) = some (.slice da (k.2.2.1.map Int.toNat).length dcap)
      rw [List.length_map]
    · show (k.2.2.1.map Int.toNat).length ≤ dcap
      rw [List.length_map]; exact h1
theorem known_fit {w : World} {G : Nat → Prop} {ao : Option Addr} {ks : List KnownZ} (h : ElemsAt shKnown w G ao ks) (hb : bulkL shKnown.bulk ks + 1 ≤ 1048576) : StatsFit (ks.map natK) := by
  have hall : ∀ k ∈ ks, k.2.2.1.length ≤ 1048576 ∧ k.2.1.toNat < 18446744073709551616 ∧ ∀ x ∈ k.2.2.1.map Int.toNat, x < 18446744073709551616 := fun k hk => by
    obtain ⟨i, hi⟩ := List.mem_iff_getElem?.1 hk
    obtain ⟨b, off, es, e, hG, _, ⟨a1, b1, e1, ⟨e2, _⟩, a3, b3, e3, ⟨e4, hw⟩, a5, b5, e5, ⟨da, dcap, e6, h1, h2, h3⟩, e7⟩, hc⟩ := h i k hi
    have hbk := bulkL_mem shKnown.bulk hk
    have hbk' : shKnown.bulk k = ((k.1.size + 1) + (1 + ((bulkL shWord.bulk k.2.2.1 + 1) + 0))) + 1 := rfl
    have hlen := bulkL_len shWord.bulk (fun _ => Nat.le_refl 1) k.2.2.1
    have hwf := wf_u64 hw
    exact ⟨by omega, by omega, (word_cells h3).2.1⟩
  have hlen := bulkL_len shKnown.bulk (fun k => by show 1 ≤ _ + 1; omega) ks
  refine ⟨by rw [List.length_map]; omega, fun s hs => ?_, fun s hs => ?_, fun s hs => ?_⟩
  all_goals obtain ⟨k, hk, rfl⟩ := List.mem_map.1 hs
  · show (k.2.2.1.map Int.toNat).length ≤ _
    rw [List.length_map]; exact (hall k hk).1
  · exact (hall k hk).2.1
  · exact (hall k hk).2.2
theorem int_cells {w : World} {G : Nat → Prop} {ao : Option Addr} {zs : List Int} (h : ElemsAt shI w G ao zs) : CellsAt w ao (ints zs) ∧ (zs ≠ [] → ∀ a, ao = some a → G a.block) := by
  refine ⟨fun i u hu => ?_, fun hne a ha => ?_⟩
  · rw [ints, List.getElem?_map] at hu
    cases hz : zs[i]? with
    | none => rw [hz] at hu; cases hu
    | some z =>
      rw [hz] at hu; cases hu
      obtain ⟨b, off, es, e, _, _, ⟨ha, hw⟩, hc⟩ := h i z hz
      refine ⟨b, off, e, ?_⟩
      have h0 := hc 0 (.int .i64 z) (by rw [ha]; rfl)
      rw [show shI.n = 1 from rfl, Nat.mul_one, Nat.add_zero] at h0
      exact h0
  · cases zs with
    | nil => exact absurd rfl hne
    | cons z zs =>
      obtain ⟨b, off, es, e, hG, _⟩ := h 0 z rfl
      rw [e] at ha; cases ha; exact hG
/-- A rule that came in is not too big. -/
theorem rule_fit {r : RuleZ} (hb : shRule.bulk r ≤ 1048576) : r.1.2.1.length ≤ 1048576 ∧ Fit r.2.1 := by
  have e : shRule.bulk r = (shAtom.bulk r.1 + ((bulkL shLit.bulk r.2.1 + 1) + 0)) + 1 := rfl
  have ea : ∀ a : AtomZ, shAtom.bulk a = ((a.1.size + 1) + ((bulkL shTerm.bulk a.2.1 + 1) + 0)) + 1 := fun _ => rfl
  have el : ∀ l : LitZ, shLit.bulk l = (1 + (shAtom.bulk l.2.1 + (1 + (shTerm.bulk l.2.2.2.1 + (shTerm.bulk l.2.2.2.2.1 + 0))))) + 1 := fun _ => rfl
  have et : ∀ ts : List TermZ, ts.length ≤ bulkL shTerm.bulk ts := fun ts => bulkL_len shTerm.bulk (fun t => by show 1 ≤ _ + 1; omega) ts
  have h1 := ea r.1
  have h2 := et r.1.2.1
  have h3 := bulkL_len shLit.bulk (fun l => by show 1 ≤ _ + 1; omega) r.2.1
  refine ⟨by omega, by omega, fun l hl => ?_⟩
  have h4 := bulkL_mem shLit.bulk hl
  have h5 := el l
  have h6 := ea l.2.1
  have h7 := et (termsOf l)
  have h8 : bulkL shTerm.bulk (termsOf l) = bulkL shTerm.bulk l.2.1.2.1 := rfl
  omega
end Go.Proofs.Ytcphalpcdcddpaa

/- The law of costs: CostBest: what holds between its calls. -/
namespace Go.Proofs.Ytcphalpcdcddpaa
open Go.RowKit
set_option linter.unusedVariables false

theorem le_word {a b : Nat} (h : a ≤ b) (hb : b ≤ infW) : ((FloatKind.format .f64).order a b == some .lt || (FloatKind.format .f64).order a b == some .eq) = true := by
  have ho : (FloatKind.format .f64).order a b = some (compare a b) := order_pos (by omega) hb
  rw [ho]
  rcases Nat.lt_or_ge a b with h1 | h1
  · rw [Nat.compare_eq_lt.2 h1]; rfl
  · have e : a = b := by omega
    rw [e, Nat.compare_eq_eq.2 rfl]; rfl
theorem ge_word {a b : Nat} (h : b ≤ a) (ha : a ≤ infW) : ((FloatKind.format .f64).order a b == some .gt || (FloatKind.format .f64).order a b == some .eq) = true := by
  have ho : (FloatKind.format .f64).order a b = some (compare a b) := order_pos ha (by omega)
  rw [ho]
  rcases Nat.lt_or_ge b a with h1 | h1
  · rw [Nat.compare_eq_gt.2 h1]; rfl
  · have e : a = b := by omega
    rw [e, Nat.compare_eq_eq.2 rfl]; rfl

/-- Between the calls of CostBest. -/
structure BSt (w : World) (p : ByteArray) (hs : List TermZ) (ls : List LitZ) (ha : Option Addr) (hn hcap : Nat) (ba : Option Addr) (n bcap gr gs cs nk : Nat) (W : World) (K : List StatZ) (xs : List Int) (xa : Option Addr) (xn xcap : Nat) : Prop where
  hhn : hn = hs.length
  hhl : hn ≤ 1048576
  hh : TermsAt w (Old w) ha hs
  hbn : n = ls.length
  h : LitsAt w (Old w) ba ls
  hf : Fit ls
  ext : Ext w W
  rbox : Blk W gr [.string p, .slice ha hn hcap, .slice ba n bcap] 27
  z : StatsM w W gs nk cs K
  kl : K.length = nk
  kf : StatsFit K
  xl : xn = xs.length
  xat : CellsAt w xa (ints xs)
  xc : xn ≤ xcap
  xm : xcap ≤ maxLen
section
variable {w : World} {p : ByteArray} {hs : List TermZ} {ls : List LitZ} {ha : Option Addr} {hn hcap : Nat} {ba : Option Addr} {n bcap gr gs cs nk : Nat} {W : World} {K : List StatZ} {xs : List Int} {xa : Option Addr} {xn xcap : Nat}
theorem BSt.to {W' : World} (s : BSt w p hs ls ha hn hcap ba n bcap gr gs cs nk W K xs xa xn xcap) (hk : Ext W W') : BSt w p hs ls ha hn hcap ba n bcap gr gs cs nk W' K xs xa xn xcap :=
  { hhn := s.hhn, hhl := s.hhl, hh := s.hh, hbn := s.hbn, h := s.h, hf := s.hf, ext := s.ext.trans hk, rbox := s.rbox.ext hk, z := s.z.ext hk, kl := s.kl, kf := s.kf, xl := s.xl, xat := s.xat, xc := s.xc, xm := s.xm }
theorem BSt.twin (s : BSt w p hs ls ha hn hcap ba n bcap gr gs cs nk W K xs xa xn xcap) : Calls Try.prog 8 #[ruleV p ha hn hcap ba n bcap] W (RetN W fun w' v => ∃ ha' hcap' ba' bcap', v = ruleV p ha' hn hcap' ba' n bcap' ∧ RuleM W w' hs ls ha' hn hcap' ba' n bcap') :=
  twin_any p hs ls ha hn hcap ba n bcap W (Old w) s.hhn (s.hh.ext s.ext) s.hhl s.hbn (s.h.ext s.ext) s.hf
theorem BSt.greedy (s : BSt w p hs ls ha hn hcap ba n bcap gr gs cs nk W K xs xa xn xcap) {w0 : World} {ha' : Option Addr} {hcap' : Nat} {ba' : Option Addr} {bcap' : Nat} (hM : RuleM w0 W hs ls ha' hn hcap' ba' n bcap') : Calls Try.prog 23 #[ruleV p ha' hn hcap' ba' n bcap', .slice (some ⟨gs, 0, none⟩) nk cs] W (RetN W (BestV (greedyE ((p, hs, ()), ls, ()) K))) := by
  have hc := s.z.mark.1
  exact greedy_any p hs ls ha' hn hcap' ba' n bcap' K _ nk cs W (New w0) s.hhn (hM.terms (terms_fit s.hh)) s.hhl s.hbn (hM.lits (lits_all s.h)) s.hf s.kl.symm (by omega) s.z.at s.kf
theorem BSt.best (s : BSt w p hs ls ha hn hcap ba n bcap gr gs cs nk W K xs xa xn xcap) {w0 : World} {ha' : Option Addr} {hcap' : Nat} {ba' : Option Addr} {bcap' : Nat} (hM : RuleM w0 W hs ls ha' hn hcap' ba' n bcap') : Calls Try.prog 25 #[ruleV p ha' hn hcap' ba' n bcap', .slice (some ⟨gs, 0, none⟩) nk cs] W (RetN W (BestV (bestE ((p, hs, ()), ls, ()) K))) := by
  have hc := s.z.mark.1
  exact best_any p hs ls ha' hn hcap' ba' n bcap' K _ nk cs W (New w0) s.hhn (hM.terms (terms_fit s.hh)) s.hhl s.hbn (hM.lits (lits_all s.h)) s.hf s.kl.symm (by omega) s.z.at s.kf
theorem BSt.cost (s : BSt w p hs ls ha hn hcap ba n bcap gr gs cs nk W K xs xa xn xcap) {w0 : World} {ha' : Option Addr} {hcap' : Nat} {ba' : Option Addr} {bcap' : Nat} (hM : RuleM w0 W hs ls ha' hn hcap' ba' n bcap') {ys : List Int} {ya : Option Addr} {yn yc : Nat} (hy : yn = ys.length) (hat : CellsAt W ya (ints ys)) (hyc : yn ≤ yc) (hym : yc ≤ maxLen) (hyl : yn ≤ 4611686018427387904) :
    Calls Try.prog 12 #[ruleV p ha' hn hcap' ba' n bcap', .slice ya yn yc, .slice (some ⟨gs, 0, none⟩) nk cs] W (RetN W fun w' v => v = .tuple #[.float .f64 (costE ((p, hs, ()), ls, ()) K ys).1, .int .i64 (costE ((p, hs, ()), ls, ()) K ys).2]) := by
  have hc := s.z.mark.1
  exact costE_any p hs ls ha' hn hcap' ba' n bcap' ys ya yn yc K _ nk cs W (New w0) s.hhn (hM.terms (terms_fit s.hh)) s.hhl s.hbn (hM.lits (lits_all s.h)) s.hf hy hat hyl hyc hym s.kl.symm (by omega) s.z.at s.kf
theorem BSt.guess (s : BSt w p hs ls ha hn hcap ba n bcap gr gs cs nk W K xs xa xn xcap) {w0 : World} {ha' : Option Addr} {hcap' : Nat} {ba' : Option Addr} {bcap' : Nat} (hM : RuleM w0 W hs ls ha' hn hcap' ba' n bcap') {ys : List Int} {ya : Option Addr} {yn yc : Nat} (hy : yn = ys.length) (hat : CellsAt W ya (ints ys)) (hyl : yn ≤ 4611686018427387904) :
    Calls Try.prog 11 #[ruleV p ha' hn hcap' ba' n bcap', .slice ya yn yc, .slice (some ⟨gs, 0, none⟩) nk cs] W (RetN W fun w' v => v = .tuple #[.float .f64 (guessE ((p, hs, ()), ls, ()) K ys).1, .int .i64 (guessE ((p, hs, ()), ls, ()) K ys).2]) := by
  have hc := s.z.mark.1
  exact guessE_any p hs ls ha' hn hcap' ba' n bcap' ys ya yn yc K _ nk cs W (New w0) s.hhn (hM.terms (terms_fit s.hh)) s.hhl s.hbn (hM.lits (lits_all s.h)) s.hf hy hat hyl s.kl.symm (by omega) s.z.at s.kf
theorem BSt.old (s : BSt w p hs ls ha hn hcap ba n bcap gr gs cs nk W K xs xa xn xcap) : CellsAt W xa (ints xs) := s.xat.ext s.ext
end
end Go.Proofs.Ytcphalpcdcddpaa

/- The law of costs: v, atom. -/
namespace Go.Proofs.Ytcphalpcdcddpaa
open Go.RowKit
set_option linter.unusedVariables false

set_option maxRecDepth 100000 in
theorem v_any (s : ByteArray) (w : World) : Calls Try.prog 49 #[.string s] w (RetN w fun w' u => u = .agg #[.int .i64 1, .string s]) := by
  go_enter Try.func49, Try.ntmps49
  obtain ⟨wb, eb⟩ : ∃ wb, w.alloc (.cells #[.int .i64 1, .string s] 68) = wb := ⟨_, rfl⟩
  have hB : Blk wb w.heap.size [.int .i64 1, .string s] 68 := by rw [← eb]; exact Blk.new w _ _
  have u0 : wb.cell? ⟨w.heap.size, 0, none⟩ = some (.int .i64 1) := by rw [hB.cell']; rfl
  have u1 : wb.cell? ⟨w.heap.size, 1, none⟩ = some (.string s) := by rw [hB.cell']; rfl
  have HX := Lib.hid (show Ext w wb by rw [← eb]; exact (Kp.refl w).alloc _)
  clear hB
  go_wp2
  refine bodyPost_ret (v := .agg #[.int .i64 1, .string s]) (by simp [results, Try.results49, go_sem, u0, u1]) rfl ?_
  exact RetN.mk HX.out rfl

def awNo : TermZ := (0, ⟨#[]⟩, ())
def atomL (p : ByteArray) (ts : List TermZ) : LitZ := (1, (p, ts, ()), 0, awNo, awNo, ())
def varT (s : ByteArray) : TermZ := (1, s, ())
def litZs (k : Int) (p : ByteArray) (tv : Value) : List Value := [.int .i64 k, .string p, tv, .int .i64 0, .int .i64 0, .string ⟨#[]⟩, .int .i64 0, .string ⟨#[]⟩]
theorem row_terms {w : World} {a : Option Addr} {n c : Nat} {ts : List TermZ} {M : Nat → Prop} (h : Row w 68 2 (.slice a n c) n (tcells ts) M) (hf : ∀ t ∈ ts, TermFit t) : TermsAt w M a ts := by
  obtain ⟨h1, ⟨e, rfl⟩ | ⟨g, cap, rest, e, hM, hB, _⟩⟩ := h
  · rw [tcells_len] at h1
    obtain rfl : ts = [] := List.eq_nil_of_length_eq_zero (by omega)
    intro i x hx
    simp at hx
  · cases e
    exact elems_of (s := shTerm) (f := termC) (fun x => rfl) (fun i x hi => term_mk (hf x (List.mem_of_getElem? hi))) hM hB
/-- The terms of atom so far. -/
def AtomTo (w0 : World) (gt gl : Nat) (p : ByteArray) (ns : List ByteArray) (n : Nat) (iv : Value) (w : World) : Prop := ∃ i : Nat, i ≤ n ∧ iv = .int .i64 i ∧ Hid (Ext w0 w) ∧ Hid (∃ tv, Blk w gt (litZs 0 ⟨#[]⟩ (.slice none 0 0)) 70 ∧ Blk w gl (litZs 1 p tv) 70 ∧ Row w 68 2 tv i (tcells ((ns.take i).map varT)) (New w0))

set_option maxRecDepth 100000 in
set_option maxHeartbeats 4000000 in
theorem atom_any (p : ByteArray) (ns : List ByteArray) (na : Option Addr) (n cap : Nat) (w : World) (hn : n = ns.length) (h : CellsAt w na (strs ns)) (hl : n ≤ 1048576) (hs : ∀ s ∈ ns, s.size ≤ maxLen) :
    Calls Try.prog 50 #[.string p, .slice na n cap] w (RetN w fun w' u => ∃ a c, u = .agg (litC (atomL p (ns.map varT), (a, c))).toArray ∧ TermsAt w' (New w) a (ns.map varT) ∧ n ≤ c ∧ c ≤ maxLen) := by
  have HN := Lib.hid hn
  have HC := Lib.hid h
  have HS := Lib.hid hs
  clear hn h hs
  go_enter Try.func50, Try.ntmps50
  go_wp2
  obtain ⟨gt, egt⟩ : ∃ g, w.heap.size = g := ⟨_, rfl⟩
  have EGT := Lib.hid egt
  rw [egt]
  obtain ⟨gl, egl⟩ : ∃ g, gt + 1 = g := ⟨_, rfl⟩
  have EGL := Lib.hid egl
  rw [egl]
  obtain ⟨wb, eb⟩ : ∃ wb, (w.alloc (.cells #[.int .i64 0, .string ⟨#[]⟩, .slice none 0 0, .int .i64 0, .int .i64 0, .string ⟨#[]⟩, .int .i64 0, .string ⟨#[]⟩] 70)).alloc (.cells #[.int .i64 1, .string p, .slice none 0 0, .int .i64 0, .int .i64 0, .string ⟨#[]⟩, .int .i64 0, .string ⟨#[]⟩] 70) = wb := ⟨_, rfl⟩
  rw [eb]
  have HT0 := Lib.hid (show Blk wb gt (litZs 0 ⟨#[]⟩ (.slice none 0 0)) 70 by rw [← eb, ← egt]; exact (Blk.new w (litZs 0 ⟨#[]⟩ (.slice none 0 0)) 70).alloc _)
  have HL0 := Lib.hid (show Blk wb gl (litZs 1 p (.slice none 0 0)) 70 by
    have h := Blk.new (w.alloc (.cells #[.int .i64 0, .string ⟨#[]⟩, .slice none 0 0, .int .i64 0, .int .i64 0, .string ⟨#[]⟩, .int .i64 0, .string ⟨#[]⟩] 70)) (litZs 1 p (.slice none 0 0)) 70
    rw [alloc_size, egt, egl] at h
    rw [← eb]; exact h)
  have XB := Lib.hid (show Ext w wb by rw [← eb]; exact ((Kp.refl w).alloc _).alloc _)
  clear eb egt egl
  go_loopw [6] (fun iv wr => AtomTo w gt gl p ns n iv wr) (fun iv _ => n - (intOf iv).toNat)
  case atStart => exact ⟨0, Nat.zero_le _, rfl, XB.out, _, HT0.out, HL0.out, Row.nil _ _ _ _⟩
  case round =>
    clear HT0 HL0 XB
    obtain ⟨i, hi, rfl, hex, hin⟩ := hrel
    obtain ⟨tv, hBt, hBl, hr⟩ := hin.out
    obtain ⟨ta, tn, tc, etv, hcp1, hcp2⟩ : ∃ ta tn tc, tv = .slice ta tn tc ∧ tn = i ∧ True := by
      obtain ⟨ao, cap, e, _⟩ := hr.shape
      exact ⟨ao, _, cap, e, rfl, trivial⟩
    subst etv
    subst hcp1
    have HBt := Lib.hid hBt
    have HBl := Lib.hid hBl
    have HR := Lib.hid hr
    clear hBt hBl hr hin hcp2
    by_cases hlt : tn < n
    · obtain ⟨s, hs⟩ : ∃ s, ns[tn]? = some s := ⟨_, List.getElem?_eq_getElem (by rw [← HN.out]; exact hlt)⟩
      obtain ⟨b, off, ena, c0⟩ := HC.out tn (.string s) (by simp [strs, hs])
      subst ena
      replace c0 := hex.out.cell c0 id
      have l2 : wr.cell? ⟨gl, 2, none⟩ = some (.slice ta tn tc) := by rw [HBl.out.cell']; rfl
      have l2f := HBl.out.free 2
      have HSI := Lib.hid hs
      have hssz := HS.out s (List.mem_of_getElem? hs)
      clear hs
      go_wp2
      have HJ := Lib.hid (show ∀ w', Ext wr w' → (fun w' : World => w'.cell? ⟨gl, 2, none⟩ = some (.slice ta tn tc) ∧ w'.cell? ⟨b, off + tn, none⟩ = some (.string s)) w' from fun w' hw => ⟨hw.cell l2 id, hw.cell c0 id⟩)
      clear l2 c0 hssz
      refine draw_begin (fun w' : World => w'.cell? ⟨gl, 2, none⟩ = some (.slice ta tn tc) ∧ w'.cell? ⟨b, off + tn, none⟩ = some (.string s)) [9, 12] (by kernel_rfl) (HJ.out _ (Kp.refl wr).drew) (fun hHeld => ?_)
      (refine draw_free (i := 0) (v := ?_) rfl ?_ ?_; rotate_left; (intro w; go_simp; try with_reducible rfl)); (try simp only [Act.put, List.setIfInBounds_toArray, List.set_cons_zero, List.set_cons_succ])
      (refine draw_free (i := 1) (v := ?_) rfl ?_ ?_; rotate_left; (intro w; go_simp; try with_reducible rfl)); (try simp only [Act.put, List.setIfInBounds_toArray, List.set_cons_zero, List.set_cons_succ])
      (refine draw_in (i := 2) (v := ?_) rfl ?_ ?_; rotate_left; (intro w hSw; (try dsimp only at hSw); go_simp; try with_reducible rfl)); (try simp only [Act.put, List.setIfInBounds_toArray, List.set_cons_zero, List.set_cons_succ])
      (refine draw_free (i := 3) (v := ?_) rfl ?_ ?_; rotate_left; (intro w; go_simp; try with_reducible rfl)); (try simp only [Act.put, List.setIfInBounds_toArray, List.set_cons_zero, List.set_cons_succ])
      (refine draw_free (i := 4) (v := ?_) rfl ?_ ?_; rotate_left; (intro w; go_simp; try with_reducible rfl)); (try simp only [Act.put, List.setIfInBounds_toArray, List.set_cons_zero, List.set_cons_succ])
      (refine draw_in (i := 5) (v := ?_) rfl ?_ ?_; rotate_left; (intro w hSw; (try dsimp only at hSw); go_simp; try with_reducible rfl)); (try simp only [Act.put, List.setIfInBounds_toArray, List.set_cons_zero, List.set_cons_succ])
      (refine draw_in (i := 6) (v := ?_) rfl ?_ ?_; rotate_left; (intro w hSw; (try dsimp only at hSw); go_simp; try with_reducible rfl)); (try simp only [Act.put, List.setIfInBounds_toArray, List.set_cons_zero, List.set_cons_succ])
      refine draw_one (i := 7) ?_
      refine comes_turn (i := 7) rfl (fun K hK => ?_)
      go_simp
      (refine (v_any s _).mono ?_; rintro e w5 ⟨v, rfl, hk3, rfl⟩; have X5 := Lib.hid (show Ext wr w5 from ((Kp.refl wr).drew).trans hk3); clear hk3)
      go_wp2_with fail
      refine hK.out _ _ ?_ (fun hHeld => ?_)
      · (try dsimp only); (exact HJ.out _ X5.out)
      clear hK K; (try simp only [Act.put, List.setIfInBounds_toArray, List.set_cons_zero, List.set_cons_succ])
      refine draw_one (i := 8) ?_
      refine comes_turn (i := 8) rfl (fun K hK => ?_)
      go_simp
      refine hK.out _ _ ?_ (fun hHeld => ?_)
      · (try dsimp only); (exact HJ.out _ (X5.out.alloc _))
      clear hK K; (try simp only [Act.put, List.setIfInBounds_toArray, List.set_cons_zero, List.set_cons_succ])
      refine draw_one (i := 9) ?_
      refine comes_late (i := 9) rfl (by kernel_rfl) (fun K hK => ?_)
      refine draw_appN elem_term rfl _ _ rfl ((hex.out.trans X5.out).alloc _) rfl ((HR.out.ext X5.out).alloc _) rfl (CellsAt.new w5 [.int .i64 1, .string s] 68) (by rfl) (by simp [Value.oneCell']) (by omega) (by unfold maxLen; omega) ?_; intro v1 w6 hr1 hk1 hk2
      refine hK.out _ _ ?_
      clear hK K; (try simp only [Act.put, List.setIfInBounds_toArray, List.set_cons_zero, List.set_cons_succ])
      (refine draw_free (i := 10) (v := ?_) rfl ?_ ?_; rotate_left; (intro w; go_simp; try with_reducible rfl)); (try simp only [Act.put, List.setIfInBounds_toArray, List.set_cons_zero, List.set_cons_succ])
      (refine draw_free (i := 11) (v := ?_) rfl ?_ ?_; rotate_left; (intro w; go_simp; try with_reducible rfl)); (try simp only [Act.put, List.setIfInBounds_toArray, List.set_cons_zero, List.set_cons_succ])
      refine draw_one (i := 12) ?_
      refine comes_late (i := 12) rfl (by kernel_rfl) (fun K hK => ?_)
      (obtain ⟨b6, c6, ev6, _, _⟩ := hr1.shape; subst ev6; have hB6 : Blk w6 gl (litZs 1 p (.slice ta tn tc)) 70 := ((HBl.out.ext X5.out).alloc _).kp hk2 (fun e => (by obtain ⟨cs, hb⟩ := (HR.out.ext X5.out).blkOf e; exact typ_tl (blk_ne hb (HBl.out.ext X5.out)))); have hT6 : Blk w6 gt (litZs 0 ⟨#[]⟩ (.slice none 0 0)) 70 := ((HBt.out.ext X5.out).alloc _).kp hk2 (fun e => (by obtain ⟨cs, hb⟩ := (HR.out.ext X5.out).blkOf e; exact typ_tl (blk_ne hb (HBt.out.ext X5.out)))); have x6f := hB6.free 2; have x6 : w6.cell? ⟨gl, 2, none⟩ = some (.slice ta tn tc) := (by rw [hB6.cell']; rfl); have HA := Lib.hid (And.intro hr1 (And.intro hk1 (And.intro hB6 hT6))); clear hr1 hk1 hk2 hB6 hT6)
      go_simp
      refine hK.out _ _ ?_
      clear hK K; (try simp only [Act.put, List.setIfInBounds_toArray, List.set_cons_zero, List.set_cons_succ])
      refine wpAnyD_done (by kernel_rfl) ?_ _
      obtain ⟨hr1, hk1, hB6, hT6⟩ := HA.out
      obtain ⟨w7, ew7⟩ : ∃ w7, w6.setCell ⟨gl, 2, none⟩ (.slice b6 (tn + 1) c6) = w7 := ⟨_, rfl⟩
      have hk67 : Kp (fun k => k = gl) w6 w7 := by rw [← ew7]; exact Kp.setCell (F := fun k => k = gl) (Kp.refl w6) (fun _ => rfl) _
      have hB7 : Blk w7 gl (litZs 1 p (.slice b6 (tn + 1) c6)) 70 := by rw [← ew7]; exact hB6.set 2 _
      have hT7 : Blk w7 gt (litZs 0 ⟨#[]⟩ (.slice none 0 0)) 70 := hT6.kp hk67 (by have := EGL.out; omega)
      have hx7 : Ext w w7 := by rw [← ew7]; exact Kp.setCell (F := fun _ => False) hk1 (fun h => by have := EGL.out; have := EGT.out; simp only at h; omega) _
      have hr7 := hr1.kp' hk67 fun g hg _ e => by
        obtain ⟨cs, hb⟩ := hr1.blkOf hg
        subst e
        exact typ_tl (blk_ne hb hB6)
      have e7 : tcells ((ns.take (tn + 1)).map varT) = tcells ((ns.take tn).map varT) ++ [.int .i64 1, .string s] := by rw [takeSnoc HSI.out, List.map_append]; exact tcells_snoc _ _
      rw [← e7] at hr7
      have HFin := Lib.hid (show ∃ tv, Blk w7 gt (litZs 0 ⟨#[]⟩ (.slice none 0 0)) 70 ∧ Blk w7 gl (litZs 1 p tv) 70 ∧ Row w7 68 2 tv (tn + 1) (tcells ((ns.take (tn + 1)).map varT)) (New w) from ⟨_, hT7, hB7, hr7⟩)
      have HX7 := Lib.hid hx7
      rw [ew7]
      clear hr1 hk1 hB6 hT6 hk67 hB7 hT7 hx7 hr7 e7 x6 x6f HA ew7 hHeld
      go_wp2
      go_roundw
      case rel => exact ⟨tn + 1, by omega, by first | rfl | (congr 1; done) | (congr 1; omega), HX7.out, HFin.out⟩
      case measure => simp [intOf]; omega
    · obtain rfl : tn = n := by omega
      have hall : ns.take tn = ns := List.take_of_length_le (by have := HN.out; omega)
      have hr := HR.out
      rw [hall] at hr
      obtain ⟨_, _, e, q1, q2, q3⟩ := hr.cap
      cases e
      have HTA := Lib.hid (And.intro hr (And.intro q2 q3))
      have l0 : wr.cell? ⟨gl, 0, none⟩ = some (.int .i64 1) := by rw [HBl.out.cell']; rfl
      have l1 : wr.cell? ⟨gl, 1, none⟩ = some (.string p) := by rw [HBl.out.cell']; rfl
      have l2 : wr.cell? ⟨gl, 2, none⟩ = some (.slice ta tn tc) := by rw [HBl.out.cell']; rfl
      have l3 : wr.cell? ⟨gl, 3, none⟩ = some (.int .i64 0) := by rw [HBl.out.cell']; rfl
      have l4 : wr.cell? ⟨gl, 4, none⟩ = some (.int .i64 0) := by rw [HBl.out.cell']; rfl
      have l5 : wr.cell? ⟨gl, 5, none⟩ = some (.string ⟨#[]⟩) := by rw [HBl.out.cell']; rfl
      have l6 : wr.cell? ⟨gl, 6, none⟩ = some (.int .i64 0) := by rw [HBl.out.cell']; rfl
      have l7 : wr.cell? ⟨gl, 7, none⟩ = some (.string ⟨#[]⟩) := by rw [HBl.out.cell']; rfl
      have z0 : ∃ u, wr.cell? ⟨gt, 0, none⟩ = some u := ⟨_, by rw [HBt.out.cell']; rfl⟩
      have z1 : ∃ u, wr.cell? ⟨gt, 1, none⟩ = some u := ⟨_, by rw [HBt.out.cell']; rfl⟩
      have z2 : ∃ u, wr.cell? ⟨gt, 2, none⟩ = some u := ⟨_, by rw [HBt.out.cell']; rfl⟩
      have z3 : ∃ u, wr.cell? ⟨gt, 3, none⟩ = some u := ⟨_, by rw [HBt.out.cell']; rfl⟩
      have z4 : ∃ u, wr.cell? ⟨gt, 4, none⟩ = some u := ⟨_, by rw [HBt.out.cell']; rfl⟩
      have z5 : ∃ u, wr.cell? ⟨gt, 5, none⟩ = some u := ⟨_, by rw [HBt.out.cell']; rfl⟩
      have z6 : ∃ u, wr.cell? ⟨gt, 6, none⟩ = some u := ⟨_, by rw [HBt.out.cell']; rfl⟩
      have z7 : ∃ u, wr.cell? ⟨gt, 7, none⟩ = some u := ⟨_, by rw [HBt.out.cell']; rfl⟩
      have f0 := HBt.out.free 0
      have f1 := HBt.out.free 1
      have f2 := HBt.out.free 2
      have f3 := HBt.out.free 3
      have f4 := HBt.out.free 4
      have f5 := HBt.out.free 5
      have f6 := HBt.out.free 6
      have f7 := HBt.out.free 7
      obtain ⟨u0, y0⟩ := z0
      obtain ⟨u1, y1⟩ := z1
      obtain ⟨u2, y2⟩ := z2
      obtain ⟨u3, y3⟩ := z3
      obtain ⟨u4, y4⟩ := z4
      obtain ⟨u5, y5⟩ := z5
      obtain ⟨u6, y6⟩ := z6
      obtain ⟨u7, y7⟩ := z7
      clear hr hall q1 q2 q3
      go_wp2
      obtain ⟨w9, ew9⟩ : ∃ w9, (((((((wr.setCell ⟨gt, 0, none⟩ (.int .i64 1)).setCell ⟨gt, 1, none⟩ (.string p)).setCell ⟨gt, 2, none⟩ (.slice ta tn tc)).setCell ⟨gt, 3, none⟩ (.int .i64 0)).setCell ⟨gt, 4, none⟩ (.int .i64 0)).setCell ⟨gt, 5, none⟩ (.string ⟨#[]⟩)).setCell ⟨gt, 6, none⟩ (.int .i64 0)).setCell ⟨gt, 7, none⟩ (.string ⟨#[]⟩) = w9 := ⟨_, rfl⟩
      rw [ew9]
      have hB9 : Blk w9 gt (litZs 1 p (.slice ta tn tc)) 70 := by
        rw [← ew9]
        exact (((((((HBt.out.set 0 _).set 1 _).set 2 _).set 3 _).set 4 _).set 5 _).set 6 _).set 7 _
      have hk9 : Kp (fun k => k = gt) wr w9 := by
        rw [← ew9]
        exact ((((((((Kp.refl wr).setCell (F := fun k => k = gt) (p := ⟨gt, 0, none⟩) (fun _ => rfl) _).setCell (p := ⟨gt, 1, none⟩) (fun _ => rfl) _).setCell (p := ⟨gt, 2, none⟩) (fun _ => rfl) _).setCell (p := ⟨gt, 3, none⟩) (fun _ => rfl) _).setCell (p := ⟨gt, 4, none⟩) (fun _ => rfl) _).setCell (p := ⟨gt, 5, none⟩) (fun _ => rfl) _).setCell (p := ⟨gt, 6, none⟩) (fun _ => rfl) _).setCell (p := ⟨gt, 7, none⟩) (fun _ => rfl) _
      have hx9 : Ext w w9 := hex.out.trans' hk9 fun i hi e => absurd hi (by have := EGT.out; omega)
      have hta : TermsAt w9 (New w) ta (ns.map varT) := by
        have hr9 := HTA.out.1.kp' hk9 fun g hg _ e => by
          obtain ⟨cs, hb⟩ := HTA.out.1.blkOf hg
          subst e
          exact typ_tl (blk_ne hb HBt.out)
        exact row_terms hr9 fun t ht => by
          obtain ⟨s, hs, rfl⟩ := List.mem_map.1 ht
          exact ⟨(by decide : (Lit.int .i64 1).wf = true), HS.out s hs⟩
      have v0 := hB9.cell' 0
      have v1 := hB9.cell' 1
      have v2 := hB9.cell' 2
      have v3 := hB9.cell' 3
      have v4 := hB9.cell' 4
      have v5 := hB9.cell' 5
      have v6 := hB9.cell' 6
      have v7 := hB9.cell' 7
      refine bodyPost_ret (v := .agg #[.int .i64 1, .string p, .slice ta tn tc, .int .i64 0, .int .i64 0, .string ⟨#[]⟩, .int .i64 0, .string ⟨#[]⟩]) (by simp [results, Try.results50, go_sem, litZs, v0, v1, v2, v3, v4, v5, v6, v7]) rfl ?_
      refine RetN.mk hx9 ⟨ta, tc, ?_, hta, HTA.out.2.1, HTA.out.2.2⟩
      have e : (termsOf (atomL p (ns.map varT))).length = tn := by show (ns.map varT).length = tn; rw [List.length_map, HN.out]
      simp only [litC, e]; rfl
end Go.Proofs.Ytcphalpcdcddpaa

/- The chapter's example of costs, reckoned: guess 500, best and greedy order 2 0 1 3, cost 424. No program in sight. -/
namespace Go.Proofs.Ytcphalpcdcddpaa
set_option linter.unusedVariables false

/-- Bound, stands: by Bool. -/
def boundB (ls : List LitZ) (inn : List Bool) (v : ByteArray) : Bool := (ls.zip inn).any fun p => p.2 && decide (p.1.1 = 1) && hasT (varsT (termsOf p.1)) v
def standsB (ls : List LitZ) (inn : List Bool) : Bool := (ls.zip inn).all fun p => !p.2 || decide (p.1.1 = 1) || (varsT (asks p.1)).all (boundB ls inn)
theorem bound_iff {ls : List LitZ} {inn : List Bool} {v : ByteArray} : boundB ls inn v = true ↔ boundIn ls inn v := by
  unfold boundB boundIn
  rw [List.any_eq_true]
  constructor
  · rintro ⟨p, hp, h⟩
    obtain ⟨i, hi⟩ := List.mem_iff_getElem?.1 hp
    rw [Bool.and_eq_true, Bool.and_eq_true, decide_eq_true_eq, hasT_iff] at h
    obtain ⟨⟨h1, h2⟩, h3⟩ := h
    obtain ⟨l, b⟩ := p
    rw [List.getElem?_zip_eq_some] at hi
    obtain rfl : b = true := h1
    exact ⟨i, l, hi.1, hi.2, h2, h3⟩
  · rintro ⟨i, l, h1, h2, h3, h4⟩
    refine ⟨(l, true), List.mem_iff_getElem?.2 ⟨i, by rw [List.getElem?_zip_eq_some]; exact ⟨h1, h2⟩⟩, ?_⟩
    rw [Bool.and_eq_true, Bool.and_eq_true, decide_eq_true_eq, hasT_iff]
    exact ⟨⟨rfl, h3⟩, h4⟩
theorem stands_B {ls : List LitZ} {inn : List Bool} : stands ls inn ↔ standsB ls inn = true := by
  unfold standsB stands
  rw [List.all_eq_true]
  constructor
  · intro h p hp
    obtain ⟨i, hi⟩ := List.mem_iff_getElem?.1 hp
    obtain ⟨l, b⟩ := p
    rw [List.getElem?_zip_eq_some] at hi
    cases b with
    | false => rfl
    | true =>
      by_cases h1 : l.1 = 1
      · show (!true || decide (l.1 = 1) || _) = true
        rw [decide_eq_true h1]; rfl
      · show (!true || decide (l.1 = 1) || (varsT (asks l)).all (boundB ls inn)) = true
        rw [decide_eq_false h1, List.all_eq_true.2 fun v hv => bound_iff.2 (h i l hi.1 hi.2 h1 v hv)]; rfl
  · intro h i l h1 h2 h3 v hv
    have h4 := h (l, true) (List.mem_iff_getElem?.2 ⟨i, by rw [List.getElem?_zip_eq_some]; exact ⟨h1, h2⟩⟩)
    have h5 : (!true || decide (l.1 = 1) || (varsT (asks l)).all (boundB ls inn)) = true := h4
    rw [decide_eq_false h3] at h5
    have h6 : (varsT (asks l)).all (boundB ls inn) = true := h5
    exact bound_iff.1 (List.all_eq_true.1 h6 v hv)

/-- The same tables by Bool. -/
noncomputable def rowB (S : List StatZ) (ls : List LitZ) (T : Nat → Option Plan) (s : Nat) : Option Plan := if s = 0 then some ([], 0) else if standsB ls (bitsS ls.length s) = true then leastP (candP T (guessW S ls (bitsS ls.length s)) s) ls.length else none
noncomputable def tabB (S : List StatZ) (ls : List LitZ) : Nat → Nat → Option Plan
  | 0, _ => none
  | k + 1, s => if s = k then rowB S ls (tabB S ls k) k else tabB S ls k s
theorem row_B (S : List StatZ) (ls : List LitZ) (T : Nat → Option Plan) (s : Nat) : rowP S ls T s = rowB S ls T s := by
  unfold rowP rowB
  split
  · rfl
  · by_cases h : stands ls (bitsS ls.length s)
    · rw [if_pos h, if_pos (stands_B.1 h)]
    · rw [if_neg h, if_neg (fun e => h (stands_B.2 e))]
theorem tab_B (S : List StatZ) (ls : List LitZ) : ∀ (k : Nat), tabP S ls k = tabB S ls k
  | 0 => rfl
  | k + 1 => by
    funext s
    show (if s = k then rowP S ls (tabP S ls k) k else tabP S ls k s) = (if s = k then rowB S ls (tabB S ls k) k else tabB S ls k s)
    rw [tab_B S ls k, row_B]
theorem plan_B (S : List StatZ) (ls : List LitZ) (s : Nat) : planS S ls s = tabB S ls (s + 1) s := by
  unfold planS
  rw [tab_B]
noncomputable def candGB (S : List StatZ) (ls : List LitZ) (inn : List Bool) (i : Nat) : Option Plan := if inn[i]? = some false ∧ standsB ls (inn.set i true) = true then some ([(i : Int)], guessW S ls (inn.set i true)) else none
theorem candG_B (S : List StatZ) (ls : List LitZ) (inn : List Bool) : candG S ls inn = candGB S ls inn := by
  funext i
  unfold candG candGB
  by_cases h : inn[i]? = some false ∧ stands ls (inn.set i true)
  · rw [if_pos h, if_pos ⟨h.1, stands_B.1 h.2⟩]
  · rw [if_neg h, if_neg (fun e => h ⟨e.1, stands_B.2 e.2⟩)]
noncomputable def stepGB (S : List StatZ) (ls : List LitZ) (x : GreedZ) : GreedZ := match leastP (candGB S ls x.2.2) ls.length with
  | some p => (x.1 ++ [p.1.headD 0], fadd x.2.1 p.2, x.2.2.set (p.1.headD 0).toNat true)
  | none => x
noncomputable def greedGB (S : List StatZ) (ls : List LitZ) : Nat → GreedZ
  | 0 => ([], 0, List.replicate ls.length false)
  | k + 1 => stepGB S ls (greedGB S ls k)
theorem greedG_B (S : List StatZ) (ls : List LitZ) : ∀ k, greedG S ls k = greedGB S ls k
  | 0 => rfl
  | k + 1 => by
    show stepG S ls (greedG S ls k) = stepGB S ls (greedGB S ls k)
    rw [greedG_B S ls k]
    unfold stepG stepGB nextG
    rw [candG_B]
    cases leastP (candGB S ls (greedGB S ls k).2.2) ls.length <;> rfl

/-- The example. -/
def awX : TermZ := (1, ⟨#[88]⟩, ())
def awY : TermZ := (1, ⟨#[89]⟩, ())
def awZ : TermZ := (1, ⟨#[90]⟩, ())
def awE1 : LitZ := atomL ⟨#[101]⟩ [awX, awY]
def awE2 : LitZ := atomL ⟨#[101]⟩ [awY, awZ]
def awN : LitZ := atomL ⟨#[110]⟩ [awX]
def awC : LitZ := (3, (⟨#[]⟩, [], ()), 2, awX, awZ, ())
def awLs : List LitZ := [awE1, awE2, awN, awC]
def awHs : List TermZ := [awX, awZ]
def awR : RuleZ := ((⟨#[116]⟩, awHs, ()), awLs, ())
def awS : List StatZ := [(⟨#[101]⟩, 4636737291354636288, [4621819117588971520, 4626322717216342016], ()), (⟨#[110]⟩, 4616189618054758400, [4616189618054758400], ())]
theorem aw_check : checkR awR = 0 := by kernel_rfl
theorem aw_err : errR awR awS = 0 := by
  unfold errR
  rw [if_pos aw_check, if_pos]
  intro i s h
  match i, h with
  | 0, h =>
    have e : (⟨#[101]⟩, 4636737291354636288, [4621819117588971520, 4626322717216342016], ()) = s := Option.some.inj h
    have k : statOk awR awS 0 (⟨#[101]⟩, 4636737291354636288, [4621819117588971520, 4626322717216342016], ()) = true := by kernel_rfl
    exact e ▸ k
  | 1, h =>
    have e : (⟨#[110]⟩, 4616189618054758400, [4616189618054758400], ()) = s := Option.some.inj h
    have k : statOk awR awS 1 (⟨#[110]⟩, 4616189618054758400, [4616189618054758400], ()) = true := by kernel_rfl
    exact e ▸ k
  | n + 2, h => cases h
theorem aw_guess : guessE awR awS [0, 1] = (4647503709213818880, 0) := by
  unfold guessE
  have h : setOk awLs [0, 1] = some [true, true, false, false] := by
    unfold setOk
    have e : setW awLs.length [0, 1] = some [true, true, false, false] := by kernel_rfl
    rw [e]
    exact if_pos (stands_B.2 (by kernel_rfl))
  rw [if_pos aw_err, show awR.2.1 = awLs from rfl, h]
  have e : guessW awS awLs [true, true, false, false] = 4647503709213818880 := by kernel_rfl
  exact congrArg (fun x => (x, 0)) e
theorem aw_best : bestE awR awS = ([2, 0, 1, 3], 4646166703074443264, 0) := by
  refine bestE_some (p := ([2, 0, 1, 3], 4646166703074443264)) aw_err (by decide) ?_
  rw [plan_B]
  kernel_rfl
theorem aw_greedy : ∃ x, greedyE awR awS = ([2, 0, 1, 3], x, 0) := by
  refine ⟨(greedG awS awR.2.1 awR.2.1.length).2.1, (greedyE_ok aw_err).trans ?_⟩
  have e : (greedG awS awR.2.1 awR.2.1.length).1 = [2, 0, 1, 3] := by
    rw [greedG_B]
    kernel_rfl
  rw [e]
end Go.Proofs.Ytcphalpcdcddpaa

/- The law of costs: awake: the chapter's example. -/
namespace Go.Proofs.Ytcphalpcdcddpaa
open Go.RowKit
set_option linter.unusedVariables false
attribute [local go_sem] run_store_float

theorem aw_lits : ∀ l ∈ awLs, LitAll l := by
  intro l hl
  have hv : ∀ s : ByteArray, s.size ≤ maxLen → TermFit (1, s, ()) := fun s hs => ⟨(by decide : (Lit.int .i64 1).wf = true), hs⟩
  have h0 : TermFit awNo := ⟨(by decide : (Lit.int .i64 0).wf = true), (by decide : (⟨#[]⟩ : ByteArray).size ≤ maxLen)⟩
  have hx : TermFit awX := hv _ (by decide)
  have hy : TermFit awY := hv _ (by decide)
  have hz : TermFit awZ := hv _ (by decide)
  simp only [awLs, List.mem_cons, List.not_mem_nil, or_false] at hl
  rcases hl with rfl | rfl | rfl | rfl
  · refine ⟨(by decide : (Lit.int .i64 1).wf = true), (by decide : (⟨#[101]⟩ : ByteArray).size ≤ maxLen), fun t ht => ?_, (by decide : (Lit.int .i64 0).wf = true), h0, h0⟩
    have ht' : t ∈ [awX, awY] := ht
    simp only [List.mem_cons, List.not_mem_nil, or_false] at ht'
    rcases ht' with rfl | rfl <;> assumption
  · refine ⟨(by decide : (Lit.int .i64 1).wf = true), (by decide : (⟨#[101]⟩ : ByteArray).size ≤ maxLen), fun t ht => ?_, (by decide : (Lit.int .i64 0).wf = true), h0, h0⟩
    have ht' : t ∈ [awY, awZ] := ht
    simp only [List.mem_cons, List.not_mem_nil, or_false] at ht'
    rcases ht' with rfl | rfl <;> assumption
  · refine ⟨(by decide : (Lit.int .i64 1).wf = true), (by decide : (⟨#[110]⟩ : ByteArray).size ≤ maxLen), fun t ht => ?_, (by decide : (Lit.int .i64 0).wf = true), h0, h0⟩
    have ht' : t ∈ [awX] := ht
    simp only [List.mem_cons, List.not_mem_nil, or_false] at ht'
    rcases ht' with rfl; assumption
  · refine ⟨(by decide : (Lit.int .i64 3).wf = true), (by decide : (⟨#[]⟩ : ByteArray).size ≤ maxLen), fun t ht => ?_, (by decide : (Lit.int .i64 2).wf = true), hx, hz⟩
    have ht' : t ∈ ([] : List TermZ) := ht
    simp at ht'

theorem aw_names {ns : List ByteArray} (h : ns.all (fun s => decide (s.size ≤ 3)) = true) : ∀ s ∈ ns, s.size ≤ maxLen := fun s hs => by
  have h1 := List.all_eq_true.1 h s hs
  rw [decide_eq_true_eq] at h1
  unfold maxLen; omega
theorem aw_stats {w : World} {g d1 d2 c1 c2 : Nat} {e1 e2 e3 : TypeId} (h1 : Blk w d1 (flts [4621819117588971520, 4626322717216342016]) e1) (h2 : Blk w d2 (flts [4616189618054758400]) e2) (hc1 : 2 ≤ c1) (hm1 : c1 ≤ maxLen) (hc2 : 1 ≤ c2) (hm2 : c2 ≤ maxLen)
    (hB : Blk w g [.string ⟨#[101]⟩, .float .f64 4636737291354636288, .slice (some ⟨d1, 0, none⟩) 2 c1, .string ⟨#[110]⟩, .float .f64 4616189618054758400, .slice (some ⟨d2, 0, none⟩) 1 c2] e3) : StatsAt w (some ⟨g, 0, none⟩) awS := by
  intro i s hs
  match i, hs with
  | 0, h =>
    have e : (⟨#[101]⟩, 4636737291354636288, [4621819117588971520, 4626322717216342016], ()) = s := Option.some.inj h
    subst e
    exact ⟨g, 0, some ⟨d1, 0, none⟩, c1, rfl, by rw [hB.cell']; rfl, by rw [hB.cell']; rfl, by rw [hB.cell']; rfl, hc1, hm1, CellsAt.pre (rest := []) (by rw [List.append_nil]; exact h1)⟩
  | 1, h =>
    have e : (⟨#[110]⟩, 4616189618054758400, [4616189618054758400], ()) = s := Option.some.inj h
    subst e
    exact ⟨g, 0, some ⟨d2, 0, none⟩, c2, rfl, by rw [hB.cell']; rfl, by rw [hB.cell']; rfl, by rw [hB.cell']; rfl, hc2, hm2, CellsAt.pre (rest := []) (by rw [List.append_nil]; exact h2)⟩
  | n + 2, h => cases h
theorem aw_fit : Fit awLs := ⟨by decide, fun l hl => by
  simp only [awLs, List.mem_cons, List.not_mem_nil, or_false] at hl
  rcases hl with rfl | rfl | rfl | rfl <;> decide⟩
theorem aw_sfit : StatsFit awS where
  len := by decide
  dist := fun s hs => by
    simp only [awS, List.mem_cons, List.not_mem_nil, or_false] at hs
    rcases hs with rfl | rfl <;> decide
  rows := fun s hs => by
    simp only [awS, List.mem_cons, List.not_mem_nil, or_false] at hs
    rcases hs with rfl | rfl <;> decide
  words := fun s hs x hx => by
    simp only [awS, List.mem_cons, List.not_mem_nil, or_false] at hs
    rcases hs with rfl | rfl
    · simp only [List.mem_cons, List.not_mem_nil, or_false] at hx
      rcases hx with rfl | rfl <;> decide
    · simp only [List.mem_cons, List.not_mem_nil, or_false] at hx
      rcases hx with rfl; decide

set_option maxRecDepth 100000 in
set_option maxHeartbeats 4000000 in
theorem awake_any (w : World) : Calls Try.prog 27 #[] w (RetN w fun w' v => v = .bool true) := by
  go_enter Try.func27, Try.ntmps27
  go_wp2_with fail
  refine (v_any ⟨#[88]⟩ _).mono ?_
  rintro e w1 ⟨v, rfl, hk1, rfl⟩
  go_wp2_with fail
  refine (v_any ⟨#[90]⟩ _).mono ?_
  rintro e w2 ⟨v, rfl, hk2, rfl⟩
  have X2 := Lib.hid (hk1.trans hk2)
  clear hk1 hk2
  obtain ⟨wa, ea⟩ : ∃ x, w2.alloc (.cells #[.int .i64 1, .string ⟨#[88]⟩, .int .i64 1, .string ⟨#[90]⟩] 68) = x := ⟨_, rfl⟩
  have HA := Lib.hid (show Blk wa w2.heap.size (tcells awHs) 68 by rw [← ea]; exact Blk.new w2 (tcells awHs) _)
  have XA := Lib.hid (show Ext w2 wa by rw [← ea]; exact (Kp.refl w2).alloc _)
  obtain ⟨w3, e3⟩ : ∃ x, wa.alloc (.cells #[.string ⟨#[88]⟩, .string ⟨#[89]⟩] 9) = x := ⟨_, rfl⟩
  have HS3 := Lib.hid (show CellsAt w3 (some ⟨wa.heap.size, 0, none⟩) (strs [⟨#[88]⟩, ⟨#[89]⟩]) by rw [← e3]; exact CellsAt.new wa (strs [⟨#[88]⟩, ⟨#[89]⟩]) _)
  have X3 := Lib.hid (show Ext wa w3 by rw [← e3]; exact (Kp.refl wa).alloc _)
  go_wp2_with fail
  refine (atom_any ⟨#[101]⟩ [⟨#[88]⟩, ⟨#[89]⟩] _ 2 2 w3 rfl HS3.out (by decide) (aw_names (by kernel_rfl))).mono ?_
  rintro e w4 ⟨v, rfl, hk4, a1, c1, hv, ht1, hc1, hm1⟩
  have hv' : v = .agg #[.int .i64 1, .string ⟨#[101]⟩, .slice a1 2 c1, .int .i64 0, .int .i64 0, .string ⟨#[]⟩, .int .i64 0, .string ⟨#[]⟩] := hv
  subst hv'
  have HT1 := Lib.hid (show TermsAt w4 (New w) a1 (termsOf awE1) from ht1.mono fun g hg => by have := (X2.out.trans (XA.out.trans X3.out)).size; exact Nat.le_trans this hg)
  have HB4 := Lib.hid ((HA.out.ext X3.out).ext hk4)
  have X4 := Lib.hid ((X2.out.trans (XA.out.trans X3.out)).trans hk4)
  have EG := Lib.hid (show w.heap.size ≤ w2.heap.size from X2.out.size)
  clear hv ht1 hk4 ea e3 HA HS3 X3 XA
  obtain ⟨gh, egh⟩ : ∃ g, w2.heap.size = g := ⟨_, rfl⟩
  rw [egh] at HB4 EG ⊢
  clear egh X2
  obtain ⟨w5, e5⟩ : ∃ x, w4.alloc (.cells #[.string ⟨#[89]⟩, .string ⟨#[90]⟩] 9) = x := ⟨_, rfl⟩
  have HS5 := Lib.hid (show CellsAt w5 (some ⟨w4.heap.size, 0, none⟩) (strs [⟨#[89]⟩, ⟨#[90]⟩]) by rw [← e5]; exact CellsAt.new w4 (strs [⟨#[89]⟩, ⟨#[90]⟩]) _)
  have X5 := Lib.hid (show Ext w4 w5 by rw [← e5]; exact (Kp.refl w4).alloc _)
  go_wp2_with fail
  refine (atom_any ⟨#[101]⟩ [⟨#[89]⟩, ⟨#[90]⟩] _ 2 2 w5 rfl HS5.out (by decide) (aw_names (by kernel_rfl))).mono ?_
  rintro e w6 ⟨v, rfl, hk6, a2, c2, hv, ht2, hc2, hm2⟩
  have hv' : v = .agg #[.int .i64 1, .string ⟨#[101]⟩, .slice a2 2 c2, .int .i64 0, .int .i64 0, .string ⟨#[]⟩, .int .i64 0, .string ⟨#[]⟩] := hv
  subst hv'
  have X46 := Lib.hid (X5.out.trans hk6)
  have HT2 := Lib.hid (show TermsAt w6 (New w) a2 (termsOf awE2) from ht2.mono fun g hg => by have := (X4.out.trans X5.out).size; exact Nat.le_trans this hg)
  have HT12 := Lib.hid (HT1.out.ext X46.out)
  have HB6 := Lib.hid (HB4.out.ext X46.out)
  have X6 := Lib.hid (X4.out.trans X46.out)
  clear hv ht2 hk6 e5 HS5 X5 X46 X4 HT1 HB4
  obtain ⟨w7, e7⟩ : ∃ x, w6.alloc (.cells #[.string ⟨#[88]⟩] 9) = x := ⟨_, rfl⟩
  have HS7 := Lib.hid (show CellsAt w7 (some ⟨w6.heap.size, 0, none⟩) (strs [⟨#[88]⟩]) by rw [← e7]; exact CellsAt.new w6 (strs [⟨#[88]⟩]) _)
  have X7 := Lib.hid (show Ext w6 w7 by rw [← e7]; exact (Kp.refl w6).alloc _)
  go_wp2_with fail
  refine (atom_any ⟨#[110]⟩ [⟨#[88]⟩] _ 1 1 w7 rfl HS7.out (by decide) (aw_names (by kernel_rfl))).mono ?_
  rintro e w8 ⟨v, rfl, hk8, a3, c3, hv, ht3, hc3, hm3⟩
  have hv' : v = .agg #[.int .i64 1, .string ⟨#[110]⟩, .slice a3 1 c3, .int .i64 0, .int .i64 0, .string ⟨#[]⟩, .int .i64 0, .string ⟨#[]⟩] := hv
  subst hv'
  have HT3 := Lib.hid (show TermsAt w8 (New w) a3 (termsOf awN) from ht3.mono fun g hg => by have := (X6.out.trans X7.out).size; exact Nat.le_trans this hg)
  have X78 := Lib.hid (X7.out.trans hk8)
  have X8 := Lib.hid (X6.out.trans X78.out)
  clear hv ht3 hk8 e7 HS7 X7
  go_wp2_with fail
  refine (v_any ⟨#[88]⟩ _).mono ?_
  rintro e w9 ⟨v, rfl, hk9, rfl⟩
  go_wp2_with fail
  refine (v_any ⟨#[90]⟩ _).mono ?_
  rintro e wt ⟨v, rfl, hkt, rfl⟩
  have X8t := Lib.hid (hk9.trans hkt)
  have X6t := Lib.hid (X78.out.trans X8t.out)
  have HC := Lib.hid (And.intro (HT12.out.ext X6t.out) (And.intro (HT2.out.ext X6t.out) (And.intro (HT3.out.ext X8t.out) (HB6.out.ext X6t.out))))
  have HCap := Lib.hid (And.intro hc1 (And.intro hm1 (And.intro hc2 (And.intro hm2 (And.intro hc3 hm3)))))
  have XT := Lib.hid (X8.out.trans X8t.out)
  clear hk9 hkt X8t X6t X8 X78 X6 HT12 HT2 HT3 HB6 hc1 hm1 hc2 hm2 hc3 hm3
  obtain ⟨W1, e1⟩ : ∃ x, wt.alloc (.cells #[.int .i64 1, .string ⟨#[101]⟩, .slice a1 2 c1, .int .i64 0, .int .i64 0, .string ⟨#[]⟩, .int .i64 0, .string ⟨#[]⟩, .int .i64 1, .string ⟨#[101]⟩, .slice a2 2 c2, .int .i64 0, .int .i64 0, .string ⟨#[]⟩, .int .i64 0, .string ⟨#[]⟩, .int .i64 1, .string ⟨#[110]⟩, .slice a3 1 c3, .int .i64 0, .int .i64 0, .string ⟨#[]⟩, .int .i64 0, .string ⟨#[]⟩, .int .i64 3, .string ⟨#[]⟩, .slice none 0 0, .int .i64 2, .int .i64 1, .string ⟨#[88]⟩, .int .i64 1, .string ⟨#[90]⟩] 70) = x := ⟨_, rfl⟩
  have B1 := Lib.hid (show Blk W1 wt.heap.size ((awLs.zip [(a1, c1), (a2, c2), (a3, c3), (none, 0)]).flatMap litC) 70 by rw [← e1]; exact Blk.new wt ((awLs.zip [(a1, c1), (a2, c2), (a3, c3), (none, 0)]).flatMap litC) _)
  have Y1 := Lib.hid (show Ext wt W1 by rw [← e1]; exact (Kp.refl wt).alloc _)
  obtain ⟨W2, e2⟩ : ∃ x, W1.alloc (.cells #[.string ⟨#[116]⟩, .slice (some ⟨gh, 0, none⟩) 2 2, .slice (some ⟨wt.heap.size, 0, none⟩) 4 4] 27) = x := ⟨_, rfl⟩
  have B2 := Lib.hid (show Blk W2 W1.heap.size [.string ⟨#[116]⟩, .slice (some ⟨gh, 0, none⟩) 2 2, .slice (some ⟨wt.heap.size, 0, none⟩) 4 4] 27 by rw [← e2]; exact Blk.new W1 _ _)
  have Y2 := Lib.hid (show Ext W1 W2 by rw [← e2]; exact (Kp.refl W1).alloc _)
  obtain ⟨W3, e3⟩ : ∃ x, W2.alloc (.cells #[.float .f64 4621819117588971520, .float .f64 4626322717216342016] 37) = x := ⟨_, rfl⟩
  have B3 := Lib.hid (show Blk W3 W2.heap.size (flts [4621819117588971520, 4626322717216342016]) 37 by rw [← e3]; exact Blk.new W2 _ _)
  have Y3 := Lib.hid (show Ext W2 W3 by rw [← e3]; exact (Kp.refl W2).alloc _)
  obtain ⟨W4, e4⟩ : ∃ x, W3.alloc (.cells #[.float .f64 4616189618054758400] 37) = x := ⟨_, rfl⟩
  have B4 := Lib.hid (show Blk W4 W3.heap.size (flts [4616189618054758400]) 37 by rw [← e4]; exact Blk.new W3 _ _)
  have Y4 := Lib.hid (show Ext W3 W4 by rw [← e4]; exact (Kp.refl W3).alloc _)
  obtain ⟨W5, e5⟩ : ∃ x, W4.alloc (.cells #[.string ⟨#[101]⟩, .float .f64 4636737291354636288, .slice (some ⟨W2.heap.size, 0, none⟩) 2 2, .string ⟨#[110]⟩, .float .f64 4616189618054758400, .slice (some ⟨W3.heap.size, 0, none⟩) 1 1] 56) = x := ⟨_, rfl⟩
  have B5 := Lib.hid (show Blk W5 W4.heap.size [.string ⟨#[101]⟩, .float .f64 4636737291354636288, .slice (some ⟨W2.heap.size, 0, none⟩) 2 2, .string ⟨#[110]⟩, .float .f64 4616189618054758400, .slice (some ⟨W3.heap.size, 0, none⟩) 1 1] 56 by rw [← e5]; exact Blk.new W4 _ _)
  have Y5 := Lib.hid (show Ext W4 W5 by rw [← e5]; exact (Kp.refl W4).alloc _)
  obtain ⟨W6, e6⟩ : ∃ x, W5.alloc (.cells #[.int .i64 0, .int .i64 1] 3) = x := ⟨_, rfl⟩
  have B6 := Lib.hid (show CellsAt W6 (some ⟨W5.heap.size, 0, none⟩) (ints [0, 1]) by rw [← e6]; exact CellsAt.new W5 (ints [0, 1]) _)
  have Y6 := Lib.hid (show Ext W5 W6 by rw [← e6]; exact (Kp.refl W5).alloc _)
  have r0 : W5.cell? ⟨W1.heap.size, 0, none⟩ = some (.string ⟨#[116]⟩) := by rw [(B2.out.ext (Y3.out.trans (Y4.out.trans Y5.out))).cell']; rfl
  have r1 : W5.cell? ⟨W1.heap.size, 1, none⟩ = some (.slice (some ⟨gh, 0, none⟩) 2 2) := by rw [(B2.out.ext (Y3.out.trans (Y4.out.trans Y5.out))).cell']; rfl
  have r2 : W5.cell? ⟨W1.heap.size, 2, none⟩ = some (.slice (some ⟨wt.heap.size, 0, none⟩) 4 4) := by rw [(B2.out.ext (Y3.out.trans (Y4.out.trans Y5.out))).cell']; rfl
  go_wp2_with fail
  have Y15 := Lib.hid (Y2.out.trans (Y3.out.trans (Y4.out.trans Y5.out)))
  have hHs : TermsAt W5 (New w) (some ⟨gh, 0, none⟩) awHs := elems_of (s := shTerm) (f := termC) (rest := []) (fun x => rfl) (fun i x hi => by
    have hx : x ∈ awHs := List.mem_of_getElem? hi
    simp only [awHs, List.mem_cons, List.not_mem_nil, or_false] at hx
    refine term_mk ?_
    rcases hx with rfl | rfl <;> exact ⟨(by decide : (Lit.int .i64 1).wf = true), by decide⟩) EG.out (by rw [List.append_nil]; exact (HC.out.2.2.2.ext Y1.out).ext Y15.out)
  have hLs : LitsAt W5 (New w) (some ⟨wt.heap.size, 0, none⟩) awLs := lits_cells (vs := [(a1, c1), (a2, c2), (a3, c3), (none, 0)]) (rest := []) rfl aw_lits (fun x hx => by
    have hx' : x ∈ [(awE1, (a1, c1)), (awE2, (a2, c2)), (awN, (a3, c3)), (awC, ((none : Option Addr), 0))] := hx
    have Z := Y1.out.trans Y15.out
    simp only [List.mem_cons, List.not_mem_nil, or_false] at hx'
    rcases hx' with rfl | rfl | rfl | rfl
    · exact ⟨HC.out.1.ext Z, HCap.out.1, HCap.out.2.1⟩
    · exact ⟨HC.out.2.1.ext Z, HCap.out.2.2.1, HCap.out.2.2.2.1⟩
    · exact ⟨HC.out.2.2.1.ext Z, HCap.out.2.2.2.2.1, HCap.out.2.2.2.2.2⟩
    · exact ⟨fun i t ht => by have h : ([] : List TermZ)[i]? = some t := ht; simp at h, Nat.le_refl _, Nat.zero_le _⟩) XT.out.size (by rw [List.append_nil]; exact B1.out.ext Y15.out)
  have hSs : StatsAt W5 (some ⟨W4.heap.size, 0, none⟩) awS := aw_stats (B3.out.ext (Y4.out.trans Y5.out)) (B4.out.ext Y5.out) (Nat.le_refl _) (by decide) (Nat.le_refl _) (by decide) B5.out
  have HAll := Lib.hid (And.intro hHs (And.intro hLs hSs))
  have HRb := Lib.hid (B2.out.ext (Y3.out.trans (Y4.out.trans Y5.out)))
  have XW := Lib.hid (XT.out.trans (Y1.out.trans Y15.out))
  clear hHs hLs hSs B1 B2 B3 B4 B5 Y1 Y2 Y3 Y4 Y5 Y15 XT HC HCap EG e1 e2 e3 e4 e5 r0 r1 r2
  have hg := guessE_any ⟨#[116]⟩ awHs awLs (some ⟨gh, 0, none⟩) 2 2 (some ⟨wt.heap.size, 0, none⟩) 4 4 [0, 1] (some ⟨W5.heap.size, 0, none⟩) 2 2 awS (some ⟨W4.heap.size, 0, none⟩) 2 2 W6 (New w) rfl (HAll.out.1.ext Y6.out) (by decide) rfl (HAll.out.2.1.ext Y6.out) aw_fit rfl B6.out (by decide) rfl (by decide) (HAll.out.2.2.ext Y6.out) aw_sfit
  rw [show guessE ((⟨#[116]⟩, awHs, ()), awLs, ()) awS [0, 1] = (4647503709213818880, 0) from aw_guess] at hg
  refine hg.mono ?_
  rintro e wg ⟨v, rfl, hkg, rfl⟩
  have XG := Lib.hid (Y6.out.trans hkg)
  have HR := Lib.hid (HRb.out.ext XG.out)
  have r0 : wg.cell? ⟨W1.heap.size, 0, none⟩ = some (.string ⟨#[116]⟩) := by rw [HR.out.cell']; rfl
  have r1 : wg.cell? ⟨W1.heap.size, 1, none⟩ = some (.slice (some ⟨gh, 0, none⟩) 2 2) := by rw [HR.out.cell']; rfl
  have r2 : wg.cell? ⟨W1.heap.size, 2, none⟩ = some (.slice (some ⟨wt.heap.size, 0, none⟩) 4 4) := by rw [HR.out.cell']; rfl
  clear hg hkg e6 B6 Y6 HRb
  go_wp2_with fail
  have hb := best_any ⟨#[116]⟩ awHs awLs (some ⟨gh, 0, none⟩) 2 2 (some ⟨wt.heap.size, 0, none⟩) 4 4 awS (some ⟨W4.heap.size, 0, none⟩) 2 2 wg (New w) rfl (HAll.out.1.ext XG.out) (by decide) rfl (HAll.out.2.1.ext XG.out) aw_fit rfl (by decide) (HAll.out.2.2.ext XG.out) aw_sfit
  rw [show bestE ((⟨#[116]⟩, awHs, ()), awLs, ()) awS = ([2, 0, 1, 3], 4646166703074443264, 0) from aw_best] at hb
  refine hb.mono ?_
  rintro e wh ⟨v, rfl, hkh, la, lc, hv, hl1, hl2, hl3⟩
  have hv' : v = .tuple #[.slice la 4 lc, .float .f64 4646166703074443264, .int .i64 0] := hv
  subst hv'
  have XH := Lib.hid (XG.out.trans hkh)
  have HL := Lib.hid (show CellsAt wh la (ints [2, 0, 1, 3]) from hl1)
  have HR2 := Lib.hid (HR.out.ext hkh)
  clear hb hv hl1 hl2 hl3 hkh r0 r1 r2 HR XG
  have r0 : wh.cell? ⟨W1.heap.size, 0, none⟩ = some (.string ⟨#[116]⟩) := by rw [HR2.out.cell']; rfl
  have r1 : wh.cell? ⟨W1.heap.size, 1, none⟩ = some (.slice (some ⟨gh, 0, none⟩) 2 2) := by rw [HR2.out.cell']; rfl
  have r2 : wh.cell? ⟨W1.heap.size, 2, none⟩ = some (.slice (some ⟨wt.heap.size, 0, none⟩) 4 4) := by rw [HR2.out.cell']; rfl
  go_wp2_with fail
  have hb := greedy_any ⟨#[116]⟩ awHs awLs (some ⟨gh, 0, none⟩) 2 2 (some ⟨wt.heap.size, 0, none⟩) 4 4 awS (some ⟨W4.heap.size, 0, none⟩) 2 2 wh (New w) rfl (HAll.out.1.ext XH.out) (by decide) rfl (HAll.out.2.1.ext XH.out) aw_fit rfl (by decide) (HAll.out.2.2.ext XH.out) aw_sfit
  obtain ⟨gx, hgx⟩ := aw_greedy
  rw [show greedyE ((⟨#[116]⟩, awHs, ()), awLs, ()) awS = ([2, 0, 1, 3], gx, 0) from hgx] at hb
  refine hb.mono ?_
  rintro e wi ⟨v, rfl, hki, ma, mc, hv, hm1, hm2, hm3⟩
  have hv' : v = .tuple #[.slice ma 4 mc, .float .f64 gx, .int .i64 0] := hv
  subst hv'
  have XI := Lib.hid (XH.out.trans hki)
  have HL2 := Lib.hid (HL.out.ext hki)
  have HM := Lib.hid (show CellsAt wi ma (ints [2, 0, 1, 3]) from hm1)
  clear hb hv hm1 hm2 hm3 hki r0 r1 r2 HR2 XH HL hgx HAll
  have q1 : ((FloatKind.format .f64).order 4647503709213818880 4647503709213818880 == some .eq) = true := by decide
  have q2 : ((FloatKind.format .f64).order 4646166703074443264 4646166703074443264 == some .eq) = true := by decide
  obtain ⟨wj, ej⟩ : ∃ x, wi.alloc (.cells #[.int .i64 2, .int .i64 0, .int .i64 1, .int .i64 3] 3) = x := ⟨_, rfl⟩
  have HJ := Lib.hid (show CellsAt wj (some ⟨wi.heap.size, 0, none⟩) (ints [2, 0, 1, 3]) by rw [← ej]; exact CellsAt.new wi (ints [2, 0, 1, 3]) _)
  have XJ := Lib.hid (show Ext wi wj by rw [← ej]; exact (Kp.refl wi).alloc _)
  go_wp2_with fail
  refine (ints_any [2, 0, 1, 3] la _ 4 lc 4 wj rfl (HL2.out.ext XJ.out) HJ.out (by decide)).mono ?_
  rintro e wk ⟨v, rfl, hkk, rfl⟩
  have XK := Lib.hid (XJ.out.trans hkk)
  clear hkk ej HJ XJ q1 q2
  go_wp2_with fail
  refine (ints_any [2, 0, 1, 3] ma la 4 mc lc wk rfl (HM.out.ext XK.out) (HL2.out.ext XK.out) (by decide)).mono ?_
  rintro e wl ⟨v, rfl, hkl, rfl⟩
  have XL := Lib.hid (XW.out.trans (XI.out.trans (XK.out.trans hkl)))
  clear hkl
  go_wp2
  go_ret
  exact RetN.mk XL.out rfl
end Go.Proofs.Ytcphalpcdcddpaa

/- The law of costs: CostBest, walked. -/
namespace Go.Proofs.Ytcphalpcdcddpaa
open Go.RowKit
set_option linter.unusedVariables false
attribute [local go_sem] run_store_float

/-- Between two beginnings of the best order. -/
def SumTo (S : List StatZ) (ls : List LitZ) (l : List Int) (n : Nat) (w0 : World) (iv sv : Value) (w : World) : Prop := ∃ i : Nat, 1 ≤ i ∧ i ≤ n + 1 ∧ iv = .int .i64 i ∧ (∃ s : Nat, sv = .float .f64 s ∧ Hid (s = costTo S ls l (i - 1))) ∧ Hid (Ext w0 w)

set_option maxRecDepth 100000 in
set_option maxHeartbeats 8000000 in
theorem bestLaw_any (p : ByteArray) (hs : List TermZ) (ls : List LitZ) (ha : Option Addr) (hn hcap : Nat) (ba : Option Addr) (n bcap : Nat) (xs : List Int) (xa : Option Addr) (xn xcap : Nat) (K : List StatZ) (ka : Option Addr) (nk kc : Nat) (w : World)
    (hhn : hn = hs.length) (hh : TermsAt w (Old w) ha hs) (hhl : hn ≤ 1048576) (hbn : n = ls.length) (h : LitsAt w (Old w) ba ls) (hf : Fit ls)
    (hxn : xn = xs.length) (hx : CellsAt w xa (ints xs)) (hxc : xn ≤ xcap) (hxm : xcap ≤ maxLen) (hxl : xn ≤ 1048576) (hnk : nk = K.length) (hS : KnownAt w ka K) (hSf : StatsFit K) :
    Calls Try.prog 6 #[ruleV p ha hn hcap ba n bcap, .slice xa xn xcap, .slice ka nk kc] w (RetN w fun w' v => v = .bool true) := by
  have hl : n ≤ 1048576 := by have := hf.len; omega
  have HIn := Lib.hid (And.intro hhn (And.intro hh (And.intro hbn (And.intro h hf))))
  have HXs := Lib.hid (And.intro hxn (And.intro hx (And.intro hxc hxm)))
  have HKn := Lib.hid (And.intro hnk (And.intro hS hSf))
  clear hhn hh hbn h hf hxn hx hxc hxm hnk hS hSf
  go_enter Try.func6, Try.ntmps6
  obtain ⟨gr, egr⟩ : ∃ gr, gr = w.heap.size := ⟨_, rfl⟩
  obtain ⟨wb, eb⟩ : ∃ wb, w.alloc (.cells #[.string p, .slice ha hn hcap, .slice ba n bcap] 27) = wb := ⟨_, rfl⟩
  have hB1 : Blk wb gr [.string p, .slice ha hn hcap, .slice ba n bcap] 27 := by rw [← eb, egr]; exact Blk.new w _ _
  have XB := Lib.hid (show Ext w wb from by rw [← eb]; exact (Kp.refl w).alloc _)
  have HR := Lib.hid hB1
  have EGR := Lib.hid egr
  clear hB1 egr
  go_wp2_with fail
  rw [← EGR.out]
  refine (awake_any wb).mono ?_
  rintro e w1 ⟨v, rfl, hk1, rfl⟩
  have X1 := Lib.hid (XB.out.trans hk1)
  have HR1 := Lib.hid (HR.out.ext hk1)
  clear hk1 eb
  have r2 : w1.cell? ⟨gr, 2, none⟩ = some (.slice ba n bcap) := by rw [HR1.out.cell']; rfl
  by_cases hg : 9 < n
  · have hgd : decide ((n : Int) > 9) = true := decide_eq_true (by omega)
    go_wp2
    go_ret
    exact RetN.mk X1.out rfl
  have hgd : decide ((n : Int) > 9) = false := decide_eq_false (by omega)
  go_wp2_with fail
  refine (stats_any K ka nk kc w1 HKn.out.1 (HKn.out.2.1.ext X1.out) HKn.out.2.2).mono ?_
  rintro e w2 ⟨v, rfl, hk2, gs, cs, rfl, hSM⟩
  have S2 := Lib.hid (show BSt w p hs ls ha hn hcap ba n bcap gr gs cs nk w2 K xs xa xn xcap from
    { hhn := HIn.out.1, hhl := hhl, hh := HIn.out.2.1, hbn := HIn.out.2.2.1, h := HIn.out.2.2.2.1, hf := HIn.out.2.2.2.2, ext := X1.out.trans hk2, rbox := HR1.out.ext hk2,
      z := hSM.old X1.out.size, kl := HKn.out.1.symm, kf := HKn.out.2.2, xl := HXs.out.1, xat := HXs.out.2.1, xc := HXs.out.2.2.1, xm := HXs.out.2.2.2 })
  have HNine := Lib.hid hg
  clear hSM hk2 HR1 X1 XB HR EGR HIn HXs HKn r2 hgd hg
  obtain ⟨r, er⟩ : ∃ r : RuleZ, ((p, hs, ()), ls, ()) = r := ⟨_, rfl⟩
  have ER := Lib.hid er
  clear er
  have r0 : w2.cell? ⟨gr, 0, none⟩ = some (.string p) := by rw [S2.out.rbox.cell']; rfl
  have r1 : w2.cell? ⟨gr, 1, none⟩ = some (.slice ha hn hcap) := by rw [S2.out.rbox.cell']; rfl
  have r2 : w2.cell? ⟨gr, 2, none⟩ = some (.slice ba n bcap) := by rw [S2.out.rbox.cell']; rfl
  go_wp2_with fail
  refine S2.out.twin.mono ?_
  rintro e w3 ⟨v, rfl, hk3, ta, tc, tb, td, rfl, hM⟩
  have S3 := Lib.hid (S2.out.to hk3)
  have HM := Lib.hid hM
  clear hk3 hM S2 r0 r1 r2
  go_wp2_with fail
  refine (S3.out.best HM.out).mono ?_
  rw [ER.out]
  rintro e w4 ⟨v, rfl, hk, l0, lc0, rfl, hl1, hl2, hl3⟩
  have S4 := Lib.hid (S3.out.to hk)
  have HL0 := Lib.hid (And.intro hl1 (And.intro hl2 hl3))
  clear hk hl1 hl2 hl3 HM S3
  have r0 : w4.cell? ⟨gr, 0, none⟩ = some (.string p) := by rw [S4.out.rbox.cell']; rfl
  have r1 : w4.cell? ⟨gr, 1, none⟩ = some (.slice ha hn hcap) := by rw [S4.out.rbox.cell']; rfl
  have r2 : w4.cell? ⟨gr, 2, none⟩ = some (.slice ba n bcap) := by rw [S4.out.rbox.cell']; rfl
  go_wp2_with fail
  refine S4.out.twin.mono ?_
  rintro e w5 ⟨v, rfl, hk5, ta, tc, tb, td, rfl, hM⟩
  have S5 := Lib.hid (S4.out.to hk5)
  have HL5 := Lib.hid (And.intro (HL0.out.1.ext hk5) HL0.out.2)
  have HM := Lib.hid hM
  clear hk5 hM S4 HL0 r0 r1 r2
  go_wp2_with fail
  refine (S5.out.greedy HM.out).mono ?_
  rw [ER.out]
  rintro e w6 ⟨v, rfl, hk, m0, mc0, rfl, hm1, hm2, hm3⟩
  have S6 := Lib.hid (S5.out.to hk)
  have HL6 := Lib.hid (And.intro (HL5.out.1.ext hk) HL5.out.2)
  have HM6 := Lib.hid (And.intro hm1 (And.intro hm2 hm3))
  clear hk hm1 hm2 hm3 HM S5 HL5
  by_cases he : errR r K = 0
  · obtain ⟨l, c, B⟩ := best_p he (by rw [← ER.out]; show ¬ 12 < ls.length; have := S6.out.hbn; have := HNine.out; omega)
    obtain ⟨m, d, G⟩ := greed_p (S := K) he
    rw [B.ok] at HL6 ⊢
    rw [G.ok] at HM6 ⊢
    have HB := Lib.hid B
    have HG := Lib.hid G
    have HE := Lib.hid he
    have ecl := costE_of he B.ord
    have ecm := costE_of he G.ord
    rw [B.cost] at ecl
    rw [G.cost] at ecm
    have ell : r.2.1.length = n := by rw [← ER.out]; exact S6.out.hbn.symm
    have el := B.len.trans ell
    have em := G.len.trans ell
    have hcd : c ≤ d := by rw [← G.cost]; exact B.least m G.ord
    have fcd := le_word hcd G.le
    have fc0 := ge_word (Nat.zero_le c) B.le
    have HECL := Lib.hid ecl
    have HECM := Lib.hid ecm
    dsimp only at HL6 HM6 ⊢
    rw [el] at HL6 ⊢
    rw [em] at HM6 ⊢
    have HEL := Lib.hid el
    have HEM := Lib.hid em
    clear B G he ecl ecm hcd ell el em
    have r0 : w6.cell? ⟨gr, 0, none⟩ = some (.string p) := by rw [S6.out.rbox.cell']; rfl
    have r1 : w6.cell? ⟨gr, 1, none⟩ = some (.slice ha hn hcap) := by rw [S6.out.rbox.cell']; rfl
    have r2 : w6.cell? ⟨gr, 2, none⟩ = some (.slice ba n bcap) := by rw [S6.out.rbox.cell']; rfl
    go_wp2_with fail
    refine S6.out.twin.mono ?_
    rintro e w7 ⟨v, rfl, hk7, ta, tc, tb, td, rfl, hM⟩
    have S7 := Lib.hid (S6.out.to hk7)
    have HL7 := Lib.hid (And.intro (HL6.out.1.ext hk7) HL6.out.2)
    have HM7 := Lib.hid (And.intro (HM6.out.1.ext hk7) HM6.out.2)
    have HM := Lib.hid hM
    clear hk7 hM S6 HL6 HM6 r0 r1 r2
    go_wp2_with fail
    refine (S7.out.cost HM.out HEL.out.symm HL7.out.1 HL7.out.2.1 HL7.out.2.2 (by omega)).mono ?_
    rw [ER.out, HECL.out]
    rintro e w8 ⟨v, rfl, hk, rfl⟩
    have S8 := Lib.hid (S7.out.to hk)
    have HL8 := Lib.hid (And.intro (HL7.out.1.ext hk) HL7.out.2)
    have HM8 := Lib.hid (And.intro (HM7.out.1.ext hk) HM7.out.2)
    clear hk HM S7 HL7 HM7
    dsimp only
    have r0 : w8.cell? ⟨gr, 0, none⟩ = some (.string p) := by rw [S8.out.rbox.cell']; rfl
    have r1 : w8.cell? ⟨gr, 1, none⟩ = some (.slice ha hn hcap) := by rw [S8.out.rbox.cell']; rfl
    have r2 : w8.cell? ⟨gr, 2, none⟩ = some (.slice ba n bcap) := by rw [S8.out.rbox.cell']; rfl
    go_wp2_with fail
    refine S8.out.twin.mono ?_
    rintro e w9 ⟨v, rfl, hk9, ta, tc, tb, td, rfl, hM⟩
    have S9 := Lib.hid (S8.out.to hk9)
    have HL9 := Lib.hid (And.intro (HL8.out.1.ext hk9) HL8.out.2)
    have HM9 := Lib.hid (And.intro (HM8.out.1.ext hk9) HM8.out.2)
    have HM := Lib.hid hM
    clear hk9 hM S8 HL8 HM8 r0 r1 r2
    go_wp2_with fail
    refine (S9.out.cost HM.out HEM.out.symm HM9.out.1 HM9.out.2.1 HM9.out.2.2 (by omega)).mono ?_
    rw [ER.out, HECM.out]
    rintro e w10 ⟨v, rfl, hk, rfl⟩
    have S10 := Lib.hid (S9.out.to hk)
    have HL10 := Lib.hid (And.intro (HL9.out.1.ext hk) HL9.out.2)
    clear hk HM S9 HL9 HM9
    dsimp only
    go_wp2_with fail
    refine (alike_any c w10).mono ?_
    rintro e w11 ⟨v, rfl, hk, rfl⟩
    have S11 := Lib.hid (S10.out.to hk)
    have HL11 := Lib.hid (And.intro (HL10.out.1.ext hk) HL10.out.2)
    clear hk S10 HL10
    go_wp2_with fail
    refine (alike_any d w11).mono ?_
    rintro e w12 ⟨v, rfl, hk, rfl⟩
    have S12 := Lib.hid (S11.out.to hk)
    have HL12 := Lib.hid (And.intro (HL11.out.1.ext hk) HL11.out.2)
    clear hk S11 HL11
    go_wp2
    clear fcd fc0
    generalize hw12 : w12 = wl at *; clear hw12
    go_loopw [19, 18] (fun iv sv wr => SumTo K r.2.1 l n wl iv sv wr) (fun iv _ _ => n + 1 - (intOf iv).toNat)
    case atStart => exact ⟨1, by omega, by omega, rfl, ⟨0, rfl, rfl⟩, Kp.refl _⟩
    case round =>
      obtain ⟨i, hi1, hi, rfl, ⟨s, rfl, hs⟩, hex⟩ := hrel
      have SR := Lib.hid (S12.out.to hex.out)
      have HLR := Lib.hid (HL12.out.1.ext hex.out)
      by_cases hlt : i ≤ n
      · have hlt2 : i ≤ lc0 := by have := HL12.out.2.1; omega
        have hlc : lc0 ≤ 9223372036854775807 := HL12.out.2.2
        go_wp2
        have HCe := Lib.hid (show ∀ w', Ext wr w' → (fun w' : World => w'.cell? ⟨gr, 0, none⟩ = some (.string p) ∧ w'.cell? ⟨gr, 1, none⟩ = some (.slice ha hn hcap) ∧ w'.cell? ⟨gr, 2, none⟩ = some (.slice ba n bcap)) w' from fun w' hw => ⟨by rw [(SR.out.to hw).rbox.cell']; rfl, by rw [(SR.out.to hw).rbox.cell']; rfl, by rw [(SR.out.to hw).rbox.cell']; rfl⟩)
        refine draw_begin (fun w' : World => w'.cell? ⟨gr, 0, none⟩ = some (.string p) ∧ w'.cell? ⟨gr, 1, none⟩ = some (.slice ha hn hcap) ∧ w'.cell? ⟨gr, 2, none⟩ = some (.slice ba n bcap)) [6] (by kernel_rfl) (HCe.out _ (Kp.refl wr).drew) (fun hHeld => ?_)
        (refine draw_in (i := 0) (v := ?_) rfl ?_ ?_; rotate_left; (intro w hSw; (try dsimp only at hSw); go_simp; try with_reducible rfl)); (try simp only [Act.put, List.setIfInBounds_toArray, List.set_cons_zero, List.set_cons_succ])
        (refine draw_free (i := 2) (v := ?_) rfl ?_ ?_; rotate_left; (intro w; go_simp; try with_reducible rfl)); (try simp only [Act.put, List.setIfInBounds_toArray, List.set_cons_zero, List.set_cons_succ])
        (refine draw_free (i := 3) (v := ?_) rfl ?_ ?_; rotate_left; (intro w; go_simp; try with_reducible rfl)); (try simp only [Act.put, List.setIfInBounds_toArray, List.set_cons_zero, List.set_cons_succ])
        (refine draw_in (i := 4) (v := ?_) rfl ?_ ?_; rotate_left; (intro w hSw; (try dsimp only at hSw); go_simp; try with_reducible rfl)); (try simp only [Act.put, List.setIfInBounds_toArray, List.set_cons_zero, List.set_cons_succ])
        (refine draw_free (i := 5) (v := ?_) rfl ?_ ?_; rotate_left; (intro w; go_simp; try with_reducible rfl)); (try simp only [Act.put, List.setIfInBounds_toArray, List.set_cons_zero, List.set_cons_succ])
        refine draw_one (i := 1) ?_
        refine comes_turn (i := 1) rfl (fun K hK => ?_)
        go_simp
        (refine (SR.out.to (Kp.refl wr).drew).twin.mono ?_; rintro e w5 ⟨v, rfl, hk3, ta, tc, tb, td, rfl, hM⟩; have X5 := Lib.hid (show Ext wr w5 from ((Kp.refl wr).drew).trans hk3); have HM := Lib.hid hM; clear hk3 hM)
        go_wp2_with fail
        refine hK.out _ _ ?_ (fun hHeld => ?_)
        · (try dsimp only); (exact HCe.out _ X5.out)
        clear hK K; (try simp only [Act.put, List.setIfInBounds_toArray, List.set_cons_zero, List.set_cons_succ])
        refine draw_one (i := 6) ?_
        refine comes_late (i := 6) rfl (by kernel_rfl) (fun K hK => ?_)
        go_simp
        (refine ((SR.out.to X5.out).guess HM.out (ys := l.take i) (by rw [List.length_take, HEL.out]; omega) (by exact (HLR.out.ext X5.out).intsTake i) (by omega)).mono ?_; rw [ER.out, guessE_of HE.out (HB.out.ord.2 i (by rw [HEL.out]; exact hlt))]; rintro e w6 ⟨v, rfl, hk4, rfl⟩; have X6 := Lib.hid (X5.out.trans hk4); clear hk4)
        go_wp2_with fail
        refine hK.out _ _ ?_
        clear hK K; (try simp only [Act.put, List.setIfInBounds_toArray, List.set_cons_zero, List.set_cons_succ])
        (refine draw_free (i := 7) (v := ?_) rfl ?_ ?_; rotate_left; (intro w; go_simp; try with_reducible rfl)); (try simp only [Act.put, List.setIfInBounds_toArray, List.set_cons_zero, List.set_cons_succ])
        (refine draw_free (i := 8) (v := ?_) rfl ?_ ?_; rotate_left; (intro w; go_simp; try with_reducible rfl)); (try simp only [Act.put, List.setIfInBounds_toArray, List.set_cons_zero, List.set_cons_succ])
        (refine draw_free (i := 10) (v := ?_) rfl ?_ ?_; rotate_left; (intro w; go_simp; try with_reducible rfl)); (try simp only [Act.put, List.setIfInBounds_toArray, List.set_cons_zero, List.set_cons_succ])
        (refine draw_free (i := 9) (v := ?_) rfl ?_ ?_; rotate_left; (intro w; go_simp; try with_reducible rfl)); (try simp only [Act.put, List.setIfInBounds_toArray, List.set_cons_zero, List.set_cons_succ])
        (refine draw_free (i := 11) (v := ?_) rfl ?_ ?_; rotate_left; (intro w; go_simp; try with_reducible rfl)); (try simp only [Act.put, List.setIfInBounds_toArray, List.set_cons_zero, List.set_cons_succ])
        refine wpAnyD_done (by kernel_rfl) ?_ _
        clear hHeld HCe X5 HM
        obtain ⟨gv, egv⟩ : ∃ gv, guessOf K r.2.1 (l.take i) = gv := ⟨_, rfl⟩
        rw [egv]
        have hgi : gv ≤ infW := by rw [← egv]; exact guessOf_le HB.out.known _
        have hsi : s ≤ infW := by rw [hs.out]; exact costTo_inf HB.out.known _ _
        have hse : fadd s gv = costTo K r.2.1 l i := by
          obtain ⟨j, rfl⟩ : ∃ j, i = j + 1 := ⟨i - 1, by omega⟩
          rw [hs.out, ← egv]; rfl
        have fg0 := ge_word (Nat.zero_le gv) hgi
        have fgs := ge_word (fadd_ge hsi hgi) (fadd_le hsi hgi)
        have hadd := fun t W => add_run (s := s) (d := gv) hsi hgi t W
        have HSE := Lib.hid hse
        have HXR := Lib.hid (hex.out.trans X6.out)
        clear egv hgi hsi hse hs X6 SR HLR hlt2
        generalize hfa : fadd s gv = sg at *
        have HFA := Lib.hid hfa
        clear hfa
        go_wp2
        go_roundw
        case rel => exact ⟨i + 1, by omega, by omega, by first | rfl | (congr 1; done) | (congr 1; omega), ⟨sg, rfl, HSE.out⟩, HXR.out⟩
        case measure => simp [intOf]; omega
      · obtain rfl : i = n + 1 := by omega
        have hsc : s = c := by rw [hs.out, ← HB.out.cost, show n + 1 - 1 = l.length by rw [HEL.out]; omega]
        subst hsc
        have r0 : wr.cell? ⟨gr, 0, none⟩ = some (.string p) := by rw [SR.out.rbox.cell']; rfl
        have r1 : wr.cell? ⟨gr, 1, none⟩ = some (.slice ha hn hcap) := by rw [SR.out.rbox.cell']; rfl
        have r2 : wr.cell? ⟨gr, 2, none⟩ = some (.slice ba n bcap) := by rw [SR.out.rbox.cell']; rfl
        clear hs
        go_wp2_with fail
        refine SR.out.twin.mono ?_
        rintro e w7 ⟨v, rfl, hk7, ta, tc, tb, td, rfl, hM⟩
        have S7 := Lib.hid (SR.out.to hk7)
        have HM := Lib.hid hM
        clear hk7 hM SR HLR r0 r1 r2
        go_wp2_with fail
        refine (S7.out.cost HM.out S7.out.xl S7.out.old S7.out.xc S7.out.xm (by omega)).mono ?_
        rw [ER.out]
        by_cases ho : orderOk r.2.1 xs
        · rw [costE_of HE.out ho]
          have fle := le_word (HB.out.least xs ho) (costTo_inf HB.out.known xs _)
          dsimp only
          rintro e w8 ⟨v, rfl, hk8, rfl⟩
          have S8 := Lib.hid (S7.out.to hk8)
          clear hk8 S7 HM ho
          go_wp2_with fail
          refine (alike_any s w8).mono ?_
          rintro e w9 ⟨v, rfl, hk9, rfl⟩
          have S9 := Lib.hid (S8.out.to hk9)
          clear hk9 S8
          go_wp2
          go_ret
          exact RetN.mk S9.out.ext rfl
        · rw [costE_no HE.out ho]
          dsimp only
          rintro e w8 ⟨v, rfl, hk8, rfl⟩
          have S8 := Lib.hid (S7.out.to hk8)
          clear hk8 S7 HM ho
          go_wp2_with fail
          refine (alike_any s w8).mono ?_
          rintro e w9 ⟨v, rfl, hk9, rfl⟩
          have S9 := Lib.hid (S8.out.to hk9)
          clear hk9 S8
          go_wp2
          go_ret
          exact RetN.mk S9.out.ext rfl
  · rw [bestE_bad he] at HL6 ⊢
    rw [greedyE_bad he] at HM6 ⊢
    dsimp only at HL6 HM6 ⊢
    obtain ⟨e0, ee0⟩ : ∃ e0, errR r K = e0 := ⟨_, rfl⟩
    rw [ee0] at he ⊢
    have b1 : ((e0 : Int) != 0) = true := by simp; omega
    have b2 : ((e0 : Int) == (e0 : Int)) = true := by simp
    clear he ee0
    go_wp2_with fail
    refine (alike_any 0 w6).mono ?_
    rintro e w7 ⟨v, rfl, hk7, rfl⟩
    have S7 := Lib.hid (S6.out.to hk7)
    clear hk7 S6 HL6 HM6
    go_wp2_with fail
    refine (alike_any 0 w7).mono ?_
    rintro e w8 ⟨v, rfl, hk8, rfl⟩
    have S8 := Lib.hid (S7.out.to hk8)
    clear hk8 S7
    go_wp2
    go_ret
    exact RetN.mk S8.out.ext rfl
end Go.Proofs.Ytcphalpcdcddpaa

/- Proved here: the statement CostBestUptoSaid: the law returns true for every input of the bound that the row names and leaves its arguments as they were. No condition of its own. -/
namespace Go.Proofs.Ytcphalpcdcddpaa.lawCostBest
open Go.ChangeShapes Go.WideShapes Go.ChangeAt Go.RowKit
set_option linter.unusedVariables false

theorem own : ownKnob Try.prog.godebug = none := by kernel_rfl
theorem laidOut : laidOutB Try.prog = true := by kernel_rfl

theorem arg_sliceM {P : Program} {α : Type} {t : TypeId} {s : Shp P α} (hu : P.underlying t = some (.slice s.ty)) (hc : P.cellsOf t = 1) (hn : 0 < s.n) {H : Type} {enc : TypeId × Value → H} {W : World} {base : Nat} {v : Value} {d : DataW H} {p : List MemPlace}
    (hok : Value.okWide P W .any base t v) (h : DataW.Trod enc P W 0 (fun _ => true) true t v d p) {N : Nat} (hN : Rows.uptoBulk d ≤ N) :
    ∃ ao cap xs, v = .slice ao xs.length cap ∧ xs.length ≤ cap ∧ cap ≤ maxLen ∧ ElemsAt s W (fun k => k < W.heap.size) ao xs ∧ bulkL s.bulk xs + 1 ≤ N := by
  obtain ⟨ao, len, cap, rfl⟩ := okWide_slice hu hok
  obtain ⟨x, ⟨ao', cap', e, hl, hm, hx⟩, hb⟩ := (shSlice t s hu hc hn).arg h hN
  simp [Value.cells] at e
  obtain ⟨rfl, rfl, rfl⟩ := e
  exact ⟨ao, cap, x, rfl, hl, hm, hx, hb⟩
theorem best_walk {v o u : Value} {W : World} (hv : ∃ cs x, v = .agg cs ∧ shRule.At W (fun k => k < W.heap.size) cs.toList x ∧ shRule.bulk x ≤ 1048576)
    (ho : ∃ ao cap xs, o = .slice ao xs.length cap ∧ xs.length ≤ cap ∧ cap ≤ maxLen ∧ ElemsAt shI W (fun k => k < W.heap.size) ao xs ∧ bulkL shI.bulk xs + 1 ≤ 1048576)
    (hu : ∃ ao cap xs, u = .slice ao xs.length cap ∧ xs.length ≤ cap ∧ ElemsAt shKnown W (fun k => k < W.heap.size) ao xs ∧ bulkL shKnown.bulk xs + 1 ≤ 1048576) :
    Calls Try.prog 6 #[v, o, u] W (fun e w' => e = .returned (.bool true) ∧ Below W.heap.size W w') := by
  obtain ⟨cs, x, rfl, h1, hb⟩ := hv
  obtain ⟨oa, oc, os, rfl, o2, o3, o4, ob⟩ := ho
  obtain ⟨ka, kc, ks, rfl, k2, k3, kb⟩ := hu
  obtain ⟨ha, hcap, ba, bcap, hR, ec⟩ := rule_cells h1
  have ecs : cs = #[.string x.1.1, .slice ha x.1.2.1.length hcap, .slice ba x.2.1.length bcap] := by
    rw [← Array.toList_inj, ec]
  obtain ⟨f1, f2⟩ := rule_fit (r := x) hb
  have ol : os.length ≤ 1048576 := by have := bulkL_len shI.bulk (fun _ => Nat.le_refl 1) os; omega
  rw [ecs]
  refine (bestLaw_any x.1.1 x.1.2.1 x.2.1 ha _ hcap ba _ bcap os oa _ oc (ks.map natK) ka _ kc W rfl hR.head f1 rfl hR.body f2 rfl (int_cells o4).1 o2 o3 ol (by rw [List.length_map]) (known_in k3).at (known_fit k3 kb)).mono ?_
  rintro e w' ⟨v, rfl, hk, rfl⟩
  exact ⟨rfl, hk.below⟩

set_option maxRecDepth 100000 in
theorem lifted (os : Os) (started : os.Started) (H : Type) (enc : TypeId × Value → H) (F : Stop.Interp) :
    ReturnsInHanded {} Try.checked os 6 .any ((Rows.OpenSpec.upto Rows.costBestSpec).pre6 enc Try.prog Try.f6 Rows.costBestUptoRow.domain false) (((Rows.OpenSpec.upto Rows.costBestSpec).at F).post enc Try.prog Try.f6 false true false false) := by
  refine returnsInHanded_of_cond (C := Try.checked) (s := Rows.OpenSpec.upto Rows.costBestSpec) (k := Rows.uptoSmall) rfl own started (by kernel_rfl) Try.func6
    (OpenSpec.witness (enc := enc) (C := Try.checked) (s := Rows.OpenSpec.upto Rows.costBestSpec) (k := Rows.uptoSmall) rfl false ⟨#[], #[.agg #[.string ⟨#[]⟩, .slice none 0 0, .slice none 0 0], .slice none 0 0, .slice none 0 0], []⟩ 8 (by kernel_rfl) (by kernel_rfl) (by kernel_rfl)
      (x := ([.agg [.agg [.lit (.string []), .nil], .nil], .nil, .nil], [], [])) (by kernel_rfl) rfl (by kernel_rfl)) ?_
  intro W base args ds gs before hval0 hW hcnd hk0 _
  have hk : Rows.uptoSmall H (ds ++ gs) = true := hk0
  clear hk0
  have hval : ∀ (j : Nat) t v, Try.f6.params[j]? = some t → args[j]? = some v → Value.okWide Try.prog W .any base t v := hval0
  have hW' := hW
  obtain ⟨p, q, hA0, hV, rfl, hfz, hnd⟩ := hW
  have hA : DataW.TrodAll enc Try.prog W 0 (fun _ => true) true Try.f6.params.toList args.toList ds p := hA0
  rw [Try.params6] at hA hval
  obtain ⟨v0, vs0, d0, ds0, p0, q0, hargs, rfl, rfl, h0, r0⟩ := trodAll_cons hA
  obtain ⟨v1, vs1, d1, ds1, p1, q1, rfl, rfl, rfl, h1, r1⟩ := trodAll_cons r0
  obtain ⟨v2, vs2, d2, ds2, p2, q2, rfl, rfl, rfl, h2, r2⟩ := trodAll_cons r1
  obtain ⟨rfl, rfl, rfl⟩ := trodAll_nil r2
  obtain rfl : args = #[v0, v1, v2] := by cases args; simp_all
  obtain ⟨rfl, rfl⟩ := trodVars_none hV
  have lt0 : ∀ x ∈ p0, x.block < W.heap.size := by obtain ⟨m, hm⟩ := h0; exact DataW.trod_lt m _ _ _ hm
  have lt1 : ∀ x ∈ p1, x.block < W.heap.size := by obtain ⟨m, hm⟩ := h1; exact DataW.trod_lt m _ _ _ hm
  have lt2 : ∀ x ∈ p2, x.block < W.heap.size := by obtain ⟨m, hm⟩ := h2; exact DataW.trod_lt m _ _ _ hm
  clear hA0 hval0
  simp only [List.append_nil] at hk
  have hk1 : Rows.uptoBulkAll [d0, d1, d2] ≤ 1048576 := of_decide_eq_true hk
  clear hk
  have x0 : ∃ cs x, v0 = .agg cs ∧ shRule.At W (fun k => k < W.heap.size) cs.toList x ∧ shRule.bulk x ≤ 1048576 := by
    obtain ⟨cs, rfl, hcs⟩ := okWide_struct Try.underlying27 (hval 0 27 v0 rfl rfl)
    obtain ⟨x, hx, hb⟩ := shRule.arg h0 (bulk_in hk1 (by simp))
    exact ⟨cs, x, rfl, hx, hb⟩
  have x1 := arg_sliceM (s := shI) Try.underlying28 (by kernel_rfl) (by decide) (hval 1 28 v1 rfl rfl) h1 (N := 1048576) (bulk_in hk1 (by simp))
  have x2 := arg_slice (s := shKnown) Try.underlying29 (by kernel_rfl) (by decide) (hval 2 29 v2 rfl rfl) h2 (N := 1048576) (bulk_in hk1 (by simp))
  refine (best_walk x0 x1 x2).mono fun e W' ⟨he, bel⟩ => ?_
  subst he
  exact ⟨_, rfl, _, _, _, [], _, [], hW', trodAll_mk1 (shut_bool Try.underlying4 _), (trodAll_cons_mk (Below.trod laidOut (by kernel_rfl) (of_decide_eq_true (by kernel_rfl)) h0 bel lt0) (trodAll_cons_mk (Below.trod laidOut (by kernel_rfl) (of_decide_eq_true (by kernel_rfl)) h1 bel lt1) (trodAll_cons_mk (Below.trod laidOut (by kernel_rfl) (of_decide_eq_true (by kernel_rfl)) h2 bel lt2) trodAll_mk0))), rfl, bel.frame _, fun h => by cases h⟩

theorem over : Rows.costBestUptoRow.holds Try.pinned (Rows.OpenSpec.upto Rows.costBestSpec) :=
  OpenClaim.holds_of_cond 6 Try.f6 rfl rfl rfl rfl rfl rfl rfl ⟨rfl, rfl, rfl, rfl, rfl⟩ rfl rfl rfl rfl rfl (by kernel_rfl) Try.func6 (by kernel_rfl)
    (of_decide_eq_true (by kernel_rfl)) (by unfold Func.isWrapper; first | (rw [if_pos (by decide +kernel)]; kernel_rfl) | (rw [if_neg (by decide +kernel)]; exact ⟨rfl, rfl⟩))
    (fun os started H enc _ F => lifted os started H enc F)

theorem proved : Rows.CostBestUptoSaid := over
#print axioms proved
end Go.Proofs.Ytcphalpcdcddpaa.lawCostBest
