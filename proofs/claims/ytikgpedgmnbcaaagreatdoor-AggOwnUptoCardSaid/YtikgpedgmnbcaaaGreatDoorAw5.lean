/- Texts joined for a claim (CurSeek, CurOpen, CurOpen0, CurStep, MatchAt, WalkAt, CmpTest, MissTest, WalkPlain, Leap). -/
import Derived.Test.YtikgpedgmnbcaaaGreatDoorAw4
set_option linter.unusedVariables false
set_option linter.unusedSimpArgs false
set_option maxRecDepth 100000
namespace Go.Proofs.YtikgpedgmnbcaaaGreatDoor
section
open Go.RowKit Go.Shelf
def aKk (K : List ByteArray) (t : ByteArray) (a b : Nat) (w0 : World) (lv sv : Value) (w : World) : Prop := ∃ low : Nat, a ≤ low /\ low ≤ b /\ lv = .int .i64 low /\ sv = .int .i64 (low - a + 1 : Nat) /\ Hid (∀ x, a < low -> K[low - 1]? = some x -> bD x.toList t.toList < 0) /\ Hid (Ext w0 w)
def gF (K : List ByteArray) (t : ByteArray) (a b p : Nat) : Prop := a ≤ p /\ p ≤ b /\ (∀ x, a < p -> K[p - 1]? = some x -> bD x.toList t.toList < 0) /\ ∀ x, p < b -> K[p]? = some x -> 0 ≤ bD x.toList t.toList
theorem eM {K : List ByteArray} {low mm j : Nat} (hj : j < mm - low) : ((K.drop low).take (mm - low))[j]? = K[low + j]? := by
 rw [List.getElem?_take_of_lt hj, List.getElem?_drop]
theorem vI {K : List ByteArray} {t : ByteArray} {a b low mm n : Nat} (h1 : a ≤ low) (h2 : low ≤ mm) (h3 : mm ≤ b) (hbe : ∀ x, a < low -> K[low - 1]? = some x -> bD x.toList t.toList < 0) (hmm : mm = b \/ (low < mm /\ ∃ x, K[mm - 1]? = some x /\ 0 ≤ bD x.toList t.toList))
 (hn : n ≤ mm - low) (hs1 : ∀ x, 0 < n -> ((K.drop low).take (mm - low))[n - 1]? = some x -> bD x.toList t.toList < 0) (hs2 : ∀ x, ((K.drop low).take (mm - low))[n]? = some x -> 0 ≤ bD x.toList t.toList) : gF K t a b (low + n) := by
 refine ⟨by omega, by omega, fun x hx he => ?_, fun x hx he => ?_⟩
 ·by_cases h0 : 0 < n
  ·refine hs1 x h0 ?_
   rw [eM (by omega), show low + (n - 1) = low + n - 1 by omega]; exact he
  ·have : n = 0 := by omega
   subst this
   exact hbe x (by omega) (by rw [Nat.add_zero] at he; exact he)
 ·by_cases hlt : n < mm - low
  ·exact hs2 x (by rw [eM hlt]; exact he)
  ·rcases hmm with h | ⟨h, y, hy, hy2⟩
   ·omega
   ·have h4 := hs1 y (by omega) (by rw [eM (by omega), show low + (n - 1) = mm - 1 by omega]; exact hy)
    omega
set_option maxHeartbeats 4000000 in
theorem aGr {w : World} {tb : Nat} {W : aC} {d i a b : Nat} (t : ByteArray) (h : TrieAt w tb W d) (hi : i < d) (hab : a < b) (hb : b ≤ aO W d i W.length) :
 Calls Tryz.prog 256 #[.pointer (some ⟨tb, 0, none⟩), .int .i64 i, .agg #[.int .i64 a, .int .i64 b], .string t] w (RetN w fun w' v => ∃ p : Nat, v = .int .i64 p /\ gF (bJ W d i W.length) t a b p) := by
 have hwl := cW W d i W.length
 have hbig : b ≤ 1048576 := by have := h.few; unfold aO at hb; omega
 obtain ⟨⟨la, lc, t0, -, -, hlev⟩, -, -⟩ := h
 obtain ⟨bl, ol, ela, hL⟩ := hlev i hi
 subst ela
 obtain ⟨ka, kc, fa, fc, l0, -, hkc, hk1, -⟩ := hL.ex
 obtain ⟨nk, enk⟩ : ∃ n, aO W d i W.length = n := ⟨_, rfl⟩
 have hkl : (bJ W d i W.length).length = nk := by rw [eJ, enk]
 rw [enk] at l0 hkc hb
 obtain ⟨K, eK⟩ : ∃ K, bJ W d i W.length = K := ⟨_, rfl⟩
 rw [eK] at hk1 hkl ⊢
 have HK := qH (And.intro hk1 hkl)
 clear hk1 hkl eK enk hlev hL hwl
 obtain ⟨kb, ko, eka⟩ : ∃ kb ko, ka = some ⟨kb, ko, none⟩ := by
  obtain ⟨x, hx⟩ : ∃ x, K[0]? = some x := ⟨_, qG (by have := HK.out.2; omega)⟩
  obtain ⟨kb, ko, e, -⟩ := HK.out.1 0 (.string x) (by simp [strs, hx])
  exact ⟨kb, ko, e⟩
 subst eka
 go_enter Tryz.func256, Tryz.ntmps256
 obtain ⟨w1, e1⟩ : ∃ w1, w.alloc (.cells #[.int .i64 a, .int .i64 b] 321) = w1 := ⟨_, rfl⟩
 obtain ⟨g0, eg0⟩ : ∃ g, w.heap.size = g := ⟨_, rfl⟩
 have hB : Blk w1 g0 [.int .i64 a, .int .i64 b] 321 := by rw [<- e1, <- eg0]; exact Blk.new w _ _
 have hx1 : Ext w w1 := by rw [<- e1]; exact (Kp.refl w).alloc _
 have s0 : w1.cell? ⟨g0, 0, none⟩ = some (.int .i64 a) := by rw [hB.cell']; rfl
 have s1 : w1.cell? ⟨g0, 1, none⟩ = some (.int .i64 b) := by rw [hB.cell']; rfl
 have t0' := hx1.cell t0 id
 have l0' := hx1.cell l0 id
 have H1 := qH (And.intro hx1 hB)
 clear hx1 hB t0 l0
 go_wp2
 go_step3
 go_wp2
 go_step3
 go_wp2
 clear e1 eg0 t0' l0'
 go_loopw [10, 11] (fun lv sv wr => aKk K t a b w1 lv sv wr) (fun lv _ _ => b - (intOf lv).toNat)
 case atStart => exact ⟨a, Nat.le_refl _, Nat.le_of_lt hab, rfl, by rw [Nat.sub_self]; rfl, qH fun x hx => by omega, qH (Kp.refl _)⟩
 case round =>
  clear s0 s1
  obtain ⟨low, hlo, hhi, rfl, rfl, hbe, hex⟩ := hrel
  have hb2 := H1.out.2.ext hex.out
  have s1 : wr.cell? ⟨g0, 1, none⟩ = some (.int .i64 b) := by rw [hb2.cell']; rfl
  obtain ⟨st, est⟩ : ∃ st, low - a + 1 = st := ⟨_, rfl⟩
  rw [est]
  have hst1 : 1 ≤ st := by omega
  clear hb2
  by_cases hlt : low + st ≤ b
  ·obtain ⟨x, hx⟩ : ∃ x, K[low + st - 1]? = some x := ⟨_, qG (by have := HK.out.2; omega)⟩
   obtain ⟨kb', ko', eka, k0⟩ := HK.out.1 (low + st - 1) (.string x) (by simp [strs, hx])
   cases eka
   replace k0 := hex.out.cell (H1.out.1.cell k0 id) id
   by_cases hc : Op.bytesLess x.toList t.toList = true
   ·have HX := qH (And.intro hx (eO.2 hc))
    clear hx
    go_wp2
    go_roundw
    case rel => exact ⟨low + st, by omega, hlt, by first | rfl | (congr 1; done) | (congr 1; omega), by first | rfl | (congr 1; done) | (congr 1; omega), qH fun y _ hy => by rw [HX.out.1] at hy; cases hy; exact HX.out.2, hex⟩
    case measure => simp [intOf]; omega
   ·rw [Bool.not_eq_true] at hc
    have HX := qH (And.intro hx (show 0 ≤ bD x.toList t.toList from Int.not_lt.1 fun h => by rw [eO, hc] at h; cases h))
    clear hx
    have HS := qH (fun (cp : Nat) => mE ((K.drop low).take ((low + st) - low)) t (some ⟨kb, ko + low, none⟩) ((low + st) - low) cp wr (by have := HK.out.2; simp; omega) (fun j u hu => by
     obtain ⟨v, hv, ev⟩ := List.mem_map.1 (List.mem_of_getElem? hu)
     have hu2 := hu
     unfold strs at hu2
     rw [List.getElem?_map] at hu2
     have hj' : j < (low + st) - low := by
      rcases Nat.lt_or_ge j ((low + st) - low) with h | h
      ·exact h
      ·rw [List.getElem?_eq_none (by simp; omega)] at hu2; cases hu2
     rw [eM hj'] at hu2
     obtain ⟨kb', ko', ek, hc2⟩ := HK.out.1 (low + j) u (by unfold strs; rw [List.getElem?_map]; exact hu2)
     cases ek
     exact ⟨kb, ko + low, rfl, by rw [Nat.add_assoc]; exact hex.out.cell (H1.out.1.cell hc2 id) id⟩) (by omega))
    have HB := qH hbe.out
    clear hbe
    go_wp2_with (go_at_call 259; refine Halted.out ?_)
    clear hc k0
    rw [show (low + st - low) = st by omega] at HS
    try rw [show (min ((low : Int) + (st : Int)) (b : Int)).toNat - low = st by omega]
    refine Halted.mk ((HS.out _).mono ?_)
    rintro e w2 ⟨v, rfl, hk2, n, bb, rfl, hn, hs1, hs2⟩
    have HFin := qH (show gF K t a b (low + n) from vI (mm := low + st) hlo (by omega) hlt HB.out (.inr ⟨by omega, x, HX.out.1, HX.out.2⟩) (by omega) (by rw [show (low + st - low) = st by omega]; exact hs1) (by rw [show (low + st - low) = st by omega]; exact hs2))
    have HX2 := qH (H1.out.1.trans (hex.out.trans hk2))
    clear hs1 hs2 hk2
    go_wp2
    go_ret
    exact RetN.mk HX2.out ⟨low + n, rfl, HFin.out⟩
  ·have HB := qH hbe.out
   have HS := qH (fun (cp : Nat) => mE ((K.drop low).take (b - low)) t (some ⟨kb, ko + low, none⟩) (b - low) cp wr (by have := HK.out.2; simp; omega) (fun j u hu => by
    obtain ⟨v, hv, ev⟩ := List.mem_map.1 (List.mem_of_getElem? hu)
    have hu2 := hu
    unfold strs at hu2
    rw [List.getElem?_map] at hu2
    have hj' : j < b - low := by
     rcases Nat.lt_or_ge j (b - low) with h | h
     ·exact h
     ·rw [List.getElem?_eq_none (by simp; omega)] at hu2; cases hu2
    rw [eM hj'] at hu2
    obtain ⟨kb', ko', ek, hc2⟩ := HK.out.1 (low + j) u (by unfold strs; rw [List.getElem?_map]; exact hu2)
    cases ek
    exact ⟨kb, ko + low, rfl, by rw [Nat.add_assoc]; exact hex.out.cell (H1.out.1.cell hc2 id) id⟩) (by omega))
   clear hbe
   by_cases hlk : low < kc
   ·go_wp2_with (go_at_call 259; refine Halted.out ?_)
    try rw [show (min ((low : Int) + (st : Int)) (b : Int)).toNat - low = b - low by omega]
    refine Halted.mk ((HS.out _).mono ?_)
    rintro e w2 ⟨v, rfl, hk2, n, bb, rfl, hn, hs1, hs2⟩
    have HFin := qH (show gF K t a b (low + n) from vI (mm := b) hlo hhi (Nat.le_refl _) HB.out (.inl rfl) hn hs1 hs2)
    have HX2 := qH (H1.out.1.trans (hex.out.trans hk2))
    clear hs1 hs2 hk2
    go_wp2
    go_ret
    exact RetN.mk HX2.out ⟨low + n, rfl, HFin.out⟩
   ·have elb : low = b := by omega
    subst elb
    rw [Nat.sub_self] at HS
    have HS2 := qH (mE [] t (some ⟨kb, ko, none⟩) 0 0 wr rfl (CellsAt.nil _ _) (by omega))
    go_wp2_with (go_at_call 259; refine Halted.out ?_)
    try rw [show (min ((low : Int) + (st : Int)) (low : Int)).toNat - low = 0 by omega]
    refine Halted.mk ((HS2.out).mono ?_)
    rintro e w2 ⟨v, rfl, hk2, n, bb, rfl, hn, hs1, hs2⟩
    have hn0 : n = 0 := by omega
    subst hn0
    have HFin := qH (show gF K t a low (low + 0) from vI (mm := low) hlo (Nat.le_refl _) (Nat.le_refl _) HB.out (.inl rfl) (Nat.zero_le _) (fun x h => by omega) (fun x h => by rw [Nat.sub_self, List.take_zero] at h; simp at h))
    have HX2 := qH (H1.out.1.trans (hex.out.trans hk2))
    clear hs1 hs2 hk2
    go_wp2
    go_ret
    exact RetN.mk HX2.out ⟨low + 0, rfl, HFin.out⟩
set_option maxHeartbeats 4000000 in
theorem aHu {w : World} {cb tb : Nat} {st : List (Nat × Nat)} {g c m a b d : Nat} {W : aC} {M : Nat -> Prop} (t : ByteArray) (h : CurIn w cb tb st g c m a b M) (ht : TrieAt w tb W d) (hm : m < d) (hab : a < b) (hb : b ≤ aO W d m W.length) :
 Calls Tryz.prog 247 #[.pointer (some ⟨cb, 0, none⟩), .string t] w (RetF (fun k => k = g) w fun w' v => ∃ p : Nat, gF (bJ W d m W.length) t a b p /\ v = .bool (decide (p ≠ b)) /\ CurIn w' cb tb (st.set m (p, b)) g c m p b M) := by
 have HL := qH (kI h.at_)
 have HE := qH (fun (W : World) (hW : Ext w W) => gB (h.ext hW))
 have HSk := qH (fun (W' : World) (hW : Ext w W') => aGr t (ht.ext hW) hm hab hb)
 have HC := qH h
 have hw := lR h.small
 have hd : decide (a = b) = false := decide_eq_false (by omega)
 rw [hd] at HE
 clear h hd ht
 go_enter Tryz.func247, Tryz.ntmps247
 go_wp2_with fail
 refine HL.out.mono ?_
 rintro e w1 ⟨v, rfl, hk, rfl⟩
 have hq := lA g (m * 2)
 have H1 := qH hk
 clear hk
 go_wp2_with (go_at_call 240; refine Halted.out ?_)
 refine Halted.mk ((HE.out w1 H1.out).mono ?_)
 rintro e w2 ⟨v, rfl, hk, rfl⟩
 have H2 := qH (H1.out.trans hk)
 clear hk H1
 have HJ := qH (show ∀ w', Ext w2 w' -> (fun w' : World => w'.cell? ⟨cb, 0, none⟩ = some (.pointer (some ⟨tb, 0, none⟩)) /\ w'.cell? ⟨cb, 1, none⟩ = some (.slice (some ⟨g, 0, none⟩) (m + 1) c) /\ w'.cell? ⟨g, m * 2, none⟩ = some (.int .i64 a) /\ w'.cell? ⟨g, m * 2 + 1, none⟩ = some (.int .i64 b) /\ w'.frozen? ⟨g, m * 2, none⟩ = false) w' from fun w' hw' => by
  have hc := HC.out.ext (H2.out.trans hw')
  obtain ⟨z0, z1, f0⟩ := hc.cells
  exact ⟨by rw [hc.at_.box.cell']; rfl, by rw [hc.at_.box.cell']; rfl, z0, z1, f0⟩)
 go_wp2
 refine bB (fun w' : World => w'.cell? ⟨cb, 0, none⟩ = some (.pointer (some ⟨tb, 0, none⟩)) /\ w'.cell? ⟨cb, 1, none⟩ = some (.slice (some ⟨g, 0, none⟩) (m + 1) c) /\ w'.cell? ⟨g, m * 2, none⟩ = some (.int .i64 a) /\ w'.cell? ⟨g, m * 2 + 1, none⟩ = some (.int .i64 b) /\ w'.frozen? ⟨g, m * 2, none⟩ = false) [18] (by kernel_rfl) (HJ.out _ (Kp.refl w2).drew) (fun hHeld => ?_)
 refine dF 0 ?_; try simp only [Act.put,sI,sZ,sS]
 refine dF 1 ?_; try simp only [Act.put,sI,sZ,sS]
 refine dF 2 ?_; try simp only [Act.put,sI,sZ,sS]
 refine dF 3 ?_; try simp only [Act.put,sI,sZ,sS]
 refine dI 4 ?_; try simp only [Act.put,sI,sZ,sS]
 refine dF 5 ?_; try simp only [Act.put,sI,sZ,sS]
 refine dF 6 ?_; try simp only [Act.put,sI,sZ,sS]
 refine dF 7 ?_; try simp only [Act.put,sI,sZ,sS]
 refine dI 8 ?_; try simp only [Act.put,sI,sZ,sS]
 refine dI 9 ?_; try simp only [Act.put,sI,sZ,sS]
 refine dF 10 ?_; try simp only [Act.put,sI,sZ,sS]
 refine dF 11 ?_; try simp only [Act.put,sI,sZ,sS]
 refine dF 12 ?_; try simp only [Act.put,sI,sZ,sS]
 refine dI 13 ?_; try simp only [Act.put,sI,sZ,sS]
 refine dF 14 ?_; try simp only [Act.put,sI,sZ,sS]
 refine aF (i := 15) ?_
 refine aG (i := 15) rfl (fun K hK => ?_)
 go_simp
 (refine (HSk.out _ (H2.out.trans ((Kp.refl w2).drew))).mono ?_; rintro e w3 ⟨v, rfl, hk3, p, rfl, hp⟩; have X3 := qH (show Ext w2 w3 from ((Kp.refl w2).drew).trans hk3); have HP := qH hp; clear hk3 hp)
 go_wp2_with fail
 refine hK.out _ _ ?_ (fun hHeld => ?_)
 ·(try dsimp only); (exact HJ.out _ X3.out)
 clear hK K; (try simp only [Act.put,sI,sZ,sS])
 refine dF 16 ?_; try simp only [Act.put,sI,sZ,sS]
 refine dF 17 ?_; try simp only [Act.put,sI,sZ,sS]
 refine aF (i := 18) ?_
 refine aJ (i := 18) rfl (by kernel_rfl) (fun K hK => ?_)
 go_simp
 refine hK.out _ _ ?_
 clear hK K; (try simp only [Act.put,sI,sZ,sS])
 refine aN (by kernel_rfl) ?_ _
 clear hHeld hw
 obtain ⟨w4, e4⟩ : ∃ x, w3.setCell ⟨g, m * 2, none⟩ (.int .i64 p) = x := ⟨_, rfl⟩
 have hc4 : CurIn w4 cb tb (st.set m (p, b)) g c m p b M := by rw [<- e4]; exact (HC.out.ext (H2.out.trans X3.out)).put p
 have H4 := qH (And.intro hc4 (show Kp (fun k => k = g) w w4 from by rw [<- e4]; exact Kp.setCell (F := fun k => k = g) (p := ⟨g, m * 2, none⟩) (Ext.kp (H2.out.trans X3.out)) (fun _ => rfl) _))
 have HE4 := qH (gB hc4)
 rw [e4]
 clear hc4 e4
 go_wp2_with fail
 refine HE4.out.mono ?_
 rintro e w5 ⟨v, rfl, hk, rfl⟩
 have H5 := qH (And.intro (H4.out.1.ext hk) (H4.out.2.ext hk))
 clear hk
 by_cases he : p = b
 ·rw [decide_eq_true he]
  have HE5 := qH (show decide (p ≠ b) = false from decide_eq_false fun h => h he)
  clear he
  go_wp2
  go_ret
  exact RetF.mk H5.out.2 ⟨p, HP.out, by rw [HE5.out]; rfl, H5.out.1⟩
 ·rw [decide_eq_false he]
  have HE5 := qH (show decide (p ≠ b) = true from decide_eq_true he)
  clear he
  go_wp2
  go_ret
  exact RetF.mk H5.out.2 ⟨p, HP.out, by rw [HE5.out]; rfl, H5.out.1⟩
set_option maxHeartbeats 1000000 in
theorem aJ9 {w : World} {cb tb : Nat} {st : List (Nat × Nat)} {ao : Option Addr} {n c : Nat} {M : Nat -> Prop} (h : CurAt w cb tb st (.slice ao n c) M) :
 Calls Tryz.prog 241 #[.pointer (some ⟨cb, 0, none⟩)] w (RetN w fun w' v => v = .int .i64 n) := by
 have hq := mZ cb
 have c1 := h.box.c1
 clear h
 go_enter Tryz.func241, Tryz.ntmps241
 go_wp2
 go_ret
 exact RetN.mk (Kp.refl _) rfl
set_option maxHeartbeats 4000000 in
theorem aH1 {w : World} {tb : Nat} {W : aC} {d i k f t : Nat} (h : TrieAt w tb W d) (hi : i < d) (hf : (bT W d i W.length ++ [(aO W d (i + 1) W.length : Int)])[k]? = some ((f : Nat) : Int)) (ht : (bT W d i W.length ++ [(aO W d (i + 1) W.length : Int)])[k + 1]? = some ((t : Nat) : Int)) :
 Calls Tryz.prog 245 #[.pointer (some ⟨tb, 0, none⟩), .int .i64 i, .int .i64 k] w (RetN w fun w' v => v = .agg #[.int .i64 f, .int .i64 t]) := by
 have hfew := h.few
 obtain ⟨⟨la, lc, t0, -, -, hlev⟩, -, -⟩ := h
 obtain ⟨bl, ol, ela, hL⟩ := hlev i hi
 subst ela
 obtain ⟨ka, kc, fa, fc, -, l1, -, -, hf1⟩ := hL.ex
 have hkl := (List.getElem?_eq_some_iff.1 ht).1
 rw [List.length_append, gO, List.length_singleton] at hkl
 have hwl := cW W d i W.length
 obtain ⟨fb, fo, efa, k0⟩ := hf1 k (.int .i64 f) (by unfold ints; rw [List.getElem?_map, hf]; rfl)
 obtain ⟨fb', fo', efa', k1⟩ := hf1 (k + 1) (.int .i64 t) (by unfold ints; rw [List.getElem?_map, ht]; rfl)
 subst efa
 cases efa'
 obtain ⟨nk, enk⟩ : ∃ n, aO W d i W.length = n := ⟨_, rfl⟩
 have hnk : nk ≤ 1048576 := by unfold aO at enk; omega
 rw [enk] at l1 hkl
 have hw : IntKind.i64.wrap ((k : Int) + 1) = (k : Int) + 1 := IntWalk.i64_in _ (by omega)
 have hk1 : k < nk + 1 := by omega
 have hk5 : (k : Int) < (nk : Int) + 1 := by omega
 have hk6 : k < nk := by omega
 have hk7 : k ≤ nk := by omega
 have hk8 : (k : Int) < ((nk + 1 : Nat) : Int) := by omega
 have hk2 : (0 : Int) ≤ (k : Int) + 1 := by omega
 have hk3 : (k : Int) + 1 < ((nk + 1 : Nat) : Int) := by omega
 have hk4 : ((k : Int) + 1).toNat = k + 1 := by omega
 clear hf ht hlev hL hf1 hwl enk hfew
 go_enter Tryz.func245, Tryz.ntmps245
 obtain ⟨w1, e1⟩ : ∃ w1, w.alloc (.cells #[.int .i64 0, .int .i64 0] 321) = w1 := ⟨_, rfl⟩
 obtain ⟨g0, eg0⟩ : ∃ g, w.heap.size = g := ⟨_, rfl⟩
 have hB : Blk w1 g0 [.int .i64 0, .int .i64 0] 321 := by rw [<- e1, <- eg0]; exact Blk.new w _ _
 have hx1 : Ext w w1 := by rw [<- e1]; exact (Kp.refl w).alloc _
 have s0 := hB.c0
 have s1 := hB.c1
 have f0 := hB.free 0
 have f1 := hB.free 1
 replace t0 := hx1.cell t0 id
 replace l1 := hx1.cell l1 id
 replace k0 := hx1.cell k0 id
 replace k1 := hx1.cell k1 id
 have H1 := qH (And.intro hx1 (And.intro hB eg0))
 clear hx1 hB
 go_wp2
 go_still_tail 24, (by kernel_rfl)
 go_wp2
 generalize hw9 : World.setCell (World.setCell _ _ _) _ _ = w9
 have hD : Blk w9 g0 [.int .i64 f, .int .i64 t] 321 := by rw [<- hw9]; exact (H1.out.2.1.set 0 _).set 1 _
 have hk9 : Ext w w9 := by
  rw [<- hw9]
  have h := H1.out.2.2
  exact Kp.setCell (p := ⟨g0, 1, none⟩) (Kp.setCell (p := ⟨g0, 0, none⟩) H1.out.1 (fun h2 => by have h3 : g0 < w.heap.size := h2; omega) _) (fun h2 => by have h3 : g0 < w.heap.size := h2; omega) _
 have r0 := (hD.ext ((Kp.refl w9).drew)).c0
 have r1 := (hD.ext ((Kp.refl w9).drew)).c1
 clear hw9
 refine bodyPost_ret (v := .agg #[.int .i64 f, .int .i64 t]) (by simp [results, Tryz.results245, go_sem, r0, r1]) rfl ?_
 exact RetN.mk hk9.drew rfl
theorem iE {P : Program} {t e : TypeId} {k bytes : Nat} {z : Value} (E : cM P t e k bytes z) {l : List Oper} {a : Act} {w : World} {Q : Exit -> Act -> World -> Prop} {o : Oper} {K : Act -> World -> Prop} {El : Prop} (hgd : o.guard = none) (s x : Operand)
 (ho : o.op = .call { callee := .builtin .append, args := #[s, x], argTypes := #[t, t] })
 {v : Value} {n : Nat} {xs : List Value} {M : Nat -> Prop} (hs : a.eval s = v) (hr : Row w e k v n xs M)
 {ao : Option Addr} {m c : Nat} {news : List Value} (hx : a.eval x = .slice ao m c) (hsrc : CellsAt w ao news) (hl : news.length = m * k) (h1 : ∀ u ∈ news, u.oneCell' = true)
 (hb : (n + m) * bytes ≤ 140737488355328) (h63 : n + m ≤ maxLen)
 (h : ∀ v' w', Row w' e k v' (n + m) (xs ++ news) (fun g => v.ownBlock = some g \/ w.heap.size ≤ g) -> Kp (fun g => v.ownBlock = some g) w w' -> K (a.put o.dst v') w') :
 if Region.wanted o (yielded l.toArray a.tmps) = true then Oper.wp P o a w K Q else El := by
 obtain ⟨v', w', hrun, h2, h3, h4⟩ := pI (P := P) E o.type hr hl hsrc h1 hb h63 (c := c)
 exact aCp hgd s x ho hs hx hrun (h v' w' h2 h3)
theorem nU {w : World} {e : TypeId} {k : Nat} {v : Value} {n : Nat} {xs : List Value} {M : Nat -> Prop} (h : Row w e k v n xs M) (hn : 0 < n) : ∃ g c, v = .slice (some ⟨g, 0, none⟩) n c /\ M g := by
 obtain ⟨h1, ⟨e1, h0⟩ | ⟨g', cap, rest, e1, hM, _⟩⟩ := h
 ·omega
 ·exact ⟨g', cap, e1, hM⟩
theorem xV : cM Tryz.prog 305 321 2 16 (.agg #[.int .i64 0, .int .i64 0]) := ⟨by kernel_rfl, by kernel_rfl, rfl, by decide⟩
set_option maxHeartbeats 4000000 in
theorem aI4 {w : World} {cb tb : Nat} {st : List (Nat × Nat)} {g c m a b d f t : Nat} {W : aC} {M : Nat -> Prop} (h : CurIn w cb tb st g c m a b M) (ht : TrieAt w tb W d) (hab : a ≠ b) (hm : m + 1 < d) (hW : 0 < W.length)
 (hf : (bT W d m W.length ++ [(aO W d (m + 1) W.length : Int)])[a]? = some ((f : Nat) : Int)) (hto : (bT W d m W.length ++ [(aO W d (m + 1) W.length : Int)])[a + 1]? = some ((t : Nat) : Int)) :
 Calls Tryz.prog 231 #[.pointer (some ⟨cb, 0, none⟩)] w (RetF (fun k => k = cb \/ k = g) w fun w' v => v = .bool true /\ ∃ g' c', CurAt w' cb tb (st ++ [(f, t)]) (.slice (some ⟨g', 0, none⟩) (m + 2) c') (fun k => k = g \/ w.heap.size ≤ k)) := by
 have HE := qH (fun (W : World) (hW : Ext w W) => gB (h.ext hW))
 have HA := qH (fun (W : World) (hW : Ext w W) => aJ9 (h.at_.ext hW))
 have HD := qH (fun (W' : World) (hW : Ext w W') => xY (ht.ext hW))
 have HLn := qH (fun (W' : World) (hW : Ext w W') => aF7 (ht.ext hW))
 have hd : decide (a = b) = false := decide_eq_false hab
 rw [hd] at HE
 have hq := mZ cb
 have HJ := qH (show ∀ w', Ext w w' -> (fun w' : World => w'.cell? ⟨cb, 0, none⟩ = some (.pointer (some ⟨tb, 0, none⟩))) w' from fun w' hw' => by
  show w'.cell? ⟨cb, 0, none⟩ = some (.pointer (some ⟨tb, 0, none⟩))
  rw [(h.at_.box.ext hw').cell']; rfl)
 have HC := qH h
 have HL := qH (fun (W : World) (hW : Ext w W) => kI (h.at_.ext hW))
 have HBl := qH (fun (W' : World) (hW : Ext w W') => aH1 (ht.ext hW) (by omega) hf hto)
 have HT := qH ht
 have c0 := HJ.out w (Kp.refl _)
 have hwl := lR h.small
 have e1 : ((m : Int) + 1 == (d : Int)) = false := by
  have : ¬ (m : Int) + 1 = d := by omega
  simp [this]
 obtain ⟨nw, enw⟩ : ∃ n, W.length = n := ⟨_, rfl⟩
 have e2 : ((nw : Int) == 0) = false := by
  have hz : ¬ (nw : Int) = 0 := by omega
  have hz2 : ¬ nw = 0 := by omega
  simp [hz2]
 rw [enw] at HLn
 clear h hd
 go_enter Tryz.func231, Tryz.ntmps231
 go_wp2
 refine bB (fun w' : World => w'.cell? ⟨cb, 0, none⟩ = some (.pointer (some ⟨tb, 0, none⟩))) [] (by kernel_rfl) (HJ.out _ (Kp.refl w).drew) (fun hHeld => ?_)
 refine dF 0 ?_; try simp only [Act.put,sI,sZ,sS]
 refine dF 1 ?_; try simp only [Act.put,sI,sZ,sS]
 refine dF 2 ?_; try simp only [Act.put,sI,sZ,sS]
 (first | (refine dF 3 ?_) | (refine dO 3 ?_)); (try simp only [Act.put,sI,sZ,sS])
 refine aF (i := 4) ?_
 refine aG (i := 4) rfl (fun K hK => ?_)
 go_simp
 (refine (HE.out _ (Kp.refl w).drew).mono ?_; rintro e w1 ⟨v, rfl, hk1, rfl⟩; have X1 := qH (show Ext w w1 from ((Kp.refl w).drew).trans hk1); clear hk1)
 go_wp2_with fail
 refine hK.out _ _ ?_ (fun hHeld => ?_)
 ·(try dsimp only); (exact HJ.out _ X1.out)
 clear hK K; (try simp only [Act.put,sI,sZ,sS])
 refine dF 5 ?_; try simp only [Act.put,sI,sZ,sS]
 refine dF 6 ?_; try simp only [Act.put,sI,sZ,sS]
 (first | (refine dF 7 ?_) | (refine dO 7 ?_)); (try simp only [Act.put,sI,sZ,sS])
 (first | (refine dF 9 ?_) | (refine dO 9 ?_)); (try simp only [Act.put,sI,sZ,sS])
 (first | (refine dF 10 ?_) | (refine dO 10 ?_)); (try simp only [Act.put,sI,sZ,sS])
 (first | (refine dF 11 ?_) | (refine dO 11 ?_)); (try simp only [Act.put,sI,sZ,sS])
 (first | (refine dI 12 ?_) | (refine dO 12 ?_)); (try simp only [Act.put,sI,sZ,sS])
 refine aF (i := 8) ?_
 refine aG (i := 8) rfl (fun K hK => ?_)
 go_simp
 (refine (HA.out _ X1.out).mono ?_; rintro e w2 ⟨v, rfl, hk2, rfl⟩; have X2 := qH (show Ext w w2 from X1.out.trans hk2); clear hk2)
 go_wp2_with fail
 refine hK.out _ _ ?_ (fun hHeld => ?_)
 ·(try dsimp only); (exact HJ.out _ X2.out)
 clear hK K; (try simp only [Act.put,sI,sZ,sS])
 refine aF (i := 13) ?_
 refine aG (i := 13) rfl (fun K hK => ?_)
 go_simp
 (refine (HD.out _ X2.out).mono ?_; rintro e w3 ⟨v, rfl, hk3, rfl⟩; have X3 := qH (show Ext w w3 from X2.out.trans hk3); clear hk3)
 go_wp2_with fail
 refine hK.out _ _ ?_ (fun hHeld => ?_)
 ·(try dsimp only); (exact HJ.out _ X3.out)
 clear hK K; (try simp only [Act.put,sI,sZ,sS])
 (first | (refine dF 14 ?_) | (refine dO 14 ?_)); (try simp only [Act.put,sI,sZ,sS])
 refine dF 15 ?_; try simp only [Act.put,sI,sZ,sS]
 refine dF 16 ?_; try simp only [Act.put,sI,sZ,sS]
 (first | (refine dF 17 ?_) | (refine dO 17 ?_)); (try simp only [Act.put,sI,sZ,sS])
 (first | (refine dF 18 ?_) | (refine dO 18 ?_)); (try simp only [Act.put,sI,sZ,sS])
 (first | (refine dF 19 ?_) | (refine dO 19 ?_)); (try simp only [Act.put,sI,sZ,sS])
 (first | (refine dI 20 ?_) | (refine dO 20 ?_)); (try simp only [Act.put,sI,sZ,sS])
 refine aF (i := 21) ?_
 refine aG (i := 21) rfl (fun K hK => ?_)
 go_simp
 (refine (HLn.out _ X3.out).mono ?_; rintro e w4 ⟨v, rfl, hk4, rfl⟩; have X4 := qH (show Ext w w4 from X3.out.trans hk4); clear hk4)
 go_wp2_with fail
 refine hK.out _ _ ?_ (fun hHeld => ?_)
 ·(try dsimp only); (exact HJ.out _ X4.out)
 clear hK K; (try simp only [Act.put,sI,sZ,sS])
 (first | (refine dF 22 ?_) | (refine dO 22 ?_)); (try simp only [Act.put,sI,sZ,sS])
 refine dF 23 ?_; try simp only [Act.put,sI,sZ,sS]
 refine aN (by kernel_rfl) ?_ _
 clear hHeld c0 e1 e2
 obtain ⟨⟨la, lc, t0, -, -, hlev⟩, -, -⟩ := HT.out.ext X4.out
 obtain ⟨bl, ol, ela, hL⟩ := hlev 0 (by omega)
 subst ela
 obtain ⟨ka, kc, fa, fc, l0, -, -, -, -⟩ := hL.ex
 rw [Nat.zero_mul, Nat.add_zero] at l0
 generalize aO W d 0 W.length = nk at l0
 have c0 := HJ.out w4 X4.out
 have hd0 : 0 < d := by omega
 clear hL hlev hf hto
 obtain ⟨w5, e5⟩ : ∃ w5, w4.alloc (.cells #[.int .i64 0, .int .i64 0] 321) = w5 := ⟨_, rfl⟩
 obtain ⟨g5, eg5⟩ : ∃ g, w4.heap.size = g := ⟨_, rfl⟩
 have hB5 : Blk w5 g5 [.int .i64 0, .int .i64 0] 321 := by rw [<- e5, <- eg5]; exact Blk.new w4 _ _
 have hx5 : Ext w4 w5 := by rw [<- e5]; exact (Kp.refl w4).alloc _
 have s0 := hB5.c0
 have s1 := hB5.c1
 have f0 := hB5.free 0
 have f1 := hB5.free 1
 obtain ⟨w6, e6⟩ : ∃ x, (w5.setCell ⟨g5, 0, none⟩ (.int .i64 0)).setCell ⟨g5, 1, none⟩ (.int .i64 nk) = x := ⟨_, rfl⟩
 have hB6 : Blk w6 g5 [.int .i64 0, .int .i64 nk] 321 := by rw [<- e6]; exact (hB5.set 0 _).set 1 _
 have hx6 : Ext w w6 := by
  rw [<- e6]
  have h1 := X4.out.size
  exact Kp.setCell (p := ⟨g5, 1, none⟩) (Kp.setCell (p := ⟨g5, 0, none⟩) (X4.out.trans hx5) (fun h2 => by have h3 : g5 < w.heap.size := h2; omega) _) (fun h2 => by have h3 : g5 < w.heap.size := h2; omega) _
 have H6 := qH (And.intro hx6 (And.intro hB6 (show w.heap.size ≤ g5 by have h1 := X4.out.size; omega)))
 clear hB5 hx5 hB6 hx6
 go_wp2_with fail
 refine (HL.out w6 H6.out.1).mono ?_
 rintro e w7 ⟨v, rfl, hk7, rfl⟩
 have H7 := qH (And.intro (H6.out.1.trans hk7) (H6.out.2.1.ext hk7))
 have hq2 := wV g (m * 2)
 have HJ7 := qH (show ∀ w', Ext w7 w' -> (fun w' : World => w'.cell? ⟨cb, 0, none⟩ = some (.pointer (some ⟨tb, 0, none⟩)) /\ w'.cell? ⟨cb, 1, none⟩ = some (.slice (some ⟨g, 0, none⟩) (m + 1) c) /\ w'.cell? ⟨g, m * 2, none⟩ = some (.int .i64 a)) w' from fun w' hw' => by
  have hc := HC.out.ext (H7.out.1.trans hw')
  obtain ⟨z0, z1, -⟩ := hc.cells
  exact ⟨by rw [hc.at_.box.cell']; rfl, by rw [hc.at_.box.cell']; rfl, z0⟩)
 clear hk7 e5 e6 eg5 s0 s1 f0 f1 c0 t0 l0 hd0
 go_wp2
 refine bB (fun w' : World => w'.cell? ⟨cb, 0, none⟩ = some (.pointer (some ⟨tb, 0, none⟩)) /\ w'.cell? ⟨cb, 1, none⟩ = some (.slice (some ⟨g, 0, none⟩) (m + 1) c) /\ w'.cell? ⟨g, m * 2, none⟩ = some (.int .i64 a)) [15] (by kernel_rfl) (HJ7.out _ (Kp.refl w7).drew) (fun hHeld => ?_)
 refine dF 0 ?_; try simp only [Act.put,sI,sZ,sS]
 refine dF 1 ?_; try simp only [Act.put,sI,sZ,sS]
 refine dF 2 ?_; try simp only [Act.put,sI,sZ,sS]
 refine dI 3 ?_; try simp only [Act.put,sI,sZ,sS]
 refine dF 4 ?_; try simp only [Act.put,sI,sZ,sS]
 refine dF 5 ?_; try simp only [Act.put,sI,sZ,sS]
 refine dF 6 ?_; try simp only [Act.put,sI,sZ,sS]
 refine dI 7 ?_; try simp only [Act.put,sI,sZ,sS]
 refine dI 8 ?_; try simp only [Act.put,sI,sZ,sS]
 refine dF 9 ?_; try simp only [Act.put,sI,sZ,sS]
 refine dF 10 ?_; try simp only [Act.put,sI,sZ,sS]
 refine dF 11 ?_; try simp only [Act.put,sI,sZ,sS]
 refine dF 12 ?_; try simp only [Act.put,sI,sZ,sS]
 refine dI 13 ?_; try simp only [Act.put,sI,sZ,sS]
 refine aF (i := 14) ?_
 refine aG (i := 14) rfl (fun K hK => ?_)
 go_simp
 (refine (HBl.out _ (H7.out.1.trans ((Kp.refl w7).drew))).mono ?_; rintro e w8 ⟨v, rfl, hk8, rfl⟩; have X8 := qH (show Ext w7 w8 from ((Kp.refl w7).drew).trans hk8); have s0 : w8.cell? ⟨g5, 0, none⟩ = some (.int .i64 0) := (by rw [(H7.out.2.ext X8.out).cell']; rfl); have s1 : w8.cell? ⟨g5, 1, none⟩ = some (.int .i64 nk) := (by rw [(H7.out.2.ext X8.out).cell']; rfl); have f0 := (H7.out.2.ext X8.out).free 0; have f1 := (H7.out.2.ext X8.out).free 1; clear hk8)
 go_wp2_with fail
 refine hK.out _ _ ?_ (fun hHeld => ?_)
 ·(try dsimp only); (exact HJ7.out _ X8.out)
 clear hK K; (try simp only [Act.put,sI,sZ,sS])
 refine aF (i := 15) ?_
 refine aJ (i := 15) rfl (by kernel_rfl) (fun K hK => ?_)
 go_simp
 refine hK.out _ _ ?_
 clear hK K; (try simp only [Act.put,sI,sZ,sS])
 refine aN (by kernel_rfl) ?_ _
 clear hHeld
 obtain ⟨w9, e9⟩ : ∃ x, (w8.setCell ⟨g5, 0, none⟩ (.int .i64 f)).setCell ⟨g5, 1, none⟩ (.int .i64 t) = x := ⟨_, rfl⟩
 rw [e9]
 have hB9 : Blk w9 g5 [.int .i64 f, .int .i64 t] 321 := by rw [<- e9]; exact ((H7.out.2.ext X8.out).set 0 _).set 1 _
 have hx9 : Ext w w9 := by
  rw [<- e9]
  have h1 := H6.out.2.2
  exact Kp.setCell (p := ⟨g5, 1, none⟩) (Kp.setCell (p := ⟨g5, 0, none⟩) (H7.out.1.trans X8.out) (fun h2 => by have h3 : g5 < w.heap.size := h2; omega) _) (fun h2 => by have h3 : g5 < w.heap.size := h2; omega) _
 have hc9 := HC.out.ext hx9
 have hl9 := hc9.len
 have hr9 := hc9.at_.row
 rw [hl9] at hr9
 have hmx := hc9.small
 have hap := hc9.at_.apart
 have HR9 := qH (And.intro hr9 (And.intro hap (And.intro hx9 (And.intro hl9 hB9))))
 have HJ9 := qH (show ∀ w', Ext w9 w' -> (fun w' : World => w'.cell? ⟨cb, 1, none⟩ = some (.slice (some ⟨g, 0, none⟩) (m + 1) c) /\ w'.cell? ⟨g5, 0, none⟩ = some (.int .i64 f) /\ w'.cell? ⟨g5, 1, none⟩ = some (.int .i64 t)) w' from fun w' hw' => by
  have hc := HC.out.ext (HR9.out.2.2.1.trans hw')
  have hb := HR9.out.2.2.2.2.ext hw'
  exact ⟨by rw [hc.at_.box.cell']; rfl, by rw [hb.cell']; rfl, by rw [hb.cell']; rfl⟩)
 have hcb := hc9.at_.box
 have HCB := qH hcb
 clear hB9 hx9 hc9 hl9 hr9 hap hcb e9 s0 s1 f0 f1
 go_wp2
 refine bB (fun w' : World => w'.cell? ⟨cb, 1, none⟩ = some (.slice (some ⟨g, 0, none⟩) (m + 1) c) /\ w'.cell? ⟨g5, 0, none⟩ = some (.int .i64 f) /\ w'.cell? ⟨g5, 1, none⟩ = some (.int .i64 t)) [7, 8, 9, 10] (by kernel_rfl) (HJ9.out _ (Kp.refl w9).drew) (fun hHeld => ?_)
 refine dF 0 ?_; try simp only [Act.put,sI,sZ,sS]
 refine dF 1 ?_; try simp only [Act.put,sI,sZ,sS]
 refine dF 2 ?_; try simp only [Act.put,sI,sZ,sS]
 refine dF 3 ?_; try simp only [Act.put,sI,sZ,sS]
 refine dI 4 ?_; try simp only [Act.put,sI,sZ,sS]
 refine dI 5 ?_; try simp only [Act.put,sI,sZ,sS]
 refine aF (i := 6) ?_
 refine aG (i := 6) rfl (fun K hK => ?_)
 go_simp
 refine hK.out _ _ ?_ (fun hHeld => ?_)
 ·(try dsimp only); (exact HJ9.out _ (by first | exact ((Kp.refl w9).alloc _).drew | exact (Kp.refl w9).drew.alloc _))
 clear hK K; (try simp only [Act.put,sI,sZ,sS])
 refine aF (i := 7) ?_
 refine aJ (i := 7) rfl (by kernel_rfl) (fun K hK => ?_)
 refine iE (m := 1) (n := m + 1) xV rfl _ _ rfl rfl ((HR9.out.1.alloc _).drew) rfl ((CellsAt.two w9 (.int .i64 f) (.int .i64 t) 321).ext ((Kp.refl _).drew)) (by rfl) (by simp [Value.oneCell']) (by have := HT.out.dep; omega) (by have := HT.out.dep; unfold maxLen; omega) ?_; intro v10 w10 hr10 hk10; obtain ⟨g10, c10, e10, hM10⟩ := nU hr10 (by omega); subst e10; have HB10 := qH (show Blk w10 cb [.pointer (some ⟨tb, 0, none⟩), .slice (some ⟨g, 0, none⟩) (m + 1) c] 307 from ((HCB.out.alloc _).ext ((Kp.refl _).drew)).kp hk10 (fun h2 => HR9.out.2.1.1 (by have h3 : some g = some cb := h2; exact (Option.some.inj h3).symm))); have HR10 := qH (And.intro hr10 hk10); have y1 : w10.cell? ⟨cb, 1, none⟩ = some (.slice (some ⟨g, 0, none⟩) (m + 1) c) := (by rw [HB10.out.cell']; rfl); have yf := HB10.out.free 1; clear hr10 hk10 hM10
 refine hK.out _ _ ?_
 clear hK K; (try simp only [Act.put,sI,sZ,sS])
 refine aF (i := 8) ?_
 refine aJ (i := 8) rfl (by kernel_rfl) (fun K hK => ?_)
 go_simp
 refine hK.out _ _ ?_
 clear hK K; (try simp only [Act.put,sI,sZ,sS])
 refine aF (i := 9) ?_
 refine aJ (i := 9) rfl (by kernel_rfl) (fun K hK => ?_)
 go_simp
 refine hK.out _ _ ?_
 clear hK K; (try simp only [Act.put,sI,sZ,sS])
 refine aF (i := 10) ?_
 refine aJ (i := 10) rfl (by kernel_rfl) (fun K hK => ?_)
 go_simp
 refine hK.out _ _ ?_
 clear hK K; (try simp only [Act.put,sI,sZ,sS])
 refine aN (by kernel_rfl) ?_ _
 clear hHeld y1 yf
 obtain ⟨w11, e11⟩ : ∃ x, w10.setCell ⟨cb, 1, none⟩ (.slice (some ⟨g10, 0, none⟩) (m + 1 + 1) c10) = x := ⟨_, rfl⟩
 rw [e11]
 have hks : Kp (fun k => k = cb) w10 w11 := by rw [<- e11]; exact kSa
 have hbx : Blk w11 cb [.pointer (some ⟨tb, 0, none⟩), .slice (some ⟨g10, 0, none⟩) (m + 1 + 1) c10] 307 := by rw [<- e11]; exact HB10.out.set 1 _
 have hpool : ∀ k, ((Value.slice (some ⟨g, 0, none⟩) (m + 1) c).ownBlock = some k \/ (w9.alloc (.cells #[.int .i64 f, .int .i64 t] 321)).drew.heap.size ≤ k) -> k = g \/ w.heap.size ≤ k := fun k hk => by
  rcases hk with hk | hk
  ·have h3 : some g = some k := hk
   exact .inl (Option.some.inj h3).symm
  ·refine .inr ?_
   have h4 := HR9.out.2.2.1.size
   have h5 : (w9.alloc (.cells #[.int .i64 f, .int .i64 t] 321)).heap.size ≤ k := hk
   rw [aI] at h5
   omega
 have hrw : Row w11 321 2 (.slice (some ⟨g10, 0, none⟩) (m + 1 + 1) c10) (st ++ [(f, t)]).length ((st ++ [(f, t)]).flatMap iQ) (fun k => k = g \/ w.heap.size ≤ k) := by
  have e1 : (st ++ [(f, t)]).length = m + 1 + 1 := by rw [List.length_append, HR9.out.2.2.2.1]; rfl
  have e2 : (st ++ [(f, t)]).flatMap iQ = st.flatMap iQ ++ [.int .i64 f, .int .i64 t] := by rw [List.flatMap_append]; rfl
  rw [e1, e2]
  refine (HR10.out.1.mono hpool).kp' hks fun g' hg _ e => ?_
  have h3 : some g10 = some g' := hg
  have h4 := Option.some.inj h3
  obtain ⟨cs, hb⟩ : ∃ cs, Blk w10 g10 cs 321 := by
   obtain ⟨_, ⟨e1, h0⟩ | ⟨g', cap, rest, e1, hM, hB, _⟩⟩ := HR10.out.1
   ·omega
   ·simp only [Value.slice.injEq, Option.some.injEq, Addr.mk.injEq, and_true] at e1
    obtain ⟨rfl, _⟩ := e1
    exact ⟨_, hB⟩
  rw [h4, e] at hb
  exact qF (aK HB10.out hb)
 have hkF : Kp (fun k => k = cb \/ k = g) w w11 := by
  have h1 : Kp (fun k => k = cb \/ k = g) w w10 := (Ext.kp ((HR9.out.2.2.1.alloc (.cells #[.int .i64 f, .int .i64 t] 321)).drew)).trans' HR10.out.2 fun k _ hk => by
   have h3 : some g = some k := hk
   exact .inr (Option.some.inj h3).symm
  exact h1.trans' hks fun k _ hk => .inl hk
 have HFin := qH (And.intro hbx (And.intro hrw hkF))
 clear e11 hks hbx hpool hrw hkF
 go_wp2
 go_ret
 exact RetF.mk HFin.out.2.2 ⟨rfl, g10, c10, HFin.out.1, HFin.out.2.1⟩
theorem aQ {w : World} {e : TypeId} {k : Nat} {v : Value} {n : Nat} {xs : List Value} {M : Nat -> Prop} (h : Row w e k v n xs M) {g : Nat} (hg : v.ownBlock = some g) : ∃ cs, Blk w g cs e := by
 obtain ⟨_, ⟨e1, _⟩ | ⟨g', cap, rest, e1, hM, hB, _⟩⟩ := h
 ·rw [e1] at hg; cases hg
 ·rw [e1] at hg; cases hg; exact ⟨_, hB⟩
set_option maxHeartbeats 1000000 in
theorem aFh {w : World} {cb tb : Nat} {ao : Option Addr} {c : Nat} {M : Nat -> Prop} (h : CurAt w cb tb [] (.slice ao 0 c) M) :
 Calls Tryz.prog 240 #[.pointer (some ⟨cb, 0, none⟩)] w (RetN w fun w' v => v = .bool false) := by
 have HL := qH (xC h)
 clear h
 go_enter Tryz.func240, Tryz.ntmps240
 go_wp2_with fail
 refine HL.out.mono ?_
 rintro e w1 ⟨v, rfl, hk, rfl⟩
 have hq : ∀ w : World, (binOp .neq 322 (.pointer none) (.pointer none)).run Tryz.prog w = .ok (.bool false) w := fun _ => by kernel_rfl
 have HK := qH hk
 clear hk
 go_wp2
 go_quiet (fail)
 go_wp2
 go_ret
 exact RetN.mk (HK.out.drewN _) rfl
set_option maxHeartbeats 4000000 in
theorem aI3 {w : World} {cb tb : Nat} {ao : Option Addr} {c d : Nat} {W : aC} {M : Nat -> Prop} (h : CurAt w cb tb [] (.slice ao 0 c) M) (ht : TrieAt w tb W d) (hm : 0 < d) (hW : 0 < W.length) :
 Calls Tryz.prog 231 #[.pointer (some ⟨cb, 0, none⟩)] w (RetF (fun k => k = cb \/ (Value.slice ao 0 c).ownBlock = some k) w fun w' v => v = .bool true /\ ∃ g' c', CurAt w' cb tb [(0, aO W d 0 W.length)] (.slice (some ⟨g', 0, none⟩) 1 c') (fun k => (Value.slice ao 0 c).ownBlock = some k \/ w.heap.size ≤ k)) := by
 have HE := qH (fun (W : World) (hW : Ext w W) => aFh (h.ext hW))
 have HA := qH (fun (W : World) (hW : Ext w W) => aJ9 (h.ext hW))
 have HD := qH (fun (W' : World) (hW : Ext w W') => xY (ht.ext hW))
 have HLn := qH (fun (W' : World) (hW : Ext w W') => aF7 (ht.ext hW))
 have hq := mZ cb
 have HJ := qH (show ∀ w', Ext w w' -> (fun w' : World => w'.cell? ⟨cb, 0, none⟩ = some (.pointer (some ⟨tb, 0, none⟩))) w' from fun w' hw' => by
  show w'.cell? ⟨cb, 0, none⟩ = some (.pointer (some ⟨tb, 0, none⟩))
  rw [(h.box.ext hw').cell']; rfl)
 have HC := qH h
 have HL := qH (fun (W : World) (hW : Ext w W) => xC (h.ext hW))
 have HT := qH ht
 have c0 := HJ.out w (Kp.refl _)
 have e1 : ((0 : Int) == (d : Int)) = false := by
  have : ¬ (0 : Int) = d := by omega
  simp [this]
 obtain ⟨nw, enw⟩ : ∃ n, W.length = n := ⟨_, rfl⟩
 have e2 : ((nw : Int) == 0) = false := by
  have hz : ¬ (nw : Int) = 0 := by omega
  have hz2 : ¬ nw = 0 := by omega
  simp [hz2]
 rw [enw] at HLn
 clear h
 go_enter Tryz.func231, Tryz.ntmps231
 go_wp2
 refine bB (fun w' : World => w'.cell? ⟨cb, 0, none⟩ = some (.pointer (some ⟨tb, 0, none⟩))) [] (by kernel_rfl) (HJ.out _ (Kp.refl w).drew) (fun hHeld => ?_)
 refine dF 0 ?_; try simp only [Act.put,sI,sZ,sS]
 refine dF 1 ?_; try simp only [Act.put,sI,sZ,sS]
 refine dF 2 ?_; try simp only [Act.put,sI,sZ,sS]
 (first | (refine dF 3 ?_) | (refine dO 3 ?_)); (try simp only [Act.put,sI,sZ,sS])
 refine aF (i := 4) ?_
 refine aG (i := 4) rfl (fun K hK => ?_)
 go_simp
 (refine (HE.out _ (Kp.refl w).drew).mono ?_; rintro e w1 ⟨v, rfl, hk1, rfl⟩; have X1 := qH (show Ext w w1 from ((Kp.refl w).drew).trans hk1); clear hk1)
 go_wp2_with fail
 refine hK.out _ _ ?_ (fun hHeld => ?_)
 ·(try dsimp only); (exact HJ.out _ X1.out)
 clear hK K; (try simp only [Act.put,sI,sZ,sS])
 refine dF 5 ?_; try simp only [Act.put,sI,sZ,sS]
 refine dF 6 ?_; try simp only [Act.put,sI,sZ,sS]
 (first | (refine dF 7 ?_) | (refine dO 7 ?_)); (try simp only [Act.put,sI,sZ,sS])
 (first | (refine dF 9 ?_) | (refine dO 9 ?_)); (try simp only [Act.put,sI,sZ,sS])
 (first | (refine dF 10 ?_) | (refine dO 10 ?_)); (try simp only [Act.put,sI,sZ,sS])
 (first | (refine dF 11 ?_) | (refine dO 11 ?_)); (try simp only [Act.put,sI,sZ,sS])
 (first | (refine dI 12 ?_) | (refine dO 12 ?_)); (try simp only [Act.put,sI,sZ,sS])
 refine aF (i := 8) ?_
 refine aG (i := 8) rfl (fun K hK => ?_)
 go_simp
 (refine (HA.out _ X1.out).mono ?_; rintro e w2 ⟨v, rfl, hk2, rfl⟩; have X2 := qH (show Ext w w2 from X1.out.trans hk2); clear hk2)
 go_wp2_with fail
 refine hK.out _ _ ?_ (fun hHeld => ?_)
 ·(try dsimp only); (exact HJ.out _ X2.out)
 clear hK K; (try simp only [Act.put,sI,sZ,sS])
 refine aF (i := 13) ?_
 refine aG (i := 13) rfl (fun K hK => ?_)
 go_simp
 (refine (HD.out _ X2.out).mono ?_; rintro e w3 ⟨v, rfl, hk3, rfl⟩; have X3 := qH (show Ext w w3 from X2.out.trans hk3); clear hk3)
 go_wp2_with fail
 refine hK.out _ _ ?_ (fun hHeld => ?_)
 ·(try dsimp only); (exact HJ.out _ X3.out)
 clear hK K; (try simp only [Act.put,sI,sZ,sS])
 (first | (refine dF 14 ?_) | (refine dO 14 ?_)); (try simp only [Act.put,sI,sZ,sS])
 refine dF 15 ?_; try simp only [Act.put,sI,sZ,sS]
 refine dF 16 ?_; try simp only [Act.put,sI,sZ,sS]
 (first | (refine dF 17 ?_) | (refine dO 17 ?_)); (try simp only [Act.put,sI,sZ,sS])
 (first | (refine dF 18 ?_) | (refine dO 18 ?_)); (try simp only [Act.put,sI,sZ,sS])
 (first | (refine dF 19 ?_) | (refine dO 19 ?_)); (try simp only [Act.put,sI,sZ,sS])
 (first | (refine dI 20 ?_) | (refine dO 20 ?_)); (try simp only [Act.put,sI,sZ,sS])
 refine aF (i := 21) ?_
 refine aG (i := 21) rfl (fun K hK => ?_)
 go_simp
 (refine (HLn.out _ X3.out).mono ?_; rintro e w4 ⟨v, rfl, hk4, rfl⟩; have X4 := qH (show Ext w w4 from X3.out.trans hk4); clear hk4)
 go_wp2_with fail
 refine hK.out _ _ ?_ (fun hHeld => ?_)
 ·(try dsimp only); (exact HJ.out _ X4.out)
 clear hK K; (try simp only [Act.put,sI,sZ,sS])
 (first | (refine dF 22 ?_) | (refine dO 22 ?_)); (try simp only [Act.put,sI,sZ,sS])
 refine dF 23 ?_; try simp only [Act.put,sI,sZ,sS]
 refine aN (by kernel_rfl) ?_ _
 clear hHeld c0 e1 e2
 obtain ⟨⟨la, lc, t0, -, -, hlev⟩, -, -⟩ := HT.out.ext X4.out
 obtain ⟨bl, ol, ela, hL⟩ := hlev 0 (by omega)
 subst ela
 obtain ⟨ka, kc, fa, fc, l0, -, -, -, -⟩ := hL.ex
 rw [Nat.zero_mul, Nat.add_zero] at l0
 obtain ⟨nk, enk⟩ : ∃ n, aO W d 0 W.length = n := ⟨_, rfl⟩
 rw [enk] at l0
 have HNk := qH enk
 clear enk
 have c0 := HJ.out w4 X4.out
 have hd0 : 0 < d := by omega
 clear hL hlev
 obtain ⟨w5, e5⟩ : ∃ w5, w4.alloc (.cells #[.int .i64 0, .int .i64 0] 321) = w5 := ⟨_, rfl⟩
 obtain ⟨g5, eg5⟩ : ∃ g, w4.heap.size = g := ⟨_, rfl⟩
 have hB5 : Blk w5 g5 [.int .i64 0, .int .i64 0] 321 := by rw [<- e5, <- eg5]; exact Blk.new w4 _ _
 have hx5 : Ext w4 w5 := by rw [<- e5]; exact (Kp.refl w4).alloc _
 have s0 := hB5.c0
 have s1 := hB5.c1
 have f0 := hB5.free 0
 have f1 := hB5.free 1
 obtain ⟨w6, e6⟩ : ∃ x, (w5.setCell ⟨g5, 0, none⟩ (.int .i64 0)).setCell ⟨g5, 1, none⟩ (.int .i64 nk) = x := ⟨_, rfl⟩
 have hB6 : Blk w6 g5 [.int .i64 0, .int .i64 nk] 321 := by rw [<- e6]; exact (hB5.set 0 _).set 1 _
 have hx6 : Ext w w6 := by
  rw [<- e6]
  have h1 := X4.out.size
  exact Kp.setCell (p := ⟨g5, 1, none⟩) (Kp.setCell (p := ⟨g5, 0, none⟩) (X4.out.trans hx5) (fun h2 => by have h3 : g5 < w.heap.size := h2; omega) _) (fun h2 => by have h3 : g5 < w.heap.size := h2; omega) _
 have H6 := qH (And.intro hx6 (And.intro hB6 (show w.heap.size ≤ g5 by have h1 := X4.out.size; omega)))
 clear hB5 hx5 hB6 hx6
 go_wp2_with fail
 refine (HL.out w6 H6.out.1).mono ?_
 rintro e w7 ⟨v, rfl, hk7, rfl⟩
 have H7 := qH (And.intro (H6.out.1.trans hk7) (H6.out.2.1.ext hk7))
 have hq2 : ∀ w : World, (binOp .neq 322 (.pointer none) (.pointer none)).run Tryz.prog w = .ok (.bool false) w := fun _ => by kernel_rfl
 clear hk7 e5 e6 eg5 s0 s1 f0 f1 c0 t0 l0 hd0
 obtain ⟨w9, e9⟩ : ∃ x, x = w7 := ⟨_, rfl⟩
 subst e9
 have hB9 := H7.out.2
 have hx9 := H7.out.1
 have hc9 := HC.out.ext hx9
 have hr9 := hc9.row
 have hap : ∀ k, (Value.slice ao 0 c).ownBlock = some k -> k ≠ cb := fun k hk e => by
  subst e
  obtain ⟨cs, hb⟩ := aQ hc9.row hk
  exact qF (aK hc9.box hb)
 have HR9 := qH (And.intro hr9 (And.intro hap (And.intro hx9 hB9)))
 have HJ9 := qH (show ∀ w', Ext w9 w' -> (fun w' : World => w'.cell? ⟨cb, 1, none⟩ = some (.slice ao 0 c) /\ w'.cell? ⟨g5, 0, none⟩ = some (.int .i64 0) /\ w'.cell? ⟨g5, 1, none⟩ = some (.int .i64 nk)) w' from fun w' hw' => by
  have hc := HC.out.ext (HR9.out.2.2.1.trans hw')
  have hb := HR9.out.2.2.2.ext hw'
  exact ⟨by rw [hc.box.cell']; rfl, by rw [hb.cell']; rfl, by rw [hb.cell']; rfl⟩)
 have hcb := hc9.box
 have HCB := qH hcb
 clear hB9 hx9 hc9 hr9 hap hcb
 go_wp2
 refine bB (fun w' : World => w'.cell? ⟨cb, 1, none⟩ = some (.slice ao 0 c) /\ w'.cell? ⟨g5, 0, none⟩ = some (.int .i64 0) /\ w'.cell? ⟨g5, 1, none⟩ = some (.int .i64 nk)) [7, 8, 9, 10] (by kernel_rfl) (HJ9.out _ (Kp.refl w9).drew) (fun hHeld => ?_)
 refine dF 0 ?_; try simp only [Act.put,sI,sZ,sS]
 refine dF 1 ?_; try simp only [Act.put,sI,sZ,sS]
 refine dF 2 ?_; try simp only [Act.put,sI,sZ,sS]
 refine dF 3 ?_; try simp only [Act.put,sI,sZ,sS]
 refine dI 4 ?_; try simp only [Act.put,sI,sZ,sS]
 refine dI 5 ?_; try simp only [Act.put,sI,sZ,sS]
 refine aF (i := 6) ?_
 refine aG (i := 6) rfl (fun K hK => ?_)
 go_simp
 refine hK.out _ _ ?_ (fun hHeld => ?_)
 ·(try dsimp only); (exact HJ9.out _ (by first | exact ((Kp.refl w9).alloc _).drew | exact (Kp.refl w9).drew.alloc _))
 clear hK K; (try simp only [Act.put,sI,sZ,sS])
 refine aF (i := 7) ?_
 refine aJ (i := 7) rfl (by kernel_rfl) (fun K hK => ?_)
 refine iE (m := 1) (n := 0) xV rfl _ _ rfl rfl ((HR9.out.1.alloc _).drew) rfl ((CellsAt.two w9 (.int .i64 0) (.int .i64 nk) 321).ext ((Kp.refl _).drew)) (by rfl) (by simp [Value.oneCell']) (by have := HT.out.dep; omega) (by have := HT.out.dep; unfold maxLen; omega) ?_; intro v10 w10 hr10 hk10; obtain ⟨g10, c10, e10, hM10⟩ := nU hr10 (by omega); subst e10; have HB10 := qH (show Blk w10 cb [.pointer (some ⟨tb, 0, none⟩), .slice ao 0 c] 307 from ((HCB.out.alloc _).ext ((Kp.refl _).drew)).kp hk10 (fun h2 => HR9.out.2.1 cb h2 rfl)); have HR10 := qH (And.intro hr10 hk10); have y1 : w10.cell? ⟨cb, 1, none⟩ = some (.slice ao 0 c) := (by rw [HB10.out.cell']; rfl); have yf := HB10.out.free 1; clear hr10 hk10 hM10
 refine hK.out _ _ ?_
 clear hK K; (try simp only [Act.put,sI,sZ,sS])
 refine aF (i := 8) ?_
 refine aJ (i := 8) rfl (by kernel_rfl) (fun K hK => ?_)
 go_simp
 refine hK.out _ _ ?_
 clear hK K; (try simp only [Act.put,sI,sZ,sS])
 refine aF (i := 9) ?_
 refine aJ (i := 9) rfl (by kernel_rfl) (fun K hK => ?_)
 go_simp
 refine hK.out _ _ ?_
 clear hK K; (try simp only [Act.put,sI,sZ,sS])
 refine aF (i := 10) ?_
 refine aJ (i := 10) rfl (by kernel_rfl) (fun K hK => ?_)
 go_simp
 refine hK.out _ _ ?_
 clear hK K; (try simp only [Act.put,sI,sZ,sS])
 refine aN (by kernel_rfl) ?_ _
 clear hHeld y1 yf
 obtain ⟨w11, e11⟩ : ∃ x, w10.setCell ⟨cb, 1, none⟩ (.slice (some ⟨g10, 0, none⟩) (0 + 1) c10) = x := ⟨_, rfl⟩
 rw [e11]
 have hks : Kp (fun k => k = cb) w10 w11 := by rw [<- e11]; exact kSa
 have hbx : Blk w11 cb [.pointer (some ⟨tb, 0, none⟩), .slice (some ⟨g10, 0, none⟩) (0 + 1) c10] 307 := by rw [<- e11]; exact HB10.out.set 1 _
 have hpool : ∀ k, ((Value.slice ao 0 c).ownBlock = some k \/ (w9.alloc (.cells #[.int .i64 0, .int .i64 nk] 321)).drew.heap.size ≤ k) -> (Value.slice ao 0 c).ownBlock = some k \/ w.heap.size ≤ k := fun k hk => by
  rcases hk with hk | hk
  ·exact .inl hk
  ·refine .inr ?_
   have h4 := HR9.out.2.2.1.size
   have h5 : (w9.alloc (.cells #[.int .i64 0, .int .i64 nk] 321)).heap.size ≤ k := hk
   rw [aI] at h5
   omega
 have hrw : Row w11 321 2 (.slice (some ⟨g10, 0, none⟩) (0 + 1) c10) [(0, nk)].length ([(0, nk)].flatMap iQ) (fun k => (Value.slice ao 0 c).ownBlock = some k \/ w.heap.size ≤ k) := by
  refine Row.kp' (HR10.out.1.mono hpool) hks fun g' hg _ e => ?_
  have h3 : some g10 = some g' := hg
  have h4 := Option.some.inj h3
  obtain ⟨cs, hb⟩ : ∃ cs, Blk w10 g10 cs 321 := by
   obtain ⟨_, ⟨e1, h0⟩ | ⟨g', cap, rest, e1, hM, hB, _⟩⟩ := HR10.out.1
   ·omega
   ·simp only [Value.slice.injEq, Option.some.injEq, Addr.mk.injEq, and_true] at e1
    obtain ⟨rfl, _⟩ := e1
    exact ⟨_, hB⟩
  rw [h4, e] at hb
  exact qF (aK HB10.out hb)
 have hkF : Kp (fun k => k = cb \/ (Value.slice ao 0 c).ownBlock = some k) w w11 := by
  have h1 : Kp (fun k => k = cb \/ (Value.slice ao 0 c).ownBlock = some k) w w10 := (Ext.kp ((HR9.out.2.2.1.alloc (.cells #[.int .i64 0, .int .i64 nk] 321)).drew)).trans' HR10.out.2 fun k _ hk => .inr hk
  exact h1.trans' hks fun k _ hk => .inl hk
 have HFin := qH (And.intro hbx (And.intro hrw hkF))
 clear e11 hks hbx hpool hrw hkF
 go_wp2
 go_ret
 exact RetF.mk HFin.out.2.2 ⟨rfl, g10, c10, HFin.out.1, by rw [HNk.out]; exact HFin.out.2.1⟩
abbrev CurS (w : World) (cb tb : Nat) (st : List (Nat × Nat)) (ov : Value) : Prop := CurAt w cb tb st ov (fun k => ov.ownBlock = some k)
def gV (cb : Nat) (ov : Value) : Nat -> Prop := fun k => k = cb \/ ov.ownBlock = some k
theorem Row.ownB {w : World} {e : TypeId} {k n : Nat} {v : Value} {xs : List Value} {M : Nat -> Prop} (h : Row w e k v n xs M) : Row w e k v n xs (fun g => v.ownBlock = some g) := by
 obtain ⟨h1, h2 | ⟨g, cap, rest, rfl, b, c⟩⟩ := h
 ·exact ⟨h1, .inl h2⟩
 ·exact ⟨h1, .inr ⟨g, cap, rest, rfl, rfl, c⟩⟩
theorem CurAt.own {w : World} {cb tb : Nat} {st : List (Nat × Nat)} {ov : Value} {M : Nat -> Prop} (h : CurAt w cb tb st ov M) : CurS w cb tb st ov := ⟨h.box, h.row.ownB⟩
theorem CurAt.kp {F : Nat -> Prop} {w w' : World} {cb tb : Nat} {st : List (Nat × Nat)} {ov : Value} {M : Nat -> Prop} (h : CurAt w cb tb st ov M) (hk : Kp F w w') (hf : ∀ k, gV cb ov k -> ¬ F k) : CurAt w' cb tb st ov M :=
 ⟨h.box.kp hk (hf _ (.inl rfl)), h.row.kp' hk fun g hg _ => hf g (.inr hg)⟩
theorem CurAt.foot {w : World} {cb tb : Nat} {st : List (Nat × Nat)} {ov : Value} {M : Nat -> Prop} (h : CurAt w cb tb st ov M) : ∀ k, gV cb ov k -> k < w.heap.size := fun k hk => by
 rcases hk with rfl | hk
 ·exact h.box.lt
 ·obtain ⟨cs, hb⟩ := aQ h.row hk
  exact hb.lt
theorem CurS.inn {w : World} {cb tb a b : Nat} {st : List (Nat × Nat)} {ov : Value} (h : CurS w cb tb (st ++ [(a, b)]) ov) : ∃ g c, ov = .slice (some ⟨g, 0, none⟩) (st.length + 1) c /\ CurIn w cb tb (st ++ [(a, b)]) g c st.length a b (fun k => ov.ownBlock = some k) := by
 obtain ⟨g, c, e, _⟩ := nU h.row (by simp)
 have el : (st ++ [(a, b)]).length = st.length + 1 := by simp
 rw [el] at e
 subst e
 exact ⟨g, c, rfl, h, by simp⟩
theorem CurIn.outS {w : World} {cb tb g c m a b : Nat} {st : List (Nat × Nat)} {M : Nat -> Prop} (h : CurIn w cb tb st g c m a b M) : CurS w cb tb st (.slice (some ⟨g, 0, none⟩) (m + 1) c) := h.at_.own
section
variable {w : World} {cb tb a b d : Nat} {st : List (Nat × Nat)} {ov : Value} {W : aC}
theorem aJ0 (h : CurS w cb tb (st ++ [(a, b)]) ov) : Calls Tryz.prog 240 #[.pointer (some ⟨cb, 0, none⟩)] w (RetN w fun w' v => v = .bool (decide (a = b))) := by
 obtain ⟨g, c, rfl, hi⟩ := h.inn
 exact gB hi
theorem aJj {x : ByteArray} (h : CurS w cb tb (st ++ [(a, b)]) ov) (ht : TrieAt w tb W d) (hm : st.length < d) (hab : a ≠ b) (hx : (bJ W d st.length W.length)[a]? = some x) :
 Calls Tryz.prog 246 #[.pointer (some ⟨cb, 0, none⟩)] w (RetN w fun w' v => v = .string x) := by
 obtain ⟨g, c, rfl, hi⟩ := h.inn
 exact aK2 hi ht hm hab hx
theorem aAr (st : List (Nat × Nat)) (x y : Nat × Nat) : (st ++ [x]).set st.length y = st ++ [y] := by
 rw [List.set_append_right _ _ (Nat.le_refl _), Nat.sub_self]; rfl
theorem aGs (t : ByteArray) (h : CurS w cb tb (st ++ [(a, b)]) ov) (ht : TrieAt w tb W d) (hm : st.length < d) (hab : a < b) (hb : b ≤ aO W d st.length W.length) :
 Calls Tryz.prog 247 #[.pointer (some ⟨cb, 0, none⟩), .string t] w (RetF (gV cb ov) w fun w' v => ∃ p : Nat, gF (bJ W d st.length W.length) t a b p /\ v = .bool (decide (p ≠ b)) /\ CurS w' cb tb (st ++ [(p, b)]) ov) := by
 obtain ⟨g, c, rfl, hi⟩ := h.inn
 refine (aHu t hi ht hm hab hb).mono ?_
 rintro e w' ⟨v, rfl, hk, p, h1, rfl, h2⟩
 rw [aAr] at h2
 exact RetF.mk (hk.mono fun k _ e => .inr (by rw [e]; rfl)) ⟨p, h1, rfl, h2.outS⟩
theorem aG0 (h : CurS w cb tb (st ++ [(a, b)]) ov) (hab : a < b) (hb : b ≤ 1048576) :
 Calls Tryz.prog 248 #[.pointer (some ⟨cb, 0, none⟩)] w (RetF (gV cb ov) w fun w' v => v = .bool (decide (a + 1 ≠ b)) /\ CurS w' cb tb (st ++ [(a + 1, b)]) ov) := by
 obtain ⟨g, c, rfl, hi⟩ := h.inn
 refine (aI9 hi hab hb).mono ?_
 rintro e w' ⟨v, rfl, hk, rfl, h2⟩
 rw [aAr] at h2
 exact RetF.mk (hk.mono fun k _ e => .inr (by rw [e]; rfl)) ⟨rfl, h2.outS⟩
theorem aKo (h : CurS w cb tb (st ++ [(a, b)]) ov) :
 Calls Tryz.prog 233 #[.pointer (some ⟨cb, 0, none⟩)] w (RetF (gV cb ov) w fun w' v => v = .bool true /\ ∃ ov', ov'.ownBlock = ov.ownBlock /\ CurS w' cb tb st ov') := by
 obtain ⟨g, c, rfl, hi⟩ := h.inn
 refine (aLv hi).mono ?_
 rintro e w' ⟨v, rfl, hk, rfl, h2⟩
 rw [List.take_left] at h2
 exact RetF.mk (hk.mono fun k _ e => .inl e) ⟨rfl, .slice (some ⟨g, 0, none⟩) st.length c, rfl, h2.own⟩
theorem aGx {q : List ByteArray} (h : CurS w cb tb st ov) (ht : TrieAt w tb W d) (hW : WaysOk W d) (hne : 0 < W.length) (hp : PathOk W d q st) (hq : q.length < d) :
 Calls Tryz.prog 231 #[.pointer (some ⟨cb, 0, none⟩)] w (RetF (gV cb ov) w fun w' v => v = .bool true /\ ∃ ov' f t, CurS w' cb tb (st ++ [(f, t)]) ov' /\ SpanOf W d q f t /\ f < t /\ ∀ k, ov'.ownBlock = some k -> ov.ownBlock = some k \/ w.heap.size ≤ k) := by
 obtain ⟨f, t, hs, hft, h1 | ⟨m, e, hqm, he, h1, h2⟩⟩ := hp.open hW hne hq
 ·obtain ⟨rfl, rfl, rfl⟩ := h1
  have est : st = [] := List.eq_nil_of_length_eq_zero (by rw [hp.len]; rfl)
  subst est
  obtain ⟨ao, cap, rfl, _⟩ := tX h.row
  refine (aI3 h ht hq hne).mono ?_
  rintro e w' ⟨v, rfl, hk, rfl, g', c', h2⟩
  refine RetF.mk (hk.mono fun k _ e => e) ⟨rfl, _, 0, _, h2.own, hs, hft, fun k hk' => ?_⟩
  exact h2.row.block k hk'
 ·obtain ⟨a', x, p1, p2, p3, p4, p5⟩ := hp.at_ m e he
  obtain ⟨g, c, e1, hM⟩ := nU h.row (by rw [hp.len]; omega)
  rw [hp.len, hqm] at e1
  subst e1
  refine (aI4 (a := e.1) (b := e.2) ⟨h, he⟩ ht (by omega) (by omega) hne h1 h2).mono ?_
  rintro e' w' ⟨v, rfl, hk, rfl, g', c', h3⟩
  refine RetF.mk (hk.mono fun k _ e => by rcases e with e | e; exact .inl e; exact .inr (by rw [e]; rfl)) ⟨rfl, _, f, t, h3.own, hs, hft, fun k hk' => ?_⟩
  rcases h3.row.block k hk' with h4 | h4
  ·exact .inl (by rw [h4]; rfl)
  ·exact .inr h4
end
structure TestZ where
 fn : Nat
 cap : Array Value
 last : Int
 ask : List ByteArray -> Bool
def TestZ.val (t : TestZ) : Value := .func (Fn.func t.fn) #[] t.cap
def lM (t : TestZ) : List Value := [.int .i64 t.last, t.val]
structure TestOk (w : World) (nv : Nat) (t : TestZ) : Prop where
 ent : ∀ args w, (callFunc t.fn args).run Tryz.prog w = .ok (Next.enter t.fn args) w
 tells : ∀ W, Ext w W -> ∀ (ra : Option Addr) (cp : Nat) (V : List ByteArray), V.length = nv -> CellsAt W ra (strs V) -> Calls Tryz.prog t.fn (#[.slice ra nv cp] ++ t.cap) W (RetN W fun w' v => v = .bool (t.ask V))
theorem TestOk.ext {w w' : World} {nv : Nat} {t : TestZ} (h : TestOk w nv t) (hk : Ext w w') : TestOk w' nv t := ⟨h.ent, fun W hW => h.tells W (hk.trans hW)⟩
theorem aFv {α : Type} (f : α -> List Value) (hf : ∀ x, (f x).length = 2) : ∀ (l : List α) {m : Nat} {x : α}, l[m]? = some x -> ∀ (a b : Value), f x = [a, b] -> (l.flatMap f)[m * 2]? = some a /\ (l.flatMap f)[m * 2 + 1]? = some b
 | [], m, x, h, a, b, _ => by simp at h
 | y :: l, 0, x, h, a, b, e => by
  cases h
  rw [List.flatMap_cons, e]
  exact ⟨rfl, rfl⟩
 | y :: l, m + 1, x, h, a, b, e => by
  obtain ⟨h1, h2⟩ := aFv f hf l (m := m) (x := x) (by simpa using h) a b e
  have hl := hf y
  refine ⟨?_, ?_⟩
  ·rw [List.flatMap_cons, List.getElem?_append_right (by omega), hl, show (m + 1) * 2 - 2 = m * 2 by omega]; exact h1
  ·rw [List.flatMap_cons, List.getElem?_append_right (by omega), hl, show (m + 1) * 2 + 1 - 2 = m * 2 + 1 by omega]; exact h2
theorem aIm {w : World} {ta : Option Addr} {ts : List TestZ} (h : CellsAt w ta (ts.flatMap lM)) {i : Nat} {t : TestZ} (hi : ts[i]? = some t) : ∃ b off, ta = some ⟨b, off, none⟩ /\ w.cell? ⟨b, off + i * 2, none⟩ = some (.int .i64 t.last) /\ w.cell? ⟨b, off + i * 2 + 1, none⟩ = some t.val := by
 obtain ⟨h1, h2⟩ := aFv lM (fun _ => rfl) ts hi _ _ rfl
 obtain ⟨b, off, e, c1⟩ := h _ _ h1
 obtain ⟨b', off', e', c2⟩ := h _ _ h2
 rw [e] at e'; cases e'
 exact ⟨b, off, e, c1, by rw [Nat.add_assoc]; exact c2⟩
set_option maxHeartbeats 1000000 in
theorem aD7 {w : World} {nv bb wb cp : Nat} {ra : Option Addr} {V : List ByteArray} (t : TestZ) (ht : TestOk w nv t) (hb : w.cell? ⟨bb, 0, none⟩ = some (.pointer (some ⟨wb, 0, none⟩))) (hr : w.cell? ⟨wb, 2, none⟩ = some (.slice ra nv cp)) (hc : CellsAt w ra (strs V)) (hV : V.length = nv) :
 Calls Tryz.prog 239 #[.agg #[.int .i64 t.last, t.val], .pointer (some ⟨bb, 0, none⟩)] w (RetN w fun w' v => v = .bool (!t.ask V)) := by
 have HT := qH (fun W (hW : Ext w W) => ht.tells W hW ra cp V hV (hc.ext hW))
 have hent := ht.ent
 obtain ⟨f, cap, last, ask⟩ := t
 unfold TestZ.val at *
 simp only at HT hent
 clear ht hc hV
 obtain ⟨r, er⟩ : ∃ r, ask V = r := ⟨_, rfl⟩
 rw [er] at HT
 simp only [er]
 go_enter Tryz.func239, Tryz.ntmps239
 obtain ⟨w1, e1⟩ : ∃ w1, w.alloc (.cells #[.int .i64 last, .func (Fn.func f) #[] cap] 280) = w1 := ⟨_, rfl⟩
 obtain ⟨g0, eg0⟩ : ∃ g, w.heap.size = g := ⟨_, rfl⟩
 have hB : Blk w1 g0 [.int .i64 last, .func (Fn.func f) #[] cap] 280 := by rw [<- e1, <- eg0]; exact Blk.new w _ _
 have hx : Ext w w1 := by rw [<- e1]; exact (Kp.refl w).alloc _
 have b0 := hx.cell hb id
 have r0 := hx.cell hr id
 have f0 := hB.c1
 have HX := qH hx
 clear hx hB hb hr
 go_wp2
 go_still_tail 6, (by kernel_rfl)
 go_wp2_with fail
 refine (HT.out _ (HX.out.drew)).mono ?_
 rintro e w1 ⟨v, rfl, hk, rfl⟩
 have HK := qH (HX.out.drew.trans hk)
 clear hk b0 r0 f0
 go_wp2
 go_ret
 exact RetN.mk HK.out rfl
def NoneP (w0 : World) (V : List ByteArray) (ts : List TestZ) (n : Nat) (iv : Value) (w : World) : Prop := ∃ i : Nat, i ≤ n /\ iv = .int .i64 i /\ Hid (∀ (j : Nat) u, j < i -> ts[j]? = some u -> (!TestZ.ask u V) = false) /\ Hid (Ext w0 w)
theorem aFi {α : Type} {l : List α} {q : α -> Bool} {n : Nat} (hn : n = l.length) (h : ∀ (j : Nat) u, j < n -> l[j]? = some u -> q u = false) : l.any q = false := by
 rw [List.any_eq_false]
 intro t ht
 obtain ⟨j, hj, rfl⟩ := List.mem_iff_getElem.1 ht
 rw [h j _ (by omega) (qG hj)]; decide
theorem aH7 {α : Type} {l : List α} {q : α -> Bool} {i : Nat} {u : α} (h : l[i]? = some u) (hq : q u = true) : l.any q = true := List.any_eq_true.2 ⟨u, List.mem_of_getElem? h, hq⟩
set_option maxHeartbeats 1000000 in
theorem aEr {w : World} {nv bb wb cp n tc : Nat} {ra ta : Option Addr} {V : List ByteArray} (ts : List TestZ) (hn : n = ts.length) (h : CellsAt w ta (ts.flatMap lM)) (ht : ∀ t ∈ ts, TestOk w nv t) (hb : w.cell? ⟨bb, 0, none⟩ = some (.pointer (some ⟨wb, 0, none⟩))) (hr : w.cell? ⟨wb, 2, none⟩ = some (.slice ra nv cp)) (hc : CellsAt w ra (strs V)) (hV : V.length = nv) (hl : n ≤ 1048576) :
 Calls Tryz.prog 255 #[.slice ta n tc, .func (Fn.func 239) #[] #[.pointer (some ⟨bb, 0, none⟩)]] w (RetN w fun w' v => ∃ z : Int, v = .int .i64 z /\ decide (0 ≤ z) = ts.any fun t => !t.ask V) := by
 have HN := qH hn; have HE := qH h
 have HQ := qH (fun W (hW : Ext w W) t (hm : t ∈ ts) => aD7 t ((ht t hm).ext hW) (hW.cell hb id) (hW.cell hr id) (hc.ext hW) hV)
 clear hn h ht hb hr hc hV
 go_enter Tryz.func255, Tryz.ntmps255
 go_wp2
 go_loopw [8] (fun iv wr => NoneP w V ts n iv wr) (fun iv _ => n - (intOf iv).toNat)
 case atStart => exact ⟨0, Nat.zero_le _, rfl, fun j u h => by omega, Kp.refl w⟩
 case round =>
  obtain ⟨i, hi, rfl, hno, hex⟩ := hrel
  by_cases hlt : i < n
  ·have hlt' : i < ts.length := by rw [<- HN.out]; exact hlt
   obtain ⟨t, ht⟩ : ∃ t, ts[i]? = some t := ⟨_, qG hlt'⟩
   obtain ⟨b, off, eao, hc0, hc1⟩ := aIm (HE.out.ext hex.out) ht
   subst eao
   have HC := qH (HQ.out wr hex.out t (List.mem_of_getElem? ht))
   obtain ⟨r, er⟩ : ∃ r : Bool, (!t.ask V) = r := ⟨_, rfl⟩
   rw [er] at HC
   obtain ⟨la, ela⟩ : ∃ x, t.last = x := ⟨_, rfl⟩
   obtain ⟨tv, etv⟩ : ∃ x, t.val = x := ⟨_, rfl⟩
   rw [ela] at hc0 HC
   rw [etv] at hc1 HC
   have HT := qH (And.intro ht er)
   clear ht hlt' er ela
   unfold TestZ.val at etv
   subst etv
   cases r
   ·go_wp2_with fail
    refine HC.out.mono ?_
    rintro e w1 ⟨v, rfl, hk1, rfl⟩
    have HX := qH (hex.out.trans hk1); clear hk1 hc0 hc1
    go_wp2
    go_roundw
    case rel =>
     refine ⟨i + 1, by omega, by first | rfl | (congr 1; done) | (congr 1; omega), fun j u hj hu => ?_, HX⟩
     by_cases e : j = i
     ·subst e; rw [HT.out.1] at hu; cases hu; exact HT.out.2
     ·exact hno.out j u (by omega) hu
    case measure => simp [intOf]; omega
   ·go_wp2_with fail
    refine HC.out.mono ?_
    rintro e w1 ⟨v, rfl, hk1, rfl⟩
    have HX := qH (hex.out.trans hk1); clear hk1 hc0 hc1
    go_wp2
    go_ret
    exact RetN.mk HX.out ⟨i, rfl, by rw [aH7 HT.out.1 HT.out.2]; simp⟩
  ·go_wp2
   go_ret
   exact RetN.mk hex.out ⟨-1, rfl, by rw [aFi HN.out fun j u hj => hno.out j u (by omega)]; decide⟩
theorem wI {w : World} {nv bb wb cp n tc : Nat} {ra ta : Option Addr} {V : List ByteArray} (ts : List TestZ) (hn : n = ts.length) (h : CellsAt w ta (ts.flatMap lM)) (ht : ∀ t ∈ ts, TestOk w nv t) (hb : w.cell? ⟨bb, 0, none⟩ = some (.pointer (some ⟨wb, 0, none⟩))) (hr : w.cell? ⟨wb, 2, none⟩ = some (.slice ra nv cp)) (hc : CellsAt w ra (strs V)) (hV : V.length = nv) (hl : n ≤ 1048576) :
 Calls Tryz.prog 238 #[.slice ta n tc, .func (Fn.func 239) #[] #[.pointer (some ⟨bb, 0, none⟩)]] w (RetN w fun w' v => v = .bool (ts.any fun t => !t.ask V)) := by
 have HI := qH (aEr (tc := tc) ts hn h ht hb hr hc hV hl)
 clear hn h ht hb hr hc hV hl
 go_enter Tryz.func238, Tryz.ntmps238
 go_wp2_with fail
 refine HI.out.mono ?_
 rintro e w1 ⟨v, rfl, hk, z, rfl, hz⟩
 go_wp2
 go_ret
 exact RetN.mk hk (congrArg Value.bool (by first | exact hz | simp [<- hz]))
set_option maxHeartbeats 1000000 in
theorem aD6 {w : World} {nv wb mb k cp n tc sc sb so : Nat} {ra ta : Option Addr} {V : List ByteArray} (ts : List TestZ) (hn : n = ts.length) (h : CellsAt w ta (ts.flatMap lM)) (ht : ∀ t ∈ ts, TestOk w nv t) (hm : w.cell? ⟨wb, 0, none⟩ = some (.pointer (some ⟨mb, 0, none⟩))) (hs : w.cell? ⟨mb, 3, none⟩ = some (.slice (some ⟨sb, so, none⟩) (nv + 1) sc)) (hk : k ≤ nv) (hk2 : w.cell? ⟨sb, so + k, none⟩ = some (.slice ta n tc)) (hr : w.cell? ⟨wb, 2, none⟩ = some (.slice ra nv cp)) (hc : CellsAt w ra (strs V)) (hV : V.length = nv) (hl : n ≤ 1048576) (hl2 : nv ≤ 1048576) :
 Calls Tryz.prog 230 #[.pointer (some ⟨wb, 0, none⟩), .int .i64 k] w (RetN w fun w' v => v = .bool (!ts.any fun t => !t.ask V)) := by
 go_enter Tryz.func230, Tryz.ntmps230
 obtain ⟨w1, e1⟩ : ∃ w1, w.alloc (.cells #[.pointer (some ⟨wb, 0, none⟩)] 283) = w1 := ⟨_, rfl⟩
 obtain ⟨g0, eg0⟩ : ∃ g, w.heap.size = g := ⟨_, rfl⟩
 have hB : Blk w1 g0 [.pointer (some ⟨wb, 0, none⟩)] 283 := by rw [<- e1, <- eg0]; exact Blk.new w _ _
 have hx : Ext w w1 := by rw [<- e1]; exact (Kp.refl w).alloc _
 have b0 := hB.c0
 have m0 := hx.cell hm id
 have s0 := hx.cell hs id
 have k0 := hx.cell hk2 id
 have HC := qH (wI (tc := tc) ts hn (h.ext hx) (fun t hm => (ht t hm).ext hx) b0 (hx.cell hr id) (hc.ext hx) hV hl)
 have HX := qH hx
 clear hx hB hm hs hk2 hr hc hV ht h hn
 go_wp2_with fail
 refine HC.out.mono ?_
 rintro e w2 ⟨v, rfl, hk3, rfl⟩
 have HK := qH (HX.out.trans hk3)
 clear hk3
 go_wp2
 go_ret
 exact RetN.mk HK.out rfl
structure TrieZ where
 tb : Nat
 vs : List Nat
 W : aC
structure MatchZ where
 N : List ByteArray
 Ts : List TrieZ
 tests : Nat -> List TestZ
def noT : TrieZ := ⟨0, [], []⟩
def atL (Ts : List TrieZ) (v : Nat) : List Nat := (List.range Ts.length).filter fun j => (Ts.getD j noT).vs.contains v
theorem tF {Ts : List TrieZ} {v j : Nat} : j ∈ atL Ts v ↔ ∃ t, Ts[j]? = some t /\ v ∈ t.vs := by
 unfold atL
 rw [List.mem_filter, List.mem_range]
 refine ⟨fun ⟨h1, h2⟩ => ⟨Ts[j], qG h1, ?_⟩, fun ⟨t, h1, h2⟩ => ⟨(List.getElem?_eq_some_iff.1 h1).1, ?_⟩⟩
 ·rw [bC (qG h1)] at h2
  exact List.contains_iff_mem.1 h2
 ·rw [bC h1]; exact List.contains_iff_mem.2 h2
theorem yC (Ts : List TrieZ) (v : Nat) : (atL Ts v).Nodup := (List.nodup_range).filter _
def lP (M : MatchZ) (V : List ByteArray) : Prop := V.length = M.N.length /\ (∀ t ∈ M.Ts, t.vs.map (aZ V) ∈ t.W) /\ ∀ k ≤ M.N.length, ∀ t ∈ M.tests k, t.ask V = true
structure MatchOk (M : MatchZ) : Prop where
 ways : ∀ t ∈ M.Ts, WaysOk t.W t.vs.length /\ t.vs.Pairwise (· < ·) /\ t.vs ≠ [] /\ (∀ x ∈ t.vs, x < M.N.length) /\ 0 < t.W.length
 all : ∀ v, v < M.N.length -> ∃ t ∈ M.Ts, v ∈ t.vs
 local_ : ∀ k ≤ M.N.length, ∀ t ∈ M.tests k, ∀ V V' : List ByteArray, V.length = M.N.length -> V'.length = M.N.length -> V.take k = V'.take k -> t.ask V = t.ask V'
def kP (t : TrieZ) : Value := .pointer (some ⟨t.tb, 0, none⟩)
structure MAddr where
 na : Option Addr
 nc : Nat
 ta : Option Addr
 tc : Nat
 aa : Option Addr
 ac : Nat
 sa : Option Addr
 sc : Nat
 ia : Nat -> Option Addr
 ic : Nat -> Nat
 ya : Nat -> Option Addr
 yc : Nat -> Nat
structure MatchAt (w : World) (mb : Nat) (M : MatchZ) (A : MAddr) : Prop where
 c0 : w.cell? ⟨mb, 0, none⟩ = some (.slice A.na M.N.length A.nc)
 c1 : w.cell? ⟨mb, 1, none⟩ = some (.slice A.ta M.Ts.length A.tc)
 c2 : w.cell? ⟨mb, 2, none⟩ = some (.slice A.aa M.N.length A.ac)
 c3 : w.cell? ⟨mb, 3, none⟩ = some (.slice A.sa (M.N.length + 1) A.sc)
 ptrs : CellsAt w A.ta (M.Ts.map kP)
 ats : ∀ v, v < M.N.length -> ∃ b o, A.aa = some ⟨b, o, none⟩ /\ w.cell? ⟨b, o + v, none⟩ = some (.slice (A.ia v) (atL M.Ts v).length (A.ic v)) /\ CellsAt w (A.ia v) (ints ((atL M.Ts v).map fun (j : Nat) => (j : Int)))
 slots : ∀ k, k ≤ M.N.length -> ∃ b o, A.sa = some ⟨b, o, none⟩ /\ w.cell? ⟨b, o + k, none⟩ = some (.slice (A.ya k) (M.tests k).length (A.yc k)) /\ CellsAt w (A.ya k) ((M.tests k).flatMap lM)
 tries : ∀ t ∈ M.Ts, TrieAt w t.tb t.W t.vs.length
 tests : ∀ k, k ≤ M.N.length -> ∀ t ∈ M.tests k, TestOk w M.N.length t
 few : M.N.length ≤ 1048576 /\ M.Ts.length ≤ 1048576 /\ ∀ k, k ≤ M.N.length -> (M.tests k).length ≤ 1048576
def vN (cb : Nat -> Nat) (n : Nat) : List Value := (List.range n).map fun j => .pointer (some ⟨cb j, 0, none⟩)
structure WalkAt (w : World) (wb mb : Nat) (M : MatchZ) (yv cv : Value) (rb : Nat) (R : List ByteArray) (cb : Nat -> Nat) (ov : Nat -> Value) (st : Nat -> List (Nat × Nat)) : Prop where
 box : Blk w wb [.pointer (some ⟨mb, 0, none⟩), cv, .slice (some ⟨rb, 0, none⟩) M.N.length M.N.length, yv] 286
 rowB : Blk w rb (strs R) 9
 rowL : R.length = M.N.length
 curs : Row w 288 1 cv M.Ts.length (vN cb M.Ts.length) (fun k => cv.ownBlock = some k)
 cur : ∀ (j : Nat) t, M.Ts[j]? = some t -> CurS w (cb j) t.tb (st j) (ov j)
 apart : ∀ i j, i < M.Ts.length -> j < M.Ts.length -> i ≠ j -> cb i ≠ cb j /\ ∀ k, (ov i).ownBlock = some k -> (ov j).ownBlock ≠ some k
def aIf (wb rb n : Nat) (cv : Value) (cb : Nat -> Nat) (ov : Nat -> Value) : Nat -> Prop := fun k => k = wb \/ k = rb \/ cv.ownBlock = some k \/ ∃ j, j < n /\ gV (cb j) (ov j) k
def cH {α : Type} (f : Nat -> α) (j : Nat) (x : α) : Nat -> α := fun i => if i = j then x else f i
theorem upd_same {α : Type} (f : Nat -> α) (j : Nat) (x : α) : cH f j x j = x := if_pos rfl
theorem aH {α : Type} (f : Nat -> α) {j i : Nat} (x : α) (h : i ≠ j) : cH f j x i = f i := if_neg h
section
variable {w w' : World} {wb mb rb : Nat} {M : MatchZ} {yv cv : Value} {R : List ByteArray} {cb : Nat -> Nat} {ov : Nat -> Value} {st : Nat -> List (Nat × Nat)}
theorem WalkAt.kp {F : Nat -> Prop} (h : WalkAt w wb mb M yv cv rb R cb ov st) (hk : Kp F w w') (hf : ∀ k, aIf wb rb M.Ts.length cv cb ov k -> ¬ F k) : WalkAt w' wb mb M yv cv rb R cb ov st :=
 ⟨h.box.kp hk (hf _ (.inl rfl)), h.rowB.kp hk (hf _ (.inr (.inl rfl))), h.rowL, h.curs.kp' hk fun g hg _ => hf g (.inr (.inr (.inl hg))), fun j t ht => (h.cur j t ht).kp hk fun k hk' => hf k (.inr (.inr (.inr ⟨j, (List.getElem?_eq_some_iff.1 ht).1, hk'⟩))), h.apart⟩
theorem WalkAt.ext (h : WalkAt w wb mb M yv cv rb R cb ov st) (hk : Ext w w') : WalkAt w' wb mb M yv cv rb R cb ov st := h.kp hk fun _ _ => id
theorem WalkAt.lt (h : WalkAt w wb mb M yv cv rb R cb ov st) : ∀ k, aIf wb rb M.Ts.length cv cb ov k -> k < w.heap.size := fun k hk => by
 rcases hk with rfl | rfl | hk | ⟨j, hj, hk⟩
 ·exact h.box.lt
 ·exact h.rowB.lt
 ·obtain ⟨cs, hb⟩ := aQ h.curs hk
  exact hb.lt
 ·exact (h.cur j _ (qG hj)).foot k hk
theorem aFt : 286 ≠ 307 /\ 286 ≠ 321 /\ 9 ≠ 307 /\ 9 ≠ 321 /\ 288 ≠ 307 /\ 288 ≠ 321 /\ 286 ≠ 9 /\ 288 ≠ 9 /\ 286 ≠ 288 := by decide
theorem CurAt.notB {tb : Nat} {c : Nat} {s : List (Nat × Nat)} {o : Value} {M' : Nat -> Prop} (h : CurAt w c tb s o M') {g : Nat} {cs : List Value} {e : TypeId} (hb : Blk w g cs e) (h1 : e ≠ 307) (h2 : e ≠ 321) : ¬ gV c o g := fun hk => by
 rcases hk with rfl | hk
 ·exact h1 (aK hb h.box)
 ·obtain ⟨cs', hb'⟩ := aQ h.row hk
  exact h2 (aK hb hb')
theorem WalkAt.turn (h : WalkAt w wb mb M yv cv rb R cb ov st) {j : Nat} {t : TrieZ} (ht : M.Ts[j]? = some t) (hk : Kp (gV (cb j) (ov j)) w w') {ov' : Value} {st' : List (Nat × Nat)} (hc : CurS w' (cb j) t.tb st' ov') (ho : ∀ k, ov'.ownBlock = some k -> (ov j).ownBlock = some k \/ w.heap.size ≤ k) :
 WalkAt w' wb mb M yv cv rb R cb (cH ov j ov') (cH st j st') := by
 have hcj := h.cur j t ht
 have hj := (List.getElem?_eq_some_iff.1 ht).1
 obtain ⟨t1, t2, t3, t4, t5, t6, -⟩ := aFt
 have far : ∀ i, i < M.Ts.length -> i ≠ j -> ∀ k, gV (cb i) (ov i) k -> ¬ gV (cb j) (ov j) k := fun i hi hne k h1 h2 => by
  obtain ⟨a1, a2⟩ := h.apart i j hi hj hne
  rcases h1 with rfl | h1
  ·rcases h2 with h2 | h2
   ·exact a1 h2
   ·obtain ⟨cs, hb⟩ := aQ hcj.row h2
    exact qF (aK (h.cur i _ (qG hi)).box hb)
  ·rcases h2 with rfl | h2
   ·obtain ⟨cs, hb⟩ := aQ (h.cur i _ (qG hi)).row h1
    exact qF (aK hcj.box hb)
   ·exact a2 k h1 h2
 refine ⟨h.box.kp hk (hcj.notB h.box t1 t2), h.rowB.kp hk (hcj.notB h.rowB t3 t4), h.rowL, h.curs.kp' hk fun g hg _ => ?_, fun i u hi => ?_, fun i l hi hl hne => ⟨(h.apart i l hi hl hne).1, fun k h1 h2 => ?_⟩⟩
 ·obtain ⟨cs, hb⟩ := aQ h.curs hg
  exact hcj.notB hb t5 t6
 ·by_cases e : i = j
  ·subst e
   rw [ht] at hi; cases hi
   rw [upd_same, upd_same]; exact hc
  ·rw [aH _ _ e, aH _ _ e]
   exact (h.cur i u hi).kp hk (far i (List.getElem?_eq_some_iff.1 hi).1 e)
 ·have old : ∀ i, i < M.Ts.length -> ∀ k, (ov i).ownBlock = some k -> k < w.heap.size := fun i hi k hk => (h.cur i _ (qG hi)).foot k (.inr hk)
  by_cases e : i = j
  ·subst e
   rw [upd_same] at h1
   rw [aH _ _ (fun e => hne e.symm)] at h2
   rcases ho k h1 with h3 | h3
   ·exact (h.apart i l hi hl hne).2 k h3 h2
   ·have := old l hl k h2; omega
  ·rw [aH _ _ e] at h1
   by_cases e2 : l = j
   ·subst e2
    rw [upd_same] at h2
    rcases ho k h2 with h3 | h3
    ·exact (h.apart i l hi hl hne).2 k h1 h3
    ·have := old i hi k h1; omega
   ·rw [aH _ _ e2] at h2
    exact (h.apart i l hi hl hne).2 k h1 h2
theorem WalkAt.own_turn {ov' : Value} {j n : Nat} (ho : ∀ k, ov'.ownBlock = some k -> (ov j).ownBlock = some k \/ w.heap.size ≤ k) : ∀ k, aIf wb rb n cv cb (cH ov j ov') k -> aIf wb rb n cv cb ov k \/ w.heap.size ≤ k := fun k hk => by
 rcases hk with hk | hk | hk | ⟨i, hi, hk⟩
 ·exact .inl (.inl hk)
 ·exact .inl (.inr (.inl hk))
 ·exact .inl (.inr (.inr (.inl hk)))
 ·by_cases e : i = j
  ·subst e
   rw [upd_same] at hk
   rcases hk with hk | hk
   ·exact .inl (.inr (.inr (.inr ⟨i, hi, .inl hk⟩)))
   ·rcases ho k hk with h | h
    ·exact .inl (.inr (.inr (.inr ⟨i, hi, .inr h⟩)))
    ·exact .inr h
  ·rw [aH _ _ e] at hk
   exact .inl (.inr (.inr (.inr ⟨i, hi, hk⟩)))
theorem WalkAt.put (h : WalkAt w wb mb M yv cv rb R cb ov st) (v : Nat) (x : ByteArray) : WalkAt (w.setCell ⟨rb, v, none⟩ (.string x)) wb mb M yv cv rb (R.set v x) cb ov st /\ Kp (fun k => k = rb) w (w.setCell ⟨rb, v, none⟩ (.string x)) := by
 have hk : Kp (fun k => k = rb) w (w.setCell ⟨rb, v, none⟩ (.string x)) := kSa
 obtain ⟨t1, t2, t3, t4, t5, t6, t7, t8, t9⟩ := aFt
 refine ⟨⟨h.box.kp hk fun e => ?_, ?_, by rw [List.length_set]; exact h.rowL, h.curs.kp' hk fun g hg _ e => ?_, fun j t ht => (h.cur j t ht).kp hk fun k hf e => ?_, h.apart⟩, hk⟩
 ·have h1 := h.box
  rw [e] at h1
  exact t7 (aK h1 h.rowB)
 ·have := h.rowB.set v (.string x)
  have e : (strs R).set v (.string x) = strs (R.set v x) := by unfold strs; rw [List.map_set]
  rw [e] at this; exact this
 ·obtain ⟨cs, hb⟩ := aQ h.curs hg
  rw [e] at hb
  exact t8 (aK hb h.rowB)
 ·have e' : k = rb := e
  rw [e'] at hf
  exact (h.cur j t ht).notB h.rowB t3 t4 hf
theorem WalkAt.ptr (h : WalkAt w wb mb M yv cv rb R cb ov st) : ∃ ca cc, cv = .slice ca M.Ts.length cc /\ ∀ j, j < M.Ts.length -> ∃ b o, ca = some ⟨b, o, none⟩ /\ w.cell? ⟨b, o + j, none⟩ = some (.pointer (some ⟨cb j, 0, none⟩)) := by
 obtain ⟨ca, cc, e, hc, _⟩ := h.curs.shape
 refine ⟨ca, cc, e, fun j hj => ?_⟩
 exact hc j _ (by unfold vN; rw [List.getElem?_map, List.getElem?_range hj]; rfl)
end
theorem pG {P : Program} {w : World} {a : Addr} {m : Mode} (f : Fn) (x y : Array Value) : (store a (.func f x y) m).run P w = stored P w a (.func f x y) m := run_store P w a _ m rfl
attribute [local go_sem] pG
def Fast (a b : Nat) (w : World) (P : World -> Prop) : Prop := ∀ W, Kp (fun k => ¬ (a ≤ k /\ k < b)) w W -> P W
theorem Fast.here {a b : Nat} {w : World} {P : World -> Prop} (h : Fast a b w P) : P w := h w (Kp.refl _)
theorem Fast.kp {a b : Nat} {w w' : World} {P : World -> Prop} {G : Nat -> Prop} (h : Fast a b w P) (hk : Kp G w w') (hG : ∀ k, G k -> ¬ (a ≤ k /\ k < b)) : Fast a b w' P := fun W hW => h W ((hk.mono fun k _ hg => hG k hg).trans hW)
theorem Fast.mono {a b a' b' : Nat} {w : World} {P : World -> Prop} (h : Fast a b w P) (ha : a' ≤ a) (hb : b ≤ b') : Fast a' b' w P := fun W hW => h W (hW.mono fun k _ hk h2 => hk ⟨by omega, by omega⟩)
theorem Fast.ext {a b : Nat} {w w' : World} {P : World -> Prop} (h : Fast a b w P) (hk : Ext w w') : Fast a b w' P := h.kp hk fun _ h => h.elim
def eI (V : List ByteArray) (a : Int) (s : ByteArray) : ByteArray := if a < 0 then s else aZ V a.toNat
set_option maxHeartbeats 1000000 in
theorem yA {w : World} {ra : Option Addr} {cp nv : Nat} {V : List ByteArray} (a : Int) (k : Int) (s : ByteArray) (hV : V.length = nv) (hc : CellsAt w ra (strs V)) (ha : a < nv) (hn : nv ≤ 1048576) (ha2 : -1 ≤ a) :
 Calls Tryz.prog 227 #[.slice ra nv cp, .int .i64 a, wP k s] w (RetN w fun w' v => v = .string (eI V a s)) := by
 go_enter Tryz.func227, Tryz.ntmps227
 obtain ⟨w1, e1⟩ : ∃ w1, w.alloc (.cells #[.int .i64 k, .string s] 58) = w1 := ⟨_, rfl⟩
 obtain ⟨g0, eg0⟩ : ∃ g, w.heap.size = g := ⟨_, rfl⟩
 have hB : Blk w1 g0 [.int .i64 k, .string s] 58 := by rw [<- e1, <- eg0]; exact Blk.new w _ _
 have hx : Ext w w1 := by rw [<- e1]; exact (Kp.refl w).alloc _
 have b1 := hB.c1
 have H1 := qH hx
 have hc1 := hc.ext hx
 clear hx hB hc
 by_cases h0 : a < 0
 ·have HP := qH (show eI V a s = s from if_pos h0)
  clear hc1 ha ha2
  go_wp2
  go_ret
  exact RetN.mk H1.out (by rw [HP.out]; rfl)
 ·obtain ⟨i, rfl⟩ : ∃ i : Nat, a = i := ⟨a.toNat, by omega⟩
  have hi : i < nv := by omega
  obtain ⟨x, hx⟩ : ∃ x, V[i]? = some x := ⟨_, qG (by omega)⟩
  have HP := qH (show eI V (i : Int) s = x from by
   unfold eI aZ
   rw [if_neg h0, Int.toNat_natCast, List.getD_eq_getElem?_getD, hx]; rfl)
  obtain ⟨b, o, e, c0⟩ := hc1 i (.string x) (by simp [strs, hx])
  subst e
  clear hc1 ha ha2 hx
  go_wp2
  go_ret
  exact RetN.mk H1.out (by rw [HP.out]; rfl)
theorem aK1 (x y : ByteArray) : (Op.bytesLess x.toList y.toList || x.toList == y.toList) = !Op.bytesLess y.toList x.toList := by
 have sw := fZ x.toList y.toList
 have no : ∀ {u v : List UInt8}, ¬ bD u v < 0 -> Op.bytesLess u v = false := fun {u v} h => by
  cases h2 : Op.bytesLess u v with
  | false => rfl
  | true => exact absurd (eO.2 h2) h
 rcases jD x.toList y.toList with h | h | h
 ·rw [eO.1 (by omega : bD x.toList y.toList < 0), no (by omega : ¬ bD y.toList x.toList < 0)]; rfl
 ·have e := dP (fC h)
  subst e
  rw [no (by rw [dX]; omega : ¬ bD x.toList x.toList < 0)]; simp
 ·have h2 : bD y.toList x.toList < 0 := by omega
  have hne : ¬ x = y := fun e => by subst e; rw [dX] at h2; omega
  rw [eO.1 h2, no (by omega : ¬ bD x.toList y.toList < 0), kU hne]; rfl
set_option maxHeartbeats 4000000 in
theorem aHx {w : World} {ra : Option Addr} {cp nv ob ab lb bb : Nat} {V : List ByteArray} (a b op lk rk : Int) (lt rt : ByteArray) (hV : V.length = nv) (hc : CellsAt w ra (strs V)) (ha : a < nv) (hb : b < nv) (hn : nv ≤ 1048576) (ha2 : -1 ≤ a) (hb2 : -1 ≤ b)
 (o0 : w.cell? ⟨ob, 0, none⟩ = some (.func (Fn.func 227) #[] #[])) (a0 : w.cell? ⟨ab, 0, none⟩ = some (.int .i64 a)) (b0 : w.cell? ⟨bb, 0, none⟩ = some (.int .i64 b))
 (l3 : w.cell? ⟨lb, 3, none⟩ = some (.int .i64 op)) (l4 : w.cell? ⟨lb, 4, none⟩ = some (.int .i64 lk)) (l5 : w.cell? ⟨lb, 5, none⟩ = some (.string lt)) (l6 : w.cell? ⟨lb, 6, none⟩ = some (.int .i64 rk)) (l7 : w.cell? ⟨lb, 7, none⟩ = some (.string rt)) :
 Calls Tryz.prog 228 (#[.slice ra nv cp] ++ #[.pointer (some ⟨ob, 0, none⟩), .pointer (some ⟨ab, 0, none⟩), .pointer (some ⟨lb, 0, none⟩), .pointer (some ⟨bb, 0, none⟩)]) w (RetN w fun w' v => v = .bool (opB op (eI V a lt) (eI V b rt))) := by
 have HL := qH (fun W (hW : Ext w W) => yA (cp := cp) a lk lt hV (hc.ext hW) ha hn ha2)
 have HR := qH (fun W (hW : Ext w W) => yA (cp := cp) b rk rt hV (hc.ext hW) hb hn hb2)
 obtain ⟨x, ex⟩ : ∃ x, eI V a lt = x := ⟨_, rfl⟩
 obtain ⟨y, ey⟩ : ∃ y, eI V b rt = y := ⟨_, rfl⟩
 rw [ex] at HL
 rw [ey] at HR
 rw [ex, ey]
 have HJ := qH (show ∀ w', Ext w w' -> (fun w' : World => w'.cell? ⟨ob, 0, none⟩ = some (.func (Fn.func 227) #[] #[]) /\ w'.cell? ⟨ab, 0, none⟩ = some (.int .i64 a) /\ w'.cell? ⟨bb, 0, none⟩ = some (.int .i64 b) /\ w'.cell? ⟨lb, 4, none⟩ = some (.int .i64 lk) /\ w'.cell? ⟨lb, 5, none⟩ = some (.string lt) /\ w'.cell? ⟨lb, 6, none⟩ = some (.int .i64 rk) /\ w'.cell? ⟨lb, 7, none⟩ = some (.string rt)) w' from fun w' hw' =>
  ⟨hw'.cell o0 id, hw'.cell a0 id, hw'.cell b0 id, hw'.cell l4 id, hw'.cell l5 id, hw'.cell l6 id, hw'.cell l7 id⟩)
 have HL3 := qH l3
 clear hc ha hb ha2 hb2 hV ex ey l3
 go_enter Tryz.func228, Tryz.ntmps228
 go_wp2
 refine bB (fun w' : World => w'.cell? ⟨ob, 0, none⟩ = some (.func (Fn.func 227) #[] #[]) /\ w'.cell? ⟨ab, 0, none⟩ = some (.int .i64 a) /\ w'.cell? ⟨bb, 0, none⟩ = some (.int .i64 b) /\ w'.cell? ⟨lb, 4, none⟩ = some (.int .i64 lk) /\ w'.cell? ⟨lb, 5, none⟩ = some (.string lt) /\ w'.cell? ⟨lb, 6, none⟩ = some (.int .i64 rk) /\ w'.cell? ⟨lb, 7, none⟩ = some (.string rt)) [] (by kernel_rfl) (HJ.out _ (Kp.refl w).drew) (fun hHeld => ?_)
 refine dI 0 ?_; try simp only [Act.put,sI,sZ,sS]
 refine dF 1 ?_; try simp only [Act.put,sI,sZ,sS]
 refine dI 2 ?_; try simp only [Act.put,sI,sZ,sS]
 refine dF 3 ?_; try simp only [Act.put,sI,sZ,sS]
 refine dI 4 ?_; try simp only [Act.put,sI,sZ,sS]
 refine dI 6 ?_; try simp only [Act.put,sI,sZ,sS]
 refine dF 7 ?_; try simp only [Act.put,sI,sZ,sS]
 refine dI 8 ?_; try simp only [Act.put,sI,sZ,sS]
 refine dF 9 ?_; try simp only [Act.put,sI,sZ,sS]
 refine dI 10 ?_; try simp only [Act.put,sI,sZ,sS]
 refine aF (i := 5) ?_
 refine aG (i := 5) rfl (fun K hK => ?_)
 go_simp
 (refine (HL.out _ (Kp.refl w).drew).mono ?_; rintro e w1 ⟨v1, rfl, hk1, rfl⟩; have X1 := qH (show Ext w w1 from ((Kp.refl w).drew).trans hk1); clear hk1)
 go_wp2_with fail
 refine hK.out _ _ ?_ (fun hHeld => ?_)
 ·(try dsimp only); (exact HJ.out _ X1.out)
 clear hK K; (try simp only [Act.put,sI,sZ,sS])
 refine aF (i := 11) ?_
 refine aG (i := 11) rfl (fun K hK => ?_)
 go_simp
 (refine (HR.out _ X1.out).mono ?_; rintro e w2 ⟨v2, rfl, hk2, rfl⟩; have X2 := qH (show Ext w w2 from X1.out.trans hk2); clear hk2)
 go_wp2_with fail
 refine hK.out _ _ ?_ (fun hHeld => ?_)
 ·(try dsimp only); (exact HJ.out _ X2.out)
 clear hK K; (try simp only [Act.put,sI,sZ,sS])
 refine dF 12 ?_; try simp only [Act.put,sI,sZ,sS]
 refine dF 13 ?_; try simp only [Act.put,sI,sZ,sS]
 refine aN (by kernel_rfl) ?_ _
 clear hHeld
 have l3 := X2.out.cell HL3.out id
 by_cases h1 : op = 1
 ·subst h1
  have hq := tC x y
  go_wp2
  go_ret
  exact RetN.mk X2.out (congrArg Value.bool (by unfold opB; rw [if_pos rfl]))
 ·have g1 : (op == 1) = false := by simp [h1]
  by_cases h2 : op = 2
  ·subst h2
   have hq := tC x y
   go_wp2
   go_ret
   exact RetN.mk X2.out (congrArg Value.bool (by unfold opB; rw [if_neg (by decide), if_pos rfl]; simp))
  ·have g2 : (op == 2) = false := by simp [h2]
   by_cases h3 : op = 3
   ·subst h3
    clear h1 h2
    go_wp2
    go_ret
    exact RetN.mk X2.out (congrArg Value.bool (by unfold opB; rw [if_neg (by decide), if_neg (by decide), if_pos rfl]))
   ·have g3 : (op == 3) = false := by simp [h3]
    have HN := qH (And.intro h1 (And.intro h2 h3))
    clear h1 h2 h3
    go_wp2
    go_ret
    exact RetN.mk X2.out (congrArg Value.bool (by unfold opB; rw [if_neg HN.out.1, if_neg HN.out.2.1, if_neg HN.out.2.2]; exact aK1 x y))
def cO (N : List ByteArray) (k : Int) (s : ByteArray) : Int := if k = 1 then bI (fun x => decide (x = s)) N else -1
theorem aHh {α : Type} (q : α -> Bool) (l : List α) : bI q l < l.length /\ -1 ≤ bI q l := by
 unfold bI
 split
 ·rename_i h
  obtain ⟨x, hx, hq⟩ := List.any_eq_true.1 h
  have := List.findIdx_lt_length_of_exists ⟨x, hx, hq⟩
  omega
 ·omega
theorem wY (N : List ByteArray) (k : Int) (s : ByteArray) : cO N k s < N.length /\ -1 ≤ cO N k s := by
 unfold cO
 split
 ·exact aHh _ _
 ·omega
structure CmpAt (w X : World) (g0 : Nat) (lc : List Value) (A B : Int) : Prop where
 lit : Blk X g0 lc 60
 res : Blk X (g0 + 1) [.int .i64 0, .nilFunc] 280
 a : Blk X (g0 + 1 + 1) [.int .i64 A] 3
 b : Blk X (g0 + 1 + 1 + 1) [.int .i64 B] 3
 kp : Ext w X
theorem CmpAt.ext {w X Y : World} {g0 : Nat} {lc : List Value} {A B : Int} (h : CmpAt w X g0 lc A B) (hk : Ext X Y) : CmpAt w Y g0 lc A B := ⟨h.lit.ext hk, h.res.ext hk, h.a.ext hk, h.b.ext hk, h.kp.trans hk⟩
theorem CmpAt.putA {w X : World} {g0 : Nat} {lc : List Value} {A B : Int} (h : CmpAt w X g0 lc A B) (hg : w.heap.size ≤ g0) (z : Int) : CmpAt w (X.setCell ⟨g0 + 1 + 1, 0, none⟩ (.int .i64 z)) g0 lc z B :=
 ⟨h.lit.other (by show g0 ≠ g0 + 1 + 1; omega) _, h.res.other (by show g0 + 1 ≠ g0 + 1 + 1; omega) _, h.a.set 0 _, h.b.other (by show g0 + 1 + 1 + 1 ≠ g0 + 1 + 1; omega) _, h.kp.setCell (p := ⟨g0 + 1 + 1, 0, none⟩) (fun h2 => by have h3 : g0 + 1 + 1 < w.heap.size := h2; omega) _⟩
theorem CmpAt.putB {w X : World} {g0 : Nat} {lc : List Value} {A B : Int} (h : CmpAt w X g0 lc A B) (hg : w.heap.size ≤ g0) (z : Int) : CmpAt w (X.setCell ⟨g0 + 1 + 1 + 1, 0, none⟩ (.int .i64 z)) g0 lc A z :=
 ⟨h.lit.other (by show g0 ≠ g0 + 1 + 1 + 1; omega) _, h.res.other (by show g0 + 1 ≠ g0 + 1 + 1 + 1; omega) _, h.a.other (by show g0 + 1 + 1 ≠ g0 + 1 + 1 + 1; omega) _, h.b.set 0 _, h.kp.setCell (p := ⟨g0 + 1 + 1 + 1, 0, none⟩) (fun h2 => by have h3 : g0 + 1 + 1 + 1 < w.heap.size := h2; omega) _⟩
theorem CmpAt.close {w X : World} {g0 nn : Nat} {k op lk rk : Int} {p lt rt : ByteArray} {sl : Value} {A B : Int} (h : CmpAt w X g0 [.int .i64 k, .string p, sl, .int .i64 op, .int .i64 lk, .string lt, .int .i64 rk, .string rt] A B) (hg : w.heap.size = g0) (hA : A < nn /\ -1 ≤ A) (hB : B < nn /\ -1 ≤ B) (hn : nn ≤ 1048576) :
 ∃ t : TestZ, Value.agg #[.int .i64 (max A B), .func (Fn.func 228) #[] #[.pointer (some ⟨X.heap.size, 0, none⟩), .pointer (some ⟨g0 + 1 + 1, 0, none⟩), .pointer (some ⟨g0, 0, none⟩), .pointer (some ⟨g0 + 1 + 1 + 1, 0, none⟩)]] = .agg #[.int .i64 t.last, t.val] /\ t.last = max A B /\ (∀ V, t.ask V = opB op (eI V A lt) (eI V B rt)) /\
  ∀ W, Blk W g0 [.int .i64 k, .string p, sl, .int .i64 op, .int .i64 lk, .string lt, .int .i64 rk, .string rt] 60 -> Blk W (g0 + 1 + 1) [.int .i64 A] 3 -> Blk W (g0 + 1 + 1 + 1) [.int .i64 B] 3 -> Blk W X.heap.size [.func (Fn.func 227) #[] #[]] 304 -> TestOk W nn t := by
 refine ⟨⟨228, #[.pointer (some ⟨X.heap.size, 0, none⟩), .pointer (some ⟨g0 + 1 + 1, 0, none⟩), .pointer (some ⟨g0, 0, none⟩), .pointer (some ⟨g0 + 1 + 1 + 1, 0, none⟩)], max A B, fun V => opB op (eI V A lt) (eI V B rt)⟩, rfl, rfl, fun V => rfl, fun W b1 b2 b3 b4 => ⟨enters_of Tryz.func228 (by kernel_rfl) rfl, fun W2 hW2 ra cp V hV hc => ?_⟩⟩
 replace b1 := b1.ext hW2
 replace b2 := b2.ext hW2
 replace b3 := b3.ext hW2
 replace b4 := b4.ext hW2
 exact aHx A B op lk rk lt rt hV hc hA.1 hB.1 hn hA.2 hB.2 (by rw [b4.cell']; rfl) (by rw [b2.cell']; rfl) (by rw [b3.cell']; rfl) (by rw [b1.cell']; rfl) (by rw [b1.cell']; rfl) (by rw [b1.cell']; rfl) (by rw [b1.cell']; rfl) (by rw [b1.cell']; rfl)
theorem jR {w X9 : World} {g0 nn gX : Nat} {k op lk rk A B M : Int} {p lt rt : ByteArray} {sl : Value} {tm : Array Value} (H9 : CmpAt w X9 g0 [.int .i64 k, .string p, sl, .int .i64 op, .int .i64 lk, .string lt, .int .i64 rk, .string rt] A B /\ Blk X9 gX [.func (Fn.func 227) #[] #[]] 304) (hg : w.heap.size = g0) (hgX : g0 + 1 + 1 + 1 < gX) (hM : max A B = M) (ht : tm[4]?.getD undef = .pointer (some ⟨g0 + 1, 0, none⟩))
 (HT : ∃ t : TestZ, Value.agg #[.int .i64 (max A B), .func (Fn.func 228) #[] #[.pointer (some ⟨gX, 0, none⟩), .pointer (some ⟨g0 + 1 + 1, 0, none⟩), .pointer (some ⟨g0, 0, none⟩), .pointer (some ⟨g0 + 1 + 1 + 1, 0, none⟩)]] = .agg #[.int .i64 t.last, t.val] /\ t.last = max A B /\ (∀ V, t.ask V = opB op (eI V A lt) (eI V B rt)) /\
  ∀ W, Blk W g0 [.int .i64 k, .string p, sl, .int .i64 op, .int .i64 lk, .string lt, .int .i64 rk, .string rt] 60 -> Blk W (g0 + 1 + 1) [.int .i64 A] 3 -> Blk W (g0 + 1 + 1 + 1) [.int .i64 B] 3 -> Blk W gX [.func (Fn.func 227) #[] #[]] 304 -> TestOk W nn t) :
 bodyPost Tryz.prog Tryz.f213 (RetN w fun w' v => ∃ t : TestZ, v = .agg #[.int .i64 t.last, t.val] /\ t.last = max A B /\ (∀ V, t.ask V = opB op (eI V A lt) (eI V B rt)) /\ Fast g0 w'.heap.size w' fun W => TestOk W nn t) .ret
  {tmps := tm, defers := [] } ((X9.setCell ⟨g0 + 1, 0, none⟩ (.int .i64 M)).setCell ⟨g0 + 1, 1, none⟩ (.func (Fn.func 228) #[] #[.pointer (some ⟨gX, 0, none⟩), .pointer (some ⟨g0 + 1 + 1, 0, none⟩), .pointer (some ⟨g0, 0, none⟩), .pointer (some ⟨g0 + 1 + 1 + 1, 0, none⟩)])) := by
 obtain ⟨t, et, htl, hask, hok⟩ := HT
 obtain ⟨fv, efv⟩ : ∃ x, Value.func (Fn.func 228) #[] #[.pointer (some ⟨gX, 0, none⟩), .pointer (some ⟨g0 + 1 + 1, 0, none⟩), .pointer (some ⟨g0, 0, none⟩), .pointer (some ⟨g0 + 1 + 1 + 1, 0, none⟩)] = x := ⟨_, rfl⟩
 rw [efv, hM] at et
 rw [efv]
 obtain ⟨X, eX⟩ : ∃ x, (X9.setCell ⟨g0 + 1, 0, none⟩ (.int .i64 M)).setCell ⟨g0 + 1, 1, none⟩ fv = x := ⟨_, rfl⟩
 have hres : Blk X (g0 + 1) [.int .i64 M, fv] 280 := by rw [<- eX]; exact (H9.1.res.set 0 _).set 1 _
 have hkp : Kp (fun k => k = g0 + 1) X9 X := by rw [<- eX]; exact kSb
 rw [eX]
 have u0 := hres.c0
 have u1 := hres.c1
 refine bodyPost_ret (v := .agg #[.int .i64 M, fv]) (by simp [results, Tryz.results213, go_sem, ht, u0, u1]) rfl ?_
 refine RetN.mk (H9.1.kp.trans' hkp fun i hi e => ?_) ⟨t, et, htl, hask, fun W hW => ?_⟩
 ·have e' : i = g0 + 1 := e
  omega
 ·have inn : ∀ {g : Nat} {cs : List Value} {e : TypeId}, Blk X9 g cs e -> g ≠ g0 + 1 -> g0 ≤ g -> Blk W g cs e := fun {g cs e} hb hne hge => by
   have hbX := hb.kp hkp hne
   exact hbX.kp hW fun h => h ⟨by omega, hbX.lt⟩
  exact hok W (inn H9.1.lit (by omega) (Nat.le_refl _)) (inn H9.1.a (by omega) (by omega)) (inn H9.1.b (by omega) (by omega)) (inn H9.2 (by omega) (by omega))
set_option maxHeartbeats 4000000 in
theorem zS {w : World} {na a : Option Addr} {m cap nn nc : Nat} (N : List ByteArray) (k : Int) (p : ByteArray) (op lk : Int) (lt : ByteArray) (rk : Int) (rt : ByteArray) (hN : nn = N.length) (hc : CellsAt w na (strs N)) (hn : nn ≤ 1048576) :
 Calls Tryz.prog 213 #[litV k p a m cap op lk lt rk rt, .slice na nn nc] w (RetN w fun w' v => ∃ t : TestZ, v = .agg #[.int .i64 t.last, t.val] /\ t.last = max (cO N lk lt) (cO N rk rt) /\ (∀ V, t.ask V = opB op (eI V (cO N lk lt) lt) (eI V (cO N rk rt) rt)) /\ Fast w.heap.size w'.heap.size w' fun W => TestOk W nn t) := by
 have HIL := qH (fun W (hW : Ext w W) => fB N lt na nn nc W hN (hc.ext hW) (by omega))
 have HIR := qH (fun W (hW : Ext w W) => fB N rt na nn nc W hN (hc.ext hW) (by omega))
 have HPL := qH (show cO N lk lt < nn /\ -1 ≤ cO N lk lt from by rw [hN]; exact wY N lk lt)
 have HPR := qH (show cO N rk rt < nn /\ -1 ≤ cO N rk rt from by rw [hN]; exact wY N rk rt)
 clear hc hN
 obtain ⟨w4, e4⟩ : ∃ x, (((w.alloc (.cells #[.int .i64 k, .string p, .slice a m cap, .int .i64 op, .int .i64 lk, .string lt, .int .i64 rk, .string rt] 60)).alloc (.cells #[.int .i64 0, .nilFunc] 280)).alloc (.cells #[.int .i64 (-1)] 3)).alloc (.cells #[.int .i64 (-1)] 3) = x := ⟨_, rfl⟩
 obtain ⟨g0, eg0⟩ : ∃ g, w.heap.size = g := ⟨_, rfl⟩
 obtain ⟨w1, e1⟩ : ∃ x, w.alloc (.cells #[.int .i64 k, .string p, .slice a m cap, .int .i64 op, .int .i64 lk, .string lt, .int .i64 rk, .string rt] 60) = x := ⟨_, rfl⟩
 obtain ⟨w2, e2⟩ : ∃ x, w1.alloc (.cells #[.int .i64 0, .nilFunc] 280) = x := ⟨_, rfl⟩
 obtain ⟨w3, e3⟩ : ∃ x, w2.alloc (.cells #[.int .i64 (-1)] 3) = x := ⟨_, rfl⟩
 rw [e1, e2, e3] at e4
 have s1 : w1.heap.size = g0 + 1 := by rw [<- e1, aI, eg0]
 have s2 : w2.heap.size = g0 + 1 + 1 := by rw [<- e2, aI, s1]
 have s3 : w3.heap.size = g0 + 1 + 1 + 1 := by rw [<- e3, aI, s2]
 have x1 : Ext w w1 := by rw [<- e1]; exact (Kp.refl w).alloc _
 have x2 : Ext w1 w2 := by rw [<- e2]; exact (Kp.refl w1).alloc _
 have x3 : Ext w2 w3 := by rw [<- e3]; exact (Kp.refl w2).alloc _
 have x4 : Ext w3 w4 := by rw [<- e4]; exact (Kp.refl w3).alloc _
 have hC := qH (show CmpAt w w4 g0 [.int .i64 k, .string p, .slice a m cap, .int .i64 op, .int .i64 lk, .string lt, .int .i64 rk, .string rt] (-1) (-1) from
  ⟨Blk.ext (by have h := Blk.new w [.int .i64 k, .string p, .slice a m cap, .int .i64 op, .int .i64 lk, .string lt, .int .i64 rk, .string rt] 60; rw [eg0] at h; rw [<- e1]; exact h) (x2.trans (x3.trans x4)),
   Blk.ext (by have h := Blk.new w1 [.int .i64 0, .nilFunc] 280; rw [s1] at h; rw [<- e2]; exact h) (x3.trans x4),
   Blk.ext (by have h := Blk.new w2 [.int .i64 (-1)] 3; rw [s2] at h; rw [<- e3]; exact h) x4,
   by have h := Blk.new w3 [.int .i64 (-1)] 3; rw [s3] at h; rw [<- e4]; exact h, x1.trans (x2.trans (x3.trans x4))⟩)
 clear x1 x2 x3 x4 s1 s2 s3
 have ew4 : (((w.alloc (.cells #[.int .i64 k, .string p, .slice a m cap, .int .i64 op, .int .i64 lk, .string lt, .int .i64 rk, .string rt] 60)).alloc (.cells #[.int .i64 0, .nilFunc] 280)).alloc (.cells #[.int .i64 (-1)] 3)).alloc (.cells #[.int .i64 (-1)] 3) = w4 := by rw [e1, e2, e3, e4]
 clear e1 e2 e3 e4 w1 w2 w3
 have t0 := hC.out.lit.c4
 have t1 := hC.out.lit.c5
 have t2 := hC.out.lit.c6
 by_cases hl : lk = 1
 ·subst hl
  by_cases hr : rk = 1
  ·subst hr
   have eL : cO N 1 lt = bI (fun x => decide (x = lt)) N := if_pos rfl
   have eR : cO N 1 rt = bI (fun x => decide (x = rt)) N := if_pos rfl
   obtain ⟨za, eza⟩ : ∃ z, bI (fun x => decide (x = lt)) N = z := ⟨_, rfl⟩
   rw [eza] at HIL eL
   obtain ⟨zb, ezb⟩ : ∃ z, bI (fun x => decide (x = rt)) N = z := ⟨_, rfl⟩
   rw [ezb] at HIR eR
   rw [eL] at HPL ⊢
   rw [eR] at HPR ⊢
   clear eL eR eza ezb
   go_enter Tryz.func213, Tryz.ntmps213
   go_wp2_with fail
   refine (HIL.out w4 hC.out.kp).mono ?_
   rintro e w5 ⟨v, rfl, hk5, rfl⟩
   have H5 := qH (hC.out.ext hk5)
   obtain ⟨X5, eX5⟩ : ∃ x, w5.setCell ⟨g0 + 1 + 1, 0, none⟩ (.int .i64 za) = x := ⟨_, rfl⟩
   have H6 := qH (show CmpAt w X5 g0 [.int .i64 k, .string p, .slice a m cap, .int .i64 op, .int .i64 1, .string lt, .int .i64 1, .string rt] za (-1) from by rw [<- eX5]; exact H5.out.putA (by omega) za)
   have u0 := H5.out.a.c0
   have u1 := H5.out.a.free 0
   clear hk5 t0 t1 t2
   have v2 := H6.out.lit.c6
   have v3 := H6.out.lit.c7
   go_wp2_with fail
   refine (HIR.out X5 H6.out.kp).mono ?_
   rintro e w6 ⟨v, rfl, hk6, rfl⟩
   have H7 := qH (H6.out.ext hk6)
   obtain ⟨X7, eX7⟩ : ∃ x, w6.setCell ⟨g0 + 1 + 1 + 1, 0, none⟩ (.int .i64 zb) = x := ⟨_, rfl⟩
   have H8 := qH (show CmpAt w X7 g0 [.int .i64 k, .string p, .slice a m cap, .int .i64 op, .int .i64 1, .string lt, .int .i64 1, .string rt] za zb from by rw [<- eX7]; exact H7.out.putB (by omega) zb)
   have y0 := H7.out.b.c0
   have y1 := H7.out.b.free 0
   clear hk6 v2 v3 u0 u1
   obtain ⟨X8, eX8⟩ : ∃ x, X7.alloc (.cells #[.nilFunc] 304) = x := ⟨_, rfl⟩
   obtain ⟨gX, egX⟩ : ∃ x, X7.heap.size = x := ⟨_, rfl⟩
   have B8 : Blk X8 gX [.nilFunc] 304 := by rw [<- eX8, <- egX]; exact Blk.new X7 _ _
   have x8 : Ext X7 X8 := by rw [<- eX8]; exact (Kp.refl X7).alloc _
   have z0 := B8.c0
   have z1 := B8.free 0
   obtain ⟨X9, eX9⟩ : ∃ x, X8.setCell ⟨gX, 0, none⟩ (.func (Fn.func 227) #[] #[]) = x := ⟨_, rfl⟩
   have B9 : Blk X9 gX [.func (Fn.func 227) #[] #[]] 304 := by rw [<- eX9]; exact B8.set 0 _
   have hgX : g0 + 1 + 1 + 1 < gX := by rw [<- egX]; exact H8.out.b.lt
   have x9 : Ext X7 X9 := by rw [<- eX9]; exact x8.setCell (p := ⟨gX, 0, none⟩) (fun h2 => by have h3 : gX < X7.heap.size := h2; omega) _
   have H9 := qH (And.intro (H8.out.ext x9) B9)
   have a9 := H9.out.1.a.c0
   have b9 := H9.out.1.b.c0
   have r0 := H9.out.1.res.c0
   have r1 := H9.out.1.res.c1
   have rf0 := H9.out.1.res.free 0
   have rf1 := H9.out.1.res.free 1
   have HT := qH (CmpAt.close (nn := nn) H8.out eg0 HPL.out HPR.out hn)
   rw [egX] at HT
   have HGX := qH (And.intro hgX eg0)
   clear B8 x8 B9 x9 hgX
   go_wp2
   all_goals
    first | (rw [HGX.out.2]; refine jR H9.out HGX.out.2 HGX.out.1 ?_ rfl HT.out) | refine jR H9.out HGX.out.2 HGX.out.1 ?_ rfl HT.out
    omega
  ·skip
   have br : (rk == 1) = false := by simp [hr]
   have eL : cO N 1 lt = bI (fun x => decide (x = lt)) N := if_pos rfl
   have eR : cO N rk rt = -1 := if_neg hr
   obtain ⟨za, eza⟩ : ∃ z, bI (fun x => decide (x = lt)) N = z := ⟨_, rfl⟩
   rw [eza] at HIL eL
   rw [eL] at HPL ⊢
   rw [eR] at HPR ⊢
   clear eL eR eza hr
   go_enter Tryz.func213, Tryz.ntmps213
   go_wp2_with fail
   refine (HIL.out w4 hC.out.kp).mono ?_
   rintro e w5 ⟨v, rfl, hk5, rfl⟩
   have H5 := qH (hC.out.ext hk5)
   obtain ⟨X5, eX5⟩ : ∃ x, w5.setCell ⟨g0 + 1 + 1, 0, none⟩ (.int .i64 za) = x := ⟨_, rfl⟩
   have H6 := qH (show CmpAt w X5 g0 [.int .i64 k, .string p, .slice a m cap, .int .i64 op, .int .i64 1, .string lt, .int .i64 rk, .string rt] za (-1) from by rw [<- eX5]; exact H5.out.putA (by omega) za)
   have u0 := H5.out.a.c0
   have u1 := H5.out.a.free 0
   clear hk5 t0 t1 t2
   have v2 := H6.out.lit.c6
   have H8 := H6
   obtain ⟨X8, eX8⟩ : ∃ x, X5.alloc (.cells #[.nilFunc] 304) = x := ⟨_, rfl⟩
   obtain ⟨gX, egX⟩ : ∃ x, X5.heap.size = x := ⟨_, rfl⟩
   have B8 : Blk X8 gX [.nilFunc] 304 := by rw [<- eX8, <- egX]; exact Blk.new X5 _ _
   have x8 : Ext X5 X8 := by rw [<- eX8]; exact (Kp.refl X5).alloc _
   have z0 := B8.c0
   have z1 := B8.free 0
   obtain ⟨X9, eX9⟩ : ∃ x, X8.setCell ⟨gX, 0, none⟩ (.func (Fn.func 227) #[] #[]) = x := ⟨_, rfl⟩
   have B9 : Blk X9 gX [.func (Fn.func 227) #[] #[]] 304 := by rw [<- eX9]; exact B8.set 0 _
   have hgX : g0 + 1 + 1 + 1 < gX := by rw [<- egX]; exact H8.out.b.lt
   have x9 : Ext X5 X9 := by rw [<- eX9]; exact x8.setCell (p := ⟨gX, 0, none⟩) (fun h2 => by have h3 : gX < X5.heap.size := h2; omega) _
   have H9 := qH (And.intro (H8.out.ext x9) B9)
   have a9 := H9.out.1.a.c0
   have b9 := H9.out.1.b.c0
   have r0 := H9.out.1.res.c0
   have r1 := H9.out.1.res.c1
   have rf0 := H9.out.1.res.free 0
   have rf1 := H9.out.1.res.free 1
   have HT := qH (CmpAt.close (nn := nn) H8.out eg0 HPL.out HPR.out hn)
   rw [egX] at HT
   have HGX := qH (And.intro hgX eg0)
   clear B8 x8 B9 x9 hgX
   go_wp2
   all_goals
    first | (rw [HGX.out.2]; refine jR H9.out HGX.out.2 HGX.out.1 ?_ rfl HT.out) | refine jR H9.out HGX.out.2 HGX.out.1 ?_ rfl HT.out
    omega
 ·by_cases hr : rk = 1
  ·subst hr
   have bl : (lk == 1) = false := by simp [hl]
   have eL : cO N lk lt = -1 := if_neg hl
   have eR : cO N 1 rt = bI (fun x => decide (x = rt)) N := if_pos rfl
   obtain ⟨zb, ezb⟩ : ∃ z, bI (fun x => decide (x = rt)) N = z := ⟨_, rfl⟩
   rw [ezb] at HIR eR
   rw [eL] at HPL ⊢
   rw [eR] at HPR ⊢
   clear eL eR hl ezb
   go_enter Tryz.func213, Tryz.ntmps213
   have H6 := hC
   clear t1
   have v2 := H6.out.lit.c6
   have v3 := H6.out.lit.c7
   go_wp2_with fail
   refine (HIR.out w4 H6.out.kp).mono ?_
   rintro e w6 ⟨v, rfl, hk6, rfl⟩
   have H7 := qH (H6.out.ext hk6)
   obtain ⟨X7, eX7⟩ : ∃ x, w6.setCell ⟨g0 + 1 + 1 + 1, 0, none⟩ (.int .i64 zb) = x := ⟨_, rfl⟩
   have H8 := qH (show CmpAt w X7 g0 [.int .i64 k, .string p, .slice a m cap, .int .i64 op, .int .i64 lk, .string lt, .int .i64 1, .string rt] (-1) zb from by rw [<- eX7]; exact H7.out.putB (by omega) zb)
   have y0 := H7.out.b.c0
   have y1 := H7.out.b.free 0
   clear hk6 v2 v3
   obtain ⟨X8, eX8⟩ : ∃ x, X7.alloc (.cells #[.nilFunc] 304) = x := ⟨_, rfl⟩
   obtain ⟨gX, egX⟩ : ∃ x, X7.heap.size = x := ⟨_, rfl⟩
   have B8 : Blk X8 gX [.nilFunc] 304 := by rw [<- eX8, <- egX]; exact Blk.new X7 _ _
   have x8 : Ext X7 X8 := by rw [<- eX8]; exact (Kp.refl X7).alloc _
   have z0 := B8.c0
   have z1 := B8.free 0
   obtain ⟨X9, eX9⟩ : ∃ x, X8.setCell ⟨gX, 0, none⟩ (.func (Fn.func 227) #[] #[]) = x := ⟨_, rfl⟩
   have B9 : Blk X9 gX [.func (Fn.func 227) #[] #[]] 304 := by rw [<- eX9]; exact B8.set 0 _
   have hgX : g0 + 1 + 1 + 1 < gX := by rw [<- egX]; exact H8.out.b.lt
   have x9 : Ext X7 X9 := by rw [<- eX9]; exact x8.setCell (p := ⟨gX, 0, none⟩) (fun h2 => by have h3 : gX < X7.heap.size := h2; omega) _
   have H9 := qH (And.intro (H8.out.ext x9) B9)
   have a9 := H9.out.1.a.c0
   have b9 := H9.out.1.b.c0
   have r0 := H9.out.1.res.c0
   have r1 := H9.out.1.res.c1
   have rf0 := H9.out.1.res.free 0
   have rf1 := H9.out.1.res.free 1
   have HT := qH (CmpAt.close (nn := nn) H8.out eg0 HPL.out HPR.out hn)
   rw [egX] at HT
   have HGX := qH (And.intro hgX eg0)
   clear B8 x8 B9 x9 hgX
   go_wp2
   all_goals
    first | (rw [HGX.out.2]; refine jR H9.out HGX.out.2 HGX.out.1 ?_ rfl HT.out) | refine jR H9.out HGX.out.2 HGX.out.1 ?_ rfl HT.out
    omega
  ·skip
   have bl : (lk == 1) = false := by simp [hl]
   have br : (rk == 1) = false := by simp [hr]
   have eL : cO N lk lt = -1 := if_neg hl
   have eR : cO N rk rt = -1 := if_neg hr
   rw [eL] at HPL ⊢
   rw [eR] at HPR ⊢
   clear eL eR hl hr
   go_enter Tryz.func213, Tryz.ntmps213
   have H6 := hC
   clear t1
   have v2 := H6.out.lit.c6
   have H8 := H6
   obtain ⟨X8, eX8⟩ : ∃ x, w4.alloc (.cells #[.nilFunc] 304) = x := ⟨_, rfl⟩
   obtain ⟨gX, egX⟩ : ∃ x, w4.heap.size = x := ⟨_, rfl⟩
   have B8 : Blk X8 gX [.nilFunc] 304 := by rw [<- eX8, <- egX]; exact Blk.new w4 _ _
   have x8 : Ext w4 X8 := by rw [<- eX8]; exact (Kp.refl w4).alloc _
   have z0 := B8.c0
   have z1 := B8.free 0
   obtain ⟨X9, eX9⟩ : ∃ x, X8.setCell ⟨gX, 0, none⟩ (.func (Fn.func 227) #[] #[]) = x := ⟨_, rfl⟩
   have B9 : Blk X9 gX [.func (Fn.func 227) #[] #[]] 304 := by rw [<- eX9]; exact B8.set 0 _
   have hgX : g0 + 1 + 1 + 1 < gX := by rw [<- egX]; exact H8.out.b.lt
   have x9 : Ext w4 X9 := by rw [<- eX9]; exact x8.setCell (p := ⟨gX, 0, none⟩) (fun h2 => by have h3 : gX < w4.heap.size := h2; omega) _
   have H9 := qH (And.intro (H8.out.ext x9) B9)
   have a9 := H9.out.1.a.c0
   have b9 := H9.out.1.b.c0
   have r0 := H9.out.1.res.c0
   have r1 := H9.out.1.res.c1
   have rf0 := H9.out.1.res.free 0
   have rf1 := H9.out.1.res.free 1
   have HT := qH (CmpAt.close (nn := nn) H8.out eg0 HPL.out HPR.out hn)
   rw [egX] at HT
   have HGX := qH (And.intro hgX eg0)
   clear B8 x8 B9 x9 hgX
   go_wp2
   all_goals
    first | (rw [HGX.out.2]; refine jR H9.out HGX.out.2 HGX.out.1 ?_ rfl HT.out) | refine jR H9.out HGX.out.2 HGX.out.1 ?_ rfl HT.out
    omega
end
section
open Go.RowKit Go.Shelf
attribute [local go_sem] pG
def xD (vs : List Nat) : Int := match vs.getLast? with | some u => (u : Int) | none => -1
structure TableAt (S : Nat -> Prop) (w : World) (va : Option Addr) (rb : Nat) (iv : Value) (vs : List Nat) (LL : aC) : Prop where
 vars : CellsAt w va (ints (vs.map fun (v : Nat) => (v : Int)))
 rows : RowsAt S w rb iv vs.length LL
 rise : Strict aD LL
theorem TableAt.ext {S : Nat -> Prop} {w w' : World} {va : Option Addr} {rb : Nat} {iv : Value} {vs : List Nat} {LL : aC} (h : TableAt S w va rb iv vs LL) (hk : Ext w w') : TableAt S w' va rb iv vs LL := ⟨h.vars.ext hk, h.rows.ext hk, h.rise⟩
def aMd (w0 : World) (V : List ByteArray) (vs : List Nat) (n : Nat) (xv iv : Value) (w : World) : Prop := ∃ i : Nat, i ≤ n /\ iv = .int .i64 i /\ Hid (Row w 9 1 xv i (strs ((vs.take i).map (aZ V))) (New w0)) /\ Hid (Ext w0 w)
theorem CellsAt.of_eq {w : World} {ao : Option Addr} {xs ys : List Value} (h : CellsAt w ao xs) (e : xs = ys) : CellsAt w ao ys := e ▸ h
set_option maxHeartbeats 4000000 in
theorem aEl {S : Nat -> Prop} {w : World} {ra va : Option Addr} {cp nv tb n vc rb : Nat} {iv : Value} {V : List ByteArray} {vs : List Nat} {LL : aC} (hT : TableAt S w va rb iv vs LL) (hn : n = vs.length) (hsm : n ≤ 1048576) (hin : ∀ v ∈ vs, v < nv) (hV : V.length = nv) (hc : CellsAt w ra (strs V)) (hnv : nv ≤ 1048576)
 (t0 : w.cell? ⟨tb, 0, none⟩ = some (.slice va n vc)) (t1 : w.cell? ⟨tb, 1, none⟩ = some (.pointer (some ⟨rb, 0, none⟩))) :
 Calls Tryz.prog 226 (#[.slice ra nv cp] ++ #[.pointer (some ⟨tb, 0, none⟩)]) w (RetN w fun w' v => v = .bool (!bA aD LL (vs.map (aZ V)))) := by
 have HT := qH hT
 have HN := qH (And.intro hn hin)
 have HV := qH (And.intro hV hc)
 have HT1 := qH t1
 clear hT hn hin hV hc t1
 go_enter Tryz.func226, Tryz.ntmps226
 go_wp2
 go_loopw [4, 10] (fun xv iv wr => aMd w V vs n xv iv wr) (fun _ iv _ => n - (intOf iv).toNat)
 case atStart => exact ⟨0, Nat.zero_le _, rfl, Row.nil _ _ _ _, Kp.refl w⟩
 case round =>
  obtain ⟨i, hi, rfl, hrow, hex⟩ := hrel
  obtain ⟨xa, xc, exv, hxc, _⟩ := hrow.out.shape
  subst exv
  by_cases hlt : i < n
  ·obtain ⟨v, hv⟩ : ∃ v, vs[i]? = some v := ⟨_, qG (by rw [<- HN.out.1]; exact hlt)⟩
   have hvn : v < nv := HN.out.2 v (List.mem_of_getElem? hv)
   obtain ⟨x, hx⟩ : ∃ x, V[v]? = some x := ⟨_, qG (by rw [HV.out.1]; exact hvn)⟩
   obtain ⟨b1, o1, e1, c1⟩ := (HT.out.vars.ext hex.out) i (.int .i64 v) (by unfold ints; rw [List.map_map, List.getElem?_map, hv]; rfl)
   obtain ⟨b2, o2, e2, c2⟩ := (HV.out.2.ext hex.out) v (.string x) (by simp [strs, hx])
   have HX := qH (And.intro hv (show aZ V v = x from bC hx))
   rw [e1, e2]
   clear hv hx hxc e1 e2
   go_wp2_with (first | (at_builtin; refine Halted.out ?_))
   refine Halted.mk (dK dM rfl _ _ rfl (hex.out.alloc _) rfl (hrow.out.alloc _) rfl (CellsAt.one wr _ _) rfl (by simp; rfl) (by omega) (by unfold maxLen; omega) ?_)
   intro v2 w2 hr2 hk2 _ _
   obtain ⟨la, lcap, elv, _, _⟩ := hr2.shape
   subst elv
   have HR2 := qH (And.intro hr2 hk2)
   clear hr2 hk2 c1 c2
   go_wp2
   go_roundw
   case rel =>
    refine ⟨i + 1, by omega, by first | rfl | (congr 1; done) | (congr 1; omega), qH ?_, qH HR2.out.2⟩
    have e : vs.take (i + 1) = vs.take i ++ [v] := by rw [List.take_add_one, HX.out.1]; rfl
    have h := HR2.out.1
    rw [wS, <- HX.out.2, <- List.map_singleton (f := aZ V), <- List.map_append, <- e] at h
    exact h
   case measure => simp [intOf]; omega
  ·obtain rfl : i = n := by omega
   have hall : vs.take i = vs := List.take_of_length_le (by rw [<- HN.out.1]; exact Nat.le_refl _)
   have hrow2 := hrow.out
   rw [hall] at hrow2
   have t1 := hex.out.cell HT1.out id
   have hT := HT.out.ext hex.out
   have hlo : ∀ a, xa = some a -> i ≠ 0 -> w.heap.size ≤ a.block /\ a.block < wr.heap.size := fun a ha hne => by
    obtain ⟨g, c, e1, hM⟩ := nU hrow2 (by omega)
    simp only [Value.slice.injEq] at e1
    rw [ha] at e1
    cases e1.1
    obtain ⟨cs, hb⟩ := aQ hrow2 (g := g) (by rw [ha]; rfl)
    exact ⟨hM, hb.lt⟩
   have hlen : ((vs.map (aZ V)).length : Nat) = i := by rw [List.length_map]; exact HN.out.1.symm
   have hown : ∀ k, bN rb iv k -> k < w.heap.size := RowsQ.ownLt (z := False) HT.out.rows.q
   have HH := qH (aGt (z := False) (x := (xa, i, xc)) hT.rows.q hT.rise (ss := vs.map (aZ V)) ⟨⟨hlen.symm, hxc.of_eq (by rw [hall])⟩, by rw [hlen]; omega, fun a ha hne => (hlo a ha hne).2⟩ (fun a ha hne ho => by
    have h1 := hown _ ho
    have h2 := (hlo a ha hne).1
    omega))
   clear hall hrow2 hT hlo hlen hown hxc
   go_wp2_with fail
   refine HH.out.mono ?_
   rintro e w3 ⟨v, rfl, hk3, rfl, -⟩
   have HK := qH (hex.out.trans (Kp.fq hk3))
   clear hk3 t1
   go_wp2
   go_ret
   exact RetN.mk HK.out rfl
theorem pQ {S : Nat -> Prop} {w w2 : World} {va : Option Addr} {nv n vc rb lo g0 : Nat} {iv : Value} {vs : List Nat} {LL : aC} {M : Int} {tm : Array Value} (H2 : Ext w w2 /\ Blk w2 g0 [.slice va n vc, .pointer (some ⟨rb, 0, none⟩)] 275 /\ Blk w2 (g0 + 1) [.int .i64 0, .nilFunc] 280) (hg : w.heap.size = g0)
 (hT : Fast lo w.heap.size w fun W => TableAt S W va rb iv vs LL) (hn : n = vs.length) (hsm : n ≤ 1048576) (hin : ∀ v ∈ vs, v < nv) (hnv : nv ≤ 1048576) (hlo : lo ≤ w.heap.size) (hM : xD vs = M) (ht : tm[2]?.getD undef = .pointer (some ⟨g0 + 1, 0, none⟩)) :
 bodyPost Tryz.prog Tryz.f212 (RetN w fun w' v => ∃ t : TestZ, v = .agg #[.int .i64 t.last, t.val] /\ t.last = xD vs /\ (∀ V, t.ask V = !bA aD LL (vs.map (aZ V))) /\ Fast lo w'.heap.size w' fun W => TestOk W nv t) .ret
  {tmps := tm, defers := [] } ((w2.setCell ⟨g0 + 1, 0, none⟩ (.int .i64 M)).setCell ⟨g0 + 1, 1, none⟩ (.func (Fn.func 226) #[] #[.pointer (some ⟨g0, 0, none⟩)])) := by
 obtain ⟨fv, efv⟩ : ∃ x, Value.func (Fn.func 226) #[] #[.pointer (some ⟨g0, 0, none⟩)] = x := ⟨_, rfl⟩
 rw [efv]
 obtain ⟨X, eX⟩ : ∃ x, (w2.setCell ⟨g0 + 1, 0, none⟩ (.int .i64 M)).setCell ⟨g0 + 1, 1, none⟩ fv = x := ⟨_, rfl⟩
 have hres : Blk X (g0 + 1) [.int .i64 M, fv] 280 := by rw [<- eX]; exact (H2.2.2.set 0 _).set 1 _
 have hkp : Kp (fun k => k = g0 + 1) w2 X := by rw [<- eX]; exact kSb
 rw [eX]
 have u0 := hres.c0
 have u1 := hres.c1
 have hx : Ext w X := H2.1.trans' hkp fun i hi e => by
  have e' : i = g0 + 1 := e
  omega
 have hbox : Blk X g0 [.slice va n vc, .pointer (some ⟨rb, 0, none⟩)] 275 := H2.2.1.kp hkp (by omega)
 refine bodyPost_ret (v := .agg #[.int .i64 M, fv]) (by simp [results, Tryz.results212, go_sem, ht, u0, u1]) rfl ?_
 refine RetN.mk hx ⟨⟨226, #[.pointer (some ⟨g0, 0, none⟩)], M, fun V => !bA aD LL (vs.map (aZ V))⟩, by rw [<- efv]; rfl, hM.symm, fun V => rfl, fun W hW => ?_⟩
 refine ⟨enters_of Tryz.func226 (by kernel_rfl) rfl, fun W2 hW2 ra cp V hV hc => ?_⟩
 have hszX := hx.size
 have hlt := hbox.lt
 have hTX : Fast lo w.heap.size X fun W => TableAt S W va rb iv vs LL := hT.ext hx
 have hTW := (hTX.mono (Nat.le_refl _) hszX) W hW
 have hbW : Blk W g0 [.slice va n vc, .pointer (some ⟨rb, 0, none⟩)] 275 := hbox.kp hW fun h => h ⟨by omega, hlt⟩
 exact aEl (hTW.ext hW2) hn hsm hin hV hc hnv (by rw [(hbW.ext hW2).cell']; rfl) (by rw [(hbW.ext hW2).cell']; rfl)
set_option maxHeartbeats 4000000 in
theorem aBg {S : Nat -> Prop} {w : World} {va : Option Addr} {nv n vc rb lo : Nat} {iv : Value} {vs : List Nat} {LL : aC} (hT : Fast lo w.heap.size w fun W => TableAt S W va rb iv vs LL) (hn : n = vs.length) (hsm : n ≤ 1048576) (hin : ∀ v ∈ vs, v < nv) (hnv : nv ≤ 1048576) (hlo : lo ≤ w.heap.size) :
 Calls Tryz.prog 212 #[.agg #[.slice va n vc, .pointer (some ⟨rb, 0, none⟩)]] w (RetN w fun w' v => ∃ t : TestZ, v = .agg #[.int .i64 t.last, t.val] /\ t.last = xD vs /\ (∀ V, t.ask V = !bA aD LL (vs.map (aZ V))) /\ Fast lo w'.heap.size w' fun W => TestOk W nv t) := by
 have HT := qH hT
 have HN := qH (And.intro hn (And.intro hin hlo))
 obtain ⟨w1, e1⟩ : ∃ x, w.alloc (.cells #[.slice va n vc, .pointer (some ⟨rb, 0, none⟩)] 275) = x := ⟨_, rfl⟩
 obtain ⟨g0, eg0⟩ : ∃ x, w.heap.size = x := ⟨_, rfl⟩
 have B1 : Blk w1 g0 [.slice va n vc, .pointer (some ⟨rb, 0, none⟩)] 275 := by rw [<- e1, <- eg0]; exact Blk.new w _ _
 have x1 : Ext w w1 := by rw [<- e1]; exact (Kp.refl w).alloc _
 have s1 : w1.heap.size = g0 + 1 := by rw [<- e1, aI, eg0]
 obtain ⟨w2, e2⟩ : ∃ x, w1.alloc (.cells #[.int .i64 0, .nilFunc] 280) = x := ⟨_, rfl⟩
 have B2 : Blk w2 (g0 + 1) [.int .i64 0, .nilFunc] 280 := by
  have h := Blk.new w1 [.int .i64 0, .nilFunc] 280
  rw [s1] at h
  rw [<- e2]; exact h
 have x2 : Ext w1 w2 := by rw [<- e2]; exact (Kp.refl w1).alloc _
 have H2 := qH (And.intro (x1.trans x2) (And.intro (B1.ext x2) B2))
 have c0 := (B1.ext x2).c0
 have r0 := B2.c0
 have r1 := B2.c1
 have rf0 := B2.free 0
 have rf1 := B2.free 1
 clear hT hn hin hlo B1 x1 B2 x2
 by_cases h0 : n = 0
 ·have hvs : vs = [] := List.eq_nil_of_length_eq_zero (by rw [<- HN.out.1]; exact h0)
  have HV := qH (show xD vs = -1 from by rw [hvs]; rfl)
  subst h0
  clear hvs
  go_enter Tryz.func212, Tryz.ntmps212
  go_wp2
  first
   | (rw [eg0]; exact pQ H2.out eg0 HT.out HN.out.1 hsm HN.out.2.1 hnv HN.out.2.2 HV.out rfl)
   | exact pQ H2.out eg0 HT.out HN.out.1 hsm HN.out.2.1 hnv HN.out.2.2 HV.out rfl
 ·obtain ⟨m, rfl⟩ : ∃ m, n = m + 1 := ⟨n - 1, by omega⟩
  obtain ⟨u, hu⟩ : ∃ u, vs[m]? = some u := ⟨_, qG (by have := HN.out.1; omega)⟩
  have HV := qH (show xD vs = (u : Int) from by
   have e : vs.getLast? = some u := by rw [List.getLast?_eq_getElem?, <- HN.out.1, Nat.add_sub_cancel]; exact hu
   unfold xD; rw [e])
  obtain ⟨b1, o1, ev, c1⟩ := (HT.out.here.vars.ext H2.out.1) m (.int .i64 u) (by unfold ints; rw [List.map_map, List.getElem?_map, hu]; rfl)
  subst ev
  have hw := lR (m := m) (by unfold maxLen; omega)
  have hz : ¬ ((m : Int) + 1) = 0 := by omega
  have hp : (0 : Int) < (m : Int) + 1 := by omega
  clear hu h0
  go_enter Tryz.func212, Tryz.ntmps212
  go_wp2
  first
   | (rw [eg0]; exact pQ H2.out eg0 HT.out HN.out.1 hsm HN.out.2.1 hnv HN.out.2.2 HV.out rfl)
   | exact pQ H2.out eg0 HT.out HN.out.1 hsm HN.out.2.1 hnv HN.out.2.2 HV.out rfl
end
section
open Go.RowKit
def dJ (vs : List Nat) (v : Nat) (p : List ByteArray) : List ByteArray := (vs.filter fun x => decide (x < v)).map (aZ p)
theorem mX : ∀ {vs : List Nat}, vs.Pairwise (· < ·) -> ∀ (v : Nat), v ∈ vs -> ∃ m : Nat, vs[m]? = some v /\ vs.filter (fun x => decide (x < v)) = vs.take m /\ vs.filter (fun x => decide (x < v + 1)) = vs.take (m + 1)
 | [], _, v, h => by simp at h
 | a :: vs, hp, v, h => by
  obtain ⟨h1, h2⟩ := List.pairwise_cons.1 hp
  rcases List.mem_cons.1 h with rfl | h3
  ·have nn : ∀ n, n ≤ v + 1 -> vs.filter (fun x => decide (x < n)) = [] := fun n hn => by
    rw [List.filter_eq_nil_iff]
    intro x hx
    have := h1 x hx
    simp; omega
   refine ⟨0, rfl, ?_, ?_⟩
   ·rw [List.filter_cons, if_neg (by simp), nn v (by omega)]; rfl
   ·rw [List.filter_cons, if_pos (by simp), nn _ (Nat.le_refl _)]; rfl
  ·obtain ⟨m, e1, e2, e3⟩ := mX h2 v h3
   have h4 := h1 v h3
   refine ⟨m + 1, by simpa using e1, ?_, ?_⟩
   ·rw [List.filter_cons, if_pos (by simp; omega), e2]; rfl
   ·rw [List.filter_cons, if_pos (by simp; omega), e3]; rfl
theorem rX {vs : List Nat} {v : Nat} {p V : List ByteArray} (hp : V.take v = p) : (vs.filter fun x => decide (x < v)).map (aZ V) = dJ vs v p := by
 refine List.map_congr_left fun x hx => ?_
 have hxv : x < v := by have := (List.mem_filter.1 hx).2; simpa using this
 unfold aZ
 rw [List.getD_eq_getElem?_getD, List.getD_eq_getElem?_getD, <- hp, List.getElem?_take_of_lt hxv]
theorem tE {vs : List Nat} (hr : vs.Pairwise (· < ·)) {v : Nat} (hv : v ∈ vs) {p : List ByteArray} (hp : p.length = v) (x : ByteArray) : dJ vs (v + 1) (p ++ [x]) = dJ vs v p ++ [x] /\ (dJ vs v p).length < vs.length := by
 obtain ⟨m, e1, e2, e3⟩ := mX hr v hv
 have hm := (List.getElem?_eq_some_iff.1 e1).1
 have e4 : (p ++ [x]).take v = p := by rw [<- hp]; exact List.take_left
 refine ⟨?_, ?_⟩
 ·rw [<- rX (V := p ++ [x]) e4]
  unfold dJ
  rw [e3, e2, List.take_add_one, e1]
  simp only [Option.toList, List.map_append, List.map_cons, List.map_nil]
  congr 2
  unfold aZ
  rw [List.getD_eq_getElem?_getD, List.getElem?_append_right (by omega), hp, Nat.sub_self]; rfl
 ·unfold dJ
  rw [e2, List.length_map, List.length_take]; omega
theorem aJ6 {vs : List Nat} {v : Nat} (hv : v ∉ vs) {p p' : List ByteArray} (hp : p'.take v = p) : dJ vs (v + 1) p' = dJ vs v p := by
 rw [<- rX hp]
 unfold dJ
 congr 1
 refine List.filter_congr fun x hx => decide_eq_decide.2 ⟨fun h => ?_, fun h => by omega⟩
 have : x ≠ v := fun e => hv (e ▸ hx)
 omega
theorem aH3 (vs : List Nat) : dJ vs 0 [] = [] := by
 unfold dJ
 rw [List.filter_eq_nil_iff.2 (by intro x _; simp)]; rfl
theorem aJ7 {vs : List Nat} {p : List ByteArray} (h : ∀ x ∈ vs, x < p.length) : dJ vs p.length p = vs.map (aZ p) := by
 unfold dJ
 rw [List.filter_eq_self.2 (by intro x hx; simpa using h x hx)]
theorem PathOk.way {W : aC} {d : Nat} (hW : WaysOk W d) {q : List ByteArray} {st : List (Nat × Nat)} (h : PathOk W d q st) (hq : q.length = d) (hd : 0 < d) : q ∈ W := by
 obtain ⟨m, rfl⟩ : ∃ m, d = m + 1 := ⟨d - 1, by omega⟩
 obtain ⟨e, he⟩ : ∃ e, st[m]? = some e := ⟨_, qG (by rw [h.len]; omega)⟩
 obtain ⟨a, x, h1, h2, h3, h4, h5⟩ := h.at_ m e he
 have hl : (q.take m).length = m := by rw [List.length_take]; omega
 obtain ⟨s, r, x', k1, k2, k3, k4, k5⟩ := h1.place hW (by omega) h2 h3
 rw [hl] at k3 k4
 rw [h5] at k4; cases k4
 have e1 : q.take m ++ [x] = q := by
  have : q.take (m + 1) = q.take m ++ [x] := by rw [List.take_add_one, h4]; rfl
  rw [<- this, <- hq, List.take_length]
 rw [e1] at k3
 have hrl := hW.len r (List.mem_of_getElem? k2)
 rw [List.take_of_length_le (by omega)] at k3
 rw [<- k3]; exact List.mem_of_getElem? k2
def PathsAt (M : MatchZ) (v : Nat) (p : List ByteArray) (st : Nat -> List (Nat × Nat)) : Prop := ∀ (j : Nat) t, M.Ts[j]? = some t -> PathOk t.W t.vs.length (dJ t.vs v p) (st j)
def Seen (M : MatchZ) (v : Nat) (p : List ByteArray) : Prop := ∀ k, k < v -> ∀ t ∈ M.tests k, ∀ V : List ByteArray, V.length = M.N.length -> V.take v = p -> t.ask V = true
section
variable {M : MatchZ} {v : Nat} {p : List ByteArray}
theorem Seen.next (hM : MatchOk M) (h : Seen M v p) (hv : v ≤ M.N.length) {R : List ByteArray} (hR : R.length = M.N.length) (hp : R.take v = p) (ha : ∀ t ∈ M.tests v, t.ask R = true) {p' : List ByteArray} (hp' : p'.take v = p) : Seen M (v + 1) p' := fun k hk t ht V hV he => by
 have e1 : V.take v = p := by
  have := congrArg (List.take v) he
  rw [List.take_take, hp', show min v (v + 1) = v by omega] at this
  exact this
 rcases Nat.lt_or_eq_of_le (Nat.le_of_lt_succ hk) with h1 | h1
 ·exact h k h1 t ht V hV e1
 ·subst h1
  rw [hM.local_ k hv t ht V R hV hR (e1.trans hp.symm)]
  exact ha t ht
theorem aL0 (hM : MatchOk M) (hv : v ≤ M.N.length) {R : List ByteArray} (hR : R.length = M.N.length) (hp : R.take v = p) {t : TestZ} (ht : t ∈ M.tests v) (ha : t.ask R = false) (hl : p.length = v) : AllB (lP M) p [] :=
 AllB.none fun V hV he => by
  rw [hl] at he
  have h1 := hV.2.2 v hv t ht
  rw [hM.local_ v hv t ht V R hV.1 hR (he.trans hp.symm), ha] at h1
  cases h1
theorem aJw (hM : MatchOk M) {st : Nat -> List (Nat × Nat)} (hs : Seen M M.N.length p) (hP : PathsAt M M.N.length p st) (hl : p.length = M.N.length) (ha : ∀ t ∈ M.tests M.N.length, t.ask p = true) : AllB (lP M) p [p] := by
 refine AllB.one ⟨hl, fun t ht => ?_, fun k hk t ht => ?_⟩ fun V hV => by rw [hV.1, hl]
 ·obtain ⟨j, hj⟩ := List.mem_iff_getElem?.1 ht
  obtain ⟨h1, h2, h3, h4, h5⟩ := hM.ways t ht
  have h6 := hP j t hj
  have e : dJ t.vs M.N.length p = t.vs.map (aZ p) := by
   rw [<- hl]
   exact aJ7 fun x hx => by rw [hl]; exact h4 x hx
  rw [e] at h6
  exact h6.way h1 (by rw [List.length_map]) (by cases ht2 : t.vs with | nil => exact absurd ht2 h3 | cons a l => simp)
 ·rcases Nat.lt_or_eq_of_le hk with h1 | h1
  ·exact hs k h1 t ht p hl (by rw [<- hl, List.take_length])
  ·subst h1; exact ha t ht
theorem aHv (hM : MatchOk M) (hv : v < M.N.length) (hl : p.length = v) {js : List Nat} (hjs : ∀ j ∈ js, ∃ t, M.Ts[j]? = some t /\ v ∈ t.vs) {sp : Nat -> Nat × Nat} {Cs : List CurZ} (hCs : Cs = js.map fun j => ⟨bJ (M.Ts.getD j noT).W (M.Ts.getD j noT).vs.length (dJ (M.Ts.getD j noT).vs v p).length (M.Ts.getD j noT).W.length, (sp j).1, (sp j).2⟩)
 (hsp : ∀ j ∈ js, SpanOf (M.Ts.getD j noT).W (M.Ts.getD j noT).vs.length (dJ (M.Ts.getD j noT).vs v p) (sp j).1 (sp j).2) :
 (∀ c ∈ Cs, CurOk c) /\ ∀ V, lP M V -> V.take p.length = p -> ∃ x, V[p.length]? = some x /\ ∀ (k : Nat) (c : CurZ), Cs[k]? = some c -> kM c c.lo x := by
 subst hCs
 have key : ∀ j ∈ js, ∃ t, M.Ts[j]? = some t /\ M.Ts.getD j noT = t /\ v ∈ t.vs /\ WaysOk t.W t.vs.length /\ t.vs.Pairwise (· < ·) /\ (dJ t.vs v p).length < t.vs.length := fun j hj => by
  obtain ⟨t, h1, h2⟩ := hjs j hj
  obtain ⟨h3, h4, h5, h6, h7⟩ := hM.ways t (List.mem_of_getElem? h1)
  exact ⟨t, h1, bC h1, h2, h3, h4, (tE h4 h2 hl ByteArray.empty).2⟩
 refine ⟨fun c hc => ?_, fun V hV he => ?_⟩
 ·obtain ⟨j, hj, rfl⟩ := List.mem_map.1 hc
  obtain ⟨t, h1, h2, h3, h4, h5, h6⟩ := key j hj
  have := hsp j hj
  rw [h2] at this ⊢
  exact aL7 h4 this h6
 ·rw [hl] at he ⊢
  have hvl : v < V.length := by rw [hV.1]; exact hv
  refine ⟨V[v], qG hvl, fun k c hk => ?_⟩
  rw [List.getElem?_map] at hk
  cases hj : js[k]? with
  | none => rw [hj] at hk; cases hk
  | some j =>
   rw [hj] at hk
   cases hk
   have hjm := List.mem_of_getElem? hj
   obtain ⟨t, h1, h2, h3, h4, h5, h6⟩ := key j hjm
   have hs := hsp j hjm
   show kM ⟨bJ (M.Ts.getD j noT).W (M.Ts.getD j noT).vs.length (dJ (M.Ts.getD j noT).vs v p).length (M.Ts.getD j noT).W.length, (sp j).1, (sp j).2⟩ (sp j).1 V[v]
   rw [h2] at hs ⊢
   refine aFb h4 hs h6 (hV.2.1 t (List.mem_of_getElem? h1)) ?_
   obtain ⟨m, e1, e2, e3⟩ := mX h5 v h3
   have e4 : (dJ t.vs v p).length = m := by
    unfold dJ
    rw [e2, List.length_map, List.length_take]
    have := (List.getElem?_eq_some_iff.1 e1).1
    omega
   have h7 := aDk h5 e1 he hvl
   rw [e4, h7]
   unfold dJ
   rw [e2]
   congr 2
   unfold aZ
   rw [List.getD_eq_getElem?_getD, qG hvl]; rfl
theorem PathsAt.next (hM : MatchOk M) {st0 st : Nat -> List (Nat × Nat)} (h : PathsAt M v p st0) (hl : p.length = v) {key : ByteArray} (hin : ∀ (j : Nat) t, M.Ts[j]? = some t -> v ∈ t.vs -> ∃ a b k, SpanOf t.W t.vs.length (dJ t.vs v p) a b /\ a ≤ k /\ k < b /\ (bJ t.W t.vs.length (dJ t.vs v p).length t.W.length)[k]? = some key /\ st j = st0 j ++ [(k, b)])
 (hout : ∀ (j : Nat) t, M.Ts[j]? = some t -> v ∉ t.vs -> st j = st0 j) : PathsAt M (v + 1) (p ++ [key]) st := fun j t hj => by
 have ht := List.mem_of_getElem? hj
 obtain ⟨h3, h4, h5, h6, h7⟩ := hM.ways t ht
 by_cases hv : v ∈ t.vs
 ·obtain ⟨a, b, k, h8, h9, h10, h11, h12⟩ := hin j t hj hv
  obtain ⟨e1, e2⟩ := tE h4 hv hl key
  rw [e1, h12]
  exact (h j t hj).push e2 h8 h9 h10 h11
 ·rw [hout j t hj hv, aJ6 hv (p := p) (by rw [<- hl]; exact List.take_left)]
  exact h j t hj
end
def pS (Cs : List CurZ) (key : ByteArray) : Nat := (Cs.map fun c => ((c.keys.take c.hi).filter fun x => decide (bD key.toList x.toList < 0)).length).sum
theorem sum_lt {α : Type} {f g : α -> Nat} : ∀ {l : List α}, (∀ x ∈ l, f x ≤ g x) -> (∃ x ∈ l, f x < g x) -> (l.map f).sum < (l.map g).sum
 | [], _, h => by obtain ⟨x, hx, _⟩ := h; simp at hx
 | y :: l, h, ⟨x, hx, hlt⟩ => by
  have le : ∀ l : List α, (∀ x ∈ l, f x ≤ g x) -> (l.map f).sum ≤ (l.map g).sum := fun l => by
   induction l with
   | nil => intro _; exact Nat.le_refl _
   | cons z l ih =>
    intro hz
    have h1 := hz z (List.mem_cons_self ..)
    have h2 := ih fun x hx => hz x (List.mem_cons_of_mem _ hx)
    simp only [List.map_cons, List.sum_cons]; omega
  simp only [List.map_cons, List.sum_cons]
  rcases List.mem_cons.1 hx with rfl | hx
  ·have := le l fun z hz => h z (List.mem_cons_of_mem _ hz)
   omega
  ·have h1 := h y (List.mem_cons_self ..)
   have h2 := sum_lt (fun z hz => h z (List.mem_cons_of_mem _ hz)) ⟨x, hx, hlt⟩
   omega
theorem aF8 {Cs : List CurZ} {key key2 : ByteArray} (h : bD key.toList key2.toList < 0) {c : CurZ} (hc : c ∈ Cs) {m : Nat} (hm : m < c.hi) (hk : c.keys[m]? = some key2) : pS Cs key2 < pS Cs key := by
 have imp : ∀ x : ByteArray, bD key2.toList x.toList < 0 -> bD key.toList x.toList < 0 := fun x hx => jC h hx
 have le : ∀ l : List ByteArray, (l.filter fun x => decide (bD key2.toList x.toList < 0)).length ≤ (l.filter fun x => decide (bD key.toList x.toList < 0)).length := fun l => by
  rw [<- List.countP_eq_length_filter, <- List.countP_eq_length_filter]
  exact List.countP_mono_left fun x _ hx => by simp at hx ⊢; exact imp x hx
 have lt : ∀ l : List ByteArray, key2 ∈ l -> (l.filter fun x => decide (bD key2.toList x.toList < 0)).length < (l.filter fun x => decide (bD key.toList x.toList < 0)).length := fun l => by
  induction l with
  | nil => intro h; simp at h
  | cons y l ih =>
   intro hy
   rcases List.mem_cons.1 hy with rfl | hy
   ·rw [List.filter_cons, if_neg (by rw [dX]; simp), List.filter_cons, if_pos (by simpa using h), List.length_cons]
    have := le l; omega
   ·have h1 := ih hy
    rw [List.filter_cons, List.filter_cons]
    by_cases h2 : bD key2.toList y.toList < 0
    ·rw [if_pos (by simpa using h2), if_pos (by simpa using imp y h2)]
     simp only [List.length_cons]; omega
    ·rw [if_neg (by simpa using h2)]
     split
     ·simp only [List.length_cons]; omega
     ·exact h1
 unfold pS
 refine sum_lt (fun x _ => le _) ⟨c, hc, lt _ ?_⟩
 refine List.mem_of_getElem? (i := m) ?_
 rw [List.getElem?_take_of_lt hm]; exact hk
theorem AllB.split {Sol : List ByteArray -> Prop} {p : List ByteArray} {D : ByteArray -> Prop} {key : ByteArray} {Lp Lk L : aC} (hp : AllB Sol p Lp) (h : PartB Sol p D L) (hk : AllB Sol (p ++ [key]) Lk) (hlow : ∀ V, Sol V -> V.take p.length = p -> ∀ y, V[p.length]? = some y -> D y -> bD y.toList key.toList < 0)
 (hup : ∀ V, Sol V -> V.take p.length = p -> ∃ x, V[p.length]? = some x /\ (D x \/ ¬ bD x.toList key.toList < 0)) : ∃ R, L ++ Lk ++ R = Lp := by
 classical
 have h2 := h.next hk hlow
 refine ⟨Lp.filter fun V => decide (¬ ∃ x, V[p.length]? = some x /\ (D x \/ x = key)), ?_⟩
 refine Strict.unique cZ ?_ hp.rise fun V => ?_
 ·refine List.pairwise_append.2 ⟨h2.rise, hp.rise.filter _, fun a ha b hb => ?_⟩
  obtain ⟨hb1, hb2⟩ := List.mem_filter.1 hb
  have hb3 := of_decide_eq_true hb2
  obtain ⟨a1, a2, x, a3, a4⟩ := (h2.iff a).1 ha
  obtain ⟨b1, b2⟩ := (hp.iff b).1 hb1
  obtain ⟨y, b3, b4⟩ := hup b b1 b2
  have ny : ¬ (D y \/ y = key) := fun e => hb3 ⟨y, b3, e⟩
  have hky : bD key.toList y.toList < 0 := by
   rcases b4 with b4 | b4
   ·exact absurd (.inl b4) ny
   ·rcases jD key.toList y.toList with h5 | h5 | h5
    ·omega
    ·exact absurd (.inr (dP (fC h5)).symm) ny
    ·have := fZ key.toList y.toList; omega
  obtain ⟨r, rfl⟩ := pC a2 a3
  obtain ⟨s, rfl⟩ := pC b2 b3
  refine nD p x y r s ?_
  rcases a4 with a4 | a4
  ·exact jC (hlow _ a1 a2 x a3 a4) hky
  ·rw [a4]; exact hky
 ·rw [List.mem_append, h2.iff V, List.mem_filter, hp.iff V, decide_eq_true_iff]
  refine ⟨fun h3 => ?_, fun h3 => ?_⟩
  ·rcases h3 with h3 | h3
   ·exact ⟨h3.1, h3.2.1⟩
   ·exact h3.1
  ·by_cases h4 : ∃ x, V[p.length]? = some x /\ (D x \/ x = key)
   ·exact .inl ⟨h3.1, h3.2, h4⟩
   ·exact .inr ⟨h3, h4⟩
end
section
open Go.RowKit Go.Shelf
theorem aBo {R : Nat -> Prop} : ∀ m, R m -> ∃ n, R n /\ ∀ k, R k -> n ≤ k := by
 intro m
 induction m using Nat.strongRecOn with
 | ind m ih =>
  intro h
  by_cases h2 : ∃ k, k < m /\ R k
  ·obtain ⟨k, hk, h3⟩ := h2
   exact ih k hk h3
  ·exact ⟨m, h, fun k hk => Nat.not_lt.1 fun h4 => h2 ⟨k, h4, hk⟩⟩
open Classical in
noncomputable def uN (R : Nat -> Prop) : Nat := if h : ∃ n, R n /\ ∀ k, R k -> n ≤ k then Classical.choose h else 0
theorem aJf {R : Nat -> Prop} (h : ∃ m, R m) : R (uN R) := by
 obtain ⟨m, hm⟩ := h
 have h2 := aBo m hm
 unfold uN
 rw [dif_pos h2]; exact (Classical.choose_spec h2).1
theorem aBn {R : Nat -> Prop} {m : Nat} (h : R m) : uN R ≤ m := by
 have h2 := aBo m h
 unfold uN
 rw [dif_pos h2]; exact (Classical.choose_spec h2).2 m h
abbrev XB := eZ × List ByteArray
def encX (x : XB) : Array Value := #[.slice x.1.1 x.1.2.1 x.1.2.2]
def GvRow (W1 : World) (T' : Nat -> Prop) (W2 : World) (x : XB) : Prop := x.1.2 = (x.2.length, x.2.length) /\ ((x.1.1 = none /\ x.2 = []) \/ ∃ g rest, x.1.1 = some ⟨g, 0, none⟩ /\ Blk W2 g (strs x.2 ++ rest) 9 /\ W1.heap.size ≤ g /\ ¬ T' g)
def Held (J : (Nat -> Prop) -> List XB -> World -> Prop) (E own : Nat -> Prop) (pre : List XB) (W : World) : Prop := ∃ T W1, J T pre W1 /\ Kp T W1 W /\ ∀ k, own k \/ E k -> T k \/ W1.heap.size ≤ k
theorem Held.step {J : (Nat -> Prop) -> List XB -> World -> Prop} {E E' own own' G : Nat -> Prop} {pre : List XB} {W W' : World} (h : Held J E own pre W) (hk : Kp G W W') (hG : ∀ k, G k -> own k \/ E k \/ W.heap.size ≤ k) (ho : ∀ k, own' k -> own k \/ W.heap.size ≤ k) (hE : ∀ k, E' k -> E k \/ W.heap.size ≤ k) : Held J E' own' pre W' := by
 obtain ⟨T, W1, h1, h2, h3⟩ := h
 have hs := h2.size
 refine ⟨T, W1, h1, h2.trans' hk fun i hi hg => ?_, fun k hk' => ?_⟩
 ·rcases hG i hg with h4 | h4 | h4
  ·rcases h3 i (.inl h4) with h5 | h5
   ·exact h5
   ·omega
  ·rcases h3 i (.inr h4) with h5 | h5
   ·exact h5
   ·omega
  ·omega
 ·rcases hk' with h4 | h4
  ·rcases ho k h4 with h5 | h5
   ·exact h3 k (.inl h5)
   ·exact .inr (by omega)
  ·rcases hE k h4 with h5 | h5
   ·exact h3 k (.inr h5)
   ·exact .inr (by omega)
structure WCtx where
 Z : Nat -> Prop
 lo : Nat
 M : MatchZ
 A : MAddr
 wb : Nat
 mb : Nat
 rb : Nat
 yv : Value
 cv : Value
 cb : Nat -> Nat
 J : (Nat -> Prop) -> List XB -> World -> Prop
 Jx : (Nat -> Prop) -> List XB -> World -> Prop
 Lall : aC
 w0 : World
structure WCtx.Ok (C : WCtx) : Prop where
 hZ : ∀ k, C.Z k -> k < C.lo
 mat : ∀ W, Kp (fun k => ¬ C.Z k) C.w0 W -> MatchAt W C.mb C.M C.A
 ok : MatchOk C.M
def WCtx.Own (C : WCtx) (ov : Nat -> Value) : Nat -> Prop := aIf C.wb C.rb C.M.Ts.length C.cv C.cb ov
structure WCtx.At (C : WCtx) (ov : Nat -> Value) (R : List ByteArray) (st : Nat -> List (Nat × Nat)) (W : World) : Prop where
 wlk : WalkAt W C.wb C.mb C.M C.yv C.cv C.rb R C.cb ov st
 new : ∀ k, C.Own ov k -> C.lo ≤ k
 w0k : Kp (fun k => ¬ C.Z k) C.w0 W
def WCtx.QE (C : WCtx) (E : Nat -> Prop) : Nat -> Prop := fun k => ¬ C.Z k /\ ¬ E k
def WCtx.Ends (C : WCtx) (E : Nat -> Prop) (pre : List XB) (L : aC) (ov : Nat -> Value) (b : Bool) (W : World) : Prop :=
 (b = true /\ ∃ xs : List XB, xs.map Prod.snd = L /\ Held C.J E (C.Own ov) (pre ++ xs) W) \/ (b = false /\ ∃ pre' : List XB, pre'.map Prod.snd <+: C.Lall /\ Held C.Jx E (C.Own ov) pre' W)
def WCtx.Post (C : WCtx) (E : Nat -> Prop) (v : Nat) (p : List ByteArray) (st : Nat -> List (Nat × Nat)) (pre : List XB) (L : aC) (W : World) (e : Ending) (W' : World) : Prop :=
 ∃ (b : Bool) (ov' : Nat -> Value) (R' : List ByteArray), e = .returned (.bool b) /\ Kp (C.QE E) W W' /\ C.At ov' R' st W' /\ R'.take v = p /\ (∀ k, C.Own ov' k -> ¬ E k) /\ C.Ends E pre L ov' b W'
structure WCtx.Fit (C : WCtx) (E : Nat -> Prop) (ov : Nat -> Value) (W : World) : Prop where
 lt : ∀ k, E k -> k < W.heap.size
 off : ∀ k, C.Own ov k -> ¬ E k
 lo : ∀ k, E k -> C.lo ≤ k
def WCtx.From (C : WCtx) (v : Nat) : Prop := ∀ (p : List ByteArray) (E : Nat -> Prop) (ov : Nat -> Value) (R : List ByteArray) (st : Nat -> List (Nat × Nat)) (pre : List XB) (L : aC) (W : World),
 p.length = v -> C.At ov R st W -> R.take v = p -> PathsAt C.M v p st -> Seen C.M v p -> AllB (lP C.M) p L -> (∃ R0, pre.map Prod.snd ++ L ++ R0 = C.Lall) -> Held C.J E (C.Own ov) pre W -> C.Fit E ov W ->
 Calls Tryz.prog 215 #[.pointer (some ⟨C.wb, 0, none⟩), .int .i64 v] W (C.Post E v p st pre L W)
def StOk (st0 : Nat -> List (Nat × Nat)) (js : List Nat) (Cs : List CurZ) (pos : Nat -> Nat) (st : Nat -> List (Nat × Nat)) : Prop := (∀ (k j : Nat) (c : CurZ), js[k]? = some j -> Cs[k]? = some c -> st j = st0 j ++ [(pos k, c.hi)]) /\ ∀ j, j ∉ js -> st j = st0 j
theorem StOk.turn {st0 : Nat -> List (Nat × Nat)} {js : List Nat} {Cs : List CurZ} {pos : Nat -> Nat} {st : Nat -> List (Nat × Nat)} (h : StOk st0 js Cs pos st) (hn : js.Nodup) {k j : Nat} {c : CurZ} (hj : js[k]? = some j) (hc : Cs[k]? = some c) (q : Nat) : StOk st0 js Cs (fun m => if m = k then q else pos m) (cH st j (st0 j ++ [(q, c.hi)])) := by
 refine ⟨fun m i d hi hd => ?_, fun i hi => ?_⟩
 ·by_cases e : m = k
  ·subst e
   rw [hj] at hi; cases hi
   rw [hc] at hd; cases hd
   show _ = st0 j ++ [((if m = m then q else pos m), c.hi)]
   rw [upd_same, if_pos rfl]
  ·show _ = st0 i ++ [((if m = k then q else pos m), d.hi)]
   rw [if_neg e, aH _ _ (fun e2 => e ?_)]
   ·exact h.1 m i d hi hd
   ·subst e2
    exact (List.getElem?_inj (List.getElem?_eq_some_iff.1 hi).1 hn).1 (hi.trans hj.symm)
 ·rw [aH _ _ (fun e => hi (by rw [e]; exact List.mem_of_getElem? hj))]
  exact h.2 i hi
def WCtx.LeapPost (C : WCtx) (E : Nat -> Prop) (v : Nat) (p : List ByteArray) (st0 : Nat -> List (Nat × Nat)) (js : List Nat) (Cs : List CurZ) (pre : List XB) (L : aC) (W : World) (e : Ending) (W' : World) : Prop :=
 ∃ (b : Bool) (ov' : Nat -> Value) (R' : List ByteArray) (st' : Nat -> List (Nat × Nat)) (pos' : Nat -> Nat), e = .returned (.bool b) /\ Kp (C.QE E) W W' /\ C.At ov' R' st' W' /\ R'.take v = p /\ (∀ k, C.Own ov' k -> ¬ E k) /\ StOk st0 js Cs pos' st' /\ C.Ends E pre L ov' b W'
structure WCtx.Turn (C : WCtx) (E : Nat -> Prop) (v : Nat) (p : List ByteArray) (st0 : Nat -> List (Nat × Nat)) (js : List Nat) (Cs : List CurZ) (pre : List XB) (W0 : World) (i : Nat) (pos : Nat -> Nat) (D : ByteArray -> Prop) (xs : List XB) (ov : Nat -> Value) (R : List ByteArray) (st : Nat -> List (Nat × Nat)) (W : World) : Prop where
 inv : LeapInv (lP C.M) p Cs pos i D (xs.map Prod.snd)
 at_ : C.At ov R st W
 row : R.take v = p
 st_ : StOk st0 js Cs pos st
 held : Held C.J E (C.Own ov) (pre ++ xs) W
 fit : C.Fit E ov W
 kp : Kp (C.QE E) W0 W
section
variable {C : WCtx} {E : Nat -> Prop} {v : Nat} {p : List ByteArray} {st0 st : Nat -> List (Nat × Nat)} {js : List Nat} {Cs : List CurZ} {pre xs : List XB} {W0 W W' : World} {i : Nat} {pos : Nat -> Nat} {D : ByteArray -> Prop} {ov : Nat -> Value} {R : List ByteArray}
theorem WCtx.At.ext (h : C.At ov R st W) (hk : Ext W W') : C.At ov R st W' := ⟨h.wlk.ext hk, h.new, h.w0k.ext hk⟩
theorem WCtx.Fit.ext (h : C.Fit E ov W) (hk : Ext W W') : C.Fit E ov W' := ⟨fun k hk' => Nat.lt_of_lt_of_le (h.lt k hk') hk.size, h.off, h.lo⟩
theorem WCtx.Turn.ext (h : C.Turn E v p st0 js Cs pre W0 i pos D xs ov R st W) (hk : Ext W W') : C.Turn E v p st0 js Cs pre W0 i pos D xs ov R st W' :=
 ⟨h.inv, h.at_.ext hk, h.row, h.st_, h.held.step (G := fun _ => False) hk (fun _ h => h.elim) (fun k h => .inl h) (fun k h => .inl h), h.fit.ext hk, h.kp.ext hk⟩
theorem WCtx.At.turn (hC : C.Ok) (h : C.At ov R st W) {j : Nat} {t : TrieZ} (ht : C.M.Ts[j]? = some t) (hk : Kp (gV (C.cb j) (ov j)) W W') {ov' : Value} {st' : List (Nat × Nat)} (hc : CurS W' (C.cb j) t.tb st' ov') (ho : ∀ k, ov'.ownBlock = some k -> (ov j).ownBlock = some k \/ W.heap.size ≤ k) :
 C.At (cH ov j ov') R (cH st j st') W' /\ (∀ k, C.Own (cH ov j ov') k -> C.Own ov k \/ W.heap.size ≤ k) /\ (∀ k, gV (C.cb j) (ov j) k -> C.Own ov k) := by
 have hown : ∀ k, gV (C.cb j) (ov j) k -> C.Own ov k := fun k hk => .inr (.inr (.inr ⟨j, (List.getElem?_eq_some_iff.1 ht).1, hk⟩))
 have hnew : ∀ k, C.Own (cH ov j ov') k -> C.Own ov k \/ W.heap.size ≤ k := WalkAt.own_turn ho
 have hlo : C.lo ≤ W.heap.size := Nat.le_of_lt (Nat.lt_of_le_of_lt (h.new C.wb (.inl rfl)) (h.wlk.lt C.wb (.inl rfl)))
 refine ⟨⟨h.wlk.turn ht hk hc ho, fun k hk' => ?_, h.w0k.trans' hk fun i _ hf hz => ?_⟩, hnew, hown⟩
 ·rcases hnew k hk' with h1 | h1
  ·exact h.new k h1
  ·omega
 ·have := hC.hZ i hz
  have := h.new i (hown i hf)
  omega
theorem WCtx.Fit.turn (h : C.Fit E ov W) (hk : W.heap.size ≤ W'.heap.size) {ov2 : Nat -> Value} (ho : ∀ k, C.Own ov2 k -> C.Own ov k \/ W.heap.size ≤ k) : C.Fit E ov2 W' :=
 ⟨fun k hk' => Nat.lt_of_lt_of_le (h.lt k hk') hk, fun k h1 h2 => by
  rcases ho k h1 with h3 | h3
  ·exact h.off k h3 h2
  ·have := h.lt k h2; omega, h.lo⟩
theorem wM {α : Type} (f : Nat -> α) (j : Nat) : cH f j (f j) = f := by
 funext i
 unfold cH
 split
 ·rename_i e; rw [e]
 ·rfl
theorem aCd {c : CurZ} (hc : CurOk c) {t : ByteArray} {a q : Nat} (ha : c.lo ≤ a) (h : gF c.keys t a c.hi q) : ∀ k x, a ≤ k -> k < q -> c.keys[k]? = some x -> bD x.toList t.toList < 0 := fun k x h1 h2 h3 => by
 obtain ⟨p1, p2, p3, p4⟩ := h
 have hq : q - 1 < c.keys.length := by have := hc.few; omega
 have h4 := p3 c.keys[q - 1] (by omega) (qG hq)
 by_cases e : k = q - 1
 ·subst e
  rw [qG hq] at h3; cases h3
  exact h4
 ·exact jC (hc.rise k (q - 1) x _ (by omega) (by omega) (by omega) h3 (qG hq)) h4
theorem WCtx.QE_own (hC : C.Ok) (h : C.At ov R st W) (hf : C.Fit E ov W) : ∀ k, C.Own ov k -> C.QE E k := fun k hk => ⟨fun hz => by have := hC.hZ k hz; have := h.new k hk; omega, hf.off k hk⟩
theorem WCtx.Turn.seek (hC : C.Ok) (hn : js.Nodup) (h : C.Turn E v p st0 js Cs pre W0 i pos D xs ov R st W) {ci : CurZ} (hi : Cs[i]? = some ci) (hlt : pos i < ci.hi) {key : ByteArray} (hkey : ci.keys[pos i]? = some key) {k j q : Nat} {c : CurZ} {t : TrieZ} (hj : js[k]? = some j) (hc : Cs[k]? = some c) (ht : C.M.Ts[j]? = some t)
 (hk : Kp (gV (C.cb j) (ov j)) W W') (hcur : CurS W' (C.cb j) t.tb (st0 j ++ [(q, c.hi)]) (ov j)) (hf : gF c.keys key (pos k) c.hi q) : C.Turn E v p st0 js Cs pre W0 i (fun m => if m = k then q else pos m) D xs ov R (cH st j (st0 j ++ [(q, c.hi)])) W' /\ (k = i -> q = pos i) := by
 obtain ⟨a1, a2, a3⟩ := h.at_.turn hC ht hk hcur (fun k h => .inl h)
 rw [wM] at a1 a2
 have hok := h.inv.ok c (List.mem_of_getElem? hc)
 have hb := aCd hok (h.inv.inn k c hc).1 hf
 have hki : k = i -> q = pos i := fun e => by
  subst e
  rw [hc] at hi; cases hi
  rcases Nat.lt_or_eq_of_le hf.1 with h1 | h1
  ·have := hb (pos k) key (Nat.le_refl _) h1 hkey
   rw [dX] at this; omega
  ·exact h1.symm
 exact ⟨⟨h.inv.seek hi hlt hkey hc hf.1 hf.2.1 hb hki, a1, h.row, h.st_.turn hn hj hc q, h.held.step hk (fun k hk => .inl (a3 k hk)) a2 (fun k h => .inl h), h.fit.turn hk.size a2, h.kp.trans' hk fun k _ hf => WCtx.QE_own hC h.at_ h.fit k (a3 k hf)⟩, hki⟩
theorem WCtx.next_turn (hC : C.Ok) (hn : js.Nodup) (inv : LeapInv (lP C.M) p Cs pos i D (xs.map Prod.snd)) {ci : CurZ} (hi : Cs[i]? = some ci) (hlt : pos i < ci.hi) {key : ByteArray} (hkey : ci.keys[pos i]? = some key) {xs' : List XB} (hk' : AllB (lP C.M) (p ++ [key]) (xs'.map Prod.snd))
 (hat : C.At ov R st W) (hrow : R.take v = p) (hst : StOk st0 js Cs pos st) (held : Held C.J E (C.Own ov) (pre ++ (xs ++ xs')) W) (fit : C.Fit E ov W) (kp : Kp (C.QE E) W0 W) {j : Nat} {t : TrieZ} (hj : js[i]? = some j) (ht : C.M.Ts[j]? = some t)
 (hk : Kp (gV (C.cb j) (ov j)) W W') (hcur : CurS W' (C.cb j) t.tb (st0 j ++ [(pos i + 1, ci.hi)]) (ov j)) : C.Turn E v p st0 js Cs pre W0 i (fun m => if m = i then pos i + 1 else pos m) (fun y => D y \/ y = key) (xs ++ xs') ov R (cH st j (st0 j ++ [(pos i + 1, ci.hi)])) W' := by
 obtain ⟨a1, a2, a3⟩ := hat.turn hC ht hk hcur (fun k h => .inl h)
 rw [wM] at a1 a2
 refine ⟨?_, a1, hrow, hst.turn hn hj hi _, held.step hk (fun k hk => .inl (a3 k hk)) a2 (fun k h => .inl h), fit.turn hk.size a2, kp.trans' hk fun k _ hf => WCtx.QE_own hC hat fit k (a3 k hf)⟩
 rw [List.map_append]
 exact inv.next hi hlt hkey hk'
theorem WCtx.Turn.of_key (h : C.Turn E v p st0 js Cs pre W0 i pos D xs ov R st W) {ci : CurZ} (hi : Cs[i]? = some ci) (hlt : pos i < ci.hi) {key : ByteArray} (hkey : ci.keys[pos i]? = some key) {L : aC} (hL : AllB (lP C.M) p L) (hpre : ∃ R0, pre.map Prod.snd ++ L ++ R0 = C.Lall) :
 ∃ Lk, AllB (lP C.M) (p ++ [key]) Lk /\ ∃ R0, (pre ++ xs).map Prod.snd ++ Lk ++ R0 = C.Lall := by
 classical
 have hk : AllB (lP C.M) (p ++ [key]) (L.filter fun V => decide (V.take (p ++ [key]).length = p ++ [key])) := by
  refine ⟨hL.rise.filter _, fun V => ?_⟩
  rw [List.mem_filter, hL.iff V, decide_eq_true_iff]
  refine ⟨fun h1 => ⟨h1.1.1, h1.2⟩, fun h1 => ⟨⟨h1.1, ?_⟩, h1.2⟩⟩
  have := congrArg (List.take p.length) h1.2
  rw [List.take_take, List.take_left, List.length_append, List.length_singleton, show min p.length (p.length + 1) = p.length by omega] at this
  exact this
 generalize (L.filter fun V => decide (V.take (p ++ [key]).length = p ++ [key])) = Lk at hk
 obtain ⟨R1, e1⟩ := hL.split h.inv.told hk (fun V _ _ y hy hD => h.inv.below ci y key hi hD ⟨pos i, Nat.le_refl _, hlt, hkey⟩) fun V h1 h2 => by
  obtain ⟨x, hx, h3⟩ := h.inv.common V h1 h2
  refine ⟨x, hx, ?_⟩
  rcases h3 with h3 | h3
  ·exact .inl h3
  ·obtain ⟨m, h4, h5, h6⟩ := h3 i ci hi
   refine .inr ?_
   rcases Nat.lt_or_eq_of_le h4 with h7 | h7
   ·have h8 := (h.inv.ok ci (List.mem_of_getElem? hi)).rise (pos i) m key x (h.inv.inn i ci hi).1 h7 h5 hkey h6
    have := fZ x.toList key.toList
    omega
   ·rw [h7] at hkey
    rw [hkey] at h6; cases h6
    rw [dX]; omega
 obtain ⟨R0, e0⟩ := hpre
 refine ⟨Lk, hk, R1 ++ R0, ?_⟩
 rw [<- e0, <- e1, List.map_append]
 simp only [List.append_assoc]
end
end
end Go.Proofs.YtikgpedgmnbcaaaGreatDoor
