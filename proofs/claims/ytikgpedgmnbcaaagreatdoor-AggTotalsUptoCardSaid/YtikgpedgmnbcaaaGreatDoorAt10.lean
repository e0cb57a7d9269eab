/- Proved here: the tied card AggTotalsUptoCardSaid: the law returns true for every input of the bound that the row names and leaves its arguments as they were. No condition of its own. -/
import Derived.Test.YtikgpedgmnbcaaaGreatDoorAt9
import Derived.Test.YtikgpedgmnbcaaaGreatDoorCards
import Derived.Test.YtikgpedgmnbcaaaGreatDoorTie
import Derived.WalkKit
import Derived.ProofKit
import Derived.OpenShut
import Derived.RowKitTokens
import Derived.Deep.DeepWitnessRowRef
import Derived.Deep.DeepHandedRow
import Derived.Lib.LaidTab
import Derived.Stop.LaidErr
set_option linter.unusedVariables false
set_option linter.unusedSimpArgs false
set_option maxRecDepth 100000
namespace Go.Proofs.YtikgpedgmnbcaaaGreatDoor
section
open Go.RowKit
def aHz (S : Nat -> Prop) (w : World) (ao : Option Addr) (L : List nC) : Prop := ∀ (i : Nat) (q : nC), L[i]? = some q -> ∃ b off ra rcap, ao = some ⟨b, off, none⟩ /\ S b /\ w.cell? ⟨b, off + i * 3, none⟩ = some (.string q.1) /\ w.cell? ⟨b, off + i * 3 + 1, none⟩ = some (.int .i64 q.2.1) /\ w.cell? ⟨b, off + i * 3 + 2, none⟩ = some (.slice ra q.2.2.1.length rcap) /\ q.2.2.1.length ≤ rcap /\ rcap ≤ maxLen /\ RowsIn S w ra q.2.2.1
section
variable {S S' : Nat -> Prop} {w w' : World} {ao : Option Addr} {L : List nC}
end
theorem aHd {C : List bJ} {q : nC} {L : List nC} (h : dK C q.1 q.2.1 ≠ 0) : gS C (q :: L) = (C, dK C q.1 q.2.1) := if_neg h
theorem aHc {C : List bJ} {q : nC} {L : List nC} (h : dK C q.1 q.2.1 = 0) (h2 : (eO (fO C q.1 q.2.1) q.1 q.2.2.1).2 ≠ 0) : gS C (q :: L) = eO (fO C q.1 q.2.1) q.1 q.2.2.1 := by
 show (if dK C q.1 q.2.1 = 0 then _ else _) = _
 rw [if_pos h, if_neg h2]
theorem aIp {C : List bJ} {q : nC} {L : List nC} (h : dK C q.1 q.2.1 = 0) (h2 : (eO (fO C q.1 q.2.1) q.1 q.2.2.1).2 = 0) : gS C (q :: L) = gS (eO (fO C q.1 q.2.1) q.1 q.2.2.1).1 L := by
 show (if dK C q.1 q.2.1 = 0 then _ else _) = _
 rw [if_pos h, if_pos h2]
theorem aFp {C : List bJ} {s : ByteArray} {x : List ByteArray} {rs : aC} (h : (dV C s x).2 = 0) : eO C s (x :: rs) = eO (pJ C s x) s rs := if_pos h
theorem aC9 {C : List bJ} {s : ByteArray} {x : List ByteArray} {rs : aC} (h : (dV C s x).2 ≠ 0) : eO C s (x :: rs) = (C, (dV C s x).2) := if_neg h
def FromV (w : World) (L : List nC) (w' : World) (v : Value) : Prop :=
 ((gS [] L).2 = 0 -> ∃ bb r S E, v = .tuple #[.pointer (some ⟨bb, 0, none⟩), .int .i64 0] /\ BaseAt S w' bb r E /\ aW E = (gS [] L).1 /\ (∀ k, S k -> w.heap.size ≤ k) /\ ∀ k, gE bb r E k -> w.heap.size ≤ k) /\
 ((gS [] L).2 ≠ 0 -> v = .tuple #[.pointer none, .int .i64 (((gS [] L).2 : Nat) : Int)])
structure MyBase (w0 : World) (S : Nat -> Prop) (w : World) (bb r : Nat) (E : List Ent) : Prop where
 base : BaseAt S w bb r E
 ext : Ext w0 w
 pool : ∀ k, S k -> w0.heap.size ≤ k
 own : ∀ k, gE bb r E k -> w0.heap.size ≤ k
def aJx (w0 : World) (bb r : Nat) (L : List nC) (n : Nat) (iv : Value) (w : World) : Prop := ∃ i : Nat, i ≤ n /\ iv = .int .i64 i /\ Hid (∃ S E, MyBase w0 S w bb r E /\ gS (aW E) (L.drop i) = gS [] L)
def aJy (w0 : World) (bb r : Nat) (q : nC) (R : List bJ × Nat) (g : Nat) (cs : List Value) (m : Nat) (jv : Value) (w : World) : Prop := ∃ j : Nat, j ≤ m /\ jv = .int .i64 j /\ Hid (∃ S E, MyBase w0 S w bb r E /\ eO (aW E) q.1 (q.2.2.1.drop j) = R /\ Blk w g cs 111 /\ ¬ gE bb r E g)
theorem drop_at {α : Type} {xs : List α} {i : Nat} {x : α} (h : xs[i]? = some x) : xs.drop i = x :: xs.drop (i + 1) := by
 obtain ⟨hi, e⟩ := List.getElem?_eq_some_iff.1 h
 rw [List.drop_eq_getElem_cons hi, e]
theorem cells_lt {w : World} {xa : Option Addr} {ss : List ByteArray} (h : CellsAt w xa (strs ss)) (hne : ss ≠ []) : ∀ a, xa = some a -> a.block < w.heap.size := fun a e => by
 cases ss with
 | nil => exact absurd rfl hne
 | cons s ss =>
  obtain ⟨b, off, e1, hc⟩ := h 0 (.string s) rfl
  rw [e] at e1; cases e1
  exact World.block_lt_of_cell? _ _ hc
set_option maxHeartbeats 4000000 in
theorem aHe (L : List nC) (ao : Option Addr) (n cap : Nat) (w : World) (S0 : Nat -> Prop) (hn : n = L.length) (hL : aHz S0 w ao L) (hl : n ≤ 4194304) (hr : ∀ q ∈ L, q.2.2.1.length ≤ 1048576) :
 Calls Tryz.prog 18 #[.slice ao n cap] w (RetN w (FromV w L)) := by
 have HN := qH hn
 have HL := qH hL
 have HR := qH hr
 clear hn hL hr
 go_enter Tryz.func18, Tryz.ntmps18
 go_wp2_with fail
 refine (yZ w).mono ?_
 rintro e w1 ⟨v, rfl, hk1, rfl, hB, hm⟩
 obtain ⟨bb, ebb⟩ : ∃ bb, w.heap.size + 1 = bb := ⟨_, rfl⟩
 rw [ebb] at hB ⊢
 obtain ⟨r, er⟩ : ∃ r, w.heap.size = r := ⟨_, rfl⟩
 rw [er] at hB hm
 have HM0 := qH (show MyBase w (fun _ => False) w1 bb r [] from
  {base := BaseAt.new (fun _ => False) (fun _ x => x.elim) hk1 (by omega) (by omega) (by omega) hB hm
   ext := hk1, pool := fun _ x => x.elim
   own := fun k hk => by
    rcases hk with rfl | rfl | ⟨e, he, _⟩
    ·omega
    ·omega
    ·simp at he })
 clear hB hm hk1 ebb er
 go_wp2
 go_loopw [15] (fun iv wr => aJx w bb r L n iv wr) (fun iv _ => n - (intOf iv).toNat)
 case atStart => exact ⟨0, Nat.zero_le _, rfl, _, [], HM0.out, rfl⟩
 case round =>
  clear HM0
  obtain ⟨i, hi, rfl, hin⟩ := hrel
  obtain ⟨S, E, hM, hF⟩ := hin.out
  have HM := qH hM
  have HF := qH hF
  clear hin hM hF
  by_cases hlt : i < n
  ·obtain ⟨q, hq⟩ : ∃ q, L[i]? = some q := ⟨_, qG (by rw [<- HN.out]; exact hlt)⟩
   obtain ⟨b, off, ra, rcap, eao, hSb, c0, c1, c2, hrl, hrm, hrows⟩ := HL.out i q hq
   subst eao
   replace c0 := HM.out.ext.cell c0 id
   replace c1 := HM.out.ext.cell c1 id
   replace c2 := HM.out.ext.cell c2 id
   obtain ⟨s, es⟩ : ∃ s, q.1 = s := ⟨_, rfl⟩
   obtain ⟨a, ea⟩ : ∃ a, q.2.1 = a := ⟨_, rfl⟩
   obtain ⟨m, em⟩ : ∃ m, q.2.2.1.length = m := ⟨_, rfl⟩
   rw [es] at c0
   rw [ea] at c1
   rw [em] at c2 hrl
   have hm1 : m ≤ 1048576 := by rw [<- em]; exact HR.out q (List.mem_of_getElem? hq)
   have HQ := qH (And.intro hq (And.intro es (And.intro ea em)))
   have HRows := qH hrows
   clear hq es ea em hrows hSb
   obtain ⟨gx, egx⟩ : ∃ g, wr.heap.size = g := ⟨_, rfl⟩
   obtain ⟨wx, ewx⟩ : ∃ wx, wr.alloc (.cells #[.string s, .int .i64 a, .slice ra m rcap] 111) = wx := ⟨_, rfl⟩
   have HBx := qH (show Blk wx gx [.string s, .int .i64 a, .slice ra m rcap] 111 by rw [<- ewx, <- egx]; exact Blk.new wr _ _)
   have HXx := qH (show Ext wr wx by rw [<- ewx]; exact (Kp.refl wr).alloc _)
   have HGx := qH (show ∀ k, gE bb r E k -> k < gx from fun k hk => by rw [<- egx]; exact HM.out.base.ownLt k hk)
   have EGX := qH egx
   have x0 : wx.cell? ⟨wr.heap.size, 0, none⟩ = some (.string s) := by rw [egx, HBx.out.cell']; rfl
   have x1 : wx.cell? ⟨wr.heap.size, 1, none⟩ = some (.int .i64 a) := by rw [egx, HBx.out.cell']; rfl
   clear egx
   go_wp2_with fail
   rw [EGX.out]
   refine (xG (HM.out.base.ext HXx.out) s a).mono ?_
   rintro e w2 ⟨v, rfl, hk2, rfl, E1, hB1, hC1, ho1⟩
   have hgx : gx < wx.heap.size := HBx.out.lt
   have hbx2 : Blk w2 gx [.string s, .int .i64 a, .slice ra m rcap] 111 := HBx.out.kp hk2 fun ho => by have := HGx.out gx ho; omega
   have hM1 : MyBase w S w2 bb r E1 :=
    {base := hB1
     ext := (HM.out.ext.trans HXx.out).trans' hk2 fun k hk ho => by have := HM.out.own k ho; omega
     pool := HM.out.pool
     own := fun k hk => by
      rcases ho1 k hk with h1 | h1
      ·exact HM.out.own k h1
      ·have := (HM.out.ext.trans HXx.out).size; omega }
   have hng : ¬ gE bb r E1 gx := fun ho => by
    rcases ho1 gx ho with h1 | h1
    ·have := HGx.out gx h1; omega
    ·omega
   have HM1 := qH (And.intro hM1 (And.intro hC1 (And.intro hbx2 hng)))
   clear hk2 hB1 hC1 ho1 hgx hbx2 hM1 hng ewx x0 x1 c0 c1 c2
   obtain ⟨d, ed⟩ : ∃ d, dK (aW E) s a = d := ⟨_, rfl⟩
   rw [ed]
   have ED := qH ed
   clear ed
   have y2 : w2.cell? ⟨gx, 2, none⟩ = some (.slice ra m rcap) := by rw [HM1.out.2.2.1.cell']; rfl
   by_cases hd : d = 0
   ·have q1 : ((d : Int) != 0) = false := by simp [hd]
    have HD := qH hd
    clear hd
    have hdr : (L.drop i) = q :: L.drop (i + 1) := drop_at HQ.out.1
    have HDr := qH hdr
    clear hdr
    go_wp2
    clear q1
    generalize hw5 : w2 = w5 at *; clear hw5
    go_loopw [31] (fun jv wk => aJy w bb r q (eO (fO (aW E) s a) s q.2.2.1) gx [.string s, .int .i64 a, .slice ra m rcap] m jv wk) (fun jv _ => m - (intOf jv).toNat)
    case atStart => exact ⟨0, Nat.zero_le _, rfl, S, E1, HM1.out.1, by rw [HM1.out.2.1, HQ.out.2.1]; rfl, HM1.out.2.2.1, HM1.out.2.2.2⟩
    case round =>
     clear HM1 HBx HXx HGx EGX y2
     obtain ⟨j, hj, rfl, hin⟩ := hrel
     obtain ⟨S1, E2, hM2, hA2, hbx, hng⟩ := hin.out
     have HM2 := qH (And.intro hM2 (And.intro hA2 (And.intro hbx hng)))
     clear hin hM2 hA2 hbx hng
     by_cases hlt2 : j < m
     ·obtain ⟨ss, hss⟩ : ∃ ss, q.2.2.1[j]? = some ss := ⟨_, qG (by rw [HQ.out.2.2.2]; exact hlt2)⟩
      obtain ⟨g, o, xa, xcap, era, d0, d1, d2, d3⟩ := HRows.out.get hss
      subst era
      replace d0 := HM2.out.1.ext.cell d0 id
      obtain ⟨k, ek⟩ : ∃ k, ss.length = k := ⟨_, rfl⟩
      rw [ek] at d0
      have HSS := qH (And.intro hss ek)
      have HRow := qH (And.intro d1 (And.intro d2 d3))
      have y0 : wr.cell? ⟨gx, 0, none⟩ = some (.string s) := by rw [HM2.out.2.2.1.cell']; rfl
      clear hss ek d1 d2 d3
      go_wp2_with fail
      refine (aAu HM2.out.1.base s (ao := xa) (k := k) (cap := xcap) (ss := ss) ⟨⟨HSS.out.2.symm, HRow.out.1.ext HM2.out.1.ext⟩, HRow.out.2.1, fun a e hne => Nat.lt_of_lt_of_le (cells_lt HRow.out.1 (fun h => hne (by show k = 0; rw [<- HSS.out.2, h]; rfl)) a e) HM2.out.1.ext.size⟩ (fun a e hne ho => by
       have h1 := HM2.out.1.own _ ho
       have h2 := cells_lt HRow.out.1 (fun h => hne (by show k = 0; rw [<- HSS.out.2, h]; rfl)) a e
       omega)).mono ?_
      rintro e w3 ⟨v, rfl, hk3, rfl, S3, E3, hs1, hs2, hB3, hC3, ho3⟩
      have hgx : gx < wr.heap.size := HM2.out.2.2.1.lt
      have hM3 : MyBase w S3 w3 bb r E3 :=
       {base := hB3
        ext := HM2.out.1.ext.trans' hk3 fun k hk ho => by have := HM2.out.1.own k ho; omega
        pool := fun k hk => by
         rcases hs2 k hk with h1 | h1
         ·exact HM2.out.1.pool k h1
         ·have := HM2.out.1.ext.size; omega
        own := fun k hk => by
         rcases ho3 k hk with h1 | h1
         ·exact HM2.out.1.own k h1
         ·have := HM2.out.1.ext.size; omega }
      have hb3 : Blk w3 gx [.string s, .int .i64 a, .slice (some ⟨g, o, none⟩) m rcap] 111 := HM2.out.2.2.1.kp hk3 HM2.out.2.2.2
      have hng : ¬ gE bb r E3 gx := fun ho => by
       rcases ho3 gx ho with h1 | h1
       ·exact HM2.out.2.2.2 h1
       ·omega
      have HM3 := qH (And.intro hM3 (And.intro hC3 (And.intro hb3 hng)))
      clear hk3 hB3 hC3 ho3 hgx hM3 hng hb3 hs1 hs2 y0 d0
      obtain ⟨x1, ex1⟩ : ∃ x, (dV (aW E2) s ss).1 = x := ⟨_, rfl⟩
      obtain ⟨x2, ex2⟩ : ∃ x, (dV (aW E2) s ss).2 = x := ⟨_, rfl⟩
      rw [ex1, ex2]
      have EX := qH ex2
      clear ex1 ex2
      have hdj : q.2.2.1.drop j = ss :: q.2.2.1.drop (j + 1) := drop_at HSS.out.1
      have HDj := qH hdj
      clear hdj
      by_cases hx : x2 = 0
      ·have q1 : ((x2 : Int) != 0) = false := by simp [hx]
       have HX := qH hx
       clear hx
       go_wp2
       go_roundw
       case rel =>
        refine ⟨j + 1, by omega, by first | rfl | (congr 1; done) | (congr 1; omega), S3, E3, HM3.out.1, ?_, HM3.out.2.2.1, HM3.out.2.2.2⟩
        rw [HM3.out.2.1, <- HM2.out.2.1, HDj.out, HQ.out.2.1]
        exact (aFp (by rw [EX.out]; exact HX.out)).symm
       case measure => simp [intOf]; omega
      ·have q1 : ((x2 : Int) != 0) = true := by simp; omega
       have HX := qH hx
       clear hx
       go_wp2
       go_ret2
       have hall := HM2.out.2.1
       rw [HDj.out, HQ.out.2.1, aC9 (by rw [EX.out]; exact HX.out), EX.out] at hall
       have hfr : gS [] L = (aW E2, x2) := by
        rw [<- HF.out, HDr.out, aHc (by rw [HQ.out.2.1, HQ.out.2.2.1, ED.out]; exact HD.out) (by rw [HQ.out.2.1, HQ.out.2.2.1, <- hall]; exact HX.out), HQ.out.2.1, HQ.out.2.2.1, <- hall]
       exact RetN.mk HM3.out.1.ext ⟨fun h0 => by rw [hfr] at h0; exact absurd h0 HX.out, fun _ => by rw [hfr]; rfl⟩
     ·obtain rfl : j = m := by omega
      have hall := HM2.out.2.1
      rw [List.drop_of_length_le (by rw [HQ.out.2.2.2]; exact Nat.le_refl _)] at hall
      have hall' : eO (fO (aW E) s a) s q.2.2.1 = (aW E2, 0) := hall.symm
      have HAll := qH hall'
      clear hall hall'
      go_wp2
      go_roundw
      case rel =>
       refine ⟨i + 1, by omega, by first | rfl | (congr 1; done) | (congr 1; omega), S1, E2, HM2.out.1, ?_⟩
       rw [<- HF.out, HDr.out, aIp (by rw [HQ.out.2.1, HQ.out.2.2.1, ED.out]; exact HD.out) (by rw [HQ.out.2.1, HQ.out.2.2.1, HAll.out]), HQ.out.2.1, HQ.out.2.2.1, HAll.out]
      case measure => simp [intOf]; omega
   ·have q1 : ((d : Int) != 0) = true := by simp; omega
    have HD := qH hd
    clear hd
    go_wp2
    go_ret2
    have hfr : gS [] L = (aW E, d) := by
     rw [<- HF.out, drop_at HQ.out.1, aHd (by rw [HQ.out.2.1, HQ.out.2.2.1, ED.out]; exact HD.out), HQ.out.2.1, HQ.out.2.2.1, ED.out]
    exact RetN.mk HM1.out.1.ext ⟨fun h0 => by rw [hfr] at h0; exact absurd h0 HD.out, fun _ => by rw [hfr]; rfl⟩
  ·obtain rfl : i = n := by omega
   have hfr : gS [] L = (aW E, 0) := by
    rw [<- HF.out, List.drop_of_length_le (by rw [<- HN.out]; exact Nat.le_refl _)]; rfl
   have HFr := qH hfr
   clear hfr
   go_wp2
   go_ret2
   exact RetN.mk HM.out.ext ⟨fun _ => ⟨bb, r, S, E, rfl, HM.out.base, by rw [HFr.out], HM.out.pool, HM.out.own⟩, fun h0 => absurd (by rw [HFr.out]) h0⟩
end
section
open Go.RowKit Go.Shelf
attribute [local go_sem] Oper.semAt_some
theorem tL : ∀ {ts : List aF}, qR ts < 2 -> ∀ {i j : Nat} {t u : aF}, ts[i]? = some t -> ts[j]? = some u -> 4 ≤ t.1 -> 4 ≤ u.1 -> i = j
 | [], _, i, j, t, u, hi, _, _, _ => by cases hi
 | x :: ts, h, i, j, t, u, hi, hj, h4, h5 => by
  unfold qR at h
  rw [List.countP_cons] at h
  have key : ∀ {k : Nat} {s : aF}, ts[k]? = some s -> 4 ≤ s.1 -> 4 ≤ x.1 -> False := fun {k s} hs h6 h7 => by
   have h1 : 0 < ts.countP fun t => decide (4 ≤ t.1) := List.countP_pos_iff.2 ⟨s, List.mem_of_getElem? hs, by simpa using h6⟩
   rw [if_pos (by simpa using h7)] at h
   omega
  match i, j, hi, hj with
  | 0, 0, _, _ => rfl
  | 0, j + 1, hi, hj => cases hi; exact (key hj h5 h4).elim
  | i + 1, 0, hi, hj => cases hj; exact (key hi h4 h5).elim
  | i + 1, j + 1, hi, hj =>
   rw [tL (ts := ts) (by unfold qR; omega) hi hj h4 h5]
def aF7 (L : aC) : Bool := L.all fun V => V.all fun s => decide (s.size ≤ 1048576)
theorem uL {L : aC} (h : aF7 L = true) : ∀ V ∈ L, ∀ s ∈ V, s.size ≤ 1048576 := fun V hV s hs => of_decide_eq_true (List.all_eq_true.1 (List.all_eq_true.1 h V hV) s hs)
def okA (r : cN) (C : List bJ) : Bool := decide (aT r = 0) && (decide (r.2.1 ≠ []) && (decide ((gB r C).length ≤ 1048576) && (aF7 (gB r C) && aF7 ((gB r C).map fun V => bE (aA r.2.1) V r.1.2.1))))
def aI2 (e : Nat) (A : aC) (w w' : World) (v : Value) : Prop := (e ≠ 0 /\ v = .tuple #[.slice none 0 0, .int .i64 (e : Nat)]) \/ (e = 0 /\ ∃ a c, v = .tuple #[.slice a A.length c, .int .i64 0] /\ OwnRows w.heap.size w' (.slice a A.length c) A)
set_option maxHeartbeats 4000000 in
theorem aAh {S : Nat -> Prop} {w : World} {p : ByteArray} {hs : List aF} {ls : List aQ} {ha ba : Option Addr} {hn hcap n bcap : Nat} {G : Nat -> Prop} {ob : Addr} {E : List Ent} {C : List bJ} {j : Nat} {k : Int} {s8 : ByteArray} {e : Nat} {A : aC} (hhn : hn = hs.length) (hh : bD w G ha hs) (hhl : hn ≤ 1048576) (hbn : n = ls.length) (h : dC w G ba ls) (hf : Fit ls) (hnv : (aA ls).length ≤ 1048576) (hn16 : n ≤ 1048576)
 (hB : BaseV S w (.pointer (some ob)) E) (hC : aW E = C) (hok : okA ((p, hs, ()), ls, ()) C = true) (hj : hs[j]? = some (k, s8, ())) (h4 : 4 ≤ k) (hN : NumW w) (hM : xJ (aA ls) hs k (bC (fun x => decide (x = s8)) (aA ls)).toNat j (gB ((p, hs, ()), ls, ()) C) = (e, A)) :
 Calls Tryz.prog 21 #[eV p ha hn hcap ba n bcap, .pointer (some ob)] w (RetN w fun w' v => aI2 e A w w' v) := by
 unfold okA at hok
 rw [Bool.and_eq_true, Bool.and_eq_true, Bool.and_eq_true, Bool.and_eq_true, decide_eq_true_eq, decide_eq_true_eq, decide_eq_true_eq] at hok
 obtain ⟨hc, hne, hl, hz1, hz2⟩ := hok
 have hag : (hs.any fun t => decide (4 ≤ t.1)) = true := List.any_eq_true.2 ⟨_, List.mem_of_getElem? hj, by simpa using h4⟩
 have HF := qH (fun W (hW : Ext w W) => xI (hcap := hcap) (bcap := bcap) (p := p) (L := gB ((p, hs, ()), ls, ()) C) hhn (hh.ext hW) hhl hbn (h.ext hW) hf hnv hn16 (hB.ext hW) (by have := aC0 ((p, hs, ()), ls, ()) E; rw [hC] at this; exact this) hag (hN.ext hW) hl (uL hz1) (fun V hV => uL hz2 _ (List.mem_map.2 ⟨V, hV, rfl⟩)))
 have HK := qH (And.intro hc (And.intro hne (And.intro hj (And.intro h4 hM))))
 clear hhn hh hhl hbn h hf hnv hn16 hB hC hc hne hl hz1 hz2 hag hj h4 hN hM
 obtain ⟨gb, egb⟩ : ∃ g, w.heap.size = g := ⟨_, rfl⟩
 obtain ⟨w1, e1⟩ : ∃ x, w.alloc (.cells #[.string p, .slice ha hn hcap, .slice ba n bcap] 43) = x := ⟨_, rfl⟩
 have x1 : Ext w w1 := by rw [<- e1]; exact (Kp.refl w).alloc _
 have hB1 : Blk w1 gb [.string p, .slice ha hn hcap, .slice ba n bcap] 43 := by rw [<- e1, <- egb]; exact Blk.new w _ _
 have H1 := qH x1
 have r0 : w1.cell? ⟨gb, 0, none⟩ = some (.string p) := by rw [hB1.cell']; rfl
 have r1 : w1.cell? ⟨gb, 1, none⟩ = some (.slice ha hn hcap) := by rw [hB1.cell']; rfl
 have r2 : w1.cell? ⟨gb, 2, none⟩ = some (.slice ba n bcap) := by rw [hB1.cell']; rfl
 clear x1 hB1
 go_enter Tryz.func21, Tryz.ntmps21
 go_wp2_with fail
 clear e1
 refine (HF.out w1 H1.out).mono ?_
 rintro e2 w2 ⟨v2, rfl, hk2, hO⟩
 have HX := qH (H1.out.trans hk2)
 have hsz := H1.out.size
 have hO2 : (e ≠ 0 /\ v2 = .tuple #[.pointer none, .int .i64 (e : Nat)]) \/ (e = 0 /\ ∃ rb iv S, v2 = .tuple #[.pointer (some ⟨rb, 0, none⟩), .int .i64 0] /\ RowsAt S w2 rb iv hs.length A /\ w1.heap.size ≤ rb /\ (∀ k, S k -> w1.heap.size ≤ k) /\ ∀ k, iv.ownBlock = some k -> w1.heap.size ≤ k) := by
  obtain ⟨hc, hne, hj, h4, hM⟩ := HK.out
  rcases hO with ⟨h, _⟩ | ⟨_, j2, k2, s2, hj2, hk2, h⟩
  ·exact absurd hc h
  ·have ej := tL (mV hc).2 hj hj2 h4 hk2.1
   subst ej
   have hj3 : hs[j]? = some (k2, s2, ()) := hj2
   rw [hj] at hj3
   cases hj3
   rcases h with ⟨h, _⟩ | ⟨_, h, _⟩ | ⟨_, _, e3, A3, hM3, h⟩
   ·exact absurd h hne
   ·cases h
   ·have e4 := hM.symm.trans hM3
    cases e4
    exact h
 clear hO hk2 r0 r1 r2
 rcases hO2 with ⟨he, rfl⟩ | ⟨rfl, rb, iv, S2, rfl, hR, hrb, hS, hv⟩
 ·have HE := qH he
  have hnn : (binOp .eql 73 (.pointer none) (.pointer none)).run Tryz.prog w2 = .ok (.bool true) w2 := by kernel_rfl
  clear he
  go_wp2_with fail
  refine (uS (e : Nat) w2).mono ?_
  rintro e5 w5 ⟨v5, rfl, hk5, rfl⟩
  have X5 := qH (HX.out.trans hk5)
  clear hk5
  go_wp2_with fail
  go_ret2
  exact RetN.mk X5.out (.inl ⟨HE.out, rfl⟩)
 ·have HA := qH (uO (hR.q (z := False)))
  have hnn : (binOp .eql 73 (.pointer (some ⟨rb, 0, none⟩)) (.pointer none)).run Tryz.prog w2 = .ok (.bool false) w2 := by kernel_rfl
  have HZ := qH HX.out.size
  clear hR hrb hS hv
  go_wp2_with fail
  refine HA.out.mono ?_
  rintro e5 w5 ⟨v5, rfl, hk5, _, hA⟩
  obtain ⟨aa, ac, ea, -⟩ := hA.shape
  subst ea
  have X5 := qH (And.intro (HX.out.trans (hk5.mono fun k _ f => f.1)) (OwnRows.mono hA HZ.out))
  clear hk5 hA
  go_wp2_with fail
  refine (uS 0 w5).mono ?_
  rintro e6 w6 ⟨v6, rfl, hk6, rfl⟩
  have X6 := qH (And.intro (X5.out.1.trans hk6) (X5.out.2.ext hk6))
  clear hk6
  go_wp2_with fail
  go_ret2
  exact RetN.mk X6.out.1 (.inr ⟨rfl, aa, ac, rfl, X6.out.2⟩)
set_option maxHeartbeats 4000000 in
theorem aG4 {S : Nat -> Prop} {w : World} {p : ByteArray} {hs : List aF} {ls : List aQ} {ha ba wa : Option Addr} {hn hcap n bcap wn wc : Nat} {G : Nat -> Prop} {ob : Addr} {E : List Ent} {C : List bJ} {j : Nat} {k : Int} {s8 : ByteArray} {e : Nat} {A B : aC} (hhn : hn = hs.length) (hh : bD w G ha hs) (hhl : hn ≤ 1048576) (hbn : n = ls.length) (h : dC w G ba ls) (hf : Fit ls) (hnv : (aA ls).length ≤ 1048576) (hn16 : n ≤ 1048576)
 (hB : BaseV S w (.pointer (some ob)) E) (hC : aW E = C) (hok : okA ((p, hs, ()), ls, ()) C = true) (hj : hs[j]? = some (k, s8, ())) (h4 : 4 ≤ k) (hN : NumW w) (hM : xJ (aA ls) hs k (bC (fun x => decide (x = s8)) (aA ls)).toNat j (gB ((p, hs, ()), ls, ()) C) = (e, A)) (hAl : A.length ≤ 1048576) (hwn : wn = B.length) (hW : RowsIn TT w wa B) :
 Calls Tryz.prog 27 #[eV p ha hn hcap ba n bcap, .pointer (some ob), .slice wa wn wc] w (RetN w fun w' v => v = .bool (decide (e = 0 /\ A = B))) := by
 have HF := qH (fun W (hx : Ext w W) => aAh (hcap := hcap) (bcap := bcap) (p := p) hhn (hh.ext hx) hhl hbn (h.ext hx) hf hnv hn16 (hB.ext hx) hC hok hj h4 (hN.ext hx) hM)
 have HW := qH (And.intro hwn (And.intro hW hAl))
 clear hhn hh hhl hbn h hf hnv hn16 hB hC hok hj h4 hN hM hwn hW hAl
 obtain ⟨gb, egb⟩ : ∃ g, w.heap.size = g := ⟨_, rfl⟩
 obtain ⟨w1, e1⟩ : ∃ x, w.alloc (.cells #[.string p, .slice ha hn hcap, .slice ba n bcap] 43) = x := ⟨_, rfl⟩
 have x1 : Ext w w1 := by rw [<- e1]; exact (Kp.refl w).alloc _
 have hB1 : Blk w1 gb [.string p, .slice ha hn hcap, .slice ba n bcap] 43 := by rw [<- e1, <- egb]; exact Blk.new w _ _
 have H1 := qH x1
 have r0 : w1.cell? ⟨gb, 0, none⟩ = some (.string p) := by rw [hB1.cell']; rfl
 have r1 : w1.cell? ⟨gb, 1, none⟩ = some (.slice ha hn hcap) := by rw [hB1.cell']; rfl
 have r2 : w1.cell? ⟨gb, 2, none⟩ = some (.slice ba n bcap) := by rw [hB1.cell']; rfl
 clear x1 hB1
 go_enter Tryz.func27, Tryz.ntmps27
 go_wp2_with fail
 clear e1
 refine (HF.out w1 H1.out).mono ?_
 rintro e2 w2 ⟨v2, rfl, hk2, hO⟩
 have HX := qH (H1.out.trans hk2)
 clear r0 r1 r2 hk2
 rcases hO with ⟨he, rfl⟩ | ⟨rfl, aa, ac, rfl, hA⟩
 ·have h0 : ((e : Int) == 0) = false := by simp; omega
  have HE := qH he
  clear he
  go_wp2_with fail
  go_ret
  exact RetN.mk HX.out (by rw [decide_eq_false (fun h => HE.out h.1)]; rfl)
 ·obtain ⟨a2, c2, ea, hRI⟩ := hA.shape
  cases ea
  have HAl := qH (aA0 (w := w2) (n := A.length) (m := wn) (acap := ac) (bcap := wc) rfl HW.out.1 hRI (HW.out.2.1.ext HX.out) (by have := HW.out.2.2; omega))
  clear hA hRI
  go_wp2_with fail
  refine HAl.out.mono ?_
  rintro e5 w5 ⟨v5, rfl, hk5, rfl⟩
  have X5 := qH (HX.out.trans hk5)
  clear hk5
  by_cases hab : A = B
  ·have hd : decide (A = B) = true := decide_eq_true hab
   rw [hd]
   have HE := qH hab
   clear hab hd
   go_wp2_with fail
   go_ret
   exact RetN.mk X5.out (by rw [decide_eq_true HE.out]; rfl)
  ·have hd : decide (A = B) = false := decide_eq_false hab
   rw [hd]
   have HE := qH hab
   clear hab hd
   go_wp2_with fail
   go_ret
   exact RetN.mk X5.out (by rw [decide_eq_false HE.out]; rfl)
def sT : List nC := [(⟨#[101]⟩, 2, [[(⟨#[97]⟩ : ByteArray), (⟨#[49]⟩ : ByteArray)], [(⟨#[97]⟩ : ByteArray), (⟨#[49, 48]⟩ : ByteArray)], [(⟨#[97]⟩ : ByteArray), (⟨#[57]⟩ : ByteArray)], [(⟨#[98]⟩ : ByteArray), (⟨#[57]⟩ : ByteArray)], [(⟨#[98]⟩ : ByteArray), (⟨#[]⟩ : ByteArray)]], ())]
def aAx : List bJ := [(⟨#[101]⟩, 2, [[(⟨#[97]⟩ : ByteArray), (⟨#[49]⟩ : ByteArray)], [(⟨#[97]⟩ : ByteArray), (⟨#[49, 48]⟩ : ByteArray)], [(⟨#[97]⟩ : ByteArray), (⟨#[57]⟩ : ByteArray)], [(⟨#[98]⟩ : ByteArray), (⟨#[]⟩ : ByteArray)], [(⟨#[98]⟩ : ByteArray), (⟨#[57]⟩ : ByteArray)]])]
theorem sR : gS [] sT = (aAx, 0) := by kernel_rfl
set_option maxHeartbeats 4000000 in
theorem zY (w : World) : Calls Tryz.prog 23 #[] w (RetN w fun w' v => ∃ bb E S, v = .pointer (some ⟨bb, 0, none⟩) /\ BaseV S w' v E /\ aW E = aAx) := by
 obtain ⟨w1, e1⟩ : ∃ x, w.alloc (.cells #[.string ⟨#[97]⟩, .string ⟨#[49]⟩] 9) = x := ⟨_, rfl⟩
 have B1 := qH (show Blk w1 w.heap.size [.string ⟨#[97]⟩, .string ⟨#[49]⟩] 9 from by rw [<- e1]; exact Blk.new w _ _)
 have Y1 := qH (show Ext w w1 from by rw [<- e1]; exact (Kp.refl w).alloc _)
 obtain ⟨w2, e2⟩ : ∃ x, w1.alloc (.cells #[.string ⟨#[97]⟩, .string ⟨#[49, 48]⟩] 9) = x := ⟨_, rfl⟩
 have B2 := qH (show Blk w2 w1.heap.size [.string ⟨#[97]⟩, .string ⟨#[49, 48]⟩] 9 from by rw [<- e2]; exact Blk.new w1 _ _)
 have Y2 := qH (show Ext w1 w2 from by rw [<- e2]; exact (Kp.refl w1).alloc _)
 obtain ⟨w3, e3⟩ : ∃ x, w2.alloc (.cells #[.string ⟨#[97]⟩, .string ⟨#[57]⟩] 9) = x := ⟨_, rfl⟩
 have B3 := qH (show Blk w3 w2.heap.size [.string ⟨#[97]⟩, .string ⟨#[57]⟩] 9 from by rw [<- e3]; exact Blk.new w2 _ _)
 have Y3 := qH (show Ext w2 w3 from by rw [<- e3]; exact (Kp.refl w2).alloc _)
 obtain ⟨w4, e4⟩ : ∃ x, w3.alloc (.cells #[.string ⟨#[98]⟩, .string ⟨#[57]⟩] 9) = x := ⟨_, rfl⟩
 have B4 := qH (show Blk w4 w3.heap.size [.string ⟨#[98]⟩, .string ⟨#[57]⟩] 9 from by rw [<- e4]; exact Blk.new w3 _ _)
 have Y4 := qH (show Ext w3 w4 from by rw [<- e4]; exact (Kp.refl w3).alloc _)
 obtain ⟨w5, e5⟩ : ∃ x, w4.alloc (.cells #[.string ⟨#[98]⟩, .string ⟨#[]⟩] 9) = x := ⟨_, rfl⟩
 have B5 := qH (show Blk w5 w4.heap.size [.string ⟨#[98]⟩, .string ⟨#[]⟩] 9 from by rw [<- e5]; exact Blk.new w4 _ _)
 have Y5 := qH (show Ext w4 w5 from by rw [<- e5]; exact (Kp.refl w4).alloc _)
 obtain ⟨w6, e6⟩ : ∃ x, w5.alloc (.cells #[.slice (some ⟨w.heap.size, 0, none⟩) 2 2, .slice (some ⟨w1.heap.size, 0, none⟩) 2 2, .slice (some ⟨w2.heap.size, 0, none⟩) 2 2, .slice (some ⟨w3.heap.size, 0, none⟩) 2 2, .slice (some ⟨w4.heap.size, 0, none⟩) 2 2] 66) = x := ⟨_, rfl⟩
 have B6 := qH (show Blk w6 w5.heap.size [.slice (some ⟨w.heap.size, 0, none⟩) 2 2, .slice (some ⟨w1.heap.size, 0, none⟩) 2 2, .slice (some ⟨w2.heap.size, 0, none⟩) 2 2, .slice (some ⟨w3.heap.size, 0, none⟩) 2 2, .slice (some ⟨w4.heap.size, 0, none⟩) 2 2] 66 from by rw [<- e6]; exact Blk.new w5 _ _)
 have Y6 := qH (show Ext w5 w6 from by rw [<- e6]; exact (Kp.refl w5).alloc _)
 obtain ⟨w7, e7⟩ : ∃ x, w6.alloc (.cells #[.string ⟨#[101]⟩, .int .i64 2, .slice (some ⟨w5.heap.size, 0, none⟩) 5 5] 111) = x := ⟨_, rfl⟩
 have B7 := qH (show Blk w7 w6.heap.size [.string ⟨#[101]⟩, .int .i64 2, .slice (some ⟨w5.heap.size, 0, none⟩) 5 5] 111 from by rw [<- e7]; exact Blk.new w6 _ _)
 have Y7 := qH (show Ext w6 w7 from by rw [<- e7]; exact (Kp.refl w6).alloc _)
 have HE := qH (uN (w := w6) (g := w5.heap.size) (l := [(w.heap.size, [(⟨#[97]⟩ : ByteArray), (⟨#[49]⟩ : ByteArray)]), (w1.heap.size, [(⟨#[97]⟩ : ByteArray), (⟨#[49, 48]⟩ : ByteArray)]), (w2.heap.size, [(⟨#[97]⟩ : ByteArray), (⟨#[57]⟩ : ByteArray)]), (w3.heap.size, [(⟨#[98]⟩ : ByteArray), (⟨#[57]⟩ : ByteArray)]), (w4.heap.size, [(⟨#[98]⟩ : ByteArray), (⟨#[]⟩ : ByteArray)])]) (LL := [[(⟨#[97]⟩ : ByteArray), (⟨#[49]⟩ : ByteArray)], [(⟨#[97]⟩ : ByteArray), (⟨#[49, 48]⟩ : ByteArray)], [(⟨#[97]⟩ : ByteArray), (⟨#[57]⟩ : ByteArray)], [(⟨#[98]⟩ : ByteArray), (⟨#[57]⟩ : ByteArray)], [(⟨#[98]⟩ : ByteArray), (⟨#[]⟩ : ByteArray)]]) rfl B6.out (fun x hx => by
  simp only [List.mem_cons, List.not_mem_nil, or_false] at hx
  rcases hx with rfl | rfl | rfl | rfl | rfl
  ·exact ⟨B1.out.ext (Y2.out.trans (Y3.out.trans (Y4.out.trans (Y5.out.trans (Y6.out))))), by simp⟩
  ·exact ⟨B2.out.ext (Y3.out.trans (Y4.out.trans (Y5.out.trans (Y6.out)))), by simp⟩
  ·exact ⟨B3.out.ext (Y4.out.trans (Y5.out.trans (Y6.out))), by simp⟩
  ·exact ⟨B4.out.ext (Y5.out.trans (Y6.out)), by simp⟩
  ·exact ⟨B5.out.ext (Y6.out), by simp⟩))
 have X := qH (show Ext w w7 from Y1.out.trans (Y2.out.trans (Y3.out.trans (Y4.out.trans (Y5.out.trans (Y6.out.trans (Y7.out)))))))
 have XE := qH Y7.out
 have BR := qH B7.out
 clear B1 Y1 B2 Y2 B3 Y3 B4 Y4 B5 Y5 B6 Y6 B7 Y7
 have hL : aHz TT w7 (some ⟨w6.heap.size, 0, none⟩) sT := fun i q hq => by
  match i, hq with
  | 0, hq => cases hq; exact ⟨w6.heap.size, 0, some ⟨w5.heap.size, 0, none⟩, 5, rfl, trivial, by rw [BR.out.cell']; rfl, by rw [BR.out.cell']; rfl, by rw [BR.out.cell']; rfl, by decide, by decide, HE.out.ext XE.out⟩
  | n + 1, hq => cases hq
 have HFr := qH (aHe sT (some ⟨w6.heap.size, 0, none⟩) 1 1 w7 TT rfl hL (by decide) (by decide))
 clear hL
 go_enter Tryz.func23, Tryz.ntmps23
 go_wp2_with fail
 refine HFr.out.mono ?_
 rintro e w11 ⟨v, rfl, hk11, hv⟩
 obtain ⟨bb, r, S, E, rfl, hb, hC, -, -⟩ := hv.1 (by rw [sR])
 have H11 := qH (show Ext w w11 /\ BaseAt S w11 bb r E /\ aW E = aAx from ⟨X.out.trans hk11, hb, by rw [hC, sR]⟩)
 clear hv hb hC hk11
 go_wp2
 go_ret
 exact RetN.mk H11.out.1 ⟨bb, E, S, rfl, .full bb r E H11.out.2.1, H11.out.2.2⟩
def pG : List aF := [((1 : Int), (⟨#[88]⟩ : ByteArray), ()), ((4 : Int), (⟨#[]⟩ : ByteArray), ())]
def aHr : List aF := [((1 : Int), (⟨#[88]⟩ : ByteArray), ()), ((1 : Int), (⟨#[89]⟩ : ByteArray), ())]
def lS : List aQ := [((1 : Int), ((⟨#[101]⟩ : ByteArray), aHr, ()), (0 : Int), ((0 : Int), (⟨#[]⟩ : ByteArray), ()), ((0 : Int), (⟨#[]⟩ : ByteArray), ()), ())]
def aAw : aC := [[(⟨#[97]⟩ : ByteArray), (⟨#[51]⟩ : ByteArray)], [(⟨#[98]⟩ : ByteArray), (⟨#[50]⟩ : ByteArray)]]
theorem aIu : okA ((⟨#[116]⟩, pG, ()), lS, ()) aAx = true := by kernel_rfl
theorem aIv : xJ (aA lS) pG 4 (bC (fun x => decide (x = (⟨#[]⟩ : ByteArray))) (aA lS)).toNat 1 (gB ((⟨#[116]⟩, pG, ()), lS, ()) aAx) = (0, aAw) := by kernel_rfl
theorem aC2 (bb : Nat) (w : World) : (binOp .neq 45 (.pointer (some ⟨bb, 0, none⟩)) (.pointer none)).run Tryz.prog w = .ok (.bool true) w := by kernel_rfl
set_option maxHeartbeats 4000000 in
theorem aAv (w : World) (hN : NumW w) : Calls Tryz.prog 15 #[] w (RetN w fun w' v => v = .bool true) := by
 have HN := qH hN
 clear hN
 go_enter Tryz.func15, Tryz.ntmps15
 go_wp2_with fail
 refine (zY w).mono ?_
 rintro e w1 ⟨v1, rfl, hk1, bb, E, SS, rfl, hBv, hCv⟩
 have X1 := qH (And.intro hk1 (And.intro hBv hCv))
 clear hk1 hBv hCv
 have hnb := aC2 bb w1
 go_wp2_with fail
 refine (wF ⟨#[88]⟩ w1).mono ?_
 rintro e w2 ⟨v2, rfl, hk2, rfl⟩
 have X2 := qH hk2
 clear hk2 hnb
 obtain ⟨w3, ew3⟩ : ∃ x, w2.alloc (.cells #[.int .i64 1, .string ⟨#[88]⟩, .int .i64 4, .string ⟨#[]⟩] 58) = x := ⟨_, rfl⟩
 have X3 := qH (show Ext w2 w3 from by rw [<- ew3]; exact (Kp.refl w2).alloc _)
 have T3 := qH (show bD w3 TT (some ⟨w2.heap.size, 0, none⟩) pG from by rw [<- ew3]; exact uD w2 pG (by kernel_rfl))
 go_wp2_with fail
 clear ew3
 refine (wF ⟨#[88]⟩ w3).mono ?_
 rintro e w4 ⟨v4, rfl, hk4, rfl⟩
 have X4 := qH hk4
 clear hk4
 go_wp2_with fail
 refine (wF ⟨#[89]⟩ w4).mono ?_
 rintro e w5 ⟨v5, rfl, hk5, rfl⟩
 have X5 := qH hk5
 clear hk5
 obtain ⟨w6, ew6⟩ : ∃ x, w5.alloc (.cells #[.int .i64 1, .string ⟨#[88]⟩, .int .i64 1, .string ⟨#[89]⟩] 58) = x := ⟨_, rfl⟩
 have X6 := qH (show Ext w5 w6 from by rw [<- ew6]; exact (Kp.refl w5).alloc _)
 have T6 := qH (show bD w6 TT (some ⟨w5.heap.size, 0, none⟩) aHr from by rw [<- ew6]; exact uD w5 aHr (by kernel_rfl))
 go_wp2_with fail
 clear ew6
 refine (aEe ⟨#[101]⟩ (some ⟨w5.heap.size, 0, none⟩) 2 2 w6).mono ?_
 rintro e w7 ⟨v7, rfl, hk7, rfl⟩
 have X7 := qH hk7
 clear hk7
 obtain ⟨w8, ew8⟩ : ∃ x, w7.alloc (.cells #[.int .i64 1, .string ⟨#[101]⟩, .slice (some ⟨w5.heap.size, 0, none⟩) 2 2, .int .i64 0, .int .i64 0, .string ⟨#[]⟩, .int .i64 0, .string ⟨#[]⟩] 60) = x := ⟨_, rfl⟩
 have X8 := qH (show Ext w7 w8 from by rw [<- ew8]; exact (Kp.refl w7).alloc _)
 have L8 := qH (show dC w8 TT (some ⟨w7.heap.size, 0, none⟩) lS from by
  rw [<- ew8]
  refine aGo w7 lS [(some ⟨w5.heap.size, 0, none⟩, 2)] rfl (by kernel_rfl) fun x hx => ?_
  unfold lS at hx
  simp only [List.zip_cons_cons, List.zip_nil_right, List.mem_cons, List.not_mem_nil, or_false] at hx
  rcases hx with rfl
  exact ⟨T6.out.ext X7.out, Nat.le_refl _, (by decide : 2 ≤ maxLen)⟩)
 go_wp2_with fail
 clear ew8
 refine (aBl (some ⟨w2.heap.size, 0, none⟩) (some ⟨w7.heap.size, 0, none⟩) 2 2 1 1 w8).mono ?_
 rintro e w9 ⟨v9, rfl, hk9, rfl⟩
 have X9 := qH hk9
 clear hk9
 obtain ⟨w10, e10⟩ : ∃ x, w9.alloc (.cells #[.string ⟨#[97]⟩, .string ⟨#[51]⟩] 9) = x := ⟨_, rfl⟩
 obtain ⟨w11, e11⟩ : ∃ x, w10.alloc (.cells #[.string ⟨#[98]⟩, .string ⟨#[50]⟩] 9) = x := ⟨_, rfl⟩
 obtain ⟨w12, e12⟩ : ∃ x, w11.alloc (.cells #[.slice (some ⟨w9.heap.size, 0, none⟩) 2 2, .slice (some ⟨w10.heap.size, 0, none⟩) 2 2] 66) = x := ⟨_, rfl⟩
 have x10 : Ext w9 w10 := by rw [<- e10]; exact (Kp.refl w9).alloc _
 have x11 : Ext w10 w11 := by rw [<- e11]; exact (Kp.refl w10).alloc _
 have x12 : Ext w11 w12 := by rw [<- e12]; exact (Kp.refl w11).alloc _
 have b10 : Blk w10 w9.heap.size [.string ⟨#[97]⟩, .string ⟨#[51]⟩] 9 := by rw [<- e10]; exact Blk.new w9 _ _
 have b11 : Blk w11 w10.heap.size [.string ⟨#[98]⟩, .string ⟨#[50]⟩] 9 := by rw [<- e11]; exact Blk.new w10 _ _
 have b12 : Blk w12 w11.heap.size [.slice (some ⟨w9.heap.size, 0, none⟩) 2 2, .slice (some ⟨w10.heap.size, 0, none⟩) 2 2] 66 := by rw [<- e12]; exact Blk.new w11 _ _
 have HW := qH (show RowsIn TT w12 (some ⟨w11.heap.size, 0, none⟩) aAw from uN (l := [(w9.heap.size, [(⟨#[97]⟩ : ByteArray), (⟨#[51]⟩ : ByteArray)]), (w10.heap.size, [(⟨#[98]⟩ : ByteArray), (⟨#[50]⟩ : ByteArray)])]) rfl b12 (fun x hx => by
  simp only [List.mem_cons, List.not_mem_nil, or_false] at hx
  rcases hx with rfl | rfl
  ·exact ⟨b10.ext (x11.trans x12), by simp⟩
  ·exact ⟨b11.ext x12, by simp⟩))
 have X12 := qH (x10.trans (x11.trans x12))
 clear x10 x11 x12 b10 b11 b12
 go_wp2_with fail
 clear e10 e11 e12
 have H9 := qH (show Ext w w12 /\ Ext w1 w12 /\ Ext w3 w12 /\ Ext w8 w12 from
  have a := X9.out.trans X12.out
  have b := X4.out.trans (X5.out.trans (X6.out.trans (X7.out.trans (X8.out.trans a))))
  have c := X2.out.trans (X3.out.trans b)
  ⟨X1.out.1.trans c, c, b, a⟩)
 refine (aG4 (p := ⟨#[116]⟩) (hs := pG) (ls := lS) (hn := 2) (hcap := 2) (n := 1) (bcap := 1) (G := TT) (wc := 2) (B := aAw) rfl (T3.out.ext H9.out.2.2.1) (by decide) rfl (L8.out.ext H9.out.2.2.2) (aJo (by kernel_rfl)) (aJp (by kernel_rfl)) (by decide) (X1.out.2.1.ext H9.out.2.1) X1.out.2.2 aIu (j := 1) rfl (by decide) (HN.out.ext H9.out.1) aIv (by decide) rfl HW.out).mono ?_
 rintro e w13 ⟨v13, rfl, hk13, rfl⟩
 have X13 := qH (H9.out.1.trans hk13)
 clear hk13
 rw [show decide (0 = 0 /\ aAw = aAw) = true from decide_eq_true ⟨rfl, rfl⟩]
 go_wp2
 go_ret
 exact RetN.mk X13.out rfl
def aG5 (x : Int) : Value := .int .i64 x
def kAt (M : List Int) (i : Nat) : Nat := match M[i]? with | some x => if 0 < x /\ x < 3 then x.toNat else 0 | none => 0
theorem aG1 (M : List Int) (i : Nat) : kAt M i < 3 := by
 unfold kAt
 split
 ·split <;> omega
 ·omega
def oI (L M : List Int) : Nat -> PN
 | 0 => fun _ => (0, 0)
 | i + 1 => rP (oI L M i) (kAt M i) (L.getD i 0)
theorem jZ {L M : List Int} (hr : ∀ x ∈ L, -9223372036854775808 ≤ x /\ x ≤ 9223372036854775807) : ∀ i, smallA (oI L M i) i
 | 0 => fun j => ⟨Nat.zero_le _, Nat.zero_le _⟩
 | i + 1 => by
  have h : -9223372036854775808 ≤ L.getD i 0 /\ L.getD i 0 ≤ 9223372036854775807 := by
   rw [List.getD_eq_getElem?_getD]
   cases hx : L[i]? with
   | none => exact ⟨by decide, by decide⟩
   | some x => exact hr x (List.mem_of_getElem? hx)
  exact (jZ hr i).put h.1 h.2
def TotTo (w6 : World) (ta tb ra rb : Nat) (L M : List Int) (n : Nat) (iv : Value) (W : World) : Prop :=
 ∃ i : Nat, i ≤ n /\ iv = .int .i64 i /\ Hid (Kp (fun q => (q = ta \/ q = tb) \/ q = ra \/ q = rb) w6 W) /\ Hid (TotA W ta tb (oI L M i)) /\ Hid (TotR W ra rb (oI L M i))
def TotIn (w8 : World) (jv : Value) (W : World) : Prop := ∃ j : Nat, j ≤ 3 /\ jv = .int .i64 j /\ Hid (Ext w8 W)
set_option maxHeartbeats 16000000 in
theorem aBf {w : World} {la ma : Option Addr} {n lc m mc : Nat} {L M : List Int} (hn : n = L.length) (hl : CellsAt w la (L.map aG5)) (hr : ∀ x ∈ L, -9223372036854775808 ≤ x /\ x ≤ 9223372036854775807) (hm : m = M.length) (hml : CellsAt w ma (M.map aG5)) (hN : NumW w) (hl16 : n ≤ 1048576) (hm16 : m ≤ 1048576) :
 Calls Tryz.prog 3 #[.slice la n lc, .slice ma m mc] w (RetN w fun w' v => v = .bool true) := by
 have HN := qH (And.intro hn (And.intro hl (And.intro hr (And.intro hm (And.intro hml hN)))))
 clear hn hl hr hm hml hN
 go_enter Tryz.func3, Tryz.ntmps3
 go_wp2_with fail
 refine (jS w).mono ?_
 rintro e w1 ⟨v, rfl, hk1, rfl, hs1, hT1⟩
 obtain ⟨ta, eta⟩ : ∃ x, w.heap.size = x := ⟨_, rfl⟩
 rw [eta] at hs1 hT1 ⊢
 have H1 := qH (And.intro hk1 (And.intro hs1 (And.intro hT1 eta)))
 clear hk1 hs1 hT1 eta
 go_wp2_with fail
 refine (jS w1).mono ?_
 rintro e w2 ⟨v, rfl, hk2, rfl, hs2, hT2⟩
 obtain ⟨tb, etb⟩ : ∃ x, w1.heap.size = x := ⟨_, rfl⟩
 rw [etb] at hs2 hT2 ⊢
 have H2 := qH (show Ext w w2 /\ TotalAt w2 ta 0 /\ TotalAt w2 tb 0 /\ ta = w.heap.size /\ tb = ta + 1 from ⟨H1.out.1.trans hk2, Blk.ext H1.out.2.2.1 hk2, hT2, H1.out.2.2.2.symm, by rw [<- etb]; exact H1.out.2.1⟩)
 clear hk2 hs2 hT2 etb
 obtain ⟨ga, ega⟩ : ∃ x, w2.heap.size = x := ⟨_, rfl⟩
 obtain ⟨w3, e3⟩ : ∃ x, w2.alloc (.cells #[.pointer (some ⟨ta, 0, none⟩), .pointer (some ⟨tb, 0, none⟩), .pointer none] 24) = x := ⟨_, rfl⟩
 have b3 : Blk w3 ga [.pointer (some ⟨ta, 0, none⟩), .pointer (some ⟨tb, 0, none⟩), .pointer none] 24 := by rw [<- e3, <- ega]; exact Blk.new w2 _ _
 have H3 := qH (And.intro (show Ext w2 w3 from by rw [<- e3]; exact (Kp.refl w2).alloc _) b3)
 clear b3
 go_wp2_with fail
 clear e3 ega
 refine (kE w3).mono ?_
 rintro e w4 ⟨v, rfl, hk4, rfl, hs4, hT4⟩
 obtain ⟨ra, era⟩ : ∃ x, w3.heap.size = x := ⟨_, rfl⟩
 rw [era] at hs4 hT4 ⊢
 have H4 := qH (And.intro (H3.out.1.trans hk4) (And.intro hs4 (And.intro hT4 (And.intro era (H3.out.2.ext hk4)))))
 clear hk4 hs4 hT4 era
 go_wp2_with fail
 refine (kE w4).mono ?_
 rintro e w5 ⟨v, rfl, hk5, rfl, hs5, hT5⟩
 obtain ⟨rb, erb⟩ : ∃ x, w4.heap.size = x := ⟨_, rfl⟩
 rw [erb] at hs5 hT5 ⊢
 have H5 := qH (show Ext w2 w5 /\ RefTot w5 ra 0 0 /\ RefTot w5 rb 0 0 /\ rb = ra + 1 /\ w2.heap.size ≤ ra /\ Blk w5 ga [.pointer (some ⟨ta, 0, none⟩), .pointer (some ⟨tb, 0, none⟩), .pointer none] 24 from ⟨H4.out.1.trans hk5, Blk.ext H4.out.2.2.1 hk5, hT5, by rw [<- erb]; exact H4.out.2.1, by rw [<- H4.out.2.2.2.1]; exact H3.out.1.size, H4.out.2.2.2.2.ext hk5⟩)
 clear hk5 hs5 hT5 erb
 obtain ⟨gb, egb⟩ : ∃ x, w5.heap.size = x := ⟨_, rfl⟩
 obtain ⟨w6, e6⟩ : ∃ x, w5.alloc (.cells #[.pointer (some ⟨ra, 0, none⟩), .pointer (some ⟨rb, 0, none⟩), .pointer none] 27) = x := ⟨_, rfl⟩
 have b6 : Blk w6 gb [.pointer (some ⟨ra, 0, none⟩), .pointer (some ⟨rb, 0, none⟩), .pointer none] 27 := by rw [<- e6, <- egb]; exact Blk.new w5 _ _
 have x6 : Ext w5 w6 := by rw [<- e6]; exact (Kp.refl w5).alloc _
 have H6 := qH (show Ext w w6 /\ Blk w6 ga [.pointer (some ⟨ta, 0, none⟩), .pointer (some ⟨tb, 0, none⟩), .pointer none] 24 /\ Blk w6 gb [.pointer (some ⟨ra, 0, none⟩), .pointer (some ⟨rb, 0, none⟩), .pointer none] 27 /\ TotA w6 ta tb (fun _ => (0, 0)) /\ TotR w6 ra rb (fun _ => (0, 0)) from
  ⟨H2.out.1.trans (H5.out.1.trans x6), H5.out.2.2.2.2.2.ext x6, b6, ⟨Blk.ext H2.out.2.1 (H5.out.1.trans x6), Blk.ext H2.out.2.2.1 (H5.out.1.trans x6)⟩, ⟨Blk.ext H5.out.2.1 x6, Blk.ext H5.out.2.2.1 x6⟩⟩)
 have HO := qH (show ta = w.heap.size /\ tb = ta + 1 /\ tb < w2.heap.size /\ w2.heap.size ≤ ra /\ rb = ra + 1 from ⟨H2.out.2.2.2.1, H2.out.2.2.2.2, Blk.lt H2.out.2.2.1, H5.out.2.2.2.2.1, H5.out.2.2.2.1⟩)
 have a0 : w6.cell? ⟨ga, 0, none⟩ = some (.pointer (some ⟨ta, 0, none⟩)) := by rw [H6.out.2.1.cell']; rfl
 have a1 : w6.cell? ⟨ga, 1, none⟩ = some (.pointer (some ⟨tb, 0, none⟩)) := by rw [H6.out.2.1.cell']; rfl
 clear b6 x6
 go_wp2_with fail
 clear e6 egb a0 a1
 go_loopw [7] (fun iv wr => TotTo w6 ta tb ra rb L M n iv wr) (fun iv _ => n - (intOf iv).toNat)
 case atStart => exact ⟨0, Nat.zero_le _, rfl, qH (Kp.refl _), qH H6.out.2.2.2.1, qH H6.out.2.2.2.2⟩
 case round =>
  obtain ⟨i, hi, rfl, hkp, hA, hR⟩ := hrel
  have hxw : Ext w wr := H6.out.1.trans' hkp.out fun i hi f => by
   have h1 := HO.out
   rcases f with (f | f) | f | f <;> omega
  by_cases hlt : i < n
  ·obtain ⟨x, hx⟩ : ∃ x, L[i]? = some x := ⟨_, qG (by rw [<- HN.out.1]; exact hlt)⟩
   obtain ⟨b, o, ela, c0⟩ := HN.out.2.1 i (aG5 x) (by rw [List.getElem?_map, hx]; rfl)
   subst ela
   have hxr := HN.out.2.2.1 x (List.mem_of_getElem? hx)
   have hgd : L.getD i 0 = x := by rw [List.getD_eq_getElem?_getD, hx]; rfl
   have hF : ∀ q cs (e : TypeId), Blk w6 q cs e -> e ≠ 98 -> e ≠ 100 -> ¬ ((q = ta \/ q = tb) \/ q = ra \/ q = rb) := fun q cs e hb n1 n2 f => by
    obtain ⟨p1, p2⟩ := H6.out.2.2.2.1
    obtain ⟨p3, p4⟩ := H6.out.2.2.2.2
    rcases f with (rfl | rfl) | rfl | rfl
    ·exact n1 (aL hb p1)
    ·exact n1 (aL hb p2)
    ·exact n2 (aL hb p3)
    ·exact n2 (aL hb p4)
   have hbl : b < w.heap.size := World.block_lt_of_cell? _ _ c0
   have HS := qH (show ∀ W, Kp (fun q => (q = ta \/ q = tb) \/ q = ra \/ q = rb) w6 W -> (W.cell? ⟨ga, 0, none⟩ = some (.pointer (some ⟨ta, 0, none⟩)) /\ W.cell? ⟨ga, 1, none⟩ = some (.pointer (some ⟨tb, 0, none⟩)) /\ W.cell? ⟨ga, 2, none⟩ = some (.pointer none)) /\ (W.cell? ⟨gb, 0, none⟩ = some (.pointer (some ⟨ra, 0, none⟩)) /\ W.cell? ⟨gb, 1, none⟩ = some (.pointer (some ⟨rb, 0, none⟩)) /\ W.cell? ⟨gb, 2, none⟩ = some (.pointer none)) /\ W.cell? ⟨b, o + i, none⟩ = some (.int .i64 x) from fun W hW => by
    have q1 := H6.out.2.1.kp hW (hF _ _ _ H6.out.2.1 (by decide) (by decide))
    have q2 := H6.out.2.2.1.kp hW (hF _ _ _ H6.out.2.2.1 (by decide) (by decide))
    refine ⟨⟨by rw [q1.cell']; rfl, by rw [q1.cell']; rfl, by rw [q1.cell']; rfl⟩, ⟨by rw [q2.cell']; rfl, by rw [q2.cell']; rfl, by rw [q2.cell']; rfl⟩, hW.cell (H6.out.1.cell c0 id) fun f => ?_⟩
    have h1 := HO.out
    rcases f with (f | f) | f | f <;> omega)
   have hne1 : ta ≠ tb := by have := HO.out; omega
   have hne2 : ra ≠ rb := by have := HO.out; omega
   have HAdd := qH (show ∀ k, kAt M i = k -> Calls Tryz.prog 11 #[pvT ta tb k, .int .i64 x] wr.drew fun e w' => e = .returned (.tuple #[]) /\ Kp (fun q => q = ta \/ q = tb) wr.drew w' /\ TotA w' ta tb (oI L M (i + 1)) from fun k hk => by
    have h := aF0 (W := wr.drew) (k := k) (by rw [<- hk]; exact aG1 M i) hne1 (TotA.kp (F := fun _ => False) hA.out (Kp.refl wr).drew id id) hxr.1 hxr.2
    rw [<- hk] at h ⊢
    have e : oI L M (i + 1) = rP (oI L M i) (kAt M i) x := by rw [<- hgd]; rfl
    rw [e]; exact h)
   have HAddR := qH (show ∀ k, kAt M i = k -> ∀ W, TotR W ra rb (oI L M i) -> Calls Tryz.prog 12 #[pvT ra rb k, .int .i64 x] W fun e w' => e = .returned (.tuple #[]) /\ Kp (fun q => q = ra \/ q = rb) W w' /\ TotR w' ra rb (oI L M (i + 1)) from fun k hk W hW => by
    have h := aFy (W := W) (k := k) (by rw [<- hk]; exact aG1 M i) hne2 hW hxr.1 hxr.2 (jZ HN.out.2.2.1 i) (by omega)
    rw [<- hk] at h ⊢
    have e : oI L M (i + 1) = rP (oI L M i) (kAt M i) x := by rw [<- hgd]; rfl
    rw [e]; exact h)
   have hcase : (¬ (i : Int) < (m : Int) /\ kAt M i = 0) \/ (∃ y b o, ma = some ⟨b, o, none⟩ /\ (i : Int) < (m : Int) /\ wr.cell? ⟨b, o + i, none⟩ = some (.int .i64 y) /\ ((¬ 0 < y /\ kAt M i = 0) \/ (0 < y /\ ¬ y < 3 /\ kAt M i = 0) \/ (y = 1 /\ kAt M i = 1) \/ (y = 2 /\ kAt M i = 2))) := by
    by_cases him : i < m
    ·obtain ⟨y, hy⟩ : ∃ y, M[i]? = some y := ⟨_, qG (by rw [<- HN.out.2.2.2.1]; exact him)⟩
     obtain ⟨b', o', em, c'⟩ := HN.out.2.2.2.2.1 i (aG5 y) (by rw [List.getElem?_map, hy]; rfl)
     have hbl' : b' < w.heap.size := World.block_lt_of_cell? _ _ c'
     refine .inr ⟨y, b', o', em, by omega, hxw.cell c' id, ?_⟩
     unfold kAt
     rw [hy]
     show (_ /\ (if _ then _ else _) = 0) \/ _
     by_cases y0 : 0 < y
     ·by_cases y3 : y < 3
      ·rw [if_pos ⟨y0, y3⟩]
       by_cases y1 : y = 1
       ·subst y1; exact .inr (.inr (.inl ⟨rfl, rfl⟩))
       ·have y2 : y = 2 := by omega
        subst y2; exact .inr (.inr (.inr ⟨rfl, rfl⟩))
      ·exact .inr (.inl ⟨y0, y3, if_neg fun h => y3 h.2⟩)
     ·exact .inl ⟨y0, if_neg fun h => y0 h.1⟩
    ·refine .inl ⟨by omega, ?_⟩
     unfold kAt
     rw [List.getElem?_eq_none (by rw [<- HN.out.2.2.2.1]; omega)]
   have i1 : (i : Int) < (n : Int) := by omega
   have HX := qH (And.intro hxw (And.intro hkp.out hR.out))
   clear hx c0 hxr hgd hF hbl hne1 hne2 hxw hkp hA hR
   rcases hcase with ⟨j1, hk⟩ | ⟨y, b', o', rfl, j1, c', ⟨j2, hk⟩ | ⟨j2, j3, hk⟩ | ⟨rfl, hk⟩ | ⟨rfl, hk⟩⟩
   all_goals
    have HK := qH hk
    clear hk
    go_wp2
    refine aO (fun w' : World => (w'.cell? ⟨ga, 0, none⟩ = some (.pointer (some ⟨ta, 0, none⟩)) /\ w'.cell? ⟨ga, 1, none⟩ = some (.pointer (some ⟨tb, 0, none⟩)) /\ w'.cell? ⟨ga, 2, none⟩ = some (.pointer none)) /\ w'.cell? ⟨b, o + i, none⟩ = some (.int .i64 x)) [8] (by kernel_rfl) (And.intro (HS.out wr.drew HX.out.2.1.drew).1 (HS.out wr.drew HX.out.2.1.drew).2.2) (fun hHeld => ?_)
    refine dF 0 ?_; try simp only [Act.put,sI,sZ,sS]
    refine dF 1 ?_; try simp only [Act.put,sI,sZ,sS]
    refine dI 2 ?_; try simp only [Act.put,sI,sZ,sS]
    refine dI 3 ?_; try simp only [Act.put,sI,sZ,sS]
    refine dF 4 ?_; try simp only [Act.put,sI,sZ,sS]
    refine dF 5 ?_; try simp only [Act.put,sI,sZ,sS]
    refine dI 6 ?_; try simp only [Act.put,sI,sZ,sS]
    refine dI 7 ?_; try simp only [Act.put,sI,sZ,sS]
    refine aE (i := 8) ?_
    refine aJ (i := 8) rfl (by kernel_rfl) (fun K hK => ?_)
    go_simp
    ((first | refine (HAdd.out 0 HK.out).mono ?_ | refine (HAdd.out 1 HK.out).mono ?_ | refine (HAdd.out 2 HK.out).mono ?_); rintro e w7 ⟨rfl, hk7, hA7⟩; have X7 := qH (And.intro hk7 hA7); clear hk7 hA7)
    go_wp2_with fail
    refine hK.out _ _ ?_
    clear hK K; (try simp only [Act.put,sI,sZ,sS])
    refine aI (by kernel_rfl) ?_ _
    have HX7 := qH (show Kp (fun q => (q = ta \/ q = tb) \/ q = ra \/ q = rb) w6 w7 /\ TotR w7 ra rb (oI L M i) from ⟨HX.out.2.1.trans ((Ext.kp (Kp.refl wr).drew).trans (X7.out.1.mono fun q _ f => .inl f)), TotR.kp (TotR.kp (F := fun _ => False) HX.out.2.2 (Kp.refl wr).drew id id) X7.out.1 (fun f => by have := HO.out; rcases f with f | f <;> omega) (fun f => by have := HO.out; rcases f with f | f <;> omega)⟩)
    have HAR := qH (fun k hk => HAddR.out k hk w7.drew (TotR.kp (F := fun _ => False) HX7.out.2 (Kp.refl w7).drew id id))
    clear hHeld
    go_wp2
    refine aO (fun w' : World => (w'.cell? ⟨gb, 0, none⟩ = some (.pointer (some ⟨ra, 0, none⟩)) /\ w'.cell? ⟨gb, 1, none⟩ = some (.pointer (some ⟨rb, 0, none⟩)) /\ w'.cell? ⟨gb, 2, none⟩ = some (.pointer none)) /\ w'.cell? ⟨b, o + i, none⟩ = some (.int .i64 x)) [8] (by kernel_rfl) (And.intro (HS.out w7.drew HX7.out.1.drew).2.1 (HS.out w7.drew HX7.out.1.drew).2.2) (fun hHeld => ?_)
    refine dF 0 ?_; try simp only [Act.put,sI,sZ,sS]
    refine dF 1 ?_; try simp only [Act.put,sI,sZ,sS]
    refine dI 2 ?_; try simp only [Act.put,sI,sZ,sS]
    refine dI 3 ?_; try simp only [Act.put,sI,sZ,sS]
    refine dF 4 ?_; try simp only [Act.put,sI,sZ,sS]
    refine dF 5 ?_; try simp only [Act.put,sI,sZ,sS]
    refine dI 6 ?_; try simp only [Act.put,sI,sZ,sS]
    refine dI 7 ?_; try simp only [Act.put,sI,sZ,sS]
    refine aE (i := 8) ?_
    refine aJ (i := 8) rfl (by kernel_rfl) (fun K hK => ?_)
    go_simp
    ((first | refine (HAR.out 0 HK.out).mono ?_ | refine (HAR.out 1 HK.out).mono ?_ | refine (HAR.out 2 HK.out).mono ?_); rintro e w8 ⟨rfl, hk8, hR8⟩; have X8 := qH (And.intro hk8 hR8); clear hk8 hR8)
    go_wp2_with fail
    refine hK.out _ _ ?_
    clear hK K; (try simp only [Act.put,sI,sZ,sS])
    refine aI (by kernel_rfl) ?_ _
    have HX8 := qH (show Kp (fun q => (q = ta \/ q = tb) \/ q = ra \/ q = rb) w6 w8 /\ TotA w8 ta tb (oI L M (i + 1)) /\ TotR w8 ra rb (oI L M (i + 1)) from ⟨HX7.out.1.trans ((Ext.kp (Kp.refl w7).drew).trans (X8.out.1.mono fun q _ f => .inr f)), TotA.kp (TotA.kp (F := fun _ => False) X7.out.2 (Kp.refl w7).drew id id) X8.out.1 (fun f => by have := HO.out; rcases f with f | f <;> omega) (fun f => by have := HO.out; rcases f with f | f <;> omega), X8.out.2⟩)
    clear hHeld
    go_wp2
    have HSA := qH (fun k (hk : k < 3) W (hW : Ext w8 W) => aFz (k := k) hk (TotA.kp (F := fun _ => False) HX8.out.2.1 hW id id) (jZ HN.out.2.2.1 (i + 1)) (show i + 1 ≤ 1048576 by omega))
    have HSR := qH (fun k (hk : k < 3) W (hW : Ext w8 W) => aFx (k := k) hk (TotR.kp (F := fun _ => False) HX8.out.2.2 hW id id) (jZ HN.out.2.2.1 (i + 1)) (show i + 1 ≤ 1048576 by omega))
    go_loopw [9] (fun jv wr => TotIn w8 jv wr) (fun jv _ => 3 - (intOf jv).toNat)
    case atStart => exact ⟨0, Nat.zero_le _, rfl, qH (Kp.refl _)⟩
    case round =>
     obtain ⟨j, hj, rfl, hex⟩ := hrel
     obtain ⟨⟨s0, s1, s2⟩, ⟨s3, s4, s5⟩, -⟩ := HS.out wr (HX8.out.1.trans (Ext.kp hex.out))
     have hjc : j = 0 \/ j = 1 \/ j = 2 \/ j = 3 := by omega
     rcases hjc with rfl | rfl | rfl | rfl
     ·go_wp2_with fail
      refine (HSA.out 0 (by decide) wr hex.out).mono ?_
      rintro e w9 ⟨v, rfl, hk9, rfl⟩
      have X9 := qH (hex.out.trans hk9)
      clear hk9 s0 s1 s2 s3 s4 s5
      obtain ⟨-, ⟨s3, s4, s5⟩, -⟩ := HS.out w9 (HX8.out.1.trans (Ext.kp X9.out))
      go_wp2_with fail
      refine (HSR.out 0 (by decide) w9 X9.out).mono ?_
      rintro e w10 ⟨v, rfl, hk10, rfl⟩
      have X10 := qH (X9.out.trans hk10)
      clear hk10 s3 s4 s5
      go_wp2
      go_roundw
      case rel => exact ⟨1, by decide, rfl, X10⟩
      case measure => simp [intOf]
     ·go_wp2_with fail
      refine (HSA.out 1 (by decide) wr hex.out).mono ?_
      rintro e w9 ⟨v, rfl, hk9, rfl⟩
      have X9 := qH (hex.out.trans hk9)
      clear hk9 s0 s1 s2 s3 s4 s5
      obtain ⟨-, ⟨s3, s4, s5⟩, -⟩ := HS.out w9 (HX8.out.1.trans (Ext.kp X9.out))
      go_wp2_with fail
      refine (HSR.out 1 (by decide) w9 X9.out).mono ?_
      rintro e w10 ⟨v, rfl, hk10, rfl⟩
      have X10 := qH (X9.out.trans hk10)
      clear hk10 s3 s4 s5
      go_wp2
      go_roundw
      case rel => exact ⟨2, by decide, rfl, X10⟩
      case measure => simp [intOf]
     ·go_wp2_with fail
      refine (HSA.out 2 (by decide) wr hex.out).mono ?_
      rintro e w9 ⟨v, rfl, hk9, rfl⟩
      have X9 := qH (hex.out.trans hk9)
      clear hk9 s0 s1 s2 s3 s4 s5
      obtain ⟨-, ⟨s3, s4, s5⟩, -⟩ := HS.out w9 (HX8.out.1.trans (Ext.kp X9.out))
      go_wp2_with fail
      refine (HSR.out 2 (by decide) w9 X9.out).mono ?_
      rintro e w10 ⟨v, rfl, hk10, rfl⟩
      have X10 := qH (X9.out.trans hk10)
      clear hk10 s3 s4 s5
      go_wp2
      go_roundw
      case rel => exact ⟨3, by decide, rfl, X10⟩
      case measure => simp [intOf]
     ·go_wp2_with fail
      go_roundw
      case rel => exact ⟨i + 1, by omega, by first | rfl | (congr 1; done) | (congr 1; omega), qH (HX8.out.1.trans (Ext.kp hex.out)), qH (TotA.kp (F := fun _ => False) HX8.out.2.1 hex.out id id), qH (TotR.kp (F := fun _ => False) HX8.out.2.2 hex.out id id)⟩
      case measure => simp [intOf]; omega
  ·have HAw := qH (aAv wr (HN.out.2.2.2.2.2.ext hxw))
   have HX := qH hxw
   go_wp2_with fail
   refine HAw.out.mono ?_
   rintro e w7 ⟨v, rfl, hk7, rfl⟩
   have X7 := qH (HX.out.trans hk7)
   clear hk7
   go_wp2
   go_ret
   exact RetN.mk X7.out rfl
end
end Go.Proofs.YtikgpedgmnbcaaaGreatDoor
namespace Go.Proofs.YtikgpedgmnbcaaaGreatDoor.lawAggTotals
open Go.ChangeShapes Go.WideShapes Go.ChangeAt Go.RowKit
open Go.ChangeMaps (open_string shut_string)
theorem own : ownKnob Tryz.prog.godebug = none := by kernel_rfl
theorem laidOut : laidOutB Tryz.prog = true := by kernel_rfl
theorem gTab : Tryz.prog.globalNamed "internal/strconv.uint64pow10" = some 2 := by kernel_rfl
theorem aG8 : (Tryz.prog.globals[2]?).map (·.type) = some 252 := by kernel_rfl
theorem gRng : Tryz.prog.globalNamed "strconv.ErrRange" = some 1 := by kernel_rfl
theorem aHa : (Tryz.prog.globals[1]?).map (·.type) = some 106 := by kernel_rfl
theorem gSyn : Tryz.prog.globalNamed "strconv.ErrSyntax" = some 0 := by kernel_rfl
theorem aG9 : (Tryz.prog.globals[0]?).map (·.type) = some 106 := by kernel_rfl
theorem star : "*" ++ "errors.errorString" = "*errors.errorString" := by decide
theorem aGd (u : TypeId) (h : Tryz.prog.typeName? 3 u = some "*errors.errorString") : u = 265 :=
 typeName_ptr_named (nm := "errors.errorString") (by rw [star]; kernel_rfl) (by kernel_rfl) (by decide) u (by rw [star]; exact h)
theorem numW {W : World} (h : laidMetH Tryz.prog Rows.aggTotalsUptoRow.laid W) : NumW W := by
 have h1 : laidMet Tryz.prog [("math/bits.deBruijn32tab", Rows.laid_math_bits_deBruijn32tab), ("math/bits.deBruijn64tab", Rows.laid_math_bits_deBruijn64tab), ("internal/strconv.uint64pow10", Rows.laid_internal_strconv_uint64pow10), ("strconv.ErrRange", Rows.laid_strconv_ErrRange), ("strconv.ErrSyntax", Rows.laid_strconv_ErrSyntax)] W := h
 have h2 := h1.tail.tail
 have h3 := h2.tail
 have h4 := h3.tail
 obtain ⟨a, s, ha, _⟩ := laid_sentinel h3 gRng aHa Tryz.underlying106 aGd Tryz.underlying265 Tryz.underlying267 rfl rfl Tryz.underlying9 (by kernel_rfl) (by kernel_rfl)
 obtain ⟨b, t, hb, _⟩ := laid_sentinel h4 gSyn aG9 Tryz.underlying106 aGd Tryz.underlying265 Tryz.underlying267 rfl rfl Tryz.underlying9 (by kernel_rfl) (by kernel_rfl)
 exact ⟨Lib.tabIs_of_head gTab aG8 Tryz.underlying252 Tryz.underlying95 (by kernel_rfl) (by kernel_rfl) h2, ⟨_, _, hb⟩, ⟨_, _, ha⟩⟩
theorem mU {t : TypeId} {hu : Tryz.prog.underlying t = some (.int .i64)} {hc : Tryz.prog.cellsOf t = 1} {w : World} {G : Nat -> Prop} {ao : Option Addr} {zs : List Int} (h : ElemsAt (iP t .i64 hu hc) w G ao zs) : CellsAt w ao (zs.map aG5) /\ ∀ x ∈ zs, -9223372036854775808 ≤ x /\ x ≤ 9223372036854775807 := by
 refine ⟨fun i u hu' => ?_, fun x hx => ?_⟩
 ·rw [List.getElem?_map] at hu'
  obtain ⟨z, hz, rfl⟩ := Option.map_eq_some_iff.1 hu'
  obtain ⟨b, off, es, e, _, _, ⟨e2, _⟩, hcell⟩ := h i z hz
  have h0 := hcell 0 (.int .i64 z) (by rw [e2]; rfl)
  exact ⟨b, off, e, by simp [iP] at h0; exact h0⟩
 ·obtain ⟨i, hi⟩ := List.mem_iff_getElem?.1 hx
  obtain ⟨b, off, es, e, _, _, ⟨_, hw⟩, _⟩ := h i x hi
  have hw' : (decide (IntKind.i64.min ≤ x) && decide (x ≤ IntKind.i64.max)) = true := hw
  rw [Bool.and_eq_true, decide_eq_true_eq, decide_eq_true_eq] at hw'
  rw [show IntKind.i64.min = -9223372036854775808 by decide, show IntKind.i64.max = 9223372036854775807 by decide] at hw'
  exact hw'
theorem aEt (v0 v1 : Value) (W : World) (hN : NumW W)
 (h0 : ∃ ao cap xs, v0 = .slice ao xs.length cap /\ xs.length ≤ cap /\ ElemsAt (iP 2 .i64 Tryz.underlying2 (by kernel_rfl)) W (fun k => k < W.heap.size) ao xs /\ lQ (iP 2 .i64 Tryz.underlying2 (by kernel_rfl)).bulk xs + 1 ≤ 1048576) (h1 : ∃ ao cap xs, v1 = .slice ao xs.length cap /\ xs.length ≤ cap /\ ElemsAt (iP 3 .i64 Tryz.underlying3 (by kernel_rfl)) W (fun k => k < W.heap.size) ao xs /\ lQ (iP 3 .i64 Tryz.underlying3 (by kernel_rfl)).bulk xs + 1 ≤ 1048576) :
 Calls Tryz.prog 3 #[v0, v1] W (fun e w' => e = .returned (.bool true) /\ Below W.heap.size W w') := by
 obtain ⟨ao, cap, xs, rfl, _, he, hb⟩ := h0
 obtain ⟨bo, bcap, ys, rfl, _, he2, hb2⟩ := h1
 have hl := pE (iP 2 .i64 Tryz.underlying2 (by kernel_rfl)).bulk (fun y => Nat.le_refl _) xs
 have hl2 := pE (iP 3 .i64 Tryz.underlying3 (by kernel_rfl)).bulk (fun y => Nat.le_refl _) ys
 refine (aBf (L := xs) (M := ys) rfl (mU he).1 (mU he).2 rfl (mU he2).1 hN (by omega) (by omega)).mono ?_
 rintro e w' ⟨v, rfl, hk, rfl⟩
 exact ⟨rfl, hk.below⟩
noncomputable def low : Nat := (World.holding Tryz.prog default ⟨#[], #[], []⟩).heap.size
noncomputable def oU (os : Os) : World :=
 let w0 := World.holding Tryz.prog os ⟨#[.cells #[.string ⟨#[105, 110, 118, 97, 108, 105, 100, 32, 115, 121, 110, 116, 97, 120]⟩] 267, .cells #[.string ⟨#[118, 97, 108, 117, 101, 32, 111, 117, 116, 32, 111, 102, 32, 114, 97, 110, 103, 101]⟩] 267], #[], []⟩
 {w0 with heap := ((((w0.heap.modify 0 fun
   | .cells _ t frozen => .cells #[.iface 265 (.pointer (some ⟨low, 0, none⟩))] t frozen
   | o => o).modify 1 fun
   | .cells _ t frozen => .cells #[.iface 265 (.pointer (some ⟨low + 1, 0, none⟩))] t frozen
   | o => o).modify 2 fun
   | .cells _ t frozen => .cells (Lib.pow10Tab.map fun z => Value.int .u64 z).toArray t frozen
   | o => o).modify 4 fun
   | .cells _ t frozen => .cells #[.int .u8 0, .int .u8 1, .int .u8 28, .int .u8 2, .int .u8 29, .int .u8 14, .int .u8 24, .int .u8 3, .int .u8 30, .int .u8 22, .int .u8 20, .int .u8 15, .int .u8 25, .int .u8 17, .int .u8 4, .int .u8 8, .int .u8 31, .int .u8 27, .int .u8 13, .int .u8 23, .int .u8 21, .int .u8 19, .int .u8 16, .int .u8 7, .int .u8 26, .int .u8 12, .int .u8 18, .int .u8 6, .int .u8 11, .int .u8 5, .int .u8 10, .int .u8 9] t frozen
   | o => o).modify 5 fun
   | .cells _ t frozen => .cells #[.int .u8 0, .int .u8 1, .int .u8 56, .int .u8 2, .int .u8 57, .int .u8 49, .int .u8 28, .int .u8 3, .int .u8 61, .int .u8 58, .int .u8 42, .int .u8 50, .int .u8 38, .int .u8 29, .int .u8 17, .int .u8 4, .int .u8 62, .int .u8 47, .int .u8 59, .int .u8 36, .int .u8 45, .int .u8 43, .int .u8 51, .int .u8 22, .int .u8 53, .int .u8 39, .int .u8 33, .int .u8 30, .int .u8 24, .int .u8 18, .int .u8 12, .int .u8 5, .int .u8 63, .int .u8 55, .int .u8 48, .int .u8 27, .int .u8 60, .int .u8 41, .int .u8 37, .int .u8 16, .int .u8 46, .int .u8 35, .int .u8 44, .int .u8 21, .int .u8 52, .int .u8 32, .int .u8 23, .int .u8 11, .int .u8 54, .int .u8 26, .int .u8 40, .int .u8 15, .int .u8 34, .int .u8 20, .int .u8 31, .int .u8 10, .int .u8 25, .int .u8 14, .int .u8 19, .int .u8 9, .int .u8 13, .int .u8 8, .int .u8 7, .int .u8 6] t frozen
   | o => o }
theorem aGv (os : Os) : laidMet Tryz.prog Rows.aggTotalsUptoRow.laid ((oU os).forCall (fun _ _ => 0) ⟨#[], #[.slice none 0 0, .slice none 0 0], []⟩).memory :=
 laidMet_of_run' 8 (by kernel_rfl) (by kernel_rfl)
theorem reads (os : Os) {H : Type} (enc : TypeId × Value -> H) : ∃ places, DataW.whole enc Tryz.prog ((oU os).forCall (fun _ _ => 0) ⟨#[], #[.slice none 0 0, .slice none 0 0], []⟩).memory Tryz.f3.params.toList Rows.aggTotalsSpec.vars false #[Value.slice none 0 0, .slice none 0 0].toList 8 = some ([.nil, .nil], [], places) :=
 ⟨[], by kernel_rfl⟩
theorem lifted (os : Os) (started : os.Started) (H : Type) (enc : TypeId × Value -> H) (F : Stop.Interp) :
 ReturnsInHanded {} Tryz.checked os 3 .any ((Rows.OpenSpec.upto Rows.aggTotalsSpec).preRow enc Tryz.prog Tryz.f3 Rows.aggTotalsUptoRow.domain false Rows.aggTotalsUptoRow.laid) (((Rows.OpenSpec.upto Rows.aggTotalsSpec).at F).post enc Tryz.prog Tryz.f3 false true false false) := by
 obtain ⟨places, hx⟩ := reads os enc
 refine returnsInHanded_of_row (C := Tryz.checked) (s := Rows.OpenSpec.upto Rows.aggTotalsSpec) own started (by kernel_rfl) Tryz.func3
  (witness_row_atRef (enc := enc) (C := Tryz.checked) false (oU os) #[.slice none 0 0, .slice none 0 0] rfl (by kernel_rfl) (by kernel_rfl) (by kernel_rfl)
   (OpenSpec.preRow_of_cond 8 hx (by kernel_rfl) (fun k hk => by cases hk; kernel_rfl) (by kernel_rfl) (aGv os))) ?_
 intro W base args ds gs before hval0 hW hdom hcond hroom hL hmet hsz
 have hcnd := hcond _ rfl
 have hk : Rows.uptoSmall H (ds ++ gs) = true := hcnd
 have hNW := numW hL
 clear hcnd hL hcond
 have hval : ∀ (j : Nat) t v, Tryz.f3.params[j]? = some t -> args[j]? = some v -> Value.okWide Tryz.prog W .any base t v := hval0
 have hW' := hW
 obtain ⟨p, q, hA0, hV, rfl, hfz, hnd⟩ := hW
 have hA : DataW.TrodAll enc Tryz.prog W 0 (fun _ => true) true Tryz.f3.params.toList args.toList ds p := hA0
 rw [Tryz.params3] at hA hval
 obtain ⟨v0, vs0, d0, ds0, p0, q0, hargs, rfl, rfl, h0, r0⟩ := trodAll_cons hA
 obtain ⟨v1, vs1, d1, ds1, p1, q1, rfl, rfl, rfl, h1, r1⟩ := trodAll_cons r0
 obtain ⟨rfl, rfl, rfl⟩ := trodAll_nil r1
 obtain rfl : args = #[v0, v1] := by cases args; simp_all
 obtain ⟨rfl, rfl⟩ := trodVars_none hV
 have lt0 : ∀ x ∈ p0, x.block < W.heap.size := by obtain ⟨m, hm⟩ := h0; exact DataW.trod_lt m _ _ _ hm
 have lt1 : ∀ x ∈ p1, x.block < W.heap.size := by obtain ⟨m, hm⟩ := h1; exact DataW.trod_lt m _ _ _ hm
 clear hA0 hval0
 simp only [List.append_nil] at hk
 have hk1 : Rows.uptoBulkAll [d0, d1] ≤ 1048576 := of_decide_eq_true hk
 clear hk
 have x0 := vT (s := iP 2 .i64 Tryz.underlying2 (by kernel_rfl)) Tryz.underlying22 (by kernel_rfl) (by decide) (hval 0 22 v0 rfl rfl) h0 (N := 1048576) (aDy hk1 (by simp))
 have x1 := vT (s := iP 3 .i64 Tryz.underlying3 (by kernel_rfl)) Tryz.underlying23 (by kernel_rfl) (by decide) (hval 1 23 v1 rfl rfl) h1 (N := 1048576) (aDy hk1 (by simp))
 refine (aEt v0 v1 W hNW x0 x1).mono fun e W' ⟨he, bel⟩ => ?_
 subst he
 exact ⟨_, rfl, _, _, _, [], _, [], hW', trodAll_mk1 (shut_bool Tryz.underlying4 _), (trodAll_cons_mk (Below.trod laidOut (by kernel_rfl) (of_decide_eq_true (by kernel_rfl)) h0 bel lt0) (trodAll_cons_mk (Below.trod laidOut (by kernel_rfl) (of_decide_eq_true (by kernel_rfl)) h1 bel lt1) trodAll_mk0)), rfl, bel.frame _, fun h => by cases h⟩
theorem over : Rows.AggTotalsUptoSaid :=
 OpenClaim.holds_of_cond 3 Tryz.f3 rfl rfl rfl rfl rfl rfl rfl ⟨rfl, rfl, rfl, rfl, rfl⟩ rfl rfl rfl rfl rfl (by kernel_rfl) Tryz.func3 (by kernel_rfl)
  (of_decide_eq_true (by kernel_rfl)) (by unfold Func.isWrapper; first | (rw [if_pos (by decide +kernel)]; kernel_rfl) | (rw [if_neg (by decide +kernel)]; exact ⟨rfl, rfl⟩))
  (fun os started H enc _ F => by rw [OpenClaim.pre_eq_preRow]; exact lifted os started H enc F)
theorem plain (f : FuncId) (fn : Func) (hf : Tryz.pinned.checked.prog.funcNamed "sibyl/sibyllaw15.AggTotals" = some f) (hfn : Tryz.pinned.checked.prog.funcs[f]? = some fn) :
 true = Tryz.pinned.checked.prog.looks [] /\ ∀ (j : Nat) t, fn.params[j]? = some t -> Tryz.pinned.checked.prog.wantsStandIn t = false := by
 obtain rfl : f = 3 := Option.some.inj ((show Tryz.prog.funcNamed "sibyl/sibyllaw15.AggTotals" = some 3 by kernel_rfl).symm.trans hf) |>.symm
 obtain rfl : fn = Tryz.f3 := (Option.some.inj (Tryz.func3.symm.trans hfn)).symm
 refine ⟨by kernel_rfl, fun j t ht => ?_⟩
 rw [Tryz.params3] at ht
 have hm : t = 22 \/ t = 23 := by simpa using Array.mem_of_getElem? ht
 rcases hm with rfl | rfl
 ·exact (show Tryz.prog.wantsStandIn 22 = false by kernel_rfl)
 ·exact (show Tryz.prog.wantsStandIn 23 = false by kernel_rfl)
theorem proved : Rows.AggTotalsUptoCardSaid :=
 Claim7.holds_tied_plain_at .later [] _ _ _ _ over (fun _ h => by cases h) (by kernel_rfl) (fun _ h => by cases h) aggTotalsUpto_row_tie rfl ⟨rfl, rfl⟩ (by kernel_rfl) rfl plain (by kernel_rfl)
#print axioms proved
end Go.Proofs.YtikgpedgmnbcaaaGreatDoor.lawAggTotals
