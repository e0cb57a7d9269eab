/- Proved here: the statement JoinOwnUptoSaid: the law returns true for every input of the bound that the row names and leaves its arguments as they were. No condition of its own. -/
import Derived.Test.YtinnmeiphbdogaaGreatOw9
import Derived.Deep.CondSized
set_option linter.unusedVariables false
set_option linter.unusedSimpArgs false
/- The law of joins: JoinOwn. -/
namespace Go.Proofs.YtinnmeiphbdogaaGreat
open Go.RowKit Go.Shelf
attribute [local go_sem] Oper.semAt_some
theorem aHv {E1 E2 : List Ent} (h1 : BaseOk (aN E1)) (h2 : BaseOk (aN E2)) (h : aJf (aN E1) (aN E2)) : mF E1 E2 = true := by
 have hl : E1.length = E2.length := by
  have a := (lA (aN E1)).length_eq
  have b := (lA (aN E2)).length_eq
  rw [aDc h1.nodup h2.nodup h] at a
  rw [a] at b
  simpa [aN] using b
 unfold mF
 rw [decide_eq_true hl, Bool.true_and, List.all_eq_true]
 intro e he
 have hg : bK (aN E1) e.name = some (e.ar, e.LL) := (dM h1.nodup).2 (jW he)
 rw [h e.name, nB] at hg
 unfold mP
 cases hf : bB E2 e.name with
 | none => rw [hf] at hg; cases hg
 | some f =>
  rw [hf] at hg
  have hg' : (f.ar, f.LL) = (e.ar, e.LL) := by simpa using hg
  injection hg' with h3 h4
  exact decide_eq_true ⟨h3.symm, h4.symm⟩
theorem aGt {L : List gQ} (h : (bY [] L).2 = 0) : (bY [] L).1.length ≤ L.length := by
 have ho := aE3 (L := L) tV
 obtain ⟨_, _, _, r4⟩ := aBj tV h
 have h1 := wS (U := L.map (·.1)) ho.nodup fun s hs => by
  obtain ⟨v, hv⟩ : ∃ v, bK (bY [] L).1 s = some v := by
   cases hg : bK (bY [] L).1 s with
   | none => exact absurd hs (kE.1 hg)
   | some v => exact ⟨v, rfl⟩
  rcases r4 s v hv with ⟨u, hu⟩ | ⟨r, hr, e⟩
  ·cases hu
  ·exact List.mem_map.2 ⟨r, hr, e⟩
 rwa [List.length_map, List.length_map] at h1
theorem BaseIn.valW {w w' : World} {L : List gQ} {v : Value} (h : BaseIn w L w' v) : ∃ o c, v = .tuple #[.pointer o, .bool c] /\ (c = true -> ∃ bb r S E, o = some ⟨bb, 0, none⟩ /\ BaseAt S w' bb r E /\ E.length ≤ L.length /\ (∀ k, S k -> w.heap.size ≤ k) /\ ∀ k, OwnB bb r E k -> w.heap.size ≤ k) := by
 rcases h with ⟨h0, bb, r, S, E, rfl, h1, h2, h3, h4⟩ | ⟨_, rfl⟩
 ·refine ⟨_, _, rfl, fun _ => ⟨bb, r, S, E, rfl, h1, ?_, h3, h4⟩⟩
  have := aGt h0
  rw [<- h2] at this
  unfold aN at this
  rwa [List.length_map] at this
 ·exact ⟨none, false, rfl, fun h => by cases h⟩
theorem AllI.next (pre : List XB) (x : XB) : 3 * (pre ++ [x]).length = 3 * pre.length + 3 := by rw [List.length_append, List.length_singleton]; omega
set_option maxRecDepth 100000 in
set_option maxHeartbeats 16000000 in
theorem aF1 {w : World} {p : ByteArray} {hs : List aG} {ls : List aO} {ha ba la : Option Addr} {hn hcap n bcap ln lc : Nat} {G : Nat -> Prop} {L1 : List gQ} (hhn : hn = hs.length) (hh : aW w G ha hs) (hhl : hn ≤ 1048576) (hbn : n = ls.length) (h : cK w G ba ls) (hf : Fit ls) (hnv : (aB ls).length ≤ 1048576)
 (hl : n ≤ 1048576) (hln : ln = L1.length) (hL1 : RelsIn TT w la L1) (hll : ln ≤ 1048576) (hr1 : ∀ q ∈ L1, q.2.2.1.length ≤ 1048576) :
 Calls Tryz.prog 7 #[eF p ha hn hcap ba n bcap, .slice la ln lc] w (RetN w fun w' v => v = .bool true) := by
 have HE := qH h; have HF := qH hf; have HN := qH (And.intro hbn (And.intro hnv hl))
 have HH := qH (And.intro hh (And.intro hhn hhl))
 have HB1 := qH (fun (W : World) (hW : Ext w W) => aEf L1 la ln lc W TT hln (hL1.ext hW) (by omega) hr1)
 have HFw := qH (fun (W : World) (hW : Ext w W) (S : Nat -> Prop) (v : Value) (E : List Ent) (hB : BaseV S W v E) => aGw (p := p) (hs := hs) (hn := hn) (hcap := hcap) (bcap := bcap) (ha := ha) hbn (h.ext hW) hf hB)
 have HVa := qH (fun W (hW : Ext w W) => aFi p hs ls ha hn hcap ba n bcap W G hhn (hh.ext hW) hhl hbn (h.ext hW) hf)
 have HEa := qH (fun (W : World) (hW : Ext w W) (S : Nat -> Prop) (o : Option Addr) (E : List Ent) (L : aD) (hB : BaseV S W (.pointer o) E) (hL : lP ((p, hs, ()), ls, ()) (bI (vP ls E) ls) L) => aBx (hcap := hcap) (bcap := bcap) (p := p) hhn (hh.ext hW) hhl hbn (h.ext hW) hf hnv hl hB hL)
 have HHd := qH (fun W (hW : Ext w W) (V : List ByteArray) (va : Option Addr) (nb vc : Nat) (hV : nb = V.length) (hc : CellsAt W va (strs V)) (hb : nb ≤ 1048576) => aGp (hcap := hcap) (bcap := bcap) (p := p) (vc := vc) hhn (hh.ext hW) hhl hbn (h.ext hW) hf hnv hV hc hb)
 have HLl := qH (And.intro hln hll)
 obtain ⟨g0, eg0⟩ : ∃ g, w.heap.size = g := ⟨_, rfl⟩
 obtain ⟨w1, e1⟩ : ∃ x, w.alloc (.cells #[.string p, .slice ha hn hcap, .slice ba n bcap] 27) = x := ⟨_, rfl⟩
 have hB1 : Blk w1 g0 [.string p, .slice ha hn hcap, .slice ba n bcap] 27 := by rw [<- e1, <- eg0]; exact Blk.new w _ _
 have hx1 : Ext w w1 := by rw [<- e1]; exact (Kp.refl w).alloc _
 have H1 := qH (And.intro hx1 hB1)
 clear hB1 hx1 hhn hh hhl hbn h hf hnv hl hln hL1 hll hr1
 refine callsIn_wide.1 (callsIn_of_wp_marks (n := 4) Tryz.func7 rfl trivial ?_ rfl)
 refine wpIn_wide.2 ?_
 obtain ⟨Q, eQ⟩ : ∃ Q, Q = bodyPostM Fence.wide 4 Tryz.prog Tryz.f7 (RetN w fun _ v => v = .bool true) := ⟨_, rfl⟩
 rw [<- eQ]
 have EQ := qH eQ; clear eQ
 have HRet := qH (show ∀ (W : World) (t : Array Value), Ext w W -> t.getD 4 undef = .bool true -> Q .ret { tmps := t, defers := [] } W from fun W t hW ht => by
  rw [EQ.out]
  exact aEy (Marks.nil _ _) hW hW.size ht)
 simp only [Tryz.ntmps7, List.size_toArray, List.length_cons, List.length_nil, Nat.reduceAdd, Nat.reduceSub, Array.replicate_succ, Array.replicate_zero, List.push_toArray, List.append_toArray, List.nil_append, List.cons_append]
 go_wp2_with fail
 clear e1 eg0
 refine (HB1.out w1 H1.out.1).mono ?_
 rintro e w2 ⟨v2, rfl, hk2, hv2⟩
 obtain ⟨o1, c1, rfl, hc1⟩ := hv2.valW
 have H2 := qH (And.intro (H1.out.1.trans hk2) (And.intro (H1.out.2.ext hk2) hc1))
 clear hv2 hc1 hk2
 cases c1
 ·go_wp2_with fail
  refine (nI w2).mono ?_
  rintro e w4 ⟨v, rfl, hk4, rfl⟩
  have X4 := qH (H2.out.1.trans hk4)
  clear hk4
  go_wp2_with fail
  exact HRet.out _ _ X4.out rfl
 obtain ⟨b1, m1, S1, E1, rfl, hA1, hE1, hS1, hO1⟩ := H2.out.2.2 (by first | rfl | trivial)
 have hEl : E1.length ≤ 1048576 := by have := HLl.out; omega
 have HA := qH (And.intro hA1 hEl)
 have HFe := qH (HFw.out w2 H2.out.1 S1 (.pointer (some ⟨b1, 0, none⟩)) E1 (.full b1 m1 E1 hA1))
 have r0 : w2.cell? ⟨g0, 0, none⟩ = some (.string p) := by rw [H2.out.2.1.cell']; rfl
 have r1 : w2.cell? ⟨g0, 1, none⟩ = some (.slice ha hn hcap) := by rw [H2.out.2.1.cell']; rfl
 have r2 : w2.cell? ⟨g0, 2, none⟩ = some (.slice ba n bcap) := by rw [H2.out.2.1.cell']; rfl
 obtain ⟨fb, efb⟩ : ∃ b, aBs (aN E1) ls = b := ⟨_, rfl⟩
 rw [efb] at HFe
 have HFb := qH efb
 clear hA1 efb hE1 hS1 hO1 hEl
 go_wp2_with fail
 refine HFe.out.mono ?_
 rintro e w3 ⟨v, rfl, hk3, rfl⟩
 have H3 := qH (show Ext w w3 /\ Blk w3 g0 [.string p, .slice ha hn hcap, .slice ba n bcap] 27 /\ BaseAt S1 w3 b1 m1 E1 from ⟨H2.out.1.trans hk3, H2.out.2.1.ext hk3, HA.out.1.ext hk3⟩)
 clear hk3 r0 r1 r2
 cases fb
 ·go_wp2_with fail
  refine (nI w3).mono ?_
  rintro e w4 ⟨v, rfl, hk4, rfl⟩
  have X4 := qH (H3.out.1.trans hk4)
  clear hk4
  go_wp2_with fail
  exact HRet.out _ _ X4.out rfl
 go_wp2_with fail
 refine (nI w3).mono ?_
 rintro e w4 ⟨v, rfl, hk4, rfl⟩
 have H4 := qH (show Ext w w4 /\ Blk w4 g0 [.string p, .slice ha hn hcap, .slice ba n bcap] 27 /\ BaseAt S1 w4 b1 m1 E1 from ⟨H3.out.1.trans hk4, H3.out.2.1.ext hk4, H3.out.2.2.ext hk4⟩)
 have HCp := qH (zI H4.out.2.2 HA.out.2)
 clear hk4
 go_wp2_with fail
 refine HCp.out.mono ?_
 rintro e w5 ⟨v, rfl, hk5, b3, r3, E3, rfl, hA3, hP3, hO3⟩
 have hE3 : E3.length ≤ 1048576 := by
  have h1 := hP3.length_eq
  unfold aN at h1
  rw [List.length_map, List.length_map] at h1
  have := HA.out.2; omega
 have HSm := qH (show ∀ X, Ext w5 X -> Calls Tryz.prog 47 #[.pointer (some ⟨b1, 0, none⟩), .pointer (some ⟨b3, 0, none⟩)] X (RetN X fun _ v => v = .bool true) from fun X hX => by
  have h1 := (H4.out.2.2.ext hk5).ext hX
  refine (zE h1 (hA3.ext hX) (fun e he f hf k ho ho2 => ?_) HA.out.2 hE3).mono ?_
  ·have q1 := hO3 k (.inr (.inr ⟨f, hf, ho2⟩))
   have q2 := RowsQ.ownLt (z := False) (H4.out.2.2.rows e he).q k ho
   omega
  ·rintro e w' ⟨v, rfl, hk, rfl⟩
   exact RetN.mk hk (by rw [aHv h1.ok (hA3.ext hX).ok (fun s => (aFt hP3 h1.ok s).symm)]))
 obtain ⟨g8, eg8⟩ : ∃ g, w5.heap.size = g := ⟨_, rfl⟩
 obtain ⟨w6, e6⟩ : ∃ x, w5.alloc (.cells #[.slice none 0 0] 69) = x := ⟨_, rfl⟩
 have hb6 : Blk w6 g8 [.slice none 0 0] 69 := by rw [<- e6, <- eg8]; exact Blk.new w5 _ _
 have x6 : Ext w5 w6 := by rw [<- e6]; exact (Kp.refl w5).alloc _
 have H5 := qH (show Ext w w5 /\ Blk w5 g0 [.string p, .slice ha hn hcap, .slice ba n bcap] 27 /\ Ext w5 w6 /\ Blk w6 g8 [.slice none 0 0] 69 /\ BaseAt S1 w6 b1 m1 E1 /\ w5.heap.size ≤ g8 from ⟨H4.out.1.trans hk5, H4.out.2.1.ext hk5, x6, hb6, (H4.out.2.2.ext hk5).ext x6, by omega⟩)
 have q0 : w6.cell? ⟨g0, 0, none⟩ = some (.string p) := by rw [(H5.out.2.1.ext x6).cell']; rfl
 have q1 : w6.cell? ⟨g0, 1, none⟩ = some (.slice ha hn hcap) := by rw [(H5.out.2.1.ext x6).cell']; rfl
 have q2 : w6.cell? ⟨g0, 2, none⟩ = some (.slice ba n bcap) := by rw [(H5.out.2.1.ext x6).cell']; rfl
 have HEe := qH (HEa.out w6 (H5.out.1.trans x6) S1 _ E1 _ (.full b1 m1 E1 H5.out.2.2.2.2.1) (pD ((p, hs, ()), ls, ()) E1))
 have HKn := qH (sD (pD ((p, hs, ()), ls, ()) E1) (wQ (BaseV.full b1 m1 E1 H5.out.2.2.2.2.1)))
 have HLn := qH (Nat.le_trans (aG9 ((p, hs, ()), ls, ()) (aN E1)) (aIv HFb.out))
 obtain ⟨L, eL⟩ : ∃ L, jN ((p, hs, ()), ls, ()) (aN E1) = L := ⟨_, rfl⟩
 simp only [eL] at HEe HKn HLn
 clear hk5 hA3 hP3 hO3 hE3 hb6 x6 eL
 go_wp2_with fail
 clear e6 eg8
 refine HEe.out.mono ?_
 rintro e w8 ⟨v8, rfl, hk8, xb, lo, hlo, rfl, hseq⟩
 have HS := qH (show vH Fence.wide 3 Tryz.prog 82 #[.pointer (some ⟨xb, 0, none⟩)] (fun x : XB => #[.slice x.1.1 x.1.2.1 x.1.2.2]) (fun k => lo ≤ k /\ k < w8.heap.size) GvRow (fun xs => xs.map Prod.snd = L) (fun pre => pre.map Prod.snd <+: L) w8 from hseq 3)
 have H8 := qH (show Blk w8 g8 [.slice none 0 0] 69 /\ Ext w5 w8 /\ g8 < lo from ⟨H5.out.2.2.2.1.ext hk8, H5.out.2.2.1.trans hk8, Nat.lt_of_lt_of_le H5.out.2.2.2.1.lt hlo⟩)
 clear hseq hk8 hlo q0 q1 q2
 go_wp2_with fail
 rename_i K0 hK0
 have HK0 := qH hK0
 clear hK0
 have hb8 : g8 < w8.heap.size := H8.out.1.lt
 have hw8 : Ext w w8 := H5.out.1.trans H8.out.2.1
 have hg08 : g0 ≠ g8 := fun e => by have := H5.out.2.1.lt; have := H5.out.2.2.2.2.2; omega
 have hEnd : ∀ (N : Nat) (v : Value) (vs : Nat -> SlZ) (gb : Nat -> Nat) (C : Nat -> List ByteArray) (t : Array Value) (ds : List Deferred) (W : World), N ≤ 1000000 -> AllJ w8 g8 (fun _ => False) N W v vs gb C -> Marks w8.heap.size W ds -> t.size = 212 -> t.getD 2 undef = .pointer (some ⟨g0, 0, none⟩) -> t.getD 5 undef = .pointer (some ⟨b1, 0, none⟩) -> t.getD 7 undef = .pointer (some ⟨b3, 0, none⟩) -> t.getD 8 undef = .pointer (some ⟨g8, 0, none⟩) -> K0 { tmps := t, defers := ds } W := fun N v vs gb C t ds W hN hJ hm hz t2 t5 t7 t8 => by
  refine HK0.out _ _ ?_
  rw [EQ.out]
  show Code.wp _ aEz _ _ _
  exact aH9 hJ hb8 H5.out.2.2.2.2.2 hN H5.out.1 hm H8.out.2.1 H5.out.2.1 (by unfold dC; split; exact HN.out.2.1; exact Nat.zero_le _) (fun X hX => HVa.out X (H5.out.1.trans hX)) HSm.out hz t2 t5 t7 t8
 refine' wpIn_wide.1 (oG (F := Fence.wide) (n := 4) (w0 := w8) rfl (by omega) (gf := 82) (lb := #[.pointer (some ⟨xb, 0, none⟩)]) rfl trivial (enters_of Tryz.func82 (by kernel_rfl) rfl)
  HS.out (Kp.refl _) (fun k h => h.2) (fun _ => rfl) GvRow.put (AllI w8 g8) (fun c T pre W => c = .exit 0 /\ AllI w8 g8 T pre W)
  (fun T s W l o o' ⟨v, vs, gb, C, h⟩ _ hl ho hc => ⟨v, vs, gb, C, h.put hb8 hl ho hc⟩) (fun c T s W l o o' ⟨hc0, v, vs, gb, C, h⟩ _ hl ho hc => ⟨hc0, v, vs, gb, C, h.put hb8 hl ho hc⟩)
  (fun W o ⟨v, vs, gb, C, h⟩ => ⟨v, vs, gb, C, h.step hb8 ((Kp.refl W).alloc o) (fun k hk => hk.elim)⟩) ⟨_, _, _, _, AllJ.start H8.out.1⟩ _ ?assign ?body ?done ?stop)
 case assign =>
  intro l x W K hK
  gi_wp2
  exact hK
 case body =>
  rintro l T T' pre ⟨⟨xa, xn, xc⟩, V⟩ W1 W hI hT hk hsub hgv hpre
  obtain ⟨v, vs, gb, C, hJ⟩ := hI
  have hJ2 := hJ.step hb8 hk hsub
  have hTlt : ∀ k, T' k -> k < W.heap.size := fun k hk' => by
   rcases hsub k hk' with h | h
   ·exact Nat.lt_of_lt_of_le (hT k h) hk.size
   ·exact h.2
  obtain ⟨hx1, hxc⟩ := hgv.cells
  have hxn : xn = V.length := hx1.1
  have hxc2 : xc = V.length := hx1.2
  subst hxn hxc2
  have hmem : V ∈ L := hpre.subset (by rw [List.map_append]; exact List.mem_append_right _ (List.mem_singleton.2 rfl))
  have hpl : pre.length < L.length := by
   have h := hpre.length_le
   rw [List.length_map, List.length_append, List.length_singleton] at h
   omega
  obtain ⟨hc0, hVl, hVs⟩ := HKn.out V hmem
  have hVl' : V.length = (aB ls).length := hVl
  have hV16 : V.length ≤ 1048576 := by have := HN.out.2.1; omega
  have hLn := HLn.out
  have xW : Ext w W := hw8.trans' hJ2.kp fun i hi e => by have e' : i = g8 := e; have := H5.out.1.size; have := H5.out.2.2.2.2.2; omega
  have hGW : Blk W g0 [.string p, .slice ha hn hcap, .slice ba n bcap] 27 := (H5.out.2.1.ext H8.out.2.1).kp hJ2.kp hg08
  have hlt : ∀ i, i < 3 * pre.length -> (vs i).1 ≠ none -> gb i < W1.heap.size := fun i hi hn => by
   rcases hJ.lists.blk i hi with ⟨q, _⟩ | ⟨_, _, rest, q⟩
   ·exact absurd q hn
   ·exact q.lt
  have hH16 : (bS (aB ls) V hs).length ≤ 1048576 := by have h1 := xB (aB ls) V hs; have h2 := HH.out.2; omega
  have hgx : (xa = none /\ V = []) \/ ∃ g rest, xa = some ⟨g, 0, none⟩ /\ Blk W g (strs V ++ rest) 9 /\ W1.heap.size ≤ g /\ ¬ T' g := hgv.2
  have hRound : ∀ X' s1 ya za v', W.heap.size ≤ s1 -> s1 ≤ X'.heap.size -> OwnF X' W.heap.size s1 ya (bS (aB ls) V hs) -> OwnF X' s1 X'.heap.size za (bS (aB ls) V hs) -> Kp (fun k => k = g8 \/ v.ownBlock = some k) W X' -> Blk X' g8 [v'] 69 ->
   Row X' 34 1 v' (3 * pre.length + 3) (gR vs (3 * pre.length) ++ [.slice xa V.length V.length, .slice ya (bS (aB ls) V hs).length (bS (aB ls) V hs).length, .slice za (bS (aB ls) V hs).length (bS (aB ls) V hs).length]) (fun g => v.ownBlock = some g \/ W.heap.size ≤ g) ->
   KeepsFrom w8.heap.size W X' /\ Kp (fun k => ¬ eS (fun k => lo ≤ k /\ k < w8.heap.size) T' k) W X' /\ AllI w8 g8 T' (pre ++ [((xa, V.length, V.length), V)]) X' := fun X' s1 ya za v' h1 h2 hy hz hk' hB' hr' => by
   obtain ⟨q1, q2, vs', gb', C', q3⟩ := hJ2.round hb8 hTlt (Z := fun k => lo ≤ k /\ k < w8.heap.size) (fun k hk => ⟨by have := H8.out.2.2; have := hk.1; omega, hk.2⟩) hlt hJ.kp.size hk.size hV16 hH16 hgx h1 h2 hy hz hk' hB' hr'
   exact ⟨q1, q2, v', vs', gb', C', by rw [AllI.next]; exact q3⟩
  refine wpIn_mono (Q := aAu (fun X' => KeepsFrom w8.heap.size W X' /\ Kp (fun k => ¬ eS (fun k => lo ≤ k /\ k < w8.heap.size) T' k) W X' /\ AllI w8 g8 T' (pre ++ [((xa, V.length, V.length), V)]) X') (fun X' => KeepsFrom w8.heap.size W X' /\ Kp (fun k => ¬ eS (fun k => lo ≤ k /\ k < w8.heap.size) T' k) W X' /\ AllI w8 g8 T' (pre ++ [((xa, V.length, V.length), V)]) X')) ?_ ?_
  ·show Code.wpIn _ _ _ aE1 _ _ _
   exact aF0 (N := 3 * pre.length) (v := v) (vals := gR vs (3 * pre.length)) (V := V) (xa := xa) hGW hJ2.box hJ2.row (by omega) hV16 (by
    rcases hgx with h | ⟨g, rest, h1, h2, h3, h4⟩
    ·exact .inl h
    ·exact .inr ⟨g, rest, h1, h2, Nat.zero_le _, h2.lt⟩) (fun X hX => HHd.out X (xW.trans hX) V xa V.length V.length rfl (hxc.ext hX) hV16) hc0 hVl' rfl rfl rfl rfl
    (fun X' s1 ya za v' h1 h2 hy hz hk' hB' hr' => ⟨fun _ => hRound X' s1 ya za v' h1 h2 hy hz hk' hB' hr', fun _ => hRound X' s1 ya za v' h1 h2 hy hz hk' hB' hr'⟩)
  ·intro e a W' h
   cases e with
   | normal => exact h
   | exit id =>
    cases id with
    | zero => exact ⟨h.1, h.2.1, rfl, h.2.2⟩
    | succ id => exact h.elim
   | _ => exact h.elim
 case done =>
  rintro D T xs W1 W hD hxs ⟨v, vs, gb, C, hJ⟩ hT hk hd
  have hJ2 := hJ.step (T' := fun _ => False) hb8 hk (fun k hk' => hk'.elim)
  have hxl : xs.length = L.length := by
   have h : xs.map Prod.snd = L := hxs
   rw [<- h, List.length_map]
  have hm1 : Marks w8.heap.size W [{ target := .collected D, args := #[] }] := Marks.push (Marks.nil w8.heap.size w8) (fun k o h ho => (hJ2.kp.block k (lt_of_block h) (fun e => by
   have e' : k = g8 := e
   have h8 := H8.out.1
   unfold Blk at h8
   rw [e', h8] at h; cases h; cases ho)).trans h) hD hD hd
  have hLn := HLn.out
  exact hEnd _ _ _ _ _ _ _ _ (by omega) hJ2 hm1 rfl rfl rfl rfl rfl
 case stop =>
  rintro D c T pre W1 W hD hpre ⟨rfl, v, vs, gb, C, hJ⟩ hT hk hd
  have hJ2 := hJ.step (T' := fun _ => False) hb8 hk (fun k hk' => hk'.elim)
  have hxl : pre.length ≤ L.length := by
   have h := hpre.length_le
   rwa [List.length_map] at h
  have hm1 : Marks w8.heap.size W [{ target := .collected D, args := #[] }] := Marks.push (Marks.nil w8.heap.size w8) (fun k o h ho => (hJ2.kp.block k (lt_of_block h) (fun e => by
   have e' : k = g8 := e
   have h8 := H8.out.1
   unfold Blk at h8
   rw [e', h8] at h; cases h; cases ho)).trans h) hD hD hd
  have hLn := HLn.out
  gi_wp2
  exact hEnd _ _ _ _ _ _ _ _ (by omega) hJ2 hm1 rfl rfl rfl rfl rfl
end Go.Proofs.YtinnmeiphbdogaaGreat
/- Relations that came in: how they lie. -/
namespace Go.Proofs.YtinnmeiphbdogaaGreat
open Go.ChangeShapes Go.WideShapes Go.ChangeAt Go.RowKit
noncomputable def shT : Shp Tryz.prog ByteArray := aAb 9 Tryz.underlying9 (by kernel_rfl)
noncomputable def aAa : Shp Tryz.prog (List ByteArray) := pJ 34 shT Tryz.underlying34 (by kernel_rfl) (by decide)
noncomputable def shTss : Shp Tryz.prog (List (List ByteArray)) := pJ 69 aAa Tryz.underlying69 (by kernel_rfl) (by decide)
noncomputable def oH : Shp Tryz.prog gQ := mB 116 (fG shT (fG (shInt 3 .i64 Tryz.underlying3 (by kernel_rfl)) (fG shTss aBt))) (fs := _) Tryz.underlying116 ⟨_, _, rfl, rfl, rfl, _, _, rfl, rfl, rfl, _, _, rfl, rfl, rfl, rfl⟩ (by kernel_rfl)
theorem aA4 {α β : Type} {P : Nat -> α -> β -> Prop} : ∀ (L : List α), (∀ i x, L[i]? = some x -> ∃ y, P i x y) -> ∃ ys : List β, ys.length = L.length /\ ∀ (i : Nat) (x : α) (y : β), L[i]? = some x -> ys[i]? = some y -> P i x y := by
 intro L
 induction L generalizing P with
 | nil => exact fun _ => ⟨[], rfl, fun i x y h => by simp at h⟩
 | cons a L ih =>
  intro h
  obtain ⟨y0, h0⟩ := h 0 a rfl
  obtain ⟨ys, h1, h2⟩ := ih (P := fun i x y => P (i + 1) x y) fun i x hx => h (i + 1) x (by simpa using hx)
  refine ⟨y0 :: ys, by simp [h1], fun i x y hx hy => ?_⟩
  cases i with
  | zero => simp at hx hy; subst hx; subst hy; exact h0
  | succ i => exact h2 i x y (by simpa using hx) (by simpa using hy)
theorem aD0 {w : World} {G : Nat -> Prop} {ao : Option Addr} {LL : List (List ByteArray)} (h : ElemsAt aAa w G ao LL) (hl : ∀ ss ∈ LL, ss.length ≤ 8796093021952) : RowsIn (fun _ => True) w ao LL := by
 have h1 : ∀ (i : Nat) (ss : List ByteArray), LL[i]? = some ss -> ∃ p : Option Addr × Nat × Nat, ∃ b off, ao = some ⟨b, off, none⟩ /\ w.cell? ⟨b, off + i, none⟩ = some (.slice p.1 p.2.1 p.2.2) /\ p.2.1 = ss.length /\ CellsAt w p.1 (strs ss) := fun i ss hi => by
  obtain ⟨b, off, es, e, _, _, ⟨a1, c1, ee, hl, _, hc⟩, hcell⟩ := h i ss hi
  refine ⟨(a1, ss.length, c1), b, off, e, ?_, rfl, aDz (hu := Tryz.underlying9) (hc := by kernel_rfl) hc⟩
  have := hcell 0 (.slice a1 ss.length c1) (by rw [ee]; rfl)
  rw [show aAa.n = 1 from rfl, Nat.mul_one, Nat.add_zero] at this
  exact this
 obtain ⟨qs, hq, hP⟩ := aA4 LL h1
 have hz : ∀ p ∈ qs.zip LL, ReadsAs w p.1 p.2 /\ p.2.length ≤ 8796093021952 /\ ∀ a, p.1.1 = some a -> True := fun p hp => by
  obtain ⟨i, hi, e⟩ := List.getElem_of_mem hp
  have h2 : (qs.zip LL)[i]? = some p := by rw [qG hi, e]
  obtain ⟨h3, h4⟩ := List.getElem?_zip_eq_some.1 h2
  obtain ⟨b, off, _, _, h5, h6⟩ := hP i _ _ h4 h3
  exact ⟨⟨h5, h6⟩, hl _ (List.mem_of_getElem? h4), fun _ _ => trivial⟩
 refine ⟨qs.zip LL, ?_, fun i u hu => ?_, fun _ _ => trivial, hz⟩
 ·rw [List.map_snd_zip (by omega)]
 ·cases hp : (qs.zip LL)[i]? with
  | none => rw [show (eG (qs.zip LL))[i]? = ((qs.zip LL)[i]?).map _ from List.getElem?_map .., hp] at hu; cases hu
  | some p =>
   rw [wM _ _ _ hp] at hu
   cases hu
   obtain ⟨h3, h4⟩ := List.getElem?_zip_eq_some.1 hp
   obtain ⟨b, off, e, hc, _⟩ := hP i _ _ h4 h3
   exact ⟨b, off, e, hc⟩
theorem aD1 {w : World} {G : Nat -> Prop} {ao : Option Addr} {L : List gQ} (h : ElemsAt oH w G ao L) (hl : ∀ q ∈ L, ∀ ss ∈ q.2.2.1, ss.length ≤ 8796093021952) : RelsIn (fun _ => True) w ao L := fun i q hq => by
 obtain ⟨b, off, es, e, _, _, hat, hcell⟩ := h i q hq
 obtain ⟨x1, y1, e1, ⟨ex1, _⟩, x2, y2, e2, ⟨ex2, _⟩, x3, y3, e3, ⟨ra, rcap, ex3, r1, r2, r3⟩, e4⟩ := hat
 have e4' : y3 = [] := e4
 have ee : es = [.string q.1, .int .i64 q.2.1, .slice ra q.2.2.1.length rcap] := by
  rw [e1, ex1, e2, ex2, e3, ex3, e4']; rfl
 have hc : ∀ c u, es[c]? = some u -> w.cell? ⟨b, off + i * 3 + c, none⟩ = some u := fun c u hu => by
  have := hcell c u hu
  rw [show oH.n = 3 from rfl, <- Nat.add_assoc] at this
  exact this
 exact ⟨b, off, ra, rcap, e, trivial, hc 0 _ (by rw [ee]; rfl), hc 1 _ (by rw [ee]; rfl), hc 2 _ (by rw [ee]; rfl), r1, r2, aD0 r3 (hl q (List.mem_of_getElem? hq))⟩
theorem aH3 {L : List gQ} {N : Nat} (h : dB oH.bulk L ≤ N) : L.length ≤ N /\ ∀ q ∈ L, q.2.2.1.length ≤ N /\ ∀ ss ∈ q.2.2.1, ss.length ≤ N := by
 refine ⟨Nat.le_trans (fP oH.bulk (fun x => by show 1 ≤ _ + 1; omega) L) h, fun q hq => ?_⟩
 have h1 : oH.bulk q ≤ N := Nat.le_trans (nX oH.bulk hq) h
 have h2 : shT.bulk q.1 + (1 + ((dB aAa.bulk q.2.2.1 + 1) + 0)) + 1 ≤ N := h1
 have h3 := fP aAa.bulk (fun x => by show 1 ≤ _ + 1; omega) q.2.2.1
 refine ⟨by omega, fun ss hs => ?_⟩
 have h4 : aAa.bulk ss ≤ _ := nX aAa.bulk hs
 have h5 : dB shT.bulk ss + 1 ≤ dB aAa.bulk q.2.2.1 := h4
 have h6 := fP shT.bulk (fun x => by show 1 ≤ _ + 1; omega) ss
 omega
end Go.Proofs.YtinnmeiphbdogaaGreat
/- Proved here: the statement JoinOwnUptoSaid: the law returns true for every input of the bound that the row names and leaves its arguments as they were. No condition of its own. -/
namespace Go.Proofs.YtinnmeiphbdogaaGreat.lawJoinOwn
open Go.ChangeShapes Go.WideShapes Go.ChangeAt Go.RowKit
open Go.ChangeMaps (open_string shut_string)
theorem own : ownKnob Tryz.prog.godebug = none := by kernel_rfl
theorem laidOut : laidOutB Tryz.prog = true := by kernel_rfl
theorem aH8 {v u1 : Value} {W : World} (hv : ∃ cs x, v = .agg cs /\ jQ.At W (fun k => k < W.heap.size) cs.toList x /\ jQ.bulk x ≤ 1048576)
 (h1 : ∃ ao cap xs, u1 = .slice ao xs.length cap /\ xs.length ≤ cap /\ ElemsAt oH W (fun k => k < W.heap.size) ao xs /\ dB oH.bulk xs + 1 ≤ 1048576)
 :
 Calls Tryz.prog 7 #[v, u1] W (fun e w' => e = .returned (.bool true) /\ Below W.heap.size W w') := by
 obtain ⟨cs, x, rfl, hx, hb⟩ := hv
 obtain ⟨a1, c1, x1, rfl, _, e1, b1⟩ := h1
 obtain ⟨ha, hcap, ba, bcap, hR, ec⟩ := aCt hx
 have ecs : cs = #[.string x.1.1, .slice ha x.1.2.1.length hcap, .slice ba x.2.1.length bcap] := by
  rw [<- Array.toList_inj, ec]
 obtain ⟨f1, f2⟩ := aHy (r := x) hb
 obtain ⟨l1, l3⟩ := aH3 (N := 1048576) (by omega : dB oH.bulk x1 ≤ 1048576)
 rw [ecs]
 refine (aF1 (p := x.1.1) (hcap := hcap) (bcap := bcap) (lc := c1) rfl hR.head f1 rfl hR.body f2 (aGa hb) f2.len rfl (aD1 e1 fun q hq ss hs => by have := (l3 q hq).2 ss hs; omega) l1 (fun q hq => (l3 q hq).1)).mono ?_
 rintro e w' ⟨v, rfl, hk, rfl⟩
 exact ⟨rfl, hk.below⟩
set_option maxRecDepth 100000 in
theorem lifted (os : Os) (started : os.Started) (H : Type) (enc : TypeId × Value -> H) (F : Stop.Interp) :
 ReturnsInHanded {} Tryz.checked os 7 .any ((Rows.OpenSpec.upto Rows.joinOwnSpec).pre6 enc Tryz.prog Tryz.f7 Rows.joinOwnUptoRow.domain false) (((Rows.OpenSpec.upto Rows.joinOwnSpec).at F).post enc Tryz.prog Tryz.f7 false true false false) := by
 refine returnsInHanded_of_cond (C := Tryz.checked) (s := Rows.OpenSpec.upto Rows.joinOwnSpec) (k := Rows.uptoSmall) rfl own started (by kernel_rfl) Tryz.func7
  (OpenSpec.witness (enc := enc) (C := Tryz.checked) (s := Rows.OpenSpec.upto Rows.joinOwnSpec) (k := Rows.uptoSmall) rfl false ⟨#[], #[.agg #[.string ⟨#[]⟩,   .slice none 0 0,   .slice none 0 0], .slice none 0 0], []⟩ 8 (by kernel_rfl) (by kernel_rfl) (by kernel_rfl)
   (x := (([.agg [.agg [.lit (.string []), .nil], .nil], .nil]), [], [])) (by kernel_rfl) rfl (by kernel_rfl)) ?_
 intro W base args ds gs before hval0 hW hcnd hk0 _
 have hk : Rows.uptoSmall H (ds ++ gs) = true := hk0
 clear hk0
 have hval : ∀ (j : Nat) t v, Tryz.f7.params[j]? = some t -> args[j]? = some v -> Value.okWide Tryz.prog W .any base t v := hval0
 have hW' := hW
 obtain ⟨p, q, hA0, hV, rfl, hfz, hnd⟩ := hW
 have hA : DataW.TrodAll enc Tryz.prog W 0 (fun _ => true) true Tryz.f7.params.toList args.toList ds p := hA0
 rw [Tryz.params7] at hA hval
 obtain ⟨v0, vs0, d0, ds0, p0, q0, hargs, rfl, rfl, h0, r0⟩ := trodAll_cons hA
 obtain ⟨v1, vs1, d1, ds1, p1, q1, rfl, rfl, rfl, h1, r1⟩ := trodAll_cons r0
 obtain ⟨rfl, rfl, rfl⟩ := trodAll_nil r1
 obtain rfl : args = #[v0, v1] := by cases args; simp_all
 obtain ⟨rfl, rfl⟩ := trodVars_none hV
 have lt0 : ∀ x ∈ p0, x.block < W.heap.size := by obtain ⟨m, hm⟩ := h0; exact DataW.trod_lt m _ _ _ hm
 have lt1 : ∀ x ∈ p1, x.block < W.heap.size := by obtain ⟨m, hm⟩ := h1; exact DataW.trod_lt m _ _ _ hm
 clear hA0 hval0
 simp only [List.append_nil] at hk
 have hk1 : Rows.uptoBulkAll [d0, d1] ≤ 1048576 := of_decide_eq_true hk
 clear hk
 have x0 : ∃ cs x, v0 = .agg cs /\ jQ.At W (fun k => k < W.heap.size) cs.toList x /\ jQ.bulk x ≤ 1048576 := by
  obtain ⟨cs, rfl, hcs⟩ := okWide_struct Tryz.underlying27 (hval 0 27 v0 rfl rfl)
  obtain ⟨x, hx, hb⟩ := jQ.arg h0 (aFa hk1 (by simp))
  exact ⟨cs, x, rfl, hx, hb⟩
 have x1 := aHg (s := oH) Tryz.underlying28 (by kernel_rfl) (by exact (by decide : 0 < 3)) (hval 1 28 v1 rfl rfl) h1 (N := 1048576) (aFa hk1 (by simp))
 refine (aH8 x0 x1).mono fun e W' ⟨he, bel⟩ => ?_
 subst he
 exact ⟨_, rfl, _, _, _, [], _, [], hW', trodAll_mk1 (shut_bool Tryz.underlying4 _), (trodAll_cons_mk (Below.trod laidOut (by kernel_rfl) (of_decide_eq_true (by kernel_rfl)) h0 bel lt0) (trodAll_cons_mk (Below.trod laidOut (by kernel_rfl) (of_decide_eq_true (by kernel_rfl)) h1 bel lt1) trodAll_mk0)), rfl, bel.frame _, fun h => by cases h⟩
theorem over : Rows.joinOwnUptoRow.holds Tryz.pinned (Rows.OpenSpec.upto Rows.joinOwnSpec) :=
 OpenClaim.holds_of_cond 7 Tryz.f7 rfl rfl rfl rfl rfl rfl rfl ⟨rfl, rfl, rfl, rfl, rfl⟩ rfl rfl rfl rfl rfl (by kernel_rfl) Tryz.func7 (by kernel_rfl)
  (of_decide_eq_true (by kernel_rfl)) (by unfold Func.isWrapper; first | (rw [if_pos (by decide +kernel)]; kernel_rfl) | (rw [if_neg (by decide +kernel)]; exact ⟨rfl, rfl⟩))
  (fun os started H enc _ F => lifted os started H enc F)
theorem proved : Rows.JoinOwnUptoSaid := over
#print axioms proved
end Go.Proofs.YtinnmeiphbdogaaGreat.lawJoinOwn
