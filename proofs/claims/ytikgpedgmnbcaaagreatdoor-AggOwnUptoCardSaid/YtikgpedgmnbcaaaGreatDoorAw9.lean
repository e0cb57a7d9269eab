/- Texts joined for a claim (AggFPl, AggGroups, AggIns, AggOf, AggFacts, AggAll, AggLib, RowSame, BaseAdd, BaseAdd2, BaseDecl, BaseFrom, AggRun). -/
import Derived.Test.YtikgpedgmnbcaaaGreatDoorAw8
set_option linter.unusedVariables false
set_option linter.unusedSimpArgs false
set_option maxRecDepth 100000
namespace Go.Proofs.YtikgpedgmnbcaaaGreatDoor
section
def jW (k : Int) (at_ : Nat) : List fP -> Nat
 | [] => 0
 | g :: gs => if (fQ k at_ g.2).2 ≠ 0 then (fQ k at_ g.2).2 else jW k at_ gs
def lG (k : Int) (at_ j : Nat) (g : fP) : List ByteArray := g.1.take j ++ (fQ k at_ g.2).1 :: g.1.drop j
def aAa (N : List ByteArray) (hs : List aE) (k : Int) (at_ j : Nat) (L : aC) : Nat × aC :=
 if iD k at_ L ≠ 0 then (iD k at_ L, []) else if jW k at_ (bQ N hs L) ≠ 0 then (jW k at_ (bQ N hs L), []) else aT hs.length [] ((bQ N hs L).map (lG k at_ j))
theorem qL (k : Int) (at_ : Nat) : ∀ (a b : List fP), jW k at_ a = 0 -> jW k at_ (a ++ b) = jW k at_ b
 | [], b, _ => rfl
 | g :: a, b, h => by
  unfold jW at h
  rw [List.cons_append]
  show (if _ then _ else _) = _
  split at h
  ·rename_i h2; exact absurd h h2
  ·rename_i h2
   rw [if_neg h2]
   exact qL k at_ a b h
theorem aIp {k : Int} {at_ : Nat} {gs : List fP} {i : Nat} {g : fP} (h : jW k at_ (gs.take i) = 0) (hg : gs[i]? = some g) : ((fQ k at_ g.2).2 = 0 -> jW k at_ (gs.take (i + 1)) = 0) /\ ((fQ k at_ g.2).2 ≠ 0 -> jW k at_ gs = (fQ k at_ g.2).2) := by
 refine ⟨fun h0 => ?_, fun h0 => ?_⟩
 ·rw [pA hg, qL k at_ _ _ h]
  show (if _ then _ else _) = _
  rw [if_neg (fun e => e h0)]; rfl
 ·have e : gs = gs.take i ++ g :: gs.drop (i + 1) := by
   obtain ⟨hl, e2⟩ := List.getElem?_eq_some_iff.1 hg
   rw [<- e2, <- List.drop_eq_getElem_cons hl, List.take_append_drop]
  rw [e, qL k at_ _ _ h]
  show (if _ then _ else _) = _
  rw [if_pos h0]
theorem oS {r : bM} (hc : aP r = 0) : (∀ t ∈ r.1.2.1, 1 ≤ t.1 /\ t.1 ≤ 7) /\ sV r.1.2.1 < 2 := by
 unfold aP at hc
 split at hc
 ·rename_i hp
  unfold eE iX kinds at hp
  rw [Bool.and_eq_true, Bool.and_eq_true, Bool.and_eq_true] at hp
  exact ⟨fun t ht => of_decide_eq_true (List.all_eq_true.1 hp.1.1.1 t ht), of_decide_eq_true hp.1.1.2⟩
 ·cases hc
theorem aJq {r : bM} (hc : aP r = 0) {t : aE} (ht : t ∈ r.1.2.1) (h3 : t.1 ≠ 3) (h4 : t.1 ≠ 4) : 0 ≤ bI (fun x => decide (x = t.2.1)) (aA r.2.1) /\ bI (fun x => decide (x = t.2.1)) (aA r.2.1) < (aA r.2.1).length := by
 unfold aP at hc
 split at hc
 ·split at hc
  ·rename_i hs
   unfold mF at hs
   rw [Bool.and_eq_true] at hs
   have h := List.all_eq_true.1 hs.1 t ht
   unfold dQ at h
   split at h
   ·cases h
   ·have h2 := of_decide_eq_true h
    have h5 : kK (aA r.2.1) t.2.1 = true := by
     rcases h2 with h2 | h2 | h2
     ·exact absurd h2 h3
     ·exact absurd h2 h4
     ·exact h2
    unfold bI
    unfold kK at h5
    rw [if_pos h5]
    have h6 : (aA r.2.1).findIdx (fun x => decide (x = t.2.1)) < (aA r.2.1).length := List.findIdx_lt_length.2 (List.any_eq_true.1 h5)
    omega
  ·cases hc
 ·cases hc
theorem aCe (N V : List ByteArray) : ∀ (ts : List aE), (∀ t ∈ ts, t.1 = 1 \/ t.1 = 3 \/ 4 ≤ t.1) -> (aY N V ts).length + sV ts = ts.length
 | [], _ => rfl
 | t :: ts, h => by
  have ih := aCe N V ts fun u hu => h u (List.mem_cons_of_mem _ hu)
  unfold aY sV at ih ⊢
  rw [List.filterMap_cons, List.countP_cons]
  rcases h t (List.mem_cons_self ..) with h1 | h1 | h1
  ·simp [h1]; omega
  ·simp [h1]; omega
  ·have e3 : ¬ t.1 = 3 := by omega
   have e1 : ¬ t.1 = 1 := by omega
   simp [e3, e1, h1]; omega
theorem xJ {r : bM} (hc : aP r = 0) {j : Nat} {t : aE} (hj : r.1.2.1[j]? = some t) (h4 : 4 ≤ t.1) (N V : List ByteArray) : (aY N V r.1.2.1).length + 1 = r.1.2.1.length := by
 have h1 := aCe N V r.1.2.1 fun u hu => by
  rcases wW hc u hu with h | h | h
  ·exact .inl h.1
  ·exact .inr (.inl h)
  ·exact .inr (.inr h)
 have h2 := (oS hc).2
 have h3 : 0 < sV r.1.2.1 := List.countP_pos_iff.2 ⟨t, List.mem_of_getElem? hj, by simpa using h4⟩
 omega
theorem rZ {P : List ByteArray -> Prop} : ∀ {gs : List fP} {h V : List ByteArray}, (∀ g ∈ gs, P g.1) -> P h -> ∀ g ∈ cX gs h V, P g.1
 | [], h, V, _, hp, g, hg => by rw [List.mem_singleton.1 hg]; exact hp
 | x :: gs, h, V, ha, hp, g, hg => by
  unfold cX at hg
  have hx := ha x (List.mem_cons_self ..)
  split at hg
  ·rcases List.mem_cons.1 hg with e | e
   ·rw [e]; exact hx
   ·exact ha g (List.mem_cons_of_mem _ e)
  ·rcases List.mem_cons.1 hg with e | e
   ·rw [e]; exact hx
   ·exact rZ (fun g hg => ha g (List.mem_cons_of_mem _ hg)) hp g e
theorem aB2 (N : List ByteArray) (hs : List aE) (L : aC) : ∀ g ∈ bQ N hs L, ∃ V ∈ L, g.1 = aY N V hs := by
 have key : ∀ (L2 L : aC) (gs : List fP), (∀ V ∈ L2, V ∈ L) -> (∀ g ∈ gs, ∃ V ∈ L, g.1 = aY N V hs) -> ∀ g ∈ L2.foldl (fun gs V => cX gs (aY N V hs) V) gs, ∃ V ∈ L, g.1 = aY N V hs := fun L2 L => by
  induction L2 with
  | nil => intro gs _ h; exact h
  | cons V L2 ih =>
   intro gs hm h
   exact ih _ (fun U hU => hm U (List.mem_cons_of_mem _ hU)) (rZ (P := fun x => ∃ V ∈ L, x = aY N V hs) h ⟨V, hm V (List.mem_cons_self ..), rfl⟩)
 exact key L L [] (fun _ h => h) fun g hg => by cases hg
end
section
open Go.RowKit Go.Shelf
attribute [local go_sem] Oper.semAt_some
theorem cell0 {W : World} {g : Nat} {v : Value} {e : TypeId} (h : Blk W g [v] e) : W.cell? ⟨g, 0, none⟩ = some v := by rw [h.cell']; rfl
set_option maxHeartbeats 16000000 in
theorem aEy {S : Nat -> Prop} {w : World} {p : ByteArray} {hs : List aE} {ls : List aM} {ha ba : Option Addr} {hn hcap n bcap j : Nat} {G : Nat -> Prop} {o : Option Addr} {E : List Ent} {L : aC} {k at_ : Int} {s8 : ByteArray} (hhn : hn = hs.length) (hh : aU w G ha hs) (hhl : hn ≤ 1048576) (hbn : n = ls.length) (h : cD w G ba ls) (hf : Fit ls) (hnv : (aA ls).length ≤ 1048576) (hn16 : n ≤ 1048576)
 (hB : BaseV S w (.pointer o) E) (hL : jT ((p, hs, ()), ls, ()) (cE (wE ls E) ls) L) (hc : aP ((p, hs, ()), ls, ()) = 0) (hj : hs[j]? = some (k, s8, ())) (hk : 4 ≤ k /\ k ≤ 7) (hat0 : bI (fun x => decide (x = s8)) (aA ls) = at_) (hat : k ≠ 4 -> 0 ≤ at_ /\ at_ < (aA ls).length) (hN : NumW w) (hLl : L.length ≤ 1048576) (hVs : ∀ V ∈ L, ∀ s ∈ V, s.size ≤ 1048576) (hHs : ∀ V ∈ L, ∀ s ∈ aY (aA ls) V hs, s.size ≤ 1048576) :
 Calls Tryz.prog 66 #[dL p ha hn hcap ba n bcap, .pointer o, .int .i64 (j : Nat)] w (RetN w fun w' v => iM (aA ls) hs k at_ L w w' v) := by
 have HEa := qH (fun W (hW : Ext w W) => aCo (hcap := hcap) (bcap := bcap) (p := p) hhn (hh.ext hW) (by omega) hbn (h.ext hW) hf hnv hn16 (hB.ext hW) hL)
 have HHd := qH (fun W (hW : Ext w W) (V : List ByteArray) (va : Option Addr) (nb vc : Nat) (hV : nb = V.length) (hc : CellsAt W va (strs V)) (hb : nb ≤ 1048576) => xI (hcap := hcap) (bcap := bcap) (p := p) (vc := vc) hhn (hh.ext hW) hhl hbn (h.ext hW) hf hnv hV hc hb)
 have HVa := qH (fun W (hW : Ext w W) => zK p hs ls ha hn hcap ba n bcap W G hhn (hh.ext hW) hhl hbn (h.ext hW) hf hc)
 have HN := qH (And.intro hhn (And.intro hhl (And.intro hL (And.intro hnv (And.intro hc (And.intro hk (And.intro hat (And.intro hN (And.intro hLl (And.intro hVs hHs))))))))))
 have hjl := (List.getElem?_eq_some_iff.1 hj).1
 have i1 : (j : Int) < (hn : Int) := by omega
 obtain ⟨tb, off, eha, f0, f1, -, -⟩ := dU hh hj
 subst eha
 simp only at f0 f1
 have HAt := qH hat0
 obtain ⟨gb, egb⟩ : ∃ g, w.heap.size = g := ⟨_, rfl⟩
 obtain ⟨w1, e1⟩ : ∃ x, w.alloc (.cells #[.string p, .slice (some ⟨tb, off, none⟩) hn hcap, .slice ba n bcap] 43) = x := ⟨_, rfl⟩
 obtain ⟨w2, e2⟩ : ∃ x, w1.alloc (.cells #[.slice none 0 0] 120) = x := ⟨_, rfl⟩
 obtain ⟨w3, e3⟩ : ∃ x, w2.alloc (.cells #[.int .i64 0] 46) = x := ⟨_, rfl⟩
 obtain ⟨w4, e4⟩ : ∃ x, w3.alloc (.cells #[.int .i64 k, .string s8] 58) = x := ⟨_, rfl⟩
 have s1 : w1.heap.size = gb + 1 := by rw [<- e1, aI, egb]
 have s2 : w2.heap.size = gb + 1 + 1 := by rw [<- e2, aI, s1]
 have s3 : w3.heap.size = gb + 1 + 1 + 1 := by rw [<- e3, aI, s2]
 have x1 : Ext w w1 := by rw [<- e1]; exact (Kp.refl w).alloc _
 have x2 : Ext w1 w2 := by rw [<- e2]; exact (Kp.refl w1).alloc _
 have x3 : Ext w2 w3 := by rw [<- e3]; exact (Kp.refl w2).alloc _
 have x4 : Ext w3 w4 := by rw [<- e4]; exact (Kp.refl w3).alloc _
 have H4 := qH (show Blk w4 gb [.string p, .slice (some ⟨tb, off, none⟩) hn hcap, .slice ba n bcap] 43 /\ Blk w4 (gb + 1) [.slice none 0 0] 120 /\ Blk w4 (gb + 1 + 1) [.int .i64 0] 46 /\ Blk w4 (gb + 1 + 1 + 1) [.int .i64 k, .string s8] 58 /\ Ext w w4 from
  ⟨Blk.ext (by have h := Blk.new w [.string p, .slice (some ⟨tb, off, none⟩) hn hcap, .slice ba n bcap] 43; rw [egb] at h; rw [<- e1]; exact h) (x2.trans (x3.trans x4)), Blk.ext (by have h := Blk.new w1 [.slice none 0 0] 120; rw [s1] at h; rw [<- e2]; exact h) (x3.trans x4), Blk.ext (by have h := Blk.new w2 [.int .i64 0] 46; rw [s2] at h; rw [<- e3]; exact h) x4, by have h := Blk.new w3 [.int .i64 k, .string s8] 58; rw [s3] at h; rw [<- e4]; exact h, x1.trans (x2.trans (x3.trans x4))⟩)
 have HB3 := qH (show Blk w3 gb [.string p, .slice (some ⟨tb, off, none⟩) hn hcap, .slice ba n bcap] 43 from Blk.ext (by have h := Blk.new w [.string p, .slice (some ⟨tb, off, none⟩) hn hcap, .slice ba n bcap] 43; rw [egb] at h; rw [<- e1]; exact h) (x2.trans x3))
 have r1 := HB3.out.c1
 replace f0 := (x1.trans (x2.trans x3)).cell f0 id
 replace f1 := (x1.trans (x2.trans x3)).cell f1 id
 have HG := qH egb
 have HEq := qH (And.intro e1 (And.intro e2 (And.intro e3 (And.intro e4 (And.intro s1 (And.intro s2 s3))))))
 have HT := qH (show ∀ (W : World) (a9 : Nat) (t : Array Value), Ext w4 W -> Blk W a9 [.int .i64 at_] 3 -> t.size = 83 -> t.getD 1 undef = .pointer o -> t.getD 3 undef = .pointer (some ⟨gb, 0, none⟩) -> t.getD 6 undef = .pointer (some ⟨gb + 1, 0, none⟩) -> t.getD 7 undef = .pointer (some ⟨gb + 1 + 1, 0, none⟩) -> t.getD 8 undef = .pointer (some ⟨gb + 1 + 1 + 1, 0, none⟩) -> t.getD 9 undef = .pointer (some ⟨a9, 0, none⟩) ->
  oU.wp Tryz.prog (bodyPostM Fence.wide 4 Tryz.prog Tryz.f66 (RetN w fun w' v => iM (aA ls) hs k at_ L w w' v)) { tmps := t, defers := [] } W from fun W a9 t hW hb9 hz t1 t3 t6 t7 t8 t9 => by
  obtain ⟨q1, q2, q3, q4, q5⟩ := H4.out
  exact aBz (q1.ext hW) (q2.ext hW) (q3.ext hW) (q4.ext hW) hb9 (q5.trans hW) egb.symm
   (fun W hW => HEa.out W hW) (fun W hW V va nb vc h1 h2 h3 => HHd.out W hW V va nb vc h1 h2 h3) (fun V hV => ((hL.1 hc).iff V).1 hV |>.1) hnv (by omega) hc hk hat hN hLl hVs hHs hz t1 t3 t6 t7 t8 t9)
 have hnv2 := hnv
 have HJ := qH (show ∀ w', Ext w4 w' -> (fun w' : World => w'.cell? ⟨gb, 0, none⟩ = some (.string p) /\ w'.cell? ⟨gb, 1, none⟩ = some (.slice (some ⟨tb, off, none⟩) hn hcap) /\ w'.cell? ⟨gb, 2, none⟩ = some (.slice ba n bcap) /\ w'.cell? ⟨gb + 1 + 1 + 1, 1, none⟩ = some (.string s8)) w' from fun w' hw => ⟨by rw [(H4.out.1.ext hw).cell']; rfl, by rw [(H4.out.1.ext hw).cell']; rfl, by rw [(H4.out.1.ext hw).cell']; rfl, by rw [(H4.out.2.2.2.1.ext hw).cell']; rfl⟩)
 clear hhn hh hhl hbn h hf hnv hn16 hB hL hc hj hk hat0 hat hN hLl hVs hHs x1 x2 x3 x4 hjl
 refine callsIn_wide.1 (callsIn_of_wp_marks (n := 4) Tryz.func66 rfl trivial ?_ rfl)
 refine wpIn_wide.2 ?_
 obtain ⟨Q, eQ⟩ : ∃ Q, Q = bodyPostM Fence.wide 4 Tryz.prog Tryz.f66 (RetN w fun w' v => iM (aA ls) hs k at_ L w w' v) := ⟨_, rfl⟩
 rw [<- eQ]
 have EQ := qH eQ; clear eQ
 simp only [Tryz.ntmps66, List.size_toArray, List.length_cons, List.length_nil, Nat.reduceAdd, Nat.reduceSub, Array.replicate_succ, Array.replicate_zero, List.push_toArray, List.append_toArray, List.nil_append, List.cons_append]
 conv => arg 2; whnf
 show Code.wp _ (Code.seq _ (Code.seq _ (Code.seq _ oU))) _ _ _
 go_wp2_with fail
 clear e1 e2 e3 e4 s1 s2 s3 r1 f0 f1 i1 HEq HB3
 refine tH ?_
 refine bB (fun w' : World => w'.cell? ⟨gb, 0, none⟩ = some (.string p) /\ w'.cell? ⟨gb, 1, none⟩ = some (.slice (some ⟨tb, off, none⟩) hn hcap) /\ w'.cell? ⟨gb, 2, none⟩ = some (.slice ba n bcap) /\ w'.cell? ⟨gb + 1 + 1 + 1, 1, none⟩ = some (.string s8)) [6] (by kernel_rfl) (HJ.out _ (Kp.refl w4).drew) (fun hHeld => ?_)
 refine dI 0 ?_; try simp only [Act.put,sI,sZ,sS]
 refine dF 2 ?_; try simp only [Act.put,sI,sZ,sS]
 refine dI 3 ?_; try simp only [Act.put,sI,sZ,sS]
 refine vL (i := 1) (k := 5) ?_ ?_
 ·refine aG (i := 1) rfl (fun K hK => ?_)
  go_simp
  (refine (HVa.out _ (by first | exact H4.out.2.2.2.2.trans (Kp.refl w4).drew | exact H4.out.2.2.2.2.trans ((Kp.refl w4).drew.alloc _))).mono ?_; rintro e w5 ⟨v5, rfl, hk5, ao, cap, rfl, hcap, hcs, -, -⟩; have X5 := qH (show Ext w4 w5 from by first | exact (Kp.refl w4).drew.trans hk5 | exact ((Kp.refl w4).drew.alloc _).trans hk5); have HC5 := qH hcs; have K5 := qH hk5; clear hk5 hcs hcap)
  go_wp2_with fail
  refine hK.out _ _ ?_ (fun hHeld => ?_)
  ·(try dsimp only); (exact HJ.out _ X5.out)
  clear hK K; (try simp only [Act.put,sI,sZ,sS])
  refine vL (i := 4) (k := 5) ?_ ?_
  ·refine aG (i := 4) rfl (fun K hK => ?_)
   go_simp
   (refine (fB (aA ls) s8 ao (aA ls).length cap _ rfl (by first | exact HC5.out | exact HC5.out.ext ((Kp.refl _).alloc _)) (by omega)).mono ?_; rintro e w6 ⟨v6, rfl, hk6, rfl⟩; rw [HAt.out]; have X6 := qH (show Ext w4 w6 from by first | exact X5.out.trans hk6 | exact (X5.out.alloc _).trans hk6); have K6 := qH hk6; clear hk6)
   go_wp2_with fail
   refine hK.out _ _ ?_ (fun hHeld => ?_)
   ·(try dsimp only); (exact HJ.out _ X6.out)
   clear hK K; (try simp only [Act.put,sI,sZ,sS])
   refine aF (i := 5) ?_
   refine aG (i := 5) rfl (fun K hK => ?_)
   (first | have HA9 := qH (Blk.new w6 [.int .i64 0] 3) | have HA9 := qH (Blk.new w5 [.int .i64 0] 3) | have HA9 := qH (show Blk (w4.drew.alloc (.cells #[.int .i64 0] 3)) w4.heap.size [.int .i64 0] 3 from Blk.new w4.drew [.int .i64 0] 3))
   go_simp
   refine hK.out _ _ ?_ (fun hHeld => ?_)
   ·(try dsimp only); (first | exact HJ.out _ (X6.out.alloc _) | exact HJ.out _ (X5.out.alloc _) | exact HJ.out _ ((Kp.refl w4).drew.alloc _))
   clear hK K; (try simp only [Act.put,sI,sZ,sS])
   refine aF (i := 6) ?_
   refine aJ (i := 6) rfl (by kernel_rfl) (fun K hK => ?_)
   (first | (have hb9 := (HA9.out.ext K5.out).ext K6.out; have hc9 := cell0 hb9; have hf9 := hb9.free 0) | (have hb9 := HA9.out.ext K6.out; have hc9 := cell0 hb9; have hf9 := hb9.free 0) | skip)
   go_simp
   refine hK.out _ _ ?_
   clear hK K; (try simp only [Act.put,sI,sZ,sS])
   refine aN (by kernel_rfl) ?_ _
   refine fI ?_
   go_wp2_with fail
   rw [EQ.out]
   refine HT.out _ _ _ ?_ ?_ rfl rfl rfl rfl rfl rfl rfl
   ·first | exact X6.out.alloc _ | exact X6.out.trans' (kSa) (fun i hi e => by have e' : i = w5.heap.size := e; have := X5.out.size; omega) | exact X6.out.trans' (kSa) (fun i hi e => by have e' : i = w4.heap.size := e; omega)
   ·first | exact Blk.new w6 [.int .i64 at_] 3 | exact hb9.set 0 _
  ·refine aG (i := 5) rfl (fun K hK => ?_)
   (first | have HA9 := qH (Blk.new w6 [.int .i64 0] 3) | have HA9 := qH (Blk.new w5 [.int .i64 0] 3) | have HA9 := qH (show Blk (w4.drew.alloc (.cells #[.int .i64 0] 3)) w4.heap.size [.int .i64 0] 3 from Blk.new w4.drew [.int .i64 0] 3))
   go_simp
   refine hK.out _ _ ?_ (fun hHeld => ?_)
   ·(try dsimp only); (first | exact HJ.out _ (X6.out.alloc _) | exact HJ.out _ (X5.out.alloc _) | exact HJ.out _ ((Kp.refl w4).drew.alloc _))
   clear hK K; (try simp only [Act.put,sI,sZ,sS])
   refine aF (i := 4) ?_
   refine aG (i := 4) rfl (fun K hK => ?_)
   go_simp
   (refine (fB (aA ls) s8 ao (aA ls).length cap _ rfl (by first | exact HC5.out | exact HC5.out.ext ((Kp.refl _).alloc _)) (by omega)).mono ?_; rintro e w6 ⟨v6, rfl, hk6, rfl⟩; rw [HAt.out]; have X6 := qH (show Ext w4 w6 from by first | exact X5.out.trans hk6 | exact (X5.out.alloc _).trans hk6); have K6 := qH hk6; clear hk6)
   go_wp2_with fail
   refine hK.out _ _ ?_ (fun hHeld => ?_)
   ·(try dsimp only); (exact HJ.out _ X6.out)
   clear hK K; (try simp only [Act.put,sI,sZ,sS])
   refine aF (i := 6) ?_
   refine aJ (i := 6) rfl (by kernel_rfl) (fun K hK => ?_)
   (first | (have hb9 := (HA9.out.ext K5.out).ext K6.out; have hc9 := cell0 hb9; have hf9 := hb9.free 0) | (have hb9 := HA9.out.ext K6.out; have hc9 := cell0 hb9; have hf9 := hb9.free 0) | skip)
   go_simp
   refine hK.out _ _ ?_
   clear hK K; (try simp only [Act.put,sI,sZ,sS])
   refine aN (by kernel_rfl) ?_ _
   refine fI ?_
   go_wp2_with fail
   rw [EQ.out]
   refine HT.out _ _ _ ?_ ?_ rfl rfl rfl rfl rfl rfl rfl
   ·first | exact X6.out.alloc _ | exact X6.out.trans' (kSa) (fun i hi e => by have e' : i = w5.heap.size := e; have := X5.out.size; omega) | exact X6.out.trans' (kSa) (fun i hi e => by have e' : i = w4.heap.size := e; omega)
   ·first | exact Blk.new w6 [.int .i64 at_] 3 | exact hb9.set 0 _
 ·refine aG (i := 5) rfl (fun K hK => ?_)
  (first | have HA9 := qH (Blk.new w6 [.int .i64 0] 3) | have HA9 := qH (Blk.new w5 [.int .i64 0] 3) | have HA9 := qH (show Blk (w4.drew.alloc (.cells #[.int .i64 0] 3)) w4.heap.size [.int .i64 0] 3 from Blk.new w4.drew [.int .i64 0] 3))
  go_simp
  refine hK.out _ _ ?_ (fun hHeld => ?_)
  ·(try dsimp only); (first | exact HJ.out _ (X6.out.alloc _) | exact HJ.out _ (X5.out.alloc _) | exact HJ.out _ ((Kp.refl w4).drew.alloc _))
  clear hK K; (try simp only [Act.put,sI,sZ,sS])
  refine aF (i := 1) ?_
  refine aG (i := 1) rfl (fun K hK => ?_)
  go_simp
  (refine (HVa.out _ (by first | exact H4.out.2.2.2.2.trans (Kp.refl w4).drew | exact H4.out.2.2.2.2.trans ((Kp.refl w4).drew.alloc _))).mono ?_; rintro e w5 ⟨v5, rfl, hk5, ao, cap, rfl, hcap, hcs, -, -⟩; have X5 := qH (show Ext w4 w5 from by first | exact (Kp.refl w4).drew.trans hk5 | exact ((Kp.refl w4).drew.alloc _).trans hk5); have HC5 := qH hcs; have K5 := qH hk5; clear hk5 hcs hcap)
  go_wp2_with fail
  refine hK.out _ _ ?_ (fun hHeld => ?_)
  ·(try dsimp only); (exact HJ.out _ X5.out)
  clear hK K; (try simp only [Act.put,sI,sZ,sS])
  refine aF (i := 4) ?_
  refine aG (i := 4) rfl (fun K hK => ?_)
  go_simp
  (refine (fB (aA ls) s8 ao (aA ls).length cap _ rfl (by first | exact HC5.out | exact HC5.out.ext ((Kp.refl _).alloc _)) (by omega)).mono ?_; rintro e w6 ⟨v6, rfl, hk6, rfl⟩; rw [HAt.out]; have X6 := qH (show Ext w4 w6 from by first | exact X5.out.trans hk6 | exact (X5.out.alloc _).trans hk6); have K6 := qH hk6; clear hk6)
  go_wp2_with fail
  refine hK.out _ _ ?_ (fun hHeld => ?_)
  ·(try dsimp only); (exact HJ.out _ X6.out)
  clear hK K; (try simp only [Act.put,sI,sZ,sS])
  refine aF (i := 6) ?_
  refine aJ (i := 6) rfl (by kernel_rfl) (fun K hK => ?_)
  (first | (have hb9 := (HA9.out.ext K5.out).ext K6.out; have hc9 := cell0 hb9; have hf9 := hb9.free 0) | (have hb9 := HA9.out.ext K6.out; have hc9 := cell0 hb9; have hf9 := hb9.free 0) | skip)
  go_simp
  refine hK.out _ _ ?_
  clear hK K; (try simp only [Act.put,sI,sZ,sS])
  refine aN (by kernel_rfl) ?_ _
  refine fI ?_
  go_wp2_with fail
  rw [EQ.out]
  refine HT.out _ _ _ ?_ ?_ rfl rfl rfl rfl rfl rfl rfl
  ·first | exact X6.out.alloc _ | exact X6.out.trans' (kSa) (fun i hi e => by have e' : i = w5.heap.size := e; have := X5.out.size; omega) | exact X6.out.trans' (kSa) (fun i hi e => by have e' : i = w4.heap.size := e; omega)
  ·first | exact Blk.new w6 [.int .i64 at_] 3 | exact hb9.set 0 _
end
section
open Go.RowKit Go.Shelf
theorem aAt {P : Program} {t e : TypeId} {k bytes : Nat} {z : Value} {w : World} (E : cM P t e k bytes z) (ty : TypeId) {ao : Option Addr} {n : Nat} {xs : List Value} (hx : xs.length = n * k) (hc : CellsAt w ao xs) (h0 : ao = none -> n = 0)
 {so : Option Addr} {m c : Nat} {news : List Value} (hl : news.length = m * k) (hs : CellsAt w so news) (hm : 0 < m) (hb : (n + m) * bytes ≤ 140737488355328) (h63 : n + m ≤ maxLen) :
 ∃ v' w', (Builtin.append_ #[t, t] ty #[.slice ao n n, .slice so m c]).run P w = .ok v' w' /\ Row w' e k v' (n + m) (xs ++ news) (New w) /\ Ext w w' := by
 have hne : news ≠ [] := by
  rintro rfl
  have h0 := Nat.mul_pos hm E.2.2.2
  simp only [List.length_nil] at hl; omega
 obtain ⟨b, off, rfl, hlt⟩ := hs.off hne
 have hsrc : ∀ j u, news[j]? = some u -> w.cell? ((⟨b, off, none⟩ : Addr).add j) = some u := fun j u hu => by
  obtain ⟨b', off', he, hc⟩ := hs j u hu
  cases he
  rw [Addr.add_lit]; exact hc
 obtain ⟨ht, hi, hz, hk⟩ := E
 obtain ⟨i, hi, hz1, hz2, hz3⟩ := info_parts hi
 have hsmall : n + m ≤ 9223372036854775807 := h63
 have grown : ∀ old, (w.drew.alloc (.cells (xs.toArray ++ news.toArray ++ Builtin.zeroCells z.cells (grownCap w (n + m) old e - (n + m))) e)).heap[w.heap.size]? =
  some (.cells ((xs ++ news) ++ (Builtin.zeroCells z.cells (grownCap w (n + m) old e - (n + m))).toList).toArray e (0, 0)) := fun old => by
  show (w.heap.push _)[w.heap.size]? = _
  simp
 have lens : ∀ old, ((xs ++ news) ++ (Builtin.zeroCells z.cells (grownCap w (n + m) old e - (n + m))).toList).length = grownCap w (n + m) old e * k := fun old => by
  have hge := grownCap_ge w (n + m) old e
  simp only [List.length_append, Array.length_toList, size_zeroCells, hz, hx, hl, <- Nat.add_mul]
  congr 1; omega
 cases ao with
 | none =>
  have hn0 := h0 rfl
  subst hn0
  have hx0 : xs = [] := List.eq_nil_of_length_eq_zero (by simpa using hx)
  subst hx0
  have hr := run_append_nil (P := P) w t ty e i z ht hi hz1 ⟨b, off, none⟩ m c news (by rw [hz2]; exact hl) hsrc (by omega) (by omega) (by rw [hz3]; simp only [Nat.zero_add] at hb; omega)
  refine ⟨_, _, hr, ?_, ⟨rfl, rfl, rfl, by simp, fun k hk _ => Below.heap_alloc w.drew _ k hk⟩⟩
  have h1 := grown 0
  have h2 := lens 0
  simp only [Nat.zero_add, List.nil_append, Array.empty_append] at h1 h2 ⊢
  exact ⟨hl, .inr ⟨_, _, _, rfl, Nat.le_refl _, h1, h2, grownCap_ge w m 0 e, grownCap_le_maxLen w m 0 e (by omega)⟩⟩
 | some a =>
  have holds : ∀ j u, xs[j]? = some u -> w.cell? (a.add j) = some u := fun j u hu => by
   obtain ⟨b', off', he, hc2⟩ := hc j u hu
   cases he
   rw [Addr.add_lit]; exact hc2
  have hr := run_append_grow (P := P) w t ty e i z ht hi hz1 a n n xs (by rw [hz2]; exact hx) holds ⟨b, off, none⟩ m c news (by rw [hz2]; exact hl) hsrc (by omega) (by omega) (by rw [hz3]; exact growslice_fits (by omega) hb)
  exact ⟨_, _, hr, ⟨by rw [List.length_append, hx, hl, Nat.add_mul], .inr ⟨_, _, _, rfl, Nat.le_refl _, grown n, lens n, grownCap_ge w (n + m) n e, grownCap_le_maxLen w (n + m) n e (by omega)⟩⟩, ⟨rfl, rfl, rfl, by simp, fun k hk _ => Below.heap_alloc w.drew _ k hk⟩⟩
theorem aDg {P : Program} {t e : TypeId} {k bytes : Nat} {z : Value} {w : World} (E : cM P t e k bytes z) {ops : Array Oper} {rest : List Oper} {o : Oper} {a : Act} {Q : Exit -> Act -> World -> Prop} (hgd : o.guard = none) (s x : Operand)
 (ho : o.op = .call { callee := .builtin .append, args := #[s, x], argTypes := #[t, t] })
 {ao : Option Addr} {n : Nat} {xs : List Value} (hs : a.eval s = .slice ao n n) (hc : CellsAt w ao xs) (hx : xs.length = n * k) (h0 : ao = none -> n = 0)
 {so : Option Addr} {m c : Nat} {news : List Value} (hsx : a.eval x = .slice so m c) (hsrc : CellsAt w so news) (hl : news.length = m * k) (hm : 0 < m)
 (hb : (n + m) * bytes ≤ 140737488355328) (h63 : n + m ≤ maxLen)
 (h : ∀ v' w', Row w' e k v' (n + m) (xs ++ news) (New w) -> Ext w w' -> wpList P ops Q rest (a.put o.dst v') w') : wpList P ops Q (o :: rest) a w := by
 refine wpList_plain hgd fun K hK => ?_
 obtain ⟨v', w', hrun, h2, h3⟩ := aAt (P := P) E o.type hx hc h0 hl hsrc hm hb h63 (c := c)
 unfold Oper.wp execOp
 simp only [ho, resolve, invoke, builtin, Sem.run_bind, Sem.run_pure, Result.andThen_ok, List.map_toArray, List.map_cons, List.map_nil, hs, hsx, hrun]
 exact hK _ _ (h v' w' h2 h3)
abbrev SlZ := Option Addr × Nat × Nat
structure ListsO (W : World) (M : Nat -> Prop) (N : Nat) (vs : Nat -> SlZ) (gb : Nat -> Nat) (C : Nat -> List ByteArray) : Prop where
 len : ∀ i, i < N -> (vs i).2 = ((C i).length, (C i).length)
 blk : ∀ i, i < N -> ((vs i).1 = none /\ C i = []) \/ ((vs i).1 = some ⟨gb i, 0, none⟩ /\ M (gb i) /\ ∃ rest, Blk W (gb i) (strs (C i) ++ rest) 9)
 far : ∀ i j, i < N -> j < N -> i ≠ j -> (vs i).1 ≠ none -> (vs j).1 ≠ none -> gb i ≠ gb j
set_option maxHeartbeats 4000000 in
theorem uV {xs : List Value} {ao : Option Addr} {n i : Nat} {x : Value} {vb : Nat} {w : World} (hn : n = xs.length) (ho : (ao = none /\ xs = []) \/ ∃ g rest, ao = some ⟨g, 0, none⟩ /\ Blk w g (xs ++ rest) 9) (hi : i ≤ n) (hx : x.oneCell' = true) (hxs : ∀ u ∈ xs, u.oneCell' = true) (hv : Blk w vb [x] 9) (hb : n ≤ 1048576) :
 Calls Tryz.prog 67 #[.slice ao n n, .int .i64 (i : Nat), .slice (some ⟨vb, 0, none⟩) 1 1] w (RetN w fun w' v => Row w' 9 1 v (n + 1) (xs.take i ++ x :: xs.drop i) (New w)) := by
 have hsrc : CellsAt w (some ⟨vb, 0, none⟩) [x] := CellsAt.pre (rest := []) hv
 have hcells : CellsAt w ao xs := by
  rcases ho with ⟨_, e⟩ | ⟨g, rest, e, hB⟩
  ·rw [e]; exact CellsAt.nil _ _
  ·rw [e]; exact CellsAt.pre hB
 by_cases hin : i = n
 ·subst hin
  have h0 : ao = none -> i = 0 := fun e => by
   rcases ho with ⟨_, e2⟩ | ⟨g, rest, e2, _⟩
   ·rw [hn, e2]; rfl
   ·rw [e] at e2; cases e2
  have HNN := qH hn
  clear ho hv
  go_enter Tryz.func67, Tryz.ntmps67
  go_wp2_with (first | (at_builtin; refine Halted.out ?_))
  refine Halted.mk (aDg dM rfl _ _ rfl rfl hcells (by omega) h0 rfl hsrc rfl (by omega) (by omega) (by unfold maxLen; omega) ?_)
  intro v1 w1 hr1 hk1
  have HR := qH hr1; clear hr1 hcells
  go_wp2
  go_ret
  refine RetN.mk hk1 ?_
  have := HNN.out
  rw [List.take_of_length_le (by omega), List.drop_of_length_le (by omega)]
  exact HR.out
 ·have hlt : i < n := by omega
  obtain ⟨g, rest, rfl, hB⟩ : ∃ g rest, ao = some ⟨g, 0, none⟩ /\ Blk w g (xs ++ rest) 9 := by
   rcases ho with ⟨_, e⟩ | h
   ·rw [e] at hn; simp at hn; omega
   ·exact h
  clear ho
  have hk0 : 0 < n + 1 - i := by omega
  obtain ⟨w1, G, hrun1, hG, hGm, hext1, hsz1, hB1⟩ := oH (w := w) dM rfl Tryz.underlying3 (ao := some ⟨g, 0, none⟩) (n := i) (cap := n) (olds := xs.take i) (fun j u hu => by
   rw [List.getElem?_take] at hu
   split at hu
   ·exact hcells j u hu
   ·cases hu) (by simp; omega) (k := n + 1 - i) hk0 (by omega) (by rw [show i + (n + 1 - i) = n + 1 by omega]; omega) (by unfold maxLen; omega)
  rw [show i + (n + 1 - i) = n + 1 by omega] at hrun1 hG
  have rk : (n : Int) + 1 - i = ((n + 1 - i : Nat) : Int) := by omega
  rw [<- rk] at hrun1
  clear rk
  have hv1 := hsrc.ext hext1
  have hgh : g < w.heap.size := hB.lt
  obtain ⟨w2, hrun2, hk2, hB2⟩ := jX dM (w := w1) hB1 (off := i) (dp := some ⟨w.heap.size, i, none⟩) (dLen := n + 1 - i) (dCap := G - i) (sp := some ⟨vb, 0, none⟩) (sLen := 1) (sCap := 1) (cs := [x]) (by simp [Nat.min_def]; omega) (fun _ => rfl) hv1 (by simp; omega) (by simpa using hx)
  have hB' : Blk w2 g (xs ++ rest) 9 := (hB.ext hext1).kp hk2 (by omega)
  have HB' := qH hB'; have HB2 := qH hB2; have HK2 := qH hk2; have HE1 := qH hext1
  have HNN := qH hn
  have HXS := qH hxs
  have ncG : ¬ G = i := by omega
  have ncG1 : ¬ G = i + 1 := by omega
  have nci : ¬ n = i := by omega
  have hi1 : ((i : Int) + 1).toNat = i + 1 := by omega
  have hw1 : IntKind.i64.wrap ((i : Int) + 1) = (i : Int) + 1 := IntWalk.i64_in _ (by omega)
  have hp1 : (0 : Int) ≤ (i : Int) + 1 := by omega
  have hp2 : (i : Int) ≤ (n : Int) + 1 := by omega
  have hp3 : (i : Int) ≤ (n : Int) := by omega
  clear hB hB' hB2 hk2 hext1 hn hxs hv1 hB1 hv hsrc hcells hb
  unfold maxLen at hGm
  go_enter Tryz.func67, Tryz.ntmps67
  go_wp2_with (first | (at_builtin; refine Halted.out ?_))
  refine Halted.mk (nJ rfl _ _ rfl rfl rfl hrun1 ?_)
  clear hrun1
  go_wp2
  go_still_tail 8, (by kernel_rfl)
  refine tI dM rfl _ _ rfl (w := w2.drew) (HB2.out.drew) (g := w.heap.size) (off := i + 1) rfl rfl (cs := xs.drop i) (by have := HNN.out; first | (simp; omega) | (simp [Nat.min_def]; first | omega | (split <;> omega))) (fun _ => rfl) (fun j u hu => ⟨g, i, rfl, by
   have hb := HB'.out
   rw [hb.drew.cell']
   rw [List.getElem?_drop] at hu
   rw [List.getElem?_append_left (List.getElem?_eq_some_iff.1 hu).1]; exact hu⟩) (by have := HNN.out; simp [splice]; omega) (fun u hu => HXS.out u (List.mem_of_mem_drop hu)) ?_
  intro w3 hk3 hB3
  have HK3 := qH hk3; have HB3 := qH hB3
  clear hk3 hB3 hw1 hi1 hp1 hp2 hp3
  go_wp2
  go_ret
  have hext2 : Ext w w2 := HE1.out.trans' HK2.out (fun k hk e => by omega)
  have hext3 : Ext w w3 := (hext2.drew).trans' HK3.out (fun k hk e => by omega)
  refine RetN.mk hext3 ⟨?_, .inr ⟨w.heap.size, G, List.replicate (G - (n + 1)) (.string ⟨#[]⟩), rfl, Nat.le_refl _, ?_, ?_, hG, by unfold maxLen; omega⟩⟩
  ·have := HNN.out; simp; omega
  ·have h := rM xs x (.string ⟨#[]⟩) i G (by have := HNN.out; omega) (by have := HNN.out; omega)
   have := HB3.out
   rw [h] at this
   exact this.congrL (by rw [HNN.out])
  ·have := HNN.out; simp; omega
end
section
open Go.RowKit
attribute [local go_sem] Oper.semAt_some
def isAgg (t : aE) : Bool := decide (4 ≤ t.1 /\ t.1 ≤ 7)
def vX (ts : List aE) (i : Nat) (b : Bool) : Prop := (b = true /\ ∃ t, ts[i]? = some t /\ isAgg t = true /\ ∀ (j : Nat) u, j < i -> ts[j]? = some u -> isAgg u = false) \/ (b = false /\ i = 0 /\ ∀ t ∈ ts, isAgg t = false)
theorem aI8 (k : Int) (s : ByteArray) (w : World) : Calls Tryz.prog 63 #[.agg #[.int .i64 k, .string s]] w (RetN w fun w' v => v = .bool (decide (4 ≤ k /\ k ≤ 7))) := by
 by_cases h1 : 4 ≤ k
 ·by_cases h2 : k ≤ 7
  ·go_enter Tryz.func63, Tryz.ntmps63
   go_wp2
   go_ret
   exact RetN.mk ((Kp.refl w).alloc _) (by simp [h1, h2])
  ·go_enter Tryz.func63, Tryz.ntmps63
   go_wp2
   go_ret
   exact RetN.mk ((Kp.refl w).alloc _) (by simp [h1, h2])
 ·go_enter Tryz.func63, Tryz.ntmps63
  go_wp2
  go_ret
  exact RetN.mk ((Kp.refl w).alloc _) (by simp; omega)
def NoAgg (w0 : World) (ts : List aE) (n : Nat) (iv : Value) (w : World) : Prop := ∃ i : Nat, i ≤ n /\ iv = .int .i64 i /\ Hid (∀ (j : Nat) u, j < i -> ts[j]? = some u -> isAgg u = false) /\ Hid (Ext w0 w)
def IdxIs (ts : List aE) (v : Value) : Prop := (∃ i : Nat, v = .int .i64 i /\ i < ts.length /\ vX ts i true) \/ (v = .int .i64 (-1) /\ vX ts 0 false)
set_option maxHeartbeats 1000000 in
theorem zL (ts : List aE) (ao : Option Addr) (n cap : Nat) (w : World) (G : Nat -> Prop) (hn : n = ts.length) (h : aU w G ao ts) (hl : n ≤ 1048576) :
 Calls Tryz.prog 62 #[.slice ao n cap, .func (Fn.func 63) #[] #[]] w (RetN w fun w' v => IdxIs ts v) := by
 have HN := qH hn; have HE := qH h; clear hn h
 have hent : ∀ args w, (callFunc 63 args).run Tryz.prog w = .ok (.enter 63 args) w := enters_of Tryz.func63 (by kernel_rfl) rfl
 go_enter Tryz.func62, Tryz.ntmps62
 go_wp2
 go_loopw [8] (fun iv wr => NoAgg w ts n iv wr) (fun iv _ => n - (intOf iv).toNat)
 case atStart => exact ⟨0, Nat.zero_le _, rfl, fun j u h => by omega, Kp.refl w⟩
 case round =>
  obtain ⟨i, hi, rfl, hno, hex⟩ := hrel
  by_cases hlt : i < n
  ·have hlt' : i < ts.length := by rw [<- HN.out]; exact hlt
   obtain ⟨t, ht⟩ : ∃ t, ts[i]? = some t := ⟨_, qG hlt'⟩
   obtain ⟨b, off, eao, hc0, hc1, _⟩ := dU (HE.out.ext hex.out) ht
   subst eao
   obtain ⟨k, ek⟩ : ∃ k, k = t.1 := ⟨_, rfl⟩
   obtain ⟨s, es⟩ : ∃ s, s = t.2.1 := ⟨_, rfl⟩
   rw [<- ek] at hc0
   rw [<- es] at hc1
   obtain ⟨r, er⟩ : ∃ r : Bool, r = decide (4 ≤ k /\ k ≤ 7) := ⟨_, rfl⟩
   have hr : isAgg t = r := by unfold isAgg; rw [er, ek]
   have HC := qH (aI8 k s wr)
   rw [<- er] at HC
   have HT := qH (And.intro ht hr)
   clear ht hlt' ek es er hr
   cases r
   ·go_wp2_with fail
    refine HC.out.mono ?_
    rintro e w1 ⟨v, rfl, hk1, rfl⟩
    have HX := qH (hex.out.trans hk1); clear hk1 hc0 hc1
    go_wp2
    go_roundw
    case rel =>
     refine ⟨i + 1, by omega, by first | rfl | (congr 1; done) | (congr 1; omega), fun j u hj hu => ?_, HX⟩
     by_cases e : j = i
     ·subst e; rw [HT.out.1] at hu; cases hu; exact HT.out.2
     ·exact hno.out j u (by omega) hu
    case measure => simp [intOf]; omega
   ·go_wp2_with fail
    refine HC.out.mono ?_
    rintro e w1 ⟨v, rfl, hk1, rfl⟩
    have HX := qH (hex.out.trans hk1); clear hk1 hc0 hc1
    go_wp2
    go_ret
    exact RetN.mk HX.out (.inl ⟨i, rfl, by have := HN.out; omega, .inl ⟨rfl, t, HT.out.1, HT.out.2, hno.out⟩⟩)
  ·go_wp2
   go_ret
   refine RetN.mk hex.out (.inr ⟨rfl, .inr ⟨rfl, rfl, fun t ht => ?_⟩⟩)
   obtain ⟨j, hj, rfl⟩ := List.mem_iff_getElem.1 ht
   exact hno.out j _ (by have := HN.out; omega) (qG hj)
theorem rI (p : ByteArray) (ts : List aE) (ao : Option Addr) (n cap : Nat) (w : World) (G : Nat -> Prop) (hn : n = ts.length) (h : aU w G ao ts) (hl : n ≤ 1048576) :
 Calls Tryz.prog 32 #[.agg #[.string p, .slice ao n cap]] w (RetN w fun w' v => ∃ i b, v = .tuple #[.int .i64 (i : Nat), .bool b] /\ vX ts i b) := by
 have hx : Ext w (w.alloc (.cells #[.string p, .slice ao n cap] 40)) := (Kp.refl w).alloc _
 have HI := qH (zL ts ao n cap _ G hn (h.ext hx) hl)
 have HX := qH hx
 have HL := qH (show ts.length ≤ 1048576 by omega)
 clear hn h hx hl
 go_enter Tryz.func32, Tryz.ntmps32
 go_wp2_with fail
 refine HI.out.mono ?_
 rintro e w1 ⟨v, rfl, hk, hv⟩
 have HK := qH (HX.out.trans hk); clear hk
 rcases hv with ⟨i, rfl, hi, hf⟩ | ⟨rfl, hf⟩
 ·have hi2 : i ≤ 1048576 := by have := HL.out; omega
  have HF := qH hf; clear hf hi
  have q1 : max (i : Int) 0 = (i : Int) := by omega
  have q2 : (0 : Int) ≤ (i : Int) := by omega
  go_wp2
  go_ret2
  exact RetN.mk HK.out ⟨i, true, by first | rfl | simp, HF.out⟩
 ·have HF := qH hf; clear hf
  go_wp2
  go_ret2
  exact RetN.mk HK.out ⟨0, false, by first | rfl | simp, HF.out⟩
end
section
open Go.RowKit Go.Shelf
attribute [local go_sem] Oper.semAt_some
def AggOut (r : bM) (nb : Bool) (L : aC) (w w' : World) (v : Value) : Prop :=
 (aP r ≠ 0 /\ v = .tuple #[.pointer none, .int .i64 (aP r : Nat)]) \/
 (aP r = 0 /\ ∃ j k s8, r.1.2.1[j]? = some (k, s8, ()) /\ (4 ≤ k /\ k ≤ 7) /\
  ((r.2.1 = [] /\ v = .tuple #[.pointer none, .int .i64 111]) \/
   (r.2.1 ≠ [] /\ nb = true /\ v = .tuple #[.pointer none, .int .i64 1]) \/
   (r.2.1 ≠ [] /\ nb = false /\ ∃ e A, aAa (aA r.2.1) r.1.2.1 k (bI (fun x => decide (x = s8)) (aA r.2.1)).toNat j L = (e, A) /\
    ((e ≠ 0 /\ v = .tuple #[.pointer none, .int .i64 (e : Nat)]) \/ (e = 0 /\ ∃ rb iv S, v = .tuple #[.pointer (some ⟨rb, 0, none⟩), .int .i64 0] /\ RowsAt S w' rb iv r.1.2.1.length A /\ w.heap.size ≤ rb /\ (∀ k, S k -> w.heap.size ≤ k) /\ ∀ k, iv.ownBlock = some k -> w.heap.size ≤ k)))))
def aKj (w9 : World) (k : Int) (at_ j : Nat) (gs : List fP) (n : Nat) (av iv : Value) (W : World) : Prop :=
 ∃ i : Nat, i ≤ n /\ iv = .int .i64 i /\ jW k at_ (gs.take i) = 0 /\ Hid (Ext w9 W) /\ Hid (OwnRows w9.heap.size W av ((gs.take i).map (lG k at_ j)))
def AddTo (w9 w12 : World) (rb m : Nat) (LL : aC) (n : Nat) (iv : Value) (W : World) : Prop :=
 ∃ i : Nat, i ≤ n /\ iv = .int .i64 i /\ (aT m [] (LL.take i)).1 = 0 /\ Hid (Kp (fun q => q = rb) w12 W) /\ ∃ S v, Hid (RowsAt S W rb v m (aT m [] (LL.take i)).2 /\ (∀ q, S q -> w12.heap.size ≤ q) /\ ∀ q, v.ownBlock = some q -> w12.heap.size ≤ q)
set_option maxHeartbeats 16000000 in
theorem zZ {S : Nat -> Prop} {w : World} {p : ByteArray} {hs : List aE} {ls : List aM} {ha ba : Option Addr} {hn hcap n bcap : Nat} {G : Nat -> Prop} {o : Option Addr} {E : List Ent} {L : aC} (hhn : hn = hs.length) (hh : aU w G ha hs) (hhl : hn ≤ 1048576) (hbn : n = ls.length) (h : cD w G ba ls) (hf : Fit ls) (hnv : (aA ls).length ≤ 1048576) (hn16 : n ≤ 1048576)
 (hB : BaseV S w (.pointer o) E) (hL : jT ((p, hs, ()), ls, ()) (cE (wE ls E) ls) L) (hag : (hs.any fun t => decide (4 ≤ t.1)) = true) (hN : NumW w) (hLl : L.length ≤ 1048576) (hVs : ∀ V ∈ L, ∀ s ∈ V, s.size ≤ 1048576) (hHs : ∀ V ∈ L, ∀ s ∈ aY (aA ls) V hs, s.size ≤ 1048576) :
 Calls Tryz.prog 33 #[dL p ha hn hcap ba n bcap, .pointer o] w (RetN w fun w' v => AggOut ((p, hs, ()), ls, ()) o.isNone L w w' v) := by
 have HCh := qH (fun W (hW : Ext w W) => iL p hs ls ha hn hcap ba n bcap W G hhn (hh.ext hW) (by omega) hbn (h.ext hW) hf)
 have HOf := qH (fun W (hW : Ext w W) => rI p hs ha hn hcap W G hhn (hh.ext hW) (by omega))
 obtain ⟨cR, ecR⟩ : ∃ c, aP ((p, hs, ()), ls, ()) = c := ⟨_, rfl⟩
 rw [ecR] at HCh
 have HC := qH ecR
 have HGr := qH (show aP ((p, hs, ()), ls, ()) = 0 -> ∀ (j : Nat) (k : Int) (s8 : ByteArray), hs[j]? = some (k, s8, ()) -> 4 ≤ k /\ k ≤ 7 -> (k ≠ 4 -> 0 ≤ bI (fun x => decide (x = s8)) (aA ls) /\ bI (fun x => decide (x = s8)) (aA ls) < (aA ls).length) -> ∀ W, Ext w W -> Calls Tryz.prog 66 #[dL p ha hn hcap ba n bcap, .pointer o, .int .i64 (j : Nat)] W (RetN W fun w' v => iM (aA ls) hs k (bI (fun x => decide (x = s8)) (aA ls)) L W w' v) from
  fun hc j k s8 hj hk hat W hW => aEy hhn (hh.ext hW) hhl hbn (h.ext hW) hf hnv hn16 (hB.ext hW) hL hc hj hk rfl hat (hN.ext hW) hLl hVs hHs)
 have HN := qH (And.intro hhn (And.intro hhl (And.intro hbn (And.intro hag (And.intro hN hLl)))))
 obtain ⟨gb, egb⟩ : ∃ g, w.heap.size = g := ⟨_, rfl⟩
 obtain ⟨w1, e1⟩ : ∃ x, w.alloc (.cells #[.string p, .slice ha hn hcap, .slice ba n bcap] 43) = x := ⟨_, rfl⟩
 have x1 : Ext w w1 := by rw [<- e1]; exact (Kp.refl w).alloc _
 have hB1 : Blk w1 gb [.string p, .slice ha hn hcap, .slice ba n bcap] 43 := by rw [<- e1, <- egb]; exact Blk.new w _ _
 have H1 := qH (And.intro x1 hB1)
 have r0 := hB1.c0
 have r1 := hB1.c1
 have r2 := hB1.c2
 clear hhn hh hhl hbn h hf hnv hn16 hB hL hag hN hLl hVs hHs ecR x1 hB1
 go_enter Tryz.func33, Tryz.ntmps33
 go_wp2_with fail
 clear e1
 refine (HCh.out w1 H1.out.1).mono ?_
 rintro e w2 ⟨v2, rfl, hk2, rfl⟩
 have H2 := qH (And.intro (H1.out.1.trans hk2) (H1.out.2.ext hk2))
 have q0 := H2.out.2.c0
 have q1 := H2.out.2.c1
 clear hk2 r0 r1 r2
 by_cases hc : cR = 0
 ·subst hc
  go_wp2_with fail
  refine (HOf.out w2 H2.out.1).mono ?_
  rintro e w3 ⟨v3, rfl, hk3, j, b, rfl, hfa⟩
  have hb : b = true := by
   rcases hfa with ⟨h, _⟩ | ⟨_, _, h⟩
   ·exact h
   ·obtain ⟨t, ht, h2⟩ := List.any_eq_true.1 HN.out.2.2.2.1
    have h3 := h t ht
    unfold isAgg at h3
    have h4 := of_decide_eq_true h2
    have h5 := ((oS HC.out).1 t ht).2
    exact absurd ⟨h4, h5⟩ (of_decide_eq_false h3)
  subst hb
  have H3 := qH (And.intro (H2.out.1.trans hk3) (H2.out.2.ext hk3))
  have s0 := H3.out.2.c0
  have s1 := H3.out.2.c1
  have s2 := H3.out.2.c2
  clear hk3 q0 q1
  obtain ⟨t, htj, hta⟩ : ∃ t, hs[j]? = some t /\ isAgg t = true := by
   rcases hfa with ⟨_, t, h1, h2, _⟩ | ⟨h, _⟩
   ·exact ⟨t, h1, h2⟩
   ·cases h
  obtain ⟨k, s8, ⟨⟩⟩ := t
  have hk : 4 ≤ k /\ k ≤ 7 := of_decide_eq_true hta
  have hat : k ≠ 4 -> 0 ≤ bI (fun x => decide (x = s8)) (aA ls) /\ bI (fun x => decide (x = s8)) (aA ls) < (aA ls).length := fun h4 => aJq HC.out (List.mem_of_getElem? htj) (fun e => by have e' : k = 3 := e; omega) h4
  have HJ := qH (And.intro htj hk)
  have HW := qH (show ∀ (w' : World) (v : Value), Ext w w' -> ((ls = [] /\ v = .tuple #[.pointer none, .int .i64 111]) \/ (ls ≠ [] /\ o.isNone = true /\ v = .tuple #[.pointer none, .int .i64 1]) \/ (ls ≠ [] /\ o.isNone = false /\ ∃ e A, aAa (aA ls) hs k (bI (fun x => decide (x = s8)) (aA ls)).toNat j L = (e, A) /\ ((e ≠ 0 /\ v = .tuple #[.pointer none, .int .i64 (e : Nat)]) \/ (e = 0 /\ ∃ rb iv S, v = .tuple #[.pointer (some ⟨rb, 0, none⟩), .int .i64 0] /\ RowsAt S w' rb iv hs.length A /\ w.heap.size ≤ rb /\ (∀ k, S k -> w.heap.size ≤ k) /\ ∀ k, iv.ownBlock = some k -> w.heap.size ≤ k)))) -> RetN w (fun w' v => AggOut ((p, hs, ()), ls, ()) o.isNone L w w' v) (.returned v) w' from fun w' v hx h => RetN.mk hx (.inr ⟨HC.out, j, k, s8, HJ.out.1, HJ.out.2, h⟩))
  have HG9 := qH (HGr.out HC.out j k s8 htj hk hat w3 H3.out.1)
  clear htj hk hat hta hfa
  by_cases hb0 : n = 0
  ·subst hb0
   have HL0 := qH (List.eq_nil_of_length_eq_zero HN.out.2.2.1.symm)
   go_wp2_with fail
   go_ret2
   exact HW.out _ _ H3.out.1 (.inl ⟨HL0.out, rfl⟩)
  have HL0 := qH (show ls ≠ [] from fun e => hb0 (by rw [HN.out.2.2.1, e]; rfl))
  have hn0 : ((n : Int) == 0) = false := by simp; omega
  clear hb0
  cases o with
  | none =>
   have hnn : (binOp .eql 45 (.pointer none) (.pointer none)).run Tryz.prog w3 = .ok (.bool true) w3 := by kernel_rfl
   go_wp2_with fail
   go_ret2
   exact HW.out _ _ H3.out.1 (.inr (.inl ⟨HL0.out, rfl, rfl⟩))
  | some ob =>
   go_wp2_with fail
   clear s0 s1 s2
   refine HG9.out.mono ?_
   rintro e w9 ⟨v9, rfl, hk9, lo, bl, mr, lv, bs, ra, rfl, hG, hlo, hbl, hmr⟩
   have H9 := qH (show Ext w w9 /\ Blk w9 gb [.string p, .slice ha hn hcap, .slice ba n bcap] 43 from ⟨H3.out.1.trans hk9, H3.out.2.ext hk9⟩)
   obtain ⟨at_, eat⟩ : ∃ x, bI (fun x => decide (x = s8)) (aA ls) = x := ⟨_, rfl⟩
   rw [eat] at hG HW ⊢
   obtain ⟨gs, egs⟩ : ∃ x, bQ (aA ls) hs L = x := ⟨_, rfl⟩
   have hgB := aB3 (aA ls) hs L
   have hgH := aB2 (aA ls) hs L
   have hgn := vA (aA ls) hs L
   rw [egs] at hG hgB hgH hgn
   obtain ⟨fz, efz⟩ : ∃ x, iD k at_.toNat L = x := ⟨_, rfl⟩
   rw [efz]
   obtain ⟨la, lc, elv, _, _⟩ := hG.row.shape
   subst elv
   obtain ⟨gl, egl⟩ : ∃ x, gs.length = x := ⟨_, rfl⟩
   rw [egl] at hG hgn ⊢
   have HP := qH (And.intro egs (And.intro egl (And.intro efz (And.intro hgB (And.intro hgH hgn)))))
   have HG := qH (And.intro hG (And.intro hlo hk9.size))
   clear hG hlo hbl hmr hgB hgH hgn egs egl efz eat hk9
   by_cases hfz : fz = 0
   ·subst hfz
    go_wp2_with fail
    go_loopw [11, 61] (fun av iv wr => aKj w9 k at_.toNat j gs gl av iv wr) (fun _ iv _ => gl - (intOf iv).toNat)
    case atStart => exact ⟨0, Nat.zero_le _, rfl, rfl, qH (Kp.refl _), qH (OwnRows.nil _ _)⟩
    case round =>
     obtain ⟨i, hi, rfl, hte, hex, hO⟩ := hrel
     by_cases hlt : i < gl
     ·obtain ⟨g, hg⟩ : ∃ g, gs[i]? = some g := ⟨_, qG (by rw [HP.out.2.1]; exact hlt)⟩
      obtain ⟨gr, B⟩ := g
      have hGi := (HG.out.1.ext hex.out)
      have hGA := hGi.grp i _ hg
      have hGR := hGi.rows i _ hg
      have HT := qH (aC8 hGA (HN.out.2.2.2.2.1.ext (H9.out.1.trans hex.out)) (by
       have h1 : B.length ≤ L.length := HP.out.2.2.2.1 _ (List.mem_of_getElem? hg)
       exact Nat.le_trans h1 HN.out.2.2.2.2.2))
      obtain ⟨lg, ela, c1⟩ : ∃ g, la = some ⟨g, 0, none⟩ /\ wr.cell? ⟨g, i, none⟩ = some (fM (bs i).g) := by
       have hgl : gs.length = gl := HP.out.2.1
       obtain ⟨h1, ⟨e, h0⟩ | ⟨g, cap, rest, e, hM, hb, hl, hc, hm⟩⟩ := hGi.row
       ·omega
       ·cases e
        refine ⟨g, rfl, ?_⟩
        rw [hb.cell', List.getElem?_append_left (by unfold mN; simp; omega)]
        unfold mN
        rw [List.getElem?_map, List.getElem?_range (by omega)]; rfl
      subst ela
      have rn1 : gr.length + 1 = hn := by
       obtain ⟨V, _, e⟩ := HP.out.2.2.2.2.1 _ (List.mem_of_getElem? hg)
       have e' : gr = aY (aA ls) V hs := e
       rw [e', HN.out.1]
       exact xJ HC.out HJ.out.1 HJ.out.2.1 _ _
      have hjn : j < hn := by rw [HN.out.1]; exact (List.getElem?_eq_some_iff.1 HJ.out.1).1
      have hhn16 := HN.out.2.1
      obtain ⟨rn, ern⟩ : ∃ x, gr.length = x := ⟨_, rfl⟩
      have c0 : wr.cell? ⟨(bs i).g, 0, none⟩ = some (.slice (ra i) rn rn) := by rw [hGA.blk.cell', <- ern]; rfl
      have c2 := hGA.blk.c2
      have hent := aIn k
      obtain ⟨tf, etf⟩ : ∃ x, kR k = x := ⟨_, rfl⟩
      obtain ⟨tc, etc⟩ : ∃ x, nM k (bs i) = x := ⟨_, rfl⟩
      rw [etf, etc] at HT
      rw [etf] at hent
      unfold wQ at c2
      rw [etf, etc] at c2
      unfold fM at c1
      have HTE := qH (aIp hte hg)
      obtain ⟨st, est⟩ : ∃ x, (fQ k at_.toNat B).1 = x := ⟨_, rfl⟩
      obtain ⟨te, ete⟩ : ∃ x, (fQ k at_.toNat B).2 = x := ⟨_, rfl⟩
      have HTE2 := qH (show (te = 0 -> jW k at_.toNat (gs.take (i + 1)) = 0) /\ (te ≠ 0 -> jW k at_.toNat gs = te) from by rw [<- ete]; exact HTE.out)
      rw [est, ete] at HT
      obtain ⟨bg, ebg⟩ : ∃ x, (bs i).g = x := ⟨_, rfl⟩
      rw [ebg] at c1 c0 c2
      have hbg := hGA.blk
      rw [ebg] at hbg
      have HI := qH (And.intro hg (And.intro hGR (And.intro hbg (And.intro ern est))))
      have i1 : (i : Int) < (gl : Int) := by omega
      have hgl16 : gl ≤ 1048576 := by have h1 := HP.out.2.2.2.2.2; have h2 := HN.out.2.2.2.2.2; omega
      obtain ⟨ava, avc, eav, -⟩ := hO.out.shape
      rw [List.length_map, List.length_take, HP.out.2.1, Nat.min_eq_left hi] at eav
      subst eav
      clear hte hg hGi hGA hGR etf etc HTE est ete ebg hbg ern rn1
      go_wp2_with fail
      refine HT.out.mono ?_
      rintro e w4 ⟨v4, rfl, hk4, rfl⟩
      have H4 := qH (hex.out.trans hk4)
      replace c0 := hk4.cell c0 id
      have HX4 := qH hk4
      clear c1 c2 hent hk4
      by_cases hte : te = 0
      ·subst hte
       have hsl : (strs gr).length = rn := by rw [<- HI.out.2.2.2.1]; simp [strs]
       have rn2 : rn + 1 = hn := by
        obtain ⟨V, _, e⟩ := HP.out.2.2.2.2.1 _ (List.mem_of_getElem? HI.out.1)
        have e' : gr = aY (aA ls) V hs := e
        rw [<- HI.out.2.2.2.1, e', HN.out.1]
        exact xJ HC.out HJ.out.1 HJ.out.2.1 _ _
       have HIns := qH (uV (xs := strs gr) (ao := ra i) (n := rn) (i := j) (x := .string st) (vb := w4.heap.size) (w := w4.alloc (.cells #[.string st] 9)) hsl.symm (by
        rcases HI.out.2.1 with ⟨e1, e2⟩ | ⟨q, rest, e, hb, _⟩
        ·have e2' : gr = [] := e2
         exact .inl ⟨e1, by rw [e2']; rfl⟩
        ·exact .inr ⟨q, rest, e, (hb.ext HX4.out).alloc _⟩) (by omega) rfl (fun u hu => by
        obtain ⟨s, _, rfl⟩ := List.mem_map.1 hu; rfl) (Blk.new w4 [.string st] 9) (by omega))
       obtain ⟨ps, hps, p2, p3, p4⟩ := hO.out
       have hpl : ps.length = i := by
        have := congrArg List.length hps
        rw [List.length_map, List.length_map, List.length_take, HP.out.2.1, Nat.min_eq_left hi] at this
        exact this.symm
       rw [hpl] at p2
       have HO2 := qH (And.intro hps (And.intro p2 (And.intro p3 (And.intro p4 hpl))))
       have HR2 := qH (And.intro hsl rn2)
       clear hps p2 p3 p4 hpl hO hsl rn2
       go_wp2_with fail
       refine HIns.out.mono ?_
       rintro e w6 ⟨v6, rfl, hk6, hr6⟩
       obtain ⟨xa, xc, ev6, _, _⟩ := hr6.shape
       subst ev6
       have HX6 := qH (And.intro (show Ext w4 w6 from ((Kp.refl w4).alloc _).trans hk6) (And.intro hr6 hk6.size))
       clear hk6 hr6 c0
       go_wp2_with (first | (at_builtin; refine Halted.out ?_))
       refine Halted.mk (dK eS rfl _ _ rfl ((H4.out.trans HX6.out.1).alloc _) rfl ((HO2.out.2.1.ext (HX4.out.trans HX6.out.1)).alloc _) rfl (CellsAt.one w6 _ _) rfl (by simp; rfl) (by omega) (by unfold maxLen; omega) ?_)
       intro v7 w7 hr7 hk7 hk7b _
       obtain ⟨va7, vc7, ev7, _, _⟩ := hr7.shape
       subst ev7
       have HFin := qH (show Ext w9 w7 /\ OwnRows w9.heap.size w7 (.slice va7 (i + 1) vc7) ((gs.take (i + 1)).map (lG k at_.toNat j)) from by
        obtain ⟨hps, p2, p3, p4, hpl⟩ := HO2.out
        have hx6 := HX4.out.trans HX6.out.1
        have hz4 := HX4.out.size
        have hz9 := hex.out.size
        have hx6a : Ext wr (w6.alloc (.cells #[.slice xa (rn + 1) xc] 66)) := hx6.alloc _
        have eins : lG k at_.toNat j (gr, B) = gr.take j ++ st :: gr.drop j := by
         unfold lG; rw [HI.out.2.2.2.2]
        have hlen : (gr.take j ++ st :: gr.drop j).length = rn + 1 := by
         have h1 := HI.out.2.2.2.1
         have h2 := HR2.out.2
         simp; omega
        have hstr : strs (gr.take j ++ st :: gr.drop j) = (strs gr).take j ++ .string st :: (strs gr).drop j := by
         unfold strs
         rw [List.map_append, List.map_cons, List.map_take, List.map_drop]
        have h := OwnRows.push (lo := w9.heap.size) (ps := ps) (w := w6.alloc (.cells #[.slice xa (rn + 1) xc] 66)) (w' := w7) (v := .slice ava i avc) (v' := .slice va7 (i + 1) vc7) (B := (w4.alloc (.cells #[.string st] 9)).heap.size) (x := (xa, rn + 1, xc)) (ss := gr.take j ++ st :: gr.drop j) (by rw [hpl]; exact p2.ext hx6a) (fun p hp => ⟨(p3 p hp).1.ext hx6a, (p3 p hp).2⟩) p4
         (fun p hp g hg => by
          have := (p3 p hp).1.lt g hg
          rw [aI]; omega) (by rw [aI]; omega) (by
          rw [hlen, hstr]
          exact (HX6.out.2.1.ext ((Kp.refl w6).alloc _))) (by rw [hlen]; have := HR2.out.2; omega) (by rw [hpl]; exact hr7) hk7b
        refine ⟨hk7, ?_⟩
        rw [pA HI.out.1, List.map_append, List.map_singleton, eins, hps]
        exact h)
       clear hr7 hk7 hk7b
       go_wp2
       go_roundw
       case rel => exact ⟨i + 1, by omega, by first | rfl | (congr 1; done) | (congr 1; omega), HTE2.out.1 (by first | rfl | trivial), qH HFin.out.1, qH HFin.out.2⟩
       case measure => simp [intOf]; omega
      ·have h0 : ((te : Int) != 0) = true := by simp; omega
       have HF := qH hte
       clear hte
       go_wp2_with fail
       go_ret2
       refine HW.out _ _ (H9.out.1.trans H4.out) (.inr (.inr ⟨HL0.out, rfl, te, [], ?_, .inl ⟨HF.out, rfl⟩⟩))
       unfold aAa
       rw [HP.out.1, HP.out.2.2.1, if_neg (fun h => h rfl), HTE2.out.2 HF.out, if_pos HF.out]
     ·generalize hwA : wr = wA at *; clear hwA
      obtain rfl : i = gl := by omega
      have htk : gs.take i = gs := List.take_of_length_le (by rw [HP.out.2.1]; exact Nat.le_refl _)
      rw [htk] at hte hO
      obtain ⟨aa, ac, eav, rs, hLL, hca, hab, hrs⟩ := hO.out.shape
      rw [List.length_map, HP.out.2.1] at eav
      subst eav
      have hrl : rs.length = i := by
       have := congrArg List.length hLL
       rw [List.length_map, List.length_map, HP.out.2.1] at this
       exact this.symm
      have hB' := H9.out.2.ext hex.out
      have s1 := hB'.c1
      have h64 : hn ≤ 64 := by rw [HN.out.1]; exact aJs HC.out
      have hi16 : i ≤ 1048576 := by have h1 := HP.out.2.2.2.2.2; have h2 := HN.out.2.2.2.2.2; omega
      have HNR := qH (gK (fun _ => False) wA hn h64 (fun k h => h.elim))
      have HRs := qH (And.intro hLL (And.intro hca (And.intro hrs (And.intro hrl hte))))
      clear hte hO htk hLL hca hab hrs hrl hB' hlt hi
      go_wp2_with fail
      refine HNR.out.mono ?_
      rintro e w12 ⟨v12, rfl, hk12, rfl, hr12⟩
      obtain ⟨rb, erb⟩ : ∃ x, wA.heap.size = x := ⟨_, rfl⟩
      rw [erb] at hr12 ⊢
      have H12 := qH (And.intro hk12 (And.intro hr12 erb))
      clear s1 hk12 hr12 erb
      go_wp2_with fail
      go_loopw [98] (fun iv wr => AddTo w9 w12 rb hn (gs.map (lG k at_.toNat j)) i iv wr) (fun iv _ => i - (intOf iv).toNat)
      case atStart => exact ⟨0, Nat.zero_le _, rfl, rfl, qH (Kp.refl _), fun _ => False, .slice none 0 0, qH ⟨H12.out.2.1, fun q h => h.elim, fun q h => by cases h⟩⟩
      case round =>
       obtain ⟨q, hq, rfl, hz, hkp, S9, v9, hR⟩ := hrel
       have hxw : Ext w wr := (H9.out.1.trans (hex.out.trans H12.out.1)).trans' hkp.out fun i hi e => by
        have e' : i = rb := e
        have h1 := (H9.out.1.trans hex.out).size
        have := H12.out.2.2; omega
       by_cases hlt : q < i
       ·obtain ⟨⟨⟨xa, xn, xc⟩, ss⟩, hp⟩ : ∃ p, rs[q]? = some p := ⟨_, qG (by rw [HRs.out.2.2.2.1]; exact hlt)⟩
        have hLq : (gs.map (lG k at_.toNat j))[q]? = some ss := by rw [HRs.out.1, List.getElem?_map, hp]; rfl
        obtain ⟨ab, ao, eaa, c0⟩ := HRs.out.2.1 q _ (nS rs q _ hp)
        subst eaa
        have hab : ab < wA.heap.size := World.block_lt_of_cell? _ _ c0
        have herb := H12.out.2.2
        replace c0 := hkp.out.cell (H12.out.1.cell c0 id) (fun e => by have e' : ab = rb := e; omega)
        obtain ⟨hr1, hr2, hr3⟩ := HRs.out.2.2.1 _ (List.mem_of_getElem? hp)
        have hro : ∀ a, xa = some a -> a.block < wA.heap.size := fun a e => (hr3 a e).2
        have hs12 := H12.out.1.size
        have hskp := hkp.out.size
        have hxn : xn = ss.length := hr1.1
        have hAdd := nR (z := False) (hR.out.1.q) (dR hn ((gs.map (lG k at_.toNat j)).take q) [] List.Pairwise.nil) (ao := xa) (n := xn) (cap := xc) (ss := ss) ⟨⟨hxn, (hr1.2.ext H12.out.1).kp hkp.out fun a e f => by
         have h1 := hro a e
         have f' : a.block = rb := f
         omega⟩, hr2, fun a e _ => by
         have h1 := hro a e
         omega⟩ (fun a e _ ho => by
         have h1 := hro a e
         rcases ho with ho | ho
         ·have ho' : a.block = rb := ho
          omega
         ·have h2 := hR.out.2.2 _ ho
          omega) (by have := gI hn ((gs.map (lG k at_.toNat j)).take q) [] (Nat.zero_le _); omega)
        obtain ⟨RL, eRL⟩ : ∃ x, (aT hn [] ((gs.map (lG k at_.toNat j)).take q)).2 = x := ⟨_, rfl⟩
        rw [eRL] at hAdd
        obtain ⟨er, eer⟩ : ∃ er, (aL hn RL ss).2 = er := ⟨_, rfl⟩
        have HAdd := qH hAdd
        have HQ := qH (And.intro hLq (And.intro eRL (And.intro eer (And.intro hz hR.out))))
        have q1 : (q : Int) < (i : Int) := by omega
        have HX := qH (And.intro hxw (And.intro hkp.out herb))
        clear hLq hp hab hr1 hr2 hr3 hro hs12 hskp hxn hAdd eRL hz hR hxw hkp herb
        go_wp2_with fail
        refine HAdd.out.mono ?_
        rintro e w14 ⟨v14, rfl, hk14, ev14, S', iv', -, g2, g3, g4⟩
        subst ev14
        rw [eer]
        obtain ⟨fr, efr⟩ : ∃ x, (aL hn RL ss).1 = x := ⟨_, rfl⟩
        rw [efr]
        have HK := qH (show Ext w w14 /\ Kp (fun q => q = rb) w12 w14 /\ RowsAt S' w14 rb iv' hn (aX hn RL ss) /\ (∀ q, S' q -> w12.heap.size ≤ q) /\ ∀ q, iv'.ownBlock = some q -> w12.heap.size ≤ q from by
         obtain ⟨hLq, eRL, eer, hz, hRt, hS, hv⟩ := HQ.out
         obtain ⟨hxw, hkp, herb⟩ := HX.out
         have hs12 := H12.out.1.size
         have hskp := hkp.size
         have hwA := (H9.out.1.trans hex.out).size
         refine ⟨hxw.trans' hk14 fun i hi f => ?_, hkp.trans' hk14 fun i hi f => ?_, ?_, fun q h => ?_, fun q h => ?_⟩
         ·rcases f with f | f
          ·have f' : i = rb := f
           omega
          ·have := hv _ f; omega
         ·rcases f with f | f
          ·exact f
          ·have := hv _ f; omega
         ·rcases g3 with g3 | g3
          ·exact g3
          ·exact g3.1.elim
         ·rcases g2 q h with h | h
          ·exact hS q h
          ·omega
         ·rcases g4 q h with h | h
          ·exact hv q h
          ·omega)
        clear g2 g3 g4 hk14 eer efr c0
        by_cases h0 : er = 0
        ·have HF := qH h0
         subst h0
         go_wp2
         go_roundw
         case rel =>
          obtain ⟨hLq, eRL, eer, hz, hRt, hS, hv⟩ := HQ.out
          have e2 : aT hn [] ((gs.map (lG k at_.toNat j)).take (q + 1)) = (0, aX hn RL ss) := by
           rw [pA hLq, lB hz (by rw [eRL]; exact eer), eRL]
          exact ⟨q + 1, by omega, by first | rfl | (congr 1; done) | (congr 1; omega), by rw [e2], qH HK.out.2.1, S', iv', qH (by rw [e2]; exact HK.out.2.2)⟩
         case measure => simp [intOf]; omega
        ·have he0 : ((er : Int) != 0) = true := by simp; omega
         have HF := qH h0
         clear h0
         go_wp2_with fail
         go_ret2
         obtain ⟨hLq, eRL, eer, hz, hRt, hS, hv⟩ := HQ.out
         have e2 : aT hn [] (gs.map (lG k at_.toNat j)) = (er, RL) := by
          have e3 : gs.map (lG k at_.toNat j) = (gs.map (lG k at_.toNat j)).take (q + 1) ++ (gs.map (lG k at_.toNat j)).drop (q + 1) := (List.take_append_drop _ _).symm
          have e4 : aT hn [] ((gs.map (lG k at_.toNat j)).take (q + 1)) = (er, RL) := by
           rw [pA hLq, mH hz (by rw [eRL, eer]; exact HF.out), eRL, eer]
          rw [e3, pK hn _ _ _ (by rw [e4]; exact HF.out), e4]
         refine HW.out _ _ HK.out.1 (.inr (.inr ⟨HL0.out, rfl, er, RL, ?_, .inl ⟨HF.out, rfl⟩⟩))
         unfold aAa
         rw [HP.out.1, HP.out.2.2.1, if_neg (fun h => h rfl), HRs.out.2.2.2.2, if_neg (fun h => h rfl), <- HN.out.1]
         exact e2
       ·obtain rfl : q = i := by omega
        have htk : (gs.map (lG k at_.toNat j)).take q = gs.map (lG k at_.toNat j) := List.take_of_length_le (by rw [List.length_map, HP.out.2.1]; exact Nat.le_refl _)
        rw [htk] at hz hR
        have HX := qH (And.intro hxw (And.intro hz hR.out))
        clear htk hz hR hkp hxw
        go_wp2_with fail
        go_ret2
        obtain ⟨hxw, hz, hRt, hS, hv⟩ := HX.out
        have hs12 := H12.out.1.size
        have hwA := (H9.out.1.trans hex.out).size
        have herb := H12.out.2.2
        refine HW.out _ _ hxw (.inr (.inr ⟨HL0.out, rfl, 0, (aT hn [] (gs.map (lG k at_.toNat j))).2, ?_, .inr ⟨rfl, rb, v9, S9, rfl, by rw [<- HN.out.1]; exact hRt, by omega, fun q h => by have := hS q h; omega, fun q h => by have := hv q h; omega⟩⟩))
        unfold aAa
        rw [HP.out.1, HP.out.2.2.1, if_neg (fun h => h rfl), HRs.out.2.2.2.2, if_neg (fun h => h rfl), <- HN.out.1]
        exact Prod.ext hz rfl
   ·have h0 : ((fz : Int) != 0) = true := by simp; omega
    have HF := qH hfz
    clear hfz
    go_wp2_with fail
    go_ret2
    exact HW.out _ _ H9.out.1 (.inr (.inr ⟨HL0.out, rfl, fz, [], by unfold aAa; rw [HP.out.2.2.1, if_pos HF.out], .inl ⟨HF.out, rfl⟩⟩))
 ·have h0 : ((cR : Int) != 0) = true := by simp; omega
  have HCR := qH hc
  clear hc
  go_wp2_with fail
  go_ret2
  exact RetN.mk H2.out.1 (.inl ⟨by rw [HC.out]; exact HCR.out, by rw [HC.out]; rfl⟩)
def aH9 : List aE -> Nat -> Option (Nat × Int × ByteArray)
 | [], _ => none
 | t :: ts, i => if 4 ≤ t.1 then some (i, t.1, t.2.1) else aH9 ts (i + 1)
theorem yF : ∀ {ts : List aE} {i : Nat}, (ts.any fun t => decide (4 ≤ t.1)) = false -> aH9 ts i = none
 | [], _, _ => rfl
 | t :: ts, i, h => by
  rw [List.any_cons, Bool.or_eq_false_iff] at h
  unfold aH9
  rw [if_neg (of_decide_eq_false h.1)]
  exact yF h.2
theorem yE : ∀ {ts : List aE} {i j : Nat} {k : Int} {s : ByteArray}, ts[j]? = some (k, s, ()) -> 4 ≤ k -> (∀ l t, ts[l]? = some t -> 4 ≤ t.1 -> l = j) -> aH9 ts i = some (i + j, k, s)
 | [], i, j, k, s, h, _, _ => by cases h
 | t :: ts, i, j, k, s, h, hk, hu => by
  unfold aH9
  match j, h with
  | 0, h => cases h; rw [if_pos hk]; rfl
  | j + 1, h =>
   rw [if_neg (fun h4 => by have := hu 0 t rfl h4; omega), yE (i := i + 1) (j := j) h hk (fun l u hl h4 => by have := hu (l + 1) u hl h4; omega)]
   rw [Nat.add_assoc, Nat.add_comm 1]
theorem vU : ∀ {ts : List aE}, sV ts < 2 -> ∀ {i j : Nat} {t u : aE}, ts[i]? = some t -> ts[j]? = some u -> 4 ≤ t.1 -> 4 ≤ u.1 -> i = j
 | [], _, i, j, t, u, hi, _, _, _ => by cases hi
 | x :: ts, h, i, j, t, u, hi, hj, h4, h5 => by
  unfold sV at h
  rw [List.countP_cons] at h
  have key : ∀ {k : Nat} {s : aE}, ts[k]? = some s -> 4 ≤ s.1 -> 4 ≤ x.1 -> False := fun {k s} hs h6 h7 => by
   have h1 : 0 < ts.countP fun t => decide (4 ≤ t.1) := List.countP_pos_iff.2 ⟨s, List.mem_of_getElem? hs, by simpa using h6⟩
   rw [if_pos (by simpa using h7)] at h
   omega
  match i, j, hi, hj with
  | 0, 0, _, _ => rfl
  | 0, j + 1, hi, hj => cases hi; exact (key hj h5 h4).elim
  | i + 1, 0, hi, hj => cases hj; exact (key hi h4 h5).elim
  | i + 1, j + 1, hi, hj =>
   rw [vU (ts := ts) (by unfold sV; omega) hi hj h4 h5]
def dD (r : bM) (nb : Bool) (L : aC) : Nat × aC :=
 if aP r ≠ 0 then (aP r, []) else
 match aH9 r.1.2.1 0 with
 | none => if nb = true then (1, []) else aT r.1.2.1.length [] (L.map fun V => aY (aA r.2.1) V r.1.2.1)
 | some (j, k, s8) => if r.2.1 = [] then (111, []) else if nb = true then (1, []) else aAa (aA r.2.1) r.1.2.1 k (bI (fun x => decide (x = s8)) (aA r.2.1)).toNat j L
def FactsR (e m : Nat) (A : aC) (w w' : World) (v : Value) : Prop := (e ≠ 0 /\ v = .tuple #[.pointer none, .int .i64 (e : Nat)]) \/ (e = 0 /\ ∃ rb iv S, v = .tuple #[.pointer (some ⟨rb, 0, none⟩), .int .i64 0] /\ RowsAt S w' rb iv m A /\ w.heap.size ≤ rb /\ (∀ k, S k -> w.heap.size ≤ k) /\ ∀ k, iv.ownBlock = some k -> w.heap.size ≤ k)
theorem AggOut.to {r : bM} {nb : Bool} {L : aC} {w w' : World} {v : Value} (h : AggOut r nb L w w' v) : FactsR (dD r nb L).1 r.1.2.1.length (dD r nb L).2 w w' v := by
 unfold dD
 rcases h with ⟨hc, rfl⟩ | ⟨hc, j, k, s8, hj, hk, h⟩
 ·rw [if_pos hc]; exact .inl ⟨hc, rfl⟩
 ·rw [if_neg (fun h => h hc), yE (i := 0) hj hk.1 (fun l t hl h4 => vU (oS hc).2 hl hj h4 hk.1), Nat.zero_add]
  show FactsR (if _ then _ else _ : Nat × aC).1 _ (if _ then _ else _ : Nat × aC).2 _ _ _
  rcases h with ⟨h0, rfl⟩ | ⟨h0, h1, rfl⟩ | ⟨h0, h1, e, A, hM, h⟩
  ·rw [if_pos h0]; exact .inl ⟨by decide, rfl⟩
  ·rw [if_neg h0, if_pos h1]; exact .inl ⟨by decide, rfl⟩
  ·rw [if_neg h0, if_neg (by rw [h1]; decide), hM]; exact h
theorem FactsOut.to {r : bM} {nb : Bool} {L : aC} {w w' : World} {v : Value} (h : FactsOut r nb L w w' v) (hag : (r.1.2.1.any fun t => decide (4 ≤ t.1)) = false) : FactsR (dD r nb L).1 r.1.2.1.length (dD r nb L).2 w w' v := by
 unfold dD
 rw [yF hag]
 rcases h with ⟨hc, rfl⟩ | ⟨_, h, _⟩ | ⟨hc, _, h1, rfl⟩ | ⟨hc, _, h1, e, A, hM, h⟩
 ·rw [if_pos hc]; exact .inl ⟨hc, rfl⟩
 ·rw [hag] at h; cases h
 ·rw [if_neg (fun h => h hc)]
  show FactsR (if _ then _ else _ : Nat × aC).1 _ (if _ then _ else _ : Nat × aC).2 _ _ _
  rw [if_pos h1]; exact .inl ⟨by decide, rfl⟩
 ·rw [if_neg (fun h => h hc)]
  show FactsR (if _ then _ else _ : Nat × aC).1 _ (if _ then _ else _ : Nat × aC).2 _ _ _
  rw [if_neg (by rw [h1]; decide), hM]; exact h
theorem FactsR.older {e m : Nat} {A : aC} {w w1 w' : World} {v : Value} (h : FactsR e m A w1 w' v) (hs : w.heap.size ≤ w1.heap.size) : FactsR e m A w w' v := by
 rcases h with h | ⟨h, rb, iv, S, ev, h1, h2, h3, h4⟩
 ·exact .inl h
 ·exact .inr ⟨h, rb, iv, S, ev, h1, Nat.le_trans hs h2, fun k hk => Nat.le_trans hs (h3 k hk), fun k hk => Nat.le_trans hs (h4 k hk)⟩
theorem FactsR.two {e m : Nat} {A : aC} {w w' : World} {v : Value} (h : FactsR e m A w w' v) : ∃ x y, v = .tuple #[x, y] := by
 rcases h with ⟨_, h⟩ | ⟨_, rb, iv, S, h, _⟩
 ·exact ⟨_, _, h⟩
 ·exact ⟨_, _, h⟩
set_option maxHeartbeats 4000000 in
theorem vV {S : Nat -> Prop} {w : World} {p : ByteArray} {hs : List aE} {ls : List aM} {ha ba : Option Addr} {hn hcap n bcap : Nat} {G : Nat -> Prop} {o : Option Addr} {E : List Ent} {L : aC} (hhn : hn = hs.length) (hh : aU w G ha hs) (hhl : hn ≤ 1048576) (hbn : n = ls.length) (h : cD w G ba ls) (hf : Fit ls) (hnv : (aA ls).length ≤ 1048576) (hn16 : n ≤ 1048576)
 (hB : BaseV S w (.pointer o) E) (hL : jT ((p, hs, ()), ls, ()) (cE (wE ls E) ls) L) (hN : NumW w) (hsz : (hs.any fun t => decide (4 ≤ t.1)) = true -> L.length ≤ 1048576 /\ (∀ V ∈ L, ∀ s ∈ V, s.size ≤ 1048576) /\ ∀ V ∈ L, ∀ s ∈ aY (aA ls) V hs, s.size ≤ 1048576) :
 Calls Tryz.prog 33 #[dL p ha hn hcap ba n bcap, .pointer o] w (RetN w fun w' v => FactsR (dD ((p, hs, ()), ls, ()) o.isNone L).1 hs.length (dD ((p, hs, ()), ls, ()) o.isNone L).2 w w' v) := by
 cases hag : (hs.any fun t => decide (4 ≤ t.1)) with
 | true =>
  obtain ⟨z1, z2, z3⟩ := hsz hag
  refine (zZ (hcap := hcap) (bcap := bcap) (p := p) hhn hh hhl hbn h hf hnv hn16 hB hL hag hN z1 z2 z3).mono ?_
  rintro e w' ⟨v, rfl, hk, hO⟩
  exact RetN.mk hk hO.to
 | false =>
 clear hsz
 have HCh := qH (fun W (hW : Ext w W) => iL p hs ls ha hn hcap ba n bcap W G hhn (hh.ext hW) (by omega) hbn (h.ext hW) hf)
 have HOf := qH (fun W (hW : Ext w W) => rI p hs ha hn hcap W G hhn (hh.ext hW) (by omega))
 have HFa := qH (fun W (hW : Ext w W) => aHk (hcap := hcap) (bcap := bcap) (p := p) hhn (hh.ext hW) hhl hbn (h.ext hW) hf hnv hn16 (hB.ext hW) hL)
 obtain ⟨cR, ecR⟩ : ∃ c, aP ((p, hs, ()), ls, ()) = c := ⟨_, rfl⟩
 rw [ecR] at HCh
 have HC := qH (And.intro ecR hag)
 obtain ⟨gb, egb⟩ : ∃ g, w.heap.size = g := ⟨_, rfl⟩
 obtain ⟨w1, e1⟩ : ∃ x, w.alloc (.cells #[.string p, .slice ha hn hcap, .slice ba n bcap] 43) = x := ⟨_, rfl⟩
 have x1 : Ext w w1 := by rw [<- e1]; exact (Kp.refl w).alloc _
 have hB1 : Blk w1 gb [.string p, .slice ha hn hcap, .slice ba n bcap] 43 := by rw [<- e1, <- egb]; exact Blk.new w _ _
 have H1 := qH (And.intro x1 hB1)
 have r0 := hB1.c0
 have r1 := hB1.c1
 have r2 := hB1.c2
 clear hhn hh hhl hbn h hf hnv hn16 hB hL hag hN ecR x1 hB1
 go_enter Tryz.func33, Tryz.ntmps33
 go_wp2_with fail
 clear e1
 refine (HCh.out w1 H1.out.1).mono ?_
 rintro e w2 ⟨v2, rfl, hk2, rfl⟩
 have H2 := qH (And.intro (H1.out.1.trans hk2) (H1.out.2.ext hk2))
 have q0 := H2.out.2.c0
 have q1 := H2.out.2.c1
 clear hk2 r0 r1 r2
 by_cases hc : cR = 0
 ·subst hc
  go_wp2_with fail
  refine (HOf.out w2 H2.out.1).mono ?_
  rintro e w3 ⟨v3, rfl, hk3, j, b, rfl, hfa⟩
  have hb : b = false := by
   rcases hfa with ⟨_, t, h1, h2, _⟩ | ⟨h, _⟩
   ·have h3 := List.any_eq_false.1 HC.out.2 t (List.mem_of_getElem? h1)
    exact absurd (of_decide_eq_true h2).1 (fun h4 => h3 (decide_eq_true h4))
   ·exact h
  subst hb
  have H3 := qH (And.intro (H2.out.1.trans hk3) (H2.out.2.ext hk3))
  have s0 := H3.out.2.c0
  have s1 := H3.out.2.c1
  have s2 := H3.out.2.c2
  clear hk3 q0 q1 hfa
  go_wp2_with fail
  refine (HFa.out w3 H3.out.1).mono ?_
  rintro e w4 ⟨v4, rfl, hk4, hO⟩
  have HO := qH (And.intro (H3.out.1.trans hk4) ((FactsOut.to hO HC.out.2).older (w := w) H3.out.1.size))
  obtain ⟨x4, y4, rfl⟩ := HO.out.2.two
  clear hk4 hO s0 s1 s2
  go_wp2
  go_ret2
  exact RetN.mk HO.out.1 HO.out.2
 ·have h0 : ((cR : Int) != 0) = true := by simp; omega
  have HF := qH hc
  clear hc
  go_wp2_with fail
  go_ret2
  refine RetN.mk H2.out.1 ?_
  have e : (dD ((p, hs, ()), ls, ()) o.isNone L) = (cR, []) := by
   unfold dD
   rw [HC.out.1, if_pos HF.out]
  rw [e]
  exact .inl ⟨HF.out, rfl⟩
theorem nW (k : Int) (w : World) : Calls Tryz.prog 19 #[.int .i64 k] w (RetN w fun w' u => u = .int .i64 k) := by
 go_enter Tryz.func19, Tryz.ntmps19
 go_wp2
 go_ret
 exact RetN.mk (Kp.refl _) rfl
theorem yQ (s : ByteArray) (w : World) : Calls Tryz.prog 25 #[.string s] w (RetN w fun w' u => u = .agg #[.int .i64 1, .string s]) := by
 obtain ⟨g0, eg0⟩ : ∃ g, w.heap.size = g := ⟨_, rfl⟩
 obtain ⟨wb, eb⟩ : ∃ wb, (w.alloc (.cells #[.int .i64 0, .string ⟨#[]⟩] 58)) = wb := ⟨_, rfl⟩
 have hB : Blk wb (g0) [.int .i64 0, .string ⟨#[]⟩] 58 := by rw [<- eb, <- eg0]; exact Blk.new w _ _
 have HX := qH (show Ext w wb by rw [<- eb]; exact ((Kp.refl w).alloc _))
 have HB := qH (And.intro hB eg0)
 have f0 := hB.free 0
 have u0 := hB.c0
 have f1 := hB.free 1
 have u1 := hB.c1
 clear hB
 go_enter Tryz.func25, Tryz.ntmps25
 go_wp2
 obtain ⟨W, eW⟩ : ∃ x, ((wb.setCell ⟨g0, 0, none⟩ (.int .i64 1)).setCell ⟨g0, 1, none⟩ (.string s)) = x := ⟨_, rfl⟩
 have hBW : Blk W (g0) [.int .i64 1, .string s] 58 := by rw [<- eW]; exact ((HB.out.1.set 0 _).set 1 _)
 have kW : Kp (fun k => k = g0) wb W := by rw [<- eW]; exact (kSb)
 have d0 := hBW.c0
 have d1 := hBW.c1
 rw [eW]
 refine bodyPost_ret (v := .agg #[.int .i64 1, .string s]) (by simp [results, Tryz.results25, go_sem, d0, d1]) rfl ?_
 exact RetN.mk (HX.out.trans' kW fun i hi e => by have := HB.out.2; omega) rfl
theorem aGu (p : ByteArray) (a : Option Addr) (n c : Nat) (w : World) : Calls Tryz.prog 24 #[.string p, .slice a n c] w (RetN w fun w' u => u = .agg #[.int .i64 1, .string p, .slice a n c, .int .i64 0, .int .i64 0, .string ⟨#[]⟩, .int .i64 0, .string ⟨#[]⟩]) := by
 obtain ⟨g0, eg0⟩ : ∃ g, w.heap.size = g := ⟨_, rfl⟩
 obtain ⟨wb, eb⟩ : ∃ wb, (w.alloc (.cells #[.int .i64 0, .string ⟨#[]⟩, .slice none 0 0, .int .i64 0, .int .i64 0, .string ⟨#[]⟩, .int .i64 0, .string ⟨#[]⟩] 60)) = wb := ⟨_, rfl⟩
 have hB : Blk wb (g0) [.int .i64 0, .string ⟨#[]⟩, .slice none 0 0, .int .i64 0, .int .i64 0, .string ⟨#[]⟩, .int .i64 0, .string ⟨#[]⟩] 60 := by rw [<- eb, <- eg0]; exact Blk.new w _ _
 have HX := qH (show Ext w wb by rw [<- eb]; exact ((Kp.refl w).alloc _))
 have HB := qH (And.intro hB eg0)
 have f0 := hB.free 0
 have u0 := hB.c0
 have f1 := hB.free 1
 have u1 := hB.c1
 have f2 := hB.free 2
 have u2 := hB.c2
 have f3 := hB.free 3
 have u3 := hB.c3
 have f4 := hB.free 4
 have u4 := hB.c4
 have f5 := hB.free 5
 have u5 := hB.c5
 have f6 := hB.free 6
 have u6 := hB.c6
 have f7 := hB.free 7
 have u7 := hB.c7
 clear hB
 go_enter Tryz.func24, Tryz.ntmps24
 go_wp2
 obtain ⟨W, eW⟩ : ∃ x, ((((((((wb.setCell ⟨g0, 0, none⟩ (.int .i64 1)).setCell ⟨g0, 1, none⟩ (.string p)).setCell ⟨g0, 2, none⟩ (.slice a n c)).setCell ⟨g0, 3, none⟩ (.int .i64 0)).setCell ⟨g0, 4, none⟩ (.int .i64 0)).setCell ⟨g0, 5, none⟩ (.string ⟨#[]⟩)).setCell ⟨g0, 6, none⟩ (.int .i64 0)).setCell ⟨g0, 7, none⟩ (.string ⟨#[]⟩)) = x := ⟨_, rfl⟩
 have hBW : Blk W (g0) [.int .i64 1, .string p, .slice a n c, .int .i64 0, .int .i64 0, .string ⟨#[]⟩, .int .i64 0, .string ⟨#[]⟩] 60 := by rw [<- eW]; exact ((((((((HB.out.1.set 0 _).set 1 _).set 2 _).set 3 _).set 4 _).set 5 _).set 6 _).set 7 _)
 have kW : Kp (fun k => k = g0) wb W := by rw [<- eW]; exact (Kp.setCell (F := fun k => k = g0) (p := ⟨g0, 7, none⟩) (Kp.setCell (F := fun k => k = g0) (p := ⟨g0, 6, none⟩) (Kp.setCell (F := fun k => k = g0) (p := ⟨g0, 5, none⟩) (Kp.setCell (F := fun k => k = g0) (p := ⟨g0, 4, none⟩) (Kp.setCell (F := fun k => k = g0) (p := ⟨g0, 3, none⟩) (Kp.setCell (F := fun k => k = g0) (p := ⟨g0, 2, none⟩) (kSb) (fun _ => rfl) _) (fun _ => rfl) _) (fun _ => rfl) _) (fun _ => rfl) _) (fun _ => rfl) _) (fun _ => rfl) _)
 have d0 := hBW.c0
 have d1 := hBW.c1
 have d2 := hBW.c2
 have d3 := hBW.c3
 have d4 := hBW.c4
 have d5 := hBW.c5
 have d6 := hBW.c6
 have d7 := hBW.c7
 rw [eW]
 refine bodyPost_ret (v := .agg #[.int .i64 1, .string p, .slice a n c, .int .i64 0, .int .i64 0, .string ⟨#[]⟩, .int .i64 0, .string ⟨#[]⟩]) (by simp [results, Tryz.results24, go_sem, d0, d1, d2, d3, d4, d5, d6, d7]) rfl ?_
 exact RetN.mk (HX.out.trans' kW fun i hi e => by have := HB.out.2; omega) rfl
theorem aDy (ha ba : Option Addr) (hn hc n c : Nat) (w : World) : Calls Tryz.prog 28 #[.slice ha hn hc, .slice ba n c] w (RetN w fun w' u => u = dL ⟨#[116]⟩ ha hn hc ba n c) := by
 obtain ⟨g0, eg0⟩ : ∃ g, w.heap.size = g := ⟨_, rfl⟩
 obtain ⟨wb, eb⟩ : ∃ wb, (w.alloc (.cells #[.string ⟨#[]⟩, .slice none 0 0, .slice none 0 0] 43)) = wb := ⟨_, rfl⟩
 have hB : Blk wb (g0) [.string ⟨#[]⟩, .slice none 0 0, .slice none 0 0] 43 := by rw [<- eb, <- eg0]; exact Blk.new w _ _
 have HX := qH (show Ext w wb by rw [<- eb]; exact ((Kp.refl w).alloc _))
 have HB := qH (And.intro hB eg0)
 have f0 := hB.free 0
 have u0 := hB.c0
 have f1 := hB.free 1
 have u1 := hB.c1
 have f2 := hB.free 2
 have u2 := hB.c2
 clear hB
 go_enter Tryz.func28, Tryz.ntmps28
 go_wp2
 obtain ⟨W, eW⟩ : ∃ x, (((wb.setCell ⟨g0, 0, none⟩ (.string ⟨#[116]⟩)).setCell ⟨g0, 1, none⟩ (.slice ha hn hc)).setCell ⟨g0, 2, none⟩ (.slice ba n c)) = x := ⟨_, rfl⟩
 have hBW : Blk W (g0) [.string ⟨#[116]⟩, .slice ha hn hc, .slice ba n c] 43 := by rw [<- eW]; exact (((HB.out.1.set 0 _).set 1 _).set 2 _)
 have kW : Kp (fun k => k = g0) wb W := by rw [<- eW]; exact (Kp.setCell (F := fun k => k = g0) (p := ⟨g0, 2, none⟩) (kSb) (fun _ => rfl) _)
 have d0 := hBW.c0
 have d1 := hBW.c1
 have d2 := hBW.c2
 rw [eW]
 refine bodyPost_ret (v := dL ⟨#[116]⟩ ha hn hc ba n c) (by simp [results, Tryz.results28, go_sem, d0, d1, d2]) rfl ?_
 exact RetN.mk (HX.out.trans' kW fun i hi e => by have := HB.out.2; omega) rfl
def aKf (w0 : World) (ss tt : List ByteArray) (n : Nat) (iv : Value) (w : World) : Prop := ∃ i : Nat, i ≤ n /\ iv = .int .i64 i /\ Hid (Ext w0 w) /\ Hid (ss.take i = tt.take i)
set_option maxHeartbeats 1000000 in
theorem aDv (ss tt : List ByteArray) (ao bo : Option Addr) (n m acap bcap : Nat) (w : World) (hn : n = ss.length) (hm : m = tt.length) (ha : CellsAt w ao (strs ss)) (hb : CellsAt w bo (strs tt)) (hl : n ≤ 4611686018427387904) :
 Calls Tryz.prog 59 #[.slice ao n acap, .slice bo m bcap] w (RetN w fun w' v => v = .bool (decide (ss = tt))) := by
 have HN := qH (And.intro hn hm); have HA := qH ha; have HB := qH hb
 clear hn hm ha hb
 by_cases hnm : n = m
 ·subst hnm
  have q1 : ((n : Int) != (n : Int)) = false := by simp
  go_enter Tryz.func59, Tryz.ntmps59
  go_wp2
  go_loopw [5] (fun iv wr => aKf w ss tt n iv wr) (fun iv _ => n - (intOf iv).toNat)
  case atStart => exact ⟨0, Nat.zero_le _, rfl, qH (Kp.refl w), qH rfl⟩
  case round =>
   obtain ⟨i, hi, rfl, hex, heq⟩ := hrel
   by_cases hlt : i < n
   ·obtain ⟨s, hs⟩ : ∃ s, ss[i]? = some s := ⟨_, qG (by rw [<- HN.out.1]; exact hlt)⟩
    obtain ⟨t, ht⟩ : ∃ t, tt[i]? = some t := ⟨_, qG (by rw [<- HN.out.2]; exact hlt)⟩
    obtain ⟨g1, o1, e1, c0⟩ := HA.out i (.string s) (by simp [strs, hs])
    obtain ⟨g2, o2, e2, d0⟩ := HB.out i (.string t) (by simp [strs, ht])
    subst e1 e2
    replace c0 := hex.out.cell c0 id
    replace d0 := hex.out.cell d0 id
    have HST := qH (And.intro hs ht)
    clear hs ht
    by_cases hst : s = t
    ·subst hst
     have q4 := str_eq s
     go_wp2
     go_quiet (fail)
     go_wp2
     go_roundw
     case rel => exact ⟨i + 1, by omega, by first | rfl | (congr 1; done) | (congr 1; omega), qH (hex.out.drewN _), qH (by rw [List.take_add_one, List.take_add_one, HST.out.1, HST.out.2, heq.out])⟩
     case measure => simp [intOf]; omega
    ·have q4 := kU hst
     have HD := qH (show decide (ss = tt) = false from decide_eq_false fun e => hst (by have h := HST.out.1; rw [e, HST.out.2] at h; cases h; rfl))
     clear hst
     go_wp2
     go_quiet (fail)
     go_wp2
     go_ret
     exact RetN.mk (hex.out.drewN _) (by rw [HD.out]; rfl)
   ·obtain rfl : n = i := by omega
    have HD := qH (show decide (ss = tt) = true from decide_eq_true (by
     have h := heq.out
     rw [List.take_of_length_le (by rw [<- HN.out.1]; exact Nat.le_refl _), List.take_of_length_le (by rw [<- HN.out.2]; exact Nat.le_refl _)] at h
     exact h))
    go_wp2
    go_ret
    exact RetN.mk hex.out (by rw [HD.out]; rfl)
 ·have q1 : ((n : Int) != (m : Int)) = true := by simp; omega
  have q2 : ((n : Int) == (m : Int)) = false := by simp; omega
  have HD := qH (show decide (ss = tt) = false from decide_eq_false fun e => hnm (by rw [HN.out.1, HN.out.2, e]))
  clear hnm
  go_enter Tryz.func59, Tryz.ntmps59
  go_wp2
  go_ret
  exact RetN.mk (Kp.refl w) (by rw [HD.out]; rfl)
def aIh (w0 : World) (A B : aC) (n : Nat) (iv : Value) (w : World) : Prop := ∃ i : Nat, i ≤ n /\ iv = .int .i64 i /\ Hid (Ext w0 w) /\ Hid (A.take i = B.take i)
set_option maxHeartbeats 4000000 in
theorem aC7 {S S' : Nat -> Prop} {A B : aC} {ao bo : Option Addr} {n m acap bcap : Nat} {w : World} (hn : n = A.length) (hm : m = B.length) (ha : RowsIn S w ao A) (hb : RowsIn S' w bo B) (hl : n ≤ 4611686018427387904) :
 Calls Tryz.prog 22 #[.slice ao n acap, .slice bo m bcap] w (RetN w fun w' v => v = .bool (decide (A = B))) := by
 have HN := qH (And.intro hn hm); have HA := qH ha; have HB := qH hb
 clear hn hm ha hb
 by_cases hnm : n = m
 ·subst hnm
  have q1 : ((n : Int) != (n : Int)) = false := by simp
  go_enter Tryz.func22, Tryz.ntmps22
  go_wp2
  go_loopw [5] (fun iv wr => aIh w A B n iv wr) (fun iv _ => n - (intOf iv).toNat)
  case atStart => exact ⟨0, Nat.zero_le _, rfl, qH (Kp.refl w), qH rfl⟩
  case round =>
   obtain ⟨i, hi, rfl, hex, heq⟩ := hrel
   by_cases hlt : i < n
   ·obtain ⟨s, hs⟩ : ∃ s, A[i]? = some s := ⟨_, qG (by rw [<- HN.out.1]; exact hlt)⟩
    obtain ⟨t, ht⟩ : ∃ t, B[i]? = some t := ⟨_, qG (by rw [<- HN.out.2]; exact hlt)⟩
    obtain ⟨g1, o1, x1, c1, e1, d1, hc1, hl1, -⟩ := (HA.out.ext hex.out).get hs
    obtain ⟨g2, o2, x2, c2, e2, d2, hc2, hl2, -⟩ := (HB.out.ext hex.out).get ht
    subst e1 e2
    have HST := qH (And.intro hs ht)
    have HSm := qH (fun W (hW : Ext wr W) => aDv s t x1 x2 s.length t.length c1 c2 W rfl rfl (hc1.ext hW) (hc2.ext hW) (by omega))
    obtain ⟨ns, ens⟩ : ∃ k, s.length = k := ⟨_, rfl⟩
    obtain ⟨nt, ent⟩ : ∃ k, t.length = k := ⟨_, rfl⟩
    rw [ens] at d1 HSm
    rw [ent] at d2 HSm
    have i1 : (i : Int) < (n : Int) := by omega
    have HJ := qH (show ∀ w', Ext wr w' -> (fun w' : World => w'.cell? ⟨g1, o1 + i, none⟩ = some (.slice x1 ns c1) /\ w'.cell? ⟨g2, o2 + i, none⟩ = some (.slice x2 nt c2)) w' from fun w' hw => ⟨hw.cell d1 id, hw.cell d2 id⟩)
    clear hs ht hc1 hc2 hl1 hl2 ens ent d1 d2
    go_wp2
    refine bB (fun w' : World => w'.cell? ⟨g1, o1 + i, none⟩ = some (.slice x1 ns c1) /\ w'.cell? ⟨g2, o2 + i, none⟩ = some (.slice x2 nt c2)) [] (by kernel_rfl) (HJ.out _ (Kp.refl wr).drew) (fun hHeld => ?_)
    refine dF 0 ?_; try simp only [Act.put,sI,sZ,sS]
    refine dF 1 ?_; try simp only [Act.put,sI,sZ,sS]
    refine dI 2 ?_; try simp only [Act.put,sI,sZ,sS]
    refine dI 3 ?_; try simp only [Act.put,sI,sZ,sS]
    refine dF 4 ?_; try simp only [Act.put,sI,sZ,sS]
    refine dF 5 ?_; try simp only [Act.put,sI,sZ,sS]
    refine dI 6 ?_; try simp only [Act.put,sI,sZ,sS]
    refine dI 7 ?_; try simp only [Act.put,sI,sZ,sS]
    refine aF (i := 8) ?_
    refine aG (i := 8) rfl (fun K hK => ?_)
    go_simp
    (refine (HSm.out _ ((Kp.refl wr).drew)).mono ?_; rintro e w5 ⟨v, rfl, hk5, rfl⟩; have X5 := qH (show Ext wr w5 from ((Kp.refl wr).drew).trans hk5); clear hk5)
    go_wp2_with fail
    refine hK.out _ _ ?_ (fun hHeld => ?_)
    ·(try dsimp only); (exact HJ.out _ X5.out)
    clear hK K; (try simp only [Act.put,sI,sZ,sS])
    refine dF 9 ?_; try simp only [Act.put,sI,sZ,sS]
    refine aN (by kernel_rfl) ?_ _
    clear hHeld
    by_cases hst : s = t
    ·have hd : decide (s = t) = true := decide_eq_true hst
     rw [hd]
     have HE := qH hst
     clear hst hd
     go_wp2
     go_roundw
     case rel => exact ⟨i + 1, by omega, by first | rfl | (congr 1; done) | (congr 1; omega), qH (hex.out.trans X5.out), qH (by rw [List.take_add_one, List.take_add_one, HST.out.1, HST.out.2, heq.out, HE.out])⟩
     case measure => simp [intOf]; omega
    ·have hd : decide (s = t) = false := decide_eq_false hst
     rw [hd]
     have HD := qH (show decide (A = B) = false from decide_eq_false fun e => hst (by have h := HST.out.1; rw [e, HST.out.2] at h; cases h; rfl))
     clear hst hd
     go_wp2
     go_ret
     exact RetN.mk (hex.out.trans X5.out) (by rw [HD.out]; rfl)
   ·obtain rfl : n = i := by omega
    have HD := qH (show decide (A = B) = true from decide_eq_true (by
     have h := heq.out
     rw [List.take_of_length_le (by rw [<- HN.out.1]; exact Nat.le_refl _), List.take_of_length_le (by rw [<- HN.out.2]; exact Nat.le_refl _)] at h
     exact h))
    go_wp2
    go_ret
    exact RetN.mk hex.out (by rw [HD.out]; rfl)
 ·have q1 : ((n : Int) != (m : Int)) = true := by simp; omega
  have q2 : ((n : Int) == (m : Int)) = false := by simp; omega
  have HD := qH (show decide (A = B) = false from decide_eq_false fun e => hnm (by rw [HN.out.1, HN.out.2, e]))
  clear hnm
  go_enter Tryz.func22, Tryz.ntmps22
  go_wp2
  go_ret
  exact RetN.mk (Kp.refl w) (by rw [HD.out]; rfl)
def pJ (C : List bG) (ls : List aM) (j : Nat) : aC := match ls[j]? with | some l => bL C (bF l) | none => []
def cF (r : bM) (C : List bG) : aC := if aP r = 0 then aLp r (pJ C r.2.1) else []
theorem oP (E : List Ent) (s : ByteArray) : fR (bP E s) = bL (aR E) s := by
 unfold bL
 rw [pY]
 cases bP E s <;> rfl
theorem aIu (ls : List aM) (E : List Ent) : cE (wE ls E) ls = pJ (aR E) ls := by
 funext j
 unfold cE wE pJ
 by_cases hj : j < ls.length
 ·rw [if_pos hj, qG hj, oP]; rfl
 ·rw [if_neg hj, List.getElem?_eq_none (by omega)]; rfl
theorem vS (r : bM) (E : List Ent) : jT r (cE (wE r.2.1 E) r.2.1) (cF r (aR E)) := by
 rw [aIu]
 unfold cF
 exact ⟨fun hc => by rw [if_pos hc]; exact aC0 hc _, fun hc => by rw [if_neg hc]⟩
abbrev TT : Nat -> Prop := fun _ => True
def fitB (ts : List aE) : Bool := ts.all fun t => (Lit.int .i64 t.1).wf && decide (t.2.1.size ≤ 4096)
theorem aHg {t : aE} (h : ((Lit.int .i64 t.1).wf && decide (t.2.1.size ≤ 4096)) = true) : dZ t := by
 rw [Bool.and_eq_true, decide_eq_true_eq] at h
 exact ⟨h.1, by unfold maxLen; omega⟩
theorem vH {ts : List aE} (h : fitB ts = true) : ∀ t ∈ ts, dZ t := fun t ht => aHg (List.all_eq_true.1 h t ht)
def aF6 (ls : List aM) : Bool := ls.all fun l => (Lit.int .i64 l.1).wf && (decide ((bF l).size ≤ 4096) && (fitB (aB l) && ((Lit.int .i64 (iC l)).wf && fitB [leftOf l, aS l])))
theorem aBl {ls : List aM} (h : aF6 ls = true) : ∀ l ∈ ls, LitAll l := fun l hl => by
 have h1 := List.all_eq_true.1 h l hl
 simp only [Bool.and_eq_true, decide_eq_true_eq] at h1
 obtain ⟨a, b, c, d, e⟩ := h1
 have e2 := vH e
 exact ⟨a, by unfold maxLen; omega, vH c, d, e2 _ (by simp), e2 _ (by simp)⟩
theorem wO (w : World) (ts : List aE) (h : fitB ts = true) : aU (w.alloc (.cells (kS ts).toArray 58)) TT (some ⟨w.heap.size, 0, none⟩) ts :=
 aCl (s := bS) (f := lU) (rest := []) (fun x => rfl) (fun i x hi => sY (vH h x (List.mem_of_getElem? hi))) trivial (by rw [List.append_nil]; exact Blk.new w (kS ts) 58)
theorem aJb (w : World) (ls : List aM) (vs : List (Option Addr × Nat)) (hv : vs.length = ls.length) (h : aF6 ls = true) (ht : ∀ x ∈ ls.zip vs, aU w TT x.2.1 (aB x.1) /\ (aB x.1).length ≤ x.2.2 /\ x.2.2 ≤ maxLen) : cD (w.alloc (.cells ((ls.zip vs).flatMap kF).toArray 60)) TT (some ⟨w.heap.size, 0, none⟩) ls :=
 uK (rest := []) hv (aBl h) (fun x hx => ⟨(ht x hx).1.ext ((Kp.refl w).alloc _), (ht x hx).2⟩) trivial (by rw [List.append_nil]; exact Blk.new w ((ls.zip vs).flatMap kF) 60)
def aIv (l : List (Nat × List ByteArray)) : List fO := l.map fun x => ((some ⟨x.1, 0, none⟩, x.2.length, x.2.length), x.2)
theorem wX {w : World} {g : Nat} {l : List (Nat × List ByteArray)} {LL : aC} (hl : LL = l.map Prod.snd) (hB : Blk w g (eG (aIv l)) 66) (hr : ∀ x ∈ l, Blk w x.1 (strs x.2) 9 /\ x.2.length ≤ 64) : RowsIn TT w (some ⟨g, 0, none⟩) LL := by
 refine ⟨aIv l, by rw [hl]; unfold aIv; rw [List.map_map]; rfl, CellsAt.pre (rest := []) (by rw [List.append_nil]; exact hB), fun _ _ => trivial, fun p hp => ?_⟩
 obtain ⟨x, hx, rfl⟩ := List.mem_map.1 hp
 obtain ⟨h1, h2⟩ := hr x hx
 exact ⟨⟨rfl, CellsAt.pre (rest := []) (by rw [List.append_nil]; exact h1)⟩, by show x.2.length ≤ _; omega, fun _ _ => trivial⟩
def fewB (ls : List aM) : Bool := decide ((aA ls).length ≤ 1048576)
theorem aL6 {ls : List aM} (h : fewB ls = true) : (aA ls).length ≤ 1048576 := of_decide_eq_true h
def aLo (ls : List aM) : Bool := decide (ls.length ≤ 64) && ls.all fun l => decide ((aB l).length ≤ 64)
theorem aL5 {ls : List aM} (h : aLo ls = true) : Fit ls := by
 unfold aLo at h
 rw [Bool.and_eq_true, decide_eq_true_eq] at h
 exact ⟨by omega, fun l hl => by have := of_decide_eq_true (List.all_eq_true.1 h.2 l hl); omega⟩
end
section
open Go.RowKit Go.Shelf
section
variable {z z1 z2 : Prop} {S : Nat -> Prop} {w w' : World} {b b1 b2 : Nat} {iv iv1 iv2 : Value} {arity a1 a2 : Nat} {LL L1 L2 : List (List ByteArray)}
theorem yU (h1 : RowsAt S w b1 iv1 a1 L1) (h2 : RowsAt S w b2 iv2 a2 L2) :
 Calls Tryz.prog 79 #[.pointer (some ⟨b1, 0, none⟩), .pointer (some ⟨b2, 0, none⟩)] w (RetN w fun w' v => v = .bool (decide (L1 = L2))) := by
 obtain ⟨con, zs, zs2, hc, hs, hp, hd, hl, hl2⟩ := h1.two h2
 refine (tQ hs hp hd).mono ?_
 rintro e w' ⟨v, rfl, hk, r, rfl, hr⟩
 refine RetN.mk hk ?_
 have e : r = decide (L1 = L2) := by
  rw [Bool.eq_iff_iff, hr, decide_eq_true_iff, <- hl, <- hl2]
  constructor
  ·rintro ⟨h1, h2⟩
   refine List.ext_getElem (by simpa using h1) fun i hi hj => ?_
   rw [List.length_map] at hi hj
   rw [List.getElem_map, List.getElem_map]
   exact gS (h2 i _ _ (qG hi) (qG hj))
  ·intro h
   have hn := congrArg List.length h
   rw [List.length_map, List.length_map] at hn
   refine ⟨hn, fun i x y hx hy => ?_⟩
   have h3 := congrArg (fun l => l[i]?) h
   simp only [List.getElem?_map, hx, hy, Option.map_some, Option.some.injEq] at h3
   rw [h3]; exact nC _
 rw [e]
set_option maxHeartbeats 2000000 in
theorem yV (h1 : RowsQ z1 S w b1 iv1 a1 L1) (c2 : w.cell? ⟨b2, 2, none⟩ = some (.int .i64 a2)) (he : a1 = a2)
 (h2 : ∀ W, Kp (FQ z1 b1) w W -> RowsAt S W b1 iv1 a1 L1 -> RowsQ z2 S W b2 iv2 a2 L2) (h3 : ∀ W W', RowsAt S W b1 iv1 a1 L1 -> Kp (FQ z2 b2) W W' -> RowsAt S W' b2 iv2 a2 L2 -> RowsAt S W' b1 iv1 a1 L1) :
 Calls Tryz.prog 40 #[.pointer (some ⟨b1, 0, none⟩), .pointer (some ⟨b2, 0, none⟩)] w
  (RetF (fun k => FQ z1 b1 k \/ FQ z2 b2 k) w fun w' v => v = .bool (decide (L1 = L2)) /\ RowsAt S w' b1 iv1 a1 L1 /\ RowsAt S w' b2 iv2 a2 L2) := by
 have t : ((a1 : Int) == (a2 : Int)) = true := by simp [he]
 have c1 := h1.ar
 have HS1 := qH (fun W (hW : Ext w W) => fX (h1.ext hW))
 have H2 := qH h2
 have H1 := qH h3
 clear h1 h2 h3
 go_enter Tryz.func40, Tryz.ntmps40
 go_wp2
 refine wp_region_held_drew (S := fun w' => w'.cell? ⟨b1, 2, none⟩ = some (.int .i64 a1) /\ w'.cell? ⟨b2, 2, none⟩ = some (.int .i64 a2)) (by kernel_rfl) ⟨by assumption, by assumption⟩ (fun hHeld => ?_)
 (refine bU (i := 0) (v := ?_) rfl ?_ ?_; rotate_left; (intro w hSw; (try dsimp only at hSw); go_simp; try with_reducible rfl)); (try simp only [Act.put,sI,sZ,sS])
 (refine bU (i := 1) (v := ?_) rfl ?_ ?_; rotate_left; (intro w hSw; (try dsimp only at hSw); go_simp; try with_reducible rfl)); (try simp only [Act.put,sI,sZ,sS])
 (refine bU (i := 2) (v := ?_) rfl ?_ ?_; rotate_left; (intro w hSw; (try dsimp only at hSw); go_simp; try with_reducible rfl)); (try simp only [Act.put,sI,sZ,sS])
 (first | (refine bU (i := 3) (v := ?_) rfl ?_ ?_; rotate_left; (intro w hSw; (try dsimp only at hSw); go_simp; try with_reducible rfl)) | (refine cI (i := 3) rfl ?_)); (try simp only [Act.put,sI,sZ,sS])
 (first | (refine bU (i := 4) (v := ?_) rfl ?_ ?_; rotate_left; (intro w hSw; (try dsimp only at hSw); go_simp; try with_reducible rfl)) | (refine cI (i := 4) rfl ?_)); (try simp only [Act.put,sI,sZ,sS])
 (refine bU (i := 5) (v := ?_) rfl ?_ ?_; rotate_left; (intro w hSw; (try dsimp only at hSw); go_simp; try with_reducible rfl)); (try simp only [Act.put,sI,sZ,sS])
 (refine bU (i := 6) (v := ?_) rfl ?_ ?_; rotate_left; (intro w hSw; (try dsimp only at hSw); go_simp; try with_reducible rfl)); (try simp only [Act.put,sI,sZ,sS])
 (first | (refine bU (i := 7) (v := ?_) rfl ?_ ?_; rotate_left; (intro w hSw; (try dsimp only at hSw); go_simp; try with_reducible rfl)) | (refine cI (i := 7) rfl ?_)); (try simp only [Act.put,sI,sZ,sS])
 (first | (refine bU (i := 8) (v := ?_) rfl ?_ ?_; rotate_left; (intro w hSw; (try dsimp only at hSw); go_simp; try with_reducible rfl)) | (refine cI (i := 8) rfl ?_)); (try simp only [Act.put,sI,sZ,sS])
 (first | (refine bU (i := 9) (v := ?_) rfl ?_ ?_; rotate_left; (intro w hSw; (try dsimp only at hSw); go_simp; try with_reducible rfl)) | (refine cI (i := 9) rfl ?_)); (try simp only [Act.put,sI,sZ,sS])
 (first | (refine bU (i := 10) (v := ?_) rfl ?_ ?_; rotate_left; (intro w hSw; (try dsimp only at hSw); go_simp; try with_reducible rfl)) | (refine cI (i := 10) rfl ?_)); (try simp only [Act.put,sI,sZ,sS])
 (first | (refine bU (i := 11) (v := ?_) rfl ?_ ?_; rotate_left; (intro w hSw; (try dsimp only at hSw); go_simp; try with_reducible rfl)) | (refine cI (i := 11) rfl ?_)); (try simp only [Act.put,sI,sZ,sS])
 (first | (refine bU (i := 12) (v := ?_) rfl ?_ ?_; rotate_left; (intro w hSw; (try dsimp only at hSw); go_simp; try with_reducible rfl)) | (refine cI (i := 12) rfl ?_)); (try simp only [Act.put,sI,sZ,sS])
 (first | (refine bU (i := 13) (v := ?_) rfl ?_ ?_; rotate_left; (intro w hSw; (try dsimp only at hSw); go_simp; try with_reducible rfl)) | (refine cI (i := 13) rfl ?_)); (try simp only [Act.put,sI,sZ,sS])
 (first | (refine bU (i := 14) (v := ?_) rfl ?_ ?_; rotate_left; (intro w hSw; (try dsimp only at hSw); go_simp; try with_reducible rfl)) | (refine cI (i := 14) rfl ?_)); (try simp only [Act.put,sI,sZ,sS])
 (first | (refine bU (i := 15) (v := ?_) rfl ?_ ?_; rotate_left; (intro w hSw; (try dsimp only at hSw); go_simp; try with_reducible rfl)) | (refine cI (i := 15) rfl ?_)); (try simp only [Act.put,sI,sZ,sS])
 (refine bU (i := 16) (v := ?_) rfl ?_ ?_; rotate_left; (intro w hSw; (try dsimp only at hSw); go_simp; try with_reducible rfl)); (try simp only [Act.put,sI,sZ,sS])
 (refine bU (i := 17) (v := ?_) rfl ?_ ?_; rotate_left; (intro w hSw; (try dsimp only at hSw); go_simp; try with_reducible rfl)); (try simp only [Act.put,sI,sZ,sS])
 (first | (refine bU (i := 18) (v := ?_) rfl ?_ ?_; rotate_left; (intro w hSw; (try dsimp only at hSw); go_simp; try with_reducible rfl)) | (refine cI (i := 18) rfl ?_)); (try simp only [Act.put,sI,sZ,sS])
 (first | (refine bU (i := 20) (v := ?_) rfl ?_ ?_; rotate_left; (intro w hSw; (try dsimp only at hSw); go_simp; try with_reducible rfl)) | (refine cI (i := 20) rfl ?_)); (try simp only [Act.put,sI,sZ,sS])
 (first | (refine cI (i := 19) rfl ?_) | (refine qM (i := 19) rfl (fun K hK => ?_); go_simp; ((with_reducible refine (HS1.out _ ?_).mono ?_); exact (Kp.refl w).drew; rintro e w1 ⟨v1, rfl, hk1, rfl, hr1⟩; have hk1' : Kp (FQ z1 b1) w w1 := (show Kp (FQ z1 b1) w _ from (Kp.refl w).drew).trans hk1; have hq2 := H2.out _ hk1' hr1; have d1 := (hr1.q (z := False)).ar; have d2 := hq2.ar; have HK1 := qH (And.intro hk1' hr1); have HS2 := qH (fX hq2); clear hk1 hk1' hr1 hq2); go_wp2_with fail; refine hK.out _ _ ?_ (fun hHeld => ?_); (try dsimp only); (exact ⟨by assumption, by assumption⟩); clear hK K)); (try simp only [Act.put,sI,sZ,sS])
 (first | (refine cI (i := 21) rfl ?_) | (refine qM (i := 21) rfl (fun K hK => ?_); go_simp; (refine HS2.out.mono ?_; rintro e w2 ⟨v2, rfl, hk2, rfl, hr2⟩; have hr1' := H1.out _ _ HK1.out.2 hk2 hr2; have e1 := (hr1'.q (z := False)).ar; have e2 := (hr2.q (z := False)).ar; have HK2 := qH (And.intro hk2 (And.intro hr1' hr2)); have HFF := qH (yU hr1' hr2); clear hk2 hr1' hr2); go_wp2_with fail; refine hK.out _ _ ?_ (fun hHeld => ?_); (try dsimp only); (exact ⟨by assumption, by assumption⟩); clear hK K)); (try simp only [Act.put,sI,sZ,sS])
 (first | (refine cI (i := 22) rfl ?_) | (refine qM (i := 22) rfl (fun K hK => ?_); go_simp; (refine HFF.out.mono ?_; rintro e w3 ⟨v3, rfl, hk3, rfl⟩; have f1 := hk3.cell e1 id; have f2 := hk3.cell e2 id; have HK3 := qH hk3; clear hk3); go_wp2_with fail; refine hK.out _ _ ?_ (fun hHeld => ?_); (try dsimp only); (exact ⟨by assumption, by assumption⟩); clear hK K)); (try simp only [Act.put,sI,sZ,sS])
 (refine bU (i := 23) (v := ?_) rfl ?_ ?_; rotate_left; (intro w hSw; (try dsimp only at hSw); go_simp; try with_reducible rfl)); (try simp only [Act.put,sI,sZ,sS])
 (refine bU (i := 24) (v := ?_) rfl ?_ ?_; rotate_left; (intro w hSw; (try dsimp only at hSw); go_simp; try with_reducible rfl)); (try simp only [Act.put,sI,sZ,sS])
 refine wpAnyH_done (by kernel_rfl) ?_ _
 go_wp2
 go_ret
 obtain ⟨hk2, hr1, hr2⟩ := HK2.out
 exact RetF.mk (((HK1.out.1.mono fun _ _ h => .inl h).trans (hk2.mono fun _ _ h => .inr h)).ext HK3.out) ⟨rfl, hr1.ext HK3.out, hr2.ext HK3.out⟩
theorem aDz (h1 : RowsQ z1 S w b1 iv1 arity L1) (h2 : RowsQ z2 S w b2 iv2 arity L2) (hap : ∀ k, bN b1 iv1 k -> ¬ bN b2 iv2 k) :
 Calls Tryz.prog 40 #[.pointer (some ⟨b1, 0, none⟩), .pointer (some ⟨b2, 0, none⟩)] w
  (RetF (fun k => FQ z1 b1 k \/ FQ z2 b2 k) w fun w' v => v = .bool (decide (L1 = L2)) /\ RowsAt S w' b1 iv1 arity L1 /\ RowsAt S w' b2 iv2 arity L2) :=
 yV h1 h2.ar rfl (fun W hk _ => h2.kp hk (fun k hk ho => hap k (FQ.owns k hk) ho) (fun k hk hS => h1.notS k (FQ.owns k hk) hS))
  (fun W W' hr hk _ => hr.move hk (fun k hk ho => hap k ho (FQ.owns k hk)) (fun k hk hS => h2.notS k (FQ.owns k hk) hS) (fun _ h => h) (fun k hS => Nat.lt_of_lt_of_le (hr.inS k hS) hk.size) hr.notS)
theorem rS (a : Int) (w : World) (ha : a < 0 \/ 64 < a) : Calls Tryz.prog 68 #[.int .i64 a] w (Ret (.tuple #[.pointer none, .int .i64 2]) w) := by
 by_cases h0 : a < 0
 ·have t1 : decide (a < 0) = true := by simp [h0]
  go_enter Tryz.func68, Tryz.ntmps68
  go_wp2
  go_ret2
  exact Ret.mk rfl
 ·have h1 : 64 < a := by omega
  have t1 : decide (a < 0) = false := by simp; omega
  have t2 : decide (a > 64) = true := by simp; omega
  have t3 : decide (64 < a) = true := by simp; omega
  go_enter Tryz.func68, Tryz.ntmps68
  go_wp2
  go_ret2
  exact Ret.mk rfl
end
end
section
open Go.RowKit
theorem aIc {C : List bG} {s : ByteArray} (row : List ByteArray) (h : cB s = false) : eY C s row = (false, 32) := if_pos h
theorem aId {C : List bG} {s : ByteArray} {row : List ByteArray} (h : cB s = true) (hg : dG C s = none) (hl : 64 < row.length) : eY C s row = (false, 30) := by
 unfold eY
 rw [if_neg (by rw [h]; simp), if_pos (by unfold rG; rw [hg]; exact decide_eq_false (by omega))]
theorem aFl {C : List bG} {s : ByteArray} {row : List ByteArray} {v : Nat × aC} (h : cB s = true) (hg : dG C s = some v) (hl : v.1 ≠ row.length) : eY C s row = (false, 30) := by
 unfold eY
 rw [if_neg (by rw [h]; simp), if_pos (by unfold rG; rw [hg]; exact decide_eq_false hl)]
theorem yG {C : List bG} {s : ByteArray} {row : List ByteArray} (h : cB s = true) (hg : rG C s row = true) (ht : bW row = false) : eY C s row = (false, 31) := by
 unfold eY
 rw [if_neg (by rw [h]; simp), if_neg (by rw [hg]; simp), if_pos ht]
theorem yH {C : List bG} {s : ByteArray} {row : List ByteArray} (h : cB s = true) (hg : rG C s row = true) (ht : bW row = true) (hm : 262144 ≤ bH C) (hi : bA aD (bL C s) row = false) : eY C s row = (false, 4) := by
 unfold eY
 rw [if_neg (by rw [h]; simp), if_neg (by rw [hg]; simp), if_neg (by rw [ht]; simp), if_pos ⟨hm, hi⟩]
theorem nZ {C : List bG} {s : ByteArray} {row : List ByteArray} (h : cB s = true) (hg : rG C s row = true) (ht : bW row = true) (hm : ¬ (262144 ≤ bH C /\ bA aD (bL C s) row = false)) :
 eY C s row = if 65536 ≤ (bL C s).length /\ bA aD (bL C s) row = false then (false, 4) else (!bA aD (bL C s) row, 0) := by
 unfold eY
 rw [if_neg (by rw [h]; simp), if_neg (by rw [hg]; simp), if_neg (by rw [ht]; simp), if_neg hm]
theorem qD {C : List bG} {s : ByteArray} {row : List ByteArray} {v : Nat × aC} (hg : dG C s = some v) (h : v.1 = row.length) : rG C s row = true := by unfold rG; rw [hg]; exact decide_eq_true h
theorem zY {C : List bG} {s : ByteArray} {row : List ByteArray} (hg : dG C s = none) (h : row.length ≤ 64) : rG C s row = true := by unfold rG; rw [hg]; exact decide_eq_true h
theorem aDc {C : List bG} {s : ByteArray} {row : List ByteArray} (h : (eY C s row).2 ≠ 0) : rJ C s row = C := if_neg h
section
variable {S S' : Nat -> Prop} {w w1 w2 w3 w4 : World} {bb r : Nat} {E : List Ent} {s : ByteArray} {ss : List ByteArray} {e : Ent} {iv' : Value}
def BaseAdded (S : Nat -> Prop) (w : World) (bb r : Nat) (E : List Ent) (s : ByteArray) (ss : List ByteArray) (w' : World) (v : Value) : Prop :=
 v = .tuple #[.bool (eY (aR E) s ss).1, .int .i64 ((eY (aR E) s ss).2 : Nat)] /\ ∃ S' E', (∀ k, S k -> S' k) /\ (∀ k, S' k -> S k \/ w.heap.size ≤ k) /\ BaseAt S' w' bb r E' /\ aR E' = rJ (aR E) s ss /\ ∀ k, iG bb r E' k -> iG bb r E k \/ w.heap.size ≤ k
theorem BaseAdded.same (h : BaseAt S w bb r E) (hk : Ext w w1) {n : Nat} (hR : eY (aR E) s ss = (false, n)) (hn : n ≠ 0) {v : Value} (hv : v = .tuple #[.bool false, .int .i64 (n : Nat)]) : BaseAdded S w bb r E s ss w1 v :=
 ⟨by rw [hv, hR], S, E, fun _ h => h, fun _ h => .inl h, h.ext hk, (aDc (by rw [hR]; exact hn)).symm, fun _ h => .inl h⟩
theorem uA {pre post : List Ent} (hiv : ∀ k, iv'.ownBlock = some k -> e.iv.ownBlock = some k \/ w.heap.size ≤ k) (LL' : List (List ByteArray)) : ∀ k, iG bb r (pre ++ { e with iv := iv', LL := LL' } :: post) k -> iG bb r (pre ++ e :: post) k \/ w.heap.size ≤ k := by
 rintro k (h | h | ⟨f, hf, ho⟩)
 ·exact .inl (.inl h)
 ·exact .inl (.inr (.inl h))
 ·rcases List.mem_append.1 hf with hf | hf
  ·exact .inl (.inr (.inr ⟨f, List.mem_append_left _ hf, ho⟩))
  ·rcases List.mem_cons.1 hf with rfl | hf
   ·rcases ho with ho | ho
    ·exact .inl (.inr (.inr ⟨e, List.mem_append_right _ List.mem_cons_self, .inl ho⟩))
    ·rcases hiv k ho with h2 | h2
     ·exact .inl (.inr (.inr ⟨e, List.mem_append_right _ List.mem_cons_self, .inr h2⟩))
     ·exact .inr h2
   ·exact .inl (.inr (.inr ⟨f, List.mem_append_right _ (List.mem_cons_of_mem _ hf), ho⟩))
theorem nE (h : BaseAt S w bb r E) (he : bP E s = some e) (hx : Ext w w2) (hk : Kp e.own w2 w3) : MapIs w3 r (gQ E) := (h.map.ext hx).kp hk fun ho => (h.off e (cY he).1 r ho).2 rfl
theorem gT (h : BaseAt S w bb r E) (he : bP E s = some e) (hx : Ext w w2) (hk : Kp e.own w2 w3) : Blk w3 bb [.map (some r), .int .i64 (bH (aR E) : Nat)] 153 := (h.blk.ext hx).kp hk fun ho => (h.off e (cY he).1 bb ho).1 rfl
theorem qC {LL : List (List ByteArray)} (h : BaseAt S w bb r E) (he : bP E s = some e) (hf : cB s = true /\ e.ar = ss.length /\ bW ss = true /\ e.LL = LL /\ ¬ (262144 ≤ bH (aR E) /\ bA aD LL ss = false)) (hx : Ext w w2) (hk : Kp e.own w2 w3) (hss : ∀ k, S k -> S' k) (hsn : ∀ k, S' k -> S k \/ w2.heap.size ≤ k)
 (hr : RowsAt S' w3 e.b iv' e.ar (aX e.ar LL ss)) (hiv : ∀ k, iv'.ownBlock = some k -> e.iv.ownBlock = some k \/ w2.heap.size ≤ k) (h0 : aL e.ar LL ss = if 65536 ≤ LL.length /\ bA aD LL ss = false then (false, 4) else (!bA aD LL ss, 0)) (h4 : 65536 ≤ LL.length /\ bA aD LL ss = false) :
 RetF (iG bb r E) w (BaseAdded S w bb r E s ss) (.returned (.tuple #[.bool false, .int .i64 4])) w3 := by
 obtain ⟨f1, f2, f3, f4, f5⟩ := hf
 obtain ⟨g1, g2⟩ := dT he
 have hL : aX e.ar LL ss = LL := by unfold aX; rw [h0, if_pos h4]; rfl
 rw [hL] at hr
 have hR : eY (aR E) s ss = (false, 4) := by
  rw [nZ f1 (qD g1 f2) f3 (by rw [g2, f4]; exact f5), g2, f4, if_pos h4]
 have hC : rJ (aR E) s ss = aR E := aDc (by rw [hR]; decide)
 obtain ⟨pre, post, rfl⟩ := jQ he
 have hem : e ∈ pre ++ e :: post := List.mem_append_right _ List.mem_cons_self
 have hkw : Kp e.own w w3 := (Ext.kp hx).trans hk
 have hz := hx.size
 have hs2 : ∀ k, S' k -> S k \/ w.heap.size ≤ k := fun k hk' => (hsn k hk').imp id fun q => Nat.le_trans hz q
 have hiv2 : ∀ k, iv'.ownBlock = some k -> e.iv.ownBlock = some k \/ w.heap.size ≤ k := fun k hk' => (hiv k hk').imp id fun q => Nat.le_trans hz q
 have hsame : aR (pre ++ { e with iv := iv', LL := LL } :: post) = aR (pre ++ e :: post) := by
  rw [<- f4]; simp [aR, Ent.cnt]
 refine RetF.mk (hkw.mono fun k _ ho => .inr (.inr ⟨e, hem, ho⟩)) ⟨by rw [hR]; rfl, S', pre ++ { e with iv := iv', LL := LL } :: post, hss, hs2, ?_, by rw [hC, hsame], uA hiv2 LL⟩
 exact h.turn hkw hss hs2 hr hiv2 (Kp.refl _) (nE h he hx hk) (gT h he hx hk) (by rw [hsame]) (by rw [hsame]; exact h.ok)
theorem sE {LL : List (List ByteArray)} (h : BaseAt S w bb r E) (he : bP E s = some e) (hf : cB s = true /\ e.ar = ss.length /\ bW ss = true /\ e.LL = LL /\ ¬ (262144 ≤ bH (aR E) /\ bA aD LL ss = false)) (hx : Ext w w2) (hk : Kp e.own w2 w3) (hss : ∀ k, S k -> S' k) (hsn : ∀ k, S' k -> S k \/ w2.heap.size ≤ k)
 (hr : RowsAt S' w3 e.b iv' e.ar (aX e.ar LL ss)) (hiv : ∀ k, iv'.ownBlock = some k -> e.iv.ownBlock = some k \/ w2.heap.size ≤ k) (h0 : aL e.ar LL ss = if 65536 ≤ LL.length /\ bA aD LL ss = false then (false, 4) else (!bA aD LL ss, 0)) (hi : bA aD LL ss = true)
 (hk4 : Kp (fun k => k = r) w3 w4) (hm4 : MapIs w4 r (lC (gQ E) s (.pointer (some ⟨e.b, 0, none⟩)))) : RetF (iG bb r E) w (BaseAdded S w bb r E s ss) (.returned (.tuple #[.bool false, .int .i64 0])) w4 := by
 obtain ⟨f1, f2, f3, f4, f5⟩ := hf
 obtain ⟨g1, g2⟩ := dT he
 have hn4 : ¬ (65536 ≤ LL.length /\ bA aD LL ss = false) := fun k => by rw [hi] at k; cases k.2
 have hadd : cQ aD LL ss = LL := by unfold cQ; rw [if_pos hi]
 have hL : aX e.ar LL ss = LL := by unfold aX; rw [h0, if_neg hn4]; exact hadd
 rw [hL] at hr
 have hR : eY (aR E) s ss = (false, 0) := by
  rw [nZ f1 (qD g1 f2) f3 (by rw [g2, f4]; exact f5), g2, f4, if_neg hn4, hi]; rfl
 have hnd := h.ok.nodup
 rw [show lC (gQ E) s (.pointer (some ⟨e.b, 0, none⟩)) = gQ E from aCk he (by rw [vK]; exact hnd)] at hm4
 obtain ⟨pre, post, rfl⟩ := jQ he
 have hem : e ∈ pre ++ e :: post := List.mem_append_right _ List.mem_cons_self
 have hkw : Kp e.own w w3 := (Ext.kp hx).trans hk
 have hz := hx.size
 have hs2 : ∀ k, S' k -> S k \/ w.heap.size ≤ k := fun k hk' => (hsn k hk').imp id fun q => Nat.le_trans hz q
 have hiv2 : ∀ k, iv'.ownBlock = some k -> e.iv.ownBlock = some k \/ w.heap.size ≤ k := fun k hk' => (hiv k hk').imp id fun q => Nat.le_trans hz q
 have hsame : aR (pre ++ { e with iv := iv', LL := LL } :: post) = aR (pre ++ e :: post) := by
  rw [<- f4]; simp [aR, Ent.cnt]
 have hC : rJ (aR (pre ++ e :: post)) s ss = aR (pre ++ { e with iv := iv', LL := LL } :: post) := by
  unfold rJ
  rw [if_pos (by rw [hR]), g2, f4, hadd, <- f2]
  exact aCr he hnd iv' LL
 refine RetF.mk ((hkw.mono fun k _ ho => .inr (.inr ⟨e, hem, ho⟩)).trans (hk4.mono fun k _ ho => .inr (.inl ho))) ⟨by rw [hR]; rfl, S', pre ++ { e with iv := iv', LL := LL } :: post, hss, hs2, ?_, hC.symm, uA hiv2 LL⟩
 exact h.turn hkw hss hs2 hr hiv2 (hk4.mono fun k _ ho => .inr ho) hm4 ((gT h he hx hk).kp hk4 h.ne) (by rw [hsame]) (by rw [hsame]; exact h.ok)
theorem sF {LL : List (List ByteArray)} {n : Nat} (h : BaseAt S w bb r E) (he : bP E s = some e) (hf : cB s = true /\ e.ar = ss.length /\ bW ss = true /\ e.LL = LL /\ ¬ (262144 ≤ bH (aR E) /\ bA aD LL ss = false)) (hx : Ext w w2) (hk : Kp e.own w2 w3) (hss : ∀ k, S k -> S' k) (hsn : ∀ k, S' k -> S k \/ w2.heap.size ≤ k)
 (hr : RowsAt S' w3 e.b iv' e.ar (aX e.ar LL ss)) (hiv : ∀ k, iv'.ownBlock = some k -> e.iv.ownBlock = some k \/ w2.heap.size ≤ k) (h0 : aL e.ar LL ss = if 65536 ≤ LL.length /\ bA aD LL ss = false then (false, 4) else (!bA aD LL ss, 0)) (hi : bA aD LL ss = false) (hn4 : ¬ (65536 ≤ LL.length /\ bA aD LL ss = false))
 (hk4 : Kp (fun k => k = r) w3 w4) (hm4 : MapIs w4 r (lC (gQ E) s (.pointer (some ⟨e.b, 0, none⟩)))) (en : bH (aR E) = n) : RetF (iG bb r E) w (BaseAdded S w bb r E s ss) (.returned (.tuple #[.bool true, .int .i64 0])) (w4.setCell ⟨bb, 1, none⟩ (.int .i64 ((n : Int) + 1))) := by
 obtain ⟨f1, f2, f3, f4, f5⟩ := hf
 obtain ⟨g1, g2⟩ := dT he
 have hL : aX e.ar LL ss = cQ aD LL ss := by unfold aX; rw [h0, if_neg hn4]; rfl
 rw [hL] at hr
 have hR : eY (aR E) s ss = (true, 0) := by
  rw [nZ f1 (qD g1 f2) f3 (by rw [g2, f4]; exact f5), g2, f4, if_neg hn4, hi]; rfl
 have hnd := h.ok.nodup
 rw [show lC (gQ E) s (.pointer (some ⟨e.b, 0, none⟩)) = gQ E from aCk he (by rw [vK]; exact hnd)] at hm4
 obtain ⟨pre, post, rfl⟩ := jQ he
 have hem : e ∈ pre ++ e :: post := List.mem_append_right _ List.mem_cons_self
 have hkw : Kp e.own w w3 := (Ext.kp hx).trans hk
 have hz := hx.size
 have hs2 : ∀ k, S' k -> S k \/ w.heap.size ≤ k := fun k hk' => (hsn k hk').imp id fun q => Nat.le_trans hz q
 have hiv2 : ∀ k, iv'.ownBlock = some k -> e.iv.ownBlock = some k \/ w.heap.size ≤ k := fun k hk' => (hiv k hk').imp id fun q => Nat.le_trans hz q
 have hset := aCr he hnd iv' (cQ aD LL ss)
 have hC : rJ (aR (pre ++ e :: post)) s ss = aR (pre ++ { e with iv := iv', LL := cQ aD LL ss } :: post) := by
  unfold rJ
  rw [if_pos (by rw [hR]), g2, f4, <- f2]
  exact hset
 have htot : n + 1 = bH (aR (pre ++ { e with iv := iv', LL := cQ aD LL ss } :: post)) := by
  have h1 := wN hnd (s := s) (v := (e.ar, cQ aD LL ss))
  rw [hset, g2, f4] at h1
  have h2 := nI (c := aD) LL ss
  rw [hi] at h2
  simp only [Bool.false_eq_true, if_false] at h2
  have h3 : (e.ar, cQ aD LL ss).2.length = LL.length + 1 := h2
  omega
 have kf : Kp (fun k => k = bb \/ k = r) w3 (w4.setCell ⟨bb, 1, none⟩ (.int .i64 ((n : Int) + 1))) := (hk4.mono fun k _ ho => .inr ho).trans (Kp.setCell (F := fun k => k = bb \/ k = r) (Kp.refl w4) (fun _ => .inl rfl) _)
 have hb5 : Blk (w4.setCell ⟨bb, 1, none⟩ (.int .i64 ((n : Int) + 1))) bb [.map (some r), .int .i64 ((n + 1 : Nat) : Int)] 153 := by
  have h1 := ((gT h he hx hk).kp hk4 h.ne).set 1 (.int .i64 ((n : Int) + 1))
  exact h1
 have hm5 := hm4.kp (Kp.setCell (F := fun k => k = bb) (Kp.refl w4) (p := ⟨bb, 1, none⟩) (fun _ => rfl) (.int .i64 ((n : Int) + 1))) (fun e2 => h.ne e2.symm)
 refine RetF.mk ((hkw.mono fun k _ ho => .inr (.inr ⟨e, hem, ho⟩)).trans (kf.mono fun k _ ho => ho.elim .inl fun h => .inr (.inl h))) ⟨by rw [hR]; rfl, S', pre ++ { e with iv := iv', LL := cQ aD LL ss } :: post, hss, hs2, ?_, hC.symm, uA hiv2 _⟩
 exact h.turn hkw hss hs2 hr hiv2 kf hm5 hb5 htot (by rw [<- hC]; exact aI6 h.ok s ss)
theorem aC1 {n : Nat} {b : Nat} (h : BaseAt S w bb r E) (he : bP E s = none) (hf : cB s = true /\ ss.length ≤ 64 /\ bW ss = true /\ ¬ 262144 ≤ bH (aR E)) (hx : Ext w w3) (hss : ∀ k, S k -> S' k) (hsn : ∀ k, S' k -> S k \/ w.heap.size ≤ k)
 (hr : RowsAt S' w3 b iv' ss.length [ss]) (hb : w.heap.size ≤ b) (hiv : ∀ k, iv'.ownBlock = some k -> w.heap.size ≤ k)
 (hk4 : Kp (fun k => k = r) w3 w4) (hm4 : MapIs w4 r (lC (gQ E) s (.pointer (some ⟨b, 0, none⟩)))) (en : bH (aR E) = n) : RetF (iG bb r E) w (BaseAdded S w bb r E s ss) (.returned (.tuple #[.bool true, .int .i64 0])) (w4.setCell ⟨bb, 1, none⟩ (.int .i64 ((n : Int) + 1))) := by
 obtain ⟨f1, f2, f3, f4⟩ := hf
 obtain ⟨g1, g2⟩ := eV he
 have hR : eY (aR E) s ss = (true, 0) := by
  rw [nZ f1 (zY g1 f2) f3 (fun k => f4 k.1), g2, if_neg (by simp)]; rfl
 have hone : cQ aD [] ss = [ss] := by simp [cQ, bA, below]
 have hpush := aHw he b iv' ss.length [ss]
 have hC : rJ (aR E) s ss = aR (E ++ [{ name := s, b := b, iv := iv', ar := ss.length, LL := [ss] }]) := by
  unfold rJ
  rw [if_pos (by rw [hR]), g2, hone]
  exact hpush
 have htot : n + 1 = bH (aR (E ++ [{ name := s, b := b, iv := iv', ar := ss.length, LL := [ss] }])) := by
  rw [<- en]
  simp [bH, aR, Ent.cnt]
 rw [xT he b iv' ss.length [ss]] at hm4
 have kf : Kp (fun k => k = bb \/ k = r) w3 (w4.setCell ⟨bb, 1, none⟩ (.int .i64 ((n : Int) + 1))) := (hk4.mono fun k _ ho => .inr ho).trans (Kp.setCell (F := fun k => k = bb \/ k = r) (Kp.refl w4) (fun _ => .inl rfl) _)
 have hb5 : Blk (w4.setCell ⟨bb, 1, none⟩ (.int .i64 ((n : Int) + 1))) bb [.map (some r), .int .i64 ((n + 1 : Nat) : Int)] 153 := ((h.blk.ext hx).kp hk4 h.ne).set 1 (.int .i64 ((n : Int) + 1))
 have hm5 := hm4.kp (Kp.setCell (F := fun k => k = bb) (Kp.refl w4) (p := ⟨bb, 1, none⟩) (fun _ => rfl) (.int .i64 ((n : Int) + 1))) (fun e2 => h.ne e2.symm)
 have ho : ∀ k, bN b iv' k -> w.heap.size ≤ k := fun k ho => by
  rcases ho with rfl | ho
  ·exact hb
  ·exact hiv k ho
 refine RetF.mk ((Ext.kp hx).trans (kf.mono fun k _ ho => ho.elim .inl fun h => .inr (.inl h))) ⟨by rw [hR]; rfl, S', E ++ [{ name := s, b := b, iv := iv', ar := ss.length, LL := [ss] }], hss, hsn, ?_, hC.symm, ?_⟩
 ·exact h.push (e := { name := s, b := b, iv := iv', ar := ss.length, LL := [ss] }) hx hss hsn hr ho kf hb5 hm5 htot (by rw [<- hC]; exact aI6 h.ok s ss)
 ·rintro k (h1 | h1 | ⟨f, hf, ho2⟩)
  ·exact .inl (.inl h1)
  ·exact .inl (.inr (.inl h1))
  ·rcases List.mem_append.1 hf with hf | hf
   ·exact .inl (.inr (.inr ⟨f, hf, ho2⟩))
   ·obtain rfl := List.mem_singleton.1 hf
    exact .inr (ho k ho2)
end
set_option maxHeartbeats 4000000 in
theorem aC2 {S : Nat -> Prop} {w : World} {bb r : Nat} {E : List Ent} (h : BaseAt S w bb r E) (s : ByteArray) {ao : Option Addr} {k cap : Nat} {ss : List ByteArray} (hx : RowIn w (ao, k, cap) ss) (ho : gC (ao, k, cap) (iG bb r E)) :
 Calls Tryz.prog 57 #[.pointer (some ⟨bb, 0, none⟩), .string s, .slice ao k cap] w (RetF (iG bb r E) w (BaseAdded S w bb r E s ss)) := by
 have hkn : k = ss.length := hx.1.1
 have hcs : CellsAt w ao (strs ss) := hx.1.2
 have hkl : k ≤ 8796093021952 := by rw [hkn]; exact hx.2.1
 have c0 := h.blk.c0
 have hlk := iT (P := Tryz.prog) Tryz.underlying151 Tryz.underlying9 (z := .pointer none) (by kernel_rfl) h.map s
 rw [mY] at hlk
 have hnm := xB s w
 rw [show decide (1 ≤ s.size /\ s.size ≤ 4096) = cB s from rfl] at hnm
 have HN := qH hnm; clear hnm
 have HT := qH (fun w1 (hw : Ext w w1) => qJ ss ao k cap w1 hkn (hcs.ext hw) (by omega))
 obtain ⟨n, en⟩ : ∃ n, bH (aR E) = n := ⟨_, rfl⟩
 have EN := qH en
 have hnl : n ≤ 262144 := by rw [<- en]; exact h.ok.few
 have c1 : w.cell? ⟨bb, 1, none⟩ = some (.int .i64 n) := by rw [h.blk.cell', en]; rfl
 have HC1 := qH (fun w1 (hw : Ext w w1) => (hw.cell c1 id : w1.cell? ⟨bb, 1, none⟩ = some (.int .i64 n)))
 have H := qH h
 have HX := qH (And.intro hx ho)
 have HKN := qH hkn
 clear h hx ho hcs hkn en c1
 cases hn : cB s with
 | false =>
  rw [hn] at HN
  have HNM := qH hn
  clear hn hlk c0
  go_enter Tryz.func57, Tryz.ntmps57
  go_wp2_with fail
  refine HN.out.mono ?_
  rintro e w' ⟨rfl, rfl⟩
  go_wp2
  go_ret2
  exact RetF.mk (Kp.refl _) (BaseAdded.same H.out (Kp.refl _) (aIc ss HNM.out) (by decide) rfl)
 | true =>
  rw [hn] at HN
  have HNM := qH hn
  clear hn
  cases he : bP E s with
  | none =>
   rw [he] at hlk
   have hlk' : ∀ w', w' = w -> (Instr.lookup 151 (.map (some r)) (.string s) false).run Tryz.prog w' = .ok (.pointer none) w' := fun w' e => by rw [e]; exact hlk
   replace hlk := hlk' w rfl
   clear hlk'
   have HE := qH he
   clear he
   by_cases hl : 64 < k
   ·have HNB := qH (rS (k : Int) w (.inr (by omega)))
    go_enter Tryz.func57, Tryz.ntmps57
    go_wp2_with fail
    refine HN.out.mono ?_
    rintro e w' ⟨rfl, rfl⟩
    go_wp2_with fail
    refine HNB.out.mono ?_
    rintro e w' ⟨rfl, rfl⟩
    go_wp2
    go_ret2
    exact RetF.mk (Kp.refl _) (BaseAdded.same H.out (Kp.refl _) (aId HNM.out (eV HE.out).1 (by rw [<- HKN.out]; exact hl)) (by decide) rfl)
   have hk64 : k ≤ 64 := by omega
   have HNR := qH (gK S w k hk64 H.out.inS)
   have HL := qH (show ss.length ≤ 64 by rw [<- HKN.out]; exact hk64)
   clear hl
   cases ht : bW ss with
   | false =>
    rw [ht] at HT
    have HTX := qH ht
    clear ht
    go_enter Tryz.func57, Tryz.ntmps57
    go_wp2_with fail
    refine HN.out.mono ?_
    rintro e w' ⟨rfl, rfl⟩
    go_wp2_with fail
    refine HNR.out.mono ?_
    rintro e w1 ⟨v, rfl, hk1, rfl, hrows⟩
    have d2 := hrows.blk.c2
    have HK1 := qH hk1
    clear hk1 hrows
    go_wp2_with fail
    refine (HT.out w1 HK1.out).mono ?_
    rintro e w2 ⟨v, rfl, hk2, rfl⟩
    have HK2 := qH (HK1.out.trans hk2)
    clear hk2
    go_wp2
    go_ret2
    exact RetF.mk (Ext.kp HK2.out) (BaseAdded.same H.out HK2.out (yG HNM.out (zY (eV HE.out).1 HL.out) HTX.out) (by decide) rfl)
   | true =>
    rw [ht] at HT
    have HTX := qH ht
    clear ht
    have HAdd := qH (fun w1 (hw : Ext w w1) (hr : RowsAt S w1 w.heap.size (.slice none 0 0) k []) => mK hr List.Pairwise.nil (ao := ao) (n := k) (cap := cap) (ss := ss) ⟨⟨HKN.out, HX.out.1.1.2.ext hw⟩, HX.out.1.2.1, fun a e hne => Nat.lt_of_lt_of_le (HX.out.1.2.2 a e hne) hw.size⟩
     (fun a e hne ho => by
      have := HX.out.1.2.2 a e hne
      rcases ho with ho | ho
      ·omega
      ·cases ho) (by simp))
    by_cases hm : 262144 ≤ n
    ·have q2 : decide ((262144 : Int) ≤ (n : Int)) = true := by rw [decide_eq_true_iff]; omega
     have HM := qH hm
     have HHas := qH (fun w1 (hw : Ext w w1) (hr : RowsAt S w1 w.heap.size (.slice none 0 0) k []) => mJ hr List.Pairwise.nil (x := (ao, k, cap)) (ss := ss) ⟨⟨HKN.out, HX.out.1.1.2.ext hw⟩, HX.out.1.2.1, fun a e hne => Nat.lt_of_lt_of_le (HX.out.1.2.2 a e hne) hw.size⟩
      (fun a e hne ho => by
       have := HX.out.1.2.2 a e hne
       rcases ho with ho | ho
       ·omega
       ·cases ho))
     clear hm
     go_enter Tryz.func57, Tryz.ntmps57
     go_wp2_with fail
     refine HN.out.mono ?_
     rintro e w' ⟨rfl, rfl⟩
     go_wp2_with fail
     refine HNR.out.mono ?_
     rintro e w1 ⟨v, rfl, hk1, rfl, hrows⟩
     have d2 := hrows.blk.c2
     have HK1 := qH (And.intro hk1 hrows)
     clear hk1 hrows
     go_wp2_with fail
     refine (HT.out w1 HK1.out.1).mono ?_
     rintro e w2 ⟨v, rfl, hk2, rfl⟩
     have HK2 := qH (HK1.out.1.trans hk2)
     have HR2 := qH (HK1.out.2.ext hk2)
     have c1' := HC1.out w2 HK2.out
     clear hk2 d2
     go_wp2_with fail
     refine (HHas.out w2 HK2.out HR2.out).mono ?_
     rintro e w3 ⟨v, rfl, hk3, rfl⟩
     have HK3 := qH (HK2.out.trans hk3)
     clear hk3 c1'
     have hni : bA aD ([] : List (List ByteArray)) ss = false := rfl
     go_wp2
     go_ret2
     exact RetF.mk (Ext.kp HK3.out) (BaseAdded.same H.out HK3.out (yH HNM.out (zY (eV HE.out).1 HL.out) HTX.out (by rw [EN.out]; exact HM.out) (by rw [(eV HE.out).2]; rfl)) (by decide) rfl)
    ·have q2 : decide ((262144 : Int) ≤ (n : Int)) = false := by rw [decide_eq_false_iff_not]; omega
     have HM := qH hm
     clear hm
     go_enter Tryz.func57, Tryz.ntmps57
     go_wp2_with fail
     refine HN.out.mono ?_
     rintro e w' ⟨rfl, rfl⟩
     go_wp2_with fail
     refine HNR.out.mono ?_
     rintro e w1 ⟨v, rfl, hk1, rfl, hrows⟩
     have d2 := hrows.blk.c2
     have HK1 := qH (And.intro hk1 hrows)
     clear hk1 hrows
     go_wp2_with fail
     refine (HT.out w1 HK1.out.1).mono ?_
     rintro e w2 ⟨v, rfl, hk2, rfl⟩
     have HK2 := qH (HK1.out.1.trans hk2)
     have HR2 := qH (HK1.out.2.ext hk2)
     have c1' := HC1.out w2 HK2.out
     clear hk2 d2
     go_wp2_with fail
     refine (HAdd.out w2 HK2.out HR2.out).mono ?_
     rintro e w3 ⟨v, rfl, hk3, hv, S', iv', hss, hsn, hrows3, hiv⟩
     have e0 : aL k [] ss = (true, 0) := by
      unfold aL; rw [if_neg (by rw [HKN.out]; simp), if_neg (by rw [HTX.out]; simp), if_neg (by simp)]; simp [bA]
     have e1 : aX k [] ss = [ss] := by
      unfold aX; rw [e0]; simp [cQ, bA, below]
     rw [e0] at hv
     rw [e1] at hrows3
     subst hv
     have hz := HK2.out.size
     have kk3 : Kp (fun g => g = w.heap.size) w2 w3 := hk3.mono fun g _ h => by
      rcases h with h | h
      ·exact h
      ·cases h
     have hex3 : Ext w w3 := HK2.out.trans' kk3 (fun i hi e => by omega)
     rw [HKN.out] at hrows3
     have HR3 := qH (And.intro hex3 (And.intro hss (And.intro (fun q (hq : S' q) => (hsn q hq).imp id fun u => Nat.le_trans hz u) (And.intro hrows3 (fun q (hq : iv'.ownBlock = some q) => show w.heap.size ≤ q by
      rcases hiv q hq with u | u
      ·cases u
      ·exact Nat.le_trans hz u)))))
     have HB3 := qH (And.intro (H.out.blk.ext hex3) (H.out.map.ext hex3))
     clear hk3 kk3 hex3 hrows3 hss hsn hiv e0 e1 c1' hlk c0 hz
     go_wp2_with fail
     refine (fE HB3.out.1 HB3.out.2 s (some ⟨w.heap.size, 0, none⟩)).mono ?_
     rintro e w4 ⟨v, rfl, hk4, hm4⟩
     have HM4 := qH (And.intro hk4 hm4)
     have hb4 : Blk w4 bb [.map (some r), .int .i64 (bH (aR E) : Nat)] 153 := HB3.out.1.kp hk4 H.out.ne
     have c4 : w4.cell? ⟨bb, 1, none⟩ = some (.int .i64 n) := by rw [hb4.cell', EN.out]; rfl
     have f4 := hb4.free 1
     clear hk4 hm4 hb4
     go_wp2
     go_ret2
     exact aC1 H.out HE.out ⟨HNM.out, HL.out, HTX.out, by rw [EN.out]; exact HM.out⟩ HR3.out.1 HR3.out.2.1 HR3.out.2.2.1 HR3.out.2.2.2.1 (Nat.le_refl _) HR3.out.2.2.2.2 HM4.out.1 HM4.out.2 EN.out
  | some e0 =>
   rw [he] at hlk
   have HE := qH he
   obtain ⟨hem, hes⟩ := cY he
   obtain ⟨b0, eb0⟩ : ∃ b0, e0.b = b0 := ⟨_, rfl⟩
   obtain ⟨ar, ear⟩ : ∃ ar, e0.ar = ar := ⟨_, rfl⟩
   obtain ⟨LL, eLL⟩ : ∃ LL, e0.LL = LL := ⟨_, rfl⟩
   have hlk' : (Instr.lookup 151 (.map (some r)) (.string s) false).run Tryz.prog w = .ok (.pointer (some ⟨b0, 0, none⟩)) w := by rw [<- eb0]; exact hlk
   have hra := H.out.rows e0 hem
   have d2 : w.cell? ⟨b0, 2, none⟩ = some (.int .i64 ar) := by rw [<- eb0, hra.blk.cell', ear]; rfl
   have HEM := qH (And.intro hem (And.intro eb0 (And.intro ear eLL)))
   have hoff : gC (ao, k, cap) (bN e0.b e0.iv) := fun a e hne hown => HX.out.2 a e hne (.inr (.inr ⟨e0, hem, hown⟩))
   have HOff := qH hoff
   have HHas := qH (fun w1 (hw : Ext w w1) => mJ ((H.out.rows e0 hem).ext hw) (H.out.strict hem) (x := (ao, k, cap)) (ss := ss) ⟨⟨HKN.out, HX.out.1.1.2.ext hw⟩, HX.out.1.2.1, fun a e hne => Nat.lt_of_lt_of_le (HX.out.1.2.2 a e hne) hw.size⟩ hoff)
   have HA := qH (fun w1 (hw : Ext w w1) => mK ((H.out.rows e0 hem).ext hw) (H.out.strict hem) (ao := ao) (n := k) (cap := cap) (ss := ss) ⟨⟨HKN.out, HX.out.1.1.2.ext hw⟩, HX.out.1.2.1, fun a e hne => Nat.lt_of_lt_of_le (HX.out.1.2.2 a e hne) hw.size⟩ hoff (by have := H.out.few hem; omega))
   clear he hem hes hra hoff hlk
   rw [HEM.out.2.1, HEM.out.2.2.2] at HHas
   rw [HEM.out.2.1, HEM.out.2.2.1, HEM.out.2.2.2] at HA
   clear eb0 ear eLL
   by_cases ha : ar = k
   ·have HAr := qH ha
    have q1 : ((ar : Int) != (k : Int)) = false := by simp [ha]
    clear ha
    have hnil : Ext w w := Kp.refl w
    cases ht : bW ss with
    | false =>
     rw [ht] at HT
     have HTX := qH ht
     clear ht
     go_enter Tryz.func57, Tryz.ntmps57
     go_wp2_with fail
     refine HN.out.mono ?_
     rintro e w' ⟨rfl, rfl⟩
     go_wp2_with fail
     refine (HT.out w hnil).mono ?_
     rintro e w2 ⟨v, rfl, hk2, rfl⟩
     have HK2 := qH hk2
     clear hk2
     go_wp2
     go_ret2
     exact RetF.mk (Ext.kp HK2.out) (BaseAdded.same H.out HK2.out (yG HNM.out (qD (dT HE.out).1 (by rw [HEM.out.2.2.1, HAr.out]; exact HKN.out)) HTX.out) (by decide) rfl)
    | true =>
     rw [ht] at HT
     have HTX := qH ht
     clear ht
     have hR0 : aL ar LL ss = if 65536 ≤ LL.length /\ bA aD LL ss = false then (false, 4) else (!bA aD LL ss, 0) := by
      unfold aL
      rw [if_neg (by rw [HAr.out, HKN.out]; simp), if_neg (by rw [HTX.out]; simp)]
     have HR0 := qH hR0
     clear hR0
     by_cases hm : 262144 ≤ n
     ·have q2 : decide ((262144 : Int) ≤ (n : Int)) = true := by rw [decide_eq_true_iff]; omega
      have HM := qH hm
      clear hm
      cases hi : bA aD LL ss with
      | false =>
       have HI := qH hi
       rw [hi] at HHas
       clear hi
       go_enter Tryz.func57, Tryz.ntmps57
       go_wp2_with fail
       refine HN.out.mono ?_
       rintro e w' ⟨rfl, rfl⟩
       go_wp2_with fail
       refine (HT.out w hnil).mono ?_
       rintro e w2 ⟨v, rfl, hk2, rfl⟩
       have HK2 := qH hk2
       have c1' := HC1.out w2 hk2
       clear hk2
       go_wp2_with fail
       refine (HHas.out w2 HK2.out).mono ?_
       rintro e w3 ⟨v, rfl, hk3, rfl⟩
       have HK3 := qH (HK2.out.trans hk3)
       clear hk3 c1'
       go_wp2
       go_ret2
       exact RetF.mk (Ext.kp HK3.out) (BaseAdded.same H.out HK3.out (yH HNM.out (qD (dT HE.out).1 (by rw [HEM.out.2.2.1, HAr.out]; exact HKN.out)) HTX.out (by rw [EN.out]; exact HM.out) (by rw [(dT HE.out).2, HEM.out.2.2.2]; exact HI.out)) (by decide) rfl)
      | true =>
       have HI0 := qH hi
       rw [hi] at HHas
       clear hi
       have HF := qH (show (cB s = true /\ e0.ar = ss.length /\ bW ss = true /\ e0.LL = LL /\ ¬ (262144 ≤ bH (aR E) /\ bA aD LL ss = false)) /\ True from ⟨⟨HNM.out, by rw [HEM.out.2.2.1, HAr.out]; exact HKN.out, HTX.out, HEM.out.2.2.2, fun q => by rw [HI0.out] at q; cases q.2⟩, trivial⟩)
       go_enter Tryz.func57, Tryz.ntmps57
       go_wp2_with fail
       refine HN.out.mono ?_
       rintro e w' ⟨rfl, rfl⟩
       go_wp2_with fail
       refine (HT.out w hnil).mono ?_
       rintro e w2 ⟨v, rfl, hk2, rfl⟩
       have HK2 := qH hk2
       have c1' := HC1.out w2 hk2
       clear hk2
       go_wp2_with fail
       refine (HHas.out w2 HK2.out).mono ?_
       rintro e w2b ⟨v, rfl, hk3, rfl⟩
       have HK2b := qH (HK2.out.trans hk3)
       clear hk3 c1'
       go_wp2_with fail
       refine (HA.out w2b HK2b.out).mono ?_
       rintro e w3 ⟨v, rfl, hk3, hv, S', iv', hss, hsn, hrows3, hiv⟩
       rw [<- HEM.out.2.1] at hk3 hrows3
       rw [<- HEM.out.2.2.1] at hrows3
       have HX3 := qH (And.intro hk3 (And.intro hss (And.intro hsn (And.intro hrows3 hiv))))
       rw [HR0.out] at hv
       subst hv
       clear hk3 hss hsn hrows3 hiv
       by_cases h4 : 65536 ≤ LL.length /\ bA aD LL ss = false
       ·have e4 : (if 65536 ≤ LL.length /\ bA aD LL ss = false then (false, 4) else (!bA aD LL ss, 0)) = (false, 4) := if_pos h4
        have H4 := qH (And.intro h4 e4)
        rw [e4]
        clear h4 e4
        go_wp2
        go_ret2
        exact qC H.out HE.out HF.out.1 HK2b.out HX3.out.1 HX3.out.2.1 HX3.out.2.2.1 HX3.out.2.2.2.1 HX3.out.2.2.2.2 (by rw [HEM.out.2.2.1]; exact HR0.out) H4.out.1
       ·have e4 : (if 65536 ≤ LL.length /\ bA aD LL ss = false then (false, 4) else (!bA aD LL ss, 0)) = (!bA aD LL ss, 0) := if_neg h4
        have H4 := qH (And.intro h4 e4)
        rw [e4]
        clear h4 e4
        have hm3 := nE H.out HE.out HK2b.out HX3.out.1
        have hb3 := gT H.out HE.out HK2b.out HX3.out.1
        have HB3 := qH (And.intro hb3 hm3)
        have c31 : w3.cell? ⟨bb, 1, none⟩ = some (.int .i64 n) := by rw [HB3.out.1.cell', EN.out]; rfl
        clear hm3 hb3 c31
        cases hi : bA aD LL ss with
        | true =>
         have HI := qH hi
         clear hi
         go_wp2_with fail
         refine (fE HB3.out.1 HB3.out.2 s (some ⟨b0, 0, none⟩)).mono ?_
         rintro e w4 ⟨v, rfl, hk4, hm4⟩
         rw [<- HEM.out.2.1] at hm4
         have HM4 := qH (And.intro hk4 hm4)
         clear hk4 hm4
         go_wp2
         go_ret2
         exact sE H.out HE.out HF.out.1 HK2b.out HX3.out.1 HX3.out.2.1 HX3.out.2.2.1 HX3.out.2.2.2.1 HX3.out.2.2.2.2 (by rw [HEM.out.2.2.1]; exact HR0.out) HI.out HM4.out.1 HM4.out.2
        | false =>
         have HI := qH hi
         clear hi
         go_wp2_with fail
         refine (fE HB3.out.1 HB3.out.2 s (some ⟨b0, 0, none⟩)).mono ?_
         rintro e w4 ⟨v, rfl, hk4, hm4⟩
         rw [<- HEM.out.2.1] at hm4
         have HM4 := qH (And.intro hk4 hm4)
         have hb4 : Blk w4 bb [.map (some r), .int .i64 (bH (aR E) : Nat)] 153 := HB3.out.1.kp hk4 H.out.ne
         have c4 : w4.cell? ⟨bb, 1, none⟩ = some (.int .i64 n) := by rw [hb4.cell', EN.out]; rfl
         have f4 := hb4.free 1
         clear hk4 hm4 hb4
         go_wp2
         go_ret2
         exact sF H.out HE.out HF.out.1 HK2b.out HX3.out.1 HX3.out.2.1 HX3.out.2.2.1 HX3.out.2.2.2.1 HX3.out.2.2.2.2 (by rw [HEM.out.2.2.1]; exact HR0.out) HI.out H4.out.1 HM4.out.1 HM4.out.2 EN.out
     ·have q2 : decide ((262144 : Int) ≤ (n : Int)) = false := by rw [decide_eq_false_iff_not]; omega
      have HM := qH hm
      clear hm
      have HF := qH (show (cB s = true /\ e0.ar = ss.length /\ bW ss = true /\ e0.LL = LL /\ ¬ (262144 ≤ bH (aR E) /\ bA aD LL ss = false)) /\ True from ⟨⟨HNM.out, by rw [HEM.out.2.2.1, HAr.out]; exact HKN.out, HTX.out, HEM.out.2.2.2, fun q => HM.out (by rw [<- EN.out]; exact q.1)⟩, trivial⟩)
      go_enter Tryz.func57, Tryz.ntmps57
      go_wp2_with fail
      refine HN.out.mono ?_
      rintro e w' ⟨rfl, rfl⟩
      go_wp2_with fail
      refine (HT.out w hnil).mono ?_
      rintro e w2 ⟨v, rfl, hk2, rfl⟩
      have HK2 := qH hk2
      have c1' := HC1.out w2 hk2
      clear hk2
      go_wp2_with fail
      refine (HA.out w2 HK2.out).mono ?_
      rintro e w3 ⟨v, rfl, hk3, hv, S', iv', hss, hsn, hrows3, hiv⟩
      rw [<- HEM.out.2.1] at hk3 hrows3
      rw [<- HEM.out.2.2.1] at hrows3
      have HX3 := qH (And.intro hk3 (And.intro hss (And.intro hsn (And.intro hrows3 hiv))))
      rw [HR0.out] at hv
      subst hv
      clear hk3 hss hsn hrows3 hiv
      by_cases h4 : 65536 ≤ LL.length /\ bA aD LL ss = false
      ·have e4 : (if 65536 ≤ LL.length /\ bA aD LL ss = false then (false, 4) else (!bA aD LL ss, 0)) = (false, 4) := if_pos h4
       have H4 := qH (And.intro h4 e4)
       rw [e4]
       clear h4 e4
       go_wp2
       go_ret2
       exact qC H.out HE.out HF.out.1 HK2.out HX3.out.1 HX3.out.2.1 HX3.out.2.2.1 HX3.out.2.2.2.1 HX3.out.2.2.2.2 (by rw [HEM.out.2.2.1]; exact HR0.out) H4.out.1
      ·have e4 : (if 65536 ≤ LL.length /\ bA aD LL ss = false then (false, 4) else (!bA aD LL ss, 0)) = (!bA aD LL ss, 0) := if_neg h4
       have H4 := qH (And.intro h4 e4)
       rw [e4]
       clear h4 e4
       have hm3 := nE H.out HE.out HK2.out HX3.out.1
       have hb3 := gT H.out HE.out HK2.out HX3.out.1
       have HB3 := qH (And.intro hb3 hm3)
       have c31 : w3.cell? ⟨bb, 1, none⟩ = some (.int .i64 n) := by rw [HB3.out.1.cell', EN.out]; rfl
       clear hm3 hb3 c31
       cases hi : bA aD LL ss with
       | true =>
        have HI := qH hi
        clear hi
        go_wp2_with fail
        refine (fE HB3.out.1 HB3.out.2 s (some ⟨b0, 0, none⟩)).mono ?_
        rintro e w4 ⟨v, rfl, hk4, hm4⟩
        rw [<- HEM.out.2.1] at hm4
        have HM4 := qH (And.intro hk4 hm4)
        clear hk4 hm4
        go_wp2
        go_ret2
        exact sE H.out HE.out HF.out.1 HK2.out HX3.out.1 HX3.out.2.1 HX3.out.2.2.1 HX3.out.2.2.2.1 HX3.out.2.2.2.2 (by rw [HEM.out.2.2.1]; exact HR0.out) HI.out HM4.out.1 HM4.out.2
       | false =>
        have HI := qH hi
        clear hi
        go_wp2_with fail
        refine (fE HB3.out.1 HB3.out.2 s (some ⟨b0, 0, none⟩)).mono ?_
        rintro e w4 ⟨v, rfl, hk4, hm4⟩
        rw [<- HEM.out.2.1] at hm4
        have HM4 := qH (And.intro hk4 hm4)
        have hb4 : Blk w4 bb [.map (some r), .int .i64 (bH (aR E) : Nat)] 153 := HB3.out.1.kp hk4 H.out.ne
        have c4 : w4.cell? ⟨bb, 1, none⟩ = some (.int .i64 n) := by rw [hb4.cell', EN.out]; rfl
        have f4 := hb4.free 1
        clear hk4 hm4 hb4
        go_wp2
        go_ret2
        exact sF H.out HE.out HF.out.1 HK2.out HX3.out.1 HX3.out.2.1 HX3.out.2.2.1 HX3.out.2.2.2.1 HX3.out.2.2.2.2 (by rw [HEM.out.2.2.1]; exact HR0.out) HI.out H4.out.1 HM4.out.1 HM4.out.2 EN.out
   ·have HAr := qH ha
    have q1 : ((ar : Int) != (k : Int)) = true := by rw [bne_iff_ne]; omega
    clear ha
    go_enter Tryz.func57, Tryz.ntmps57
    go_wp2_with fail
    refine HN.out.mono ?_
    rintro e w' ⟨rfl, rfl⟩
    go_wp2
    go_ret2
    exact RetF.mk (Kp.refl _) (BaseAdded.same H.out (Kp.refl _) (aFl HNM.out (dT HE.out).1 (by show e0.ar ≠ ss.length; rw [HEM.out.2.2.1, <- HKN.out]; exact HAr.out)) (by decide) rfl)
section
variable {S S' : Nat -> Prop} {w w1 w2 w3 w4 : World} {bb r : Nat} {E : List Ent} {s : ByteArray} {e : Ent}
def BaseDecled (S : Nat -> Prop) (w : World) (bb r : Nat) (E : List Ent) (s : ByteArray) (a : Int) (w' : World) (v : Value) : Prop :=
 v = .int .i64 ((eA (aR E) s a : Nat) : Int) /\ ∃ E', BaseAt S w' bb r E' /\ aR E' = gR (aR E) s a /\ ∀ k, iG bb r E' k -> iG bb r E k \/ w.heap.size ≤ k
theorem BaseDecled.same {a : Int} (h : BaseAt S w bb r E) (hk : Ext w w1) {n : Nat} (hR : eA (aR E) s a = n) (hn : gR (aR E) s a = aR E) {v : Value} (hv : v = .int .i64 (n : Nat)) : BaseDecled S w bb r E s a w1 v :=
 ⟨by rw [hv, hR], E, h.ext hk, hn.symm, fun _ h => .inl h⟩
theorem vM {C : List bG} (a : Int) (h : cB s = false) : eA C s a = 32 := if_pos h
theorem aHt {C : List bG} {a : Int} (h : cB s = true) (ha : a < 0 \/ 64 < a) : eA C s a = 2 := by
 unfold eA
 rw [if_neg (by rw [h]; simp), if_pos ha]
theorem aE9 {C : List bG} {a : Int} (h : cB s = true) (ha : ¬ (a < 0 \/ 64 < a)) (hg : dG C s = none) : eA C s a = 0 := by
 unfold eA
 rw [if_neg (by rw [h]; simp), if_neg ha, hg]
theorem aE8 {C : List bG} {a : Int} {v : Nat × aC} (h : cB s = true) (ha : ¬ (a < 0 \/ 64 < a)) (hg : dG C s = some v) : eA C s a = if (v.1 : Int) = a then 0 else 30 := by
 unfold eA
 rw [if_neg (by rw [h]; simp), if_neg ha, hg]
theorem xZ {C : List bG} {a : Int} (h : eA C s a ≠ 0) : gR C s a = C := if_neg fun k => h k.1
theorem aFa {C : List bG} {a : Int} {v : Nat × aC} (hg : dG C s = some v) : gR C s a = C := if_neg fun k => by rw [hg] at k; cases k.2
theorem zW {k b : Nat} (h : BaseAt S w bb r E) (he : bP E s = none) (hn : cB s = true) (hk : k ≤ 64) (hx : Ext w w3) (hr : RowsAt S w3 b (.slice none 0 0) k []) (hb : w.heap.size ≤ b)
 (hk4 : Kp (fun k => k = r) w3 w4) (hm4 : MapIs w4 r (lC (gQ E) s (.pointer (some ⟨b, 0, none⟩)))) : RetF (iG bb r E) w (BaseDecled S w bb r E s (k : Int)) (.returned (.int .i64 0)) w4 := by
 obtain ⟨g1, g2⟩ := eV he
 have hR : eA (aR E) s (k : Int) = 0 := aE9 hn (by omega) g1
 have hC : gR (aR E) s (k : Int) = aR (E ++ [{ name := s, b := b, iv := .slice none 0 0, ar := k, LL := [] }]) := by
  unfold gR
  rw [if_pos ⟨hR, g1⟩]
  simp [aR, Ent.cnt]
 rw [xT he b (.slice none 0 0) k []] at hm4
 have ho : ∀ q, bN b (.slice none 0 0) q -> w.heap.size ≤ q := fun q ho => by
  rcases ho with rfl | ho
  ·exact hb
  ·cases ho
 have htot : bH (aR E) = bH (aR (E ++ [{ name := s, b := b, iv := .slice none 0 0, ar := k, LL := [] }])) := by simp [bH, aR, Ent.cnt]
 refine RetF.mk ((Ext.kp hx).trans (hk4.mono fun k _ ho => .inr (.inl ho))) ⟨by rw [hR]; rfl, E ++ [{ name := s, b := b, iv := .slice none 0 0, ar := k, LL := [] }], ?_, hC.symm, ?_⟩
 ·exact h.push (e := { name := s, b := b, iv := .slice none 0 0, ar := k, LL := [] }) hx (fun _ x => x) (fun _ x => .inl x) hr ho (hk4.mono fun k _ ho => .inr ho) ((h.blk.ext hx).kp hk4 h.ne) hm4 htot (by rw [<- hC]; exact aKw h.ok s _)
 ·rintro q (h1 | h1 | ⟨f, hf, ho2⟩)
  ·exact .inl (.inl h1)
  ·exact .inl (.inr (.inl h1))
  ·rcases List.mem_append.1 hf with hf | hf
   ·exact .inl (.inr (.inr ⟨f, hf, ho2⟩))
   ·obtain rfl := List.mem_singleton.1 hf
    exact .inr (ho q ho2)
set_option maxHeartbeats 4000000 in
theorem zX (h : BaseAt S w bb r E) (s : ByteArray) (a : Int) :
 Calls Tryz.prog 56 #[.pointer (some ⟨bb, 0, none⟩), .string s, .int .i64 a] w (RetF (iG bb r E) w (BaseDecled S w bb r E s a)) := by
 have c0 := h.blk.c0
 have hnm := xB s w
 rw [show decide (1 ≤ s.size /\ s.size ≤ 4096) = cB s from rfl] at hnm
 have HN := qH hnm; clear hnm
 have H := qH h
 have HLk := qH (fun w1 (hw : Ext w w1) => iT (P := Tryz.prog) Tryz.underlying151 Tryz.underlying9 (z := .pointer none) (by kernel_rfl) (h.map.ext hw) s)
 rw [mY] at HLk
 clear h
 cases hn : cB s with
 | false =>
  rw [hn] at HN
  have HNM := qH hn
  clear hn c0
  go_enter Tryz.func56, Tryz.ntmps56
  go_wp2_with fail
  refine HN.out.mono ?_
  rintro e w' ⟨rfl, rfl⟩
  go_wp2
  go_ret
  exact RetF.mk (Kp.refl _) (BaseDecled.same H.out (Kp.refl _) (vM a HNM.out) (xZ (by rw [vM a HNM.out]; decide)) rfl)
 | true =>
  rw [hn] at HN
  have HNM := qH hn
  clear hn
  by_cases ha : a < 0 \/ 64 < a
  ·have HNB := qH (rS a w ha)
   have HAB := qH ha
   obtain ⟨p, hp⟩ : ∃ p : Option Addr, ((bP E s).map Ent.ptr).getD (.pointer none) = .pointer p := by
    cases bP E s with
    | none => exact ⟨none, rfl⟩
    | some e => exact ⟨some ⟨e.b, 0, none⟩, rfl⟩
   have hlk := HLk.out w (Kp.refl w)
   rw [hp] at hlk
   clear ha hp
   go_enter Tryz.func56, Tryz.ntmps56
   go_wp2_with fail
   refine HN.out.mono ?_
   rintro e w' ⟨rfl, rfl⟩
   go_wp2_with fail
   refine HNB.out.mono ?_
   rintro e w' ⟨rfl, rfl⟩
   go_wp2
   go_ret
   have e2 := aHt (s := s) (C := aR E) HNM.out HAB.out
   exact RetF.mk (Kp.refl _) (BaseDecled.same H.out (Kp.refl _) e2 (xZ (by rw [e2]; decide)) rfl)
  ·obtain ⟨k, rfl⟩ := Int.eq_ofNat_of_zero_le (show 0 ≤ a by omega)
   have hk64 : k ≤ 64 := by omega
   have HNR := qH (gK S w k hk64 H.out.inS)
   have HAN := qH ha
   clear ha
   cases he : bP E s with
   | none =>
    rw [he] at HLk
    have HE := qH he
    clear he
    go_enter Tryz.func56, Tryz.ntmps56
    go_wp2_with fail
    refine HN.out.mono ?_
    rintro e w' ⟨rfl, rfl⟩
    go_wp2_with fail
    refine HNR.out.mono ?_
    rintro e w1 ⟨v, rfl, hk1, rfl, hrows⟩
    have hlk : (Instr.lookup 151 (.map (some r)) (.string s) false).run Tryz.prog w1 = .ok (.pointer none) w1 := HLk.out w1 hk1
    have c1 := hk1.cell c0 id
    have HK1 := qH (And.intro hk1 hrows)
    clear hk1 hrows
    go_wp2_with fail
    refine (fE (H.out.blk.ext HK1.out.1) (H.out.map.ext HK1.out.1) s (some ⟨w.heap.size, 0, none⟩)).mono ?_
    rintro e w4 ⟨v, rfl, hk4, hm4⟩
    have HM4 := qH (And.intro hk4 hm4)
    clear hk4 hm4
    go_wp2
    go_ret
    exact zW H.out HE.out HNM.out hk64 HK1.out.1 HK1.out.2 (Nat.le_refl _) HM4.out.1 HM4.out.2
   | some e0 =>
    rw [he] at HLk
    have HE := qH he
    obtain ⟨hem, hes⟩ := cY he
    obtain ⟨b0, eb0⟩ : ∃ b0, e0.b = b0 := ⟨_, rfl⟩
    obtain ⟨ar, ear⟩ : ∃ ar, e0.ar = ar := ⟨_, rfl⟩
    have d2 : w.cell? ⟨b0, 2, none⟩ = some (.int .i64 ar) := by rw [<- eb0, (H.out.rows e0 hem).blk.cell', ear]; rfl
    have HEM := qH (And.intro eb0 ear)
    have hg : dG (aR E) s = some (ar, e0.LL) := by rw [<- ear]; exact (dT he).1
    have hR := aE8 (C := aR E) HNM.out HAN.out hg
    have HR := qH (And.intro hR (aFa (C := aR E) (a := (k : Int)) hg))
    clear he hem hes eb0 ear hg hR
    by_cases hq : ar = k
    ·have q1 : ((ar : Int) != (k : Int)) = false := by simp [hq]
     have HQ := qH hq
     clear hq
     go_enter Tryz.func56, Tryz.ntmps56
     go_wp2_with fail
     refine HN.out.mono ?_
     rintro e w' ⟨rfl, rfl⟩
     go_wp2_with fail
     refine HNR.out.mono ?_
     rintro e w1 ⟨v, rfl, hk1, rfl, hrows⟩
     have hlk : (Instr.lookup 151 (.map (some r)) (.string s) false).run Tryz.prog w1 = .ok (.pointer (some ⟨b0, 0, none⟩)) w1 := by rw [<- HEM.out.1]; exact HLk.out w1 hk1
     have c1 := hk1.cell c0 id
     have d21 := hk1.cell d2 id
     have HK1 := qH hk1
     clear hk1 hrows
     go_wp2
     go_ret
     exact RetF.mk (Ext.kp HK1.out) (BaseDecled.same H.out HK1.out (by rw [HR.out.1, if_pos (by rw [HQ.out])]) HR.out.2 rfl)
    ·have q1 : ((ar : Int) != (k : Int)) = true := by rw [bne_iff_ne]; omega
     have HQ := qH hq
     clear hq
     go_enter Tryz.func56, Tryz.ntmps56
     go_wp2_with fail
     refine HN.out.mono ?_
     rintro e w' ⟨rfl, rfl⟩
     go_wp2_with fail
     refine HNR.out.mono ?_
     rintro e w1 ⟨v, rfl, hk1, rfl, hrows⟩
     have hlk : (Instr.lookup 151 (.map (some r)) (.string s) false).run Tryz.prog w1 = .ok (.pointer (some ⟨b0, 0, none⟩)) w1 := by rw [<- HEM.out.1]; exact HLk.out w1 hk1
     have c1 := hk1.cell c0 id
     have d21 := hk1.cell d2 id
     have HK1 := qH hk1
     clear hk1 hrows
     go_wp2
     go_ret
     exact RetF.mk (Ext.kp HK1.out) (BaseDecled.same H.out HK1.out (by rw [HR.out.1, if_neg (fun q => HQ.out (by omega))]) HR.out.2 rfl)
end
def RelsIn (S : Nat -> Prop) (w : World) (ao : Option Addr) (L : List lL) : Prop := ∀ (i : Nat) (q : lL), L[i]? = some q -> ∃ b off ra rcap, ao = some ⟨b, off, none⟩ /\ S b /\ w.cell? ⟨b, off + i * 3, none⟩ = some (.string q.1) /\ w.cell? ⟨b, off + i * 3 + 1, none⟩ = some (.int .i64 q.2.1) /\ w.cell? ⟨b, off + i * 3 + 2, none⟩ = some (.slice ra q.2.2.1.length rcap) /\ q.2.2.1.length ≤ rcap /\ rcap ≤ maxLen /\ RowsIn S w ra q.2.2.1
section
variable {S S' : Nat -> Prop} {w w' : World} {ao : Option Addr} {L : List lL}
theorem RelsIn.kp {F : Nat -> Prop} (h : RelsIn S w ao L) (hk : Kp F w w') (hF : ∀ k, F k -> ¬ S k) : RelsIn S w' ao L := fun i q hq => by
 obtain ⟨b, off, ra, rcap, e, hb, c0, c1, c2, h1, h2, h3⟩ := h i q hq
 exact ⟨b, off, ra, rcap, e, hb, hk.cell c0 (fun f => hF _ f hb), hk.cell c1 (fun f => hF _ f hb), hk.cell c2 (fun f => hF _ f hb), h1, h2, h3.kp hk hF⟩
theorem RelsIn.ext (h : RelsIn S w ao L) (hk : Ext w w') : RelsIn S w' ao L := h.kp hk fun _ x => x.elim
end
theorem aJy {C : List bG} {q : lL} {L : List lL} (h : eA C q.1 q.2.1 ≠ 0) : gP C (q :: L) = (C, eA C q.1 q.2.1) := if_neg h
theorem aJx {C : List bG} {q : lL} {L : List lL} (h : eA C q.1 q.2.1 = 0) (h2 : (fN (gR C q.1 q.2.1) q.1 q.2.2.1).2 ≠ 0) : gP C (q :: L) = fN (gR C q.1 q.2.1) q.1 q.2.2.1 := by
 show (if eA C q.1 q.2.1 = 0 then _ else _) = _
 rw [if_pos h, if_neg h2]
theorem aK6 {C : List bG} {q : lL} {L : List lL} (h : eA C q.1 q.2.1 = 0) (h2 : (fN (gR C q.1 q.2.1) q.1 q.2.2.1).2 = 0) : gP C (q :: L) = gP (fN (gR C q.1 q.2.1) q.1 q.2.2.1).1 L := by
 show (if eA C q.1 q.2.1 = 0 then _ else _) = _
 rw [if_pos h, if_pos h2]
theorem aIe {C : List bG} {s : ByteArray} {x : List ByteArray} {rs : aC} (h : (eY C s x).2 = 0) : fN C s (x :: rs) = fN (rJ C s x) s rs := if_pos h
theorem aFm {C : List bG} {s : ByteArray} {x : List ByteArray} {rs : aC} (h : (eY C s x).2 ≠ 0) : fN C s (x :: rs) = (C, (eY C s x).2) := if_neg h
def FromV (w : World) (L : List lL) (w' : World) (v : Value) : Prop :=
 ((gP [] L).2 = 0 -> ∃ bb r S E, v = .tuple #[.pointer (some ⟨bb, 0, none⟩), .int .i64 0] /\ BaseAt S w' bb r E /\ aR E = (gP [] L).1 /\ (∀ k, S k -> w.heap.size ≤ k) /\ ∀ k, iG bb r E k -> w.heap.size ≤ k) /\
 ((gP [] L).2 ≠ 0 -> v = .tuple #[.pointer none, .int .i64 (((gP [] L).2 : Nat) : Int)])
structure MyBase (w0 : World) (S : Nat -> Prop) (w : World) (bb r : Nat) (E : List Ent) : Prop where
 base : BaseAt S w bb r E
 ext : Ext w0 w
 pool : ∀ k, S k -> w0.heap.size ≤ k
 own : ∀ k, iG bb r E k -> w0.heap.size ≤ k
def aMh (w0 : World) (bb r : Nat) (L : List lL) (n : Nat) (iv : Value) (w : World) : Prop := ∃ i : Nat, i ≤ n /\ iv = .int .i64 i /\ Hid (∃ S E, MyBase w0 S w bb r E /\ gP (aR E) (L.drop i) = gP [] L)
def aMi (w0 : World) (bb r : Nat) (q : lL) (R : List bG × Nat) (g : Nat) (cs : List Value) (m : Nat) (jv : Value) (w : World) : Prop := ∃ j : Nat, j ≤ m /\ jv = .int .i64 j /\ Hid (∃ S E, MyBase w0 S w bb r E /\ fN (aR E) q.1 (q.2.2.1.drop j) = R /\ Blk w g cs 111 /\ ¬ iG bb r E g)
theorem drop_at {α : Type} {xs : List α} {i : Nat} {x : α} (h : xs[i]? = some x) : xs.drop i = x :: xs.drop (i + 1) := by
 obtain ⟨hi, e⟩ := List.getElem?_eq_some_iff.1 h
 rw [List.drop_eq_getElem_cons hi, e]
theorem cells_lt {w : World} {xa : Option Addr} {ss : List ByteArray} (h : CellsAt w xa (strs ss)) (hne : ss ≠ []) : ∀ a, xa = some a -> a.block < w.heap.size := fun a e => by
 cases ss with
 | nil => exact absurd rfl hne
 | cons s ss =>
  obtain ⟨b, off, e1, hc⟩ := h 0 (.string s) rfl
  rw [e] at e1; cases e1
  exact World.block_lt_of_cell? _ _ hc
set_option maxHeartbeats 4000000 in
theorem aB6 (L : List lL) (ao : Option Addr) (n cap : Nat) (w : World) (S0 : Nat -> Prop) (hn : n = L.length) (hL : RelsIn S0 w ao L) (hl : n ≤ 4194304) (hr : ∀ q ∈ L, q.2.2.1.length ≤ 1048576) :
 Calls Tryz.prog 18 #[.slice ao n cap] w (RetN w (FromV w L)) := by
 have HN := qH hn
 have HL := qH hL
 have HR := qH hr
 clear hn hL hr
 go_enter Tryz.func18, Tryz.ntmps18
 go_wp2_with fail
 refine (aBd w).mono ?_
 rintro e w1 ⟨v, rfl, hk1, rfl, hB, hm⟩
 obtain ⟨bb, ebb⟩ : ∃ bb, w.heap.size + 1 = bb := ⟨_, rfl⟩
 rw [ebb] at hB ⊢
 obtain ⟨r, er⟩ : ∃ r, w.heap.size = r := ⟨_, rfl⟩
 rw [er] at hB hm
 have HM0 := qH (show MyBase w (fun _ => False) w1 bb r [] from
  {base := BaseAt.new (fun _ => False) (fun _ x => x.elim) hk1 (by omega) (by omega) (by omega) hB hm
   ext := hk1, pool := fun _ x => x.elim
   own := fun k hk => by
    rcases hk with rfl | rfl | ⟨e, he, _⟩
    ·omega
    ·omega
    ·simp at he })
 clear hB hm hk1 ebb er
 go_wp2
 go_loopw [15] (fun iv wr => aMh w bb r L n iv wr) (fun iv _ => n - (intOf iv).toNat)
 case atStart => exact ⟨0, Nat.zero_le _, rfl, _, [], HM0.out, rfl⟩
 case round =>
  clear HM0
  obtain ⟨i, hi, rfl, hin⟩ := hrel
  obtain ⟨S, E, hM, hF⟩ := hin.out
  have HM := qH hM
  have HF := qH hF
  clear hin hM hF
  by_cases hlt : i < n
  ·obtain ⟨q, hq⟩ : ∃ q, L[i]? = some q := ⟨_, qG (by rw [<- HN.out]; exact hlt)⟩
   obtain ⟨b, off, ra, rcap, eao, hSb, c0, c1, c2, hrl, hrm, hrows⟩ := HL.out i q hq
   subst eao
   replace c0 := HM.out.ext.cell c0 id
   replace c1 := HM.out.ext.cell c1 id
   replace c2 := HM.out.ext.cell c2 id
   obtain ⟨s, es⟩ : ∃ s, q.1 = s := ⟨_, rfl⟩
   obtain ⟨a, ea⟩ : ∃ a, q.2.1 = a := ⟨_, rfl⟩
   obtain ⟨m, em⟩ : ∃ m, q.2.2.1.length = m := ⟨_, rfl⟩
   rw [es] at c0
   rw [ea] at c1
   rw [em] at c2 hrl
   have hm1 : m ≤ 1048576 := by rw [<- em]; exact HR.out q (List.mem_of_getElem? hq)
   have HQ := qH (And.intro hq (And.intro es (And.intro ea em)))
   have HRows := qH hrows
   clear hq es ea em hrows hSb
   obtain ⟨gx, egx⟩ : ∃ g, wr.heap.size = g := ⟨_, rfl⟩
   obtain ⟨wx, ewx⟩ : ∃ wx, wr.alloc (.cells #[.string s, .int .i64 a, .slice ra m rcap] 111) = wx := ⟨_, rfl⟩
   have HBx := qH (show Blk wx gx [.string s, .int .i64 a, .slice ra m rcap] 111 by rw [<- ewx, <- egx]; exact Blk.new wr _ _)
   have HXx := qH (show Ext wr wx by rw [<- ewx]; exact (Kp.refl wr).alloc _)
   have HGx := qH (show ∀ k, iG bb r E k -> k < gx from fun k hk => by rw [<- egx]; exact HM.out.base.ownLt k hk)
   have EGX := qH egx
   have x0 : wx.cell? ⟨wr.heap.size, 0, none⟩ = some (.string s) := by rw [egx, HBx.out.cell']; rfl
   have x1 : wx.cell? ⟨wr.heap.size, 1, none⟩ = some (.int .i64 a) := by rw [egx, HBx.out.cell']; rfl
   clear egx
   go_wp2_with fail
   rw [EGX.out]
   refine (zX (HM.out.base.ext HXx.out) s a).mono ?_
   rintro e w2 ⟨v, rfl, hk2, rfl, E1, hB1, hC1, ho1⟩
   have hgx : gx < wx.heap.size := HBx.out.lt
   have hbx2 : Blk w2 gx [.string s, .int .i64 a, .slice ra m rcap] 111 := HBx.out.kp hk2 fun ho => by have := HGx.out gx ho; omega
   have hM1 : MyBase w S w2 bb r E1 :=
    {base := hB1
     ext := (HM.out.ext.trans HXx.out).trans' hk2 fun k hk ho => by have := HM.out.own k ho; omega
     pool := HM.out.pool
     own := fun k hk => by
      rcases ho1 k hk with h1 | h1
      ·exact HM.out.own k h1
      ·have := (HM.out.ext.trans HXx.out).size; omega }
   have hng : ¬ iG bb r E1 gx := fun ho => by
    rcases ho1 gx ho with h1 | h1
    ·have := HGx.out gx h1; omega
    ·omega
   have HM1 := qH (And.intro hM1 (And.intro hC1 (And.intro hbx2 hng)))
   clear hk2 hB1 hC1 ho1 hgx hbx2 hM1 hng ewx x0 x1 c0 c1 c2
   obtain ⟨d, ed⟩ : ∃ d, eA (aR E) s a = d := ⟨_, rfl⟩
   rw [ed]
   have ED := qH ed
   clear ed
   have y2 := HM1.out.2.2.1.c2
   by_cases hd : d = 0
   ·have q1 : ((d : Int) != 0) = false := by simp [hd]
    have HD := qH hd
    clear hd
    have hdr : (L.drop i) = q :: L.drop (i + 1) := drop_at HQ.out.1
    have HDr := qH hdr
    clear hdr
    go_wp2
    clear q1
    generalize hw5 : w2 = w5 at *; clear hw5
    go_loopw [31] (fun jv wk => aMi w bb r q (fN (gR (aR E) s a) s q.2.2.1) gx [.string s, .int .i64 a, .slice ra m rcap] m jv wk) (fun jv _ => m - (intOf jv).toNat)
    case atStart => exact ⟨0, Nat.zero_le _, rfl, S, E1, HM1.out.1, by rw [HM1.out.2.1, HQ.out.2.1]; rfl, HM1.out.2.2.1, HM1.out.2.2.2⟩
    case round =>
     clear HM1 HBx HXx HGx EGX y2
     obtain ⟨j, hj, rfl, hin⟩ := hrel
     obtain ⟨S1, E2, hM2, hA2, hbx, hng⟩ := hin.out
     have HM2 := qH (And.intro hM2 (And.intro hA2 (And.intro hbx hng)))
     clear hin hM2 hA2 hbx hng
     by_cases hlt2 : j < m
     ·obtain ⟨ss, hss⟩ : ∃ ss, q.2.2.1[j]? = some ss := ⟨_, qG (by rw [HQ.out.2.2.2]; exact hlt2)⟩
      obtain ⟨g, o, xa, xcap, era, d0, d1, d2, d3⟩ := HRows.out.get hss
      subst era
      replace d0 := HM2.out.1.ext.cell d0 id
      obtain ⟨k, ek⟩ : ∃ k, ss.length = k := ⟨_, rfl⟩
      rw [ek] at d0
      have HSS := qH (And.intro hss ek)
      have HRow := qH (And.intro d1 (And.intro d2 d3))
      have y0 := HM2.out.2.2.1.c0
      clear hss ek d1 d2 d3
      go_wp2_with fail
      refine (aC2 HM2.out.1.base s (ao := xa) (k := k) (cap := xcap) (ss := ss) ⟨⟨HSS.out.2.symm, HRow.out.1.ext HM2.out.1.ext⟩, HRow.out.2.1, fun a e hne => Nat.lt_of_lt_of_le (cells_lt HRow.out.1 (fun h => hne (by show k = 0; rw [<- HSS.out.2, h]; rfl)) a e) HM2.out.1.ext.size⟩ (fun a e hne ho => by
       have h1 := HM2.out.1.own _ ho
       have h2 := cells_lt HRow.out.1 (fun h => hne (by show k = 0; rw [<- HSS.out.2, h]; rfl)) a e
       omega)).mono ?_
      rintro e w3 ⟨v, rfl, hk3, rfl, S3, E3, hs1, hs2, hB3, hC3, ho3⟩
      have hgx : gx < wr.heap.size := HM2.out.2.2.1.lt
      have hM3 : MyBase w S3 w3 bb r E3 :=
       {base := hB3
        ext := HM2.out.1.ext.trans' hk3 fun k hk ho => by have := HM2.out.1.own k ho; omega
        pool := fun k hk => by
         rcases hs2 k hk with h1 | h1
         ·exact HM2.out.1.pool k h1
         ·have := HM2.out.1.ext.size; omega
        own := fun k hk => by
         rcases ho3 k hk with h1 | h1
         ·exact HM2.out.1.own k h1
         ·have := HM2.out.1.ext.size; omega }
      have hb3 : Blk w3 gx [.string s, .int .i64 a, .slice (some ⟨g, o, none⟩) m rcap] 111 := HM2.out.2.2.1.kp hk3 HM2.out.2.2.2
      have hng : ¬ iG bb r E3 gx := fun ho => by
       rcases ho3 gx ho with h1 | h1
       ·exact HM2.out.2.2.2 h1
       ·omega
      have HM3 := qH (And.intro hM3 (And.intro hC3 (And.intro hb3 hng)))
      clear hk3 hB3 hC3 ho3 hgx hM3 hng hb3 hs1 hs2 y0 d0
      obtain ⟨x1, ex1⟩ : ∃ x, (eY (aR E2) s ss).1 = x := ⟨_, rfl⟩
      obtain ⟨x2, ex2⟩ : ∃ x, (eY (aR E2) s ss).2 = x := ⟨_, rfl⟩
      rw [ex1, ex2]
      have EX := qH ex2
      clear ex1 ex2
      have hdj : q.2.2.1.drop j = ss :: q.2.2.1.drop (j + 1) := drop_at HSS.out.1
      have HDj := qH hdj
      clear hdj
      by_cases hx : x2 = 0
      ·have q1 : ((x2 : Int) != 0) = false := by simp [hx]
       have HX := qH hx
       clear hx
       go_wp2
       go_roundw
       case rel =>
        refine ⟨j + 1, by omega, by first | rfl | (congr 1; done) | (congr 1; omega), S3, E3, HM3.out.1, ?_, HM3.out.2.2.1, HM3.out.2.2.2⟩
        rw [HM3.out.2.1, <- HM2.out.2.1, HDj.out, HQ.out.2.1]
        exact (aIe (by rw [EX.out]; exact HX.out)).symm
       case measure => simp [intOf]; omega
      ·have q1 : ((x2 : Int) != 0) = true := by simp; omega
       have HX := qH hx
       clear hx
       go_wp2
       go_ret2
       have hall := HM2.out.2.1
       rw [HDj.out, HQ.out.2.1, aFm (by rw [EX.out]; exact HX.out), EX.out] at hall
       have hfr : gP [] L = (aR E2, x2) := by
        rw [<- HF.out, HDr.out, aJx (by rw [HQ.out.2.1, HQ.out.2.2.1, ED.out]; exact HD.out) (by rw [HQ.out.2.1, HQ.out.2.2.1, <- hall]; exact HX.out), HQ.out.2.1, HQ.out.2.2.1, <- hall]
       exact RetN.mk HM3.out.1.ext ⟨fun h0 => by rw [hfr] at h0; exact absurd h0 HX.out, fun _ => by rw [hfr]; rfl⟩
     ·obtain rfl : j = m := by omega
      have hall := HM2.out.2.1
      rw [List.drop_of_length_le (by rw [HQ.out.2.2.2]; exact Nat.le_refl _)] at hall
      have hall' : fN (gR (aR E) s a) s q.2.2.1 = (aR E2, 0) := hall.symm
      have HAll := qH hall'
      clear hall hall'
      go_wp2
      go_roundw
      case rel =>
       refine ⟨i + 1, by omega, by first | rfl | (congr 1; done) | (congr 1; omega), S1, E2, HM2.out.1, ?_⟩
       rw [<- HF.out, HDr.out, aK6 (by rw [HQ.out.2.1, HQ.out.2.2.1, ED.out]; exact HD.out) (by rw [HQ.out.2.1, HQ.out.2.2.1, HAll.out]), HQ.out.2.1, HQ.out.2.2.1, HAll.out]
      case measure => simp [intOf]; omega
   ·have q1 : ((d : Int) != 0) = true := by simp; omega
    have HD := qH hd
    clear hd
    go_wp2
    go_ret2
    have hfr : gP [] L = (aR E, d) := by
     rw [<- HF.out, drop_at HQ.out.1, aJy (by rw [HQ.out.2.1, HQ.out.2.2.1, ED.out]; exact HD.out), HQ.out.2.1, HQ.out.2.2.1, ED.out]
    exact RetN.mk HM1.out.1.ext ⟨fun h0 => by rw [hfr] at h0; exact absurd h0 HD.out, fun _ => by rw [hfr]; rfl⟩
  ·obtain rfl : i = n := by omega
   have hfr : gP [] L = (aR E, 0) := by
    rw [<- HF.out, List.drop_of_length_le (by rw [<- HN.out]; exact Nat.le_refl _)]; rfl
   have HFr := qH hfr
   clear hfr
   go_wp2
   go_ret2
   exact RetN.mk HM.out.ext ⟨fun _ => ⟨bb, r, S, E, rfl, HM.out.base, by rw [HFr.out], HM.out.pool, HM.out.own⟩, fun h0 => absurd (by rw [HFr.out]) h0⟩
end
section
open Go.RowKit Go.Shelf
attribute [local go_sem] Oper.semAt_some
def aFy (L : aC) : Bool := L.all fun V => V.all fun s => decide (s.size ≤ 1048576)
theorem nO {L : aC} (h : aFy L = true) : ∀ V ∈ L, ∀ s ∈ V, s.size ≤ 1048576 := fun V hV s hs => of_decide_eq_true (List.all_eq_true.1 (List.all_eq_true.1 h V hV) s hs)
def okR (r : bM) (C : List bG) : Bool := decide ((cF r C).length ≤ 1048576) && (aFy (cF r C) && aFy ((cF r C).map fun V => aY (aA r.2.1) V r.1.2.1))
def aLk (e : Nat) (A : aC) (w w' : World) (v : Value) : Prop := (e ≠ 0 /\ v = .tuple #[.slice none 0 0, .int .i64 (e : Nat)]) \/ (e = 0 /\ ∃ a c, v = .tuple #[.slice a A.length c, .int .i64 0] /\ OwnRows w.heap.size w' (.slice a A.length c) A)
set_option maxHeartbeats 4000000 in
theorem aJz {S : Nat -> Prop} {w : World} {p : ByteArray} {hs : List aE} {ls : List aM} {ha ba : Option Addr} {hn hcap n bcap : Nat} {G : Nat -> Prop} {ob : Addr} {E : List Ent} {C : List bG} {e : Nat} {A : aC} (hhn : hn = hs.length) (hh : aU w G ha hs) (hhl : hn ≤ 1048576) (hbn : n = ls.length) (h : cD w G ba ls) (hf : Fit ls) (hnv : (aA ls).length ≤ 1048576) (hn16 : n ≤ 1048576)
 (hB : BaseV S w (.pointer (some ob)) E) (hC : aR E = C) (hok : (hs.any fun t => decide (4 ≤ t.1)) = true -> okR ((p, hs, ()), ls, ()) C = true) (hN : NumW w) (hM : dD ((p, hs, ()), ls, ()) false (cF ((p, hs, ()), ls, ()) C) = (e, A)) :
 Calls Tryz.prog 21 #[dL p ha hn hcap ba n bcap, .pointer (some ob)] w (RetN w fun w' v => aLk e A w w' v) := by
 have HF := qH (fun W (hW : Ext w W) => vV (hcap := hcap) (bcap := bcap) (p := p) (L := cF ((p, hs, ()), ls, ()) C) hhn (hh.ext hW) hhl hbn (h.ext hW) hf hnv hn16 (hB.ext hW) (by have := vS ((p, hs, ()), ls, ()) E; rw [hC] at this; exact this) (hN.ext hW) (fun ha => by
  have h2 := hok ha
  unfold okR at h2
  rw [Bool.and_eq_true, Bool.and_eq_true, decide_eq_true_eq] at h2
  exact ⟨h2.1, nO h2.2.1, fun V hV => nO h2.2.2 _ (List.mem_map.2 ⟨V, hV, rfl⟩)⟩))
 rw [show (some ob).isNone = false from rfl, hM] at HF
 clear hhn hh hhl hbn h hf hnv hn16 hB hC hok hN hM
 obtain ⟨gb, egb⟩ : ∃ g, w.heap.size = g := ⟨_, rfl⟩
 obtain ⟨w1, e1⟩ : ∃ x, w.alloc (.cells #[.string p, .slice ha hn hcap, .slice ba n bcap] 43) = x := ⟨_, rfl⟩
 have x1 : Ext w w1 := by rw [<- e1]; exact (Kp.refl w).alloc _
 have hB1 : Blk w1 gb [.string p, .slice ha hn hcap, .slice ba n bcap] 43 := by rw [<- e1, <- egb]; exact Blk.new w _ _
 have H1 := qH x1
 have r0 := hB1.c0
 have r1 := hB1.c1
 have r2 := hB1.c2
 clear x1 hB1
 go_enter Tryz.func21, Tryz.ntmps21
 go_wp2_with fail
 clear e1
 refine (HF.out w1 H1.out).mono ?_
 rintro e2 w2 ⟨v2, rfl, hk2, hO⟩
 have HX := qH (H1.out.trans hk2)
 have hsz := H1.out.size
 have hO2 := hO
 clear hO hk2 r0 r1 r2
 unfold FactsR at hO2
 rcases hO2 with ⟨he, rfl⟩ | ⟨rfl, rb, iv, S2, rfl, hR, hrb, hS, hv⟩
 ·have HE := qH he
  have hnn : (binOp .eql 73 (.pointer none) (.pointer none)).run Tryz.prog w2 = .ok (.bool true) w2 := by kernel_rfl
  clear he
  go_wp2_with fail
  refine (nW (e : Nat) w2).mono ?_
  rintro e5 w5 ⟨v5, rfl, hk5, rfl⟩
  have X5 := qH (HX.out.trans hk5)
  clear hk5
  go_wp2_with fail
  go_ret2
  exact RetN.mk X5.out (.inl ⟨HE.out, rfl⟩)
 ·have HA := qH (qN (hR.q (z := False)))
  have hnn : (binOp .eql 73 (.pointer (some ⟨rb, 0, none⟩)) (.pointer none)).run Tryz.prog w2 = .ok (.bool false) w2 := by kernel_rfl
  have HZ := qH HX.out.size
  clear hR hrb hS hv
  go_wp2_with fail
  refine HA.out.mono ?_
  rintro e5 w5 ⟨v5, rfl, hk5, _, hA⟩
  obtain ⟨aa, ac, ea, -⟩ := hA.shape
  subst ea
  have X5 := qH (And.intro (HX.out.trans (hk5.mono fun k _ f => f.1)) (OwnRows.mono hA HZ.out))
  clear hk5 hA
  go_wp2_with fail
  refine (nW 0 w5).mono ?_
  rintro e6 w6 ⟨v6, rfl, hk6, rfl⟩
  have X6 := qH (And.intro (X5.out.1.trans hk6) (X5.out.2.ext hk6))
  clear hk6
  go_wp2_with fail
  go_ret2
  exact RetN.mk X6.out.1 (.inr ⟨rfl, aa, ac, rfl, X6.out.2⟩)
set_option maxHeartbeats 4000000 in
theorem is15R {S : Nat -> Prop} {w : World} {p : ByteArray} {hs : List aE} {ls : List aM} {ha ba wa : Option Addr} {hn hcap n bcap wn wc : Nat} {G : Nat -> Prop} {ob : Addr} {E : List Ent} {C : List bG} {e : Nat} {A B : aC} (hhn : hn = hs.length) (hh : aU w G ha hs) (hhl : hn ≤ 1048576) (hbn : n = ls.length) (h : cD w G ba ls) (hf : Fit ls) (hnv : (aA ls).length ≤ 1048576) (hn16 : n ≤ 1048576)
 (hB : BaseV S w (.pointer (some ob)) E) (hC : aR E = C) (hok : (hs.any fun t => decide (4 ≤ t.1)) = true -> okR ((p, hs, ()), ls, ()) C = true) (hN : NumW w) (hM : dD ((p, hs, ()), ls, ()) false (cF ((p, hs, ()), ls, ()) C) = (e, A)) (hAl : A.length ≤ 1048576) (hwn : wn = B.length) (hW : RowsIn TT w wa B) :
 Calls Tryz.prog 27 #[dL p ha hn hcap ba n bcap, .pointer (some ob), .slice wa wn wc] w (RetN w fun w' v => v = .bool (decide (e = 0 /\ A = B))) := by
 have HF := qH (fun W (hx : Ext w W) => aJz (hcap := hcap) (bcap := bcap) (p := p) hhn (hh.ext hx) hhl hbn (h.ext hx) hf hnv hn16 (hB.ext hx) hC hok (hN.ext hx) hM)
 have HW := qH (And.intro hwn (And.intro hW hAl))
 clear hhn hh hhl hbn h hf hnv hn16 hB hC hok hN hM hwn hW hAl
 obtain ⟨gb, egb⟩ : ∃ g, w.heap.size = g := ⟨_, rfl⟩
 obtain ⟨w1, e1⟩ : ∃ x, w.alloc (.cells #[.string p, .slice ha hn hcap, .slice ba n bcap] 43) = x := ⟨_, rfl⟩
 have x1 : Ext w w1 := by rw [<- e1]; exact (Kp.refl w).alloc _
 have hB1 : Blk w1 gb [.string p, .slice ha hn hcap, .slice ba n bcap] 43 := by rw [<- e1, <- egb]; exact Blk.new w _ _
 have H1 := qH x1
 have r0 := hB1.c0
 have r1 := hB1.c1
 have r2 := hB1.c2
 clear x1 hB1
 go_enter Tryz.func27, Tryz.ntmps27
 go_wp2_with fail
 clear e1
 refine (HF.out w1 H1.out).mono ?_
 rintro e2 w2 ⟨v2, rfl, hk2, hO⟩
 have HX := qH (H1.out.trans hk2)
 clear r0 r1 r2 hk2
 rcases hO with ⟨he, rfl⟩ | ⟨rfl, aa, ac, rfl, hA⟩
 ·have h0 : ((e : Int) == 0) = false := by simp; omega
  have HE := qH he
  clear he
  go_wp2_with fail
  go_ret
  exact RetN.mk HX.out (by rw [decide_eq_false (fun h => HE.out h.1)]; rfl)
 ·obtain ⟨a2, c2, ea, hRI⟩ := hA.shape
  cases ea
  have HAl := qH (aC7 (w := w2) (n := A.length) (m := wn) (acap := ac) (bcap := wc) rfl HW.out.1 hRI (HW.out.2.1.ext HX.out) (by have := HW.out.2.2; omega))
  clear hA hRI
  go_wp2_with fail
  refine HAl.out.mono ?_
  rintro e5 w5 ⟨v5, rfl, hk5, rfl⟩
  have X5 := qH (HX.out.trans hk5)
  clear hk5
  by_cases hab : A = B
  ·have hd : decide (A = B) = true := decide_eq_true hab
   rw [hd]
   have HE := qH hab
   clear hab hd
   go_wp2_with fail
   go_ret
   exact RetN.mk X5.out (by rw [decide_eq_true HE.out]; rfl)
  ·have hd : decide (A = B) = false := decide_eq_false hab
   rw [hd]
   have HE := qH hab
   clear hab hd
   go_wp2_with fail
   go_ret
   exact RetN.mk X5.out (by rw [decide_eq_false HE.out]; rfl)
end
end Go.Proofs.YtikgpedgmnbcaaaGreatDoor
