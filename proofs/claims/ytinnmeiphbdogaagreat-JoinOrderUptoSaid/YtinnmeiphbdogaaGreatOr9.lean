/- Texts joined for a claim (JNamed, JRename, JRenPlain, JPath, JAwake, JOrder2). -/
import Derived.Test.YtinnmeiphbdogaaGreatOr8
import Derived.Deep.QuietTactic
set_option linter.unusedVariables false
set_option linter.unusedSimpArgs false
/- The law of joins: named: the bindings of a rule as texts in which the variables stand in a given order, rising. -/
namespace Go.Proofs.YtinnmeiphbdogaaGreat
open Go.RowKit Go.Shelf
attribute [local go_sem] Oper.semAt_some
section
variable {P : Program} {l n : Nat}
theorem aA6 {id : Nat} {ops : List Oper} {Q : Exit -> Act -> World -> Prop} {a : Act} {w : World} (hm : P.follows .mixedOrders = true) (hB : Region.lexB .any ops.toArray = true) (hd : tI ops = true) (hQ : ∀ a w, ¬ Q .outgrown a w)
 (h : wpQuiet P ops.toArray (fun w' => ∃ n, w' = w.drewN n) (fun a' => ∀ w', (∃ n, w' = w.drewN n) -> Q .normal a' w') ops a) : (Code.region id ops.toArray true).wpIn (Fence.wide.inRound l) n P Q a w := by
 simp only [Region.lexB, Bool.and_eq_true] at hB
 refine wpIn_region_any hm (dX hd hQ _ _ _ _ (wpAny_of_quiet (C := fun w' => ∃ n, w' = w.drewN n) (Q := fun a' => ∀ w', (∃ n, w' = w.drewN n) -> Q .normal a' w') (fun _ w' hw' h => h w' hw') _ _ _ _ ⟨1, rfl⟩ ?_))
 have := wpAnyQ_lex (C := fun w' => ∃ n, w' = w.drewN n) (md := .any) hB.1 ops.toArray.toList 0 (Array.replicate ops.toArray.size false) a (by simp) (by simpa using hB.2) (by simpa using h)
 simpa using this
end
theorem tQ {α β : Type} : ∀ (k : Nat) (N : List α) (V : List β), (N.take k).zip (V.take k) = (N.zip V).take k
 | 0, N, V => by simp
 | k + 1, [], V => by simp
 | k + 1, n :: N, [] => by simp
 | k + 1, n :: N, v :: V => by
  show (n, v) :: (N.take k).zip (V.take k) = (n, v) :: (N.zip V).take k
  rw [tQ k N V]
theorem aGa {N V : List ByteArray} {s nm n v : ByteArray} {k : Nat} (hn : N[k]? = some n) (hv : V[k]? = some v) : gD (N.take (k + 1)) (V.take (k + 1)) s nm = mQ nm (gD (N.take k) (V.take k) s nm) (n, v) := by
 unfold gD
 rw [tQ, tQ]
 exact kT _ _ (by rw [List.getElem?_zip_eq_some]; exact ⟨hn, hv⟩)
theorem aIj {N V : List ByteArray} {s nm : ByteArray} {k : Nat} (hn : N.length ≤ k) (hv : V.length ≤ k) : gD (N.take k) (V.take k) s nm = gD N V s nm := by
 rw [List.take_of_length_le hn, List.take_of_length_le hv]
theorem uK {N V : List ByteArray} (hN : N.Nodup) (hV : ∀ x ∈ V, x.size ≤ 4096) (s nm : ByteArray) : (gD N V s nm).size ≤ s.size + 4097 := by
 by_cases hx : ∃ x, Val N V nm x
 ·obtain ⟨x, hx⟩ := hx
  rw [nY N V s nm x hN hx, ByteArray.size_append, ByteArray.size_append, show (⟨#[59]⟩ : ByteArray).size = 1 from rfl]
  obtain ⟨k, _, h2⟩ := hx
  have := hV x (List.mem_of_getElem? h2)
  omega
 ·rw [kL N V s nm fun x h2 => hx ⟨x, h2⟩]; omega
theorem aGc {N V : List ByteArray} (hN : N.Nodup) (hV : ∀ x ∈ V, x.size ≤ 4096) (s nm : ByteArray) (k : Nat) : (gD (N.take k) (V.take k) s nm).size ≤ s.size + 4097 :=
 uK (hN.sublist (List.take_sublist _ _)) (fun x hx => hV x (List.mem_of_mem_take hx)) s nm
theorem aBb {N V : List ByteArray} (hN : N.Nodup) (hV : ∀ x ∈ V, x.size ≤ 4096) (names : List ByteArray) : ∀ i, (fS N V (names.take i)).size ≤ i * 4097 := by
 intro i
 induction i with
 | zero => exact Nat.zero_le _
 | succ i ih =>
  rw [Nat.succ_mul]
  generalize i * 4097 = m at ih ⊢
  cases hx : names[i]? with
  | none =>
   rw [List.take_add_one, hx, Option.toList_none, List.append_nil]
   exact Nat.le_trans ih (Nat.le_add_right _ _)
  | some nm =>
   have e : fS N V (names.take (i + 1)) = gD N V (fS N V (names.take i)) nm := kT _ _ hx
   rw [e]
   have := uK hN hV (fS N V (names.take i)) nm
   omega
theorem aAq {X W : World} {b : Nat} {ao : Option Addr} {ss : List ByteArray} {a : Option Addr} {n c : Nat} {t : TypeId} (h : CellsAt X ao (strs ss)) (hb : Blk X b [.slice a n c] t) (hk : Kp (fun k => k = b) X W) : CellsAt W ao (strs ss) := fun i u hu => by
 obtain ⟨b', off, e, hc⟩ := h i u hu
 have hu' : ∃ s, u = .string s := by
  unfold strs at hu
  rw [List.getElem?_map] at hu
  cases hs : ss[i]? with
  | none => rw [hs] at hu; cases hu
  | some s => rw [hs] at hu; cases hu; exact ⟨s, rfl⟩
 obtain ⟨s, rfl⟩ := hu'
 have hne : b' ≠ b := fun e2 => by
  rw [e2, hb.cell'] at hc
  cases hq : off + i with
  | zero => rw [hq] at hc; cases hc
  | succ j => rw [hq] at hc; cases hc
 exact ⟨b', off, e, hk.cell hc hne⟩
def kD (N names : List ByteArray) (pre : List XB) : List ByteArray := oX cQ (pre.map fun x => fS N x.2 names)
theorem aBq (N names : List ByteArray) (pre : List XB) (x : XB) : kD N names (pre ++ [x]) = bM cQ (kD N names pre) (fS N x.2 names) := by
 unfold kD
 rw [List.map_append]
 exact aGk _ _
noncomputable def xS : Code := ((Tryz.f14.body.bind cJ).getD .skip)
set_option maxRecDepth 100000 in
theorem lit57 (t : Array Value) (h : t.size = 57) : ∃ u : Nat -> Value, (∀ i, t.getD i undef = u i) /\ t = #[u 0, u 1, u 2, u 3, u 4, u 5, u 6, u 7, u 8, u 9, u 10, u 11, u 12, u 13, u 14, u 15, u 16, u 17, u 18, u 19, u 20, u 21, u 22, u 23, u 24, u 25, u 26, u 27, u 28, u 29, u 30, u 31, u 32, u 33, u 34, u 35, u 36, u 37, u 38, u 39, u 40, u 41, u 42, u 43, u 44, u 45, u 46, u 47, u 48, u 49, u 50, u 51, u 52, u 53, u 54, u 55, u 56] := by
 refine ⟨fun i => t.toList.getD i undef, fun i => by simp [Array.getD_eq_getD_getElem?, List.getD_eq_getElem?_getD], ?_⟩
 apply Array.ext'
 have := kN t.toList 57 (by simpa using h)
 exact this
def NmOut (X : World) (N V names : List ByteArray) (q : Nat) (sv iv : Value) (W : World) : Prop := ∃ i : Nat, i ≤ q /\ iv = .int .i64 i /\ sv = .string (fS N V (names.take i)) /\ Hid (Ext X W)
def NmIn (X : World) (N V : List ByteArray) (s nm : ByteArray) (m : Nat) (sv kv : Value) (W : World) : Prop := ∃ k : Nat, k ≤ m /\ kv = .int .i64 k /\ sv = .string (gD (N.take k) (V.take k) s nm) /\ Hid (Ext X W)
set_option maxRecDepth 100000 in
set_option maxHeartbeats 8000000 in
theorem aBp {X : World} {b5 bn bv l : Nat} {xa na va : Option Addr} {xc nc vc : Nat} {V ss N names : List ByteArray} {v : Value} {M : Nat -> Prop} {t : Array Value} {Qn : World -> Prop}
 (h5 : Blk X b5 [v] 34) (hr : Row X 9 1 v ss.length (strs ss) M) (hn : ss.length ≤ 1048576 * 1048576) (hst : Strict cQ ss) (hV : CellsAt X xa (strs V)) (hVl : V.length = N.length) (hNl : N.length ≤ 1048576) (hVs : ∀ s ∈ V, s.size ≤ 4096) (hNd : N.Nodup)
 (hbn : Blk X bn [.slice na names.length nc] 34) (hbv : Blk X bv [.slice va N.length vc] 34) (hcn : CellsAt X na (strs names)) (hcv : CellsAt X va (strs N)) (hnl : names.length ≤ 1048576)
 (hz : t.size = 57) (t8 : t.getD 8 undef = .pointer (some ⟨b5, 0, none⟩)) (t9 : t.getD 9 undef = .slice xa V.length xc) (t5 : t.getD 5 undef = .pointer (some ⟨bn, 0, none⟩)) (t7 : t.getD 7 undef = .pointer (some ⟨bv, 0, none⟩))
 (hQn : ∀ X', Kp (fun k => k = b5) X X' -> (∃ v', Blk X' b5 [v'] 34 /\ Row X' 9 1 v' (bM cQ ss (fS N V names)).length (strs (bM cQ ss (fS N V names))) (fun g => X.heap.size ≤ g)) -> Qn X') :
 xS.wpIn (Fence.wide.inRound l) 2 Tryz.prog (gY Qn fun _ => False) { tmps := t, defers := [] } X := by
 obtain ⟨u, hu, rfl⟩ := lit57 t hz
 have e5 := (hu 8).symm.trans t8
 have e6 := (hu 9).symm.trans t9
 have e7 := (hu 5).symm.trans t5
 have e8 := (hu 7).symm.trans t7
 rw [e5, e6, e7, e8]
 clear hz t8 t9 t5 t7 e5 e6 e7 e8 hu
 obtain ⟨oa, oc, ev, _, _⟩ := hr.shape
 subst ev
 obtain ⟨n, en⟩ : ∃ n, ss.length = n := ⟨_, rfl⟩
 rw [en] at h5 hr
 have HQ := qH hQn
 have H0 := qH (And.intro h5 hr)
 have HP := qH (fun W (hW : Ext X W) (s : ByteArray) => aIe (s := s) (w := W) hst (by rw [en]; exact hr.ext hW) hn)
 have HV := qH (And.intro hV hVs)
 have HB := qH (And.intro hbn hbv)
 have HC := qH (And.intro hcn hcv)
 have HNd := qH hNd
 obtain ⟨m, em⟩ : ∃ m, V.length = m := ⟨_, rfl⟩
 obtain ⟨q, eq⟩ : ∃ q, names.length = q := ⟨_, rfl⟩
 have eN : N.length = m := by rw [<- em]; exact hVl.symm
 rw [eN] at hNl HB
 rw [eq] at hnl HB
 rw [em]
 have HM := qH (And.intro em (And.intro eN eq))
 clear hQn h5 hr hV hVs em hst hn en hbn hbv hcn hcv hVl eq eN hNd
 conv => arg 4; whnf
 gi_wp2
 gi_loopw [10, 11] (fun sv iv wr => NmOut X N V names q sv iv wr) (fun _ iv _ => q - (intOf iv).toNat)
 case atStart => exact ⟨0, Nat.zero_le _, rfl, rfl, qH (Kp.refl _)⟩
 case round =>
  obtain ⟨i, hi, rfl, rfl, hex⟩ := hrel
  have n0 : wr.cell? ⟨bn, 0, none⟩ = some (.slice na q nc) := by rw [(HB.out.1.ext hex.out).cell']; rfl
  by_cases hlt : i < q
  ·obtain ⟨nm, hnm⟩ : ∃ x, names[i]? = some x := ⟨_, qG (by rw [HM.out.2.2]; exact hlt)⟩
   have HNm := qH hnm
   have HX := qH (show fS N V (names.take (i + 1)) = gD N V (fS N V (names.take i)) nm from kT _ _ hnm)
   have hs1 := aBb HNd.out HV.out.2 names i
   obtain ⟨sa, esa⟩ : ∃ s, fS N V (names.take i) = s := ⟨_, rfl⟩
   rw [esa] at HX hs1 ⊢
   have HS := qH (show sa.size ≤ 1048576 * 4097 from by omega)
   have i1 : (i : Int) < (q : Int) := by omega
   clear hnm hs1 esa
   gi_wp2
   gi_loopw [10, 12] (fun sv kv wr => NmIn X N V sa nm m sv kv wr) (fun _ kv _ => m - (intOf kv).toNat)
   case atStart => exact ⟨0, Nat.zero_le _, rfl, rfl, hex⟩
   case round =>
    clear n0 hex
    obtain ⟨k, hk, rfl, rfl, hex⟩ := hrel
    have v0 : wr.cell? ⟨bv, 0, none⟩ = some (.slice va m vc) := by rw [(HB.out.2.ext hex.out).cell']; rfl
    have n0 : wr.cell? ⟨bn, 0, none⟩ = some (.slice na q nc) := by rw [(HB.out.1.ext hex.out).cell']; rfl
    by_cases hkl : k < m
    ·obtain ⟨n1, hn1⟩ : ∃ x, N[k]? = some x := ⟨_, qG (by rw [HM.out.2.1]; exact hkl)⟩
     obtain ⟨x1, hx1⟩ : ∃ x, V[k]? = some x := ⟨_, qG (by rw [HM.out.1]; exact hkl)⟩
     obtain ⟨xb, xo, exa, xc0⟩ := (HV.out.1.ext hex.out) k (.string x1) (by simp [strs, hx1])
     subst exa
     obtain ⟨nb, no, ena, nc0⟩ := (HC.out.1.ext hex.out) i (.string nm) (by simp [strs, HNm.out])
     subst ena
     obtain ⟨vb, vo, eva, vc0⟩ := (HC.out.2.ext hex.out) k (.string n1) (by simp [strs, hn1])
     subst eva
     have HT := qH (aGa (s := sa) (nm := nm) hn1 hx1)
     have hs2 := aGc HNd.out HV.out.2 sa nm k
     have hs3 := HS.out
     have hs4 := HV.out.2 x1 (List.mem_of_getElem? hx1)
     obtain ⟨sb, esb⟩ : ∃ s, gD (N.take k) (V.take k) sa nm = s := ⟨_, rfl⟩
     rw [esb] at HT hs2 ⊢
     have k1 : (k : Int) < (m : Int) := by omega
     clear hn1 hx1 esb
     by_cases hq : n1 = nm
     ·have hb := str_eq n1
      subst hq
      have HT2 := qH (show mQ n1 sb (n1, x1) = sb ++ x1 ++ ⟨#[59]⟩ from if_pos rfl)
      gi_wp2
      refine aA6 (by kernel_rfl) (by kernel_rfl) (by kernel_rfl) (fun _ _ h => h) ?_
      repeat (quiet_step (fail))
      refine wpQuiet_nil ?_
      intro _ hw'
      obtain ⟨nq, hw''⟩ := hw'
      subst hw''
      have HW := qH (show Ext X (wr.drewN nq) from hex.out.drewN _)
      obtain ⟨wq, ewq⟩ : ∃ w, wr.drewN nq = w := ⟨_, rfl⟩
      rw [ewq] at HW ⊢
      have xc1 : wq.cell? ⟨xb, xo + k, none⟩ = some (.string x1) := by rw [<- ewq]; exact xc0
      have hadd1 : (Op.stringOp .add sb x1).run Tryz.prog wq = .ok (.string (sb ++ x1)) wq := run_string_add_sum _ _ _ (by omega)
      have hadd2 : (Op.stringOp .add (sb ++ x1) ⟨#[59]⟩).run Tryz.prog wq = .ok (.string (sb ++ x1 ++ ⟨#[59]⟩)) wq := run_string_add_sum _ _ _ (by rw [ByteArray.size_append]; have h3 : (⟨#[59]⟩ : ByteArray).size = 1 := rfl; omega)
      clear xc0 nc0 vc0 v0 n0 hs2 hs3 hs4 ewq hex
      gi_wp2
      go_roundw
      case rel => exact ⟨k + 1, by omega, by first | rfl | (congr 1; done) | (congr 1; omega), by rw [HT.out, HT2.out], HW⟩
      case measure => simp [intOf]; omega
     ·have hb := iZ hq
      have HT2 := qH (show mQ nm sb (n1, x1) = sb from if_neg hq)
      clear hq
      gi_wp2
      refine aA6 (by kernel_rfl) (by kernel_rfl) (by kernel_rfl) (fun _ _ h => h) ?_
      repeat (quiet_step (fail))
      refine wpQuiet_nil ?_
      intro _ hw'
      obtain ⟨nq, hw''⟩ := hw'
      subst hw''
      have HW := qH (show Ext X (wr.drewN nq) from hex.out.drewN _)
      obtain ⟨wq, ewq⟩ : ∃ w, wr.drewN nq = w := ⟨_, rfl⟩
      rw [ewq] at HW ⊢
      clear xc0 nc0 vc0 v0 n0 hs2 hs3 hs4 ewq hex
      gi_wp2
      go_roundw
      case rel => exact ⟨k + 1, by omega, by first | rfl | (congr 1; done) | (congr 1; omega), by rw [HT.out, HT2.out], HW⟩
      case measure => simp [intOf]; omega
    ·obtain rfl : k = m := by omega
     have HA := qH (aIj (s := sa) (nm := nm) (show N.length ≤ k from by rw [HM.out.2.1]; exact Nat.le_refl _) (show V.length ≤ k from by rw [HM.out.1]; exact Nat.le_refl _))
     rw [HA.out]
     obtain ⟨sb, esb⟩ : ∃ s, gD N V sa nm = s := ⟨_, rfl⟩
     rw [esb] at HX ⊢
     clear hk hkl HA esb
     gi_wp2
     go_roundw
     case rel => exact ⟨i + 1, by omega, by first | rfl | (congr 1; done) | (congr 1; omega), by rw [HX.out], hex⟩
     case measure => simp [intOf]; omega
  ·obtain rfl : i = q := by omega
   have hall : names.take i = names := List.take_of_length_le (by rw [HM.out.2.2]; exact Nat.le_refl _)
   rw [hall]
   obtain ⟨s, es⟩ : ∃ s, fS N V names = s := ⟨_, rfl⟩
   rw [es] at HQ ⊢
   have b0 : wr.cell? ⟨b5, 0, none⟩ = some (.slice oa n oc) := by rw [(H0.out.1.ext hex.out).cell']; rfl
   have HC := qH (HP.out wr hex.out s)
   clear hall es hi hlt
   gi_wp2
   refine And.intro trivial ?_
   refine (CallsIn.inRound l (callsIn_wide.2 HC.out)).mono ?_
   rintro e w6 ⟨v6, rfl, hk6, hr6⟩
   have hB6 : Blk w6 b5 [.slice oa n oc] 34 := (H0.out.1.ext hex.out).ext hk6
   have c6 : w6.cell? ⟨b5, 0, none⟩ = some (.slice oa n oc) := by rw [hB6.cell']; rfl
   have f6 := hB6.free 0
   obtain ⟨la, lcap, elv, _, _⟩ := hr6.shape
   subst elv
   obtain ⟨nn, enn⟩ : ∃ k, (bM cQ ss s).length = k := ⟨_, rfl⟩
   rw [enn] at hr6 ⊢
   have H6 := qH (And.intro (show Row w6 9 1 (.slice la nn lcap) nn (strs (bM cQ ss s)) (New X) from hr6.mono fun g hg => Nat.le_trans hex.out.size hg) (And.intro (hex.out.trans hk6) (And.intro hB6 enn)))
   clear hr6 hk6 hB6 b0 enn
   gi_wp2
   have ks : Kp (fun k => k = b5) w6 (w6.setCell ⟨b5, 0, none⟩ (.slice la nn lcap)) := Kp.setCell (F := fun k => k = b5) (p := ⟨b5, 0, none⟩) (Kp.refl w6) (fun _ => rfl) _
   refine HQ.out _ ((Ext.kp H6.out.2.1).trans ks) ⟨_, H6.out.2.2.1.set 0 _, ?_⟩
   rw [H6.out.2.2.2]
   refine H6.out.1.kp' ks fun g hg _ e2 => ?_
   obtain ⟨cs, hb⟩ := aR H6.out.1 hg
   rw [show g = b5 from e2] at hb
   exact absurd (aT hb H6.out.2.2.1) (by decide)
theorem aGp {w W : World} {P : World -> Value -> Prop} {tmps : Array Value} {ds : List Deferred} {lo : Nat} {v : Value} (hm : Marks lo W ds) (hk : Ext w W) (hlo : w.heap.size ≤ lo) (h4 : tmps.getD 6 undef = v)
 (hP : ∀ w', Ext w w' -> Kp (fun k => lo ≤ k /\ ¬ iH W k) W w' -> P w' v) :
 bodyPostM Fence.wide 4 Tryz.prog Tryz.f14 (RetN w P) .ret { tmps := tmps, defers := ds } W := by
 refine gE hm fun w' e1 e2 e3 e4 e5 e6 => ?_
 have kx : Kp (fun k => lo ≤ k /\ ¬ iH W k) W w' := ⟨e1, e2, e3, by omega, fun k hk hf => by
  by_cases h : lo ≤ k
  ·by_cases h2 : ∃ o : Obj, W.heap[k]? = some o /\ o.isCells = true
   ·obtain ⟨o, h2, h3⟩ := h2
    rw [h2]; exact e6 k o h2 h3
   ·exact absurd ⟨h, h2⟩ hf
  ·exact e5 k (by omega)⟩
 have hx : Ext w w' := hk.trans' kx fun i hi h => absurd h.1 (by omega)
 refine ⟨v, ?_, RetN.mk hx (hP w' hx kx)⟩
 have h4' : tmps[6]?.getD undef = v := by simpa using h4
 simp [results, Tryz.f14, go_sem, h4']
set_option maxRecDepth 100000 in
set_option maxHeartbeats 8000000 in
theorem jQ {S : Nat -> Prop} {w : World} {p : ByteArray} {hs : List aF} {ls : List aJ} {ha ba : Option Addr} {hn hcap n bcap : Nat} {G : Nat -> Prop} {o : Option Addr} {E : List Ent} {names : List ByteArray} {na : Option Addr} {nq nc : Nat} (hhn : hn = hs.length) (hh : aQ w G ha hs) (hhl : hn ≤ 1048576) (hbn : n = ls.length) (h : bQ w G ba ls) (hf : Fit ls) (hnv : (aB ls).length ≤ 1048576) (hn16 : n ≤ 1048576)
 (hB : BaseV S w (.pointer o) E) (hq : nq = names.length) (hnm : CellsAt w na (strs names)) (hql : nq ≤ 1048576) (hLn : (bV ((p, hs, ()), ls, ()) (aO E)).length ≤ 1048576 * 1048576) :
 Calls Tryz.prog 14 #[cP p ha hn hcap ba n bcap, .pointer o, .slice na nq nc] w (RetN w fun w' v => Row w' 9 1 v (dT ((p, hs, ()), ls, ()) (aO E) names).length (strs (dT ((p, hs, ()), ls, ()) (aO E) names)) (New w)) := by
 subst hq
 have hL : lW ((p, hs, ()), ls, ()) (bD (wN ls E) ls) (bV ((p, hs, ()), ls, ()) (aO E)) := lV ((p, hs, ()), ls, ()) E
 obtain ⟨L, eL⟩ : ∃ L, bV ((p, hs, ()), ls, ()) (aO E) = L := ⟨_, rfl⟩
 rw [eL] at hL hLn
 have HL := qH eL
 have HEa := qH (fun W (hW : Ext w W) => aCg (hcap := hcap) (bcap := bcap) (p := p) hhn (hh.ext hW) hhl hbn (h.ext hW) hf hnv hn16 (hB.ext hW) hL)
 have HVa := qH (fun W (hW : Ext w W) => wV p hs ls ha hn hcap ba n bcap W G hhn (hh.ext hW) hhl hbn (h.ext hW) hf)
 have HK := qH (sN hL (xM hB))
 have HN := qH (And.intro hnv (And.intro hLn (And.intro hnm hql)))
 obtain ⟨gb, egb⟩ : ∃ g, w.heap.size = g := ⟨_, rfl⟩
 obtain ⟨w1, e1⟩ : ∃ x, w.alloc (.cells #[.string p, .slice ha hn hcap, .slice ba n bcap] 27) = x := ⟨_, rfl⟩
 obtain ⟨w2, e2⟩ : ∃ x, w1.alloc (.cells #[.slice na names.length nc] 34) = x := ⟨_, rfl⟩
 have s1 : w1.heap.size = gb + 1 := by rw [<- e1, aK, egb]
 have x1 : Ext w w1 := by rw [<- e1]; exact (Kp.refl w).alloc _
 have x2 : Ext w1 w2 := by rw [<- e2]; exact (Kp.refl w1).alloc _
 have H2 := qH (show Blk w2 gb [.string p, .slice ha hn hcap, .slice ba n bcap] 27 /\ Blk w2 (gb + 1) [.slice na names.length nc] 34 /\ Ext w w2 from
  ⟨Blk.ext (by have h := Blk.new w [.string p, .slice ha hn hcap, .slice ba n bcap] 27; rw [egb] at h; rw [<- e1]; exact h) x2, by have h := Blk.new w1 [.slice na names.length nc] 34; rw [s1] at h; rw [<- e2]; exact h, x1.trans x2⟩)
 have r0 : w2.cell? ⟨gb, 0, none⟩ = some (.string p) := by rw [H2.out.1.cell']; rfl
 have r1 : w2.cell? ⟨gb, 1, none⟩ = some (.slice ha hn hcap) := by rw [H2.out.1.cell']; rfl
 have r2 : w2.cell? ⟨gb, 2, none⟩ = some (.slice ba n bcap) := by rw [H2.out.1.cell']; rfl
 have HG := qH egb
 clear hhn hh hhl hbn h hf hnv hn16 hB hL x1 x2 hLn eL hnm hql
 refine callsIn_wide.1 (callsIn_of_wp_marks (n := 4) Tryz.func14 rfl trivial ?_ rfl)
 refine wpIn_wide.2 ?_
 obtain ⟨Q, eQ⟩ : ∃ Q, Q = bodyPostM Fence.wide 4 Tryz.prog Tryz.f14 (RetN w fun w' v => Row w' 9 1 v (dT ((p, hs, ()), ls, ()) (aO E) names).length (strs (dT ((p, hs, ()), ls, ()) (aO E) names)) (New w)) := ⟨_, rfl⟩
 rw [<- eQ]
 have EQ := qH eQ; clear eQ
 simp only [Tryz.ntmps14, List.size_toArray, List.length_cons, List.length_nil, Nat.reduceAdd, Nat.reduceSub, Array.replicate_succ, Array.replicate_zero, List.push_toArray, List.append_toArray, List.nil_append, List.cons_append]
 go_wp2_with fail
 clear e1 e2 egb s1
 refine (HVa.out w2 H2.out.2.2).mono ?_
 rintro e w3 ⟨v3, rfl, hk3, va, vc, rfl, hcv⟩
 obtain ⟨N, eN⟩ : ∃ N, bL ((p, hs, ()), ls, ()) = N := ⟨_, rfl⟩
 rw [eN] at hcv
 have HNe := qH eN
 simp only [eN]
 clear eN
 obtain ⟨g7, eg7⟩ : ∃ g, w3.heap.size = g := ⟨_, rfl⟩
 obtain ⟨w4, e4⟩ : ∃ x, w3.alloc (.cells #[.slice none 0 0] 34) = x := ⟨_, rfl⟩
 have hb4 : Blk w4 g7 [.slice none 0 0] 34 := by rw [<- e4, <- eg7]; exact Blk.new w3 _ _
 have f4 := hb4.free 0
 have c4 : w4.cell? ⟨g7, 0, none⟩ = some (.slice none 0 0) := by rw [hb4.cell']; rfl
 obtain ⟨w5, e5⟩ : ∃ x, w4.setCell ⟨g7, 0, none⟩ (.slice va N.length vc) = x := ⟨_, rfl⟩
 obtain ⟨w6, e6⟩ : ∃ x, w5.alloc (.cells #[.slice none 0 0] 34) = x := ⟨_, rfl⟩
 have x4 : Ext w3 w4 := by rw [<- e4]; exact (Kp.refl w3).alloc _
 have k5 : Kp (fun k => k = g7) w4 w5 := by rw [<- e5]; exact Kp.setCell (F := fun k => k = g7) (p := ⟨g7, 0, none⟩) (Kp.refl w4) (fun _ => rfl) _
 have x35 : Ext w3 w5 := x4.trans' k5 fun i hi hf => by have e : i = g7 := hf; omega
 have s5 : w5.heap.size = g7 + 1 := by rw [<- e5, show (w4.setCell ⟨g7, 0, none⟩ (.slice va N.length vc)).heap.size = w4.heap.size from by simp [World.setCell], <- e4, aK, eg7]
 have hb5 : Blk w5 g7 [.slice va N.length vc] 34 := by rw [<- e5]; exact hb4.set 0 _
 have x6 : Ext w5 w6 := by rw [<- e6]; exact (Kp.refl w5).alloc _
 have hb6 : Blk w6 (g7 + 1) [.slice none 0 0] 34 := by have h := Blk.new w5 [.slice none 0 0] 34; rw [s5] at h; rw [<- e6]; exact h
 have X6 := qH (show Ext w w6 /\ Blk w6 gb [.string p, .slice ha hn hcap, .slice ba n bcap] 27 /\ Blk w6 (gb + 1) [.slice na names.length nc] 34 /\ Blk w6 g7 [.slice va N.length vc] 34 /\ Blk w6 (g7 + 1) [.slice none 0 0] 34 /\ CellsAt w6 va (strs N) /\ gb + 1 < g7 from
  ⟨(H2.out.2.2.trans hk3).trans (x35.trans x6), ((H2.out.1.ext hk3).ext x35).ext x6, ((H2.out.2.1.ext hk3).ext x35).ext x6, hb5.ext x6, hb6, (hcv.ext x35).ext x6, by have := (H2.out.2.1.ext hk3).lt; omega⟩)
 have q0 : w6.cell? ⟨gb, 0, none⟩ = some (.string p) := by rw [X6.out.2.1.cell']; rfl
 have q1 : w6.cell? ⟨gb, 1, none⟩ = some (.slice ha hn hcap) := by rw [X6.out.2.1.cell']; rfl
 have q2 : w6.cell? ⟨gb, 2, none⟩ = some (.slice ba n bcap) := by rw [X6.out.2.1.cell']; rfl
 clear hk3 hcv hb4 x4 k5 x35 hb5 x6 hb6 r0 r1 r2
 go_wp2_with fail
 clear e4 e5 e6 s5 f4 c4 eg7
 refine (HEa.out w6 X6.out.1).mono ?_
 rintro e w8 ⟨v8, rfl, hk8, xb, lo, hlo, rfl, hseq⟩
 obtain ⟨g8, eg8⟩ : ∃ g, g7 + 1 = g := ⟨_, rfl⟩
 have HS := qH (show wG Fence.wide 3 Tryz.prog 82 #[.pointer (some ⟨xb, 0, none⟩)] (fun x : XB => #[.slice x.1.1 x.1.2.1 x.1.2.2]) (fun k => lo ≤ k /\ k < w8.heap.size) GvRow (fun xs => xs.map Prod.snd = L) (fun pre => pre.map Prod.snd <+: L) w8 from hseq 3)
 have H8 := qH (show Blk w8 g8 [.slice none 0 0] 34 /\ Ext w w8 /\ g8 < lo /\ w.heap.size ≤ g8 from ⟨by rw [<- eg8]; exact X6.out.2.2.2.2.1.ext hk8, X6.out.1.trans hk8, by rw [<- eg8]; exact Nat.lt_of_lt_of_le X6.out.2.2.2.2.1.lt hlo, by have := X6.out.2.2.2.2.2.2; have := HG.out; omega⟩)
 have H9 := qH (show Blk w8 (gb + 1) [.slice na names.length nc] 34 /\ Blk w8 g7 [.slice va N.length vc] 34 /\ CellsAt w8 va (strs N) /\ CellsAt w8 na (strs names) from ⟨X6.out.2.2.1.ext hk8, X6.out.2.2.2.1.ext hk8, X6.out.2.2.2.2.2.1.ext hk8, HN.out.2.2.1.ext H8.out.2.1⟩)
 have HGo := qH (show gb + 1 ≠ g8 /\ g7 ≠ g8 from ⟨by have := X6.out.2.2.2.2.2.2; omega, by omega⟩)
 rw [eg8]
 clear hseq hk8 hlo q0 q1 q2 eg8
 go_wp2_with fail
 have hb8 : g8 < w8.heap.size := H8.out.1.lt
 refine' wpIn_wide.1 (oG (F := Fence.wide) (n := 4) (w0 := w8) rfl (by omega) (gf := 82) (lb := #[.pointer (some ⟨xb, 0, none⟩)]) rfl trivial (enters_of Tryz.func82 (by kernel_rfl) rfl)
  HS.out (Kp.refl _) (fun k h => h.2) (fun _ => rfl) GvRow.put (ListI w8 g8 (kD (bL ((p, hs, ()), ls, ())) names)) (fun _ _ _ _ => False)
  (fun T s W l o o' h _ hl ho hc => h.put hb8 hl ho hc) (fun c T s W l o o' h _ hl ho hc => h.elim)
  (fun W o h => h.step hb8 ((Kp.refl W).alloc o) (fun k hk => hk.elim)) (ListI.start H8.out.1 rfl) _ ?assign ?body ?done ?stop)
 case assign =>
  intro l x W K hK
  gi_wp2
  exact hK
 case body =>
  rintro l T T' pre ⟨⟨xa, xn, xc⟩, V⟩ W1 W hI hT hk hsub hgv hpre
  have hI2 := hI.step hb8 hk hsub
  have hTlt : ∀ k, T' k -> k < W.heap.size := fun k hk' => by
   rcases hsub k hk' with h | h
   ·exact Nat.lt_of_lt_of_le (hT k h) hk.size
   ·exact h.2
  obtain ⟨hx1, hxc⟩ := hgv.cells
  have hxn : xn = V.length := hx1.1
  have hxc2 : xc = V.length := hx1.2
  subst hxn hxc2
  have hmem : V ∈ L := hpre.subset (by rw [List.map_append]; exact List.mem_append_right _ (List.mem_singleton.2 rfl))
  have hpl : pre.length < L.length := by
   have h := hpre.length_le
   rw [List.length_map, List.length_append, List.length_singleton] at h
   omega
  obtain ⟨hc0, hVl, hVs⟩ := HK.out V hmem
  have hN1 := HN.out.1
  have hN2 := HN.out.2.1
  have hNB : N = aB ls := by rw [<- HNe.out]; exact oQ hc0
  have hVl' : V.length = N.length := by rw [hNB]; exact hVl
  have hNd : N.Nodup := by rw [hNB]; exact bE ls
  obtain ⟨v, hv, hrv⟩ := hI2.2.2
  have hkW := hI2.1
  have hel : (kD (bL ((p, hs, ()), ls, ())) names pre).length ≤ pre.length := by
   unfold kD
   have h := uP (c := cQ) (pre.map fun x => fS (bL ((p, hs, ()), ls, ())) x.2 names)
   rw [List.length_map] at h; exact h
  rw [HNe.out] at hrv hel
  refine wpIn_mono (Q := gY (fun X' => KeepsFrom w8.heap.size W X' /\ Kp (fun k => ¬ gI (fun k => lo ≤ k /\ k < w8.heap.size) T' k) W X' /\ ListI w8 g8 (kD (bL ((p, hs, ()), ls, ())) names) T' (pre ++ [((xa, V.length, V.length), V)]) X') (fun _ => False)) ?_ ?_
  ·show Code.wpIn _ _ _ xS _ _ _
   refine aBp (v := v) (ss := kD N names pre) (V := V) (N := N) (names := names) hv hrv (by omega) (Strict.new kU _) hxc hVl' (by rw [hNB]; exact hN1) hVs hNd (H9.out.1.kp hkW HGo.out.1) (H9.out.2.1.kp hkW HGo.out.2) (aAq H9.out.2.2.2 H8.out.1 hkW) (aAq H9.out.2.2.1 H8.out.1 hkW) HN.out.2.2.2 rfl rfl rfl rfl rfl ?_
   rintro X' hk' ⟨v', hv', hr'⟩
   exact hI2.round2 hb8 hTlt (fun k hk => ⟨by have := H8.out.2.2.1; have := hk.1; omega, hk.2⟩) hv (hk'.mono fun k _ h => .inl h) hv' (by rw [aBq, HNe.out]; exact hr'.mono fun g hg => .inr hg)
  ·intro e a W' h
   cases e <;> first | exact h | exact h.elim
 case done =>
  rintro D T xs W1 W hD hxs hI hT hk hd
  have hI2 := hI.step (T' := fun _ => False) hb8 hk (fun k hk' => hk'.elim)
  obtain ⟨kX, hTge, v, hv, hrv⟩ := hI2
  have hxs' : kD (bL ((p, hs, ()), ls, ())) names xs = dT ((p, hs, ()), ls, ()) (aO E) names := by
   have h : xs.map Prod.snd = L := hxs
   unfold kD dT
   rw [HL.out, <- h, List.map_map]; rfl
  rw [hxs'] at hrv
  have hm1 : Marks w8.heap.size W [{ target := .collected D, args := #[] }] := Marks.push (Marks.nil w8.heap.size w8) (fun k o h ho => (kX.block k (lt_of_block h) (fun e => by
   have e' : k = g8 := e
   have h8 := H8.out.1
   unfold Blk at h8
   rw [e', h8] at h; cases h; cases ho)).trans h) hD hD hd
  have v7 : W.cell? ⟨g8, 0, none⟩ = some v := by rw [hv.cell']; rfl
  obtain ⟨la, lc, ev, _, _⟩ := hrv.shape
  subst ev
  have HZ := qH (And.intro hm1 (And.intro hrv kX))
  clear hxs' hm1 hrv kX hTge hI hT hk hd hD hxs hv
  go_wp2_with fail
  obtain ⟨hm1, hrv, kX⟩ := HZ.out
  have hx8 := H8.out.2.1.size
  have hgl := H8.out.2.2.2
  rw [EQ.out]
  refine aGp (lo := w8.heap.size) hm1 (H8.out.2.1.trans' kX fun i hi hf => by have e : i = g8 := hf; omega) hx8 rfl fun w' hx' kx => ?_
  refine (hrv.kp' kx fun g hg hM hf => ?_).mono fun g hg => Nat.le_trans hx8 hg.1
  obtain ⟨cs, hb⟩ := aR hrv hg
  exact hf.2 ⟨_, hb, rfl⟩
 case stop =>
  rintro D c T pre W1 W hD hpre hX hT hk hd
  exact hX.elim
end Go.Proofs.YtinnmeiphbdogaaGreat
/- The law of joins: other, renamed: a rule whose variables bear other names. -/
namespace Go.Proofs.YtinnmeiphbdogaaGreat
open Go.RowKit Go.Shelf
def cN (s : ByteArray) : ByteArray := ⟨#[86]⟩ ++ s
def bA (t : aF) : aF := if t.1 = 1 \/ 5 ≤ t.1 then (t.1, cN t.2.1, ()) else t
def cM (l : aJ) : aJ := (l.1, (aU l, (aA l).map bA, ()), fC l, bA (leftOf l), bA (aL l), ())
def aA5 (r : cK) : cK := ((r.1.1, r.1.2.1.map bA, ()), r.2.1.map cM, ())
theorem fR (t : aF) : (bA t).1 = t.1 := by unfold bA; split <;> rfl
theorem pJ {t : aF} (h : eU t) (hs : t.2.1.size ≤ 1048576) : eU (bA t) := by
 unfold bA
 split
 ·refine ⟨h.1, ?_⟩
  show (cN t.2.1).size ≤ maxLen
  unfold cN maxLen
  rw [ByteArray.size_append]
  have : (⟨#[86]⟩ : ByteArray).size = 1 := rfl
  omega
 ·exact h
theorem aIb {l : aJ} (h : LitAll l) (hs : ∀ t ∈ leftOf l :: aL l :: aA l, t.2.1.size ≤ 1048576) : LitAll (cM l) :=
 ⟨h.kind, h.pred, fun t ht => by
  obtain ⟨u, hu, rfl⟩ := List.mem_map.1 ht
  exact pJ (h.terms u hu) (hs u (by simp [hu])), h.op, pJ h.left (hs _ (by simp)), pJ h.right (hs _ (by simp))⟩
set_option maxRecDepth 100000 in
theorem nZ (k : Int) (s : ByteArray) (w : World) (hs : s.size ≤ 1048576) : Calls Tryz.prog 67 #[iX k s] w (RetN w fun w' v => v = iX (bA (k, s, ())).1 (bA (k, s, ())).2.1) := by
 obtain ⟨g0, eg0⟩ : ∃ g, w.heap.size = g := ⟨_, rfl⟩
 obtain ⟨w1, e1⟩ : ∃ x, (w.alloc (.cells #[.int .i64 k, .string s] 38)).alloc (.cells #[.int .i64 0, .string ⟨#[]⟩] 38) = x := ⟨_, rfl⟩
 have hB1 : Blk w1 g0 [.int .i64 k, .string s] 38 := by rw [<- e1, <- eg0]; exact (Blk.new w _ _).alloc _
 have hB2 : Blk w1 (g0 + 1) [.int .i64 0, .string ⟨#[]⟩] 38 := by
  have h := Blk.new (w.alloc (.cells #[.int .i64 k, .string s] 38)) [.int .i64 0, .string ⟨#[]⟩] 38
  rw [aK, eg0] at h
  rw [<- e1]; exact h
 have hx1 : Ext w w1 := by rw [<- e1]; exact ((Kp.refl w).alloc _).alloc _
 have r0 : w1.cell? ⟨g0, 0, none⟩ = some (.int .i64 k) := by rw [hB1.cell']; rfl
 have r1 : w1.cell? ⟨g0, 1, none⟩ = some (.string s) := by rw [hB1.cell']; rfl
 have q0 : w1.cell? ⟨g0 + 1, 0, none⟩ = some (.int .i64 0) := by rw [hB2.cell']; rfl
 have q1 : w1.cell? ⟨g0 + 1, 1, none⟩ = some (.string ⟨#[]⟩) := by rw [hB2.cell']; rfl
 have f1 := hB1.free 1
 have f2 := hB2.free 0
 have f3 := hB2.free 1
 have H1 := qH (show Ext w w1 /\ Blk w1 g0 [.int .i64 k, .string s] 38 /\ Blk w1 (g0 + 1) [.int .i64 0, .string ⟨#[]⟩] 38 /\ w.heap.size = g0 from ⟨hx1, hB1, hB2, eg0⟩)
 have hadd : ∀ X : World, (Op.stringOp .add ⟨#[86]⟩ s).run Tryz.prog X = .ok (.string (⟨#[86]⟩ ++ s)) X := fun X => run_string_add_sum _ _ _ (by have : (⟨#[86]⟩ : ByteArray).size = 1 := rfl; omega)
 clear hB1 hB2 hx1
 have HEnd := qH (show ∀ (W : World) (z : ByteArray), Blk W (g0 + 1) [.int .i64 k, .string z] 38 -> W.cell? ⟨g0 + 1, 0, none⟩ = some (.int .i64 k) /\ W.cell? ⟨g0 + 1, 1, none⟩ = some (.string z) from fun W z h => ⟨by rw [h.cell']; rfl, by rw [h.cell']; rfl⟩)
 by_cases hk : k = 1 \/ 5 ≤ k
 ·have HR := qH (show (iX k (⟨#[86]⟩ ++ s) : Value) = iX (bA (k, s, ())).1 (bA (k, s, ())).2.1 from by unfold bA; rw [if_pos hk]; rfl)
  have hfin : ∀ W, W = (((w1.setCell ⟨g0, 1, none⟩ (.string (⟨#[86]⟩ ++ s))).setCell ⟨g0 + 1, 0, none⟩ (.int .i64 k)).setCell ⟨g0 + 1, 1, none⟩ (.string (⟨#[86]⟩ ++ s))) -> Ext w W /\ Blk W (g0 + 1) [.int .i64 k, .string (⟨#[86]⟩ ++ s)] 38 := fun W hW => by
   subst hW
   refine ⟨H1.out.1.trans' (Kp.setCell (F := fun k => k = g0 \/ k = g0 + 1) (p := ⟨g0 + 1, 1, none⟩) (Kp.setCell (F := fun k => k = g0 \/ k = g0 + 1) (p := ⟨g0 + 1, 0, none⟩) (Kp.setCell (F := fun k => k = g0 \/ k = g0 + 1) (p := ⟨g0, 1, none⟩) (Kp.refl w1) (fun _ => .inl rfl) _) (fun _ => .inr rfl) _) (fun _ => .inr rfl) _) fun i hi h => by have := H1.out.2.2.2; omega, ?_⟩
   exact ((H1.out.2.2.1.other (p := ⟨g0, 1, none⟩) (by show g0 + 1 ≠ g0; omega) _).set 0 _).set 1 _
  have HF := qH hfin
  clear hfin
  by_cases hk1 : k = 1
  ·subst hk1
   clear hk
   go_enter Tryz.func67, Tryz.ntmps67
   go_wp2
   clear e1
   obtain ⟨W, eW⟩ : ∃ W, (((w1.setCell ⟨g0, 1, none⟩ (.string (⟨#[86]⟩ ++ s))).setCell ⟨g0 + 1, 0, none⟩ (.int .i64 1)).setCell ⟨g0 + 1, 1, none⟩ (.string (⟨#[86]⟩ ++ s))) = W := ⟨_, rfl⟩
   rw [eW]
   obtain ⟨hx, hb⟩ := HF.out W eW.symm
   obtain ⟨d0, d1⟩ := HEnd.out W _ hb
   refine bodyPost_ret (v := iX 1 (⟨#[86]⟩ ++ s)) (by simp [results, Tryz.results67, go_sem, d0, d1]) rfl ?_
   exact RetN.mk hx HR.out
  ·have hk2 : (k == 1) = false := by simp [hk1]
   have hk3 : (5 : Int) ≤ k := by omega
   clear hk hk1
   go_enter Tryz.func67, Tryz.ntmps67
   go_wp2
   clear e1
   obtain ⟨W, eW⟩ : ∃ W, (((w1.setCell ⟨g0, 1, none⟩ (.string (⟨#[86]⟩ ++ s))).setCell ⟨g0 + 1, 0, none⟩ (.int .i64 k)).setCell ⟨g0 + 1, 1, none⟩ (.string (⟨#[86]⟩ ++ s))) = W := ⟨_, rfl⟩
   rw [eW]
   obtain ⟨hx, hb⟩ := HF.out W eW.symm
   obtain ⟨d0, d1⟩ := HEnd.out W _ hb
   refine bodyPost_ret (v := iX k (⟨#[86]⟩ ++ s)) (by simp [results, Tryz.results67, go_sem, d0, d1]) rfl ?_
   exact RetN.mk hx HR.out
 ·have HR := qH (show (iX k s : Value) = iX (bA (k, s, ())).1 (bA (k, s, ())).2.1 from by unfold bA; rw [if_neg hk])
  have hk2 : (k == 1) = false := by simp; omega
  have hk3 : ¬ (5 : Int) ≤ k := by omega
  have hk4 : k < 5 := by omega
  clear hk
  go_enter Tryz.func67, Tryz.ntmps67
  go_wp2
  clear e1
  obtain ⟨W, eW⟩ : ∃ W, ((w1.setCell ⟨g0 + 1, 0, none⟩ (.int .i64 k)).setCell ⟨g0 + 1, 1, none⟩ (.string s)) = W := ⟨_, rfl⟩
  rw [eW]
  have hx : Ext w W := by
   rw [<- eW]
   exact H1.out.1.trans' (Kp.setCell (F := fun k => k = g0 + 1) (p := ⟨g0 + 1, 1, none⟩) (Kp.setCell (F := fun k => k = g0 + 1) (p := ⟨g0 + 1, 0, none⟩) (Kp.refl w1) (fun _ => rfl) _) (fun _ => rfl) _) fun i hi h => by have := H1.out.2.2.2; omega
  have hb : Blk W (g0 + 1) [.int .i64 k, .string s] 38 := by rw [<- eW]; exact (H1.out.2.2.1.set 0 _).set 1 _
  obtain ⟨d0, d1⟩ := HEnd.out W _ hb
  refine bodyPost_ret (v := iX k s) (by simp [results, Tryz.results67, go_sem, d0, d1]) rfl ?_
  exact RetN.mk hx HR.out
def TermsN (w0 w : World) (a : Option Addr) (m c : Nat) (ts : List aF) : Prop := Row w 38 2 (.slice a m c) m (oS ts) (New w0) /\ m = ts.length
theorem TermsN.ext {w0 w w' : World} {a : Option Addr} {m c : Nat} {ts : List aF} (h : TermsN w0 w a m c ts) (hk : Ext w w') : TermsN w0 w' a m c ts := ⟨h.1.ext hk, h.2⟩
theorem TermsN.kp {w0 w w' : World} {F : Nat -> Prop} {a : Option Addr} {m c : Nat} {ts : List aF} (h : TermsN w0 w a m c ts) (hk : Kp F w w') (hF : ∀ k cs, Blk w k cs 38 -> ¬ F k) : TermsN w0 w' a m c ts :=
 ⟨h.1.kp' hk fun g hg _ => by obtain ⟨cs, hb⟩ := h.1.blkOf hg; exact hF g cs hb, h.2⟩
theorem TermsN.old {w0 w1 w : World} {a : Option Addr} {m c : Nat} {ts : List aF} (h : TermsN w1 w a m c ts) (hs : w0.heap.size ≤ w1.heap.size) : TermsN w0 w a m c ts := ⟨h.1.mono fun g hg => Nat.le_trans hs hg, h.2⟩
theorem TermsN.at {w0 w : World} {a : Option Addr} {m c : Nat} {ts : List aF} (h : TermsN w0 w a m c ts) (hf : ∀ t ∈ ts, eU t) : aQ w TT a ts /\ ts.length ≤ c /\ (c ≤ maxLen) := by
 obtain ⟨⟨h1, ⟨e, h0⟩ | ⟨g, cap, rest, e, hM, hB, hl, hc, hm⟩⟩, h2⟩ := h
 ·cases e
  have : ts = [] := List.eq_nil_of_length_eq_zero (by omega)
  subst this
  exact ⟨aFw _ _, Nat.zero_le _, Nat.zero_le _⟩
 ·cases e
  exact ⟨aCf (s := bY) (f := tV) (fun x => rfl) (fun i x hi => nO (hf x (List.mem_of_getElem? hi))) trivial hB, by omega, hm⟩
def aKf (w0 : World) (hs : List aF) (p : ByteArray) (g0 : Nat) (r : List Value) (hn : Nat) (iv : Value) (w : World) : Prop := ∃ i : Nat, i ≤ hn /\ iv = .int .i64 i /\ Hid (Ext w0 w) /\ Hid (Blk w g0 r 27 /\ Blk w (g0 + 1) [.string ⟨#[]⟩, .slice none 0 0, .slice none 0 0] 27) /\ ∃ a c, Hid (Blk w (g0 + 2) [.string p, .slice a i c, .slice none 0 0] 27 /\ TermsN w0 w a i c ((hs.take i).map bA))
def aKg (w0 : World) (ls : List aJ) (p : ByteArray) (g0 : Nat) (r : List Value) (ta : Option Addr) (hn tc : Nat) (hs : List aF) (n : Nat) (iv : Value) (w : World) : Prop := ∃ i : Nat, i ≤ n /\ iv = .int .i64 i /\ Hid (Ext w0 w) /\ Hid (Blk w g0 r 27 /\ Blk w (g0 + 1) [.string ⟨#[]⟩, .slice none 0 0, .slice none 0 0] 27 /\ TermsN w0 w ta hn tc hs) /\ ∃ bo bc vs, Hid (Blk w (g0 + 2) [.string p, .slice ta hn tc, .slice bo i bc] 27 /\ vs.length = i /\ Row w 40 8 (.slice bo i bc) i ((((ls.take i).map cM).zip vs).flatMap bU) (New w0) /\ ∀ x ∈ ((ls.take i).map cM).zip vs, TermsN w0 w x.2.1 (aA x.1).length x.2.2 (aA x.1))
def RenIn (wx : World) (gt : Nat) (lc : List Value) (ts : List aF) (mm : Nat) (av jv : Value) (w : World) : Prop := ∃ j : Nat, j ≤ mm /\ jv = .int .i64 j /\ Hid (Ext wx w) /\ ∃ a c, av = .slice a j c /\ Hid (TermsN wx w a j c ((ts.take j).map bA))
set_option maxRecDepth 100000 in
set_option maxHeartbeats 16000000 in
theorem aA4 (p : ByteArray) (hs : List aF) (ls : List aJ) (ha : Option Addr) (hn hcap : Nat) (ba : Option Addr) (n bcap : Nat) (w : World) (G : Nat -> Prop) (hhn : hn = hs.length) (hh : aQ w G ha hs) (hhl : hn ≤ 1048576) (hbn : n = ls.length) (h : bQ w G ba ls) (hf : Fit ls)
 (hts : ∀ t ∈ hs, t.2.1.size ≤ 1048576) (hls : ∀ l ∈ ls, ∀ t ∈ leftOf l :: aL l :: aA l, t.2.1.size ≤ 1048576) :
 Calls Tryz.prog 16 #[cP p ha hn hcap ba n bcap] w (RetN w fun w' v => ∃ ha' hcap' ba' bcap', v = cP p ha' hn hcap' ba' n bcap' /\ aQ w' TT ha' (hs.map bA) /\ bQ w' TT ba' (ls.map cM)) := by
 have HN := qH hbn; have HE := qH h; have HF := qH hf; have hl : n ≤ 1048576 := by have := hf.len; omega
 have HH := qH (And.intro hh (And.intro hhn hts))
 have HLs := qH hls
 obtain ⟨g0, eg0⟩ : ∃ g, w.heap.size = g := ⟨_, rfl⟩
 obtain ⟨wa, ea⟩ : ∃ x, w.alloc (.cells #[.string p, .slice ha hn hcap, .slice ba n bcap] 27) = x := ⟨_, rfl⟩
 obtain ⟨wb, eb⟩ : ∃ x, wa.alloc (.cells #[.string ⟨#[]⟩, .slice none 0 0, .slice none 0 0] 27) = x := ⟨_, rfl⟩
 obtain ⟨wc, ec⟩ : ∃ x, wb.alloc (.cells #[.string ⟨#[]⟩, .slice none 0 0, .slice none 0 0] 27) = x := ⟨_, rfl⟩
 have sa : wa.heap.size = g0 + 1 := by rw [<- ea, aK, eg0]
 have sb : wb.heap.size = g0 + 2 := by rw [<- eb, aK, sa]
 have xa : Ext w wa := by rw [<- ea]; exact (Kp.refl w).alloc _
 have xb : Ext wa wb := by rw [<- eb]; exact (Kp.refl wa).alloc _
 have xc : Ext wb wc := by rw [<- ec]; exact (Kp.refl wb).alloc _
 have hA : Blk wc g0 [.string p, .slice ha hn hcap, .slice ba n bcap] 27 := (Blk.ext (by have h := Blk.new w [.string p, .slice ha hn hcap, .slice ba n bcap] 27; rw [eg0] at h; rw [<- ea]; exact h) xb).ext xc
 have hBb : Blk wc (g0 + 1) [.string ⟨#[]⟩, .slice none 0 0, .slice none 0 0] 27 := Blk.ext (by have h := Blk.new wa [.string ⟨#[]⟩, .slice none 0 0, .slice none 0 0] 27; rw [sa] at h; rw [<- eb]; exact h) xc
 have hC : Blk wc (g0 + 2) [.string ⟨#[]⟩, .slice none 0 0, .slice none 0 0] 27 := by have h := Blk.new wb [.string ⟨#[]⟩, .slice none 0 0, .slice none 0 0] 27; rw [sb] at h; rw [<- ec]; exact h
 obtain ⟨wd, ed⟩ : ∃ x, wc.setCell ⟨g0 + 2, 0, none⟩ (.string p) = x := ⟨_, rfl⟩
 have kd : Kp (fun k => k = g0 + 2) wc wd := by rw [<- ed]; exact Kp.setCell (F := fun k => k = g0 + 2) (p := ⟨g0 + 2, 0, none⟩) (Kp.refl wc) (fun _ => rfl) _
 have r0 : wc.cell? ⟨g0, 0, none⟩ = some (.string p) := by rw [hA.cell']; rfl
 have c0 : wc.cell? ⟨g0 + 2, 0, none⟩ = some (.string ⟨#[]⟩) := by rw [hC.cell']; rfl
 have f0 := hC.free 0
 have HD := qH (show Ext w wd /\ Blk wd g0 [.string p, .slice ha hn hcap, .slice ba n bcap] 27 /\ Blk wd (g0 + 1) [.string ⟨#[]⟩, .slice none 0 0, .slice none 0 0] 27 /\ Blk wd (g0 + 2) [.string p, .slice none 0 0, .slice none 0 0] 27 /\ w.heap.size = g0 from
  ⟨((xa.trans xb).trans xc).trans' kd fun i hi e => by have e' : i = g0 + 2 := e; omega, hA.kp kd (by omega), hBb.kp kd (by omega), by rw [<- ed]; exact hC.set 0 _, eg0⟩)
 clear hbn h hf hhn hh hts hls xa xb xc hA hBb hC kd
 go_enter Tryz.func16, Tryz.ntmps16
 go_wp2_with fail
 clear ea eb ec ed sa sb eg0 r0 c0 f0
 go_loopw [4] (fun iv wr => aKf w hs p g0 [.string p, .slice ha hn hcap, .slice ba n bcap] hn iv wr) (fun iv _ => hn - (intOf iv).toNat)
 case atStart => exact ⟨0, Nat.zero_le _, rfl, qH HD.out.1, qH ⟨HD.out.2.1, HD.out.2.2.1⟩, none, 0, qH ⟨HD.out.2.2.2.1, Row.nil _ _ _ _, rfl⟩⟩
 case round =>
  obtain ⟨i, hi, rfl, hex, hbk, ta, tc, hin⟩ := hrel
  have r1 : wr.cell? ⟨g0, 1, none⟩ = some (.slice ha hn hcap) := by rw [hbk.out.1.cell']; rfl
  by_cases hlt : i < hn
  ·obtain ⟨t, ht⟩ : ∃ t, hs[i]? = some t := ⟨_, qG (by rw [<- HH.out.2.1]; exact hlt)⟩
   obtain ⟨b, off, eao, q0, q1, _, _⟩ := gR (HH.out.1.ext hex.out) ht
   subst eao
   have HT := qH (show (hs.take (i + 1)).map bA = (hs.take i).map bA ++ [bA t] from by rw [List.take_add_one, ht, List.map_append]; rfl)
   have hsz := HH.out.2.2 t (List.mem_of_getElem? ht)
   obtain ⟨k, s, ⟨⟩⟩ := t
   have HO := qH (fun W => nZ k s W hsz)
   simp only at q0 q1
   obtain ⟨⟨k', s', ⟨⟩⟩, et⟩ : ∃ t', bA (k, s, ()) = t' := ⟨_, rfl⟩
   rw [et] at HT HO
   clear ht hsz et
   go_wp2_with fail
   refine (HO.out wr).mono ?_
   rintro e w4 ⟨v, rfl, hk4, rfl⟩
   obtain ⟨gt, egt⟩ : ∃ g, w4.heap.size = g := ⟨_, rfl⟩
   obtain ⟨w5, e5⟩ : ∃ x, w4.alloc (.cells #[.int .i64 k', .string s'] 38) = x := ⟨_, rfl⟩
   have hb5 : Blk w5 gt [.int .i64 k', .string s'] 38 := by rw [<- e5, <- egt]; exact Blk.new w4 _ _
   have x5 : Ext wr w5 := by rw [<- e5]; exact hk4.alloc _
   have d0 : w5.cell? ⟨gt, 0, none⟩ = some (.int .i64 k') := by rw [hb5.cell']; rfl
   have d1 : w5.cell? ⟨gt, 1, none⟩ = some (.string s') := by rw [hb5.cell']; rfl
   have hC5 := hin.out.1.ext x5
   have d2 : w5.cell? ⟨g0 + 2, 1, none⟩ = some (.slice ta i tc) := by rw [hC5.cell']; rfl
   have H5 := qH (show Ext w w5 /\ Blk w5 g0 [.string p, .slice (some ⟨b, off, none⟩) hn hcap, .slice ba n bcap] 27 /\ Blk w5 (g0 + 1) [.string ⟨#[]⟩, .slice none 0 0, .slice none 0 0] 27 /\ Blk w5 (g0 + 2) [.string p, .slice ta i tc, .slice none 0 0] 27 /\ TermsN w w5 ta i tc ((hs.take i).map bA) from
    ⟨hex.out.trans x5, hbk.out.1.ext x5, hbk.out.2.ext x5, hC5, hin.out.2.ext x5⟩)
   clear hk4 hb5 x5 hC5 r1 q0 q1
   go_wp2_with (first | (at_builtin; refine Halted.out ?_))
   clear e5 egt
   refine Halted.mk (dB (m := 1) (n := i) yN rfl _ _ rfl (H5.out.1.alloc _) rfl (H5.out.2.2.2.2.1.alloc _) rfl (CellsAt.two w5 (.int .i64 k') (.string s') 38) (by rfl) (by simp [Value.oneCell']) (by omega) (by unfold maxLen; omega) ?_)
   intro v1 w6 hr1 hk1 hk2 _
   have hbl : ∀ g cs, Blk w5 g cs 27 -> Blk w6 g cs 27 := fun g cs hb => (hb.alloc _).kp hk2 fun e => by
    obtain ⟨cs', hb'⟩ := H5.out.2.2.2.2.1.blkOf e
    exact zD (cO hb' hb)
   obtain ⟨a1, c1, ev1, _, _⟩ := hr1.shape
   subst ev1
   have hC6 := hbl _ _ H5.out.2.2.2.1
   have p1 : w6.cell? ⟨g0 + 2, 1, none⟩ = some (.slice ta i tc) := by rw [hC6.cell']; rfl
   have f1 := hC6.free 1
   obtain ⟨w7, e7⟩ : ∃ x, w6.setCell ⟨g0 + 2, 1, none⟩ (.slice a1 (i + 1) c1) = x := ⟨_, rfl⟩
   have k7 : Kp (fun k => k = g0 + 2) w6 w7 := by rw [<- e7]; exact Kp.setCell (F := fun k => k = g0 + 2) (p := ⟨g0 + 2, 1, none⟩) (Kp.refl w6) (fun _ => rfl) _
   have HFin := qH (show Ext w w7 /\ (Blk w7 g0 [.string p, .slice (some ⟨b, off, none⟩) hn hcap, .slice ba n bcap] 27 /\ Blk w7 (g0 + 1) [.string ⟨#[]⟩, .slice none 0 0, .slice none 0 0] 27) /\ Blk w7 (g0 + 2) [.string p, .slice a1 (i + 1) c1, .slice none 0 0] 27 /\ TermsN w w7 a1 (i + 1) c1 ((hs.take (i + 1)).map bA) from by
    refine ⟨hk1.trans' k7 fun j hj e => by have e' : j = g0 + 2 := e; have := HD.out.2.2.2.2; omega, ⟨(hbl _ _ H5.out.2.1).kp k7 (by omega), (hbl _ _ H5.out.2.2.1).kp k7 (by omega)⟩, by rw [<- e7]; exact hC6.set 1 _, ?_⟩
    refine TermsN.kp ⟨?_, ?_⟩ k7 fun k cs hb e => ?_
    ·rw [HT.out, rO]; exact hr1
    ·rw [HT.out, List.length_append, <- H5.out.2.2.2.2.2]; rfl
    ·have e' : k = g0 + 2 := e
     rw [e'] at hb
     exact zD (cO hb hC6))
   clear hr1 hk1 hk2 hbl hC6 k7 d0 d1 d2
   go_wp2
   clear e7 p1 f1
   go_roundw
   case rel => exact ⟨i + 1, by omega, by first | rfl | (congr 1; done) | (congr 1; omega), qH HFin.out.1, qH HFin.out.2.1, a1, c1, qH HFin.out.2.2⟩
   case measure => simp [intOf]; omega
  ·obtain rfl : hn = i := by omega
   have hall : hs.take hn = hs := List.take_of_length_le (by rw [<- HH.out.2.1]; exact Nat.le_refl _)
   rw [hall] at hin
   have HB0 := qH (show Ext w wr /\ Blk wr g0 [.string p, .slice ha hn hcap, .slice ba n bcap] 27 /\ Blk wr (g0 + 1) [.string ⟨#[]⟩, .slice none 0 0, .slice none 0 0] 27 /\ Blk wr (g0 + 2) [.string p, .slice ta hn tc, .slice none 0 0] 27 /\ TermsN w wr ta hn tc (hs.map bA) from ⟨hex.out, hbk.out.1, hbk.out.2, hin.out.1, hin.out.2⟩)
   clear hall hin hbk hex hi hlt
   go_wp2_with fail
   clear r1
   go_loopw [6] (fun iv wr => aKg w ls p g0 [.string p, .slice ha hn hcap, .slice ba n bcap] ta hn tc (hs.map bA) n iv wr) (fun iv _ => n - (intOf iv).toNat)
   case atStart => exact ⟨0, Nat.zero_le _, rfl, qH HB0.out.1, qH ⟨HB0.out.2.1, HB0.out.2.2.1, HB0.out.2.2.2.2⟩, none, 0, [], qH ⟨HB0.out.2.2.2.1, rfl, Row.nil _ _ _ _, fun x hx => by simp at hx⟩⟩
   case round =>
    obtain ⟨i, hi, rfl, hex, hbk, bo, bc, vs, hin⟩ := hrel
    by_cases hlt : i < n
    ·have hltl : i < ls.length := by rw [<- HN.out]; exact hlt
     obtain ⟨l, hli⟩ : ∃ l, ls[i]? = some l := ⟨_, qG hltl⟩
     obtain ⟨b, off, a2, cap2, eao, hG, hb, hL, c0, c1, c2, c3, c4, c5, c6, c7⟩ := mV HE.out hli
     subst eao
     replace c0 := hex.out.cell c0 id
     replace c1 := hex.out.cell c1 id
     replace c2 := hex.out.cell c2 id
     replace c3 := hex.out.cell c3 id
     replace c4 := hex.out.cell c4 id
     replace c5 := hex.out.cell c5 id
     replace c6 := hex.out.cell c6 id
     replace c7 := hex.out.cell c7 id
     obtain ⟨mm, emm⟩ : ∃ mm, mm = (aA l).length := ⟨_, rfl⟩
     rw [<- emm] at c2
     have hmm : mm ≤ 1048576 := by rw [emm]; exact HF.out.terms l (List.mem_of_getElem? hli)
     obtain ⟨k, ek⟩ : ∃ k, k = l.1 := ⟨_, rfl⟩
     rw [<- ek] at c0
     clear hltl hG hb
     have b2 : wr.cell? ⟨g0, 2, none⟩ = some (.slice (some ⟨b, off, none⟩) n bcap) := by rw [hbk.out.1.cell']; rfl
     have hsz := HLs.out l (List.mem_of_getElem? hli)
     obtain ⟨pl, epl⟩ : ∃ pl, aU l = pl := ⟨_, rfl⟩
     rw [epl] at c1
     obtain ⟨s3, e3⟩ : ∃ s3, fC l = s3 := ⟨_, rfl⟩
     rw [e3] at c3
     obtain ⟨⟨s4, s5, ⟨⟩⟩, e4⟩ : ∃ x, leftOf l = x := ⟨_, rfl⟩
     rw [e4] at c4 c5
     obtain ⟨⟨s6, s7, ⟨⟩⟩, e6⟩ : ∃ x, aL l = x := ⟨_, rfl⟩
     rw [e6] at c6 c7
     simp only at c4 c5 c6 c7
     have HO4 := qH (fun W => nZ s4 s5 W (by have h := hsz (leftOf l) (by simp); rw [e4] at h; exact h))
     have HO6 := qH (fun W => nZ s6 s7 W (by have h := hsz (aL l) (by simp); rw [e6] at h; exact h))
     obtain ⟨⟨t4, t5, ⟨⟩⟩, et4⟩ : ∃ t', bA (s4, s5, ()) = t' := ⟨_, rfl⟩
     obtain ⟨⟨t6, t7, ⟨⟩⟩, et6⟩ : ∃ t', bA (s6, s7, ()) = t' := ⟨_, rfl⟩
     rw [et4] at HO4
     rw [et6] at HO6
     have HTs := qH (show ∀ t ∈ aA l, t.2.1.size ≤ 1048576 from fun t ht => hsz t (by simp [ht]))
     have HL := qH (show ls[i]? = some l /\ (∀ a c, bU (cM l, (a, c)) = [.int .i64 k, .string pl, .slice a mm c, .int .i64 s3, .int .i64 t4, .string t5, .int .i64 t6, .string t7]) /\ mm = (aA l).length from ⟨hli, fun a c => by
      show ([.int .i64 l.1, .string (aU l), .slice a ((aA l).map bA).length c, .int .i64 (fC l), .int .i64 (bA (leftOf l)).1, .string (bA (leftOf l)).2.1, .int .i64 (bA (aL l)).1, .string (bA (aL l)).2.1] : List Value) = _
      rw [List.length_map, e4, e6, et4, et6, ek, epl, emm, e3], emm⟩)
     obtain ⟨gt, egt⟩ : ∃ gt, wr.heap.size = gt := ⟨_, rfl⟩
     obtain ⟨wx, ewx⟩ : ∃ wx, wr.alloc (.cells #[.int .i64 k, .string pl, .slice a2 mm cap2, .int .i64 s3, .int .i64 s4, .string s5, .int .i64 s6, .string s7] 40) = wx := ⟨_, rfl⟩
     have hgt : Blk wx gt [.int .i64 k, .string pl, .slice a2 mm cap2, .int .i64 s3, .int .i64 s4, .string s5, .int .i64 s6, .string s7] 40 := by rw [<- ewx, <- egt]; exact Blk.new wr _ _
     have hxx : Ext wr wx := by rw [<- ewx]; exact (Kp.refl wr).alloc _
     have HX := qH (show Ext wr wx /\ Blk wx gt [.int .i64 k, .string pl, .slice a2 mm cap2, .int .i64 s3, .int .i64 s4, .string s5, .int .i64 s6, .string s7] 40 /\ wr.heap.size = gt /\ aQ wx G a2 (aA l) from ⟨hxx, hgt, egt, (hL.terms.ext hex.out).ext hxx⟩)
     clear hli emm ek epl e3 e4 e6 et4 et6 hL hgt hxx hsz
     go_wp2_with fail
     clear ewx egt c0 c1 c2 c3 c4 c5 c6 c7 b2
     go_loopw [8, 9] (fun av jv wr => RenIn wx gt [.int .i64 k, .string pl, .slice a2 mm cap2, .int .i64 s3, .int .i64 s4, .string s5, .int .i64 s6, .string s7] (aA l) mm av jv wr) (fun _ jv _ => mm - (intOf jv).toNat)
     case atStart => exact ⟨0, Nat.zero_le _, rfl, qH (Kp.refl _), none, 0, rfl, qH ⟨Row.nil _ _ _ _, rfl⟩⟩
     case round =>
      obtain ⟨j, hj, rfl, hexx, aa, ac, rfl, hio⟩ := hrel
      have hg := HX.out.2.1.ext hexx.out
      have u2 : wr.cell? ⟨gt, 2, none⟩ = some (.slice a2 mm cap2) := by rw [hg.cell']; rfl
      by_cases hjl : j < mm
      ·obtain ⟨t, ht⟩ : ∃ t, (aA l)[j]? = some t := ⟨_, qG (by rw [<- HL.out.2.2]; exact hjl)⟩
       obtain ⟨b', off', eao', q0, q1, _, _⟩ := gR (HX.out.2.2.2.ext hexx.out) ht
       subst eao'
       have HT := qH (show ((aA l).take (j + 1)).map bA = ((aA l).take j).map bA ++ [bA t] from by rw [List.take_add_one, ht, List.map_append]; rfl)
       have hsz := HTs.out t (List.mem_of_getElem? ht)
       obtain ⟨kk, ss, ⟨⟩⟩ := t
       have HO := qH (fun W => nZ kk ss W hsz)
       simp only at q0 q1
       obtain ⟨⟨k', s', ⟨⟩⟩, et⟩ : ∃ t', bA (kk, ss, ()) = t' := ⟨_, rfl⟩
       rw [et] at HT HO
       have j1 : (j : Int) < (mm : Int) := by omega
       clear ht hsz et hg
       go_wp2_with fail
       refine (HO.out wr).mono ?_
       rintro e w4 ⟨v, rfl, hk4, rfl⟩
       obtain ⟨gu, egu⟩ : ∃ g, w4.heap.size = g := ⟨_, rfl⟩
       obtain ⟨w5, e5⟩ : ∃ x, w4.alloc (.cells #[.int .i64 k', .string s'] 38) = x := ⟨_, rfl⟩
       have hb5 : Blk w5 gu [.int .i64 k', .string s'] 38 := by rw [<- e5, <- egu]; exact Blk.new w4 _ _
       have x5 : Ext wr w5 := by rw [<- e5]; exact hk4.alloc _
       have d0 : w5.cell? ⟨gu, 0, none⟩ = some (.int .i64 k') := by rw [hb5.cell']; rfl
       have d1 : w5.cell? ⟨gu, 1, none⟩ = some (.string s') := by rw [hb5.cell']; rfl
       have H5 := qH (show Ext wx w5 /\ TermsN wx w5 aa j ac (((aA l).take j).map bA) from ⟨hexx.out.trans x5, hio.out.ext x5⟩)
       clear hk4 hb5 x5 u2 q0 q1
       go_wp2_with (first | (at_builtin; refine Halted.out ?_))
       clear e5 egu
       refine Halted.mk (dB (m := 1) (n := j) yN rfl _ _ rfl (H5.out.1.alloc _) rfl (H5.out.2.1.alloc _) rfl (CellsAt.two w5 (.int .i64 k') (.string s') 38) (by rfl) (by simp [Value.oneCell']) (by omega) (by unfold maxLen; omega) ?_)
       intro v1 w6 hr1 hk1 hk2 _
       obtain ⟨a1, c1, ev1, _, _⟩ := hr1.shape
       subst ev1
       have HFin := qH (show Ext wx w6 /\ TermsN wx w6 a1 (j + 1) c1 (((aA l).take (j + 1)).map bA) from ⟨hk1, by rw [HT.out, rO]; exact hr1, by rw [HT.out, List.length_append, <- H5.out.2.2]; rfl⟩)
       clear hr1 hk1 hk2 d0 d1
       go_wp2
       go_roundw
       case rel => exact ⟨j + 1, by omega, by first | rfl | (congr 1; done) | (congr 1; omega), qH HFin.out.1, a1, c1, rfl, qH HFin.out.2⟩
       case measure => simp [intOf]; omega
      ·obtain rfl : mm = j := by omega
       have hallt : (aA l).take mm = aA l := List.take_of_length_le (by rw [<- HL.out.2.2]; exact Nat.le_refl _)
       rw [hallt] at hio
       have u3 := hg.free 2
       obtain ⟨w3, e3⟩ : ∃ x, wr.setCell ⟨gt, 2, none⟩ (.slice aa mm ac) = x := ⟨_, rfl⟩
       have hg3 : Blk w3 gt [.int .i64 k, .string pl, .slice aa mm ac, .int .i64 s3, .int .i64 s4, .string s5, .int .i64 s6, .string s7] 40 := by rw [<- e3]; exact hg.set 2 _
       have k3 : Kp (fun k => k = gt) wr w3 := by rw [<- e3]; exact Kp.setCell (F := fun k => k = gt) (p := ⟨gt, 2, none⟩) (Kp.refl wr) (fun _ => rfl) _
       have y4 : w3.cell? ⟨gt, 4, none⟩ = some (.int .i64 s4) := by rw [hg3.cell']; rfl
       have y5 : w3.cell? ⟨gt, 5, none⟩ = some (.string s5) := by rw [hg3.cell']; rfl
       have HW3 := qH (show Kp (fun k => k = gt) wx w3 /\ Blk w3 gt [.int .i64 k, .string pl, .slice aa mm ac, .int .i64 s3, .int .i64 s4, .string s5, .int .i64 s6, .string s7] 40 /\ TermsN wx w3 aa mm ac ((aA l).map bA) from
        ⟨(hexx.out.mono fun _ _ h => h.elim).trans k3, hg3, hio.out.kp k3 fun k cs hb e => by have e' : k = gt := e; rw [e'] at hb; exact zE (cO hb hg)⟩)
       clear hallt hio hexx hg hg3 k3 hj hjl
       go_wp2_with fail
       clear e3 u2 u3
       refine (HO4.out w3).mono ?_
       rintro e w4 ⟨v, rfl, hk4, rfl⟩
       have hg4 := HW3.out.2.1.ext hk4
       have z4 : w4.cell? ⟨gt, 4, none⟩ = some (.int .i64 s4) := by rw [hg4.cell']; rfl
       have z5 : w4.cell? ⟨gt, 5, none⟩ = some (.string s5) := by rw [hg4.cell']; rfl
       have z4f := hg4.free 4
       have z5f := hg4.free 5
       obtain ⟨w5, e5⟩ : ∃ x, (w4.setCell ⟨gt, 4, none⟩ (.int .i64 t4)).setCell ⟨gt, 5, none⟩ (.string t5) = x := ⟨_, rfl⟩
       have hg5 : Blk w5 gt [.int .i64 k, .string pl, .slice aa mm ac, .int .i64 s3, .int .i64 t4, .string t5, .int .i64 s6, .string s7] 40 := by rw [<- e5]; exact (hg4.set 4 _).set 5 _
       have k5 : Kp (fun k => k = gt) w4 w5 := by rw [<- e5]; exact Kp.setCell (F := fun k => k = gt) (p := ⟨gt, 5, none⟩) (Kp.setCell (F := fun k => k = gt) (p := ⟨gt, 4, none⟩) (Kp.refl w4) (fun _ => rfl) _) (fun _ => rfl) _
       have y6 : w5.cell? ⟨gt, 6, none⟩ = some (.int .i64 s6) := by rw [hg5.cell']; rfl
       have y7 : w5.cell? ⟨gt, 7, none⟩ = some (.string s7) := by rw [hg5.cell']; rfl
       have HW5 := qH (show Kp (fun k => k = gt) wx w5 /\ Blk w5 gt [.int .i64 k, .string pl, .slice aa mm ac, .int .i64 s3, .int .i64 t4, .string t5, .int .i64 s6, .string s7] 40 /\ TermsN wx w5 aa mm ac ((aA l).map bA) from
        ⟨(HW3.out.1.trans (Ext.kp hk4)).trans k5, hg5, (HW3.out.2.2.ext hk4).kp k5 fun k cs hb e => by have e' : k = gt := e; rw [e'] at hb; exact zE (cO hb hg4)⟩)
       clear hk4 hg4 hg5 k5
       go_wp2_with fail
       clear e5 y4 y5 z4 z5 z4f z5f
       refine (HO6.out w5).mono ?_
       rintro e w6 ⟨v, rfl, hk6, rfl⟩
       have hg6 := HW5.out.2.1.ext hk6
       have z6 : w6.cell? ⟨gt, 6, none⟩ = some (.int .i64 s6) := by rw [hg6.cell']; rfl
       have z7 : w6.cell? ⟨gt, 7, none⟩ = some (.string s7) := by rw [hg6.cell']; rfl
       have z6f := hg6.free 6
       have z7f := hg6.free 7
       obtain ⟨w7, e7⟩ : ∃ x, (w6.setCell ⟨gt, 6, none⟩ (.int .i64 t6)).setCell ⟨gt, 7, none⟩ (.string t7) = x := ⟨_, rfl⟩
       have hg7 : Blk w7 gt [.int .i64 k, .string pl, .slice aa mm ac, .int .i64 s3, .int .i64 t4, .string t5, .int .i64 t6, .string t7] 40 := by rw [<- e7]; exact (hg6.set 6 _).set 7 _
       have k7 : Kp (fun k => k = gt) w6 w7 := by rw [<- e7]; exact Kp.setCell (F := fun k => k = gt) (p := ⟨gt, 7, none⟩) (Kp.setCell (F := fun k => k = gt) (p := ⟨gt, 6, none⟩) (Kp.refl w6) (fun _ => rfl) _) (fun _ => rfl) _
       have X7 : Kp (fun k => k = gt) wx w7 := (HW5.out.1.trans (Ext.kp hk6)).trans k7
       have XR : Ext _ w7 := HX.out.1.trans' X7 fun i hi e => by have e' : i = gt := e; have := HX.out.2.2.1; omega
       have q0 : w7.cell? ⟨gt, 0, none⟩ = some (.int .i64 k) := by rw [hg7.cell']; rfl
       have q1 : w7.cell? ⟨gt, 1, none⟩ = some (.string pl) := by rw [hg7.cell']; rfl
       have q2 : w7.cell? ⟨gt, 2, none⟩ = some (.slice aa mm ac) := by rw [hg7.cell']; rfl
       have q3 : w7.cell? ⟨gt, 3, none⟩ = some (.int .i64 s3) := by rw [hg7.cell']; rfl
       have q4 : w7.cell? ⟨gt, 4, none⟩ = some (.int .i64 t4) := by rw [hg7.cell']; rfl
       have q5 : w7.cell? ⟨gt, 5, none⟩ = some (.string t5) := by rw [hg7.cell']; rfl
       have q6 : w7.cell? ⟨gt, 6, none⟩ = some (.int .i64 t6) := by rw [hg7.cell']; rfl
       have q7 : w7.cell? ⟨gt, 7, none⟩ = some (.string t7) := by rw [hg7.cell']; rfl
       have hC7 := hin.out.1.ext XR
       have d2 : w7.cell? ⟨g0 + 2, 2, none⟩ = some (.slice bo i bc) := by rw [hC7.cell']; rfl
       have H7 := qH (show Ext w w7 /\ (Blk w7 g0 [.string p, .slice ha hn hcap, .slice (some ⟨b, off, none⟩) n bcap] 27 /\ Blk w7 (g0 + 1) [.string ⟨#[]⟩, .slice none 0 0, .slice none 0 0] 27 /\ TermsN w w7 ta hn tc (hs.map bA)) /\ Blk w7 (g0 + 2) [.string p, .slice ta hn tc, .slice bo i bc] 27 /\ TermsN w w7 aa mm ac ((aA l).map bA) /\ Row w7 40 8 (.slice bo i bc) i ((((ls.take i).map cM).zip vs).flatMap bU) (New w) /\ ∀ x ∈ ((ls.take i).map cM).zip vs, TermsN w w7 x.2.1 (aA x.1).length x.2.2 (aA x.1) from
        ⟨hex.out.trans XR, ⟨hbk.out.1.ext XR, hbk.out.2.1.ext XR, hbk.out.2.2.ext XR⟩, hC7, ((HW5.out.2.2.ext hk6).kp k7 fun k cs hb e => by have e' : k = gt := e; rw [e'] at hb; exact zE (cO hb hg6)).old (Nat.le_trans hex.out.size HX.out.1.size), hin.out.2.2.1.ext XR, fun x hx => (hin.out.2.2.2 x hx).ext XR⟩)
       clear hk6 hg6 hg7 k7 X7 XR hC7
       go_wp2_with (first | (at_builtin; refine Halted.out ?_))
       clear e7 y6 y7 z6 z7 z6f z7f
       refine Halted.mk (dB (m := 1) (n := i) eF rfl _ _ rfl (H7.out.1.alloc _) rfl (H7.out.2.2.2.2.1.alloc _) rfl (CellsAt.new w7 [.int .i64 k, .string pl, .slice aa mm ac, .int .i64 s3, .int .i64 t4, .string t5, .int .i64 t6, .string t7] 40) (by rfl) (by rw [<- HL.out.2.1]; exact jH _) (by omega) (by unfold maxLen; omega) ?_)
       intro v1 w8 hr1 hk1 hk2 _
       have hbl : ∀ g cs, Blk w7 g cs 27 -> Blk w8 g cs 27 := fun g cs hb => (hb.alloc _).kp hk2 fun e => by
        obtain ⟨cs', hb'⟩ := H7.out.2.2.2.2.1.blkOf e
        exact dK (cO hb' hb)
       have hT8 : ∀ {a : Option Addr} {m c : Nat} {ts : List aF}, TermsN w w7 a m c ts -> TermsN w w8 a m c ts := fun ht => (ht.ext ((Kp.refl w7).alloc _)).kp hk2 fun k cs hb e => by
        obtain ⟨cs', hb'⟩ := (H7.out.2.2.2.2.1.alloc _).blkOf e
        exact zE (cO hb hb')
       obtain ⟨b1, c1, ev1, _, _⟩ := hr1.shape
       subst ev1
       have hC8 := hbl _ _ H7.out.2.2.1
       have p2 : w8.cell? ⟨g0 + 2, 2, none⟩ = some (.slice bo i bc) := by rw [hC8.cell']; rfl
       have p2f := hC8.free 2
       obtain ⟨w9, e9⟩ : ∃ x, w8.setCell ⟨g0 + 2, 2, none⟩ (.slice b1 (i + 1) c1) = x := ⟨_, rfl⟩
       have k9 : Kp (fun k => k = g0 + 2) w8 w9 := by rw [<- e9]; exact Kp.setCell (F := fun k => k = g0 + 2) (p := ⟨g0 + 2, 2, none⟩) (Kp.refl w8) (fun _ => rfl) _
       have hT9 : ∀ {a : Option Addr} {m c : Nat} {ts : List aF}, TermsN w w7 a m c ts -> TermsN w w9 a m c ts := fun ht => (hT8 ht).kp k9 fun k cs hb e => by
        have e' : k = g0 + 2 := e
        rw [e'] at hb
        exact zD (cO hb hC8)
       have hlen : ((ls.take i).map cM).length = vs.length := by rw [List.length_map, List.length_take, hin.out.2.1]; have := HN.out; omega
       have et : (ls.take (i + 1)).map cM = (ls.take i).map cM ++ [cM l] := by rw [List.take_add_one, HL.out.1, List.map_append]; rfl
       have HFin := qH (show Ext w w9 /\ (Blk w9 g0 [.string p, .slice ha hn hcap, .slice (some ⟨b, off, none⟩) n bcap] 27 /\ Blk w9 (g0 + 1) [.string ⟨#[]⟩, .slice none 0 0, .slice none 0 0] 27 /\ TermsN w w9 ta hn tc (hs.map bA)) /\ Blk w9 (g0 + 2) [.string p, .slice ta hn tc, .slice b1 (i + 1) c1] 27 /\ (vs ++ [(aa, ac)]).length = i + 1 /\ Row w9 40 8 (.slice b1 (i + 1) c1) (i + 1) ((((ls.take (i + 1)).map cM).zip (vs ++ [(aa, ac)])).flatMap bU) (New w) /\ ∀ x ∈ ((ls.take (i + 1)).map cM).zip (vs ++ [(aa, ac)]), TermsN w w9 x.2.1 (aA x.1).length x.2.2 (aA x.1) from by
        refine ⟨hk1.trans' k9 fun j hj e => by have e' : j = g0 + 2 := e; have := HD.out.2.2.2.2; omega, ⟨(hbl _ _ H7.out.2.1.1).kp k9 (by omega), (hbl _ _ H7.out.2.1.2.1).kp k9 (by omega), hT9 H7.out.2.1.2.2⟩, by rw [<- e9]; exact hC8.set 2 _, by rw [List.length_append, hin.out.2.1]; rfl, ?_, ?_⟩
        ·rw [et, List.zip_append hlen, List.flatMap_append]
         have e2 : (([cM l].zip [(aa, ac)]).flatMap bU) = [.int .i64 k, .string pl, .slice aa mm ac, .int .i64 s3, .int .i64 t4, .string t5, .int .i64 t6, .string t7] := by
          show bU (cM l, (aa, ac)) ++ [] = _
          rw [HL.out.2.1, List.append_nil]
         rw [e2]
         refine hr1.kp' k9 fun g hg _ e => ?_
         obtain ⟨cs', hb'⟩ := hr1.blkOf hg
         have e' : g = g0 + 2 := e
         rw [e'] at hb'
         exact dK (cO hb' hC8)
        ·intro x hx
         rw [et, List.zip_append hlen, List.mem_append] at hx
         rcases hx with hx | hx
         ·exact hT9 (H7.out.2.2.2.2.2 x hx)
         ·simp at hx; subst hx
          have h := hT9 H7.out.2.2.2.1
          show TermsN w w9 aa ((aA l).map bA).length ac ((aA l).map bA)
          rw [List.length_map, <- HL.out.2.2]; exact h)
       clear hr1 hk1 hk2 hbl hT8 hT9 hC8 k9 hlen et q0 q1 q2 q3 q4 q5 q6 q7 d2
       go_wp2
       clear e9 p2 p2f
       go_roundw
       case rel => exact ⟨i + 1, by omega, by first | rfl | (congr 1; done) | (congr 1; omega), qH HFin.out.1, qH HFin.out.2.1, b1, c1, vs ++ [(aa, ac)], qH HFin.out.2.2⟩
       case measure => simp [intOf]; omega
    ·obtain rfl : n = i := by omega
     have halll : ls.take n = ls := List.take_of_length_le (by rw [<- HN.out]; exact Nat.le_refl _)
     rw [halll] at hin
     have b2 : wr.cell? ⟨g0, 2, none⟩ = some (.slice ba n bcap) := by rw [hbk.out.1.cell']; rfl
     have p0 : wr.cell? ⟨g0 + 2, 0, none⟩ = some (.string p) := by rw [hin.out.1.cell']; rfl
     have p1 : wr.cell? ⟨g0 + 2, 1, none⟩ = some (.slice ta hn tc) := by rw [hin.out.1.cell']; rfl
     have p2 : wr.cell? ⟨g0 + 2, 2, none⟩ = some (.slice bo n bc) := by rw [hin.out.1.cell']; rfl
     have q0 : wr.cell? ⟨g0 + 1, 0, none⟩ = some (.string ⟨#[]⟩) := by rw [hbk.out.2.1.cell']; rfl
     have q1 : wr.cell? ⟨g0 + 1, 1, none⟩ = some (.slice none 0 0) := by rw [hbk.out.2.1.cell']; rfl
     have q2 : wr.cell? ⟨g0 + 1, 2, none⟩ = some (.slice none 0 0) := by rw [hbk.out.2.1.cell']; rfl
     have f0 := hbk.out.2.1.free 0
     have f1 := hbk.out.2.1.free 1
     have f2 := hbk.out.2.1.free 2
     clear hi hlt halll
     go_wp2
     obtain ⟨W, eW⟩ : ∃ x, (((wr.setCell ⟨g0 + 1, 0, none⟩ (.string p)).setCell ⟨g0 + 1, 1, none⟩ (.slice ta hn tc)).setCell ⟨g0 + 1, 2, none⟩ (.slice bo n bc)) = x := ⟨_, rfl⟩
     have hBW : Blk W (g0 + 1) [.string p, .slice ta hn tc, .slice bo n bc] 27 := by rw [<- eW]; exact ((hbk.out.2.1.set 0 _).set 1 _).set 2 _
     have kW : Kp (fun k => k = g0 + 1) wr W := by
      rw [<- eW]
      exact Kp.setCell (F := fun k => k = g0 + 1) (p := ⟨g0 + 1, 2, none⟩) (Kp.setCell (F := fun k => k = g0 + 1) (p := ⟨g0 + 1, 1, none⟩) (Kp.setCell (F := fun k => k = g0 + 1) (p := ⟨g0 + 1, 0, none⟩) (Kp.refl wr) (fun _ => rfl) _) (fun _ => rfl) _) (fun _ => rfl) _
     have d0 : W.cell? ⟨g0 + 1, 0, none⟩ = some (.string p) := by rw [hBW.cell']; rfl
     have d1 : W.cell? ⟨g0 + 1, 1, none⟩ = some (.slice ta hn tc) := by rw [hBW.cell']; rfl
     have d2 : W.cell? ⟨g0 + 1, 2, none⟩ = some (.slice bo n bc) := by rw [hBW.cell']; rfl
     rw [eW]
     have hTW : ∀ {a : Option Addr} {m c : Nat} {ts : List aF}, TermsN w wr a m c ts -> TermsN w W a m c ts := fun ht => ht.kp kW fun k cs hb e => by
      have e' : k = g0 + 1 := e
      rw [e'] at hb
      exact zD (cO hb hbk.out.2.1)
     refine bodyPost_ret (v := cP p ta hn tc bo n bc) (by simp [results, Tryz.results16, go_sem, d0, d1, d2]) rfl ?_
     refine RetN.mk (hex.out.trans' kW fun j hj e => by have e' : j = g0 + 1 := e; have := HD.out.2.2.2.2; omega) ⟨_, _, _, _, rfl, ((hTW hbk.out.2.2).at fun t ht => ?_).1, ?_⟩
     ·obtain ⟨u, hu, rfl⟩ := List.mem_map.1 ht
      exact pJ (xB HH.out.1 u hu) (HH.out.2.2 u hu)
     ·have hall : ∀ l ∈ ls.map cM, LitAll l := fun l hl => by
       obtain ⟨u, hu, rfl⟩ := List.mem_map.1 hl
       exact aIb (uY HE.out u hu) (HLs.out u hu)
      have hRW : Row W 40 8 (.slice bo n bc) n (((ls.map cM).zip vs).flatMap bU) (New w) := hin.out.2.2.1.kp' kW fun g hg _ e => by
       obtain ⟨cs', hb'⟩ := hin.out.2.2.1.blkOf hg
       have e' : g = g0 + 1 := e
       rw [e'] at hb'
       exact dK (cO hb' hbk.out.2.1)
      obtain ⟨h1, ⟨e, h0⟩ | ⟨g, cap, rest, e, hM, hB, _⟩⟩ := hRW
      ·cases e
       have : ls = [] := List.eq_nil_of_length_eq_zero HN.out.symm
       subst this
       exact uX _ _
      ·cases e
       refine lP (by rw [List.length_map, <- HN.out]; exact hin.out.2.1) hall (fun x hx => ?_) trivial hB
       have hx1 : x.1 ∈ ls.map cM := (List.of_mem_zip (show (x.1, x.2) ∈ (ls.map cM).zip vs from hx)).1
       have h := (hTW (hin.out.2.2.2 x hx)).at (hall _ hx1).terms
       exact h
end Go.Proofs.YtinnmeiphbdogaaGreat
/- The law of joins: a rule whose variables bear other names has the same bindings: plain. -/
namespace Go.Proofs.YtinnmeiphbdogaaGreat
theorem uG {a b : ByteArray} (h : cN a = cN b) : a = b := by
 unfold cN at h
 have h1 := congrArg (fun x => x.data.toList) h
 simp at h1
 exact ByteArray.ext h1
theorem pI {t : aF} (h : t.1 = 1) : (bA t).2.1 = cN t.2.1 := by unfold bA; rw [if_pos (.inl h)]
theorem qY {t : aF} (h : t.1 ≠ 1) (h5 : t.1 < 5) : bA t = t := by unfold bA; rw [if_neg (by omega)]
theorem aB3 (a : List ByteArray) (s : ByteArray) : jM (a.map cN) (cN s) = jM a s := by
 rw [Bool.eq_iff_iff, bW, bW, List.mem_map]
 exact ⟨fun ⟨x, hx, e⟩ => uG e ▸ hx, fun h => ⟨s, h, rfl⟩⟩
theorem aCv (a : List ByteArray) (t : aF) : aZ (a.map cN) (bA t) = (aZ a t).map cN := by
 unfold aZ
 by_cases h : t.1 = 1
 ·rw [fR, pI h, aB3]
  split
  ·rw [List.map_append]; rfl
  ·rfl
 ·rw [if_neg (by rw [fR]; exact fun e => h e.1), if_neg fun e => h e.1]
theorem uS : ∀ (ts : List aF) (a : List ByteArray), bZ (a.map cN) (ts.map bA) = (bZ a ts).map cN
 | [], a => rfl
 | t :: ts, a => by
  show bZ (aZ (a.map cN) (bA t)) (ts.map bA) = (bZ (aZ a t) ts).map cN
  rw [aCv]
  exact uS ts _
theorem aDu (a : List ByteArray) (l : aJ) : bI (a.map cN) (cM l) = (bI a l).map cN := by
 unfold bI
 show (if l.1 = 1 then bZ (a.map cN) ((aA l).map bA) else a.map cN) = _
 split
 ·exact uS _ _
 ·rfl
theorem uT : ∀ (ls : List aJ) (a : List ByteArray), (ls.map cM).foldl bI (a.map cN) = (ls.foldl bI a).map cN
 | [], a => rfl
 | l :: ls, a => by
  show (ls.map cM).foldl bI (bI (a.map cN) (cM l)) = (ls.foldl bI (bI a l)).map cN
  rw [aDu]
  exact uT ls _
theorem oZ (ls : List aJ) : aB (ls.map cM) = (aB ls).map cN := uT ls []
theorem rB (ts : List aF) (u : Int) : kinds (ts.map bA) u = kinds ts u := by
 unfold kinds
 rw [List.all_map]
 congr 1
 funext t
 show decide (1 ≤ (bA t).1 /\ (bA t).1 ≤ u) = _
 rw [fR]
theorem aJe (ts : List aF) : aAd (ts.map bA) = aAd ts := by
 unfold aAd
 rw [List.countP_map]
 congr 1
 funext t
 show decide (4 ≤ (bA t).1) = _
 rw [fR]
theorem aGw (l : aJ) : dW (cM l) = dW l := by
 unfold dW
 show (if l.1 = 1 \/ l.1 = 2 then decide (((aA l).map bA).length ≤ 64) && kinds ((aA l).map bA) 3 else if l.1 = 3 then decide (1 ≤ fC l /\ fC l ≤ 4) && kinds ([leftOf l, aL l].map bA) 3 else false) = _
 rw [List.length_map, rB, rB]
theorem aDn (r : cK) : cZ (aA5 r) = cZ r := by
 unfold cZ kE
 show ((kinds (r.1.2.1.map bA) 7 && decide (aAd (r.1.2.1.map bA) < 2) && decide ((r.1.2.1.map bA).length ≤ 64)) && (r.2.1.map cM).all dW) = _
 rw [rB, aJe, List.length_map, List.all_map]
 congr 1
 congr 1
 funext l
 exact aGw l
theorem qU {N : List ByteArray} {b : Bool} {t : aF} {u : Int} (h : 1 ≤ t.1 /\ t.1 ≤ u) : cA (N.map cN) b (bA t) = cA N b t := by
 unfold cA
 rw [fR]
 split
 ·rfl
 ·by_cases h1 : t.1 = 1 \/ 5 ≤ t.1
  ·have e : (bA t).2.1 = cN t.2.1 := by unfold bA; rw [if_pos h1]
   rw [e, aB3]
  ·have h2 : t.1 = 3 \/ t.1 = 4 := by omega
   rw [decide_eq_true (show t.1 = 3 \/ t.1 = 4 \/ _ from by omega), decide_eq_true (show t.1 = 3 \/ t.1 = 4 \/ _ from by omega)]
theorem mK {N : List ByteArray} {b : Bool} {u : Int} : ∀ {ts : List aF}, kinds ts u = true -> (ts.map bA).all (cA (N.map cN) b) = ts.all (cA N b)
 | [], h => rfl
 | t :: ts, h => by
  unfold kinds at h
  rw [List.all_cons, Bool.and_eq_true] at h
  show (cA (N.map cN) b (bA t) && (ts.map bA).all (cA (N.map cN) b)) = (cA N b t && ts.all (cA N b))
  rw [qU (of_decide_eq_true h.1), mK h.2]
theorem rY {l : aJ} (h : dW l = true) : (l.1 = 1 \/ l.1 = 2 -> kinds (aA l) 3 = true) /\ (l.1 ≠ 1 -> l.1 ≠ 2 -> l.1 = 3 /\ kinds [leftOf l, aL l] 3 = true) := by
 unfold dW at h
 split at h
 ·rename_i h1
  rw [Bool.and_eq_true] at h
  exact ⟨fun _ => h.2, fun h2 h3 => by omega⟩
 ·rename_i h1
  split at h
  ·rename_i h3
   rw [Bool.and_eq_true] at h
   exact ⟨fun h2 => absurd h2 h1, fun _ _ => ⟨h3, h.2⟩⟩
  ·cases h
theorem aF2 {N : List ByteArray} {l : aJ} (h : dW l = true) : dL (N.map cN) (cM l) = dL N l := by
 unfold dL
 show (if l.1 = 3 then cA (N.map cN) false (bA (leftOf l)) && cA (N.map cN) false (bA (aL l)) else if l.1 = 2 then ((aA l).map bA).all (cA (N.map cN) true) else true) = _
 have hk := rY h
 split
 ·rename_i h3
  have h4 := (hk.2 (by omega) (by omega)).2
  unfold kinds at h4
  simp only [List.all_cons, List.all_nil, Bool.and_true, Bool.and_eq_true, decide_eq_true_eq] at h4
  rw [qU h4.1, qU h4.2]
 ·split
  ·rename_i h3
   exact mK (hk.1 (.inr h3))
  ·rfl
theorem uB {N : List ByteArray} : ∀ {ls : List aJ}, ls.all dW = true -> (ls.map cM).all (dL (N.map cN)) = ls.all (dL N)
 | [], h => rfl
 | l :: ls, h => by
  rw [List.all_cons, Bool.and_eq_true] at h
  show (dL (N.map cN) (cM l) && (ls.map cM).all (dL (N.map cN))) = (dL N l && ls.all (dL N))
  rw [aF2 h.1, uB h.2]
theorem yU (r : cK) : aS (aA5 r) = aS r := by
 unfold aS
 rw [aDn]
 split
 ·rename_i hp
  unfold cZ kE at hp
  simp only [Bool.and_eq_true] at hp
  have e : jD (aA5 r) = jD r := by
   unfold jD
   show ((r.1.2.1.map bA).all (cA (aB (r.2.1.map cM)) false) && (r.2.1.map cM).all (dL (aB (r.2.1.map cM)))) = _
   rw [oZ, mK hp.1.1.1, uB hp.2]
  rw [e]
 ·rfl
theorem aE7 {N V : List ByteArray} {s x : ByteArray} : Val (N.map cN) V (cN s) x ↔ Val N V s x := by
 unfold Val
 refine exists_congr fun v => and_congr_left fun _ => ?_
 rw [List.getElem?_map]
 cases N[v]? with
 | none => simp
 | some y => exact ⟨fun h => by simp at h; rw [uG h], fun h => by cases h; rfl⟩
theorem aF7 (N : List ByteArray) (s : ByteArray) : fB (N.map cN) (cN s) = fB N s := by
 unfold fB
 rw [List.findIdx_map]
 congr 1
 funext u
 exact decide_eq_decide.2 ⟨uG, fun e => by rw [e]⟩
theorem aAk {N V : List ByteArray} {t : aF} (h : 1 ≤ t.1 /\ t.1 ≤ 3) : kF (N.map cN) V (bA t) = kF N V t := by
 unfold kF
 rw [fR]
 by_cases h1 : t.1 = 1
 ·rw [if_pos h1, if_pos h1, pI h1]
  show aY V (fB (N.map cN) (cN t.2.1)) = aY V (fB N t.2.1)
  rw [aF7]
 ·rw [if_neg h1, if_neg h1, qY h1 (by omega)]
theorem aI3 {N V x : List ByteArray} (ts : List aF) : pA (N.map cN) V (ts.map bA) x ↔ pA N V ts x := by
 unfold pA
 constructor
 ·intro h i t hi
  have h1 := h i (bA t) (by rw [List.getElem?_map, hi]; rfl)
  rw [fR] at h1
  refine ⟨fun h3 => ?_, fun h2 => ?_⟩
  ·have := h1.1 h3
   rw [qY (by omega) (by omega)] at this; exact this
  ·have := h1.2 h2
   rw [pI h2] at this
   exact aE7.1 this
 ·intro h i t hi
  rw [List.getElem?_map] at hi
  cases ht : ts[i]? with
  | none => rw [ht] at hi; cases hi
  | some u =>
   rw [ht] at hi; cases hi
   have h1 := h i u ht
   rw [fR]
   refine ⟨fun h3 => ?_, fun h2 => ?_⟩
   ·rw [qY (by omega) (by omega)]; exact h1.1 h3
   ·rw [pI h2]
    exact aE7.2 (h1.2 h2)
theorem yB {N V : List ByteArray} {R : aE} {l : aJ} (h : dW l = true) : fD (N.map cN) V R (cM l) ↔ fD N V R l := by
 unfold fD
 show (if l.1 = 1 then ∃ x ∈ R, x.length = ((aA l).map bA).length /\ pA (N.map cN) V ((aA l).map bA) x else if l.1 = 2 then ¬ ∃ x ∈ R, x.length = ((aA l).map bA).length /\ pA (N.map cN) V ((aA l).map bA) x else oB (fC l) (kF (N.map cN) V (bA (leftOf l))) (kF (N.map cN) V (bA (aL l)))) ↔ _
 simp only [List.length_map, aI3]
 by_cases h1 : l.1 = 1
 ·rw [if_pos h1, if_pos h1]
 ·rw [if_neg h1, if_neg h1]
  by_cases h2 : l.1 = 2
  ·rw [if_pos h2, if_pos h2]
  ·rw [if_neg h2, if_neg h2]
   have h4 := ((rY h).2 h1 h2).2
   unfold kinds at h4
   simp only [List.all_cons, List.all_nil, Bool.and_true, Bool.and_eq_true, decide_eq_true_eq] at h4
   rw [aAk h4.1, aAk h4.2]
theorem aF3 (C : List bG) (ls : List aJ) : gK C (ls.map cM) = gK C ls := by
 funext j
 unfold gK
 rw [List.getElem?_map]
 cases ls[j]? <;> rfl
theorem aEs {ls : List aJ} {R : Nat -> aE} (h : ls.all dW = true) (V : List ByteArray) : bS (ls.map cM) R V ↔ bS ls R V := by
 unfold bS
 rw [oZ, List.length_map]
 refine and_congr_right fun _ => ⟨fun k i l hi => ?_, fun k i l hi => ?_⟩
 ·exact (yB (List.all_eq_true.1 h l (List.mem_of_getElem? hi))).1 (k i (cM l) (by rw [List.getElem?_map, hi]; rfl))
 ·rw [List.getElem?_map] at hi
  cases hl : ls[i]? with
  | none => rw [hl] at hi; cases hi
  | some u =>
   rw [hl] at hi; cases hi
   exact (yB (List.all_eq_true.1 h u (List.mem_of_getElem? hl))).2 (k i u hl)
theorem aHk (r : cK) (C : List bG) : bV (aA5 r) C = bV r C := by
 have he := yU r
 by_cases hc : aS r = 0
 ·have hc' : aS (aA5 r) = 0 := he.trans hc
  have hl : r.2.1.all dW = true := by
   unfold aS at hc
   split at hc
   ·rename_i hp
    unfold cZ at hp
    rw [Bool.and_eq_true] at hp
    exact hp.2
   ·cases hc
  unfold bV
  rw [if_pos hc, if_pos hc']
  have h1 := qL hc (gK C r.2.1)
  have h2 : IsBinds (r.2.1.map cM) (gK C (r.2.1.map cM)) (aJa (aA5 r) (gK C (aA5 r).2.1)) := qL hc' (gK C (r.2.1.map cM))
  rw [aF3] at h2
  have e : bS (r.2.1.map cM) (gK C r.2.1) = bS r.2.1 (gK C r.2.1) := funext fun V => propext (aEs hl V)
  unfold IsBinds at h2
  rw [e] at h2
  exact IsBinds.unique h2 h1
 ·have hc' : ¬ aS (aA5 r) = 0 := fun e => hc (he.symm.trans e)
  unfold bV
  rw [if_neg hc, if_neg hc']
end Go.Proofs.YtinnmeiphbdogaaGreat
/- The law of joins: path: the chapter's rule, with further literals. -/
namespace Go.Proofs.YtinnmeiphbdogaaGreat
open Go.RowKit Go.Shelf
attribute [local go_sem] Oper.semAt_some
def fewB (ls : List aJ) : Bool := decide ((aB ls).length ≤ 1048576)
theorem aI4 {ls : List aJ} (h : fewB ls = true) : (aB ls).length ≤ 1048576 := of_decide_eq_true h
def aKi (ls : List aJ) : Bool := decide (ls.length ≤ 64) && ls.all fun l => decide ((aA l).length ≤ 64)
theorem aI2 {ls : List aJ} (h : aKi ls = true) : Fit ls := by
 unfold aKi at h
 rw [Bool.and_eq_true, decide_eq_true_eq] at h
 exact ⟨by omega, fun l hl => by have := of_decide_eq_true (List.all_eq_true.1 h.2 l hl); omega⟩
def zK : List aF := [((1 : Int), (⟨#[88]⟩ : ByteArray), ()), ((1 : Int), (⟨#[89]⟩ : ByteArray), ())]
def oU : List aJ := [(((1) : Int), ((⟨#[101]⟩ : ByteArray), [((1 : Int), (⟨#[89]⟩ : ByteArray), ()), ((1 : Int), (⟨#[90]⟩ : ByteArray), ())], ()), (0 : Int), ((0 : Int), (⟨#[]⟩ : ByteArray), ()), ((0 : Int), (⟨#[]⟩ : ByteArray), ()), ()), (((1) : Int), ((⟨#[101]⟩ : ByteArray), [((1 : Int), (⟨#[90]⟩ : ByteArray), ()), ((1 : Int), (⟨#[88]⟩ : ByteArray), ())], ()), (0 : Int), ((0 : Int), (⟨#[]⟩ : ByteArray), ()), ((0 : Int), (⟨#[]⟩ : ByteArray), ()), ())]
theorem oR {w : World} {G : Nat -> Prop} {g o : Nat} {ts : List aF} (h : aQ w TT (some ⟨g, o, none⟩) ts) (hG : G g) : aQ w G (some ⟨g, o, none⟩) ts := fun i x hx => by
 obtain ⟨b, off, es, e, _, hb, ha, hc⟩ := h i x hx
 cases e
 refine ⟨g, o, es, rfl, hG, hb, ?_, hc⟩
 have hf := iV ha
 rw [iW ha]
 exact nO hf
theorem aFv {w : World} {G : Nat -> Prop} {a : Option Addr} {ts : List aF} (h : aQ w G a ts) : aQ w (fun k => k < w.heap.size) a ts := fun i x hx => by
 obtain ⟨b, off, es, e, _, hb, ha, hc⟩ := h i x hx
 refine ⟨b, off, es, e, hb, hb, ?_, hc⟩
 have hf := iV ha
 rw [iW ha]
 exact nO hf
theorem aAn {w : World} {G : Nat -> Prop} {g o : Nat} {ts : List aF} (h : aQ w G (some ⟨g, o, none⟩) ts) (hne : ts ≠ []) : g < w.heap.size := by
 cases ts with
 | nil => exact absurd rfl hne
 | cons t ts =>
  obtain ⟨b, off, es, e, _, hb, _⟩ := h 0 t rfl
  cases e; exact hb
set_option maxRecDepth 100000 in
set_option maxHeartbeats 4000000 in
theorem aBc {ls : List aJ} {ma : Option Addr} {mn mc : Nat} {w : World} (hn : mn = ls.length) (h : bQ w TT ma ls) (hl : mn ≤ 65536) :
 Calls Tryz.prog 27 #[.slice ma mn mc] w (RetN w fun w' u => ∃ ha hc ba bc, u = cP ⟨#[116]⟩ ha 2 hc ba (2 + mn) bc /\ aQ w' TT ha zK /\ bQ w' TT ba (oU ++ ls)) := by
 obtain ⟨vs, hvs, hcs, hin⟩ := xV h
 have HV := qH (And.intro hvs (And.intro hcs (And.intro hin (And.intro hn (uY h)))))
 clear hvs hcs hin h hn
 obtain ⟨w1, ew1⟩ : ∃ x, w.alloc (.cells #[.string ⟨#[]⟩, .slice none 0 0, .slice none 0 0] 27) = x := ⟨_, rfl⟩
 have Xw1 := qH (show Ext w w1 from by rw [<- ew1]; exact (Kp.refl w).alloc _)
 have HR := qH (show Blk w1 w.heap.size [.string ⟨#[]⟩, .slice none 0 0, .slice none 0 0] 27 from by rw [<- ew1]; exact Blk.new w _ _)
 go_enter Tryz.func27, Tryz.ntmps27
 go_wp2_with fail
 refine (lC ⟨#[89]⟩ w1).mono ?_
 rintro e w2 ⟨vw2, rfl, hkw2, rfl⟩
 have Xw2 := qH (show Ext w1 w2 from hkw2)
 clear hkw2
 go_wp2_with fail
 refine (lC ⟨#[90]⟩ w2).mono ?_
 rintro e w3 ⟨vw3, rfl, hkw3, rfl⟩
 have Xw3 := qH (show Ext w2 w3 from hkw3)
 clear hkw3
 obtain ⟨w4, ew4⟩ : ∃ x, w3.alloc (.cells #[.int .i64 1, .string ⟨#[89]⟩, .int .i64 1, .string ⟨#[90]⟩] 38) = x := ⟨_, rfl⟩
 have Xw4 := qH (show Ext w3 w4 from by rw [<- ew4]; exact (Kp.refl w3).alloc _)
 have T1 := qH (show aQ w4 TT (some ⟨w3.heap.size, 0, none⟩) [((1 : Int), (⟨#[89]⟩ : ByteArray), ()), ((1 : Int), (⟨#[90]⟩ : ByteArray), ())] from by rw [<- ew4]; exact nN w3 [((1 : Int), (⟨#[89]⟩ : ByteArray), ()), ((1 : Int), (⟨#[90]⟩ : ByteArray), ())] (by kernel_rfl))
 go_wp2_with fail
 clear ew4
 refine (xJ ⟨#[101]⟩ (some ⟨w3.heap.size, 0, none⟩) 2 2 w4).mono ?_
 rintro e w5 ⟨vw5, rfl, hkw5, rfl⟩
 have Xw5 := qH (show Ext w4 w5 from hkw5)
 clear hkw5
 go_wp2_with fail
 refine (lC ⟨#[90]⟩ w5).mono ?_
 rintro e w6 ⟨vw6, rfl, hkw6, rfl⟩
 have Xw6 := qH (show Ext w5 w6 from hkw6)
 clear hkw6
 go_wp2_with fail
 refine (lC ⟨#[88]⟩ w6).mono ?_
 rintro e w7 ⟨vw7, rfl, hkw7, rfl⟩
 have Xw7 := qH (show Ext w6 w7 from hkw7)
 clear hkw7
 obtain ⟨w8, ew8⟩ : ∃ x, w7.alloc (.cells #[.int .i64 1, .string ⟨#[90]⟩, .int .i64 1, .string ⟨#[88]⟩] 38) = x := ⟨_, rfl⟩
 have Xw8 := qH (show Ext w7 w8 from by rw [<- ew8]; exact (Kp.refl w7).alloc _)
 have T2 := qH (show aQ w8 TT (some ⟨w7.heap.size, 0, none⟩) [((1 : Int), (⟨#[90]⟩ : ByteArray), ()), ((1 : Int), (⟨#[88]⟩ : ByteArray), ())] from by rw [<- ew8]; exact nN w7 [((1 : Int), (⟨#[90]⟩ : ByteArray), ()), ((1 : Int), (⟨#[88]⟩ : ByteArray), ())] (by kernel_rfl))
 go_wp2_with fail
 clear ew8
 refine (xJ ⟨#[101]⟩ (some ⟨w7.heap.size, 0, none⟩) 2 2 w8).mono ?_
 rintro e w9 ⟨vw9, rfl, hkw9, rfl⟩
 have Xw9 := qH (show Ext w8 w9 from hkw9)
 clear hkw9
 obtain ⟨w10, ew10⟩ : ∃ x, w9.alloc (.cells #[.int .i64 1, .string ⟨#[101]⟩, .slice (some ⟨w3.heap.size, 0, none⟩) 2 2, .int .i64 0, .int .i64 0, .string ⟨#[]⟩, .int .i64 0, .string ⟨#[]⟩, .int .i64 1, .string ⟨#[101]⟩, .slice (some ⟨w7.heap.size, 0, none⟩) 2 2, .int .i64 0, .int .i64 0, .string ⟨#[]⟩, .int .i64 0, .string ⟨#[]⟩] 40) = x := ⟨_, rfl⟩
 have Xw10 := qH (show Ext w9 w10 from by rw [<- ew10]; exact (Kp.refl w9).alloc _)
 have HB := qH (show Blk w10 w9.heap.size [.int .i64 1, .string ⟨#[101]⟩, .slice (some ⟨w3.heap.size, 0, none⟩) 2 2, .int .i64 0, .int .i64 0, .string ⟨#[]⟩, .int .i64 0, .string ⟨#[]⟩, .int .i64 1, .string ⟨#[101]⟩, .slice (some ⟨w7.heap.size, 0, none⟩) 2 2, .int .i64 0, .int .i64 0, .string ⟨#[]⟩, .int .i64 0, .string ⟨#[]⟩] 40 from by rw [<- ew10]; exact Blk.new w9 _ _)
 go_wp2_with fail
 refine (lC ⟨#[88]⟩ w10).mono ?_
 rintro e w11 ⟨vw11, rfl, hkw11, rfl⟩
 have Xw11 := qH (show Ext w10 w11 from hkw11)
 clear hkw11
 go_wp2_with fail
 refine (lC ⟨#[89]⟩ w11).mono ?_
 rintro e w12 ⟨vw12, rfl, hkw12, rfl⟩
 have Xw12 := qH (show Ext w11 w12 from hkw12)
 clear hkw12
 obtain ⟨w13, ew13⟩ : ∃ x, w12.alloc (.cells #[.int .i64 1, .string ⟨#[88]⟩, .int .i64 1, .string ⟨#[89]⟩] 38) = x := ⟨_, rfl⟩
 have Xw13 := qH (show Ext w12 w13 from by rw [<- ew13]; exact (Kp.refl w12).alloc _)
 have T3 := qH (show aQ w13 TT (some ⟨w12.heap.size, 0, none⟩) [((1 : Int), (⟨#[88]⟩ : ByteArray), ()), ((1 : Int), (⟨#[89]⟩ : ByteArray), ())] from by rw [<- ew13]; exact nN w12 [((1 : Int), (⟨#[88]⟩ : ByteArray), ()), ((1 : Int), (⟨#[89]⟩ : ByteArray), ())] (by kernel_rfl))
 have hgL : w9.heap.size < w10.heap.size := HB.out.lt
 have hg0 : w.heap.size < w1.heap.size := HR.out.lt
 have hg1 : w.heap.size < w9.heap.size := by have h2 := (Xw2.out.trans (Xw3.out.trans (Xw4.out.trans (Xw5.out.trans (Xw6.out.trans (Xw7.out.trans (Xw8.out.trans Xw9.out))))))).size; omega
 have HX := qH (show Ext w w13 /\ Row w13 40 8 (.slice (some ⟨w9.heap.size, 0, none⟩) 2 2) 2 ((oU.zip [((some ⟨w3.heap.size, 0, none⟩ : Option Addr), 2), ((some ⟨w7.heap.size, 0, none⟩ : Option Addr), 2)]).flatMap bU) (New w) /\ Blk w13 w.heap.size [.string ⟨#[]⟩, .slice none 0 0, .slice none 0 0] 27 /\ w.heap.size < w9.heap.size from
  ⟨(Xw1.out.trans (Xw2.out.trans (Xw3.out.trans (Xw4.out.trans (Xw5.out.trans (Xw6.out.trans (Xw7.out.trans (Xw8.out.trans (Xw9.out.trans (Xw10.out.trans (Xw11.out.trans (Xw12.out.trans Xw13.out)))))))))))), ⟨rfl, .inr ⟨_, 2, [], rfl, Nat.le_of_lt hg1, by rw [List.append_nil]; exact HB.out.ext (Xw11.out.trans (Xw12.out.trans Xw13.out)), rfl, Nat.le_refl _, by decide⟩⟩, HR.out.ext (Xw2.out.trans (Xw3.out.trans (Xw4.out.trans (Xw5.out.trans (Xw6.out.trans (Xw7.out.trans (Xw8.out.trans (Xw9.out.trans (Xw10.out.trans (Xw11.out.trans (Xw12.out.trans Xw13.out))))))))))), hg1⟩)
 have HP0 := qH (oR (G := (fun k => k ≠ w9.heap.size /\ k ≠ w.heap.size)) (T1.out.ext (Xw5.out.trans (Xw6.out.trans (Xw7.out.trans (Xw8.out.trans (Xw9.out.trans (Xw10.out.trans (Xw11.out.trans (Xw12.out.trans Xw13.out))))))))) ⟨by have h1 := aAn T1.out (by simp); have h2 := (Xw5.out.trans (Xw6.out.trans (Xw7.out.trans (Xw8.out.trans Xw9.out)))).size; omega, by have h3 := (Xw2.out.trans Xw3.out).size; omega⟩)
 have HP1 := qH (oR (G := (fun k => k ≠ w9.heap.size /\ k ≠ w.heap.size)) (T2.out.ext (Xw9.out.trans (Xw10.out.trans (Xw11.out.trans (Xw12.out.trans Xw13.out))))) ⟨by have h1 := aAn T2.out (by simp); have h2 := Xw9.out.size; omega, by have h3 := (Xw2.out.trans (Xw3.out.trans (Xw4.out.trans (Xw5.out.trans (Xw6.out.trans Xw7.out))))).size; omega⟩)
 have HPh := qH (oR (G := (fun k => k ≠ w9.heap.size /\ k ≠ w.heap.size)) (T3.out.ext (Kp.refl w13)) ⟨by have h2 := (Xw11.out.trans Xw12.out).size; omega, by have h2 := (Xw11.out.trans Xw12.out).size; omega⟩)
 clear HB HR hgL hg0 hg1 Xw1 Xw2 Xw3 Xw4 Xw5 Xw6 Xw7 Xw8 Xw9 Xw10 Xw11 Xw12 Xw13 T1 T2 T3
 go_wp2_with (first | (at_builtin; refine Halted.out ?_))
 clear ew13 ew10
 refine Halted.mk (dB (m := mn) (n := 2) eF rfl _ _ rfl HX.out.1 rfl HX.out.2.1 rfl (HV.out.2.1.ext HX.out.1) (by rw [iA bU 8 dD, List.length_zip, HV.out.1, Nat.min_self, HV.out.2.2.2.1]) (fun u hu => by obtain ⟨x, _, hx⟩ := List.mem_flatMap.1 hu; exact jH x u hx) (by omega) (by unfold maxLen; omega) ?_)
 intro vA wA hrA hkA hkB _
 have hRA : Blk wA w.heap.size [.string ⟨#[]⟩, .slice none 0 0, .slice none 0 0] 27 := HX.out.2.2.1.kp hkB fun hg => by
  obtain ⟨cs, hb⟩ := aR HX.out.2.1 hg
  exact dK (cO hb HX.out.2.2.1)
 have hoff : ∀ k, (fun k => k ≠ w9.heap.size /\ k ≠ w.heap.size) k -> ¬ (Value.slice (some ⟨w9.heap.size, 0, none⟩) 2 2).ownBlock = some k := fun k hk e => by cases e; exact hk.1 rfl
 obtain ⟨h1, ⟨_, h0⟩ | ⟨gb, cap2, rest, rfl, hM, hBB, hlen, hnc, hcm⟩⟩ := hrA
 ·omega
 ·have HF := qH (show Ext w wA /\ Blk wA w.heap.size [.string ⟨#[]⟩, .slice none 0 0, .slice none 0 0] 27 /\ aQ wA (fun k => k ≠ w9.heap.size /\ k ≠ w.heap.size) (some ⟨w12.heap.size, 0, none⟩) zK /\ Blk wA gb (((oU ++ ls).zip ([((some ⟨w3.heap.size, 0, none⟩ : Option Addr), 2), ((some ⟨w7.heap.size, 0, none⟩ : Option Addr), 2)] ++ vs)).flatMap bU ++ rest) 40 /\ (∀ x ∈ (oU ++ ls).zip ([((some ⟨w3.heap.size, 0, none⟩ : Option Addr), 2), ((some ⟨w7.heap.size, 0, none⟩ : Option Addr), 2)] ++ vs), aQ wA (fun k => k ≠ w9.heap.size /\ k ≠ w.heap.size) x.2.1 (aA x.1) /\ (aA x.1).length ≤ x.2.2 /\ x.2.2 ≤ maxLen) from by
   refine ⟨hkA, hRA, HPh.out.kp hkB hoff, ?_, fun x hx => ?_⟩
   ·rw [List.zip_append (by rfl), List.flatMap_append]; exact hBB
   ·rw [List.zip_append (by rfl)] at hx
    rcases List.mem_append.1 hx with hx | hx
    ·have hx' : x ∈ [((((1) : Int), ((⟨#[101]⟩ : ByteArray), [((1 : Int), (⟨#[89]⟩ : ByteArray), ()), ((1 : Int), (⟨#[90]⟩ : ByteArray), ())], ()), (0 : Int), ((0 : Int), (⟨#[]⟩ : ByteArray), ()), ((0 : Int), (⟨#[]⟩ : ByteArray), ()), ()), ((some ⟨w3.heap.size, 0, none⟩ : Option Addr), 2)), ((((1) : Int), ((⟨#[101]⟩ : ByteArray), [((1 : Int), (⟨#[90]⟩ : ByteArray), ()), ((1 : Int), (⟨#[88]⟩ : ByteArray), ())], ()), (0 : Int), ((0 : Int), (⟨#[]⟩ : ByteArray), ()), ((0 : Int), (⟨#[]⟩ : ByteArray), ()), ()), ((some ⟨w7.heap.size, 0, none⟩ : Option Addr), 2))] := hx
     simp only [List.mem_cons, List.not_mem_nil, or_false] at hx'
     rcases hx' with rfl | rfl
     ·exact ⟨HP0.out.kp hkB hoff, Nat.le_refl _, (by decide : 2 ≤ maxLen)⟩
     ·exact ⟨HP1.out.kp hkB hoff, Nat.le_refl _, (by decide : 2 ≤ maxLen)⟩
    ·have hi := HV.out.2.2.1 x hx
     exact ⟨((aFv hi.terms).mono fun k hk => ⟨by have := HX.out.2.2.2; omega, by omega⟩).ext hkA, hi.len, hi.cap⟩)
  have p0 : wA.cell? ⟨w.heap.size, 0, none⟩ = some (.string ⟨#[]⟩) := by rw [hRA.cell']; rfl
  have p1 : wA.cell? ⟨w.heap.size, 1, none⟩ = some (.slice none 0 0) := by rw [hRA.cell']; rfl
  have p2 : wA.cell? ⟨w.heap.size, 2, none⟩ = some (.slice none 0 0) := by rw [hRA.cell']; rfl
  clear h1 hM hBB hlen hnc hcm hkA hkB hRA hoff
  go_wp2_with fail
  refine (aDc (some ⟨w12.heap.size, 0, none⟩) (some ⟨gb, 0, none⟩) 2 2 (2 + mn) cap2 wA).mono ?_
  rintro e wB ⟨vB, rfl, hkC, rfl⟩
  have HRB := qH (HF.out.2.1.ext hkC)
  have XB := qH hkC
  have c0 : wB.cell? ⟨w.heap.size, 0, none⟩ = some (.string ⟨#[]⟩) := by rw [HRB.out.cell']; rfl
  have c1 : wB.cell? ⟨w.heap.size, 1, none⟩ = some (.slice none 0 0) := by rw [HRB.out.cell']; rfl
  have c2 : wB.cell? ⟨w.heap.size, 2, none⟩ = some (.slice none 0 0) := by rw [HRB.out.cell']; rfl
  have f0 := HRB.out.free 0
  have f1 := HRB.out.free 1
  have f2 := HRB.out.free 2
  clear hkC p0 p1 p2
  go_wp2
  obtain ⟨Z, eZ⟩ : ∃ x, (((wB.setCell ⟨w.heap.size, 0, none⟩ (.string ⟨#[116]⟩)).setCell ⟨w.heap.size, 1, none⟩ (.slice (some ⟨w12.heap.size, 0, none⟩) 2 2)).setCell ⟨w.heap.size, 2, none⟩ (.slice (some ⟨gb, 0, none⟩) (2 + mn) cap2)) = x := ⟨_, rfl⟩
  have hBZ : Blk Z w.heap.size [.string ⟨#[116]⟩, .slice (some ⟨w12.heap.size, 0, none⟩) 2 2, .slice (some ⟨gb, 0, none⟩) (2 + mn) cap2] 27 := by
   rw [<- eZ]; exact ((HRB.out.set 0 _).set 1 _).set 2 _
  have kZ : Kp (fun k => k = w.heap.size) wB Z := by
   rw [<- eZ]
   exact Kp.setCell (F := fun k => k = w.heap.size) (p := ⟨w.heap.size, 2, none⟩) (Kp.setCell (F := fun k => k = w.heap.size) (p := ⟨w.heap.size, 1, none⟩) (Kp.setCell (F := fun k => k = w.heap.size) (p := ⟨w.heap.size, 0, none⟩) (Kp.refl wB) (fun _ => rfl) _) (fun _ => rfl) _) (fun _ => rfl) _
  have d0 : Z.cell? ⟨w.heap.size, 0, none⟩ = some (.string ⟨#[116]⟩) := by rw [hBZ.cell']; rfl
  have d1 : Z.cell? ⟨w.heap.size, 1, none⟩ = some (.slice (some ⟨w12.heap.size, 0, none⟩) 2 2) := by rw [hBZ.cell']; rfl
  have d2 : Z.cell? ⟨w.heap.size, 2, none⟩ = some (.slice (some ⟨gb, 0, none⟩) (2 + mn) cap2) := by rw [hBZ.cell']; rfl
  rw [eZ]
  have hno : ∀ k, (fun k => k ≠ w9.heap.size /\ k ≠ w.heap.size) k -> ¬ k = w.heap.size := fun k hk => hk.2
  have hgb : ¬ gb = w.heap.size := fun e => by
   have hb := HF.out.2.2.2.1
   rw [e] at hb
   exact dK (cO hb HF.out.2.1)
  refine bodyPost_ret (v := cP ⟨#[116]⟩ (some ⟨w12.heap.size, 0, none⟩) 2 2 (some ⟨gb, 0, none⟩) (2 + mn) cap2) (by simp [results, Tryz.results27, go_sem, d0, d1, d2]) rfl ?_
  refine RetN.mk ((HF.out.1.trans XB.out).trans' kZ fun i hi e => by have e' : i = w.heap.size := e; omega) ⟨_, _, _, _, rfl, ((HF.out.2.2.1.ext XB.out).kp kZ hno).mono fun _ _ => trivial, ?_⟩
  refine lP (vs := [((some ⟨w3.heap.size, 0, none⟩ : Option Addr), 2), ((some ⟨w7.heap.size, 0, none⟩ : Option Addr), 2)] ++ vs) (rest := rest) (e := 40) (by rw [List.length_append, List.length_append, HV.out.1]; rfl) (fun l hl => ?_) (fun x hx => ?_) trivial ((HF.out.2.2.2.1.ext XB.out).kp kZ hgb)
  ·rcases List.mem_append.1 hl with hl | hl
   ·exact rZ (ls := oU) (by kernel_rfl) l hl
   ·exact HV.out.2.2.2.2 l hl
  ·obtain ⟨q1, q2, q3⟩ := HF.out.2.2.2.2 x hx
   exact ⟨((q1.ext XB.out).kp kZ hno).mono fun _ _ => trivial, q2, q3⟩
end Go.Proofs.YtinnmeiphbdogaaGreat
/- The law of joins: awake: the chapter's bindings. -/
namespace Go.Proofs.YtinnmeiphbdogaaGreat
open Go.RowKit Go.Shelf
attribute [local go_sem] Oper.semAt_some
theorem aEt (bb : Nat) (w : World) : (binOp .neq 29 (.pointer (some ⟨bb, 0, none⟩)) (.pointer none)).run Tryz.prog w = .ok (.bool true) w := by kernel_rfl
set_option maxRecDepth 100000 in
set_option maxHeartbeats 4000000 in
theorem jY (w : World) : Calls Tryz.prog 12 #[] w (RetN w fun w' v => v = .bool true) := by
 go_enter Tryz.func12, Tryz.ntmps12
 go_wp2_with fail
 refine (aG2 w).mono ?_
 rintro e w1 ⟨vw1, rfl, hkw1, bb, E, SS, rfl, hBv, hCv⟩
 have Xw1 := qH (show Ext w w1 from hkw1)
 clear hkw1
 have HBv := qH (And.intro hBv hCv)
 clear hBv hCv
 have hnb := aEt bb w1
 go_wp2_with fail
 refine (aBc (ls := []) (ma := none) (mn := 0) (mc := 0) (w := w1) rfl (uX w1 none) (by decide)).mono ?_
 rintro e w2 ⟨vw2, rfl, hkw2, ha1, hc1, ba1, bc1, hv1, hT1, hL1⟩
 have Xw2 := qH (show Ext w1 w2 from hkw2)
 clear hkw2
 have hv12 : vw2 = cP ⟨#[116]⟩ ha1 2 hc1 ba1 2 bc1 := hv1
 subst hv12
 have T1 := qH hT1
 have L1 := qH hL1
 clear hT1 hL1 hv1
 go_wp2_with fail
 refine (vT (p := ⟨#[116]⟩) (hs := zK) (ls := (oU ++ [])) (ha := ha1) (ba := ba1) (hn := 2) (hcap := hc1) (n := 2) (bcap := bc1) rfl (T1.out.ext (Kp.refl w2)) (by decide) rfl (L1.out.ext (Kp.refl w2)) (aI2 (by kernel_rfl)) (aI4 (by kernel_rfl)) (by decide) (HBv.out.1.ext Xw2.out) HBv.out.2 [(⟨#[97, 59, 98, 59, 98, 59]⟩ : ByteArray), (⟨#[97, 59, 98, 59, 99, 59]⟩ : ByteArray), (⟨#[98, 59, 98, 59, 98, 59]⟩ : ByteArray), (⟨#[98, 59, 98, 59, 99, 59]⟩ : ByteArray), (⟨#[98, 59, 99, 59, 97, 59]⟩ : ByteArray), (⟨#[99, 59, 97, 59, 98, 59]⟩ : ByteArray)] 6 (by kernel_rfl) rfl (by decide)).mono ?_
 rintro e w3 ⟨vw3, rfl, hkw3, ea2, ec2, rfl, hE2⟩
 have Xw3 := qH (show Ext w2 w3 from hkw3)
 clear hkw3
 have E2 := qH hE2
 clear hE2
 obtain ⟨w4, ew4⟩ : ∃ x, w3.alloc (.cells #[.string ⟨#[97, 59, 98, 59, 98, 59]⟩, .string ⟨#[97, 59, 98, 59, 99, 59]⟩, .string ⟨#[98, 59, 98, 59, 98, 59]⟩, .string ⟨#[98, 59, 98, 59, 99, 59]⟩, .string ⟨#[98, 59, 99, 59, 97, 59]⟩, .string ⟨#[99, 59, 97, 59, 98, 59]⟩] 9) = x := ⟨_, rfl⟩
 have Xw4 := qH (show Ext w3 w4 from by rw [<- ew4]; exact (Kp.refl w3).alloc _)
 have Sw4 := qH (show CellsAt w4 (some ⟨w3.heap.size, 0, none⟩) (strs [(⟨#[97, 59, 98, 59, 98, 59]⟩ : ByteArray), (⟨#[97, 59, 98, 59, 99, 59]⟩ : ByteArray), (⟨#[98, 59, 98, 59, 98, 59]⟩ : ByteArray), (⟨#[98, 59, 98, 59, 99, 59]⟩ : ByteArray), (⟨#[98, 59, 99, 59, 97, 59]⟩ : ByteArray), (⟨#[99, 59, 97, 59, 98, 59]⟩ : ByteArray)]) from by rw [<- ew4]; exact CellsAt.new w3 (strs [(⟨#[97, 59, 98, 59, 98, 59]⟩ : ByteArray), (⟨#[97, 59, 98, 59, 99, 59]⟩ : ByteArray), (⟨#[98, 59, 98, 59, 98, 59]⟩ : ByteArray), (⟨#[98, 59, 98, 59, 99, 59]⟩ : ByteArray), (⟨#[98, 59, 99, 59, 97, 59]⟩ : ByteArray), (⟨#[99, 59, 97, 59, 98, 59]⟩ : ByteArray)]) _)
 go_wp2_with fail
 clear ew4
 refine (uA [(⟨#[97, 59, 98, 59, 98, 59]⟩ : ByteArray), (⟨#[97, 59, 98, 59, 99, 59]⟩ : ByteArray), (⟨#[98, 59, 98, 59, 98, 59]⟩ : ByteArray), (⟨#[98, 59, 98, 59, 99, 59]⟩ : ByteArray), (⟨#[98, 59, 99, 59, 97, 59]⟩ : ByteArray), (⟨#[99, 59, 97, 59, 98, 59]⟩ : ByteArray)] (ea2) (some ⟨w3.heap.size, 0, none⟩) 6 ec2 6 w4 rfl (E2.out.ext Xw4.out) (Sw4.out.ext (Kp.refl w4)) (by decide)).mono ?_
 rintro e w5 ⟨vw5, rfl, hkw5, rfl⟩
 have Xw5 := qH (show Ext w4 w5 from hkw5)
 clear hkw5
 clear hnb
 go_wp2_with fail
 refine (lC ⟨#[88]⟩ w5).mono ?_
 rintro e w6 ⟨vw6, rfl, hkw6, rfl⟩
 have Xw6 := qH (show Ext w5 w6 from hkw6)
 clear hkw6
 obtain ⟨w7, ew7⟩ : ∃ x, w6.alloc (.cells #[.int .i64 1, .string ⟨#[88]⟩] 38) = x := ⟨_, rfl⟩
 have Xw7 := qH (show Ext w6 w7 from by rw [<- ew7]; exact (Kp.refl w6).alloc _)
 have T3 := qH (show aQ w7 TT (some ⟨w6.heap.size, 0, none⟩) [((1 : Int), (⟨#[88]⟩ : ByteArray), ())] from by rw [<- ew7]; exact nN w6 [((1 : Int), (⟨#[88]⟩ : ByteArray), ())] (by kernel_rfl))
 go_wp2_with fail
 clear ew7
 refine (aGl ⟨#[110]⟩ (some ⟨w6.heap.size, 0, none⟩) 1 1 w7).mono ?_
 rintro e w8 ⟨vw8, rfl, hkw8, rfl⟩
 have Xw8 := qH (show Ext w7 w8 from hkw8)
 clear hkw8
 obtain ⟨w9, ew9⟩ : ∃ x, w8.alloc (.cells #[.int .i64 2, .string ⟨#[110]⟩, .slice (some ⟨w6.heap.size, 0, none⟩) 1 1, .int .i64 0, .int .i64 0, .string ⟨#[]⟩, .int .i64 0, .string ⟨#[]⟩] 40) = x := ⟨_, rfl⟩
 have Xw9 := qH (show Ext w8 w9 from by rw [<- ew9]; exact (Kp.refl w8).alloc _)
 have L4 := qH (show bQ w9 TT (some ⟨w8.heap.size, 0, none⟩) [(((2) : Int), ((⟨#[110]⟩ : ByteArray), [((1 : Int), (⟨#[88]⟩ : ByteArray), ())], ()), (0 : Int), ((0 : Int), (⟨#[]⟩ : ByteArray), ()), ((0 : Int), (⟨#[]⟩ : ByteArray), ()), ())] from by
  rw [<- ew9]
  refine aIq w8 [(((2) : Int), ((⟨#[110]⟩ : ByteArray), [((1 : Int), (⟨#[88]⟩ : ByteArray), ())], ()), (0 : Int), ((0 : Int), (⟨#[]⟩ : ByteArray), ()), ((0 : Int), (⟨#[]⟩ : ByteArray), ()), ())] [(some ⟨w6.heap.size, 0, none⟩, 1)] rfl (by kernel_rfl) fun x hx => ?_
  simp only [List.zip_cons_cons, List.zip_nil_right, List.mem_cons, List.not_mem_nil, or_false] at hx
  rcases hx with rfl
  ·exact ⟨(T3.out.ext Xw8.out), Nat.le_refl _, (by decide : 1 ≤ maxLen)⟩)
 go_wp2_with fail
 clear ew9
 refine (aBc (ls := [(((2) : Int), ((⟨#[110]⟩ : ByteArray), [((1 : Int), (⟨#[88]⟩ : ByteArray), ())], ()), (0 : Int), ((0 : Int), (⟨#[]⟩ : ByteArray), ()), ((0 : Int), (⟨#[]⟩ : ByteArray), ()), ())]) (ma := some ⟨w8.heap.size, 0, none⟩) (mn := 1) (mc := 1) (w := w9) rfl (L4.out.ext (Kp.refl w9)) (by decide)).mono ?_
 rintro e w10 ⟨vw10, rfl, hkw10, ha5, hc5, ba5, bc5, hv5, hT5, hL5⟩
 have Xw10 := qH (show Ext w9 w10 from hkw10)
 clear hkw10
 have hv52 : vw10 = cP ⟨#[116]⟩ ha5 2 hc5 ba5 3 bc5 := hv5
 subst hv52
 have T5 := qH hT5
 have L5 := qH hL5
 clear hT5 hL5 hv5
 go_wp2_with fail
 refine (vT (p := ⟨#[116]⟩) (hs := zK) (ls := (oU ++ [(((2) : Int), ((⟨#[110]⟩ : ByteArray), [((1 : Int), (⟨#[88]⟩ : ByteArray), ())], ()), (0 : Int), ((0 : Int), (⟨#[]⟩ : ByteArray), ()), ((0 : Int), (⟨#[]⟩ : ByteArray), ()), ())])) (ha := ha5) (ba := ba5) (hn := 2) (hcap := hc5) (n := 3) (bcap := bc5) rfl (T5.out.ext (Kp.refl w10)) (by decide) rfl (L5.out.ext (Kp.refl w10)) (aI2 (by kernel_rfl)) (aI4 (by kernel_rfl)) (by decide) (HBv.out.1.ext (Xw2.out.trans (Xw3.out.trans (Xw4.out.trans (Xw5.out.trans (Xw6.out.trans (Xw7.out.trans (Xw8.out.trans (Xw9.out.trans Xw10.out))))))))) HBv.out.2 [(⟨#[97, 59, 98, 59, 99, 59]⟩ : ByteArray), (⟨#[98, 59, 98, 59, 99, 59]⟩ : ByteArray), (⟨#[98, 59, 99, 59, 97, 59]⟩ : ByteArray)] 3 (by kernel_rfl) rfl (by decide)).mono ?_
 rintro e w11 ⟨vw11, rfl, hkw11, ea6, ec6, rfl, hE6⟩
 have Xw11 := qH (show Ext w10 w11 from hkw11)
 clear hkw11
 have E6 := qH hE6
 clear hE6
 obtain ⟨w12, ew12⟩ : ∃ x, w11.alloc (.cells #[.string ⟨#[97, 59, 98, 59, 99, 59]⟩, .string ⟨#[98, 59, 98, 59, 99, 59]⟩, .string ⟨#[98, 59, 99, 59, 97, 59]⟩] 9) = x := ⟨_, rfl⟩
 have Xw12 := qH (show Ext w11 w12 from by rw [<- ew12]; exact (Kp.refl w11).alloc _)
 have Sw12 := qH (show CellsAt w12 (some ⟨w11.heap.size, 0, none⟩) (strs [(⟨#[97, 59, 98, 59, 99, 59]⟩ : ByteArray), (⟨#[98, 59, 98, 59, 99, 59]⟩ : ByteArray), (⟨#[98, 59, 99, 59, 97, 59]⟩ : ByteArray)]) from by rw [<- ew12]; exact CellsAt.new w11 (strs [(⟨#[97, 59, 98, 59, 99, 59]⟩ : ByteArray), (⟨#[98, 59, 98, 59, 99, 59]⟩ : ByteArray), (⟨#[98, 59, 99, 59, 97, 59]⟩ : ByteArray)]) _)
 go_wp2_with fail
 clear ew12
 refine (uA [(⟨#[97, 59, 98, 59, 99, 59]⟩ : ByteArray), (⟨#[98, 59, 98, 59, 99, 59]⟩ : ByteArray), (⟨#[98, 59, 99, 59, 97, 59]⟩ : ByteArray)] (ea6) (some ⟨w11.heap.size, 0, none⟩) 3 ec6 3 w12 rfl (E6.out.ext Xw12.out) (Sw12.out.ext (Kp.refl w12)) (by decide)).mono ?_
 rintro e w13 ⟨vw13, rfl, hkw13, rfl⟩
 have Xw13 := qH (show Ext w12 w13 from hkw13)
 clear hkw13
 go_wp2
 go_ret
 exact RetN.mk (Xw1.out.trans (Xw2.out.trans (Xw3.out.trans (Xw4.out.trans (Xw5.out.trans (Xw6.out.trans (Xw7.out.trans (Xw8.out.trans (Xw9.out.trans (Xw10.out.trans (Xw11.out.trans (Xw12.out.trans Xw13.out)))))))))))) rfl
end Go.Proofs.YtinnmeiphbdogaaGreat
/- The law of joins: JoinOrder: what stands behind the loops. -/
namespace Go.Proofs.YtinnmeiphbdogaaGreat
open Go.RowKit Go.Shelf
attribute [local go_sem] Oper.semAt_some
def qB : Nat -> Code -> Code
 | 0, c => c
 | n + 1, .seq _ b => qB n b
 | _ + 1, c => c
noncomputable def pN : Code := qB 17 (Tryz.f3.body.getD .skip)
noncomputable def uN : Code := qB 8 (Tryz.f3.body.getD .skip)
set_option maxRecDepth 100000 in
theorem aDz (t : Array Value) (h : t.size = 171) : ∃ u : Nat -> Value, (∀ i, t.getD i undef = u i) /\ t = #[u 0, u 1, u 2, u 3, u 4, u 5, u 6, u 7, u 8, u 9, u 10, u 11, u 12, u 13, u 14, u 15, u 16, u 17, u 18, u 19, u 20, u 21, u 22, u 23, u 24, u 25, u 26, u 27, u 28, u 29, u 30, u 31, u 32, u 33, u 34, u 35, u 36, u 37, u 38, u 39, u 40, u 41, u 42, u 43, u 44, u 45, u 46, u 47, u 48, u 49, u 50, u 51, u 52, u 53, u 54, u 55, u 56, u 57, u 58, u 59, u 60, u 61, u 62, u 63, u 64, u 65, u 66, u 67, u 68, u 69, u 70, u 71, u 72, u 73, u 74, u 75, u 76, u 77, u 78, u 79, u 80, u 81, u 82, u 83, u 84, u 85, u 86, u 87, u 88, u 89, u 90, u 91, u 92, u 93, u 94, u 95, u 96, u 97, u 98, u 99, u 100, u 101, u 102, u 103, u 104, u 105, u 106, u 107, u 108, u 109, u 110, u 111, u 112, u 113, u 114, u 115, u 116, u 117, u 118, u 119, u 120, u 121, u 122, u 123, u 124, u 125, u 126, u 127, u 128, u 129, u 130, u 131, u 132, u 133, u 134, u 135, u 136, u 137, u 138, u 139, u 140, u 141, u 142, u 143, u 144, u 145, u 146, u 147, u 148, u 149, u 150, u 151, u 152, u 153, u 154, u 155, u 156, u 157, u 158, u 159, u 160, u 161, u 162, u 163, u 164, u 165, u 166, u 167, u 168, u 169, u 170] := by
 refine ⟨fun i => t.toList.getD i undef, fun i => by simp [Array.getD_eq_getD_getElem?, List.getD_eq_getElem?_getD], ?_⟩
 apply Array.ext'
 have := kN t.toList 171 (by simpa using h)
 exact this
set_option maxRecDepth 100000 in
set_option maxHeartbeats 16000000 in
theorem aGf {w W : World} {p : ByteArray} {hs : List aF} {ls : List aJ} {ha ba ta ua ea va wa : Option Addr} {hn hcap n bcap tn tc un uc en ec vq vc wc c g3 gt gu ge : Nat} {o : Option Addr} {T D : List ByteArray} {fb : Bool} {t : Array Value} {M : Nat -> Prop}
 (hx : Ext w W) (h3 : Blk W g3 [.string p, .slice ha hn hcap, .slice ba n bcap] 27) (ht : Blk W gt [.string p, .slice ha hn hcap, .slice ta tn tc] 27) (hu : Blk W gu [.string p, .slice ha hn hcap, .slice ua un uc] 27) (he : Blk W ge [.string p, .slice ha hn hcap, .slice ea en ec] 27)
 (hC1 : ∀ X, Ext W X -> Calls Tryz.prog 15 #[cP p ha hn hcap ba n bcap] X (RetN X fun w' v => v = .int .i64 c))
 (hC2 : ∀ X, Ext W X -> Calls Tryz.prog 15 #[cP p ha hn hcap ta tn tc] X (RetN X fun w' v => v = .int .i64 c))
 (hRn : ∀ X, Ext W X -> Calls Tryz.prog 16 #[cP p ha hn hcap ba n bcap] X (RetN X fun w' v => ∃ ha' hcap' ba' bcap', v = cP p ha' hn hcap' ba' n bcap' /\ aQ w' TT ha' (hs.map bA) /\ bQ w' TT ba' (ls.map cM)))
 (hC3 : ∀ X a' c' b' d', aQ X TT a' (hs.map bA) -> bQ X TT b' (ls.map cM) -> Calls Tryz.prog 15 #[cP p a' hn c' b' n d'] X (RetN X fun w' v => v = .int .i64 c))
 (hNt : ∀ X, Ext W X -> Calls Tryz.prog 14 #[cP p ha hn hcap ta tn tc, .pointer o, .slice va vq vc] X (RetN X fun w' v => Row w' 9 1 v T.length (strs T) (New X)))
 (hNe : ∀ X, Ext W X -> Calls Tryz.prog 14 #[cP p ha hn hcap ea en ec, .pointer o, .slice va vq vc] X (RetN X fun w' v => Row w' 9 1 v T.length (strs T) (New X)))
 (hFu : ∀ X, Ext W X -> Calls Tryz.prog 11 #[cP p ha hn hcap ua un uc, .pointer o] X (RetN X fun w' v => v = .bool fb))
 (hNu : fb = true -> ∀ X, Ext W X -> Calls Tryz.prog 14 #[cP p ha hn hcap ua un uc, .pointer o, .slice va vq vc] X (RetN X fun w' v => Row w' 9 1 v T.length (strs T) (New X)))
 (hEr : ∀ X, Ext W X -> Calls Tryz.prog 18 #[cP p ha hn hcap ba n bcap, .pointer o] X (RetN X fun w' v => Row w' 9 1 v D.length (strs D) (New X)))
 (hEn : ∀ X a' c' b' d', Ext W X -> aQ X TT a' (hs.map bA) -> bQ X TT b' (ls.map cM) -> Calls Tryz.prog 18 #[cP p a' hn c' b' n d', .pointer o] X (RetN X fun w' v => Row w' 9 1 v D.length (strs D) (New X)))
 (hwa : CellsAt W wa (strs T)) (hTl : T.length ≤ 1048576 * 1048576) (hDl : D.length ≤ 1048576 * 1048576)
 (hz : t.size = 171) (t3 : t.getD 3 undef = .pointer (some ⟨g3, 0, none⟩)) (t7 : t.getD 7 undef = .pointer o) (t9 : t.getD 9 undef = .slice va vq vc) (t10 : t.getD 10 undef = .slice wa T.length wc) (t13 : t.getD 13 undef = .pointer (some ⟨gt, 0, none⟩)) (t14 : t.getD 14 undef = .pointer (some ⟨gu, 0, none⟩)) (t15 : t.getD 15 undef = .pointer (some ⟨ge, 0, none⟩)) :
 pN.wp Tryz.prog (bodyPost Tryz.prog Tryz.f3 (RetN w fun w' v => v = .bool true)) { tmps := t, defers := [] } W := by
 obtain ⟨u, hu', rfl⟩ := aDz t hz
 have e3 := (hu' 3).symm.trans t3
 have e7 := (hu' 7).symm.trans t7
 have e9 := (hu' 9).symm.trans t9
 have e10 := (hu' 10).symm.trans t10
 have e13 := (hu' 13).symm.trans t13
 have e14 := (hu' 14).symm.trans t14
 have e15 := (hu' 15).symm.trans t15
 rw [e3, e7, e9, e10, e13, e14, e15]
 clear hz t3 t7 t9 t10 t13 t14 t15 e3 e7 e9 e10 e13 e14 e15 hu'
 have HX := qH hx
 have HB := qH (show Blk W g3 _ _ /\ Blk W gt _ _ /\ Blk W gu _ _ /\ Blk W ge _ _ from ⟨h3, ht, hu, he⟩)
 have HCl := qH (show ∀ X, Ext W X -> (X.cell? ⟨g3, 0, none⟩ = some (.string p) /\ X.cell? ⟨g3, 1, none⟩ = some (.slice ha hn hcap) /\ X.cell? ⟨g3, 2, none⟩ = some (.slice ba n bcap)) /\ (X.cell? ⟨gt, 0, none⟩ = some (.string p) /\ X.cell? ⟨gt, 1, none⟩ = some (.slice ha hn hcap) /\ X.cell? ⟨gt, 2, none⟩ = some (.slice ta tn tc)) /\ (X.cell? ⟨gu, 0, none⟩ = some (.string p) /\ X.cell? ⟨gu, 1, none⟩ = some (.slice ha hn hcap) /\ X.cell? ⟨gu, 2, none⟩ = some (.slice ua un uc)) /\ X.cell? ⟨ge, 0, none⟩ = some (.string p) /\ X.cell? ⟨ge, 1, none⟩ = some (.slice ha hn hcap) /\ X.cell? ⟨ge, 2, none⟩ = some (.slice ea en ec) from fun X hX =>
  ⟨⟨by rw [(h3.ext hX).cell']; rfl, by rw [(h3.ext hX).cell']; rfl, by rw [(h3.ext hX).cell']; rfl⟩, ⟨by rw [(ht.ext hX).cell']; rfl, by rw [(ht.ext hX).cell']; rfl, by rw [(ht.ext hX).cell']; rfl⟩, ⟨by rw [(hu.ext hX).cell']; rfl, by rw [(hu.ext hX).cell']; rfl, by rw [(hu.ext hX).cell']; rfl⟩, by rw [(he.ext hX).cell']; rfl, by rw [(he.ext hX).cell']; rfl, by rw [(he.ext hX).cell']; rfl⟩)
 have K1 := qH hC1
 have K2 := qH hC2
 have KR := qH hRn
 have K3 := qH hC3
 have KT := qH hNt
 have KE := qH hNe
 have KF := qH hFu
 have KU := qH hNu
 have KD := qH hEr
 have KN := qH hEn
 have HW := qH hwa
 obtain ⟨q, eq⟩ : ∃ q, T.length = q := ⟨_, rfl⟩
 rw [eq] at hTl ⊢
 simp only [eq] at KT KE KU
 obtain ⟨d, ed⟩ : ∃ d, D.length = d := ⟨_, rfl⟩
 rw [ed] at hDl
 simp only [ed] at KD KN
 have HQ := qH (And.intro eq ed)
 clear hx h3 ht hu he hC1 hC2 hRn hC3 hNt hNe hFu hNu hEr hEn hwa eq ed
 conv => arg 2; whnf
 have hne : ((c : Int) != (c : Int)) = false := by simp
 obtain ⟨⟨a0, a1, a2⟩, -⟩ := HCl.out W (Kp.refl W)
 go_wp2_with fail
 refine (K1.out W (Kp.refl W)).mono ?_
 rintro e w1 ⟨v, rfl, hk1, rfl⟩
 clear a0 a1 a2
 have X1 := qH hk1
 obtain ⟨-, ⟨a0, a1, a2⟩, -⟩ := HCl.out w1 hk1
 clear hk1
 go_wp2_with fail
 refine (K2.out w1 X1.out).mono ?_
 rintro e w2 ⟨v, rfl, hk2, rfl⟩
 clear a0 a1 a2
 have X2 := qH (X1.out.trans hk2)
 obtain ⟨⟨a0, a1, a2⟩, -⟩ := HCl.out w2 X2.out
 clear hk2
 go_wp2_with fail
 refine (KR.out w2 X2.out).mono ?_
 rintro e w3 ⟨v, rfl, hk3, a', c', b', d', rfl, hT3, hL3⟩
 clear a0 a1 a2
 have X3 := qH (X2.out.trans hk3)
 have HK3 := qH (K3.out w3 a' c' b' d' hT3 hL3)
 clear hk3 hT3 hL3
 go_wp2_with fail
 refine HK3.out.mono ?_
 rintro e w4 ⟨v, rfl, hk4, rfl⟩
 have X4 := qH (X3.out.trans hk4)
 obtain ⟨-, ⟨a0, a1, a2⟩, -⟩ := HCl.out w4 X4.out
 clear hk4
 go_wp2_with fail
 refine (KT.out w4 X4.out).mono ?_
 rintro e w5 ⟨v, rfl, hk5, hr5⟩
 clear a0 a1 a2
 obtain ⟨xa, xc, rfl, hcx, _⟩ := hr5.shape
 have X5 := qH (X4.out.trans hk5)
 have HS5 := qH (jC T T xa wa q q xc wc w5 HQ.out.1.symm HQ.out.1.symm hcx (HW.out.ext X5.out) (by omega))
 clear hk5 hr5 hcx
 go_wp2_with fail
 refine HS5.out.mono ?_
 rintro e w6 ⟨v, rfl, hk6, rfl⟩
 have X6 := qH (X5.out.trans hk6)
 obtain ⟨-, -, -, a0, a1, a2⟩ := HCl.out w6 X6.out
 clear hk6
 go_wp2_with fail
 refine (KE.out w6 X6.out).mono ?_
 rintro e w7 ⟨v, rfl, hk7, hr7⟩
 clear a0 a1 a2
 obtain ⟨ya, yc, rfl, hcy, _⟩ := hr7.shape
 have X7 := qH (X6.out.trans hk7)
 have HS7 := qH (jC T T ya wa q q yc wc w7 HQ.out.1.symm HQ.out.1.symm hcy (HW.out.ext X7.out) (by omega))
 clear hk7 hr7 hcy
 go_wp2_with fail
 refine HS7.out.mono ?_
 rintro e w8 ⟨v, rfl, hk8, rfl⟩
 have X8 := qH (X7.out.trans hk8)
 obtain ⟨-, -, ⟨a0, a1, a2⟩, -⟩ := HCl.out w8 X8.out
 clear hk8
 go_wp2_with fail
 refine (KF.out w8 X8.out).mono ?_
 rintro e w9 ⟨v, rfl, hk9, rfl⟩
 clear a0 a1 a2
 have X9 := qH (X8.out.trans hk9)
 clear hk9
 cases fb
 ·obtain ⟨-, -, ⟨a0, a1, a2⟩, -⟩ := HCl.out w9 X9.out
  go_wp2_with fail
  refine (KF.out w9 X9.out).mono ?_
  rintro e wA ⟨v, rfl, hkA, rfl⟩
  have XA := qH (HX.out.trans (X9.out.trans hkA))
  clear hkA a0 a1 a2
  go_wp2
  go_ret
  exact RetN.mk XA.out rfl
 ·go_wp2
  have HSt := qH (show ∀ X, Ext W X -> (fun X => (X.cell? ⟨g3, 0, none⟩ = some (.string p) /\ X.cell? ⟨g3, 1, none⟩ = some (.slice ha hn hcap) /\ X.cell? ⟨g3, 2, none⟩ = some (.slice ba n bcap)) /\ X.cell? ⟨gu, 0, none⟩ = some (.string p) /\ X.cell? ⟨gu, 1, none⟩ = some (.slice ha hn hcap) /\ X.cell? ⟨gu, 2, none⟩ = some (.slice ua un uc)) X from fun X hX => ⟨(HCl.out X hX).1, (HCl.out X hX).2.2.1⟩)
  refine aW (fun X => (X.cell? ⟨g3, 0, none⟩ = some (.string p) /\ X.cell? ⟨g3, 1, none⟩ = some (.slice ha hn hcap) /\ X.cell? ⟨g3, 2, none⟩ = some (.slice ba n bcap)) /\ X.cell? ⟨gu, 0, none⟩ = some (.string p) /\ X.cell? ⟨gu, 1, none⟩ = some (.slice ha hn hcap) /\ X.cell? ⟨gu, 2, none⟩ = some (.slice ua un uc)) [] (by kernel_rfl) (HSt.out _ X9.out.drew) (fun hHeld => ?_)
  refine dI 0 ?_; try simp only [Act.put,sI,sZ,sS]
  refine dF 1 ?_; try simp only [Act.put,sI,sZ,sS]
  refine dF 2 ?_; try simp only [Act.put,sI,sZ,sS]
  refine dF 4 ?_; try simp only [Act.put,sI,sZ,sS]
  refine aD (i := 3) ?_
  refine aG (i := 3) rfl (fun K hK => ?_)
  go_simp
  ((with_reducible refine (KU.out (by first | rfl | trivial) _ X9.out.drew).mono ?_); rintro e wA ⟨v, rfl, hkA, hrA⟩; obtain ⟨xa, xc, rfl, hcx, _⟩ := hrA.shape; have XA := qH (X9.out.drew.trans hkA); have HSA := qH (jC T T xa wa q q xc wc wA HQ.out.1.symm HQ.out.1.symm hcx (HW.out.ext XA.out) (by omega)); clear hkA hrA hcx)
  go_wp2_with fail
  refine hK.out _ _ ?_ (fun hHeld => ?_)
  ·(try dsimp only); (first | exact HSt.out _ XE.out | exact HSt.out _ XD.out | exact HSt.out _ XC.out | exact HSt.out _ XB.out | exact HSt.out _ XA.out)
  clear hK K; (try simp only [Act.put,sI,sZ,sS])
  refine aD (i := 5) ?_
  refine aG (i := 5) rfl (fun K hK => ?_)
  go_simp
  ((with_reducible refine HSA.out.mono ?_); rintro e wB ⟨v, rfl, hkB, rfl⟩; have XB := qH (XA.out.trans hkB); clear hkB)
  go_wp2_with fail
  refine hK.out _ _ ?_ (fun hHeld => ?_)
  ·(try dsimp only); (first | exact HSt.out _ XE.out | exact HSt.out _ XD.out | exact HSt.out _ XC.out | exact HSt.out _ XB.out | exact HSt.out _ XA.out)
  clear hK K; (try simp only [Act.put,sI,sZ,sS])
  refine dF 6 ?_; try simp only [Act.put,sI,sZ,sS]
  (first | (refine dI 7 ?_) | (refine dO 7 ?_)); (try simp only [Act.put,sI,sZ,sS])
  (first | (refine dF 9 ?_) | (refine dO 9 ?_)); (try simp only [Act.put,sI,sZ,sS])
  (first | (refine dI 11 ?_) | (refine dO 11 ?_)); (try simp only [Act.put,sI,sZ,sS])
  (first | (refine dF 12 ?_) | (refine dO 12 ?_)); (try simp only [Act.put,sI,sZ,sS])
  refine aD (i := 8) ?_
  refine aG (i := 8) rfl (fun K hK => ?_)
  go_simp
  ((with_reducible refine (KR.out wB XB.out).mono ?_); rintro e wC ⟨v, rfl, hkC, a', c', b', d', rfl, hT3, hL3⟩; have XC := qH (XB.out.trans hkC); have HKC := qH (KN.out wC a' c' b' d' XC.out hT3 hL3); clear hkC hT3 hL3)
  go_wp2_with fail
  refine hK.out _ _ ?_ (fun hHeld => ?_)
  ·(try dsimp only); (first | exact HSt.out _ XE.out | exact HSt.out _ XD.out | exact HSt.out _ XC.out | exact HSt.out _ XB.out | exact HSt.out _ XA.out)
  clear hK K; (try simp only [Act.put,sI,sZ,sS])
  refine aD (i := 10) ?_
  refine aG (i := 10) rfl (fun K hK => ?_)
  go_simp
  ((with_reducible refine HKC.out.mono ?_); rintro e wD ⟨v, rfl, hkD, hrD⟩; obtain ⟨ya, yc, rfl, hcy, _⟩ := hrD.shape; have XD := qH (XC.out.trans hkD); have HYD := qH hcy; clear hkD hrD hcy)
  go_wp2_with fail
  refine hK.out _ _ ?_ (fun hHeld => ?_)
  ·(try dsimp only); (first | exact HSt.out _ XE.out | exact HSt.out _ XD.out | exact HSt.out _ XC.out | exact HSt.out _ XB.out | exact HSt.out _ XA.out)
  clear hK K; (try simp only [Act.put,sI,sZ,sS])
  refine aD (i := 13) ?_
  refine aG (i := 13) rfl (fun K hK => ?_)
  go_simp
  ((with_reducible refine (KD.out wD XD.out).mono ?_); rintro e wE ⟨v, rfl, hkE, hrE⟩; obtain ⟨za, zc, rfl, hcz, _⟩ := hrE.shape; have XE := qH (XD.out.trans hkE); have HSE := qH (jC D D ya za d d yc zc wE HQ.out.2.symm HQ.out.2.symm (HYD.out.ext hkE) hcz (by omega)); clear hkE hrE hcz)
  go_wp2_with fail
  refine hK.out _ _ ?_ (fun hHeld => ?_)
  ·(try dsimp only); (first | exact HSt.out _ XE.out | exact HSt.out _ XD.out | exact HSt.out _ XC.out | exact HSt.out _ XB.out | exact HSt.out _ XA.out)
  clear hK K; (try simp only [Act.put,sI,sZ,sS])
  refine aD (i := 14) ?_
  refine aG (i := 14) rfl (fun K hK => ?_)
  go_simp
  ((with_reducible refine HSE.out.mono ?_); rintro e wF ⟨v, rfl, hkF, rfl⟩; have XE := qH (XE.out.trans hkF); clear hkF)
  go_wp2_with fail
  refine hK.out _ _ ?_ (fun hHeld => ?_)
  ·(try dsimp only); (first | exact HSt.out _ XE.out | exact HSt.out _ XD.out | exact HSt.out _ XC.out | exact HSt.out _ XB.out | exact HSt.out _ XA.out)
  clear hK K; (try simp only [Act.put,sI,sZ,sS])
  refine dF 15 ?_; try simp only [Act.put,sI,sZ,sS]
  refine dF 16 ?_; try simp only [Act.put,sI,sZ,sS]
  refine aM (by kernel_rfl) ?_ _
  have XF := qH (HX.out.trans XE.out)
  go_wp2
  go_ret
  exact RetN.mk XF.out (by first | rfl | simp)
end Go.Proofs.YtinnmeiphbdogaaGreat
