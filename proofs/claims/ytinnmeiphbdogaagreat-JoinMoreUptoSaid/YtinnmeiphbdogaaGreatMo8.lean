/- Texts joined for a claim (Match, AllWalk, Over, Each, JoinHead, HeadWalk, FactsAux, FactsPlain, FactsRound, Facts, JoinSmall, JColl, JEach, JPut, RefEnv, RefVal, JRefHead, JLent, RowSame). -/
import Derived.Test.YtinnmeiphbdogaaGreatMo7
import Derived.Laws.Concat
set_option linter.unusedVariables false
set_option linter.unusedSimpArgs false
/- join: match: a rule's matcher. -/
namespace Go.Proofs.YtinnmeiphbdogaaGreat
open Go.RowKit Go.Shelf
attribute [local go_sem] Oper.semAt_some
theorem aHx : dU Tryz.prog 169 173 1 24 (.slice none 0 0) := ⟨by kernel_rfl, by kernel_rfl, rfl, by decide⟩
theorem aHw : dU Tryz.prog 170 214 1 24 (.slice none 0 0) := ⟨by kernel_rfl, by kernel_rfl, rfl, by decide⟩
def bF (Es : Nat -> List Ent) (ls : List aO) (j : Nat) : aD := dP (aY (Es j) ((ls[j]?.map aX).getD ByteArray.empty))
theorem uJ {N : List ByteArray} {l : aO} : -1 ≤ fG N l := by
 have hi : ∀ t, -1 ≤ qY N t := fun t => by
  unfold qY
  split <;> omega
 unfold fG
 split
 ·split <;> omega
 ·have := hi (leftOf l); have := hi (aR l); omega
theorem aF1 {r : cO} (h : bO r = 0) {l : aO} (hl : l ∈ r.2.1) (hk : l.1 = 1 \/ l.1 = 2) : (aA l).length ≤ 64 := by
 unfold bO at h
 split at h
 ·rename_i hp
  unfold gB at hp
  rw [Bool.and_eq_true] at hp
  have h1 := List.all_eq_true.1 hp.2 l hl
  unfold kS at h1
  rw [if_pos hk, Bool.and_eq_true] at h1
  exact of_decide_eq_true h1.1
 ·cases h
def aLn (w0 : World) (mb ab sb : Nat) (na : Option Addr) (nc : Nat) (ls : List aO) (Es : Nat -> List Ent) (n : Nat) (jv : Value) (W : World) : Prop :=
 ∃ (i : Nat) (Ts : List TrieZ) (tests : Nat -> List TestZ) (tv : Value) (av sv : Nat -> Value), i ≤ n /\ jv = .int .i64 i /\ Hid (MatSt (fun _ => False) w0.heap.size w0 W mb ab sb (aB ls).length na nc Ts (atL Ts) tests tv av sv) /\ Hid (MatIs (aB ls) ls (bF Es ls) i Ts tests) /\ Hid (Ts.length ≤ i /\ ∀ k, (tests k).length ≤ i)
theorem lS {lo : Nat} {w0 W W2 : World} {mb ab sb nv nv' nc : Nat} {na : Option Addr} {Ts : List TrieZ} {ats : Nat -> List Nat} {tests : Nat -> List TestZ} {tv : Value} {av sv : Nat -> Value} {P : Nat -> World -> Prop} (h : MatSt (fun _ => False) lo w0 W mb ab sb nv na nc Ts ats tests tv av sv) (hx : Ext W W2) (hf : Fast W.drew.heap.size W2.heap.size W2 (P nv')) (e : nv = nv') (hsz : W.drew.heap.size ≤ W2.heap.size) :
 HeldF lo (gK (fun _ => False) mb ab sb nv tv av sv) W2 (P nv) := by
 subst e
 have hd : W.heap.size ≤ W.drew.heap.size := ((Kp.refl (F := fun _ => False) W).drew).size
 refine ⟨W.drew.heap.size, W2.heap.size, ?_, Nat.le_refl _, hf, fun k hk hab => ?_⟩
 ·have h1 := h.new.1
  have h2 := h.box.lt
  omega
 ·rcases hk with hk | hk
  ·have := h.lt k hk; omega
  ·exact hk
theorem lU {W1 w4 : World} {P : World -> Prop} {a : Nat} {x y : Value} (hx : Ext W1 w4) (hf : Fast a w4.heap.size w4 P) (ha : W1.heap.size ≤ a) (ha2 : a ≤ w4.heap.size) :
 ∃ a, W1.heap.size ≤ a /\ a ≤ (w4.alloc (.cells #[x, y] 175)).heap.size /\ Ext W1 (w4.alloc (.cells #[x, y] 175)) /\ Blk (w4.alloc (.cells #[x, y] 175)) w4.heap.size [x, y] 175 /\ Fast a (w4.alloc (.cells #[x, y] 175)).heap.size (w4.alloc (.cells #[x, y] 175)) P := by
 have h1 : Ext w4 (w4.alloc (.cells #[x, y] 175)) := (Kp.refl w4).alloc _
 exact ⟨a, ha, Nat.le_trans ha2 h1.size, hx.trans h1, Blk.new w4 _ _, (hf.ext h1).mono (Nat.le_refl _) h1.size⟩
theorem lT {W1 w4 : World} {P : World -> Prop} {a g : Nat} {u v x y : Value} (hB : Blk w4 g [u, v] 175) (hx : Ext W1 w4) (hf : Fast a w4.heap.size w4 P) (hg : W1.heap.size ≤ g) (hga : g < a) (ha2 : a ≤ w4.heap.size) :
 ∃ a, W1.heap.size ≤ a /\ a ≤ ((w4.setCell ⟨g, 0, none⟩ x).setCell ⟨g, 1, none⟩ y).heap.size /\ Ext W1 ((w4.setCell ⟨g, 0, none⟩ x).setCell ⟨g, 1, none⟩ y) /\ Blk ((w4.setCell ⟨g, 0, none⟩ x).setCell ⟨g, 1, none⟩ y) g [x, y] 175 /\ Fast a ((w4.setCell ⟨g, 0, none⟩ x).setCell ⟨g, 1, none⟩ y).heap.size ((w4.setCell ⟨g, 0, none⟩ x).setCell ⟨g, 1, none⟩ y) P := by
 have h1 : Kp (fun k => k = g) w4 ((w4.setCell ⟨g, 0, none⟩ x).setCell ⟨g, 1, none⟩ y) := Kp.setCell (F := fun k => k = g) (p := ⟨g, 1, none⟩) (Kp.setCell (F := fun k => k = g) (p := ⟨g, 0, none⟩) (Kp.refl w4) (fun _ => rfl) _) (fun _ => rfl) _
 refine ⟨a, by omega, Nat.le_trans ha2 h1.size, hx.trans' h1 fun i hi e => by have e' : i = g := e; omega, (hB.set 0 x).set 1 y, (hf.kp h1 fun k e => by have e' : k = g := e; omega).mono (Nat.le_refl _) h1.size⟩
theorem jV {lo : Nat} {w0 W W2 : World} {mb ab sb nv nc a : Nat} {na : Option Addr} {Ts : List TrieZ} {ats : Nat -> List Nat} {tests : Nat -> List TestZ} {tv : Value} {av sv : Nat -> Value} {P : World -> Prop} (h : MatSt (fun _ => False) lo w0 W mb ab sb nv na nc Ts ats tests tv av sv) (ha : W.heap.size ≤ a) (hf : Fast a W2.heap.size W2 P) :
 HeldF lo (gK (fun _ => False) mb ab sb nv tv av sv) W2 P := by
 refine ⟨a, W2.heap.size, ?_, Nat.le_refl _, hf, fun k hk hab => ?_⟩
 ·have h1 := h.new.1
  have h2 := h.box.lt
  omega
 ·rcases hk with hk | hk
  ·have := h.lt k hk; omega
  ·exact hk
set_option maxRecDepth 100000 in
theorem qJ {w : World} {mb rb vc : Nat} {va : Option Addr} : Calls Tryz.prog 118 #[.pointer (some ⟨mb, 0, none⟩), .agg #[.slice va 0 vc, .pointer (some ⟨rb, 0, none⟩)]] w fun e w' => e = .returned (.tuple #[]) /\ Ext w w' := by
 obtain ⟨gb, egb⟩ : ∃ g, w.heap.size = g := ⟨_, rfl⟩
 obtain ⟨w1, e1⟩ : ∃ x, w.alloc (.cells #[.slice va 0 vc, .pointer (some ⟨rb, 0, none⟩)] 175) = x := ⟨_, rfl⟩
 have b0 : w1.cell? ⟨gb, 0, none⟩ = some (.slice va 0 vc) := by rw [<- e1, <- egb, (Blk.new w [.slice va 0 vc, .pointer (some ⟨rb, 0, none⟩)] 175).cell']; rfl
 have x1 := qH (show Ext w w1 from by rw [<- e1]; exact (Kp.refl w).alloc _)
 go_enter Tryz.func118, Tryz.ntmps118
 go_wp2
 refine bodyPost_ret (results_none rfl _ _ _) rfl ?_
 exact ⟨rfl, x1.out⟩
def aFi (w0 w : World) (r : cO) (Es : Nat -> List Ent) (v : Value) : Prop :=
 (v = .pointer none /\ (bO r ≠ 0 \/ ∀ V, ¬ bZ r.2.1 (bF Es r.2.1) V)) \/
 ∃ mb Ts tests A, v = .pointer (some ⟨mb, 0, none⟩) /\ bO r = 0 /\ MatIs (aB r.2.1) r.2.1 (bF Es r.2.1) r.2.1.length Ts tests /\ Fast w0.heap.size w.heap.size w fun W => MatchAt W mb ⟨aB r.2.1, Ts, tests⟩ A
set_option maxRecDepth 100000 in
set_option maxHeartbeats 4000000 in
theorem aHa {w : World} {p : ByteArray} {hs : List aH} {ls : List aO} {ha ba bsa : Option Addr} {hn hcap n bcap nb bsc : Nat} {G : Nat -> Prop} {bvs : List Value} {Es : Nat -> List Ent} (hhn : hn = hs.length) (hh : bE w G ha hs) (hhl : hn ≤ 1048576) (hbn : n = ls.length) (h : dN w G ba ls) (hf : Fit ls) (hnv : (aB ls).length ≤ 1048576) (hn16 : n ≤ 1048576)
 (hnb : nb = bvs.length) (hbs : CellsAt w bsa bvs) (hB : ∀ j, ∃ S, BaseV S w (bvs.getD j (.pointer none)) (Es j)) :
 Calls Tryz.prog 81 #[eS p ha hn hcap ba n bcap, .slice bsa nb bsc] w (RetN w fun w' v => aFi w w' ((p, hs, ()), ls, ()) Es v) := by
 have HCh := qH (fun W (hW : Ext w W) => aH5 p hs ls ha hn hcap ba n bcap W G hhn (hh.ext hW) hhl hbn (h.ext hW) hf)
 have HVa := qH (fun W (hW : Ext w W) => aAw p ha hn hcap ls ba n bcap W G hbn (h.ext hW) hf)
 have HL := qH (And.intro hbn (And.intro h hf))
 have HBs := qH (And.intro hnb (And.intro hbs hB))
 obtain ⟨cR, ecR⟩ : ∃ c, bO ((p, hs, ()), ls, ()) = c := ⟨_, rfl⟩
 rw [ecR] at HCh
 have HC := qH ecR
 obtain ⟨gb, egb⟩ : ∃ g, w.heap.size = g := ⟨_, rfl⟩
 obtain ⟨w1, e1⟩ : ∃ x, w.alloc (.cells #[.string p, .slice ha hn hcap, .slice ba n bcap] 27) = x := ⟨_, rfl⟩
 have x1 : Ext w w1 := by rw [<- e1]; exact (Kp.refl w).alloc _
 have hB1 : Blk w1 gb [.string p, .slice ha hn hcap, .slice ba n bcap] 27 := by rw [<- e1, <- egb]; exact Blk.new w _ _
 have H1 := qH (And.intro x1 hB1)
 have r0 : w1.cell? ⟨gb, 0, none⟩ = some (.string p) := by rw [hB1.cell']; rfl
 have r1 : w1.cell? ⟨gb, 1, none⟩ = some (.slice ha hn hcap) := by rw [hB1.cell']; rfl
 have r2 : w1.cell? ⟨gb, 2, none⟩ = some (.slice ba n bcap) := by rw [hB1.cell']; rfl
 clear hhn hh hbn h hf hnb hbs hB ecR x1 hB1
 go_enter Tryz.func81, Tryz.ntmps81
 go_wp2_with fail
 clear e1
 refine (HCh.out w1 H1.out.1).mono ?_
 rintro e w2 ⟨v2, rfl, hk2, rfl⟩
 have H2 := qH (And.intro (H1.out.1.trans hk2) (H1.out.2.ext hk2))
 by_cases hc : cR = 0
 ·have HC0 := qH hc
  subst hc
  have q0 : w2.cell? ⟨gb, 0, none⟩ = some (.string p) := hk2.cell r0 id
  have q1 : w2.cell? ⟨gb, 1, none⟩ = some (.slice ha hn hcap) := hk2.cell r1 id
  have q2 : w2.cell? ⟨gb, 2, none⟩ = some (.slice ba n bcap) := hk2.cell r2 id
  clear hk2 r0 r1 r2
  go_wp2_with fail
  refine (HVa.out w2 H2.out.1).mono ?_
  rintro e w3 ⟨v3, rfl, hk3, na, nc, rfl, hnc, hna⟩
  obtain ⟨nv, env⟩ : ∃ k, (aB ls).length = k := ⟨_, rfl⟩
  rw [env] at hnv hnc ⊢
  have H3 := qH (And.intro (H2.out.1.trans hk3) (And.intro (H2.out.2.ext hk3) (And.intro hna env)))
  obtain ⟨mb, emb⟩ : ∃ g, w3.heap.size = g := ⟨_, rfl⟩
  have hmk1 := fun W => jF (P := Tryz.prog) aHx (c := .slice none 0 0) rfl nv (by omega) (by unfold maxLen; omega) W
  have hmk2 := fun W => jF (P := Tryz.prog) aHw (c := .slice none 0 0) rfl (nv + 1) (by omega) (by unfold maxLen; omega) W
  simp only [Nat.mul_one] at hmk1 hmk2
  have hwn : IntKind.i64.wrap ((nv : Int) + 1) = (nv : Int) + 1 := IntWalk.i64_in _ (by omega)
  have ewn : ((nv + 1 : Nat) : Int) = (nv : Int) + 1 := by omega
  simp only [ewn] at hmk2
  clear ewn
  have q3 : ∀ o1 o2 o3, (((w3.alloc o1).alloc o2).alloc o3).cell? ⟨gb, 2, none⟩ = some (.slice ba n bcap) := fun o1 o2 o3 => by rw [((((H3.out.2.1).alloc o1).alloc o2).alloc o3).cell']; rfl
  clear hk3 q0 q1 q2 hnc hna
  go_wp2
  clear hmk1 hmk2 hwn q3 egb
  obtain ⟨x1, ex1⟩ : ∃ x, w3.alloc (.cells #[.slice na nv nc, .slice none 0 0, .slice (some ⟨mb + 1, 0, none⟩) nv nv, .slice (some ⟨mb + 1 + 1, 0, none⟩) (nv + 1) (nv + 1)] 172) = x := ⟨_, rfl⟩
  rw [ex1]
  obtain ⟨x2, ex2⟩ : ∃ x, x1.alloc (.cells (Array.replicate nv (.slice none 0 0)) 173) = x := ⟨_, rfl⟩
  rw [ex2]
  obtain ⟨x3, ex3⟩ : ∃ x, x2.alloc (.cells (Array.replicate (nv + 1) (.slice none 0 0)) 214) = x := ⟨_, rfl⟩
  rw [ex3]
  have hs1 : x1.heap.size = mb + 1 := by rw [<- ex1, aN, emb]
  have hs2 : x2.heap.size = mb + 1 + 1 := by rw [<- ex2, aN, hs1]
  have k1 : Ext w3 x1 := by rw [<- ex1]; exact (Kp.refl w3).alloc _
  have k2 : Ext x1 x2 := by rw [<- ex2]; exact (Kp.refl x1).alloc _
  have k3 : Ext x2 x3 := by rw [<- ex3]; exact (Kp.refl x2).alloc _
  have B1 : Blk x1 mb [.slice na nv nc, .slice none 0 0, .slice (some ⟨mb + 1, 0, none⟩) nv nv, .slice (some ⟨mb + 1 + 1, 0, none⟩) (nv + 1) (nv + 1)] 172 := by rw [<- ex1, <- emb]; exact Blk.new w3 _ _
  have B2 : Blk x2 (mb + 1) (List.replicate nv (.slice none 0 0)) 173 := by
   have h := Blk.new x1 (List.replicate nv (.slice none 0 0)) 173
   rw [List.toArray_replicate, ex2, hs1] at h
   exact h
  have B3 : Blk x3 (mb + 1 + 1) (List.replicate (nv + 1) (.slice none 0 0)) 214 := by
   have h := Blk.new x2 (List.replicate (nv + 1) (.slice none 0 0)) 214
   rw [List.toArray_replicate, ex3, hs2] at h
   exact h
  have HS := qH (show MatSt (fun _ => False) w3.heap.size w3 x3 mb (mb + 1) (mb + 1 + 1) (aB ls).length na nc [] (atL []) (fun _ => []) (.slice none 0 0) (fun _ => .slice none 0 0) (fun _ => .slice none 0 0) from by
   rw [env]
   exact MatSt.start (B1.ext (k2.trans k3)) (B2.ext k3) B3 ⟨by omega, by omega, by omega⟩ (Nat.le_refl _) (k1.trans (k2.trans k3)))
  obtain ⟨ab, eab⟩ : ∃ x, mb + 1 = x := ⟨_, rfl⟩
  rw [eab] at HS ⊢
  obtain ⟨sb, esb⟩ : ∃ x, ab + 1 = x := ⟨_, rfl⟩
  rw [esb] at HS ⊢
  have HG := qH (And.intro emb (And.intro eab esb))
  clear ex1 ex2 ex3 hs1 hs2 k1 k2 k3 B1 B2 B3 emb eab esb
  go_loopw [39] (fun jv wk => aLn w3 mb ab sb na nc ls Es n jv wk) (fun jv _ => n - (intOf jv).toNat)
  case atStart => exact ⟨0, [], _, _, _, _, Nat.zero_le _, rfl, HS, qH MatIs.zero, qH ⟨Nat.le_refl _, fun _ => Nat.le_refl _⟩⟩
  case round =>
   obtain ⟨i, Ts, tests, tv, av, sv, hi, rfl, hM, hIs, hFew⟩ := hrel
   clear HS
   by_cases hlt : i < n
   ·obtain ⟨l, hl⟩ : ∃ l, ls[i]? = some l := ⟨_, qG (by rw [<- HL.out.1]; exact hlt)⟩
    obtain ⟨b, off, a2, cap2, eba, hGb, hbl, hLi, c0, c1, c2, c3, c4, c5, c6, c7⟩ := nG (HL.out.2.1.ext H3.out.1) hl
    subst eba
    replace c0 := hM.out.kp.cell c0 id
    replace c1 := hM.out.kp.cell c1 id
    replace c2 := hM.out.kp.cell c2 id
    replace c3 := hM.out.kp.cell c3 id
    replace c4 := hM.out.kp.cell c4 id
    replace c5 := hM.out.kp.cell c5 id
    replace c6 := hM.out.kp.cell c6 id
    replace c7 := hM.out.kp.cell c7 id
    obtain ⟨m, em⟩ : ∃ m, (aA l).length = m := ⟨_, rfl⟩
    rw [em] at c2
    have HLi := qH hl
    have HLt := qH (And.intro hLi em)
    obtain ⟨lb, elb⟩ : ∃ g, wr.heap.size = g := ⟨_, rfl⟩
    obtain ⟨W1, eW1⟩ : ∃ x, wr.alloc (.cells #[.int .i64 l.1, .string (aX l), .slice a2 m cap2, .int .i64 (iI l), .int .i64 (leftOf l).1, .string (leftOf l).2.1, .int .i64 (aR l).1, .string (aR l).2.1] 40) = x := ⟨_, rfl⟩
    have HW := qH (show Blk W1 lb [.int .i64 l.1, .string (aX l), .slice a2 m cap2, .int .i64 (iI l), .int .i64 (leftOf l).1, .string (leftOf l).2.1, .int .i64 (aR l).1, .string (aR l).2.1] 40 /\ Ext wr W1 from
     ⟨by rw [<- eW1, <- elb]; exact Blk.new wr _ _, by rw [<- eW1]; exact (Kp.refl wr).alloc _⟩)
    have HM1 := qH (hM.out.ext HW.out.2)
    have l0 : W1.cell? ⟨lb, 0, none⟩ = some (.int .i64 l.1) := by rw [HW.out.1.cell']; rfl
    have HFew := hFew
    clear hGb hbl hLi hl em hi hM hFew
    have i1 : (i : Int) < (n : Int) := by omega
    by_cases hib : i < nb
    ·obtain ⟨bv, hbv⟩ : ∃ bv, bvs[i]? = some bv := ⟨_, qG (by rw [<- HBs.out.1]; exact hib)⟩
     obtain ⟨yb, yo, eyb, yc⟩ := (HBs.out.2.1.ext (H3.out.1.trans HM1.out.kp)) i bv hbv
     subst eyb
     have i2 : (i : Int) < (nb : Int) := by omega
     have HBV := qH (show bvs.getD i (.pointer none) = bv from bI hbv)
     rcases qW (r := ((p, hs, ()), ls, ())) HC.out (List.mem_of_getElem? HLi.out) with hk3 | hk3 | hk3
     ·have HKd := qH hk3
      have hb3 : (l.1 == 1) = true := by simp [hk3]
      have hm64 : m ≤ 64 := by rw [<- HLt.out.2]; exact aF1 HC.out (List.mem_of_getElem? HLi.out) (by omega)
      have HLaid := qH (show ∀ W, Ext w3 W -> Calls Tryz.prog 117 #[.agg #[.string (aX l), .slice a2 m cap2], bv, .slice na nv nc] W (RetN W fun w' v => ∃ va vc rb iv S', v = .agg #[.slice va (aM (aB ls) (aA l)).length vc, .pointer (some ⟨rb, 0, none⟩)] /\ Fast W.heap.size w'.heap.size w' fun X => TableAt S' X va rb iv (aM (aB ls) (aA l)) (cK (aB ls) (aA l) (bF Es ls i))) from fun W hW => by
       obtain ⟨Sb, hBb⟩ := HBs.out.2.2 i
       rw [HBV.out] at hBb
       have er : bF Es ls i = dP (aY (Es i) (aX l)) := by unfold bF; rw [HLi.out]; rfl
       rw [er]
       exact qV (hBb.ext (H3.out.1.trans hW)) HLt.out.2.symm (HLt.out.1.terms.kp hW fun _ _ h => h) hm64 env.symm (H3.out.2.2.1.ext hW) (bT ls) (by omega))
      have HJ := qH (show ∀ w', Ext W1 w' -> (fun w' : World => w'.cell? ⟨lb, 1, none⟩ = some (.string (aX l)) /\ w'.cell? ⟨lb, 2, none⟩ = some (.slice a2 m cap2) /\ w'.cell? ⟨mb, 0, none⟩ = some (.slice na nv nc)) w' from fun w' hw' => by
       have hb := HW.out.1.ext hw'
       exact ⟨by rw [hb.cell']; rfl, by rw [hb.cell']; rfl, by rw [(HM1.out.box.ext hw').cell', env]; rfl⟩)
      have hvl := iQ (ts := aA l) (bT ls)
      rw [HLt.out.2] at hvl
      rw [hk3] at l0
      clear hk3
      go_wp2
      clear eW1
      refine bB (fun w' : World => w'.cell? ⟨lb, 1, none⟩ = some (.string (aX l)) /\ w'.cell? ⟨lb, 2, none⟩ = some (.slice a2 m cap2) /\ w'.cell? ⟨mb, 0, none⟩ = some (.slice na nv nc)) [9] (by kernel_rfl) (HJ.out _ (Kp.refl W1).drew) (fun hHeld => ?_)
      refine dF 0 ?_; try simp only [Act.put,sI,sZ,sS]
      refine dI 1 ?_; try simp only [Act.put,sI,sZ,sS]
      refine dF 2 ?_; try simp only [Act.put,sI,sZ,sS]
      refine dF 3 ?_; try simp only [Act.put,sI,sZ,sS]
      refine dF 4 ?_; try simp only [Act.put,sI,sZ,sS]
      refine dF 5 ?_; try simp only [Act.put,sI,sZ,sS]
      refine dI 6 ?_; try simp only [Act.put,sI,sZ,sS]
      refine aCu (i := 7) (k := 8) ?_ ?_
      ·refine aI (i := 7) rfl (fun K hK => ?_)
       go_simp
       (refine (HLaid.out _ (by first | exact HM1.out.kp.trans (Kp.refl W1).drew | exact HM1.out.kp.trans (((Kp.refl W1).drew).alloc _))).mono ?_; rintro e w4 ⟨v4, rfl, hk4, va, vc, rb, ivt, St, rfl, hft⟩; have X1 := qH (And.intro (show Ext W1 w4 from (by first | exact ((Kp.refl W1).drew).trans hk4 | exact (((Kp.refl W1).drew).alloc _).trans hk4)) (And.intro hk4 hft)); clear hk4 hft)
       go_wp2_with fail
       refine hK.out _ _ ?_ (fun hHeld => ?_)
       ·(try dsimp only); (exact HJ.out _ X1.out.1)
       clear hK K; (try simp only [Act.put,sI,sZ,sS])
       refine aF (i := 8) ?_
       refine aI (i := 8) rfl (fun K hK => ?_)
       go_simp
       refine hK.out _ _ ?_ (fun hHeld => ?_)
       ·(try dsimp only); (first | exact HJ.out _ (((Kp.refl W1).drew).alloc _) | exact HJ.out _ (X1.out.1.alloc _))
       clear hK K; (try simp only [Act.put,sI,sZ,sS])
       refine aF (i := 9) ?_
       refine aK (i := 9) rfl (by kernel_rfl) (fun K hK => ?_)
       (first | (have hB9 := qH (show Blk w4 W1.heap.size [.slice none 0 0, .pointer none] 175 from (Blk.new W1.drew [.slice none 0 0, .pointer none] 175).ext X1.out.2.1); have c90 : w4.cell? ⟨W1.heap.size, 0, none⟩ = some (.slice none 0 0) := (by rw [hB9.out.cell']; rfl); have c91 : w4.cell? ⟨W1.heap.size, 1, none⟩ = some (.pointer none) := (by rw [hB9.out.cell']; rfl); have f90 := hB9.out.free 0; have f91 := hB9.out.free 1) | skip)
       go_simp
       refine hK.out _ _ ?_
       clear hK K; (try simp only [Act.put,sI,sZ,sS])
       refine aL (by kernel_rfl) ?_ _
       clear hHeld
       first
        | (have HX5 := qH (lU (x := .slice va (aM (aB ls) (aA l)).length vc) (y := .pointer (some ⟨rb, 0, none⟩)) X1.out.1 X1.out.2.2 (Kp.refl (F := fun _ => False) W1).drew.size X1.out.2.1.size)
           obtain ⟨tg, etg⟩ : ∃ z, w4.heap.size = z := ⟨_, rfl⟩
           obtain ⟨W5, eW5⟩ : ∃ z, w4.alloc (.cells #[.slice va (aM (aB ls) (aA l)).length vc, .pointer (some ⟨rb, 0, none⟩)] 175) = z := ⟨_, rfl⟩
           rw [eW5] at HX5 ⊢
           rw [etg] at HX5 ⊢
           clear eW5 etg)
        | (have HX5 := qH (lT (x := .slice va (aM (aB ls) (aA l)).length vc) (y := .pointer (some ⟨rb, 0, none⟩)) hB9.out X1.out.1 X1.out.2.2 (Nat.le_refl _) (by show W1.heap.size < (W1.alloc _).heap.size; rw [aN]; exact Nat.lt_succ_self _) X1.out.2.1.size)
           clear c90 c91 f90 f91
           obtain ⟨tg, etg⟩ : ∃ z, W1.heap.size = z := ⟨_, rfl⟩
           obtain ⟨W5, eW5⟩ : ∃ z, (w4.setCell ⟨W1.heap.size, 0, none⟩ (.slice va (aM (aB ls) (aA l)).length vc)).setCell ⟨W1.heap.size, 1, none⟩ (.pointer (some ⟨rb, 0, none⟩)) = z := ⟨_, rfl⟩
           rw [eW5] at HX5 ⊢
           have HTG := qH etg
           rw [etg] at HX5 ⊢
           clear eW5)
       have H5 := qH (show ∃ a, W1.heap.size ≤ a /\ a ≤ W5.heap.size /\ Ext W1 W5 /\ Blk W5 tg [.slice va (aM (aB ls) (aA l)).length vc, .pointer (some ⟨rb, 0, none⟩)] 175 /\ Fast a W5.heap.size W5 fun X => TableAt St X va rb ivt (aM (aB ls) (aA l)) (cK (aB ls) (aA l) (bF Es ls i)) from by
        obtain ⟨a, h1, h2⟩ := HX5.out
        refine ⟨a, ?_, h2⟩
        first
         | exact h1
         | (have h3 := HTG.out
            omega))
       clear HX5
       obtain ⟨a, ha1, ha2, hx5, hb5, hf5⟩ := H5.out
       obtain ⟨nV, enV⟩ : ∃ k, (aM (aB ls) (aA l)).length = k := ⟨_, rfl⟩
       obtain ⟨LLt, eLLt⟩ : ∃ L, cK (aB ls) (aA l) (bF Es ls i) = L := ⟨_, rfl⟩
       rw [eLLt] at hf5
       have hLLt : LLt.length ≤ 65536 := by
        obtain ⟨Sb, hBb⟩ := HBs.out.2.2 i
        have er : bF Es ls i = dP (aY (Es i) (aX l)) := by unfold bF; rw [HLi.out]; rfl
        have h1 := oH (aB ls) (aA l) (bF Es ls i)
        rw [eLLt, er] at h1
        refine Nat.le_trans h1 ?_
        cases hfe : aY (Es i) (aX l) with
        | none => exact Nat.zero_le _
        | some e => exact (hBb.ok.all _ (List.mem_map.2 ⟨e, (bP hfe).1, rfl⟩)).few
       have HLen := qH (gP (z := False) hf5.here.rows.q)
       have t1 : W5.cell? ⟨tg, 1, none⟩ = some (.pointer (some ⟨rb, 0, none⟩)) := by rw [hb5.cell']; rfl
       have H6 := qH (And.intro ha1 (And.intro ha2 (And.intro hx5 (And.intro hb5 (And.intro hf5 (And.intro enV (And.intro eLLt hLLt)))))))
       rw [enV] at hvl
       clear ha1 ha2 hx5 hb5 hf5 H5 hLLt
       go_wp2_with fail
       refine HLen.out.mono ?_
       rintro e W6 ⟨v6, rfl, hk6, rfl, -⟩
       have hx6 := Kp.fq hk6
       obtain ⟨nL, enL⟩ : ∃ k, LLt.length = k := ⟨_, rfl⟩
       rw [enL]
       have HX6 := qH (And.intro hx6 enL)
       by_cases h0 : nL = 0
       ·subst h0
        have HNone := qH (show ∀ V, ¬ bZ ls (bF Es ls) V from fun V hV => by
         have h1 := ((nZ (r := ((p, hs, ()), ls, ())) HC.out).1 hV).2 i l HLi.out
         unfold gG at h1
         rw [if_pos HKd.out] at h1
         have h2 := H6.out.2.2.2.2.2.2.1
         have h3 : cK (aB ls) (aA l) (bF Es ls i) = [] := h2.trans (List.eq_nil_of_length_eq_zero HX6.out.2)
         exact absurd (show _ ∈ ([] : aD) from h3 ▸ h1) (by simp))
        clear hk6 hx6 enL t1
        go_wp2
        go_ret
        exact RetN.mk (H3.out.1.trans (HM1.out.kp.trans (H6.out.2.2.1.trans HX6.out.1))) (.inl ⟨rfl, .inr HNone.out⟩)
       ·have hn0 : ((nL : Int) == 0) = false := by simp; omega
        have HN0 := qH h0
        have u0 : W6.cell? ⟨tg, 0, none⟩ = some (.slice va nV vc) := by rw [(H6.out.2.2.2.1.ext hx6).cell', <- H6.out.2.2.2.2.2.1]; rfl
        have u1 : W6.cell? ⟨tg, 1, none⟩ = some (.pointer (some ⟨rb, 0, none⟩)) := by rw [(H6.out.2.2.2.1.ext hx6).cell']; rfl
        have HM6 := qH (HM1.out.ext (H6.out.2.2.1.trans hx6))
        have hFw := HFew.out
        by_cases hv0 : nV = 0
        ·subst hv0
         have hvn : aM (aB ls) (aA l) = [] := List.eq_nil_of_length_eq_zero H6.out.2.2.2.2.2.1
         have HP := qH (MatIs.none hIs.out HLi.out HKd.out hvn (by
          have h2 := H6.out.2.2.2.2.2.2.1
          rw [h2, HX6.out.2]
          exact Nat.pos_of_ne_zero HN0.out))
         clear hk6 hx6 enL t1 hvn h0
         go_wp2_with fail
         refine (qJ (w := W6) (mb := mb) (rb := rb) (vc := vc) (va := va)).mono ?_
         rintro e W7 ⟨rfl, hx7⟩
         have HM7 := qH (HM6.out.ext hx7)
         have HFx := qH (show Ts.length ≤ i + 1 /\ ∀ k, (tests k).length ≤ i + 1 from ⟨by omega, fun k => by have := hFw.2 k; omega⟩)
         clear hx7 hFw
         go_wp2
         go_roundw
         case rel => exact ⟨i + 1, Ts, tests, tv, av, sv, by omega, by first | rfl | (congr 1; done) | (congr 1; omega), HM7, HP, HFx⟩
         case measure => simp [intOf]; omega
        ·have HV0 := qH hv0
         have HT := qH (jV HM1.out (W2 := W6) (a := a) (P := fun X => TableAt St X va rb ivt (aM (aB ls) (aA l)) LLt) H6.out.1 ((H6.out.2.2.2.2.1.ext hx6).mono (Nat.le_refl _) hx6.size))
         clear hk6 hx6 enL t1 h0
         go_wp2_with fail
         refine (uG HM6.out HT.out (fun _ h => h.elim) H6.out.2.2.2.2.2.1.symm (by omega) (by omega) (fun v hv => (cL.1 hv).1) ((List.nodup_range).filter _) (fun x hx => by
          have h2 := H6.out.2.2.2.2.2.2.1
          rw [<- h2] at hx
          rw [oG hx]; exact H6.out.2.2.2.2.2.1) H6.out.2.2.2.2.2.2.2 (by omega) (by omega) (fun v => by have := uO Ts v; omega)).mono ?_
         rintro e W7 ⟨rfl, tb, tv2, av2, hM7⟩
         have HM7 := qH (hM7.congr (ats' := atL (Ts ++ [⟨tb, aM (aB ls) (aA l), LLt⟩])) (fun v _ => by rw [rF]) (fun _ _ => rfl))
         have HP := qH (MatIs.put hIs.out HLi.out HKd.out (fun e => HV0.out (by rw [<- H6.out.2.2.2.2.2.1, e]; rfl)) (by
          have h2 := H6.out.2.2.2.2.2.2.1
          rw [h2, HX6.out.2]
          exact Nat.pos_of_ne_zero HN0.out) (t := ⟨tb, aM (aB ls) (aA l), LLt⟩) rfl H6.out.2.2.2.2.2.2.1.symm)
         have HFx := qH (show (Ts ++ [(⟨tb, aM (aB ls) (aA l), LLt⟩ : TrieZ)]).length ≤ i + 1 /\ ∀ k, (tests k).length ≤ i + 1 from ⟨by rw [List.length_append, List.length_singleton]; omega, fun k => by have := hFw.2 k; omega⟩)
         clear hM7 hFw
         go_wp2
         go_roundw
         case rel => exact ⟨i + 1, _, tests, tv2, av2, sv, by omega, by first | rfl | (congr 1; done) | (congr 1; omega), HM7, HP, HFx⟩
         case measure => simp [intOf]; omega
      ·refine aI (i := 8) rfl (fun K hK => ?_)
       go_simp
       refine hK.out _ _ ?_ (fun hHeld => ?_)
       ·(try dsimp only); (first | exact HJ.out _ (((Kp.refl W1).drew).alloc _) | exact HJ.out _ (X1.out.1.alloc _))
       clear hK K; (try simp only [Act.put,sI,sZ,sS])
       refine aF (i := 7) ?_
       refine aI (i := 7) rfl (fun K hK => ?_)
       go_simp
       (refine (HLaid.out _ (by first | exact HM1.out.kp.trans (Kp.refl W1).drew | exact HM1.out.kp.trans (((Kp.refl W1).drew).alloc _))).mono ?_; rintro e w4 ⟨v4, rfl, hk4, va, vc, rb, ivt, St, rfl, hft⟩; have X1 := qH (And.intro (show Ext W1 w4 from (by first | exact ((Kp.refl W1).drew).trans hk4 | exact (((Kp.refl W1).drew).alloc _).trans hk4)) (And.intro hk4 hft)); clear hk4 hft)
       go_wp2_with fail
       refine hK.out _ _ ?_ (fun hHeld => ?_)
       ·(try dsimp only); (exact HJ.out _ X1.out.1)
       clear hK K; (try simp only [Act.put,sI,sZ,sS])
       refine aF (i := 9) ?_
       refine aK (i := 9) rfl (by kernel_rfl) (fun K hK => ?_)
       (first | (have hB9 := qH (show Blk w4 W1.heap.size [.slice none 0 0, .pointer none] 175 from (Blk.new W1.drew [.slice none 0 0, .pointer none] 175).ext X1.out.2.1); have c90 : w4.cell? ⟨W1.heap.size, 0, none⟩ = some (.slice none 0 0) := (by rw [hB9.out.cell']; rfl); have c91 : w4.cell? ⟨W1.heap.size, 1, none⟩ = some (.pointer none) := (by rw [hB9.out.cell']; rfl); have f90 := hB9.out.free 0; have f91 := hB9.out.free 1) | skip)
       go_simp
       refine hK.out _ _ ?_
       clear hK K; (try simp only [Act.put,sI,sZ,sS])
       refine aL (by kernel_rfl) ?_ _
       clear hHeld
       first
        | (have HX5 := qH (lU (x := .slice va (aM (aB ls) (aA l)).length vc) (y := .pointer (some ⟨rb, 0, none⟩)) X1.out.1 X1.out.2.2 (Kp.refl (F := fun _ => False) W1).drew.size X1.out.2.1.size)
           obtain ⟨tg, etg⟩ : ∃ z, w4.heap.size = z := ⟨_, rfl⟩
           obtain ⟨W5, eW5⟩ : ∃ z, w4.alloc (.cells #[.slice va (aM (aB ls) (aA l)).length vc, .pointer (some ⟨rb, 0, none⟩)] 175) = z := ⟨_, rfl⟩
           rw [eW5] at HX5 ⊢
           rw [etg] at HX5 ⊢
           clear eW5 etg)
        | (have HX5 := qH (lT (x := .slice va (aM (aB ls) (aA l)).length vc) (y := .pointer (some ⟨rb, 0, none⟩)) hB9.out X1.out.1 X1.out.2.2 (Nat.le_refl _) (by show W1.heap.size < (W1.alloc _).heap.size; rw [aN]; exact Nat.lt_succ_self _) X1.out.2.1.size)
           clear c90 c91 f90 f91
           obtain ⟨tg, etg⟩ : ∃ z, W1.heap.size = z := ⟨_, rfl⟩
           obtain ⟨W5, eW5⟩ : ∃ z, (w4.setCell ⟨W1.heap.size, 0, none⟩ (.slice va (aM (aB ls) (aA l)).length vc)).setCell ⟨W1.heap.size, 1, none⟩ (.pointer (some ⟨rb, 0, none⟩)) = z := ⟨_, rfl⟩
           rw [eW5] at HX5 ⊢
           have HTG := qH etg
           rw [etg] at HX5 ⊢
           clear eW5)
       have H5 := qH (show ∃ a, W1.heap.size ≤ a /\ a ≤ W5.heap.size /\ Ext W1 W5 /\ Blk W5 tg [.slice va (aM (aB ls) (aA l)).length vc, .pointer (some ⟨rb, 0, none⟩)] 175 /\ Fast a W5.heap.size W5 fun X => TableAt St X va rb ivt (aM (aB ls) (aA l)) (cK (aB ls) (aA l) (bF Es ls i)) from by
        obtain ⟨a, h1, h2⟩ := HX5.out
        refine ⟨a, ?_, h2⟩
        first
         | exact h1
         | (have h3 := HTG.out
            omega))
       clear HX5
       obtain ⟨a, ha1, ha2, hx5, hb5, hf5⟩ := H5.out
       obtain ⟨nV, enV⟩ : ∃ k, (aM (aB ls) (aA l)).length = k := ⟨_, rfl⟩
       obtain ⟨LLt, eLLt⟩ : ∃ L, cK (aB ls) (aA l) (bF Es ls i) = L := ⟨_, rfl⟩
       rw [eLLt] at hf5
       have hLLt : LLt.length ≤ 65536 := by
        obtain ⟨Sb, hBb⟩ := HBs.out.2.2 i
        have er : bF Es ls i = dP (aY (Es i) (aX l)) := by unfold bF; rw [HLi.out]; rfl
        have h1 := oH (aB ls) (aA l) (bF Es ls i)
        rw [eLLt, er] at h1
        refine Nat.le_trans h1 ?_
        cases hfe : aY (Es i) (aX l) with
        | none => exact Nat.zero_le _
        | some e => exact (hBb.ok.all _ (List.mem_map.2 ⟨e, (bP hfe).1, rfl⟩)).few
       have HLen := qH (gP (z := False) hf5.here.rows.q)
       have t1 : W5.cell? ⟨tg, 1, none⟩ = some (.pointer (some ⟨rb, 0, none⟩)) := by rw [hb5.cell']; rfl
       have H6 := qH (And.intro ha1 (And.intro ha2 (And.intro hx5 (And.intro hb5 (And.intro hf5 (And.intro enV (And.intro eLLt hLLt)))))))
       rw [enV] at hvl
       clear ha1 ha2 hx5 hb5 hf5 H5 hLLt
       go_wp2_with fail
       refine HLen.out.mono ?_
       rintro e W6 ⟨v6, rfl, hk6, rfl, -⟩
       have hx6 := Kp.fq hk6
       obtain ⟨nL, enL⟩ : ∃ k, LLt.length = k := ⟨_, rfl⟩
       rw [enL]
       have HX6 := qH (And.intro hx6 enL)
       by_cases h0 : nL = 0
       ·subst h0
        have HNone := qH (show ∀ V, ¬ bZ ls (bF Es ls) V from fun V hV => by
         have h1 := ((nZ (r := ((p, hs, ()), ls, ())) HC.out).1 hV).2 i l HLi.out
         unfold gG at h1
         rw [if_pos HKd.out] at h1
         have h2 := H6.out.2.2.2.2.2.2.1
         have h3 : cK (aB ls) (aA l) (bF Es ls i) = [] := h2.trans (List.eq_nil_of_length_eq_zero HX6.out.2)
         exact absurd (show _ ∈ ([] : aD) from h3 ▸ h1) (by simp))
        clear hk6 hx6 enL t1
        go_wp2
        go_ret
        exact RetN.mk (H3.out.1.trans (HM1.out.kp.trans (H6.out.2.2.1.trans HX6.out.1))) (.inl ⟨rfl, .inr HNone.out⟩)
       ·have hn0 : ((nL : Int) == 0) = false := by simp; omega
        have HN0 := qH h0
        have u0 : W6.cell? ⟨tg, 0, none⟩ = some (.slice va nV vc) := by rw [(H6.out.2.2.2.1.ext hx6).cell', <- H6.out.2.2.2.2.2.1]; rfl
        have u1 : W6.cell? ⟨tg, 1, none⟩ = some (.pointer (some ⟨rb, 0, none⟩)) := by rw [(H6.out.2.2.2.1.ext hx6).cell']; rfl
        have HM6 := qH (HM1.out.ext (H6.out.2.2.1.trans hx6))
        have hFw := HFew.out
        by_cases hv0 : nV = 0
        ·subst hv0
         have hvn : aM (aB ls) (aA l) = [] := List.eq_nil_of_length_eq_zero H6.out.2.2.2.2.2.1
         have HP := qH (MatIs.none hIs.out HLi.out HKd.out hvn (by
          have h2 := H6.out.2.2.2.2.2.2.1
          rw [h2, HX6.out.2]
          exact Nat.pos_of_ne_zero HN0.out))
         clear hk6 hx6 enL t1 hvn h0
         go_wp2_with fail
         refine (qJ (w := W6) (mb := mb) (rb := rb) (vc := vc) (va := va)).mono ?_
         rintro e W7 ⟨rfl, hx7⟩
         have HM7 := qH (HM6.out.ext hx7)
         have HFx := qH (show Ts.length ≤ i + 1 /\ ∀ k, (tests k).length ≤ i + 1 from ⟨by omega, fun k => by have := hFw.2 k; omega⟩)
         clear hx7 hFw
         go_wp2
         go_roundw
         case rel => exact ⟨i + 1, Ts, tests, tv, av, sv, by omega, by first | rfl | (congr 1; done) | (congr 1; omega), HM7, HP, HFx⟩
         case measure => simp [intOf]; omega
        ·have HV0 := qH hv0
         have HT := qH (jV HM1.out (W2 := W6) (a := a) (P := fun X => TableAt St X va rb ivt (aM (aB ls) (aA l)) LLt) H6.out.1 ((H6.out.2.2.2.2.1.ext hx6).mono (Nat.le_refl _) hx6.size))
         clear hk6 hx6 enL t1 h0
         go_wp2_with fail
         refine (uG HM6.out HT.out (fun _ h => h.elim) H6.out.2.2.2.2.2.1.symm (by omega) (by omega) (fun v hv => (cL.1 hv).1) ((List.nodup_range).filter _) (fun x hx => by
          have h2 := H6.out.2.2.2.2.2.2.1
          rw [<- h2] at hx
          rw [oG hx]; exact H6.out.2.2.2.2.2.1) H6.out.2.2.2.2.2.2.2 (by omega) (by omega) (fun v => by have := uO Ts v; omega)).mono ?_
         rintro e W7 ⟨rfl, tb, tv2, av2, hM7⟩
         have HM7 := qH (hM7.congr (ats' := atL (Ts ++ [⟨tb, aM (aB ls) (aA l), LLt⟩])) (fun v _ => by rw [rF]) (fun _ _ => rfl))
         have HP := qH (MatIs.put hIs.out HLi.out HKd.out (fun e => HV0.out (by rw [<- H6.out.2.2.2.2.2.1, e]; rfl)) (by
          have h2 := H6.out.2.2.2.2.2.2.1
          rw [h2, HX6.out.2]
          exact Nat.pos_of_ne_zero HN0.out) (t := ⟨tb, aM (aB ls) (aA l), LLt⟩) rfl H6.out.2.2.2.2.2.2.1.symm)
         have HFx := qH (show (Ts ++ [(⟨tb, aM (aB ls) (aA l), LLt⟩ : TrieZ)]).length ≤ i + 1 /\ ∀ k, (tests k).length ≤ i + 1 from ⟨by rw [List.length_append, List.length_singleton]; omega, fun k => by have := hFw.2 k; omega⟩)
         clear hM7 hFw
         go_wp2
         go_roundw
         case rel => exact ⟨i + 1, _, tests, tv2, av2, sv, by omega, by first | rfl | (congr 1; done) | (congr 1; omega), HM7, HP, HFx⟩
         case measure => simp [intOf]; omega
     ·have HKd := qH hk3
      have hb3 : (l.1 == 1) = false := by simp [hk3]
      have hb4 : (l.1 == 2) = true := by simp [hk3]
      have hm64 : m ≤ 64 := by rw [<- HLt.out.2]; exact aF1 HC.out (List.mem_of_getElem? HLi.out) (by omega)
      have HLaid := qH (show ∀ W, Ext w3 W -> Calls Tryz.prog 117 #[.agg #[.string (aX l), .slice a2 m cap2], bv, .slice na nv nc] W (RetN W fun w' v => ∃ va vc rb iv S', v = .agg #[.slice va (aM (aB ls) (aA l)).length vc, .pointer (some ⟨rb, 0, none⟩)] /\ Fast W.heap.size w'.heap.size w' fun X => TableAt S' X va rb iv (aM (aB ls) (aA l)) (cK (aB ls) (aA l) (bF Es ls i))) from fun W hW => by
       obtain ⟨Sb, hBb⟩ := HBs.out.2.2 i
       rw [HBV.out] at hBb
       have er : bF Es ls i = dP (aY (Es i) (aX l)) := by unfold bF; rw [HLi.out]; rfl
       rw [er]
       exact qV (hBb.ext (H3.out.1.trans hW)) HLt.out.2.symm (HLt.out.1.terms.kp hW fun _ _ h => h) hm64 env.symm (H3.out.2.2.1.ext hW) (bT ls) (by omega))
      obtain ⟨kx, ekx⟩ : ∃ kx : Nat, fG (aB ls) l + 1 = (kx : Int) := ⟨(fG (aB ls) l + 1).toNat, by have := uJ (N := aB ls) (l := l); omega⟩
      have hkn : kx < nv + 1 := by have := uI (N := aB ls) (l := l); omega
      have HK := qH (And.intro ekx hkn)
      have HJ := qH (show ∀ w', Ext W1 w' -> (fun w' : World => w'.cell? ⟨lb, 1, none⟩ = some (.string (aX l)) /\ w'.cell? ⟨lb, 2, none⟩ = some (.slice a2 m cap2) /\ w'.cell? ⟨mb, 0, none⟩ = some (.slice na nv nc)) w' from fun w' hw' => by
       have hb := HW.out.1.ext hw'
       exact ⟨by rw [hb.cell']; rfl, by rw [hb.cell']; rfl, by rw [(HM1.out.box.ext hw').cell', env]; rfl⟩)
      have hvl := iQ (ts := aA l) (bT ls)
      rw [HLt.out.2] at hvl
      rw [hk3] at l0
      clear ekx hkn hk3
      go_wp2
      clear eW1
      refine bB (fun w' : World => w'.cell? ⟨lb, 1, none⟩ = some (.string (aX l)) /\ w'.cell? ⟨lb, 2, none⟩ = some (.slice a2 m cap2) /\ w'.cell? ⟨mb, 0, none⟩ = some (.slice na nv nc)) [10] (by kernel_rfl) (HJ.out _ (Kp.refl W1).drew) (fun hHeld => ?_)
      refine dF 0 ?_; try simp only [Act.put,sI,sZ,sS]
      refine dF 1 ?_; try simp only [Act.put,sI,sZ,sS]
      refine dI 2 ?_; try simp only [Act.put,sI,sZ,sS]
      refine dF 3 ?_; try simp only [Act.put,sI,sZ,sS]
      refine dF 4 ?_; try simp only [Act.put,sI,sZ,sS]
      refine dF 5 ?_; try simp only [Act.put,sI,sZ,sS]
      refine dF 6 ?_; try simp only [Act.put,sI,sZ,sS]
      refine dI 7 ?_; try simp only [Act.put,sI,sZ,sS]
      refine aF (i := 8) ?_
      refine aI (i := 8) rfl (fun K hK => ?_)
      go_simp
      (refine (HLaid.out _ (HM1.out.kp.trans (Kp.refl W1).drew)).mono ?_; rintro e w4 ⟨v4, rfl, hk4, va, vc, rb, ivt, St, rfl, hft⟩; have X1 := qH (And.intro (show Ext W1 w4 from ((Kp.refl W1).drew).trans hk4) (And.intro hk4.size hft)); clear hk4 hft)
      go_wp2_with fail
      refine hK.out _ _ ?_ (fun hHeld => ?_)
      ·(try dsimp only); (exact HJ.out _ X1.out.1)
      clear hK K; (try simp only [Act.put,sI,sZ,sS])
      refine aF (i := 9) ?_
      refine aI (i := 9) rfl (fun K hK => ?_)
      go_simp
      (refine (sX (nv := nv) (lo := W1.drew.heap.size) X1.out.2.2 rfl (by omega) (fun v hv => (by have := (cL.1 hv).1; omega)) (by omega) X1.out.2.1).mono ?_; rintro e w5 ⟨v5, rfl, hk5, t, rfl, hlast, hask, hfast⟩; have X2 := qH (And.intro hk5 (And.intro hlast (And.intro hask hfast))); clear hk5 hlast hask hfast)
      go_wp2_with fail
      refine hK.out _ _ ?_ (fun hHeld => ?_)
      ·(try dsimp only); (exact HJ.out _ (X1.out.1.trans X2.out.1))
      clear hK K; (try simp only [Act.put,sI,sZ,sS])
      refine aF (i := 10) ?_
      refine aK (i := 10) rfl (by kernel_rfl) (fun K hK => ?_)
      go_simp
      (refine (uP (k := kx) (L := t.last) (HM1.out.ext (X1.out.1.trans X2.out.1)) rfl (by rw [X2.out.2.1]; have h8 := HK.out.1; unfold fG at h8; rw [if_pos HKd.out] at h8; exact h8) (by rw [env]; exact HK.out.2) (by omega) (lS (P := fun nv W => TestOk W nv t) HM1.out (X1.out.1.trans X2.out.1) X2.out.2.2.2 env (Nat.le_trans X1.out.2.1 X2.out.1.size)) (by have := HFew.out.2 kx; omega)).mono ?_; rintro e w6 ⟨rfl, sv2, hM5⟩; have X5 := qH hM5; clear hM5)
      go_wp2_with fail
      refine hK.out _ _ ?_
      clear hK K; (try simp only [Act.put,sI,sZ,sS])
      refine aL (by kernel_rfl) ?_ _
      have hFw := HFew.out
      have HP := qH (MatIs.add hIs.out HLi.out (by rw [HKd.out]; decide) (t := t) (k := kx) (by rw [env]; have := HK.out.2; omega) (by have := HK.out.1; omega) fun V hV => by
       rw [X2.out.2.2.1 V, aB8 cC iN]
       unfold gG
       rw [if_neg (by rw [HKd.out]; decide), if_pos HKd.out])
      have HFx := qH (show Ts.length ≤ i + 1 /\ ∀ k, (cP tests kx (tests kx ++ [t]) k).length ≤ i + 1 from ⟨by omega, fun k => by
       by_cases e : k = kx
       ·rw [e, upd_same, List.length_append, List.length_singleton]; have := hFw.2 kx; omega
       ·rw [aG _ _ e]; have := hFw.2 k; omega⟩)
      clear hFw
      go_wp2
      go_roundw
      case rel => exact ⟨i + 1, Ts, _, tv, av, sv2, by omega, by first | rfl | (congr 1; done) | (congr 1; omega), X5, HP, HFx⟩
      case measure => simp [intOf]; omega
     ·have HCm := qH (fun W (hW : Ext w3 W) => qZ (a := a2) (m := m) (cap := cap2) (nc := nc) (aB ls) 3 (aX l) (iI l) (leftOf l).1 (leftOf l).2.1 (aR l).1 (aR l).2.1 H3.out.2.2.2.symm (H3.out.2.2.1.ext hW) (by omega))
      have HKd := qH hk3
      have hb3 : (l.1 == 1) = false := by simp [hk3]
      have hb4 : (l.1 == 2) = false := by simp [hk3]
      have hb5 : (l.1 == 3) = true := by simp [hk3]
      obtain ⟨kx, eK⟩ : ∃ kx : Nat, fG (aB ls) l + 1 = (kx : Int) := ⟨(fG (aB ls) l + 1).toNat, by have := uJ (N := aB ls) (l := l); omega⟩
      have hkxn : kx < nv + 1 := by have := uI (N := aB ls) (l := l); omega
      have HK := qH (And.intro eK hkxn)
      have HJ := qH (show ∀ w', Ext W1 w' -> (fun w' : World => w'.cell? ⟨lb, 0, none⟩ = some (.int .i64 3) /\ w'.cell? ⟨lb, 1, none⟩ = some (.string (aX l)) /\ w'.cell? ⟨lb, 2, none⟩ = some (.slice a2 m cap2) /\ w'.cell? ⟨lb, 3, none⟩ = some (.int .i64 (iI l)) /\ w'.cell? ⟨lb, 4, none⟩ = some (.int .i64 (leftOf l).1) /\ w'.cell? ⟨lb, 5, none⟩ = some (.string (leftOf l).2.1) /\ w'.cell? ⟨lb, 6, none⟩ = some (.int .i64 (aR l).1) /\ w'.cell? ⟨lb, 7, none⟩ = some (.string (aR l).2.1) /\ w'.cell? ⟨mb, 0, none⟩ = some (.slice na nv nc)) w' from fun w' hw' => by
       have hb := HW.out.1.ext hw'
       rw [hk3] at hb
       exact ⟨by rw [hb.cell']; rfl, by rw [hb.cell']; rfl, by rw [hb.cell']; rfl, by rw [hb.cell']; rfl, by rw [hb.cell']; rfl, by rw [hb.cell']; rfl, by rw [hb.cell']; rfl, by rw [hb.cell']; rfl, by rw [(HM1.out.box.ext hw').cell', env]; rfl⟩)
      rw [hk3] at l0
      clear eK hkxn hk3
      go_wp2
      clear eW1
      refine bB (fun w' : World => w'.cell? ⟨lb, 0, none⟩ = some (.int .i64 3) /\ w'.cell? ⟨lb, 1, none⟩ = some (.string (aX l)) /\ w'.cell? ⟨lb, 2, none⟩ = some (.slice a2 m cap2) /\ w'.cell? ⟨lb, 3, none⟩ = some (.int .i64 (iI l)) /\ w'.cell? ⟨lb, 4, none⟩ = some (.int .i64 (leftOf l).1) /\ w'.cell? ⟨lb, 5, none⟩ = some (.string (leftOf l).2.1) /\ w'.cell? ⟨lb, 6, none⟩ = some (.int .i64 (aR l).1) /\ w'.cell? ⟨lb, 7, none⟩ = some (.string (aR l).2.1) /\ w'.cell? ⟨mb, 0, none⟩ = some (.slice na nv nc)) [7] (by kernel_rfl) (HJ.out _ (Kp.refl W1).drew) (fun hHeld => ?_)
      refine dF 0 ?_; try simp only [Act.put,sI,sZ,sS]
      refine dI 1 ?_; try simp only [Act.put,sI,sZ,sS]
      refine dF 2 ?_; try simp only [Act.put,sI,sZ,sS]
      refine dF 3 ?_; try simp only [Act.put,sI,sZ,sS]
      refine dF 4 ?_; try simp only [Act.put,sI,sZ,sS]
      refine dI 5 ?_; try simp only [Act.put,sI,sZ,sS]
      refine aF (i := 6) ?_
      refine aI (i := 6) rfl (fun K hK => ?_)
      go_simp
      (refine (HCm.out _ (HM1.out.kp.trans (Kp.refl W1).drew)).mono ?_; rintro e w4 ⟨v4, rfl, hk4, t, rfl, hlast, hask, hfast⟩; have X1 := qH (And.intro (show Ext W1 w4 from ((Kp.refl W1).drew).trans hk4) (And.intro hlast (And.intro hask (And.intro hk4.size hfast)))); clear hk4 hlast hask hfast)
      go_wp2_with fail
      refine hK.out _ _ ?_ (fun hHeld => ?_)
      ·(try dsimp only); (exact HJ.out _ X1.out.1)
      clear hK K; (try simp only [Act.put,sI,sZ,sS])
      refine aF (i := 7) ?_
      refine aK (i := 7) rfl (by kernel_rfl) (fun K hK => ?_)
      go_simp
      (refine (uP (k := kx) (L := t.last) (HM1.out.ext X1.out.1) rfl (by rw [X1.out.2.1, kQ (t := leftOf l), kQ (t := aR l)]; have h8 := HK.out.1; unfold fG at h8; rw [if_neg (by rw [HKd.out]; decide)] at h8; exact h8) (by rw [env]; exact HK.out.2) (by omega) (lS (P := fun nv W => TestOk W nv t) HM1.out X1.out.1 X1.out.2.2.2.2 env X1.out.2.2.2.1) (by have := HFew.out.2 kx; omega)).mono ?_; rintro e w5 ⟨rfl, sv2, hM5⟩; have X5 := qH hM5; clear hM5)
      go_wp2_with fail
      refine hK.out _ _ ?_
      clear hK K; (try simp only [Act.put,sI,sZ,sS])
      refine aL (by kernel_rfl) ?_ _
      have hFw := HFew.out
      have HP := qH (MatIs.add hIs.out HLi.out (by rw [HKd.out]; decide) (t := t) (k := kx) (by rw [env]; have := HK.out.2; omega) (by have := HK.out.1; omega) fun V hV => by
       rw [X1.out.2.2.1 V, zV]
       unfold gG
       rw [if_neg (by rw [HKd.out]; decide), if_neg (by rw [HKd.out]; decide)]
       have hs := mT (r := ((p, hs, ()), ls, ())) HC.out (List.mem_of_getElem? HLi.out) HKd.out
       rw [<- qK (hs _ (.inl rfl)), <- qK (hs _ (.inr rfl))])
      have HFx := qH (show Ts.length ≤ i + 1 /\ ∀ k, (cP tests kx (tests kx ++ [t]) k).length ≤ i + 1 from ⟨by omega, fun k => by
       by_cases e : k = kx
       ·rw [e, upd_same, List.length_append, List.length_singleton]; have := hFw.2 kx; omega
       ·rw [aG _ _ e]; have := hFw.2 k; omega⟩)
      clear hFw
      go_wp2
      go_roundw
      case rel => exact ⟨i + 1, Ts, _, tv, av, sv2, by omega, by first | rfl | (congr 1; done) | (congr 1; omega), X5, HP, HFx⟩
      case measure => simp [intOf]; omega
    ·have hbs := HBs.out.1
     have hnb2 : nb ≤ i := by omega
     have HBV := qH (show bvs.getD i (.pointer none) = .pointer none from by rw [List.getD_eq_getElem?_getD, List.getElem?_eq_none (by omega)]; rfl)
     have i2 : ¬ (i : Int) < (nb : Int) := by omega
     clear hbs hnb2
     rcases qW (r := ((p, hs, ()), ls, ())) HC.out (List.mem_of_getElem? HLi.out) with hk3 | hk3 | hk3
     ·have HKd := qH hk3
      have hb3 : (l.1 == 1) = true := by simp [hk3]
      have hm64 : m ≤ 64 := by rw [<- HLt.out.2]; exact aF1 HC.out (List.mem_of_getElem? HLi.out) (by omega)
      have HLaid := qH (show ∀ W, Ext w3 W -> Calls Tryz.prog 117 #[.agg #[.string (aX l), .slice a2 m cap2], (.pointer none), .slice na nv nc] W (RetN W fun w' v => ∃ va vc rb iv S', v = .agg #[.slice va (aM (aB ls) (aA l)).length vc, .pointer (some ⟨rb, 0, none⟩)] /\ Fast W.heap.size w'.heap.size w' fun X => TableAt S' X va rb iv (aM (aB ls) (aA l)) (cK (aB ls) (aA l) (bF Es ls i))) from fun W hW => by
       obtain ⟨Sb, hBb⟩ := HBs.out.2.2 i
       rw [HBV.out] at hBb
       have er : bF Es ls i = dP (aY (Es i) (aX l)) := by unfold bF; rw [HLi.out]; rfl
       rw [er]
       exact qV (hBb.ext (H3.out.1.trans hW)) HLt.out.2.symm (HLt.out.1.terms.kp hW fun _ _ h => h) hm64 env.symm (H3.out.2.2.1.ext hW) (bT ls) (by omega))
      have HJ := qH (show ∀ w', Ext W1 w' -> (fun w' : World => w'.cell? ⟨lb, 1, none⟩ = some (.string (aX l)) /\ w'.cell? ⟨lb, 2, none⟩ = some (.slice a2 m cap2) /\ w'.cell? ⟨mb, 0, none⟩ = some (.slice na nv nc)) w' from fun w' hw' => by
       have hb := HW.out.1.ext hw'
       exact ⟨by rw [hb.cell']; rfl, by rw [hb.cell']; rfl, by rw [(HM1.out.box.ext hw').cell', env]; rfl⟩)
      have hvl := iQ (ts := aA l) (bT ls)
      rw [HLt.out.2] at hvl
      rw [hk3] at l0
      clear hk3
      go_wp2
      clear eW1
      refine bB (fun w' : World => w'.cell? ⟨lb, 1, none⟩ = some (.string (aX l)) /\ w'.cell? ⟨lb, 2, none⟩ = some (.slice a2 m cap2) /\ w'.cell? ⟨mb, 0, none⟩ = some (.slice na nv nc)) [9] (by kernel_rfl) (HJ.out _ (Kp.refl W1).drew) (fun hHeld => ?_)
      refine dF 0 ?_; try simp only [Act.put,sI,sZ,sS]
      refine dI 1 ?_; try simp only [Act.put,sI,sZ,sS]
      refine dF 2 ?_; try simp only [Act.put,sI,sZ,sS]
      refine dF 3 ?_; try simp only [Act.put,sI,sZ,sS]
      refine dF 4 ?_; try simp only [Act.put,sI,sZ,sS]
      refine dF 5 ?_; try simp only [Act.put,sI,sZ,sS]
      refine dI 6 ?_; try simp only [Act.put,sI,sZ,sS]
      refine aCu (i := 7) (k := 8) ?_ ?_
      ·refine aI (i := 7) rfl (fun K hK => ?_)
       go_simp
       (refine (HLaid.out _ (by first | exact HM1.out.kp.trans (Kp.refl W1).drew | exact HM1.out.kp.trans (((Kp.refl W1).drew).alloc _))).mono ?_; rintro e w4 ⟨v4, rfl, hk4, va, vc, rb, ivt, St, rfl, hft⟩; have X1 := qH (And.intro (show Ext W1 w4 from (by first | exact ((Kp.refl W1).drew).trans hk4 | exact (((Kp.refl W1).drew).alloc _).trans hk4)) (And.intro hk4 hft)); clear hk4 hft)
       go_wp2_with fail
       refine hK.out _ _ ?_ (fun hHeld => ?_)
       ·(try dsimp only); (exact HJ.out _ X1.out.1)
       clear hK K; (try simp only [Act.put,sI,sZ,sS])
       refine aF (i := 8) ?_
       refine aI (i := 8) rfl (fun K hK => ?_)
       go_simp
       refine hK.out _ _ ?_ (fun hHeld => ?_)
       ·(try dsimp only); (first | exact HJ.out _ (((Kp.refl W1).drew).alloc _) | exact HJ.out _ (X1.out.1.alloc _))
       clear hK K; (try simp only [Act.put,sI,sZ,sS])
       refine aF (i := 9) ?_
       refine aK (i := 9) rfl (by kernel_rfl) (fun K hK => ?_)
       (first | (have hB9 := qH (show Blk w4 W1.heap.size [.slice none 0 0, .pointer none] 175 from (Blk.new W1.drew [.slice none 0 0, .pointer none] 175).ext X1.out.2.1); have c90 : w4.cell? ⟨W1.heap.size, 0, none⟩ = some (.slice none 0 0) := (by rw [hB9.out.cell']; rfl); have c91 : w4.cell? ⟨W1.heap.size, 1, none⟩ = some (.pointer none) := (by rw [hB9.out.cell']; rfl); have f90 := hB9.out.free 0; have f91 := hB9.out.free 1) | skip)
       go_simp
       refine hK.out _ _ ?_
       clear hK K; (try simp only [Act.put,sI,sZ,sS])
       refine aL (by kernel_rfl) ?_ _
       clear hHeld
       first
        | (have HX5 := qH (lU (x := .slice va (aM (aB ls) (aA l)).length vc) (y := .pointer (some ⟨rb, 0, none⟩)) X1.out.1 X1.out.2.2 (Kp.refl (F := fun _ => False) W1).drew.size X1.out.2.1.size)
           obtain ⟨tg, etg⟩ : ∃ z, w4.heap.size = z := ⟨_, rfl⟩
           obtain ⟨W5, eW5⟩ : ∃ z, w4.alloc (.cells #[.slice va (aM (aB ls) (aA l)).length vc, .pointer (some ⟨rb, 0, none⟩)] 175) = z := ⟨_, rfl⟩
           rw [eW5] at HX5 ⊢
           rw [etg] at HX5 ⊢
           clear eW5 etg)
        | (have HX5 := qH (lT (x := .slice va (aM (aB ls) (aA l)).length vc) (y := .pointer (some ⟨rb, 0, none⟩)) hB9.out X1.out.1 X1.out.2.2 (Nat.le_refl _) (by show W1.heap.size < (W1.alloc _).heap.size; rw [aN]; exact Nat.lt_succ_self _) X1.out.2.1.size)
           clear c90 c91 f90 f91
           obtain ⟨tg, etg⟩ : ∃ z, W1.heap.size = z := ⟨_, rfl⟩
           obtain ⟨W5, eW5⟩ : ∃ z, (w4.setCell ⟨W1.heap.size, 0, none⟩ (.slice va (aM (aB ls) (aA l)).length vc)).setCell ⟨W1.heap.size, 1, none⟩ (.pointer (some ⟨rb, 0, none⟩)) = z := ⟨_, rfl⟩
           rw [eW5] at HX5 ⊢
           have HTG := qH etg
           rw [etg] at HX5 ⊢
           clear eW5)
       have H5 := qH (show ∃ a, W1.heap.size ≤ a /\ a ≤ W5.heap.size /\ Ext W1 W5 /\ Blk W5 tg [.slice va (aM (aB ls) (aA l)).length vc, .pointer (some ⟨rb, 0, none⟩)] 175 /\ Fast a W5.heap.size W5 fun X => TableAt St X va rb ivt (aM (aB ls) (aA l)) (cK (aB ls) (aA l) (bF Es ls i)) from by
        obtain ⟨a, h1, h2⟩ := HX5.out
        refine ⟨a, ?_, h2⟩
        first
         | exact h1
         | (have h3 := HTG.out
            omega))
       clear HX5
       obtain ⟨a, ha1, ha2, hx5, hb5, hf5⟩ := H5.out
       obtain ⟨nV, enV⟩ : ∃ k, (aM (aB ls) (aA l)).length = k := ⟨_, rfl⟩
       obtain ⟨LLt, eLLt⟩ : ∃ L, cK (aB ls) (aA l) (bF Es ls i) = L := ⟨_, rfl⟩
       rw [eLLt] at hf5
       have hLLt : LLt.length ≤ 65536 := by
        obtain ⟨Sb, hBb⟩ := HBs.out.2.2 i
        have er : bF Es ls i = dP (aY (Es i) (aX l)) := by unfold bF; rw [HLi.out]; rfl
        have h1 := oH (aB ls) (aA l) (bF Es ls i)
        rw [eLLt, er] at h1
        refine Nat.le_trans h1 ?_
        cases hfe : aY (Es i) (aX l) with
        | none => exact Nat.zero_le _
        | some e => exact (hBb.ok.all _ (List.mem_map.2 ⟨e, (bP hfe).1, rfl⟩)).few
       have HLen := qH (gP (z := False) hf5.here.rows.q)
       have t1 : W5.cell? ⟨tg, 1, none⟩ = some (.pointer (some ⟨rb, 0, none⟩)) := by rw [hb5.cell']; rfl
       have H6 := qH (And.intro ha1 (And.intro ha2 (And.intro hx5 (And.intro hb5 (And.intro hf5 (And.intro enV (And.intro eLLt hLLt)))))))
       rw [enV] at hvl
       clear ha1 ha2 hx5 hb5 hf5 H5 hLLt
       go_wp2_with fail
       refine HLen.out.mono ?_
       rintro e W6 ⟨v6, rfl, hk6, rfl, -⟩
       have hx6 := Kp.fq hk6
       obtain ⟨nL, enL⟩ : ∃ k, LLt.length = k := ⟨_, rfl⟩
       rw [enL]
       have HX6 := qH (And.intro hx6 enL)
       by_cases h0 : nL = 0
       ·subst h0
        have HNone := qH (show ∀ V, ¬ bZ ls (bF Es ls) V from fun V hV => by
         have h1 := ((nZ (r := ((p, hs, ()), ls, ())) HC.out).1 hV).2 i l HLi.out
         unfold gG at h1
         rw [if_pos HKd.out] at h1
         have h2 := H6.out.2.2.2.2.2.2.1
         have h3 : cK (aB ls) (aA l) (bF Es ls i) = [] := h2.trans (List.eq_nil_of_length_eq_zero HX6.out.2)
         exact absurd (show _ ∈ ([] : aD) from h3 ▸ h1) (by simp))
        clear hk6 hx6 enL t1
        go_wp2
        go_ret
        exact RetN.mk (H3.out.1.trans (HM1.out.kp.trans (H6.out.2.2.1.trans HX6.out.1))) (.inl ⟨rfl, .inr HNone.out⟩)
       ·have hn0 : ((nL : Int) == 0) = false := by simp; omega
        have HN0 := qH h0
        have u0 : W6.cell? ⟨tg, 0, none⟩ = some (.slice va nV vc) := by rw [(H6.out.2.2.2.1.ext hx6).cell', <- H6.out.2.2.2.2.2.1]; rfl
        have u1 : W6.cell? ⟨tg, 1, none⟩ = some (.pointer (some ⟨rb, 0, none⟩)) := by rw [(H6.out.2.2.2.1.ext hx6).cell']; rfl
        have HM6 := qH (HM1.out.ext (H6.out.2.2.1.trans hx6))
        have hFw := HFew.out
        by_cases hv0 : nV = 0
        ·subst hv0
         have hvn : aM (aB ls) (aA l) = [] := List.eq_nil_of_length_eq_zero H6.out.2.2.2.2.2.1
         have HP := qH (MatIs.none hIs.out HLi.out HKd.out hvn (by
          have h2 := H6.out.2.2.2.2.2.2.1
          rw [h2, HX6.out.2]
          exact Nat.pos_of_ne_zero HN0.out))
         clear hk6 hx6 enL t1 hvn h0
         go_wp2_with fail
         refine (qJ (w := W6) (mb := mb) (rb := rb) (vc := vc) (va := va)).mono ?_
         rintro e W7 ⟨rfl, hx7⟩
         have HM7 := qH (HM6.out.ext hx7)
         have HFx := qH (show Ts.length ≤ i + 1 /\ ∀ k, (tests k).length ≤ i + 1 from ⟨by omega, fun k => by have := hFw.2 k; omega⟩)
         clear hx7 hFw
         go_wp2
         go_roundw
         case rel => exact ⟨i + 1, Ts, tests, tv, av, sv, by omega, by first | rfl | (congr 1; done) | (congr 1; omega), HM7, HP, HFx⟩
         case measure => simp [intOf]; omega
        ·have HV0 := qH hv0
         have HT := qH (jV HM1.out (W2 := W6) (a := a) (P := fun X => TableAt St X va rb ivt (aM (aB ls) (aA l)) LLt) H6.out.1 ((H6.out.2.2.2.2.1.ext hx6).mono (Nat.le_refl _) hx6.size))
         clear hk6 hx6 enL t1 h0
         go_wp2_with fail
         refine (uG HM6.out HT.out (fun _ h => h.elim) H6.out.2.2.2.2.2.1.symm (by omega) (by omega) (fun v hv => (cL.1 hv).1) ((List.nodup_range).filter _) (fun x hx => by
          have h2 := H6.out.2.2.2.2.2.2.1
          rw [<- h2] at hx
          rw [oG hx]; exact H6.out.2.2.2.2.2.1) H6.out.2.2.2.2.2.2.2 (by omega) (by omega) (fun v => by have := uO Ts v; omega)).mono ?_
         rintro e W7 ⟨rfl, tb, tv2, av2, hM7⟩
         have HM7 := qH (hM7.congr (ats' := atL (Ts ++ [⟨tb, aM (aB ls) (aA l), LLt⟩])) (fun v _ => by rw [rF]) (fun _ _ => rfl))
         have HP := qH (MatIs.put hIs.out HLi.out HKd.out (fun e => HV0.out (by rw [<- H6.out.2.2.2.2.2.1, e]; rfl)) (by
          have h2 := H6.out.2.2.2.2.2.2.1
          rw [h2, HX6.out.2]
          exact Nat.pos_of_ne_zero HN0.out) (t := ⟨tb, aM (aB ls) (aA l), LLt⟩) rfl H6.out.2.2.2.2.2.2.1.symm)
         have HFx := qH (show (Ts ++ [(⟨tb, aM (aB ls) (aA l), LLt⟩ : TrieZ)]).length ≤ i + 1 /\ ∀ k, (tests k).length ≤ i + 1 from ⟨by rw [List.length_append, List.length_singleton]; omega, fun k => by have := hFw.2 k; omega⟩)
         clear hM7 hFw
         go_wp2
         go_roundw
         case rel => exact ⟨i + 1, _, tests, tv2, av2, sv, by omega, by first | rfl | (congr 1; done) | (congr 1; omega), HM7, HP, HFx⟩
         case measure => simp [intOf]; omega
      ·refine aI (i := 8) rfl (fun K hK => ?_)
       go_simp
       refine hK.out _ _ ?_ (fun hHeld => ?_)
       ·(try dsimp only); (first | exact HJ.out _ (((Kp.refl W1).drew).alloc _) | exact HJ.out _ (X1.out.1.alloc _))
       clear hK K; (try simp only [Act.put,sI,sZ,sS])
       refine aF (i := 7) ?_
       refine aI (i := 7) rfl (fun K hK => ?_)
       go_simp
       (refine (HLaid.out _ (by first | exact HM1.out.kp.trans (Kp.refl W1).drew | exact HM1.out.kp.trans (((Kp.refl W1).drew).alloc _))).mono ?_; rintro e w4 ⟨v4, rfl, hk4, va, vc, rb, ivt, St, rfl, hft⟩; have X1 := qH (And.intro (show Ext W1 w4 from (by first | exact ((Kp.refl W1).drew).trans hk4 | exact (((Kp.refl W1).drew).alloc _).trans hk4)) (And.intro hk4 hft)); clear hk4 hft)
       go_wp2_with fail
       refine hK.out _ _ ?_ (fun hHeld => ?_)
       ·(try dsimp only); (exact HJ.out _ X1.out.1)
       clear hK K; (try simp only [Act.put,sI,sZ,sS])
       refine aF (i := 9) ?_
       refine aK (i := 9) rfl (by kernel_rfl) (fun K hK => ?_)
       (first | (have hB9 := qH (show Blk w4 W1.heap.size [.slice none 0 0, .pointer none] 175 from (Blk.new W1.drew [.slice none 0 0, .pointer none] 175).ext X1.out.2.1); have c90 : w4.cell? ⟨W1.heap.size, 0, none⟩ = some (.slice none 0 0) := (by rw [hB9.out.cell']; rfl); have c91 : w4.cell? ⟨W1.heap.size, 1, none⟩ = some (.pointer none) := (by rw [hB9.out.cell']; rfl); have f90 := hB9.out.free 0; have f91 := hB9.out.free 1) | skip)
       go_simp
       refine hK.out _ _ ?_
       clear hK K; (try simp only [Act.put,sI,sZ,sS])
       refine aL (by kernel_rfl) ?_ _
       clear hHeld
       first
        | (have HX5 := qH (lU (x := .slice va (aM (aB ls) (aA l)).length vc) (y := .pointer (some ⟨rb, 0, none⟩)) X1.out.1 X1.out.2.2 (Kp.refl (F := fun _ => False) W1).drew.size X1.out.2.1.size)
           obtain ⟨tg, etg⟩ : ∃ z, w4.heap.size = z := ⟨_, rfl⟩
           obtain ⟨W5, eW5⟩ : ∃ z, w4.alloc (.cells #[.slice va (aM (aB ls) (aA l)).length vc, .pointer (some ⟨rb, 0, none⟩)] 175) = z := ⟨_, rfl⟩
           rw [eW5] at HX5 ⊢
           rw [etg] at HX5 ⊢
           clear eW5 etg)
        | (have HX5 := qH (lT (x := .slice va (aM (aB ls) (aA l)).length vc) (y := .pointer (some ⟨rb, 0, none⟩)) hB9.out X1.out.1 X1.out.2.2 (Nat.le_refl _) (by show W1.heap.size < (W1.alloc _).heap.size; rw [aN]; exact Nat.lt_succ_self _) X1.out.2.1.size)
           clear c90 c91 f90 f91
           obtain ⟨tg, etg⟩ : ∃ z, W1.heap.size = z := ⟨_, rfl⟩
           obtain ⟨W5, eW5⟩ : ∃ z, (w4.setCell ⟨W1.heap.size, 0, none⟩ (.slice va (aM (aB ls) (aA l)).length vc)).setCell ⟨W1.heap.size, 1, none⟩ (.pointer (some ⟨rb, 0, none⟩)) = z := ⟨_, rfl⟩
           rw [eW5] at HX5 ⊢
           have HTG := qH etg
           rw [etg] at HX5 ⊢
           clear eW5)
       have H5 := qH (show ∃ a, W1.heap.size ≤ a /\ a ≤ W5.heap.size /\ Ext W1 W5 /\ Blk W5 tg [.slice va (aM (aB ls) (aA l)).length vc, .pointer (some ⟨rb, 0, none⟩)] 175 /\ Fast a W5.heap.size W5 fun X => TableAt St X va rb ivt (aM (aB ls) (aA l)) (cK (aB ls) (aA l) (bF Es ls i)) from by
        obtain ⟨a, h1, h2⟩ := HX5.out
        refine ⟨a, ?_, h2⟩
        first
         | exact h1
         | (have h3 := HTG.out
            omega))
       clear HX5
       obtain ⟨a, ha1, ha2, hx5, hb5, hf5⟩ := H5.out
       obtain ⟨nV, enV⟩ : ∃ k, (aM (aB ls) (aA l)).length = k := ⟨_, rfl⟩
       obtain ⟨LLt, eLLt⟩ : ∃ L, cK (aB ls) (aA l) (bF Es ls i) = L := ⟨_, rfl⟩
       rw [eLLt] at hf5
       have hLLt : LLt.length ≤ 65536 := by
        obtain ⟨Sb, hBb⟩ := HBs.out.2.2 i
        have er : bF Es ls i = dP (aY (Es i) (aX l)) := by unfold bF; rw [HLi.out]; rfl
        have h1 := oH (aB ls) (aA l) (bF Es ls i)
        rw [eLLt, er] at h1
        refine Nat.le_trans h1 ?_
        cases hfe : aY (Es i) (aX l) with
        | none => exact Nat.zero_le _
        | some e => exact (hBb.ok.all _ (List.mem_map.2 ⟨e, (bP hfe).1, rfl⟩)).few
       have HLen := qH (gP (z := False) hf5.here.rows.q)
       have t1 : W5.cell? ⟨tg, 1, none⟩ = some (.pointer (some ⟨rb, 0, none⟩)) := by rw [hb5.cell']; rfl
       have H6 := qH (And.intro ha1 (And.intro ha2 (And.intro hx5 (And.intro hb5 (And.intro hf5 (And.intro enV (And.intro eLLt hLLt)))))))
       rw [enV] at hvl
       clear ha1 ha2 hx5 hb5 hf5 H5 hLLt
       go_wp2_with fail
       refine HLen.out.mono ?_
       rintro e W6 ⟨v6, rfl, hk6, rfl, -⟩
       have hx6 := Kp.fq hk6
       obtain ⟨nL, enL⟩ : ∃ k, LLt.length = k := ⟨_, rfl⟩
       rw [enL]
       have HX6 := qH (And.intro hx6 enL)
       by_cases h0 : nL = 0
       ·subst h0
        have HNone := qH (show ∀ V, ¬ bZ ls (bF Es ls) V from fun V hV => by
         have h1 := ((nZ (r := ((p, hs, ()), ls, ())) HC.out).1 hV).2 i l HLi.out
         unfold gG at h1
         rw [if_pos HKd.out] at h1
         have h2 := H6.out.2.2.2.2.2.2.1
         have h3 : cK (aB ls) (aA l) (bF Es ls i) = [] := h2.trans (List.eq_nil_of_length_eq_zero HX6.out.2)
         exact absurd (show _ ∈ ([] : aD) from h3 ▸ h1) (by simp))
        clear hk6 hx6 enL t1
        go_wp2
        go_ret
        exact RetN.mk (H3.out.1.trans (HM1.out.kp.trans (H6.out.2.2.1.trans HX6.out.1))) (.inl ⟨rfl, .inr HNone.out⟩)
       ·have hn0 : ((nL : Int) == 0) = false := by simp; omega
        have HN0 := qH h0
        have u0 : W6.cell? ⟨tg, 0, none⟩ = some (.slice va nV vc) := by rw [(H6.out.2.2.2.1.ext hx6).cell', <- H6.out.2.2.2.2.2.1]; rfl
        have u1 : W6.cell? ⟨tg, 1, none⟩ = some (.pointer (some ⟨rb, 0, none⟩)) := by rw [(H6.out.2.2.2.1.ext hx6).cell']; rfl
        have HM6 := qH (HM1.out.ext (H6.out.2.2.1.trans hx6))
        have hFw := HFew.out
        by_cases hv0 : nV = 0
        ·subst hv0
         have hvn : aM (aB ls) (aA l) = [] := List.eq_nil_of_length_eq_zero H6.out.2.2.2.2.2.1
         have HP := qH (MatIs.none hIs.out HLi.out HKd.out hvn (by
          have h2 := H6.out.2.2.2.2.2.2.1
          rw [h2, HX6.out.2]
          exact Nat.pos_of_ne_zero HN0.out))
         clear hk6 hx6 enL t1 hvn h0
         go_wp2_with fail
         refine (qJ (w := W6) (mb := mb) (rb := rb) (vc := vc) (va := va)).mono ?_
         rintro e W7 ⟨rfl, hx7⟩
         have HM7 := qH (HM6.out.ext hx7)
         have HFx := qH (show Ts.length ≤ i + 1 /\ ∀ k, (tests k).length ≤ i + 1 from ⟨by omega, fun k => by have := hFw.2 k; omega⟩)
         clear hx7 hFw
         go_wp2
         go_roundw
         case rel => exact ⟨i + 1, Ts, tests, tv, av, sv, by omega, by first | rfl | (congr 1; done) | (congr 1; omega), HM7, HP, HFx⟩
         case measure => simp [intOf]; omega
        ·have HV0 := qH hv0
         have HT := qH (jV HM1.out (W2 := W6) (a := a) (P := fun X => TableAt St X va rb ivt (aM (aB ls) (aA l)) LLt) H6.out.1 ((H6.out.2.2.2.2.1.ext hx6).mono (Nat.le_refl _) hx6.size))
         clear hk6 hx6 enL t1 h0
         go_wp2_with fail
         refine (uG HM6.out HT.out (fun _ h => h.elim) H6.out.2.2.2.2.2.1.symm (by omega) (by omega) (fun v hv => (cL.1 hv).1) ((List.nodup_range).filter _) (fun x hx => by
          have h2 := H6.out.2.2.2.2.2.2.1
          rw [<- h2] at hx
          rw [oG hx]; exact H6.out.2.2.2.2.2.1) H6.out.2.2.2.2.2.2.2 (by omega) (by omega) (fun v => by have := uO Ts v; omega)).mono ?_
         rintro e W7 ⟨rfl, tb, tv2, av2, hM7⟩
         have HM7 := qH (hM7.congr (ats' := atL (Ts ++ [⟨tb, aM (aB ls) (aA l), LLt⟩])) (fun v _ => by rw [rF]) (fun _ _ => rfl))
         have HP := qH (MatIs.put hIs.out HLi.out HKd.out (fun e => HV0.out (by rw [<- H6.out.2.2.2.2.2.1, e]; rfl)) (by
          have h2 := H6.out.2.2.2.2.2.2.1
          rw [h2, HX6.out.2]
          exact Nat.pos_of_ne_zero HN0.out) (t := ⟨tb, aM (aB ls) (aA l), LLt⟩) rfl H6.out.2.2.2.2.2.2.1.symm)
         have HFx := qH (show (Ts ++ [(⟨tb, aM (aB ls) (aA l), LLt⟩ : TrieZ)]).length ≤ i + 1 /\ ∀ k, (tests k).length ≤ i + 1 from ⟨by rw [List.length_append, List.length_singleton]; omega, fun k => by have := hFw.2 k; omega⟩)
         clear hM7 hFw
         go_wp2
         go_roundw
         case rel => exact ⟨i + 1, _, tests, tv2, av2, sv, by omega, by first | rfl | (congr 1; done) | (congr 1; omega), HM7, HP, HFx⟩
         case measure => simp [intOf]; omega
     ·have HKd := qH hk3
      have hb3 : (l.1 == 1) = false := by simp [hk3]
      have hb4 : (l.1 == 2) = true := by simp [hk3]
      have hm64 : m ≤ 64 := by rw [<- HLt.out.2]; exact aF1 HC.out (List.mem_of_getElem? HLi.out) (by omega)
      have HLaid := qH (show ∀ W, Ext w3 W -> Calls Tryz.prog 117 #[.agg #[.string (aX l), .slice a2 m cap2], (.pointer none), .slice na nv nc] W (RetN W fun w' v => ∃ va vc rb iv S', v = .agg #[.slice va (aM (aB ls) (aA l)).length vc, .pointer (some ⟨rb, 0, none⟩)] /\ Fast W.heap.size w'.heap.size w' fun X => TableAt S' X va rb iv (aM (aB ls) (aA l)) (cK (aB ls) (aA l) (bF Es ls i))) from fun W hW => by
       obtain ⟨Sb, hBb⟩ := HBs.out.2.2 i
       rw [HBV.out] at hBb
       have er : bF Es ls i = dP (aY (Es i) (aX l)) := by unfold bF; rw [HLi.out]; rfl
       rw [er]
       exact qV (hBb.ext (H3.out.1.trans hW)) HLt.out.2.symm (HLt.out.1.terms.kp hW fun _ _ h => h) hm64 env.symm (H3.out.2.2.1.ext hW) (bT ls) (by omega))
      obtain ⟨kx, ekx⟩ : ∃ kx : Nat, fG (aB ls) l + 1 = (kx : Int) := ⟨(fG (aB ls) l + 1).toNat, by have := uJ (N := aB ls) (l := l); omega⟩
      have hkn : kx < nv + 1 := by have := uI (N := aB ls) (l := l); omega
      have HK := qH (And.intro ekx hkn)
      have HJ := qH (show ∀ w', Ext W1 w' -> (fun w' : World => w'.cell? ⟨lb, 1, none⟩ = some (.string (aX l)) /\ w'.cell? ⟨lb, 2, none⟩ = some (.slice a2 m cap2) /\ w'.cell? ⟨mb, 0, none⟩ = some (.slice na nv nc)) w' from fun w' hw' => by
       have hb := HW.out.1.ext hw'
       exact ⟨by rw [hb.cell']; rfl, by rw [hb.cell']; rfl, by rw [(HM1.out.box.ext hw').cell', env]; rfl⟩)
      have hvl := iQ (ts := aA l) (bT ls)
      rw [HLt.out.2] at hvl
      rw [hk3] at l0
      clear ekx hkn hk3
      go_wp2
      clear eW1
      refine bB (fun w' : World => w'.cell? ⟨lb, 1, none⟩ = some (.string (aX l)) /\ w'.cell? ⟨lb, 2, none⟩ = some (.slice a2 m cap2) /\ w'.cell? ⟨mb, 0, none⟩ = some (.slice na nv nc)) [10] (by kernel_rfl) (HJ.out _ (Kp.refl W1).drew) (fun hHeld => ?_)
      refine dF 0 ?_; try simp only [Act.put,sI,sZ,sS]
      refine dF 1 ?_; try simp only [Act.put,sI,sZ,sS]
      refine dI 2 ?_; try simp only [Act.put,sI,sZ,sS]
      refine dF 3 ?_; try simp only [Act.put,sI,sZ,sS]
      refine dF 4 ?_; try simp only [Act.put,sI,sZ,sS]
      refine dF 5 ?_; try simp only [Act.put,sI,sZ,sS]
      refine dF 6 ?_; try simp only [Act.put,sI,sZ,sS]
      refine dI 7 ?_; try simp only [Act.put,sI,sZ,sS]
      refine aF (i := 8) ?_
      refine aI (i := 8) rfl (fun K hK => ?_)
      go_simp
      (refine (HLaid.out _ (HM1.out.kp.trans (Kp.refl W1).drew)).mono ?_; rintro e w4 ⟨v4, rfl, hk4, va, vc, rb, ivt, St, rfl, hft⟩; have X1 := qH (And.intro (show Ext W1 w4 from ((Kp.refl W1).drew).trans hk4) (And.intro hk4.size hft)); clear hk4 hft)
      go_wp2_with fail
      refine hK.out _ _ ?_ (fun hHeld => ?_)
      ·(try dsimp only); (exact HJ.out _ X1.out.1)
      clear hK K; (try simp only [Act.put,sI,sZ,sS])
      refine aF (i := 9) ?_
      refine aI (i := 9) rfl (fun K hK => ?_)
      go_simp
      (refine (sX (nv := nv) (lo := W1.drew.heap.size) X1.out.2.2 rfl (by omega) (fun v hv => (by have := (cL.1 hv).1; omega)) (by omega) X1.out.2.1).mono ?_; rintro e w5 ⟨v5, rfl, hk5, t, rfl, hlast, hask, hfast⟩; have X2 := qH (And.intro hk5 (And.intro hlast (And.intro hask hfast))); clear hk5 hlast hask hfast)
      go_wp2_with fail
      refine hK.out _ _ ?_ (fun hHeld => ?_)
      ·(try dsimp only); (exact HJ.out _ (X1.out.1.trans X2.out.1))
      clear hK K; (try simp only [Act.put,sI,sZ,sS])
      refine aF (i := 10) ?_
      refine aK (i := 10) rfl (by kernel_rfl) (fun K hK => ?_)
      go_simp
      (refine (uP (k := kx) (L := t.last) (HM1.out.ext (X1.out.1.trans X2.out.1)) rfl (by rw [X2.out.2.1]; have h8 := HK.out.1; unfold fG at h8; rw [if_pos HKd.out] at h8; exact h8) (by rw [env]; exact HK.out.2) (by omega) (lS (P := fun nv W => TestOk W nv t) HM1.out (X1.out.1.trans X2.out.1) X2.out.2.2.2 env (Nat.le_trans X1.out.2.1 X2.out.1.size)) (by have := HFew.out.2 kx; omega)).mono ?_; rintro e w6 ⟨rfl, sv2, hM5⟩; have X5 := qH hM5; clear hM5)
      go_wp2_with fail
      refine hK.out _ _ ?_
      clear hK K; (try simp only [Act.put,sI,sZ,sS])
      refine aL (by kernel_rfl) ?_ _
      have hFw := HFew.out
      have HP := qH (MatIs.add hIs.out HLi.out (by rw [HKd.out]; decide) (t := t) (k := kx) (by rw [env]; have := HK.out.2; omega) (by have := HK.out.1; omega) fun V hV => by
       rw [X2.out.2.2.1 V, aB8 cC iN]
       unfold gG
       rw [if_neg (by rw [HKd.out]; decide), if_pos HKd.out])
      have HFx := qH (show Ts.length ≤ i + 1 /\ ∀ k, (cP tests kx (tests kx ++ [t]) k).length ≤ i + 1 from ⟨by omega, fun k => by
       by_cases e : k = kx
       ·rw [e, upd_same, List.length_append, List.length_singleton]; have := hFw.2 kx; omega
       ·rw [aG _ _ e]; have := hFw.2 k; omega⟩)
      clear hFw
      go_wp2
      go_roundw
      case rel => exact ⟨i + 1, Ts, _, tv, av, sv2, by omega, by first | rfl | (congr 1; done) | (congr 1; omega), X5, HP, HFx⟩
      case measure => simp [intOf]; omega
     ·have HCm := qH (fun W (hW : Ext w3 W) => qZ (a := a2) (m := m) (cap := cap2) (nc := nc) (aB ls) 3 (aX l) (iI l) (leftOf l).1 (leftOf l).2.1 (aR l).1 (aR l).2.1 H3.out.2.2.2.symm (H3.out.2.2.1.ext hW) (by omega))
      have HKd := qH hk3
      have hb3 : (l.1 == 1) = false := by simp [hk3]
      have hb4 : (l.1 == 2) = false := by simp [hk3]
      have hb5 : (l.1 == 3) = true := by simp [hk3]
      obtain ⟨kx, eK⟩ : ∃ kx : Nat, fG (aB ls) l + 1 = (kx : Int) := ⟨(fG (aB ls) l + 1).toNat, by have := uJ (N := aB ls) (l := l); omega⟩
      have hkxn : kx < nv + 1 := by have := uI (N := aB ls) (l := l); omega
      have HK := qH (And.intro eK hkxn)
      have HJ := qH (show ∀ w', Ext W1 w' -> (fun w' : World => w'.cell? ⟨lb, 0, none⟩ = some (.int .i64 3) /\ w'.cell? ⟨lb, 1, none⟩ = some (.string (aX l)) /\ w'.cell? ⟨lb, 2, none⟩ = some (.slice a2 m cap2) /\ w'.cell? ⟨lb, 3, none⟩ = some (.int .i64 (iI l)) /\ w'.cell? ⟨lb, 4, none⟩ = some (.int .i64 (leftOf l).1) /\ w'.cell? ⟨lb, 5, none⟩ = some (.string (leftOf l).2.1) /\ w'.cell? ⟨lb, 6, none⟩ = some (.int .i64 (aR l).1) /\ w'.cell? ⟨lb, 7, none⟩ = some (.string (aR l).2.1) /\ w'.cell? ⟨mb, 0, none⟩ = some (.slice na nv nc)) w' from fun w' hw' => by
       have hb := HW.out.1.ext hw'
       rw [hk3] at hb
       exact ⟨by rw [hb.cell']; rfl, by rw [hb.cell']; rfl, by rw [hb.cell']; rfl, by rw [hb.cell']; rfl, by rw [hb.cell']; rfl, by rw [hb.cell']; rfl, by rw [hb.cell']; rfl, by rw [hb.cell']; rfl, by rw [(HM1.out.box.ext hw').cell', env]; rfl⟩)
      rw [hk3] at l0
      clear eK hkxn hk3
      go_wp2
      clear eW1
      refine bB (fun w' : World => w'.cell? ⟨lb, 0, none⟩ = some (.int .i64 3) /\ w'.cell? ⟨lb, 1, none⟩ = some (.string (aX l)) /\ w'.cell? ⟨lb, 2, none⟩ = some (.slice a2 m cap2) /\ w'.cell? ⟨lb, 3, none⟩ = some (.int .i64 (iI l)) /\ w'.cell? ⟨lb, 4, none⟩ = some (.int .i64 (leftOf l).1) /\ w'.cell? ⟨lb, 5, none⟩ = some (.string (leftOf l).2.1) /\ w'.cell? ⟨lb, 6, none⟩ = some (.int .i64 (aR l).1) /\ w'.cell? ⟨lb, 7, none⟩ = some (.string (aR l).2.1) /\ w'.cell? ⟨mb, 0, none⟩ = some (.slice na nv nc)) [7] (by kernel_rfl) (HJ.out _ (Kp.refl W1).drew) (fun hHeld => ?_)
      refine dF 0 ?_; try simp only [Act.put,sI,sZ,sS]
      refine dI 1 ?_; try simp only [Act.put,sI,sZ,sS]
      refine dF 2 ?_; try simp only [Act.put,sI,sZ,sS]
      refine dF 3 ?_; try simp only [Act.put,sI,sZ,sS]
      refine dF 4 ?_; try simp only [Act.put,sI,sZ,sS]
      refine dI 5 ?_; try simp only [Act.put,sI,sZ,sS]
      refine aF (i := 6) ?_
      refine aI (i := 6) rfl (fun K hK => ?_)
      go_simp
      (refine (HCm.out _ (HM1.out.kp.trans (Kp.refl W1).drew)).mono ?_; rintro e w4 ⟨v4, rfl, hk4, t, rfl, hlast, hask, hfast⟩; have X1 := qH (And.intro (show Ext W1 w4 from ((Kp.refl W1).drew).trans hk4) (And.intro hlast (And.intro hask (And.intro hk4.size hfast)))); clear hk4 hlast hask hfast)
      go_wp2_with fail
      refine hK.out _ _ ?_ (fun hHeld => ?_)
      ·(try dsimp only); (exact HJ.out _ X1.out.1)
      clear hK K; (try simp only [Act.put,sI,sZ,sS])
      refine aF (i := 7) ?_
      refine aK (i := 7) rfl (by kernel_rfl) (fun K hK => ?_)
      go_simp
      (refine (uP (k := kx) (L := t.last) (HM1.out.ext X1.out.1) rfl (by rw [X1.out.2.1, kQ (t := leftOf l), kQ (t := aR l)]; have h8 := HK.out.1; unfold fG at h8; rw [if_neg (by rw [HKd.out]; decide)] at h8; exact h8) (by rw [env]; exact HK.out.2) (by omega) (lS (P := fun nv W => TestOk W nv t) HM1.out X1.out.1 X1.out.2.2.2.2 env X1.out.2.2.2.1) (by have := HFew.out.2 kx; omega)).mono ?_; rintro e w5 ⟨rfl, sv2, hM5⟩; have X5 := qH hM5; clear hM5)
      go_wp2_with fail
      refine hK.out _ _ ?_
      clear hK K; (try simp only [Act.put,sI,sZ,sS])
      refine aL (by kernel_rfl) ?_ _
      have hFw := HFew.out
      have HP := qH (MatIs.add hIs.out HLi.out (by rw [HKd.out]; decide) (t := t) (k := kx) (by rw [env]; have := HK.out.2; omega) (by have := HK.out.1; omega) fun V hV => by
       rw [X1.out.2.2.1 V, zV]
       unfold gG
       rw [if_neg (by rw [HKd.out]; decide), if_neg (by rw [HKd.out]; decide)]
       have hs := mT (r := ((p, hs, ()), ls, ())) HC.out (List.mem_of_getElem? HLi.out) HKd.out
       rw [<- qK (hs _ (.inl rfl)), <- qK (hs _ (.inr rfl))])
      have HFx := qH (show Ts.length ≤ i + 1 /\ ∀ k, (cP tests kx (tests kx ++ [t]) k).length ≤ i + 1 from ⟨by omega, fun k => by
       by_cases e : k = kx
       ·rw [e, upd_same, List.length_append, List.length_singleton]; have := hFw.2 kx; omega
       ·rw [aG _ _ e]; have := hFw.2 k; omega⟩)
      clear hFw
      go_wp2
      go_roundw
      case rel => exact ⟨i + 1, Ts, _, tv, av, sv2, by omega, by first | rfl | (congr 1; done) | (congr 1; omega), X5, HP, HFx⟩
      case measure => simp [intOf]; omega
   ·obtain rfl : n = i := by omega
    have hM2 := hM.out
    obtain ⟨A, hA⟩ := hM2.done (by first | omega | rw [env]) (by have := hFew.out.1; omega) (fun k => by have := hFew.out.2 k; omega)
    have hx : Ext w wr := H3.out.1.trans hM2.kp
    have HFin := qH (show Ext w wr /\ aFi w wr ((p, hs, ()), ls, ()) Es (.pointer (some ⟨mb, 0, none⟩)) from
     ⟨hx, .inr ⟨mb, Ts, tests, A, rfl, HC.out, by rw [<- HL.out.1]; exact hIs.out, hA.mono H3.out.1.size (Nat.le_refl _)⟩⟩)
    clear hM2 hA hx hM hIs hFew hi hlt
    go_wp2
    go_ret
    exact RetN.mk HFin.out.1 HFin.out.2
 ·have hc' : ((cR : Int) == 0) = false := by simp; omega
  go_wp2
  go_ret
  exact RetN.mk H2.out.1 (.inl ⟨rfl, .inl (by rw [HC.out]; exact hc)⟩)
end Go.Proofs.YtinnmeiphbdogaaGreat
/- The walk through a matcher: all. -/
namespace Go.Proofs.YtinnmeiphbdogaaGreat
open Go.RowKit Go.Shelf
theorem aCk {C : WCtx} (hC : C.Ok) {l n : Nat} (hY : C.Yields l n) : ∀ (m v : Nat), v + m = C.M.N.length -> C.From v
 | 0, v, h => pU hC hY (by omega) fun h2 => by omega
 | m + 1, v, h => pU hC hY (by omega) fun _ => aCk hC hY m (v + 1) (by omega)
def aGa (J Jx : (Nat -> Prop) -> List XB -> World -> Prop) (Lall : aD) (e : Ending) (W' : World) : Prop :=
 (∃ v, e = .returned v) /\ ∃ T W1, Kp T W1 W' /\ ((∃ xs : List XB, xs.map Prod.snd = Lall /\ J T xs W1) \/ (∃ pre : List XB, pre.map Prod.snd <+: Lall /\ Jx T pre W1))
structure AllAt (M : MatchZ) (W : World) (wb mb rb : Nat) (yv : Value) (m : Nat) (cv : Value) (cb : Nat -> Nat) (w : World) : Prop where
 box : Blk w wb [.pointer (some ⟨mb, 0, none⟩), cv, .slice (some ⟨rb, 0, none⟩) M.N.length M.N.length, yv] 186
 row : Blk w rb (strs (List.replicate M.N.length ⟨#[]⟩)) 9
 curs : Row w 188 1 cv m (wM cb m) (fun g => W.heap.size ≤ g)
 cur : ∀ (j : Nat) t, j < m -> M.Ts[j]? = some t -> CurS w (cb j) t.tb [] (.slice none 0 0) /\ W.heap.size ≤ cb j
 inj : ∀ i j, i < m -> j < m -> cb i = cb j -> i = j
 kp : Ext W w
theorem AllAt.push {M : MatchZ} {W w w3 w4 : World} {wb mb rb m cb3 : Nat} {yv cv lv : Value} {cb : Nat -> Nat} {t : TrieZ} {e3 : Array Value} (h : AllAt M W wb mb rb yv m cv cb w) (hlo : W.heap.size ≤ wb) (ht : M.Ts[m]? = some t) (h3 : Ext w w3) (hn : w.heap.size ≤ cb3) (hc : CurAt w3 cb3 t.tb [] (.slice none 0 0) (fun k => w.heap.size ≤ k))
 (hr : Row w4 188 1 lv (m + 1) (wM cb m ++ [.pointer (some ⟨cb3, 0, none⟩)]) (fun g => cv.ownBlock = some g \/ (w3.alloc (.cells e3 188)).heap.size ≤ g)) (hk : Kp (fun g => cv.ownBlock = some g) (w3.alloc (.cells e3 188)) w4) :
 AllAt M W wb mb rb yv (m + 1) lv (cP cb m cb3) (w4.setCell ⟨wb, 1, none⟩ lv) := by
 obtain ⟨t1, t2, t3, t4, t5, t6, t7, t8, t9⟩ := aFp
 have x4 : Ext w (w3.alloc (.cells e3 188)) := h3.alloc _
 have own : ∀ g, cv.ownBlock = some g -> ∃ cs, Blk w g cs 188 := fun g hg => aT h.curs hg
 have kx : Kp (fun g => cv.ownBlock = some g) w w4 := (Ext.kp x4).trans hk
 have ks : Kp (fun k => k = wb) w4 (w4.setCell ⟨wb, 1, none⟩ lv) := Kp.setCell (F := fun k => k = wb) (p := ⟨wb, 1, none⟩) (Kp.refl w4) (fun _ => rfl) _
 have hsz := h3.size
 have hsW := h.kp.size
 have hbx : Blk w4 wb [.pointer (some ⟨mb, 0, none⟩), cv, .slice (some ⟨rb, 0, none⟩) M.N.length M.N.length, yv] 186 := h.box.kp kx fun hg => by
  obtain ⟨cs, hb⟩ := own _ hg
  exact t9 (aU h.box hb)
 have hrb : Blk w4 rb (strs (List.replicate M.N.length ⟨#[]⟩)) 9 := h.row.kp kx fun hg => by
  obtain ⟨cs, hb⟩ := own _ hg
  exact t8 (aU hb h.row)
 have notB : ∀ (c : Nat) (tb : Nat), CurAt w4 c tb [] (.slice none 0 0) (fun k => (Value.slice none 0 0).ownBlock = some k) -> ∀ k, iG c (.slice none 0 0) k -> ¬ k = wb := fun c tb hc k hk e => by
  rw [e] at hk
  exact hc.notB hbx t1 t2 hk
 have e1 : wM (cP cb m cb3) (m + 1) = wM cb m ++ [.pointer (some ⟨cb3, 0, none⟩)] := by
  unfold wM
  rw [List.range_succ, List.map_append, List.map_singleton, upd_same]
  congr 1
  refine List.map_congr_left fun j hj => ?_
  rw [aG _ _ (by have := List.mem_range.1 hj; omega)]
 refine ⟨hbx.set 1 lv, hrb.kp ks fun e => t7 (aU hbx (by rw [<- e]; exact hrb)), ?_, fun j u hj hu => ?_, fun i j hi hj he => ?_, ?_⟩
 ·rw [e1]
  refine (hr.kp' ks fun g hg _ e => ?_).mono fun g hg => ?_
  ·obtain ⟨cs, hb⟩ := aT hr hg
   have e' : g = wb := e
   rw [e'] at hb
   exact t9 (aU hbx hb)
  ·rcases hg with hg | hg
   ·exact h.curs.block g hg
   ·rw [aN] at hg; omega
 ·by_cases e : j = m
  ·subst e
   rw [ht] at hu; cases hu
   rw [upd_same]
   have hc4 : CurS w4 cb3 t.tb [] (.slice none 0 0) := ((hc.ext ((Kp.refl w3).alloc _)).kp hk fun k hk1 hk2 => by
    rcases hk1 with rfl | hk1
    ·obtain ⟨cs, hb⟩ := own _ hk2
     have := hb.lt
     omega
    ·cases hk1).own
   exact ⟨hc4.kp ks (notB _ _ hc4), by omega⟩
  ·rw [aG _ _ e]
   obtain ⟨h1, h2⟩ := h.cur j u (by omega) hu
   have hc4 : CurS w4 (cb j) u.tb [] (.slice none 0 0) := h1.kp kx fun k hk1 hk2 => by
    obtain ⟨cs, hb⟩ := own _ hk2
    exact h1.notB hb t5 t6 hk1
   exact ⟨hc4.kp ks (notB _ _ hc4), h2⟩
 ·have old : ∀ j, j < m -> j < M.Ts.length -> cb j < w.heap.size := fun j hj hjT => (h.cur j _ hj (qG hjT)).1.box.lt
  have hmT := (List.getElem?_eq_some_iff.1 ht).1
  by_cases e : i = m
  ·by_cases e2 : j = m
   ·omega
   ·rw [e, upd_same, aG _ _ e2] at he
    have := old j (by omega) (by omega)
    omega
  ·by_cases e2 : j = m
   ·rw [e2, upd_same, aG _ _ e] at he
    have := old i (by omega) (by omega)
    omega
   ·rw [aG _ _ e, aG _ _ e2] at he
    exact h.inj i j (by omega) (by omega) he
 ·refine (h.kp.trans' kx fun i hi hg => ?_).trans' ks fun i hi hg => ?_
  ·have := h.curs.block i hg
   omega
  ·have e : i = wb := hg
   omega
theorem AllAt.walk {M : MatchZ} {W w : World} {wb mb rb : Nat} {yv cv : Value} {cb : Nat -> Nat} (h : AllAt M W wb mb rb yv M.Ts.length cv cb w) (hlo : W.heap.size ≤ wb) (hlr : W.heap.size ≤ rb) : WalkAt w wb mb M yv cv rb (List.replicate M.N.length ⟨#[]⟩) cb (fun _ => .slice none 0 0) (fun _ => []) /\ ∀ k, aIm wb rb M.Ts.length cv cb (fun _ => .slice none 0 0) k -> W.heap.size ≤ k := by
 refine ⟨⟨h.box, h.row, List.length_replicate, h.curs.ownB, fun j t ht => (h.cur j t (List.getElem?_eq_some_iff.1 ht).1 ht).1, fun i j hi hj hne => ⟨fun e => hne (h.inj i j hi hj e), fun k hk => by cases hk⟩⟩, fun k hk => ?_⟩
 rcases hk with rfl | rfl | hk | ⟨j, hj, hk | hk⟩
 ·exact hlo
 ·exact hlr
 ·exact h.curs.block k hk
 ·rw [hk]; exact (h.cur j _ hj (qG hj)).2
 ·cases hk
def AllR (M : MatchZ) (W : World) (wb mb rb : Nat) (yv : Value) (iv : Value) (w : World) : Prop := ∃ (m : Nat) (cv : Value) (cb : Nat -> Nat), m ≤ M.Ts.length /\ iv = .int .i64 m /\ Hid (AllAt M W wb mb rb yv m cv cb w)
set_option maxRecDepth 100000 in
set_option maxHeartbeats 4000000 in
theorem aLh {Z : Nat -> Prop} {M : MatchZ} {A : MAddr} {mb : Nat} {w0 W : World} {J Jx : (Nat -> Prop) -> List XB -> World -> Prop} {Lall : aD} {l n : Nat} (hZ : ∀ k, Z k -> k < W.heap.size) (hW : Kp (fun k => ¬ Z k) w0 W) (hmat : ∀ W', Kp (fun k => ¬ Z k) w0 W' -> MatchAt W' mb M A) (hM : MatchOk M) (hL : AllB (mG M) [] Lall)
 (hY : ∀ T T' pre x W1 W2, J T pre W1 -> Kp T W1 W2 -> (∀ k, T' k -> zH T W1 W2 k) -> GvRow W1 T' W2 x -> (pre ++ [x]).map Prod.snd <+: Lall -> YieldAt Fence.wide n Tryz.prog l (encX x) W2 fun e W' =>
  (e = .returned (.bool true) /\ J T' (pre ++ [x]) W' /\ Kp (fun k => ¬ gH Z T' k) W2 W') \/ (e = .returned (.bool false) /\ Jx T' (pre ++ [x]) W' /\ Kp (fun k => ¬ gH Z T' k) W2 W')) (hJ : J (fun _ => False) [] W) :
 Calls Tryz.prog 83 #[.pointer (some ⟨mb, 0, none⟩), .func (.yield l) #[] #[]] W (aGa J Jx Lall) := by
 have hm := hmat W hW
 have c0 := hm.c0
 have c1 := hm.c1
 have hfew := hm.few
 obtain ⟨nv, env⟩ : ∃ x, M.N.length = x := ⟨_, rfl⟩
 obtain ⟨nT, enT⟩ : ∃ x, M.Ts.length = x := ⟨_, rfl⟩
 rw [env] at c0 hfew
 rw [enT] at c1 hfew
 have hnv := hfew.1
 have hnT := hfew.2.1
 clear hfew
 have HP := qH hm.ptrs
 have HT := qH hm.tries
 clear hm
 obtain ⟨w1, e1⟩ : ∃ x, W.alloc (.cells (List.replicate (nv * 1) (.string ⟨#[]⟩)).toArray 9) = x := ⟨_, rfl⟩
 obtain ⟨rb, erb⟩ : ∃ x, W.heap.size = x := ⟨_, rfl⟩
 have hmk := jF (P := Tryz.prog) dG (c := .string ⟨#[]⟩) rfl nv (by omega) (by unfold maxLen; omega) W
 rw [e1, erb] at hmk
 have hx1 : Ext W w1 := by rw [<- e1]; exact (Kp.refl W).alloc _
 have hB1 : Blk w1 rb (strs (List.replicate nv ⟨#[]⟩)) 9 := by
  have h1 := Blk.new W (List.replicate (nv * 1) (.string ⟨#[]⟩)) 9
  have h2 : List.replicate (nv * 1) (Value.string ⟨#[]⟩) = strs (List.replicate nv ⟨#[]⟩) := by unfold strs; rw [List.map_replicate, Nat.mul_one]
  rw [<- e1, <- erb, <- h2]; exact h1
 obtain ⟨w2, e2⟩ : ∃ x, w1.alloc (.cells #[.pointer (some ⟨mb, 0, none⟩), .slice none 0 0, .slice (some ⟨rb, 0, none⟩) nv nv, .func (.yield l) #[] #[]] 186) = x := ⟨_, rfl⟩
 obtain ⟨wb, ewb⟩ : ∃ x, w1.heap.size = x := ⟨_, rfl⟩
 have hx2 : Ext w1 w2 := by rw [<- e2]; exact (Kp.refl w1).alloc _
 have hB2 : Blk w2 wb [.pointer (some ⟨mb, 0, none⟩), .slice none 0 0, .slice (some ⟨rb, 0, none⟩) nv nv, .func (.yield l) #[] #[]] 186 := by rw [<- e2, <- ewb]; exact Blk.new w1 _ _
 have hA := qH (show AllAt M W wb mb rb (.func (.yield l) #[] #[]) 0 (.slice none 0 0) (fun _ => 0) w2 from ⟨by rw [env]; exact hB2, by rw [env]; exact hB1.ext hx2, Row.nil _ _ _ _, fun j t hj => by omega, fun i j hi => by omega, hx1.trans hx2⟩)
 have c0' := hx1.cell c0 id
 have c1' := (hx1.trans hx2).cell c1 id
 have hlo : W.heap.size ≤ wb := by rw [<- ewb]; exact hx1.size
 have HLo := qH hlo
 clear hB1 hB2 hlo
 go_enter Tryz.func83, Tryz.ntmps83
 go_wp2
 clear e1 e2 ewb hmk
 go_loopw [22] (fun iv wr => AllR M W wb mb rb (.func (.yield l) #[] #[]) iv wr) (fun iv _ => nT - (intOf iv).toNat)
 case atStart => exact ⟨0, _, _, Nat.zero_le _, rfl, hA⟩
 case round =>
  obtain ⟨m, cv, cb, hm, rfl, hA2⟩ := hrel
  rw [enT] at hm
  obtain ⟨ca, cc, ecv, hcc, hccap⟩ := hA2.out.curs.shape
  subst ecv
  by_cases hlt : m < nT
  ·obtain ⟨t, ht⟩ : ∃ t, M.Ts[m]? = some t := ⟨_, qG (by rw [enT]; exact hlt)⟩
   obtain ⟨tb0, to0, eta, t0⟩ := (HP.out.ext hA2.out.kp) m (lJ t) (by rw [List.getElem?_map, ht]; rfl)
   rw [eta]
   unfold lJ at t0
   have HWk := qH (fun W' (hW' : Ext wr W') => aIq (((HT.out t (List.mem_of_getElem? ht)).ext hA2.out.kp).ext hW'))
   have HJ := qH (show ∀ w', Ext wr w' -> (fun w' : World => w'.cell? ⟨wb, 1, none⟩ = some (.slice ca m cc)) w' from fun w' hw' => by
    show w'.cell? ⟨wb, 1, none⟩ = some (.slice ca m cc)
    rw [(hA2.out.box.ext hw').cell']; rfl)
   have HTt := qH ht
   have HNo := qH (show (Value.slice ca m cc).ownBlock ≠ some wb from fun h => by
    obtain ⟨cs, hb⟩ := aT hA2.out.curs h
    exact aFp.2.2.2.2.2.2.2.2 (aU hA2.out.box hb))
   have b1 := HJ.out wr (Kp.refl _)
   clear ht hcc eta
   go_wp2
   refine bB (fun w' : World => w'.cell? ⟨wb, 1, none⟩ = some (.slice ca m cc)) [8, 9, 10, 11] (by kernel_rfl) (HJ.out _ (Kp.refl wr).drew) (fun hHeld => ?_)
   refine dF 0 ?_; try simp only [Act.put,sI,sZ,sS]
   refine dF 1 ?_; try simp only [Act.put,sI,sZ,sS]
   refine dF 2 ?_; try simp only [Act.put,sI,sZ,sS]
   refine dF 3 ?_; try simp only [Act.put,sI,sZ,sS]
   refine dI 4 ?_; try simp only [Act.put,sI,sZ,sS]
   refine dF 5 ?_; try simp only [Act.put,sI,sZ,sS]
   refine aF (i := 6) ?_
   refine aI (i := 6) rfl (fun K hK => ?_)
   go_simp
   (refine (HWk.out _ (Kp.refl wr).drew).mono ?_; rintro e w3 ⟨v3, rfl, hk3, cb3, rfl, hn3, hcur3⟩; have X1 := qH (And.intro (show Ext wr w3 from ((Kp.refl wr).drew).trans hk3) (And.intro (show wr.heap.size ≤ cb3 from hn3) hcur3)); clear hk3 hn3 hcur3)
   go_wp2_with fail
   refine hK.out _ _ ?_ (fun hHeld => ?_)
   ·(try dsimp only); (exact HJ.out _ X1.out.1)
   clear hK K; (try simp only [Act.put,sI,sZ,sS])
   refine aF (i := 7) ?_
   refine aI (i := 7) rfl (fun K hK => ?_)
   go_simp
   refine hK.out _ _ ?_ (fun hHeld => ?_)
   ·(try dsimp only); (exact HJ.out _ (X1.out.1.alloc _))
   clear hK K; (try simp only [Act.put,sI,sZ,sS])
   refine aF (i := 8) ?_
   refine aK (i := 8) rfl (by kernel_rfl) (fun K hK => ?_)
   refine iM (m := 1) (n := m) yX rfl _ _ rfl rfl ((hA2.out.curs.ext X1.out.1).alloc _) rfl (CellsAt.one w3 _ _) (by rfl) (by simp; rfl) (by omega) (by unfold maxLen; omega) ?_; intro v4 w4 hr4 hk4; obtain ⟨la4, lcap4, elv4, _, _⟩ := hr4.shape; subst elv4; have HB4 := qH (show Blk w4 wb [.pointer (some ⟨mb, 0, none⟩), .slice ca m cc, .slice (some ⟨rb, 0, none⟩) M.N.length M.N.length, .func (.yield l) #[] #[]] 186 from ((hA2.out.box.ext X1.out.1).alloc _).kp hk4 (fun h2 => HNo.out h2)); have X2 := qH (And.intro hr4 hk4); have y1 : w4.cell? ⟨wb, 1, none⟩ = some (.slice ca m cc) := (by rw [HB4.out.cell']; rfl); have yf := HB4.out.free 1; clear hr4 hk4
   refine hK.out _ _ ?_
   clear hK K; (try simp only [Act.put,sI,sZ,sS])
   refine aF (i := 9) ?_
   refine aK (i := 9) rfl (by kernel_rfl) (fun K hK => ?_)
   go_simp
   refine hK.out _ _ ?_
   clear hK K; (try simp only [Act.put,sI,sZ,sS])
   refine aF (i := 10) ?_
   refine aK (i := 10) rfl (by kernel_rfl) (fun K hK => ?_)
   go_simp
   refine hK.out _ _ ?_
   clear hK K; (try simp only [Act.put,sI,sZ,sS])
   refine aF (i := 11) ?_
   refine aK (i := 11) rfl (by kernel_rfl) (fun K hK => ?_)
   go_simp
   refine hK.out _ _ ?_
   clear hK K; (try simp only [Act.put,sI,sZ,sS])
   refine aL (by kernel_rfl) ?_ _
   clear hHeld
   have HP2 := qH (AllAt.push hA2.out HLo.out HTt.out X1.out.1 X1.out.2.1 X1.out.2.2 X2.out.1 X2.out.2)
   obtain ⟨w5, e5⟩ : ∃ x, w4.setCell ⟨wb, 1, none⟩ (.slice la4 (m + 1) lcap4) = x := ⟨_, rfl⟩
   rw [e5] at HP2 ⊢
   clear e5 y1 yf
   go_wp2
   go_roundw
   case rel => exact ⟨m + 1, _, _, by rw [enT]; omega, by first | rfl | (congr 1; done) | (congr 1; omega), HP2⟩
   case measure => simp [intOf]; omega
  ·obtain rfl : m = nT := by omega
   have hA3 := hA2.out
   rw [<- enT] at hA3
   obtain ⟨hwalk, hnew⟩ := hA3.walk HLo.out (by rw [erb]; exact Nat.le_refl _)
   obtain ⟨C, eC⟩ : ∃ C : WCtx, C = ⟨Z, W.heap.size, M, A, wb, mb, rb, .func (.yield l) #[] #[], .slice ca M.Ts.length cc, cb, J, Jx, Lall, w0⟩ := ⟨_, rfl⟩
   have hCok : C.Ok := by subst eC; exact ⟨hZ, hmat, hM⟩
   have hCY : C.Yields l n := by subst eC; exact ⟨rfl, hY⟩
   have hAt : C.At (fun _ => .slice none 0 0) (List.replicate M.N.length ⟨#[]⟩) (fun _ => []) wr := by subst eC; exact ⟨hwalk, hnew, hW.trans' hA2.out.kp fun i _ hi => hi.elim⟩
   have hFr := aCk hCok hCY M.N.length 0 (by subst eC; exact Nat.zero_add _) [] (fun _ => False) (fun _ => .slice none 0 0) _ (fun _ => []) [] Lall wr rfl hAt (by rw [List.take_zero]) (fun j t ht => by
    rw [aIb]; exact PathOk.nil) (fun k hk => by omega) (by subst eC; exact hL) ⟨[], by subst eC; simp⟩ ⟨fun _ => False, W, by subst eC; exact hJ, hA2.out.kp, fun k hk => by
     rcases hk with hk | hk
     ·refine .inr ?_
      have := hAt.new k hk
      subst eC; exact this
     ·exact hk.elim⟩ ⟨fun k hk => hk.elim, fun k _ hk => hk, fun k hk => hk.elim⟩
   have HFr := qH (show Calls Tryz.prog 123 #[.pointer (some ⟨wb, 0, none⟩), .int .i64 0] wr (aGa J Jx Lall) from by
    have e1 : C.wb = wb := by subst eC; rfl
    rw [e1] at hFr
    refine hFr.mono ?_
    rintro e w' ⟨b, ov', R', rfl, hk, -, -, -, hE⟩
    refine ⟨⟨_, rfl⟩, ?_⟩
    subst eC
    rcases hE with ⟨-, xs, h1, T, W1, h2, h3, -⟩ | ⟨-, pre', h1, T, W1, h2, h3, -⟩
    ·exact ⟨T, W1, h3, .inl ⟨xs, h1, h2⟩⟩
    ·exact ⟨T, W1, h3, .inr ⟨pre', h1, h2⟩⟩)
   clear hA3 hwalk hnew hFr hAt hCY hCok eC C hm hlt hcc
   go_wp2_with fail
   refine HFr.out.mono ?_
   rintro e w9 ⟨⟨v9, rfl⟩, h9⟩
   have H9 := qH h9
   clear h9
   go_wp2
   go_end0
   exact ⟨⟨_, rfl⟩, H9.out⟩
end Go.Proofs.YtinnmeiphbdogaaGreat
/- join: Over: the bindings of a rule, one by one. -/
namespace Go.Proofs.YtinnmeiphbdogaaGreat
open Go.RowKit Go.Shelf
attribute [local go_sem] Oper.semAt_some
def kE (r : cO) (R : Nat -> aD) (L : aD) : Prop := (bO r = 0 -> IsBinds r.2.1 R L) /\ (bO r ≠ 0 -> L = [])
theorem aAd (tb : Nat) (w : World) : (binOp .neq 123 (.pointer (some ⟨tb, 0, none⟩)) (.pointer none)).run Tryz.prog w = .ok (.bool true) w := by kernel_rfl
theorem aAe (w : World) : (binOp .neq 123 (.pointer none) (.pointer none)).run Tryz.prog w = .ok (.bool false) w := by kernel_rfl
set_option maxRecDepth 100000 in
set_option maxHeartbeats 2000000 in
theorem aGw {w0 w1 w : World} {r : cO} {Es : Nat -> List Ent} {v : Value} {xb : Nat} {L : aD} (hM : aFi w0 w1 r Es v) (hx : Ext w1 w) (hB : Blk w xb [v] 123) (hxb : w0.heap.size ≤ xb) (hL : kE r (bF Es r.2.1) L) (n : Nat) :
 wT Fence.wide n Tryz.prog 82 #[.pointer (some ⟨xb, 0, none⟩)] encX (fun k => w0.heap.size ≤ k /\ k < w.heap.size) GvRow (fun xs => xs.map Prod.snd = L) (fun pre => pre.map Prod.snd <+: L) w := by
 intro l J Jx W hW hY hJ
 refine callsIn_wide.2 ?_
 have hxl := hB.lt
 have c0 : W.cell? ⟨xb, 0, none⟩ = some v := hW.cell (by rw [hB.cell']; rfl) fun h => h ⟨hxb, hxl⟩
 rcases hM with ⟨rfl, hno⟩ | ⟨mb, Ts, tests, A, rfl, hc, hIs, hF⟩
 ·have hL0 : L = [] := by
   by_cases hc : bO r = 0
   ·rcases hno with hno | hno
    ·exact absurd hc hno
    ·cases L with
     | nil => rfl
     | cons V L => exact absurd (((hL.1 hc).iff V).1 (List.mem_cons_self ..)) (hno V)
   ·exact hL.2 hc
  have HE := qH (And.intro hL0 hJ)
  have hmn := aAe W
  clear hno hL hL0 hJ hY hW hB
  go_enter Tryz.func82, Tryz.ntmps82
  go_wp2
  go_end0
  exact ⟨⟨_, rfl⟩, fun _ => False, W, Kp.refl _, .inl ⟨[], by rw [HE.out.1]; rfl, HE.out.2⟩⟩
 ·have hok := aEi hc hIs
  have hsol : AllB (mG ⟨aB r.2.1, Ts, tests⟩) [] L := by
   have e : mG ⟨aB r.2.1, Ts, tests⟩ = bZ r.2.1 (bF Es r.2.1) := funext fun V => propext (hok.2 V)
   rw [e]; exact hL.1 hc
  have HA := qH (aLh (Z := fun k => w0.heap.size ≤ k /\ k < w.heap.size) (w0 := w) (W := W) (n := n - 1) (A := A) (fun k hk => Nat.lt_of_lt_of_le hk.2 hW.size) hW (fun W' hW' => hF W' ((Ext.kp hx).trans' hW' (F := fun k => ¬ (w0.heap.size ≤ k /\ k < w1.heap.size)) fun i hi h => fun h2 => h ⟨h2.1, Nat.lt_of_lt_of_le h2.2 hx.size⟩)) hok.1 hsol hY hJ)
  have hms := aAd mb W
  clear hok hsol hL hJ hY hW hB hF hIs
  go_enter Tryz.func82, Tryz.ntmps82
  go_wp2_with fail
  refine HA.out.mono ?_
  rintro e w9 ⟨⟨v9, rfl⟩, h9⟩
  have H9 := qH h9
  clear h9
  go_wp2
  go_end0
  exact ⟨⟨_, rfl⟩, H9.out⟩
def aKu (w0 w : World) (L : aD) (v : Value) : Prop := ∃ xb lo, w0.heap.size ≤ lo /\ v = .func (.func 82) #[] #[.pointer (some ⟨xb, 0, none⟩)] /\
 ∀ n, wT Fence.wide n Tryz.prog 82 #[.pointer (some ⟨xb, 0, none⟩)] encX (fun k => lo ≤ k /\ k < w.heap.size) GvRow (fun xs => xs.map Prod.snd = L) (fun pre => pre.map Prod.snd <+: L) w
set_option maxRecDepth 100000 in
set_option maxHeartbeats 2000000 in
theorem aBr {w : World} {p : ByteArray} {hs : List aH} {ls : List aO} {ha ba bsa : Option Addr} {hn hcap n bcap nb bsc : Nat} {G : Nat -> Prop} {bvs : List Value} {Es : Nat -> List Ent} {L : aD} (hhn : hn = hs.length) (hh : bE w G ha hs) (hhl : hn ≤ 1048576) (hbn : n = ls.length) (h : dN w G ba ls) (hf : Fit ls) (hnv : (aB ls).length ≤ 1048576) (hn16 : n ≤ 1048576)
 (hnb : nb = bvs.length) (hbs : CellsAt w bsa bvs) (hB : ∀ j, ∃ S, BaseV S w (bvs.getD j (.pointer none)) (Es j)) (hL : kE ((p, hs, ()), ls, ()) (bF Es ls) L) :
 Calls Tryz.prog 39 #[eS p ha hn hcap ba n bcap, .slice bsa nb bsc] w (RetN w fun w' v => aKu w w' L v) := by
 have HMt := qH (fun W (hW : Ext w W) => aHa (w := W) (p := p) (hs := hs) (ls := ls) (ha := ha) (ba := ba) (bsa := bsa) (hn := hn) (hcap := hcap) (n := n) (bcap := bcap) (nb := nb) (bsc := bsc) (G := G) (bvs := bvs) (Es := Es) hhn (hh.ext hW) hhl hbn (h.ext hW) hf hnv hn16 hnb (hbs.ext hW) (fun j => by
  obtain ⟨S, hb⟩ := hB j
  exact ⟨S, hb.ext hW⟩))
 have HL := qH hL
 obtain ⟨gb, egb⟩ : ∃ g, w.heap.size = g := ⟨_, rfl⟩
 obtain ⟨w1, e1⟩ : ∃ x, w.alloc (.cells #[.string p, .slice ha hn hcap, .slice ba n bcap] 27) = x := ⟨_, rfl⟩
 have x1 : Ext w w1 := by rw [<- e1]; exact (Kp.refl w).alloc _
 have hB1 : Blk w1 gb [.string p, .slice ha hn hcap, .slice ba n bcap] 27 := by rw [<- e1, <- egb]; exact Blk.new w _ _
 have H1 := qH x1
 have r0 : w1.cell? ⟨gb, 0, none⟩ = some (.string p) := by rw [hB1.cell']; rfl
 have r1 : w1.cell? ⟨gb, 1, none⟩ = some (.slice ha hn hcap) := by rw [hB1.cell']; rfl
 have r2 : w1.cell? ⟨gb, 2, none⟩ = some (.slice ba n bcap) := by rw [hB1.cell']; rfl
 clear hhn hh hbn h hf hnb hbs hB hL x1 hB1
 go_enter Tryz.func39, Tryz.ntmps39
 go_wp2_with fail
 clear e1 egb
 refine (HMt.out w1 H1.out).mono ?_
 rintro e w2 ⟨v2, rfl, hk2, hM⟩
 obtain ⟨o, rfl⟩ : ∃ o, v2 = .pointer o := by
  rcases hM with ⟨e, _⟩ | ⟨mb, _, _, _, e, _⟩
  ·exact ⟨_, e⟩
  ·exact ⟨_, e⟩
 have HM := qH (And.intro hk2 hM)
 clear hk2 hM r0 r1 r2
 go_wp2
 go_ret
 have hx3 : Ext w2 (w2.alloc (.cells #[.pointer o] 123)) := (Kp.refl w2).alloc _
 exact RetN.mk (H1.out.trans (HM.out.1.trans hx3)) ⟨w2.heap.size, w1.heap.size, H1.out.size, rfl, fun n => aGw HM.out.2 hx3 (Blk.new w2 [.pointer o] 123) HM.out.1.size HL.out n⟩
end Go.Proofs.YtinnmeiphbdogaaGreat
/- join: Each: the bindings of a rule over one base. -/
namespace Go.Proofs.YtinnmeiphbdogaaGreat
open Go.RowKit Go.Shelf
attribute [local go_sem] Oper.semAt_some
theorem lD : dU Tryz.prog 64 29 1 8 (.pointer none) := ⟨by kernel_rfl, by kernel_rfl, rfl, by decide⟩
theorem aK4 (n : Nat) (hn : n ≤ 1048576) (w : World) : Calls Tryz.prog 131 #[.int .u64 (1 : Nat), .int .u64 (n : Nat)] w fun e w' => e = .returned (.tuple #[.int .u64 0, .int .u64 (n : Nat)]) /\ w' = w := by
 refine (Tryz.bits_Mul 1 n (by omega) (by omega) w).mono ?_
 rintro e w' ⟨rfl, rfl⟩
 have h1 : 1 * n / 18446744073709551616 = 0 := Nat.div_eq_of_lt (by omega)
 have h2 : 1 * n % 18446744073709551616 = n := by rw [Nat.one_mul]; exact Nat.mod_eq_of_lt (by omega)
 rw [h1, h2]
 exact ⟨rfl, rfl⟩
def aKk (w0 : World) (g n : Nat) (bv : Value) (kv : Value) (W : World) : Prop := ∃ k : Nat, k ≤ n /\ (n = 0 \/ 0 < k) /\ kv = .int .i64 k /\ Hid (Ext w0 W) /\ Hid (Blk W g (List.replicate k bv ++ List.replicate (n - k) (.pointer none)) 29)
set_option maxRecDepth 100000 in
set_option maxHeartbeats 2000000 in
theorem aDs {w : World} {o : Option Addr} {xa : Option Addr} {xc n : Nat} (hx : CellsAt w xa [.pointer o]) (hn : n ≤ 1048576) :
 Calls Tryz.prog 92 #[.slice xa 1 xc, .int .i64 n] w (RetN w fun w' v => ∃ ao cap, v = .slice ao n cap /\ CellsAt w' ao (List.replicate n (.pointer o))) := by
 have HX := qH hx
 have hm := aK4 n hn w
 have HMu := qH hm
 have hmk := jF (P := Tryz.prog) lD (c := .pointer none) rfl n (by omega) (by unfold maxLen; omega) w
 rw [Nat.mul_one] at hmk
 obtain ⟨g, eg⟩ : ∃ x, w.heap.size = x := ⟨_, rfl⟩
 obtain ⟨w1, e1⟩ : ∃ x, w.alloc (.cells (Array.replicate n (.pointer none)) 29) = x := ⟨_, rfl⟩
 have hB1 : Blk w1 g (List.replicate n (.pointer none)) 29 := by
  have h := Blk.new w (List.replicate n (.pointer none)) 29
  rw [List.toArray_replicate, e1, eg] at h
  exact h
 have x1 : Ext w w1 := by rw [<- e1]; exact (Kp.refl w).alloc _
 obtain ⟨w2, hrun, hk2, hB2⟩ := oK (P := Tryz.prog) lD hB1 (off := 0) (dp := some ⟨g, 0, none⟩) (dLen := n) (dCap := n) (sp := xa) (sLen := 1) (sCap := xc) (cs := List.replicate (Nat.min 1 n) (.pointer o)) (by simp) (fun _ => rfl) (fun j u hu => by
  have hj := (List.getElem?_eq_some_iff.1 hu).1
  rw [List.length_replicate] at hj
  have hj1 : j < 1 := Nat.lt_of_lt_of_le hj (Nat.min_le_left _ _)
  rw [List.getElem?_replicate, if_pos hj] at hu
  obtain rfl : j = 0 := by omega
  exact (hx.ext x1) 0 u (by cases hu; rfl)) (by simp [List.length_replicate]; exact Nat.min_le_right _ _) (fun u hu => by rw [List.eq_of_mem_replicate hu]; rfl)
 have n0 : ¬ (n : Int) < 0 := by omega
 have n1 : ¬ (9223372036854775807 : Int) < (n : Int) := by omega
 have hlen : (List.replicate (Nat.min 1 n) (Value.pointer o)).length = Nat.min 1 n := List.length_replicate
 obtain ⟨k0, ek0⟩ : ∃ k, Nat.min 1 n = k := ⟨_, rfl⟩
 rw [ek0] at hrun hB2 hlen
 rw [hlen] at hrun
 have hk0 : k0 ≤ n /\ (n = 0 \/ 0 < k0) /\ (n = 0 -> k0 = 0) /\ (0 < n -> k0 = 1) := by rw [<- ek0]; simp only [Nat.min_def]; split <;> omega
 have hB2' : Blk w2 g (List.replicate k0 (.pointer o) ++ List.replicate (n - k0) (.pointer none)) 29 := by
  have e : splice (List.replicate n (Value.pointer none)) 0 (List.replicate k0 (Value.pointer o)) = List.replicate k0 (.pointer o) ++ List.replicate (n - k0) (.pointer none) := by
   unfold splice
   simp
  rw [e] at hB2; exact hB2
 have HP := qH (show aKk w g n (.pointer o) (.int .i64 k0) w2 from ⟨k0, hk0.1, hk0.2.1, rfl, qH (x1.trans' hk2 fun i hi e => by have e' : i = g := e; omega), qH hB2'⟩)
 have hg : goInt (k0 : Nat) = .int .i64 (k0 : Nat) := rfl
 rw [hg] at hrun
 have HEG := qH eg
 clear hx hB1 x1 hk2 hB2 hB2' hm hlen ek0 hk0 hg
 go_enter Tryz.func92, Tryz.ntmps92
 go_wp2_with fail
 refine HMu.out.mono ?_
 rintro e w' ⟨rfl, rfl⟩
 go_wp2
 go_loopw [8] (fun kv wk => aKk w' g n (.pointer o) kv wk) (fun kv _ => n - (intOf kv).toNat)
 case atStart => exact HP.out
 case round =>
  clear HP hrun
  obtain ⟨k, hk, hk0, rfl, hex, hb⟩ := hrel
  by_cases hlt : k < n
  ·have hkp : 0 < k := by omega
   obtain ⟨j, ej⟩ : ∃ j, Nat.min k (n - k) = j := ⟨_, rfl⟩
   have hj1 : j ≤ k := by rw [<- ej]; exact Nat.min_le_left _ _
   have hj2 : j ≤ n - k := by rw [<- ej]; exact Nat.min_le_right _ _
   have hj3 : 0 < j := by rw [<- ej]; simp only [Nat.min_def]; split <;> omega
   obtain ⟨W2, hrun2, hk3, hB3⟩ := oK (P := Tryz.prog) lD (hb.out.drew) (off := k) (dp := some ⟨g, k, none⟩) (dLen := n - k) (dCap := n - k) (sp := some ⟨g, 0, none⟩) (sLen := k) (sCap := n) (cs := List.replicate j (.pointer o)) (by rw [List.length_replicate, ej]) (fun _ => rfl) (fun i u hu => by
    have hi := (List.getElem?_eq_some_iff.1 hu).1
    rw [List.length_replicate] at hi
    rw [List.getElem?_replicate, if_pos hi] at hu
    refine ⟨g, 0, rfl, ?_⟩
    rw [hb.out.drew.cell', Nat.zero_add, List.getElem?_append_left (by rw [List.length_replicate]; omega), List.getElem?_replicate, if_pos (by omega)]
    exact hu) (by simp; omega) (fun u hu => by rw [List.eq_of_mem_replicate hu]; rfl)
   rw [List.length_replicate] at hrun2
   have hg : goInt (j : Nat) = .int .i64 (j : Nat) := rfl
   rw [hg] at hrun2
   have HNX := qH (show aKk w' g n (.pointer o) (.int .i64 ((k : Int) + (j : Int))) W2 from by
    refine ⟨k + j, by omega, .inr (by omega), by congr 1, qH (hex.out.trans' ((Ext.kp (Kp.refl wr).drew).trans hk3) fun i hi e => ?_), qH ?_⟩
    ·have e' : i = g := e
     have := HEG.out
     omega
    ·have e : splice (List.replicate k (.pointer o) ++ List.replicate (n - k) (Value.pointer none)) k (List.replicate j (.pointer o)) = List.replicate (k + j) (.pointer o) ++ List.replicate (n - (k + j)) (.pointer none) := by
      unfold splice
      rw [List.take_append_of_le_length (by simp), List.take_of_length_le (by simp), List.length_replicate, List.drop_append, List.drop_of_length_le (by simp), List.length_replicate, List.drop_replicate, List.nil_append, <- List.append_assoc, List.replicate_append_replicate]
      congr 2
      omega
     rw [e] at hB3
     exact hB3)
   have k1 : (k : Int) < (n : Int) := by omega
   have k2 : (k : Int) ≤ (n : Int) := by omega
   have k3 : ¬ n = k := by omega
   have rk : (n : Int) - k = ((n - k : Nat) : Int) := by omega
   have HJ := qH (And.intro hj1 (And.intro hj2 hj3))
   clear hex hb hk3 hB3 hg hk0 hk ej
   go_wp2
   refine bB (fun _ : World => True) [] (by kernel_rfl) trivial (fun hHeld => ?_)
   refine dF 0 ?_; try simp only [Act.put,sI,sZ,sS]
   refine dF 1 ?_; try simp only [Act.put,sI,sZ,sS]
   refine dF 2 ?_; try simp only [Act.put,sI,sZ,sS]
   refine dI 3 ?_; try simp only [Act.put,sI,sZ,sS]
   refine dF 4 ?_; try simp only [Act.put,sI,sZ,sS]
   refine dF 5 ?_; try simp only [Act.put,sI,sZ,sS]
   refine dI 6 ?_; try simp only [Act.put,sI,sZ,sS]
   refine aF (i := 7) ?_
   refine aI (i := 7) rfl (fun K hK => ?_)
   go_simp
   refine hK.out _ _ ?_ (fun hHeld => ?_)
   ·(try dsimp only); (first | done | trivial)
   clear hK K; (try simp only [Act.put,sI,sZ,sS])
   refine dF 8 ?_; try simp only [Act.put,sI,sZ,sS]
   refine dF 9 ?_; try simp only [Act.put,sI,sZ,sS]
   refine aL (by kernel_rfl) ?_ _
   clear hHeld
   have hw : IntKind.i64.wrap ((k : Int) + (j : Int)) = (k : Int) + (j : Int) := IntWalk.i64_in _ (by have := HJ.out; omega)
   go_wp2
   try rw [hw]
   go_roundw
   case rel => exact HNX.out
   case measure => have := HJ.out; simp [intOf]; omega
  ·obtain rfl : n = k := by omega
   have hB2 := hb.out
   rw [Nat.sub_self, List.replicate_zero, List.append_nil] at hB2
   have HR := qH (show Ext w' wr /\ CellsAt wr (some ⟨g, 0, none⟩) (List.replicate n (.pointer o)) from ⟨hex.out, CellsAt.pre (rest := []) (by rw [List.append_nil]; exact hB2)⟩)
   clear hex hb hB2 hk0 hk hlt
   go_wp2
   go_ret
   exact RetN.mk HR.out.1 ⟨_, _, rfl, HR.out.2⟩
def zW (ls : List aO) (E : List Ent) (j : Nat) : List Ent := if j < ls.length then E else []
set_option maxRecDepth 100000 in
set_option maxHeartbeats 2000000 in
theorem aJ6 {S : Nat -> Prop} {w : World} {p : ByteArray} {hs : List aH} {ls : List aO} {ha ba : Option Addr} {hn hcap n bcap : Nat} {G : Nat -> Prop} {o : Option Addr} {E : List Ent} {L : aD} (hhn : hn = hs.length) (hh : bE w G ha hs) (hhl : hn ≤ 1048576) (hbn : n = ls.length) (h : dN w G ba ls) (hf : Fit ls) (hnv : (aB ls).length ≤ 1048576) (hn16 : n ≤ 1048576)
 (hB : BaseV S w (.pointer o) E) (hL : kE ((p, hs, ()), ls, ()) (bF (zW ls E) ls) L) :
 Calls Tryz.prog 46 #[eS p ha hn hcap ba n bcap, .pointer o] w (RetN w fun w' v => aKu w w' L v) := by
 have HOv := qH (fun W (hW : Ext w W) (bsa : Option Addr) (bsc : Nat) (hbs : CellsAt W bsa (List.replicate n (.pointer o))) => aBr (w := W) (p := p) (hs := hs) (ls := ls) (ha := ha) (ba := ba) (bsa := bsa) (hn := hn) (hcap := hcap) (n := n) (bcap := bcap) (nb := n) (bsc := bsc) (G := G) (bvs := List.replicate n (.pointer o)) (Es := zW ls E) (L := L) hhn (hh.ext hW) hhl hbn (h.ext hW) hf hnv hn16 (by rw [List.length_replicate]) hbs (fun j => by
  unfold zW
  by_cases hj : j < n
  ·rw [List.getD_eq_getElem?_getD, List.getElem?_replicate, if_pos hj, if_pos (by omega)]
   exact ⟨S, hB.ext hW⟩
  ·rw [List.getD_eq_getElem?_getD, List.getElem?_replicate, if_neg hj, if_neg (by omega)]
   exact ⟨fun _ => False, BaseV.nil⟩) hL)
 have HN := qH hn16
 obtain ⟨gb, egb⟩ : ∃ g, w.heap.size = g := ⟨_, rfl⟩
 obtain ⟨w1, e1⟩ : ∃ x, w.alloc (.cells #[.string p, .slice ha hn hcap, .slice ba n bcap] 27) = x := ⟨_, rfl⟩
 have x1 : Ext w w1 := by rw [<- e1]; exact (Kp.refl w).alloc _
 have hB1 : Blk w1 gb [.string p, .slice ha hn hcap, .slice ba n bcap] 27 := by rw [<- e1, <- egb]; exact Blk.new w _ _
 have H1 := qH x1
 have HJ := qH (show ∀ w', Ext w1 w' -> (fun w' : World => w'.cell? ⟨gb, 0, none⟩ = some (.string p) /\ w'.cell? ⟨gb, 1, none⟩ = some (.slice ha hn hcap) /\ w'.cell? ⟨gb, 2, none⟩ = some (.slice ba n bcap)) w' from fun w' hw' => ⟨by rw [(hB1.ext hw').cell']; rfl, by rw [(hB1.ext hw').cell']; rfl, by rw [(hB1.ext hw').cell']; rfl⟩)
 clear hhn hh hhl hbn h hf hnv hB hL x1 hB1
 go_enter Tryz.func46, Tryz.ntmps46
 go_wp2
 clear e1 egb
 refine bB (fun w' : World => w'.cell? ⟨gb, 0, none⟩ = some (.string p) /\ w'.cell? ⟨gb, 1, none⟩ = some (.slice ha hn hcap) /\ w'.cell? ⟨gb, 2, none⟩ = some (.slice ba n bcap)) [7, 8] (by kernel_rfl) (HJ.out _ (Kp.refl w1).drew) (fun hHeld => ?_)
 refine dI 0 ?_; try simp only [Act.put,sI,sZ,sS]
 refine dF 1 ?_; try simp only [Act.put,sI,sZ,sS]
 refine dF 3 ?_; try simp only [Act.put,sI,sZ,sS]
 refine dI 4 ?_; try simp only [Act.put,sI,sZ,sS]
 refine dI 5 ?_; try simp only [Act.put,sI,sZ,sS]
 refine aF (i := 2) ?_
 refine aI (i := 2) rfl (fun K hK => ?_)
 go_simp
 refine hK.out _ _ ?_ (fun hHeld => ?_)
 ·(try dsimp only); (exact HJ.out _ (((Kp.refl w1).drew).alloc _))
 clear hK K; (try simp only [Act.put,sI,sZ,sS])
 refine aF (i := 6) ?_
 refine aI (i := 6) rfl (fun K hK => ?_)
 go_simp
 (refine (aDs (o := o) (CellsAt.one w1.drew (.pointer o) 29) HN.out).mono ?_; rintro e w4 ⟨v4, rfl, hk4, ao, cap, rfl, hcs⟩; have X1 := qH (And.intro (show Ext w1 w4 from (((Kp.refl w1).drew).alloc _).trans hk4) hcs); clear hk4 hcs)
 go_wp2_with fail
 refine hK.out _ _ ?_ (fun hHeld => ?_)
 ·(try dsimp only); (exact HJ.out _ X1.out.1)
 clear hK K; (try simp only [Act.put,sI,sZ,sS])
 refine aF (i := 7) ?_
 refine aK (i := 7) rfl (by kernel_rfl) (fun K hK => ?_)
 go_simp
 (refine (HOv.out w4 (H1.out.trans X1.out.1) ao cap X1.out.2).mono ?_; rintro e w5 ⟨v5, rfl, hk5, hbd⟩; have X2 := qH (And.intro hk5 hbd); clear hk5 hbd)
 go_wp2_with fail
 refine hK.out _ _ ?_
 clear hK K; (try simp only [Act.put,sI,sZ,sS])
 refine aF (i := 8) ?_
 refine aK (i := 8) rfl (by kernel_rfl) (fun K hK => ?_)
 go_simp
 refine hK.out _ _ ?_
 clear hK K; (try simp only [Act.put,sI,sZ,sS])
 refine aL (by kernel_rfl) ?_ _
 clear hHeld
 go_wp2
 go_ret
 have hx4 : Ext w w4 := H1.out.trans X1.out.1
 obtain ⟨xb, lo, hlo, ev, hseq⟩ := X2.out.2
 exact RetN.mk (hx4.trans X2.out.1) ⟨xb, lo, Nat.le_trans hx4.size hlo, ev, hseq⟩
end Go.Proofs.YtinnmeiphbdogaaGreat
/- A rule's head with a binding: plain. -/
namespace Go.Proofs.YtinnmeiphbdogaaGreat
end Go.Proofs.YtinnmeiphbdogaaGreat
/- join: Head: a rule's head with a binding. -/
namespace Go.Proofs.YtinnmeiphbdogaaGreat
open Go.RowKit Go.Shelf
attribute [local go_sem] Oper.semAt_some
end Go.Proofs.YtinnmeiphbdogaaGreat
/- join: Facts: does a head ask for a sum? -/
namespace Go.Proofs.YtinnmeiphbdogaaGreat
open Go.RowKit Go.Shelf
attribute [local go_sem] Oper.semAt_some
end Go.Proofs.YtinnmeiphbdogaaGreat
/- join: Facts: rows that are added one by one: plain. -/
namespace Go.Proofs.YtinnmeiphbdogaaGreat
end Go.Proofs.YtinnmeiphbdogaaGreat
/- join: Facts: a round of its range over the bindings. -/
namespace Go.Proofs.YtinnmeiphbdogaaGreat
open Go.RowKit Go.Shelf
attribute [local go_sem] Oper.semAt_some
end Go.Proofs.YtinnmeiphbdogaaGreat
/- join: Facts. -/
namespace Go.Proofs.YtinnmeiphbdogaaGreat
open Go.RowKit Go.Shelf
attribute [local go_sem] Oper.semAt_some
structure FactsAt (w X : World) (gb b7 rb : Nat) (cs : List Value) : Prop where
 rule : Blk X gb cs 27
 r4 : Blk X (gb + 1) [.pointer none] 88
 r5 : Blk X (gb + 1 + 1) [.int .i64 0] 41
 rows : Blk X b7 [.pointer (some ⟨rb, 0, none⟩)] 88
 ext : Ext w X
 lt : gb + 1 + 1 < b7
theorem GvRow.put (T : Nat -> Prop) (W1 W2 : World) (x : XB) (l : Nat) (r o : Obj) (h : GvRow W1 T W2 x) (hr : W2.heap[l]? = some r) (hc : r.isCells = false) : GvRow (W1.putObj l o) T (W2.putObj l o) x := by
 refine ⟨h.1, ?_⟩
 rcases h.2 with h2 | ⟨g, rest, h1, h2, h3, h4⟩
 ·exact .inl h2
 ·refine .inr ⟨g, rest, h1, h2.kp (F := fun k => k = l) (Kp.putF (F := fun k => k = l) rfl _) (fun e => ?_), by rw [size_put]; exact h3, h4⟩
  have e' : g = l := e
  unfold Blk at h2
  rw [e', hr] at h2
  cases h2; cases hc
theorem GvRow.cells {W1 W2 : World} {T : Nat -> Prop} {xa : Option Addr} {xn xc : Nat} {V : List ByteArray} (h : GvRow W1 T W2 ((xa, xn, xc), V)) : (xn = V.length /\ xc = V.length) /\ CellsAt W2 xa (strs V) := by
 obtain ⟨h1, h2⟩ := h
 have h1' : (xn, xc) = (V.length, V.length) := h1
 refine ⟨⟨congrArg Prod.fst h1', congrArg Prod.snd h1'⟩, ?_⟩
 rcases h2 with ⟨e, e2⟩ | ⟨g, rest, e, hb, _⟩
 ·have e2' : V = [] := e2
  rw [e2']; exact CellsAt.nil _ _
 ·have e' : xa = some ⟨g, 0, none⟩ := e
  rw [e']; exact CellsAt.pre hb
end Go.Proofs.YtinnmeiphbdogaaGreat
/- The constants of bindings are small; a binding as one text: plain. -/
namespace Go.Proofs.YtinnmeiphbdogaaGreat
theorem aEq {x : List ByteArray} {i : Nat} (h : bQ x = true) : (bH x i).size ≤ 4096 := by
 unfold bH
 rw [List.getD_eq_getElem?_getD]
 cases hx : x[i]? with
 | none => show ByteArray.empty.size ≤ 4096; exact Nat.zero_le _
 | some s =>
  unfold bQ at h
  exact of_decide_eq_true (List.all_eq_true.1 h s (List.mem_of_getElem? hx))
theorem aE8 {ls : List aO} {R : Nat -> aD} {V : List ByteArray} (hV : bZ ls R V) (hR : ∀ j x, x ∈ R j -> bQ x = true) : ∀ s ∈ V, s.size ≤ 4096 := fun s hs => by
 obtain ⟨v, hv⟩ := List.mem_iff_getElem?.1 hs
 have hvl := (List.getElem?_eq_some_iff.1 hv).1
 rw [hV.1] at hvl
 obtain ⟨l, hl, h1, hva⟩ := nC hvl
 obtain ⟨j, hj⟩ := List.mem_iff_getElem?.1 hl
 have hh := hV.2 j l hj
 unfold gD at hh
 rw [if_pos h1] at hh
 obtain ⟨x, hx, -, hf⟩ := hh
 obtain ⟨hvn, i, t, hi, ht, he⟩ := cL.1 hva
 obtain ⟨v', hv', e'⟩ := (hf i t hi).2 ht
 have hv0 : (aB ls)[v]? = some (bH (aB ls) v) := by unfold bH; rw [List.getD_eq_getElem?_getD, qG hvn]; rfl
 rw [he] at hv'
 have : v = v' := (List.getElem?_inj hvn (bT ls)).1 (hv0.trans hv'.symm)
 subst this
 rw [hv] at e'
 cases e'
 exact aEq (hR j x hx)
def cT (V : List ByteArray) : ByteArray := V.foldl (fun s x => s ++ x ++ ⟨#[59]⟩) ⟨#[]⟩
theorem aEl (V : List ByteArray) (x : ByteArray) : cT (V ++ [x]) = cT V ++ x ++ ⟨#[59]⟩ := by unfold cT; rw [List.foldl_append]; rfl
theorem pP {V : List ByteArray} {i : Nat} {x : ByteArray} (h : V[i]? = some x) : cT (V.take (i + 1)) = cT (V.take i) ++ x ++ ⟨#[59]⟩ := by
 rw [List.take_add_one, h]; exact aEl _ _
theorem tE {V : List ByteArray} (h : ∀ s ∈ V, s.size ≤ 4096) (i : Nat) : (cT (V.take i)).size ≤ i * 4097 := by
 induction i with
 | zero => exact Nat.zero_le _
 | succ i ih =>
  rw [Nat.succ_mul]
  generalize i * 4097 = m at ih ⊢
  cases hx : V[i]? with
  | none =>
   rw [List.take_add_one, hx, Option.toList_none, List.append_nil]
   exact Nat.le_trans ih (Nat.le_add_right _ _)
  | some x =>
   have h2 := h x (List.mem_of_getElem? hx)
   rw [pP hx, ByteArray.size_append, ByteArray.size_append, show (⟨#[59]⟩ : ByteArray).size = 1 from rfl]
   omega
end Go.Proofs.YtinnmeiphbdogaaGreat
/- A list of texts that grows between the rounds of a range over bindings. -/
namespace Go.Proofs.YtinnmeiphbdogaaGreat
open Go.RowKit Go.Shelf
attribute [local go_sem] Oper.semAt_some
def ListI (w8 : World) (b : Nat) (f : List XB -> List ByteArray) (T : Nat -> Prop) (pre : List XB) (W : World) : Prop :=
 Kp (fun k => k = b) w8 W /\ (∀ k, T k -> w8.heap.size ≤ k) /\ ∃ v, Blk W b [v] 34 /\ Row W 9 1 v (f pre).length (strs (f pre)) (fun g => w8.heap.size ≤ g /\ ¬ T g)
section
variable {w8 W1 W : World} {b : Nat} {f : List XB -> List ByteArray} {T T' : Nat -> Prop} {pre : List XB}
theorem ListI.step (h : ListI w8 b f T pre W1) (hb : b < w8.heap.size) (hk : Kp T W1 W) (hT : ∀ k, T' k -> zH T W1 W k) : ListI w8 b f T' pre W := by
 obtain ⟨h1, h2, v, h3, h4⟩ := h
 have hs1 := h1.size
 refine ⟨h1.trans' hk fun i hi hf => absurd (h2 i hf) (by omega), fun k hk' => ?_, v, h3.kp hk fun hf => by have := h2 b hf; omega, ?_⟩
 ·rcases hT k hk' with h | h
  ·exact h2 k h
  ·omega
 ·have h5 := h4.kp' hk fun g hg hM hf => hM.2 hf
  obtain ⟨q1, q2 | ⟨g, cap, rest, a, hM, c, d⟩⟩ := h4
  ·obtain ⟨q3, q4⟩ := q2
   exact ⟨q1, .inl ⟨q3, q4⟩⟩
  ·obtain ⟨r1, ⟨r2, _⟩ | ⟨g', cap', rest', a', hM', c', d'⟩⟩ := h5
   ·rw [a] at r2; cases r2
   ·have hgg : g' = g := by rw [a] at a'; cases a'; rfl
    refine ⟨r1, .inr ⟨g', cap', rest', a', ⟨hM'.1, fun ht => ?_⟩, c', d'⟩⟩
    rcases hT g' ht with h | h
    ·exact hM'.2 h
    ·have := c.lt; omega
theorem ListI.put (h : ListI w8 b f T pre W) (hb : b < w8.heap.size) {l : Nat} {o o' : Obj} (hl : w8.heap.size ≤ l) (ho : W.heap[l]? = some o) (hc : o.isCells = false) : ListI w8 b f T pre (W.putObj l o') := by
 obtain ⟨h1, h2, v, h3, h4⟩ := h
 have hk : Kp (fun k => k = l) W (W.putObj l o') := Kp.putF (F := fun k => k = l) rfl _
 refine ⟨h1.trans' hk fun i hi hf => by have e : i = l := hf; omega, h2, v, h3.kp hk fun e => by have e' : b = l := e; omega, h4.kp' hk fun g hg _ e => ?_⟩
 obtain ⟨cs, hb'⟩ := aT h4 hg
 have e' : g = l := e
 unfold Blk at hb'
 rw [e', ho] at hb'; cases hb'; cases hc
theorem ListI.start (h : Blk w8 b [.slice none 0 0] 34) (hf : f [] = []) : ListI w8 b f (fun _ => False) [] w8 :=
 ⟨Kp.refl _, fun k h => h.elim, _, h, by rw [hf]; exact Row.nil _ _ _ _⟩
theorem ListI.round {v v' : Value} {X : World} {x : XB} {s : ByteArray} {Z : Nat -> Prop} (h : ListI w8 b f T pre W) (hb : b < w8.heap.size) (hTlt : ∀ k, T k -> k < W.heap.size) (hZ : ∀ k, Z k -> b < k /\ k < w8.heap.size) (hv : Blk W b [v] 34) (hk : Kp (fun k => k = b \/ v.ownBlock = some k) W X) (hB : Blk X b [v'] 34) (hr : Row X 9 1 v' ((f pre).length + 1) (strs (f pre ++ [s])) (fun g => v.ownBlock = some g \/ W.heap.size ≤ g)) (hf : f (pre ++ [x]) = f pre ++ [s]) :
 KeepsFrom w8.heap.size W X /\ Kp (fun k => ¬ gH Z T k) W X /\ ListI w8 b f T (pre ++ [x]) X := by
 obtain ⟨h1, h2, v0, h3, h4⟩ := h
 have e0 : v0 = v := by
  unfold Blk at h3 hv
  rw [h3] at hv; cases hv; rfl
 subst e0
 have hsz := h1.size
 have hno : ∀ k, (k = b \/ v0.ownBlock = some k) -> ¬ T k /\ (k = b \/ w8.heap.size ≤ k) := fun k hk => by
  rcases hk with h | h
  ·exact ⟨fun ht => by have := h2 k ht; omega, .inl h⟩
  ·exact ⟨(h4.block k h).2, .inr (h4.block k h).1⟩
 refine ⟨⟨hk.size, fun k o hB2 hk2 ho => (hk.block k (lt_of_block hk2) fun hf => ?_).trans hk2⟩, hk.mono fun k hk2 hf hz => ?_, h1.trans' hk fun k hk2 hf => ?_, h2, v', hB, ?_⟩
 ·rcases hf with e | e
  ·unfold Blk at h3; rw [e, h3] at hk2; cases hk2; cases ho
  ·obtain ⟨cs, hb'⟩ := aT h4 e
   unfold Blk at hb'; rw [hb'] at hk2; cases hk2; cases ho
 ·rcases hz with hz | hz
  ·exact (hno k hf).1 hz
  ·have := hZ k hz
   rcases (hno k hf).2 with h | h <;> omega
 ·rcases (hno k hf).2 with h | h
  ·exact h
  ·omega
 ·rw [hf, List.length_append, List.length_singleton]
  refine hr.mono fun g hg => ?_
  rcases hg with hg | hg
  ·exact h4.block g hg
  ·exact ⟨by omega, fun ht => by have := hTlt g ht; omega⟩
end
def tJ (pre : List XB) : List ByteArray := pre.map fun x => cT x.2
noncomputable def aCt : Code := ((Tryz.f18.body.bind cH).getD .skip)
set_option maxRecDepth 100000 in
theorem lit31 (t : Array Value) (h : t.size = 31) : ∃ u : Nat -> Value, (∀ i, t.getD i undef = u i) /\ t = #[u 0, u 1, u 2, u 3, u 4, u 5, u 6, u 7, u 8, u 9, u 10, u 11, u 12, u 13, u 14, u 15, u 16, u 17, u 18, u 19, u 20, u 21, u 22, u 23, u 24, u 25, u 26, u 27, u 28, u 29, u 30] := by
 refine ⟨fun i => t.toList.getD i undef, fun i => by simp [Array.getD_eq_getD_getElem?, List.getD_eq_getElem?_getD], ?_⟩
 apply Array.ext'
 have := oO t.toList 31 (by simpa using h)
 exact this
def aKq (X : World) (V : List ByteArray) (n : Nat) (sv iv : Value) (W : World) : Prop := ∃ i : Nat, i ≤ n /\ iv = .int .i64 i /\ sv = .string (cT (V.take i)) /\ Hid (Ext X W)
set_option maxRecDepth 100000 in
set_option maxHeartbeats 4000000 in
theorem aEz {X : World} {b5 n l : Nat} {xa : Option Addr} {xc : Nat} {V ss : List ByteArray} {v : Value} {M : Nat -> Prop} {t : Array Value} {Qn : World -> Prop}
 (h5 : Blk X b5 [v] 34) (hr : Row X 9 1 v n (strs ss) M) (hn : n ≤ 1048576 * 1048576) (hV : CellsAt X xa (strs V)) (hVl : V.length ≤ 1048576) (hVs : ∀ s ∈ V, s.size ≤ 4096)
 (hz : t.size = 31) (t5 : t.getD 5 undef = .pointer (some ⟨b5, 0, none⟩)) (t6 : t.getD 6 undef = .slice xa V.length xc)
 (hQn : ∀ X', Kp (fun k => k = b5 \/ v.ownBlock = some k) X X' -> (∃ v', Blk X' b5 [v'] 34 /\ Row X' 9 1 v' (n + 1) (strs (ss ++ [cT V])) (fun g => v.ownBlock = some g \/ X.heap.size ≤ g)) -> Qn X') :
 aCt.wpIn (Fence.wide.inRound l) 2 Tryz.prog (iB Qn fun _ => False) { tmps := t, defers := [] } X := by
 obtain ⟨u, hu, rfl⟩ := lit31 t hz
 have e5 := (hu 5).symm.trans t5
 have e6 := (hu 6).symm.trans t6
 rw [e5, e6]
 clear hz t5 t6 e5 e6 hu
 obtain ⟨oa, oc, ev, _, _⟩ := hr.shape
 subst ev
 have HQ := qH hQn
 have H0 := qH (And.intro h5 hr)
 have HV := qH (And.intro hV hVs)
 obtain ⟨m, em⟩ : ∃ m, V.length = m := ⟨_, rfl⟩
 rw [em] at hVl ⊢
 have HM := qH em
 clear hQn h5 hr hV hVs em
 conv => arg 4; whnf
 gi_wp2
 gi_loopw [7, 8] (fun sv iv wr => aKq X V m sv iv wr) (fun _ iv _ => m - (intOf iv).toNat)
 case atStart => exact ⟨0, Nat.zero_le _, rfl, rfl, qH (Kp.refl _)⟩
 case round =>
  obtain ⟨i, hi, rfl, rfl, hex⟩ := hrel
  by_cases hlt : i < m
  ·obtain ⟨x, hx⟩ : ∃ x, V[i]? = some x := ⟨_, qG (by rw [HM.out]; exact hlt)⟩
   obtain ⟨xb, xo, exa, xc0⟩ := (HV.out.1.ext hex.out) i (.string x) (by simp [strs, hx])
   subst exa
   have HX := qH (pP hx)
   have hs1 := tE HV.out.2 i
   have hs2 := HV.out.2 x (List.mem_of_getElem? hx)
   obtain ⟨sa, esa⟩ : ∃ s, cT (V.take i) = s := ⟨_, rfl⟩
   rw [esa] at HX hs1 ⊢
   have hadd1 : (Op.stringOp .add sa x).run Tryz.prog wr = .ok (.string (sa ++ x)) wr := run_string_add_sum _ _ _ (by omega)
   have hadd2 : (Op.stringOp .add (sa ++ x) ⟨#[59]⟩).run Tryz.prog wr = .ok (.string (sa ++ x ++ ⟨#[59]⟩)) wr := run_string_add_sum _ _ _ (by rw [ByteArray.size_append]; have h3 : (⟨#[59]⟩ : ByteArray).size = 1 := rfl; omega)
   have i1 : (i : Int) < (m : Int) := by omega
   clear hx hs1 hs2 esa
   gi_wp2
   go_roundw
   case rel => exact ⟨i + 1, by omega, by first | rfl | (congr 1; done) | (congr 1; omega), by rw [HX.out], hex⟩
   case measure => simp [intOf]; omega
  ·obtain rfl : i = m := by omega
   have hall : V.take i = V := List.take_of_length_le (by rw [HM.out]; exact Nat.le_refl _)
   rw [hall]
   obtain ⟨s, es⟩ : ∃ s, cT V = s := ⟨_, rfl⟩
   rw [es] at HQ ⊢
   have b0 : wr.cell? ⟨b5, 0, none⟩ = some (.slice oa n oc) := by rw [(H0.out.1.ext hex.out).cell']; rfl
   gi_wp2_with (first | (gi_at_builtin; refine Halted.out ?_))
   refine Halted.mk (aIo dG rfl _ _ rfl (F := fun k => (Value.slice oa n oc).ownBlock = some k) (w0 := X) (M := fun g => (Value.slice oa n oc).ownBlock = some g \/ X.heap.size ≤ g) ((Ext.kp hex.out).alloc _) (fun g hg hlt2 => by rcases hg with hg | hg; exact hg; omega) (fun g hg => .inr (by have := hex.out.size; have h2 : (wr.alloc _).heap.size ≤ g := hg; rw [aN] at h2; omega)) rfl (((H0.out.2.ext hex.out).alloc _).own.mono fun g hg => .inl hg) rfl (by rfl) (CellsAt.one wr (.string s) 9) (by simp [Value.oneCell']) (by omega) (by unfold maxLen; omega) ?_)
   intro v6 w6 hr6 hk6 hk6b _ _
   have hB6 : Blk w6 b5 [.slice oa n oc] 34 := ((H0.out.1.ext hex.out).alloc _).kp hk6b fun hg => by
    obtain ⟨cs, hb⟩ := aT (H0.out.2.ext hex.out) hg
    exact absurd (aU hb (H0.out.1.ext hex.out)) (by decide)
   have c6 : w6.cell? ⟨b5, 0, none⟩ = some (.slice oa n oc) := by rw [hB6.cell']; rfl
   have f6 := hB6.free 0
   obtain ⟨la, lcap, elv, _, _⟩ := hr6.shape
   subst elv
   have H6 := qH (And.intro hr6 (And.intro hk6 hB6))
   clear hr6 hk6 hk6b hB6 b0
   gi_wp2
   have ks : Kp (fun k => k = b5) w6 (w6.setCell ⟨b5, 0, none⟩ (.slice la (n + 1) lcap)) := Kp.setCell (F := fun k => k = b5) (p := ⟨b5, 0, none⟩) (Kp.refl w6) (fun _ => rfl) _
   refine HQ.out _ ((H6.out.2.1.mono fun k _ h => Or.inr h).trans (ks.mono fun k _ h => Or.inl h)) ⟨_, H6.out.2.2.set 0 _, ?_⟩
   have e : strs (ss ++ [s]) = strs ss ++ [.string s] := by simp [strs]
   rw [e]
   refine H6.out.1.kp' ks fun g hg _ e2 => ?_
   obtain ⟨cs, hb⟩ := aT H6.out.1 hg
   rw [show g = b5 from e2] at hb
   exact absurd (aU hb H6.out.2.2) (by decide)
end Go.Proofs.YtinnmeiphbdogaaGreat
/- The law of joins: each: all bindings of a rule in a base, each as one text. -/
namespace Go.Proofs.YtinnmeiphbdogaaGreat
open Go.RowKit Go.Shelf
attribute [local go_sem] Oper.semAt_some
theorem pT {S : Nat -> Prop} {w : World} {v : Value} {E : List Ent} (hB : BaseV S w v E) (s : ByteArray) : ∀ x ∈ dP (aY E s), bQ x = true := fun x hx => by
 have hok := hB.ok
 cases he : aY E s with
 | none => rw [he] at hx; simp [dP] at hx
 | some e =>
  rw [he] at hx
  exact (hok.all _ (List.mem_map.2 ⟨e, (bP he).1, rfl⟩)).txt x hx
theorem tO {r : cO} {Es : Nat -> List Ent} {L : aD} (hL : kE r (bF Es r.2.1) L) (hT : ∀ j x, x ∈ bF Es r.2.1 j -> bQ x = true) : ∀ V ∈ L, bO r = 0 /\ V.length = (aB r.2.1).length /\ ∀ s ∈ V, s.size ≤ 4096 := fun V hV => by
 by_cases hc : bO r = 0
 ·have hb := ((hL.1 hc).iff V).1 hV
  exact ⟨hc, hb.1, aE8 hb hT⟩
 ·rw [hL.2 hc] at hV; simp at hV
theorem aGy {S : Nat -> Prop} {w : World} {v : Value} {E : List Ent} {ls : List aO} (hB : BaseV S w v E) : ∀ j x, x ∈ bF (zW ls E) ls j -> bQ x = true := fun j x hx => by
 unfold bF zW at hx
 split at hx
 ·exact pT hB _ x hx
 ·simp [aY, dP] at hx
theorem aJ5 {w W : World} {P : World -> Value -> Prop} {tmps : Array Value} {ds : List Deferred} {lo : Nat} {v : Value} (hm : Marks lo W ds) (hk : Ext w W) (hlo : w.heap.size ≤ lo) (h4 : tmps.getD 4 undef = v)
 (hP : ∀ w', Ext w w' -> Kp (fun k => lo ≤ k /\ ¬ iH W k) W w' -> P w' v) :
 bodyPostM Fence.wide 4 Tryz.prog Tryz.f18 (RetN w P) .ret { tmps := tmps, defers := ds } W := by
 refine gC hm fun w' e1 e2 e3 e4 e5 e6 => ?_
 have kx : Kp (fun k => lo ≤ k /\ ¬ iH W k) W w' := ⟨e1, e2, e3, by omega, fun k hk hf => by
  by_cases h : lo ≤ k
  ·by_cases h2 : ∃ o : Obj, W.heap[k]? = some o /\ o.isCells = true
   ·obtain ⟨o, h2, h3⟩ := h2
    rw [h2]; exact e6 k o h2 h3
   ·exact absurd ⟨h, h2⟩ hf
  ·exact e5 k (by omega)⟩
 have hx : Ext w w' := hk.trans' kx fun i hi h => absurd h.1 (by omega)
 refine ⟨v, ?_, RetN.mk hx (hP w' hx kx)⟩
 have h4' : tmps[4]?.getD undef = v := by simpa using h4
 simp [results, Tryz.f18, go_sem, h4']
set_option maxRecDepth 100000 in
set_option maxHeartbeats 4000000 in
theorem aE0 {S : Nat -> Prop} {w : World} {p : ByteArray} {hs : List aH} {ls : List aO} {ha ba : Option Addr} {hn hcap n bcap : Nat} {G : Nat -> Prop} {o : Option Addr} {E : List Ent} {L : aD} (hhn : hn = hs.length) (hh : bE w G ha hs) (hhl : hn ≤ 1048576) (hbn : n = ls.length) (h : dN w G ba ls) (hf : Fit ls) (hnv : (aB ls).length ≤ 1048576) (hn16 : n ≤ 1048576)
 (hB : BaseV S w (.pointer o) E) (hL : kE ((p, hs, ()), ls, ()) (bF (zW ls E) ls) L) (hLn : L.length ≤ 1048576 * 1048576) :
 Calls Tryz.prog 18 #[eS p ha hn hcap ba n bcap, .pointer o] w (RetN w fun w' v => Row w' 9 1 v L.length (strs (L.map cT)) (New w)) := by
 have HEa := qH (fun W (hW : Ext w W) => aJ6 (hcap := hcap) (bcap := bcap) (p := p) hhn (hh.ext hW) hhl hbn (h.ext hW) hf hnv hn16 (hB.ext hW) hL)
 have HK := qH (tO hL (aGy hB))
 have HN := qH (And.intro hnv hLn)
 obtain ⟨gb, egb⟩ : ∃ g, w.heap.size = g := ⟨_, rfl⟩
 obtain ⟨w1, e1⟩ : ∃ x, w.alloc (.cells #[.string p, .slice ha hn hcap, .slice ba n bcap] 27) = x := ⟨_, rfl⟩
 obtain ⟨w2, e2⟩ : ∃ x, w1.alloc (.cells #[.slice none 0 0] 34) = x := ⟨_, rfl⟩
 have s1 : w1.heap.size = gb + 1 := by rw [<- e1, aN, egb]
 have x1 : Ext w w1 := by rw [<- e1]; exact (Kp.refl w).alloc _
 have x2 : Ext w1 w2 := by rw [<- e2]; exact (Kp.refl w1).alloc _
 have H2 := qH (show Blk w2 gb [.string p, .slice ha hn hcap, .slice ba n bcap] 27 /\ Blk w2 (gb + 1) [.slice none 0 0] 34 /\ Ext w w2 from
  ⟨Blk.ext (by have h := Blk.new w [.string p, .slice ha hn hcap, .slice ba n bcap] 27; rw [egb] at h; rw [<- e1]; exact h) x2, by have h := Blk.new w1 [.slice none 0 0] 34; rw [s1] at h; rw [<- e2]; exact h, x1.trans x2⟩)
 have r0 : w2.cell? ⟨gb, 0, none⟩ = some (.string p) := by rw [H2.out.1.cell']; rfl
 have r1 : w2.cell? ⟨gb, 1, none⟩ = some (.slice ha hn hcap) := by rw [H2.out.1.cell']; rfl
 have r2 : w2.cell? ⟨gb, 2, none⟩ = some (.slice ba n bcap) := by rw [H2.out.1.cell']; rfl
 have HG := qH egb
 clear hhn hh hhl hbn h hf hnv hn16 hB hL x1 x2 hLn
 refine callsIn_wide.1 (callsIn_of_wp_marks (n := 4) Tryz.func18 rfl trivial ?_ rfl)
 refine wpIn_wide.2 ?_
 obtain ⟨Q, eQ⟩ : ∃ Q, Q = bodyPostM Fence.wide 4 Tryz.prog Tryz.f18 (RetN w fun w' v => Row w' 9 1 v L.length (strs (L.map cT)) (New w)) := ⟨_, rfl⟩
 rw [<- eQ]
 have EQ := qH eQ; clear eQ
 simp only [Tryz.ntmps18, List.size_toArray, List.length_cons, List.length_nil, Nat.reduceAdd, Nat.reduceSub, Array.replicate_succ, Array.replicate_zero, List.push_toArray, List.append_toArray, List.nil_append, List.cons_append]
 go_wp2_with fail
 clear e1 e2 egb s1
 refine (HEa.out w2 H2.out.2.2).mono ?_
 rintro e w8 ⟨v8, rfl, hk8, xb, lo, hlo, rfl, hseq⟩
 have HS := qH (show wT Fence.wide 3 Tryz.prog 82 #[.pointer (some ⟨xb, 0, none⟩)] (fun x : XB => #[.slice x.1.1 x.1.2.1 x.1.2.2]) (fun k => lo ≤ k /\ k < w8.heap.size) GvRow (fun xs => xs.map Prod.snd = L) (fun pre => pre.map Prod.snd <+: L) w8 from hseq 3)
 have H8 := qH (show Blk w8 (gb + 1) [.slice none 0 0] 34 /\ Ext w w8 /\ gb + 1 < lo from ⟨H2.out.2.1.ext hk8, H2.out.2.2.trans hk8, Nat.lt_of_lt_of_le H2.out.2.1.lt hlo⟩)
 clear hseq hk8 hlo r0 r1 r2
 go_wp2_with fail
 have hb8 : gb + 1 < w8.heap.size := H8.out.1.lt
 refine' wpIn_wide.1 (oT (F := Fence.wide) (n := 4) (w0 := w8) rfl (by omega) (gf := 82) (lb := #[.pointer (some ⟨xb, 0, none⟩)]) rfl trivial (enters_of Tryz.func82 (by kernel_rfl) rfl)
  HS.out (Kp.refl _) (fun k h => h.2) (fun _ => rfl) GvRow.put (ListI w8 (gb + 1) tJ) (fun _ _ _ _ => False)
  (fun T s W l o o' h _ hl ho hc => h.put hb8 hl ho hc) (fun c T s W l o o' h _ hl ho hc => h.elim)
  (fun W o h => h.step hb8 ((Kp.refl W).alloc o) (fun k hk => hk.elim)) (ListI.start H8.out.1 rfl) _ ?assign ?body ?done ?stop)
 case assign =>
  intro l x W K hK
  gi_wp2
  exact hK
 case body =>
  rintro l T T' pre ⟨⟨xa, xn, xc⟩, V⟩ W1 W hI hT hk hsub hgv hpre
  have hI2 := hI.step hb8 hk hsub
  have hTlt : ∀ k, T' k -> k < W.heap.size := fun k hk' => by
   rcases hsub k hk' with h | h
   ·exact Nat.lt_of_lt_of_le (hT k h) hk.size
   ·exact h.2
  obtain ⟨hx1, hxc⟩ := hgv.cells
  have hxn : xn = V.length := hx1.1
  have hxc2 : xc = V.length := hx1.2
  subst hxn hxc2
  have hmem : V ∈ L := hpre.subset (by rw [List.map_append]; exact List.mem_append_right _ (List.mem_singleton.2 rfl))
  have hpl : pre.length < L.length := by
   have h := hpre.length_le
   rw [List.length_map, List.length_append, List.length_singleton] at h
   omega
  obtain ⟨hc0, hVl, hVs⟩ := HK.out V hmem
  have hN1 := HN.out.1
  have hN2 := HN.out.2
  have hVl' : V.length = (aB ls).length := hVl
  obtain ⟨v, hv, hrv⟩ := hI2.2.2
  have hel : (tJ pre).length = pre.length := by unfold tJ; rw [List.length_map]
  rw [hel] at hrv
  refine wpIn_mono (Q := iB (fun X' => KeepsFrom w8.heap.size W X' /\ Kp (fun k => ¬ gH (fun k => lo ≤ k /\ k < w8.heap.size) T' k) W X' /\ ListI w8 (gb + 1) tJ T' (pre ++ [((xa, V.length, V.length), V)]) X') (fun _ => False)) ?_ ?_
  ·show Code.wpIn _ _ _ aCt _ _ _
   refine aEz (v := v) (ss := tJ pre) (V := V) hv hrv (by omega) hxc (by omega) hVs rfl rfl rfl ?_
   rintro X' hk' ⟨v', hv', hr'⟩
   exact hI2.round hb8 hTlt (fun k hk => ⟨by have := H8.out.2.2; have := hk.1; omega, hk.2⟩) hv hk' hv' (by rw [hel]; exact hr') (by unfold tJ; rw [List.map_append]; rfl)
  ·intro e a W' h
   cases e <;> first | exact h | exact h.elim
 case done =>
  rintro D T xs W1 W hD hxs hI hT hk hd
  have hI2 := hI.step (T' := fun _ => False) hb8 hk (fun k hk' => hk'.elim)
  obtain ⟨kX, hTge, v, hv, hrv⟩ := hI2
  have hxs' : tJ xs = L.map cT := by
   have h : xs.map Prod.snd = L := hxs
   unfold tJ
   rw [<- h, List.map_map]; rfl
  rw [hxs', List.length_map] at hrv
  have hm1 : Marks w8.heap.size W [{ target := .collected D, args := #[] }] := Marks.push (Marks.nil w8.heap.size w8) (fun k o h ho => (kX.block k (lt_of_block h) (fun e => by
   have e' : k = gb + 1 := e
   have h8 := H8.out.1
   unfold Blk at h8
   rw [e', h8] at h; cases h; cases ho)).trans h) hD hD hd
  have v7 : W.cell? ⟨gb + 1, 0, none⟩ = some v := by rw [hv.cell']; rfl
  obtain ⟨la, lc, ev, _, _⟩ := hrv.shape
  subst ev
  have HZ := qH (And.intro hm1 (And.intro hrv kX))
  clear hxs' hm1 hrv kX hTge hI hT hk hd hD hxs hv
  go_wp2_with fail
  obtain ⟨hm1, hrv, kX⟩ := HZ.out
  have hx8 := H8.out.2.1.size
  have hgl := HG.out
  rw [EQ.out]
  refine aJ5 (lo := w8.heap.size) hm1 (H8.out.2.1.trans' kX fun i hi hf => by have e : i = gb + 1 := hf; omega) hx8 rfl fun w' hx' kx => ?_
  refine (hrv.kp' kx fun g hg hM hf => ?_).mono fun g hg => Nat.le_trans hx8 hg.1
  obtain ⟨cs, hb⟩ := aT hrv hg
  exact hf.2 ⟨_, hb, rfl⟩
 case stop =>
  rintro D c T pre W1 W hD hpre hX hT hk hd
  exact hX.elim
end Go.Proofs.YtinnmeiphbdogaaGreat
/- The law of joins: put: a text into a rising list. -/
namespace Go.Proofs.YtinnmeiphbdogaaGreat
open Go.RowKit Go.Shelf
attribute [local go_sem] Oper.semAt_some
theorem uK {x y : ByteArray} : bL x y < 0 ↔ Op.bytesLess x.toList y.toList = true := eG
theorem uL {x y : ByteArray} : bL x y = 0 ↔ x = y := by
 unfold bL bG
 constructor
 ·intro h
  by_cases h1 : Op.bytesLess x.toList y.toList = true
  ·rw [if_pos h1] at h; cases h
  ·by_cases h2 : Op.bytesLess y.toList x.toList = true
   ·rw [if_neg h1, if_pos h2] at h; cases h
   ·have h3 := fM (by simpa using h1) (by simpa using h2)
    rw [ByteArray.toList_eq, ByteArray.toList_eq] at h3
    exact ByteArray.ext (Array.toList_inj.1 h3)
 ·rintro rfl
  rw [dM]; rfl
theorem xR {α : Type} {L : List α} {i j : Nat} {x : α} (h : L[j]? = some x) (hj : j < i) : x ∈ L.take i := by
 rw [List.mem_take_iff_getElem]
 obtain ⟨hl1, hl2⟩ := List.getElem?_eq_some_iff.1 h
 exact ⟨j, by omega, hl2⟩
theorem aHy {α : Type} {L : List α} {i j : Nat} {x : α} (h : L[j]? = some x) (hj : i ≤ j) : x ∈ L.drop i := by
 obtain ⟨hl1, hl2⟩ := List.getElem?_eq_some_iff.1 h
 refine List.mem_drop_iff_getElem.2 ⟨j - i, by omega, ?_⟩
 rw [<- hl2]; congr 1; omega
theorem aFw {L : List ByteArray} (hst : Strict bL L) {s : ByteArray} {i : Nat} (hi : i ≤ L.length) (hlow : ∀ x ∈ L.take i, bL x s < 0) (hup : ∀ x, L[i]? = some x -> ¬ bL x s < 0) :
 (∀ x, L[i]? = some x -> x = s -> bJ bL L s = L.take i ++ L.drop i) /\ ((∀ x, L[i]? = some x -> x ≠ s) -> bJ bL L s = L.take i ++ [s] ++ L.drop i) := by
 have hb : below bL L s = i := by
  obtain ⟨s1, s2⟩ := hst.split jM s
  have hbl := below_le (c := bL) L s
  generalize below bL L s = b at *
  rcases Nat.lt_trichotomy b i with h | h | h
  ·have hx : L[b]? = some L[b] := qG (by omega)
   exact absurd (hlow _ (xR hx h)) (s2 _ (aHy hx (Nat.le_refl _)))
  ·exact h
  ·have hx : L[i]? = some L[i] := qG (by omega)
   exact absurd (s1 _ (xR hx h)) (hup _ hx)
 have ht := hst.there jM s
 rw [hb] at ht
 unfold bJ
 constructor
 ·rintro x hx rfl
  rw [if_pos (ht.2 ⟨x, hx, uL.2 rfl⟩), List.take_append_drop]
 ·intro hno
  rw [if_neg (fun h => by
   obtain ⟨y, hy, hz⟩ := ht.1 h
   exact hno y hy (uL.1 hz)), hb, List.append_assoc]
  rfl
def PutS (w0 : World) (L : List ByteArray) (s : ByteArray) (n : Nat) (ov iv : Value) (W : World) : Prop := ∃ i : Nat, i ≤ n /\ iv = .int .i64 i /\ Hid (Ext w0 W) /\ Hid (Row W 9 1 ov i (strs (L.take i)) (New w0)) /\ Hid (∀ x ∈ L.take i, bL x s < 0)
set_option maxRecDepth 100000 in
set_option maxHeartbeats 4000000 in
theorem aI8 {L : List ByteArray} {s : ByteArray} {g n cap : Nat} {M : Nat -> Prop} {w : World} (hst : Strict bL L) (hR : Row w 9 1 (.slice (some ⟨g, 0, none⟩) n cap) n (strs L) M) (hl : n ≤ 1048576 * 1048576) (hg : g < w.heap.size) :
 Calls Tryz.prog 58 #[.slice (some ⟨g, 0, none⟩) n cap, .string s] w (RetN w fun w' v => Row w' 9 1 v (bJ bL L s).length (strs (bJ bL L s)) (New w)) := by
 have hnl : n = L.length := by have h1 := hR.1; rw [fB] at h1; omega
 obtain ⟨_, _, e0, hcs, hnc⟩ := hR.shape
 cases e0
 have HL := qH (And.intro hst (And.intro hnl hcs))
 have i0 : (n : Int) ≤ (cap : Int) := by omega
 have hcm : cap ≤ maxLen := by
  obtain ⟨_, ⟨e, _⟩ | ⟨g', cap', rest, e, _, _, _, _, h⟩⟩ := hR
  ·cases e
  ·cases e; exact h
 have hcm2 : cap ≤ 9223372036854775807 := hcm
 have HNo := qH (show ¬ New w g from by show ¬ w.heap.size ≤ g; omega)
 clear hst hnl hcs hR hnc hcm hg
 go_enter Tryz.func58, Tryz.ntmps58
 go_wp2
 go_loopw [5, 6] (fun ov iv wr => PutS w L s n ov iv wr) (fun _ iv _ => n - (intOf iv).toNat)
 case atStart => exact ⟨0, Nat.zero_le _, rfl, qH (Kp.refl _), qH (Row.nil _ _ _ _), qH (by simp)⟩
 case round =>
  obtain ⟨i, hi, rfl, hex, hro, hlo⟩ := hrel
  obtain ⟨oa, oc, eov, _, _⟩ := hro.out.shape
  subst eov
  have HTail := qH (show ∀ (q : List ByteArray), q ++ L.drop i = bJ bL L s -> ∀ m, q.length = m -> ∀ v' w', Row w' 9 1 v' (m + (n - i)) (strs q ++ strs (L.drop i)) (New w) -> Row w' 9 1 v' (bJ bL L s).length (strs (bJ bL L s)) (New w) from fun q he m hm v' w' hr => by
   have e1 : strs q ++ strs (L.drop i) = strs (bJ bL L s) := by rw [<- he]; unfold strs; rw [List.map_append]
   have e2 : m + (n - i) = (bJ bL L s).length := by rw [<- he, List.length_append, List.length_drop, <- HL.out.2.1, hm]
   rw [e1, e2] at hr; exact hr)
  have HLen := qH (show (L.take i).length = i from by rw [List.length_take]; have := HL.out.2.1; omega)
  have hdc : CellsAt wr (some ⟨g, i, none⟩) (strs (L.drop i)) := fun j u hu => by
   unfold strs at hu
   rw [List.getElem?_map, List.getElem?_drop] at hu
   obtain ⟨b, off, e, c⟩ := (HL.out.2.2.ext hex.out) (i + j) u (by unfold strs; rw [List.getElem?_map]; exact hu)
   cases e
   exact ⟨g, i, rfl, by rw [Nat.zero_add] at c; exact c⟩
  have HD := qH hdc
  clear hdc
  by_cases hlt : i < n
  ·obtain ⟨x, hx⟩ : ∃ x, L[i]? = some x := ⟨_, qG (by rw [<- HL.out.2.1]; exact hlt)⟩
   obtain ⟨b, off, e, c0⟩ := (HL.out.2.2.ext hex.out) i (.string x) (by simp [strs, hx])
   cases e
   rw [Nat.zero_add] at c0
   have HX := qH hx
   have i1 : (i : Int) < (n : Int) := by omega
   clear hx
   by_cases hxs : Op.bytesLess x.toList s.toList = true
   ·have HS := qH hxs
    go_wp2_with (first | (at_builtin; refine Halted.out ?_))
    refine Halted.mk (dC (m := 1) (n := i) dG rfl _ _ rfl (hex.out.alloc _) rfl (hro.out.alloc _) rfl (CellsAt.one wr (.string x) 9) (by rfl) (by simp [Value.oneCell']) (by omega) (by unfold maxLen; omega) ?_)
    intro v6 w6 hr6 hk6 hk6b _
    obtain ⟨la, lcap, elv, _, _⟩ := hr6.shape
    subst elv
    have HF := qH (show Ext w w6 /\ Row w6 9 1 (.slice la (i + 1) lcap) (i + 1) (strs (L.take (i + 1))) (New w) /\ ∀ y ∈ L.take (i + 1), bL y s < 0 from by
     have e : strs (L.take (i + 1)) = strs (L.take i) ++ [.string x] := by rw [List.take_add_one, HX.out]; simp [strs]
     refine ⟨hk6, by rw [e]; exact hr6, fun y hy => ?_⟩
     rw [List.take_add_one, HX.out, List.mem_append] at hy
     rcases hy with hy | hy
     ·exact hlo.out y hy
     ·simp at hy; subst hy; exact uK.2 HS.out)
    clear hr6 hk6 hk6b hxs
    go_wp2
    go_roundw
    case rel => exact ⟨i + 1, by omega, by first | rfl | (congr 1; done) | (congr 1; omega), qH HF.out.1, qH HF.out.2.1, qH HF.out.2.2⟩
    case measure => simp [intOf]; omega
   ·have hxs' : Op.bytesLess x.toList s.toList = false := by simpa using hxs
    have HPl := qH (aFw (s := s) (i := i) HL.out.1 (by rw [<- HL.out.2.1]; exact hi) hlo.out (fun y hy => by rw [HX.out] at hy; cases hy; rw [uK]; exact hxs))
    clear hxs
    have hni : ((i : Int) == (n : Int)) = false := by simp; omega
    have i2 : (i : Int) ≤ (n : Int) := by omega
    by_cases hes : x = s
    ·subst hes
     have hq := str_eq x
     have hq2 : (x.toList != x.toList) = false := by simp
     have hi2 : i ≤ n := by omega
     go_wp2_with (first | (at_builtin; refine Halted.out ?_))
     refine Halted.mk (dC (m := n - i) (n := i) dG rfl _ _ rfl hex.out rfl hro.out rfl HD.out (by rw [fB, List.length_drop, <- HL.out.2.1, Nat.mul_one]) (kL _) (by omega) (by unfold maxLen; omega) ?_)
     intro v9 w9 hr9 hk9 _ _
     have HF := qH (And.intro hk9 (HTail.out (L.take i) ((HPl.out.1 x HX.out rfl).symm) i HLen.out v9 w9 hr9))
     clear hr9 hk9
     go_wp2
     go_ret
     exact RetN.mk HF.out.1 HF.out.2
    ·have hq := kG hes
     have hq2 : (x.toList != s.toList) = true := by unfold bne; rw [hq]; rfl
     have HEs := qH hes
     clear hes
     go_wp2_with (first | (at_builtin; refine Halted.out ?_))
     refine Halted.mk (dC (m := 1) (n := i) dG rfl _ _ rfl (hex.out.alloc _) rfl (hro.out.alloc _) rfl (CellsAt.one wr (.string s) 9) (by rfl) (by simp [Value.oneCell']) (by omega) (by unfold maxLen; omega) ?_)
     intro v6 w6 hr6 hk6 hk6b _
     obtain ⟨la, lcap, elv, _, _⟩ := hr6.shape
     subst elv
     have hq6 : Row w6 9 1 (.slice la (i + 1) lcap) (i + 1) (strs (L.take i ++ [s])) (New w) := by
      have e : strs (L.take i ++ [s]) = strs (L.take i) ++ [.string s] := by simp [strs]
      rw [e]; exact hr6
     have hd6 : CellsAt w6 (some ⟨g, i, none⟩) (strs (L.drop i)) := (HD.out.ext ((Kp.refl wr).alloc _)).kp hk6b fun a ea hf => by
      cases ea
      exact HNo.out (hro.out.block g hf)
     have H6 := qH (And.intro hk6 (And.intro hq6 hd6))
     clear hr6 hk6 hk6b hq6 hd6
     go_wp2_with (first | (at_builtin; refine Halted.out ?_))
     refine Halted.mk (dC (m := n - i) (n := i + 1) dG rfl _ _ rfl H6.out.1 rfl H6.out.2.1 rfl H6.out.2.2 (by rw [fB, List.length_drop, <- HL.out.2.1, Nat.mul_one]) (kL _) (by omega) (by unfold maxLen; omega) ?_)
     intro v9 w9 hr9 hk9 _ _
     have HF := qH (And.intro hk9 (HTail.out (L.take i ++ [s]) ((HPl.out.2 (fun y hy => by rw [HX.out] at hy; cases hy; exact HEs.out)).symm) (i + 1) (by rw [List.length_append, HLen.out]; rfl) v9 w9 hr9))
     clear hr9 hk9
     go_wp2
     go_ret
     exact RetN.mk HF.out.1 HF.out.2
  ·obtain rfl : n = i := by omega
   have h0 : L.drop n = [] := List.drop_eq_nil_of_le (by rw [<- HL.out.2.1]; exact Nat.le_refl _)
   have HPl := qH (show bJ bL L s = L.take n ++ [s] from by
    have h := (aFw (s := s) (i := n) HL.out.1 (by rw [<- HL.out.2.1]; exact Nat.le_refl _) hlo.out (fun y hy => by rw [List.getElem?_eq_none (by rw [<- HL.out.2.1]; exact Nat.le_refl _)] at hy; cases hy)).2 (fun y hy => by rw [List.getElem?_eq_none (by rw [<- HL.out.2.1]; exact Nat.le_refl _)] at hy; cases hy)
    rw [h0, List.append_nil] at h; exact h)
   have hni : ((n : Int) == (n : Int)) = true := by simp
   have HF0 := qH (show ∀ v9 w9, Row w9 9 1 v9 (n + 1 + 0) (strs (L.take n ++ [s]) ++ []) (New w) -> Row w9 9 1 v9 (bJ bL L s).length (strs (bJ bL L s)) (New w) from fun v9 w9 hr => by
    rw [List.append_nil, Nat.add_zero] at hr
    rw [HPl.out, List.length_append, HLen.out]; exact hr)
   clear hi hlt h0
   go_wp2_with (first | (at_builtin; refine Halted.out ?_))
   refine Halted.mk (dC (m := 1) (n := n) dG rfl _ _ rfl (hex.out.alloc _) rfl (hro.out.alloc _) rfl (CellsAt.one wr (.string s) 9) (by rfl) (by simp [Value.oneCell']) (by omega) (by unfold maxLen; omega) ?_)
   intro v6 w6 hr6 hk6 hk6b _
   obtain ⟨la, lcap, elv, _, _⟩ := hr6.shape
   subst elv
   have hq6 : Row w6 9 1 (.slice la (n + 1) lcap) (n + 1) (strs (L.take n ++ [s])) (New w) := by
    have e : strs (L.take n ++ [s]) = strs (L.take n) ++ [.string s] := by simp [strs]
    rw [e]; exact hr6
   have H6 := qH (And.intro hk6 hq6)
   clear hr6 hk6 hk6b hq6
   by_cases hcap : cap = n
   ·subst hcap
    go_wp2_with (first | (at_builtin; refine Halted.out ?_))
    refine Halted.mk (dC (m := 0) (n := cap + 1) dG rfl _ _ rfl H6.out.1 rfl H6.out.2 rfl (CellsAt.nil _ _) rfl (by simp) (by omega) (by unfold maxLen; omega) ?_)
    intro v9 w9 hr9 hk9 _ _
    have HF := qH (And.intro hk9 (HF0.out v9 w9 hr9))
    clear hr9 hk9
    go_wp2
    go_ret
    exact RetN.mk HF.out.1 HF.out.2
   ·have hcap2 : n ≠ cap := fun e => hcap e.symm
    have hcap3 : n < cap := by omega
    go_wp2_with (first | (at_builtin; refine Halted.out ?_))
    refine Halted.mk (dC (m := 0) (n := n + 1) dG rfl _ _ rfl H6.out.1 rfl H6.out.2 (by first | rfl | (rw [Nat.sub_self]; rfl) | simp [Act.eval, List.getD_eq_getElem?_getD]) (CellsAt.nil _ _) rfl (by simp) (by omega) (by unfold maxLen; omega) ?_)
    intro v9 w9 hr9 hk9 _ _
    have HF := qH (And.intro hk9 (HF0.out v9 w9 hr9))
    clear hr9 hk9
    go_wp2
    go_ret
    exact RetN.mk HF.out.1 HF.out.2
def aL8 (w0 : World) (ov iv : Value) (W : World) : Prop := ov = .slice none 0 0 /\ iv = .int .i64 0 /\ Hid (Ext w0 W)
set_option maxRecDepth 100000 in
theorem aI7 (s : ByteArray) (w : World) : Calls Tryz.prog 58 #[.slice none 0 0, .string s] w (RetN w fun w' v => Row w' 9 1 v (bJ bL [] s).length (strs (bJ bL [] s)) (New w)) := by
 go_enter Tryz.func58, Tryz.ntmps58
 go_wp2
 go_loopw [5, 6] (fun ov iv wr => aL8 w ov iv wr) (fun _ iv _ => (intOf iv).toNat)
 case atStart => exact ⟨rfl, rfl, qH (Kp.refl _)⟩
 case round =>
  obtain ⟨rfl, rfl, hex⟩ := hrel
  go_wp2_with (first | (at_builtin; refine Halted.out ?_))
  refine Halted.mk (dC (m := 1) (n := 0) dG rfl _ _ rfl (hex.out.alloc _) rfl (Row.nil _ _ _ (New w)) rfl (CellsAt.one wr (.string s) 9) (by rfl) (by simp [Value.oneCell']) (by omega) (by unfold maxLen; omega) ?_)
  intro v6 w6 hr6 hk6 hk6b _
  obtain ⟨la, lcap, elv, _, _⟩ := hr6.shape
  subst elv
  have H6 := qH (And.intro hk6 hr6)
  clear hr6 hk6 hk6b
  go_wp2_with (first | (at_builtin; refine Halted.out ?_))
  refine Halted.mk (dC (m := 0) (n := 0 + 1) dG rfl _ _ rfl H6.out.1 rfl H6.out.2 rfl (CellsAt.nil _ _) rfl (by simp) (by omega) (by unfold maxLen; omega) ?_)
  intro v9 w9 hr9 hk9 _ _
  have HF := qH (And.intro hk9 (show Row w9 9 1 v9 1 (strs [s]) (New w) from hr9))
  clear hr9 hk9
  go_wp2
  go_ret
  exact RetN.mk HF.out.1 HF.out.2
theorem vD {L : List ByteArray} {s : ByteArray} {v : Value} {M : Nat -> Prop} {w : World} (hst : Strict bL L) (hR : Row w 9 1 v L.length (strs L) M) (hl : L.length ≤ 1048576 * 1048576) :
 Calls Tryz.prog 58 #[v, .string s] w (RetN w fun w' v => Row w' 9 1 v (bJ bL L s).length (strs (bJ bL L s)) (New w)) := by
 obtain ⟨h1, ⟨e, h0⟩ | ⟨g, cap, rest, e, hM, hB, h2⟩⟩ := id hR
 ·subst e
  obtain rfl : L = [] := List.eq_nil_of_length_eq_zero h0
  exact aI7 s w
 ·subst e
  exact aI8 hst hR hl hB.lt
end Go.Proofs.YtinnmeiphbdogaaGreat
/- The document's Env: a variable's constant. -/
namespace Go.Proofs.YtinnmeiphbdogaaGreat
open Go.RowKit Go.Shelf
end Go.Proofs.YtinnmeiphbdogaaGreat
/- The document's Env: a term's constant. -/
namespace Go.Proofs.YtinnmeiphbdogaaGreat
open Go.RowKit Go.Shelf
end Go.Proofs.YtinnmeiphbdogaaGreat
/- The document's Head; Vars by both, of any rule; the law's same. -/
namespace Go.Proofs.YtinnmeiphbdogaaGreat
open Go.RowKit Go.Shelf
attribute [local go_sem] Oper.semAt_some
def aKj (w0 : World) (ss tt : List ByteArray) (n : Nat) (iv : Value) (w : World) : Prop := ∃ i : Nat, i ≤ n /\ iv = .int .i64 i /\ Hid (Ext w0 w) /\ Hid (ss.take i = tt.take i)
set_option maxRecDepth 100000 in
set_option maxHeartbeats 1000000 in
theorem jD (ss tt : List ByteArray) (ao bo : Option Addr) (n m acap bcap : Nat) (w : World) (hn : n = ss.length) (hm : m = tt.length) (ha : CellsAt w ao (strs ss)) (hb : CellsAt w bo (strs tt)) (hl : n ≤ 4611686018427387904) :
 Calls Tryz.prog 17 #[.slice ao n acap, .slice bo m bcap] w (RetN w fun w' v => v = .bool (decide (ss = tt))) := by
 have HN := qH (And.intro hn hm); have HA := qH ha; have HB := qH hb
 clear hn hm ha hb
 by_cases hnm : n = m
 ·subst hnm
  have q1 : ((n : Int) != (n : Int)) = false := by simp
  go_enter Tryz.func17, Tryz.ntmps17
  go_wp2
  go_loopw [5] (fun iv wr => aKj w ss tt n iv wr) (fun iv _ => n - (intOf iv).toNat)
  case atStart => exact ⟨0, Nat.zero_le _, rfl, qH (Kp.refl w), qH rfl⟩
  case round =>
   obtain ⟨i, hi, rfl, hex, heq⟩ := hrel
   by_cases hlt : i < n
   ·obtain ⟨s, hs⟩ : ∃ s, ss[i]? = some s := ⟨_, qG (by rw [<- HN.out.1]; exact hlt)⟩
    obtain ⟨t, ht⟩ : ∃ t, tt[i]? = some t := ⟨_, qG (by rw [<- HN.out.2]; exact hlt)⟩
    obtain ⟨g1, o1, e1, c0⟩ := HA.out i (.string s) (by simp [strs, hs])
    obtain ⟨g2, o2, e2, d0⟩ := HB.out i (.string t) (by simp [strs, ht])
    subst e1 e2
    replace c0 := hex.out.cell c0 id
    replace d0 := hex.out.cell d0 id
    have HST := qH (And.intro hs ht)
    clear hs ht
    by_cases hst : s = t
    ·subst hst
     have q4 := str_eq s
     go_wp2
     go_quiet (fail)
     go_wp2
     go_roundw
     case rel => exact ⟨i + 1, by omega, by first | rfl | (congr 1; done) | (congr 1; omega), qH (hex.out.drewN _), qH (by rw [List.take_add_one, List.take_add_one, HST.out.1, HST.out.2, heq.out])⟩
     case measure => simp [intOf]; omega
    ·have q4 := kG hst
     have HD := qH (show decide (ss = tt) = false from decide_eq_false fun e => hst (by have h := HST.out.1; rw [e, HST.out.2] at h; cases h; rfl))
     clear hst
     go_wp2
     go_quiet (fail)
     go_wp2
     go_ret
     exact RetN.mk (hex.out.drewN _) (by rw [HD.out]; rfl)
   ·obtain rfl : n = i := by omega
    have HD := qH (show decide (ss = tt) = true from decide_eq_true (by
     have h := heq.out
     rw [List.take_of_length_le (by rw [<- HN.out.1]; exact Nat.le_refl _), List.take_of_length_le (by rw [<- HN.out.2]; exact Nat.le_refl _)] at h
     exact h))
    go_wp2
    go_ret
    exact RetN.mk hex.out (by rw [HD.out]; rfl)
 ·have q1 : ((n : Int) != (m : Int)) = true := by simp; omega
  have q2 : ((n : Int) == (m : Int)) = false := by simp; omega
  have HD := qH (show decide (ss = tt) = false from decide_eq_false fun e => hnm (by rw [HN.out.1, HN.out.2, e]))
  clear hnm
  go_enter Tryz.func17, Tryz.ntmps17
  go_wp2
  go_ret
  exact RetN.mk (Kp.refl w) (by rw [HD.out]; rfl)
end Go.Proofs.YtinnmeiphbdogaaGreat
/- The law of joins: lent, kept: a rule in memory of its own, with marks behind its lists. -/
namespace Go.Proofs.YtinnmeiphbdogaaGreat
open Go.RowKit
abbrev markK : aH := (-71, ⟨#[]⟩, ())
def aKh (w0 w : World) (a : Option Addr) (n cap : Nat) (ts : List aH) : Prop := ∃ g rest, a = some ⟨g, 0, none⟩ /\ n = ts.length /\ n + 1 ≤ cap /\ cap ≤ maxLen /\ w0.heap.size ≤ g /\ Blk w g (aDl (ts ++ [markK]) ++ rest) 38
def markZ : List Value := [.int .i64 (-72), .string ⟨#[]⟩, .slice none 0 0, .int .i64 0, .int .i64 0, .string ⟨#[]⟩, .int .i64 0, .string ⟨#[]⟩]
structure RuleK (w0 w : World) (hs : List aH) (ls : List aO) (ha : Option Addr) (hn hcap : Nat) (ba : Option Addr) (n bcap : Nat) : Prop where
 head : aKh w0 w ha hn hcap hs
 body : ∃ g rest vs, ba = some ⟨g, 0, none⟩ /\ n = ls.length /\ n + 1 ≤ bcap /\ bcap ≤ maxLen /\ w0.heap.size ≤ g /\ vs.length = ls.length /\ Blk w g ((ls.zip vs).flatMap nH ++ (markZ ++ rest)) 40 /\ ∀ x ∈ ls.zip vs, aKh w0 w x.2.1 (aA x.1).length x.2.2 (aA x.1)
section
variable {w0 w w' : World} {F : Nat -> Prop} {hs : List aH} {ls : List aO} {ha : Option Addr} {hn hcap : Nat} {ba : Option Addr} {n bcap : Nat}
end
end Go.Proofs.YtinnmeiphbdogaaGreat
/- tuple.Rows: Same; Union, Minus, Meet; NewRows of a bad arity. -/
namespace Go.Proofs.YtinnmeiphbdogaaGreat
open Go.RowKit Go.Shelf
section
variable {z z1 z2 : Prop} {S : Nat -> Prop} {w w' : World} {b b1 b2 : Nat} {iv iv1 iv2 : Value} {arity a1 a2 : Nat} {LL L1 L2 : List (List ByteArray)}
theorem aBe (h1 : RowsQ z1 S w b1 iv1 arity L1) (h2 : RowsQ z2 S w b2 iv2 arity L2) (hap : z1 \/ z2 -> ∀ k, dS b1 iv1 k -> ¬ dS b2 iv2 k) (hll : L1.length + L2.length ≤ 1048576 * 1048576) :
 Calls Tryz.prog 104 #[.pointer (some ⟨b1, 0, none⟩), .pointer (some ⟨b2, 0, none⟩)] w
  (RetF (fun k => FQ z1 b1 k \/ FQ z2 b2 k) w fun w' v => RowsAt S w' b1 iv1 arity L1 /\ RowsAt S w' b2 iv2 arity L2 /\ fU S w arity (cG aC (L1 ++ L2)) w' v) := by
 have H := qH (aDq aA0 (enters_of Tryz.func140 (by kernel_rfl) rfl) h1 h2 hap hll); clear h1 h2 hap
 go_enter Tryz.func104, Tryz.ntmps104
 go_wp2_with fail
 refine H.out.mono ?_
 rintro e w1 ⟨v, rfl, hk, hr1, hr2, hq⟩
 unfold fU at hq
 split at hq
 ·subst hq
  rename_i hlt
  have HK := qH (And.intro hk (And.intro hr1 (And.intro hr2 hlt))); clear hk hr1 hr2 hlt
  go_wp2
  go_ret2
  exact RetF.mk HK.out.1 ⟨HK.out.2.1, HK.out.2.2.1, by unfold fU; rw [if_pos HK.out.2.2.2]; rfl⟩
 ·obtain ⟨b', iv', rfl, hq⟩ := hq
  rename_i hlt
  have HK := qH (And.intro hk (And.intro hr1 (And.intro hr2 (And.intro hlt hq)))); clear hk hr1 hr2 hlt hq
  go_wp2
  go_ret2
  exact RetF.mk HK.out.1 ⟨HK.out.2.1, HK.out.2.2.1, by unfold fU; rw [if_neg HK.out.2.2.2.1]; exact ⟨_, _, rfl, HK.out.2.2.2.2⟩⟩
theorem sT (a : Int) (w : World) (ha : a < 0 \/ 64 < a) : Calls Tryz.prog 85 #[.int .i64 a] w (Ret (.tuple #[.pointer none, .int .i64 2]) w) := by
 by_cases h0 : a < 0
 ·have t1 : decide (a < 0) = true := by simp [h0]
  go_enter Tryz.func85, Tryz.ntmps85
  go_wp2
  go_ret2
  exact Ret.mk rfl
 ·have h1 : 64 < a := by omega
  have t1 : decide (a < 0) = false := by simp; omega
  have t2 : decide (a > 64) = true := by simp; omega
  have t3 : decide (64 < a) = true := by simp; omega
  go_enter Tryz.func85, Tryz.ntmps85
  go_wp2
  go_ret2
  exact Ret.mk rfl
end
end Go.Proofs.YtinnmeiphbdogaaGreat
