/- Texts joined for a claim (Match, AllWalk, Over, Each, JoinHead, HeadWalk, FactsAux, FactsPlain, FactsRound, Facts, JoinSmall, JColl). -/
import Derived.Test.YtinnmeiphbdogaaGreatRu7
import Derived.Laws.Concat
/- join: match: a rule's matcher. -/
namespace Go.Proofs.YtinnmeiphbdogaaGreat
open Go.RowKit Go.Shelf
set_option linter.unusedVariables false
attribute [local go_sem] Oper.semAt_some
theorem elem_rowI : ElemT Tryz.prog 169 173 1 24 (.slice none 0 0) := ⟨by kernel_rfl, by kernel_rfl, rfl, by decide⟩
theorem elem_rowT : ElemT Tryz.prog 170 214 1 24 (.slice none 0 0) := ⟨by kernel_rfl, by kernel_rfl, rfl, by decide⟩
def rowsR (Es : Nat -> List Ent) (ls : List LitZ) (j : Nat) : Rows2 := optLL (findE (Es j) ((ls[j]?.map predOf).getD ByteArray.empty))
theorem last_ge {N : List ByteArray} {l : LitZ} : -1 ≤ lastL N l := by
 have hi : ∀ t, -1 ≤ idxT N t := fun t => by
  unfold idxT
  split <;> omega
 unfold lastL
 split
 ·split <;> omega
 ·have := hi (leftOf l); have := hi (rightOf l); omega
theorem lit64 {r : RuleZ} (h : checkR r = 0) {l : LitZ} (hl : l ∈ r.2.1) (hk : l.1 = 1 \/ l.1 = 2) : (termsOf l).length ≤ 64 := by
 unfold checkR at h
 split at h
 ·rename_i hp
  unfold parted at hp
  rw [Bool.and_eq_true] at hp
  have h1 := List.all_eq_true.1 hp.2 l hl
  unfold litOk at h1
  rw [if_pos hk, Bool.and_eq_true] at h1
  exact of_decide_eq_true h1.1
 ·cases h
def MatchTo (w0 : World) (mb ab sb : Nat) (na : Option Addr) (nc : Nat) (ls : List LitZ) (Es : Nat -> List Ent) (n : Nat) (jv : Value) (W : World) : Prop :=
 ∃ (i : Nat) (Ts : List TrieZ) (tests : Nat -> List TestZ) (tv : Value) (av sv : Nat -> Value), i ≤ n /\ jv = .int .i64 i /\ Hid (MatSt (fun _ => False) w0.heap.size w0 W mb ab sb (namesB ls).length na nc Ts (atL Ts) tests tv av sv) /\ Hid (MatIs (namesB ls) ls (rowsR Es ls) i Ts tests) /\ Hid (Ts.length ≤ i /\ ∀ k, (tests k).length ≤ i)
theorem match_held {lo : Nat} {w0 W W2 : World} {mb ab sb nv nv' nc : Nat} {na : Option Addr} {Ts : List TrieZ} {ats : Nat -> List Nat} {tests : Nat -> List TestZ} {tv : Value} {av sv : Nat -> Value} {P : Nat -> World -> Prop} (h : MatSt (fun _ => False) lo w0 W mb ab sb nv na nc Ts ats tests tv av sv) (hx : Ext W W2) (hf : Fast W.drew.heap.size W2.heap.size W2 (P nv')) (e : nv = nv') (hsz : W.drew.heap.size ≤ W2.heap.size) :
 HeldF lo (MOwnE (fun _ => False) mb ab sb nv tv av sv) W2 (P nv) := by
 subst e
 have hd : W.heap.size ≤ W.drew.heap.size := ((Kp.refl (F := fun _ => False) W).drew).size
 refine ⟨W.drew.heap.size, W2.heap.size, ?_, Nat.le_refl _, hf, fun k hk hab => ?_⟩
 ·have h1 := h.new.1
  have h2 := h.box.lt
  omega
 ·rcases hk with hk | hk
  ·have := h.lt k hk; omega
  ·exact hk
theorem match_boxA {W1 w4 : World} {P : World -> Prop} {a : Nat} {x y : Value} (hx : Ext W1 w4) (hf : Fast a w4.heap.size w4 P) (ha : W1.heap.size ≤ a) (ha2 : a ≤ w4.heap.size) :
 ∃ a, W1.heap.size ≤ a /\ a ≤ (w4.alloc (.cells #[x, y] 175)).heap.size /\ Ext W1 (w4.alloc (.cells #[x, y] 175)) /\ Blk (w4.alloc (.cells #[x, y] 175)) w4.heap.size [x, y] 175 /\ Fast a (w4.alloc (.cells #[x, y] 175)).heap.size (w4.alloc (.cells #[x, y] 175)) P := by
 have h1 : Ext w4 (w4.alloc (.cells #[x, y] 175)) := (Kp.refl w4).alloc _
 exact ⟨a, ha, Nat.le_trans ha2 h1.size, hx.trans h1, Blk.new w4 _ _, (hf.ext h1).mono (Nat.le_refl _) h1.size⟩
theorem match_boxB {W1 w4 : World} {P : World -> Prop} {a g : Nat} {u v x y : Value} (hB : Blk w4 g [u, v] 175) (hx : Ext W1 w4) (hf : Fast a w4.heap.size w4 P) (hg : W1.heap.size ≤ g) (hga : g < a) (ha2 : a ≤ w4.heap.size) :
 ∃ a, W1.heap.size ≤ a /\ a ≤ ((w4.setCell ⟨g, 0, none⟩ x).setCell ⟨g, 1, none⟩ y).heap.size /\ Ext W1 ((w4.setCell ⟨g, 0, none⟩ x).setCell ⟨g, 1, none⟩ y) /\ Blk ((w4.setCell ⟨g, 0, none⟩ x).setCell ⟨g, 1, none⟩ y) g [x, y] 175 /\ Fast a ((w4.setCell ⟨g, 0, none⟩ x).setCell ⟨g, 1, none⟩ y).heap.size ((w4.setCell ⟨g, 0, none⟩ x).setCell ⟨g, 1, none⟩ y) P := by
 have h1 : Kp (fun k => k = g) w4 ((w4.setCell ⟨g, 0, none⟩ x).setCell ⟨g, 1, none⟩ y) := Kp.setCell (F := fun k => k = g) (p := ⟨g, 1, none⟩) (Kp.setCell (F := fun k => k = g) (p := ⟨g, 0, none⟩) (Kp.refl w4) (fun _ => rfl) _) (fun _ => rfl) _
 refine ⟨a, by omega, Nat.le_trans ha2 h1.size, hx.trans' h1 fun i hi e => by have e' : i = g := e; omega, (hB.set 0 x).set 1 y, (hf.kp h1 fun k e => by have e' : k = g := e; omega).mono (Nat.le_refl _) h1.size⟩
theorem match_held2 {lo : Nat} {w0 W W2 : World} {mb ab sb nv nc a : Nat} {na : Option Addr} {Ts : List TrieZ} {ats : Nat -> List Nat} {tests : Nat -> List TestZ} {tv : Value} {av sv : Nat -> Value} {P : World -> Prop} (h : MatSt (fun _ => False) lo w0 W mb ab sb nv na nc Ts ats tests tv av sv) (ha : W.heap.size ≤ a) (hf : Fast a W2.heap.size W2 P) :
 HeldF lo (MOwnE (fun _ => False) mb ab sb nv tv av sv) W2 P := by
 refine ⟨a, W2.heap.size, ?_, Nat.le_refl _, hf, fun k hk hab => ?_⟩
 ·have h1 := h.new.1
  have h2 := h.box.lt
  omega
 ·rcases hk with hk | hk
  ·have := h.lt k hk; omega
  ·exact hk
set_option maxRecDepth 100000 in
theorem put0_any {w : World} {mb rb vc : Nat} {va : Option Addr} : Calls Tryz.prog 118 #[.pointer (some ⟨mb, 0, none⟩), .agg #[.slice va 0 vc, .pointer (some ⟨rb, 0, none⟩)]] w fun e w' => e = .returned (.tuple #[]) /\ Ext w w' := by
 obtain ⟨gb, egb⟩ : ∃ g, w.heap.size = g := ⟨_, rfl⟩
 obtain ⟨w1, e1⟩ : ∃ x, w.alloc (.cells #[.slice va 0 vc, .pointer (some ⟨rb, 0, none⟩)] 175) = x := ⟨_, rfl⟩
 have b0 : w1.cell? ⟨gb, 0, none⟩ = some (.slice va 0 vc) := by rw [<- e1, <- egb, (Blk.new w [.slice va 0 vc, .pointer (some ⟨rb, 0, none⟩)] 175).cell']; rfl
 have x1 := Lib.hid (show Ext w w1 from by rw [<- e1]; exact (Kp.refl w).alloc _)
 go_enter Tryz.func118, Tryz.ntmps118
 go_wp2
 refine bodyPost_ret (results_none rfl _ _ _) rfl ?_
 exact ⟨rfl, x1.out⟩
def MatchV (w0 w : World) (r : RuleZ) (Es : Nat -> List Ent) (v : Value) : Prop :=
 (v = .pointer none /\ (checkR r ≠ 0 \/ ∀ V, ¬ BindOk r.2.1 (rowsR Es r.2.1) V)) \/
 ∃ mb Ts tests A, v = .pointer (some ⟨mb, 0, none⟩) /\ checkR r = 0 /\ MatIs (namesB r.2.1) r.2.1 (rowsR Es r.2.1) r.2.1.length Ts tests /\ Fast w0.heap.size w.heap.size w fun W => MatchAt W mb ⟨namesB r.2.1, Ts, tests⟩ A
set_option maxRecDepth 100000 in
set_option maxHeartbeats 4000000 in
theorem match_any {w : World} {p : ByteArray} {hs : List TermZ} {ls : List LitZ} {ha ba bsa : Option Addr} {hn hcap n bcap nb bsc : Nat} {G : Nat -> Prop} {bvs : List Value} {Es : Nat -> List Ent} (hhn : hn = hs.length) (hh : TermsAt w G ha hs) (hhl : hn ≤ 1048576) (hbn : n = ls.length) (h : LitsAt w G ba ls) (hf : Fit ls) (hnv : (namesB ls).length ≤ 1048576) (hn16 : n ≤ 1048576)
 (hnb : nb = bvs.length) (hbs : CellsAt w bsa bvs) (hB : ∀ j, ∃ S, BaseV S w (bvs.getD j (.pointer none)) (Es j)) :
 Calls Tryz.prog 81 #[ruleV p ha hn hcap ba n bcap, .slice bsa nb bsc] w (RetN w fun w' v => MatchV w w' ((p, hs, ()), ls, ()) Es v) := by
 have HCh := Lib.hid (fun W (hW : Ext w W) => check_any p hs ls ha hn hcap ba n bcap W G hhn (hh.ext hW) hhl hbn (h.ext hW) hf)
 have HVa := Lib.hid (fun W (hW : Ext w W) => vars_any p ha hn hcap ls ba n bcap W G hbn (h.ext hW) hf)
 have HL := Lib.hid (And.intro hbn (And.intro h hf))
 have HBs := Lib.hid (And.intro hnb (And.intro hbs hB))
 obtain ⟨cR, ecR⟩ : ∃ c, checkR ((p, hs, ()), ls, ()) = c := ⟨_, rfl⟩
 rw [ecR] at HCh
 have HC := Lib.hid ecR
 obtain ⟨gb, egb⟩ : ∃ g, w.heap.size = g := ⟨_, rfl⟩
 obtain ⟨w1, e1⟩ : ∃ x, w.alloc (.cells #[.string p, .slice ha hn hcap, .slice ba n bcap] 27) = x := ⟨_, rfl⟩
 have x1 : Ext w w1 := by rw [<- e1]; exact (Kp.refl w).alloc _
 have hB1 : Blk w1 gb [.string p, .slice ha hn hcap, .slice ba n bcap] 27 := by rw [<- e1, <- egb]; exact Blk.new w _ _
 have H1 := Lib.hid (And.intro x1 hB1)
 have r0 : w1.cell? ⟨gb, 0, none⟩ = some (.string p) := by rw [hB1.cell']; rfl
 have r1 : w1.cell? ⟨gb, 1, none⟩ = some (.slice ha hn hcap) := by rw [hB1.cell']; rfl
 have r2 : w1.cell? ⟨gb, 2, none⟩ = some (.slice ba n bcap) := by rw [hB1.cell']; rfl
 clear hhn hh hbn h hf hnb hbs hB ecR x1 hB1
 go_enter Tryz.func81, Tryz.ntmps81
 go_wp2_with fail
 clear e1
 refine (HCh.out w1 H1.out.1).mono ?_
 rintro e w2 ⟨v2, rfl, hk2, rfl⟩
 have H2 := Lib.hid (And.intro (H1.out.1.trans hk2) (H1.out.2.ext hk2))
 by_cases hc : cR = 0
 ·have HC0 := Lib.hid hc
  subst hc
  have q0 : w2.cell? ⟨gb, 0, none⟩ = some (.string p) := hk2.cell r0 id
  have q1 : w2.cell? ⟨gb, 1, none⟩ = some (.slice ha hn hcap) := hk2.cell r1 id
  have q2 : w2.cell? ⟨gb, 2, none⟩ = some (.slice ba n bcap) := hk2.cell r2 id
  clear hk2 r0 r1 r2
  go_wp2_with fail
  refine (HVa.out w2 H2.out.1).mono ?_
  rintro e w3 ⟨v3, rfl, hk3, na, nc, rfl, hnc, hna⟩
  obtain ⟨nv, env⟩ : ∃ k, (namesB ls).length = k := ⟨_, rfl⟩
  rw [env] at hnv hnc ⊢
  have H3 := Lib.hid (And.intro (H2.out.1.trans hk3) (And.intro (H2.out.2.ext hk3) (And.intro hna env)))
  obtain ⟨mb, emb⟩ : ∃ g, w3.heap.size = g := ⟨_, rfl⟩
  have hmk1 := fun W => make_run (P := Tryz.prog) elem_rowI (c := .slice none 0 0) rfl nv (by omega) (by unfold maxLen; omega) W
  have hmk2 := fun W => make_run (P := Tryz.prog) elem_rowT (c := .slice none 0 0) rfl (nv + 1) (by omega) (by unfold maxLen; omega) W
  simp only [Nat.mul_one] at hmk1 hmk2
  have hwn : IntKind.i64.wrap ((nv : Int) + 1) = (nv : Int) + 1 := IntWalk.i64_in _ (by omega)
  have ewn : ((nv + 1 : Nat) : Int) = (nv : Int) + 1 := by omega
  simp only [ewn] at hmk2
  clear ewn
  have q3 : ∀ o1 o2 o3, (((w3.alloc o1).alloc o2).alloc o3).cell? ⟨gb, 2, none⟩ = some (.slice ba n bcap) := fun o1 o2 o3 => by rw [((((H3.out.2.1).alloc o1).alloc o2).alloc o3).cell']; rfl
  clear hk3 q0 q1 q2 hnc hna
  go_wp2
  clear hmk1 hmk2 hwn q3 egb
  obtain ⟨x1, ex1⟩ : ∃ x, w3.alloc (.cells #[.slice na nv nc, .slice none 0 0, .slice (some ⟨mb + 1, 0, none⟩) nv nv, .slice (some ⟨mb + 1 + 1, 0, none⟩) (nv + 1) (nv + 1)] 172) = x := ⟨_, rfl⟩
  rw [ex1]
  obtain ⟨x2, ex2⟩ : ∃ x, x1.alloc (.cells (Array.replicate nv (.slice none 0 0)) 173) = x := ⟨_, rfl⟩
  rw [ex2]
  obtain ⟨x3, ex3⟩ : ∃ x, x2.alloc (.cells (Array.replicate (nv + 1) (.slice none 0 0)) 214) = x := ⟨_, rfl⟩
  rw [ex3]
  have hs1 : x1.heap.size = mb + 1 := by rw [<- ex1, alloc_size, emb]
  have hs2 : x2.heap.size = mb + 1 + 1 := by rw [<- ex2, alloc_size, hs1]
  have k1 : Ext w3 x1 := by rw [<- ex1]; exact (Kp.refl w3).alloc _
  have k2 : Ext x1 x2 := by rw [<- ex2]; exact (Kp.refl x1).alloc _
  have k3 : Ext x2 x3 := by rw [<- ex3]; exact (Kp.refl x2).alloc _
  have B1 : Blk x1 mb [.slice na nv nc, .slice none 0 0, .slice (some ⟨mb + 1, 0, none⟩) nv nv, .slice (some ⟨mb + 1 + 1, 0, none⟩) (nv + 1) (nv + 1)] 172 := by rw [<- ex1, <- emb]; exact Blk.new w3 _ _
  have B2 : Blk x2 (mb + 1) (List.replicate nv (.slice none 0 0)) 173 := by
   have h := Blk.new x1 (List.replicate nv (.slice none 0 0)) 173
   rw [List.toArray_replicate, ex2, hs1] at h
   exact h
  have B3 : Blk x3 (mb + 1 + 1) (List.replicate (nv + 1) (.slice none 0 0)) 214 := by
   have h := Blk.new x2 (List.replicate (nv + 1) (.slice none 0 0)) 214
   rw [List.toArray_replicate, ex3, hs2] at h
   exact h
  have HS := Lib.hid (show MatSt (fun _ => False) w3.heap.size w3 x3 mb (mb + 1) (mb + 1 + 1) (namesB ls).length na nc [] (atL []) (fun _ => []) (.slice none 0 0) (fun _ => .slice none 0 0) (fun _ => .slice none 0 0) from by
   rw [env]
   exact MatSt.start (B1.ext (k2.trans k3)) (B2.ext k3) B3 ⟨by omega, by omega, by omega⟩ (Nat.le_refl _) (k1.trans (k2.trans k3)))
  obtain ⟨ab, eab⟩ : ∃ x, mb + 1 = x := ⟨_, rfl⟩
  rw [eab] at HS ⊢
  obtain ⟨sb, esb⟩ : ∃ x, ab + 1 = x := ⟨_, rfl⟩
  rw [esb] at HS ⊢
  have HG := Lib.hid (And.intro emb (And.intro eab esb))
  clear ex1 ex2 ex3 hs1 hs2 k1 k2 k3 B1 B2 B3 emb eab esb
  go_loopw [39] (fun jv wk => MatchTo w3 mb ab sb na nc ls Es n jv wk) (fun jv _ => n - (intOf jv).toNat)
  case atStart => exact ⟨0, [], _, _, _, _, Nat.zero_le _, rfl, HS, Lib.hid MatIs.zero, Lib.hid ⟨Nat.le_refl _, fun _ => Nat.le_refl _⟩⟩
  case round =>
   obtain ⟨i, Ts, tests, tv, av, sv, hi, rfl, hM, hIs, hFew⟩ := hrel
   clear HS
   by_cases hlt : i < n
   ·obtain ⟨l, hl⟩ : ∃ l, ls[i]? = some l := ⟨_, List.getElem?_eq_getElem (by rw [<- HL.out.1]; exact hlt)⟩
    obtain ⟨b, off, a2, cap2, eba, hGb, hbl, hLi, c0, c1, c2, c3, c4, c5, c6, c7⟩ := lit_at (HL.out.2.1.ext H3.out.1) hl
    subst eba
    replace c0 := hM.out.kp.cell c0 id
    replace c1 := hM.out.kp.cell c1 id
    replace c2 := hM.out.kp.cell c2 id
    replace c3 := hM.out.kp.cell c3 id
    replace c4 := hM.out.kp.cell c4 id
    replace c5 := hM.out.kp.cell c5 id
    replace c6 := hM.out.kp.cell c6 id
    replace c7 := hM.out.kp.cell c7 id
    obtain ⟨m, em⟩ : ∃ m, (termsOf l).length = m := ⟨_, rfl⟩
    rw [em] at c2
    have HLi := Lib.hid hl
    have HLt := Lib.hid (And.intro hLi em)
    obtain ⟨lb, elb⟩ : ∃ g, wr.heap.size = g := ⟨_, rfl⟩
    obtain ⟨W1, eW1⟩ : ∃ x, wr.alloc (.cells #[.int .i64 l.1, .string (predOf l), .slice a2 m cap2, .int .i64 (opOf l), .int .i64 (leftOf l).1, .string (leftOf l).2.1, .int .i64 (rightOf l).1, .string (rightOf l).2.1] 40) = x := ⟨_, rfl⟩
    have HW := Lib.hid (show Blk W1 lb [.int .i64 l.1, .string (predOf l), .slice a2 m cap2, .int .i64 (opOf l), .int .i64 (leftOf l).1, .string (leftOf l).2.1, .int .i64 (rightOf l).1, .string (rightOf l).2.1] 40 /\ Ext wr W1 from
     ⟨by rw [<- eW1, <- elb]; exact Blk.new wr _ _, by rw [<- eW1]; exact (Kp.refl wr).alloc _⟩)
    have HM1 := Lib.hid (hM.out.ext HW.out.2)
    have l0 : W1.cell? ⟨lb, 0, none⟩ = some (.int .i64 l.1) := by rw [HW.out.1.cell']; rfl
    have HFew := hFew
    clear hGb hbl hLi hl em hi hM hFew
    have i1 : (i : Int) < (n : Int) := by omega
    by_cases hib : i < nb
    ·obtain ⟨bv, hbv⟩ : ∃ bv, bvs[i]? = some bv := ⟨_, List.getElem?_eq_getElem (by rw [<- HBs.out.1]; exact hib)⟩
     obtain ⟨yb, yo, eyb, yc⟩ := (HBs.out.2.1.ext (H3.out.1.trans HM1.out.kp)) i bv hbv
     subst eyb
     have i2 : (i : Int) < (nb : Int) := by omega
     have HBV := Lib.hid (show bvs.getD i (.pointer none) = bv from getD_some hbv)
     rcases kinds_ok (r := ((p, hs, ()), ls, ())) HC.out (List.mem_of_getElem? HLi.out) with hk3 | hk3 | hk3
     ·have HKd := Lib.hid hk3
      have hb3 : (l.1 == 1) = true := by simp [hk3]
      have hm64 : m ≤ 64 := by rw [<- HLt.out.2]; exact lit64 HC.out (List.mem_of_getElem? HLi.out) (by omega)
      have HLaid := Lib.hid (show ∀ W, Ext w3 W -> Calls Tryz.prog 117 #[.agg #[.string (predOf l), .slice a2 m cap2], bv, .slice na nv nc] W (RetN W fun w' v => ∃ va vc rb iv S', v = .agg #[.slice va (varsA (namesB ls) (termsOf l)).length vc, .pointer (some ⟨rb, 0, none⟩)] /\ Fast W.heap.size w'.heap.size w' fun X => TableAt S' X va rb iv (varsA (namesB ls) (termsOf l)) (tabA (namesB ls) (termsOf l) (rowsR Es ls i))) from fun W hW => by
       obtain ⟨Sb, hBb⟩ := HBs.out.2.2 i
       rw [HBV.out] at hBb
       have er : rowsR Es ls i = optLL (findE (Es i) (predOf l)) := by unfold rowsR; rw [HLi.out]; rfl
       rw [er]
       exact laid_any (hBb.ext (H3.out.1.trans hW)) HLt.out.2.symm (HLt.out.1.terms.kp hW fun _ _ h => h) hm64 env.symm (H3.out.2.2.1.ext hW) (namesB_nodup ls) (by omega))
      have HJ := Lib.hid (show ∀ w', Ext W1 w' -> (fun w' : World => w'.cell? ⟨lb, 1, none⟩ = some (.string (predOf l)) /\ w'.cell? ⟨lb, 2, none⟩ = some (.slice a2 m cap2) /\ w'.cell? ⟨mb, 0, none⟩ = some (.slice na nv nc)) w' from fun w' hw' => by
       have hb := HW.out.1.ext hw'
       exact ⟨by rw [hb.cell']; rfl, by rw [hb.cell']; rfl, by rw [(HM1.out.box.ext hw').cell', env]; rfl⟩)
      have hvl := varsA_few (ts := termsOf l) (namesB_nodup ls)
      rw [HLt.out.2] at hvl
      rw [hk3] at l0
      clear hk3
      go_wp2
      clear eW1
      refine draw_begin (fun w' : World => w'.cell? ⟨lb, 1, none⟩ = some (.string (predOf l)) /\ w'.cell? ⟨lb, 2, none⟩ = some (.slice a2 m cap2) /\ w'.cell? ⟨mb, 0, none⟩ = some (.slice na nv nc)) [9] (by kernel_rfl) (HJ.out _ (Kp.refl W1).drew) (fun hHeld => ?_)
      (refine draw_free (i := 0) (v := ?_) rfl ?_ ?_; rotate_left; (intro w; go_simp; try with_reducible rfl)); (try simp only [Act.put, List.setIfInBounds_toArray, List.set_cons_zero, List.set_cons_succ])
      (refine draw_in (i := 1) (v := ?_) rfl ?_ ?_; rotate_left; (intro w hSw; (try dsimp only at hSw); go_simp; try with_reducible rfl)); (try simp only [Act.put, List.setIfInBounds_toArray, List.set_cons_zero, List.set_cons_succ])
      (refine draw_free (i := 2) (v := ?_) rfl ?_ ?_; rotate_left; (intro w; go_simp; try with_reducible rfl)); (try simp only [Act.put, List.setIfInBounds_toArray, List.set_cons_zero, List.set_cons_succ])
      (refine draw_free (i := 3) (v := ?_) rfl ?_ ?_; rotate_left; (intro w; go_simp; try with_reducible rfl)); (try simp only [Act.put, List.setIfInBounds_toArray, List.set_cons_zero, List.set_cons_succ])
      (refine draw_free (i := 4) (v := ?_) rfl ?_ ?_; rotate_left; (intro w; go_simp; try with_reducible rfl)); (try simp only [Act.put, List.setIfInBounds_toArray, List.set_cons_zero, List.set_cons_succ])
      (refine draw_free (i := 5) (v := ?_) rfl ?_ ?_; rotate_left; (intro w; go_simp; try with_reducible rfl)); (try simp only [Act.put, List.setIfInBounds_toArray, List.set_cons_zero, List.set_cons_succ])
      (refine draw_in (i := 6) (v := ?_) rfl ?_ ?_; rotate_left; (intro w hSw; (try dsimp only at hSw); go_simp; try with_reducible rfl)); (try simp only [Act.put, List.setIfInBounds_toArray, List.set_cons_zero, List.set_cons_succ])
      refine draw_two (i := 7) (k := 8) ?_ ?_
      ·refine comes_turn (i := 7) rfl (fun K hK => ?_)
       go_simp
       (refine (HLaid.out _ (by first | exact HM1.out.kp.trans (Kp.refl W1).drew | exact HM1.out.kp.trans (((Kp.refl W1).drew).alloc _))).mono ?_; rintro e w4 ⟨v4, rfl, hk4, va, vc, rb, ivt, St, rfl, hft⟩; have X1 := Lib.hid (And.intro (show Ext W1 w4 from (by first | exact ((Kp.refl W1).drew).trans hk4 | exact (((Kp.refl W1).drew).alloc _).trans hk4)) (And.intro hk4 hft)); clear hk4 hft)
       go_wp2_with fail
       refine hK.out _ _ ?_ (fun hHeld => ?_)
       ·(try dsimp only); (exact HJ.out _ X1.out.1)
       clear hK K; (try simp only [Act.put, List.setIfInBounds_toArray, List.set_cons_zero, List.set_cons_succ])
       refine draw_one (i := 8) ?_
       refine comes_turn (i := 8) rfl (fun K hK => ?_)
       go_simp
       refine hK.out _ _ ?_ (fun hHeld => ?_)
       ·(try dsimp only); (first | exact HJ.out _ (((Kp.refl W1).drew).alloc _) | exact HJ.out _ (X1.out.1.alloc _))
       clear hK K; (try simp only [Act.put, List.setIfInBounds_toArray, List.set_cons_zero, List.set_cons_succ])
       refine draw_one (i := 9) ?_
       refine comes_late (i := 9) rfl (by kernel_rfl) (fun K hK => ?_)
       (first | (have hB9 := Lib.hid (show Blk w4 W1.heap.size [.slice none 0 0, .pointer none] 175 from (Blk.new W1.drew [.slice none 0 0, .pointer none] 175).ext X1.out.2.1); have c90 : w4.cell? ⟨W1.heap.size, 0, none⟩ = some (.slice none 0 0) := (by rw [hB9.out.cell']; rfl); have c91 : w4.cell? ⟨W1.heap.size, 1, none⟩ = some (.pointer none) := (by rw [hB9.out.cell']; rfl); have f90 := hB9.out.free 0; have f91 := hB9.out.free 1) | skip)
       go_simp
       refine hK.out _ _ ?_
       clear hK K; (try simp only [Act.put, List.setIfInBounds_toArray, List.set_cons_zero, List.set_cons_succ])
       refine wpAnyD_done (by kernel_rfl) ?_ _
       clear hHeld
       first
        | (have HX5 := Lib.hid (match_boxA (x := .slice va (varsA (namesB ls) (termsOf l)).length vc) (y := .pointer (some ⟨rb, 0, none⟩)) X1.out.1 X1.out.2.2 (Kp.refl (F := fun _ => False) W1).drew.size X1.out.2.1.size)
           obtain ⟨tg, etg⟩ : ∃ z, w4.heap.size = z := ⟨_, rfl⟩
           obtain ⟨W5, eW5⟩ : ∃ z, w4.alloc (.cells #[.slice va (varsA (namesB ls) (termsOf l)).length vc, .pointer (some ⟨rb, 0, none⟩)] 175) = z := ⟨_, rfl⟩
           rw [eW5] at HX5 ⊢
           rw [etg] at HX5 ⊢
           clear eW5 etg)
        | (have HX5 := Lib.hid (match_boxB (x := .slice va (varsA (namesB ls) (termsOf l)).length vc) (y := .pointer (some ⟨rb, 0, none⟩)) hB9.out X1.out.1 X1.out.2.2 (Nat.le_refl _) (by show W1.heap.size < (W1.alloc _).heap.size; rw [alloc_size]; exact Nat.lt_succ_self _) X1.out.2.1.size)
           clear c90 c91 f90 f91
           obtain ⟨tg, etg⟩ : ∃ z, W1.heap.size = z := ⟨_, rfl⟩
           obtain ⟨W5, eW5⟩ : ∃ z, (w4.setCell ⟨W1.heap.size, 0, none⟩ (.slice va (varsA (namesB ls) (termsOf l)).length vc)).setCell ⟨W1.heap.size, 1, none⟩ (.pointer (some ⟨rb, 0, none⟩)) = z := ⟨_, rfl⟩
           rw [eW5] at HX5 ⊢
           have HTG := Lib.hid etg
           rw [etg] at HX5 ⊢
           clear eW5)
       have H5 := Lib.hid (show ∃ a, W1.heap.size ≤ a /\ a ≤ W5.heap.size /\ Ext W1 W5 /\ Blk W5 tg [.slice va (varsA (namesB ls) (termsOf l)).length vc, .pointer (some ⟨rb, 0, none⟩)] 175 /\ Fast a W5.heap.size W5 fun X => TableAt St X va rb ivt (varsA (namesB ls) (termsOf l)) (tabA (namesB ls) (termsOf l) (rowsR Es ls i)) from by
        obtain ⟨a, h1, h2⟩ := HX5.out
        refine ⟨a, ?_, h2⟩
        first
         | exact h1
         | (have h3 := HTG.out
            omega))
       clear HX5
       obtain ⟨a, ha1, ha2, hx5, hb5, hf5⟩ := H5.out
       obtain ⟨nV, enV⟩ : ∃ k, (varsA (namesB ls) (termsOf l)).length = k := ⟨_, rfl⟩
       obtain ⟨LLt, eLLt⟩ : ∃ L, tabA (namesB ls) (termsOf l) (rowsR Es ls i) = L := ⟨_, rfl⟩
       rw [eLLt] at hf5
       have hLLt : LLt.length ≤ 65536 := by
        obtain ⟨Sb, hBb⟩ := HBs.out.2.2 i
        have er : rowsR Es ls i = optLL (findE (Es i) (predOf l)) := by unfold rowsR; rw [HLi.out]; rfl
        have h1 := tab_few (namesB ls) (termsOf l) (rowsR Es ls i)
        rw [eLLt, er] at h1
        refine Nat.le_trans h1 ?_
        cases hfe : findE (Es i) (predOf l) with
        | none => exact Nat.zero_le _
        | some e => exact (hBb.ok.all _ (List.mem_map.2 ⟨e, (findE_some hfe).1, rfl⟩)).few
       have HLen := Lib.hid (rowsLen_q (z := False) hf5.here.rows.q)
       have t1 : W5.cell? ⟨tg, 1, none⟩ = some (.pointer (some ⟨rb, 0, none⟩)) := by rw [hb5.cell']; rfl
       have H6 := Lib.hid (And.intro ha1 (And.intro ha2 (And.intro hx5 (And.intro hb5 (And.intro hf5 (And.intro enV (And.intro eLLt hLLt)))))))
       rw [enV] at hvl
       clear ha1 ha2 hx5 hb5 hf5 H5 hLLt
       go_wp2_with fail
       refine HLen.out.mono ?_
       rintro e W6 ⟨v6, rfl, hk6, rfl, -⟩
       have hx6 := Kp.fq hk6
       obtain ⟨nL, enL⟩ : ∃ k, LLt.length = k := ⟨_, rfl⟩
       rw [enL]
       have HX6 := Lib.hid (And.intro hx6 enL)
       by_cases h0 : nL = 0
       ·subst h0
        have HNone := Lib.hid (show ∀ V, ¬ BindOk ls (rowsR Es ls) V from fun V hV => by
         have h1 := ((bind_iff (r := ((p, hs, ()), ls, ())) HC.out).1 hV).2 i l HLi.out
         unfold asksL at h1
         rw [if_pos HKd.out] at h1
         have h2 := H6.out.2.2.2.2.2.2.1
         have h3 : tabA (namesB ls) (termsOf l) (rowsR Es ls i) = [] := h2.trans (List.eq_nil_of_length_eq_zero HX6.out.2)
         exact absurd (show _ ∈ ([] : Rows2) from h3 ▸ h1) (by simp))
        clear hk6 hx6 enL t1
        go_wp2
        go_ret
        exact RetN.mk (H3.out.1.trans (HM1.out.kp.trans (H6.out.2.2.1.trans HX6.out.1))) (.inl ⟨rfl, .inr HNone.out⟩)
       ·have hn0 : ((nL : Int) == 0) = false := by simp; omega
        have HN0 := Lib.hid h0
        have u0 : W6.cell? ⟨tg, 0, none⟩ = some (.slice va nV vc) := by rw [(H6.out.2.2.2.1.ext hx6).cell', <- H6.out.2.2.2.2.2.1]; rfl
        have u1 : W6.cell? ⟨tg, 1, none⟩ = some (.pointer (some ⟨rb, 0, none⟩)) := by rw [(H6.out.2.2.2.1.ext hx6).cell']; rfl
        have HM6 := Lib.hid (HM1.out.ext (H6.out.2.2.1.trans hx6))
        have hFw := HFew.out
        by_cases hv0 : nV = 0
        ·subst hv0
         have hvn : varsA (namesB ls) (termsOf l) = [] := List.eq_nil_of_length_eq_zero H6.out.2.2.2.2.2.1
         have HP := Lib.hid (MatIs.none hIs.out HLi.out HKd.out hvn (by
          have h2 := H6.out.2.2.2.2.2.2.1
          rw [h2, HX6.out.2]
          exact Nat.pos_of_ne_zero HN0.out))
         clear hk6 hx6 enL t1 hvn h0
         go_wp2_with fail
         refine (put0_any (w := W6) (mb := mb) (rb := rb) (vc := vc) (va := va)).mono ?_
         rintro e W7 ⟨rfl, hx7⟩
         have HM7 := Lib.hid (HM6.out.ext hx7)
         have HFx := Lib.hid (show Ts.length ≤ i + 1 /\ ∀ k, (tests k).length ≤ i + 1 from ⟨by omega, fun k => by have := hFw.2 k; omega⟩)
         clear hx7 hFw
         go_wp2
         go_roundw
         case rel => exact ⟨i + 1, Ts, tests, tv, av, sv, by omega, by first | rfl | (congr 1; done) | (congr 1; omega), HM7, HP, HFx⟩
         case measure => simp [intOf]; omega
        ·have HV0 := Lib.hid hv0
         have HT := Lib.hid (match_held2 HM1.out (W2 := W6) (a := a) (P := fun X => TableAt St X va rb ivt (varsA (namesB ls) (termsOf l)) LLt) H6.out.1 ((H6.out.2.2.2.2.1.ext hx6).mono (Nat.le_refl _) hx6.size))
         clear hk6 hx6 enL t1 h0
         go_wp2_with fail
         refine (put_any HM6.out HT.out (fun _ h => h.elim) H6.out.2.2.2.2.2.1.symm (by omega) (by omega) (fun v hv => (vars_mem.1 hv).1) ((List.nodup_range).filter _) (fun x hx => by
          have h2 := H6.out.2.2.2.2.2.2.1
          rw [<- h2] at hx
          rw [tab_len hx]; exact H6.out.2.2.2.2.2.1) H6.out.2.2.2.2.2.2.2 (by omega) (by omega) (fun v => by have := atL_few Ts v; omega)).mono ?_
         rintro e W7 ⟨rfl, tb, tv2, av2, hM7⟩
         have HM7 := Lib.hid (hM7.congr (ats' := atL (Ts ++ [⟨tb, varsA (namesB ls) (termsOf l), LLt⟩])) (fun v _ => by rw [atL_snoc]) (fun _ _ => rfl))
         have HP := Lib.hid (MatIs.put hIs.out HLi.out HKd.out (fun e => HV0.out (by rw [<- H6.out.2.2.2.2.2.1, e]; rfl)) (by
          have h2 := H6.out.2.2.2.2.2.2.1
          rw [h2, HX6.out.2]
          exact Nat.pos_of_ne_zero HN0.out) (t := ⟨tb, varsA (namesB ls) (termsOf l), LLt⟩) rfl H6.out.2.2.2.2.2.2.1.symm)
         have HFx := Lib.hid (show (Ts ++ [(⟨tb, varsA (namesB ls) (termsOf l), LLt⟩ : TrieZ)]).length ≤ i + 1 /\ ∀ k, (tests k).length ≤ i + 1 from ⟨by rw [List.length_append, List.length_singleton]; omega, fun k => by have := hFw.2 k; omega⟩)
         clear hM7 hFw
         go_wp2
         go_roundw
         case rel => exact ⟨i + 1, _, tests, tv2, av2, sv, by omega, by first | rfl | (congr 1; done) | (congr 1; omega), HM7, HP, HFx⟩
         case measure => simp [intOf]; omega
      ·refine comes_turn (i := 8) rfl (fun K hK => ?_)
       go_simp
       refine hK.out _ _ ?_ (fun hHeld => ?_)
       ·(try dsimp only); (first | exact HJ.out _ (((Kp.refl W1).drew).alloc _) | exact HJ.out _ (X1.out.1.alloc _))
       clear hK K; (try simp only [Act.put, List.setIfInBounds_toArray, List.set_cons_zero, List.set_cons_succ])
       refine draw_one (i := 7) ?_
       refine comes_turn (i := 7) rfl (fun K hK => ?_)
       go_simp
       (refine (HLaid.out _ (by first | exact HM1.out.kp.trans (Kp.refl W1).drew | exact HM1.out.kp.trans (((Kp.refl W1).drew).alloc _))).mono ?_; rintro e w4 ⟨v4, rfl, hk4, va, vc, rb, ivt, St, rfl, hft⟩; have X1 := Lib.hid (And.intro (show Ext W1 w4 from (by first | exact ((Kp.refl W1).drew).trans hk4 | exact (((Kp.refl W1).drew).alloc _).trans hk4)) (And.intro hk4 hft)); clear hk4 hft)
       go_wp2_with fail
       refine hK.out _ _ ?_ (fun hHeld => ?_)
       ·(try dsimp only); (exact HJ.out _ X1.out.1)
       clear hK K; (try simp only [Act.put, List.setIfInBounds_toArray, List.set_cons_zero, List.set_cons_succ])
       refine draw_one (i := 9) ?_
       refine comes_late (i := 9) rfl (by kernel_rfl) (fun K hK => ?_)
       (first | (have hB9 := Lib.hid (show Blk w4 W1.heap.size [.slice none 0 0, .pointer none] 175 from (Blk.new W1.drew [.slice none 0 0, .pointer none] 175).ext X1.out.2.1); have c90 : w4.cell? ⟨W1.heap.size, 0, none⟩ = some (.slice none 0 0) := (by rw [hB9.out.cell']; rfl); have c91 : w4.cell? ⟨W1.heap.size, 1, none⟩ = some (.pointer none) := (by rw [hB9.out.cell']; rfl); have f90 := hB9.out.free 0; have f91 := hB9.out.free 1) | skip)
       go_simp
       refine hK.out _ _ ?_
       clear hK K; (try simp only [Act.put, List.setIfInBounds_toArray, List.set_cons_zero, List.set_cons_succ])
       refine wpAnyD_done (by kernel_rfl) ?_ _
       clear hHeld
       first
        | (have HX5 := Lib.hid (match_boxA (x := .slice va (varsA (namesB ls) (termsOf l)).length vc) (y := .pointer (some ⟨rb, 0, none⟩)) X1.out.1 X1.out.2.2 (Kp.refl (F := fun _ => False) W1).drew.size X1.out.2.1.size)
           obtain ⟨tg, etg⟩ : ∃ z, w4.heap.size = z := ⟨_, rfl⟩
           obtain ⟨W5, eW5⟩ : ∃ z, w4.alloc (.cells #[.slice va (varsA (namesB ls) (termsOf l)).length vc, .pointer (some ⟨rb, 0, none⟩)] 175) = z := ⟨_, rfl⟩
           rw [eW5] at HX5 ⊢
           rw [etg] at HX5 ⊢
           clear eW5 etg)
        | (have HX5 := Lib.hid (match_boxB (x := .slice va (varsA (namesB ls) (termsOf l)).length vc) (y := .pointer (some ⟨rb, 0, none⟩)) hB9.out X1.out.1 X1.out.2.2 (Nat.le_refl _) (by show W1.heap.size < (W1.alloc _).heap.size; rw [alloc_size]; exact Nat.lt_succ_self _) X1.out.2.1.size)
           clear c90 c91 f90 f91
           obtain ⟨tg, etg⟩ : ∃ z, W1.heap.size = z := ⟨_, rfl⟩
           obtain ⟨W5, eW5⟩ : ∃ z, (w4.setCell ⟨W1.heap.size, 0, none⟩ (.slice va (varsA (namesB ls) (termsOf l)).length vc)).setCell ⟨W1.heap.size, 1, none⟩ (.pointer (some ⟨rb, 0, none⟩)) = z := ⟨_, rfl⟩
           rw [eW5] at HX5 ⊢
           have HTG := Lib.hid etg
           rw [etg] at HX5 ⊢
           clear eW5)
       have H5 := Lib.hid (show ∃ a, W1.heap.size ≤ a /\ a ≤ W5.heap.size /\ Ext W1 W5 /\ Blk W5 tg [.slice va (varsA (namesB ls) (termsOf l)).length vc, .pointer (some ⟨rb, 0, none⟩)] 175 /\ Fast a W5.heap.size W5 fun X => TableAt St X va rb ivt (varsA (namesB ls) (termsOf l)) (tabA (namesB ls) (termsOf l) (rowsR Es ls i)) from by
        obtain ⟨a, h1, h2⟩ := HX5.out
        refine ⟨a, ?_, h2⟩
        first
         | exact h1
         | (have h3 := HTG.out
            omega))
       clear HX5
       obtain ⟨a, ha1, ha2, hx5, hb5, hf5⟩ := H5.out
       obtain ⟨nV, enV⟩ : ∃ k, (varsA (namesB ls) (termsOf l)).length = k := ⟨_, rfl⟩
       obtain ⟨LLt, eLLt⟩ : ∃ L, tabA (namesB ls) (termsOf l) (rowsR Es ls i) = L := ⟨_, rfl⟩
       rw [eLLt] at hf5
       have hLLt : LLt.length ≤ 65536 := by
        obtain ⟨Sb, hBb⟩ := HBs.out.2.2 i
        have er : rowsR Es ls i = optLL (findE (Es i) (predOf l)) := by unfold rowsR; rw [HLi.out]; rfl
        have h1 := tab_few (namesB ls) (termsOf l) (rowsR Es ls i)
        rw [eLLt, er] at h1
        refine Nat.le_trans h1 ?_
        cases hfe : findE (Es i) (predOf l) with
        | none => exact Nat.zero_le _
        | some e => exact (hBb.ok.all _ (List.mem_map.2 ⟨e, (findE_some hfe).1, rfl⟩)).few
       have HLen := Lib.hid (rowsLen_q (z := False) hf5.here.rows.q)
       have t1 : W5.cell? ⟨tg, 1, none⟩ = some (.pointer (some ⟨rb, 0, none⟩)) := by rw [hb5.cell']; rfl
       have H6 := Lib.hid (And.intro ha1 (And.intro ha2 (And.intro hx5 (And.intro hb5 (And.intro hf5 (And.intro enV (And.intro eLLt hLLt)))))))
       rw [enV] at hvl
       clear ha1 ha2 hx5 hb5 hf5 H5 hLLt
       go_wp2_with fail
       refine HLen.out.mono ?_
       rintro e W6 ⟨v6, rfl, hk6, rfl, -⟩
       have hx6 := Kp.fq hk6
       obtain ⟨nL, enL⟩ : ∃ k, LLt.length = k := ⟨_, rfl⟩
       rw [enL]
       have HX6 := Lib.hid (And.intro hx6 enL)
       by_cases h0 : nL = 0
       ·subst h0
        have HNone := Lib.hid (show ∀ V, ¬ BindOk ls (rowsR Es ls) V from fun V hV => by
         have h1 := ((bind_iff (r := ((p, hs, ()), ls, ())) HC.out).1 hV).2 i l HLi.out
         unfold asksL at h1
         rw [if_pos HKd.out] at h1
         have h2 := H6.out.2.2.2.2.2.2.1
         have h3 : tabA (namesB ls) (termsOf l) (rowsR Es ls i) = [] := h2.trans (List.eq_nil_of_length_eq_zero HX6.out.2)
         exact absurd (show _ ∈ ([] : Rows2) from h3 ▸ h1) (by simp))
        clear hk6 hx6 enL t1
        go_wp2
        go_ret
        exact RetN.mk (H3.out.1.trans (HM1.out.kp.trans (H6.out.2.2.1.trans HX6.out.1))) (.inl ⟨rfl, .inr HNone.out⟩)
       ·have hn0 : ((nL : Int) == 0) = false := by simp; omega
        have HN0 := Lib.hid h0
        have u0 : W6.cell? ⟨tg, 0, none⟩ = some (.slice va nV vc) := by rw [(H6.out.2.2.2.1.ext hx6).cell', <- H6.out.2.2.2.2.2.1]; rfl
        have u1 : W6.cell? ⟨tg, 1, none⟩ = some (.pointer (some ⟨rb, 0, none⟩)) := by rw [(H6.out.2.2.2.1.ext hx6).cell']; rfl
        have HM6 := Lib.hid (HM1.out.ext (H6.out.2.2.1.trans hx6))
        have hFw := HFew.out
        by_cases hv0 : nV = 0
        ·subst hv0
         have hvn : varsA (namesB ls) (termsOf l) = [] := List.eq_nil_of_length_eq_zero H6.out.2.2.2.2.2.1
         have HP := Lib.hid (MatIs.none hIs.out HLi.out HKd.out hvn (by
          have h2 := H6.out.2.2.2.2.2.2.1
          rw [h2, HX6.out.2]
          exact Nat.pos_of_ne_zero HN0.out))
         clear hk6 hx6 enL t1 hvn h0
         go_wp2_with fail
         refine (put0_any (w := W6) (mb := mb) (rb := rb) (vc := vc) (va := va)).mono ?_
         rintro e W7 ⟨rfl, hx7⟩
         have HM7 := Lib.hid (HM6.out.ext hx7)
         have HFx := Lib.hid (show Ts.length ≤ i + 1 /\ ∀ k, (tests k).length ≤ i + 1 from ⟨by omega, fun k => by have := hFw.2 k; omega⟩)
         clear hx7 hFw
         go_wp2
         go_roundw
         case rel => exact ⟨i + 1, Ts, tests, tv, av, sv, by omega, by first | rfl | (congr 1; done) | (congr 1; omega), HM7, HP, HFx⟩
         case measure => simp [intOf]; omega
        ·have HV0 := Lib.hid hv0
         have HT := Lib.hid (match_held2 HM1.out (W2 := W6) (a := a) (P := fun X => TableAt St X va rb ivt (varsA (namesB ls) (termsOf l)) LLt) H6.out.1 ((H6.out.2.2.2.2.1.ext hx6).mono (Nat.le_refl _) hx6.size))
         clear hk6 hx6 enL t1 h0
         go_wp2_with fail
         refine (put_any HM6.out HT.out (fun _ h => h.elim) H6.out.2.2.2.2.2.1.symm (by omega) (by omega) (fun v hv => (vars_mem.1 hv).1) ((List.nodup_range).filter _) (fun x hx => by
          have h2 := H6.out.2.2.2.2.2.2.1
          rw [<- h2] at hx
          rw [tab_len hx]; exact H6.out.2.2.2.2.2.1) H6.out.2.2.2.2.2.2.2 (by omega) (by omega) (fun v => by have := atL_few Ts v; omega)).mono ?_
         rintro e W7 ⟨rfl, tb, tv2, av2, hM7⟩
         have HM7 := Lib.hid (hM7.congr (ats' := atL (Ts ++ [⟨tb, varsA (namesB ls) (termsOf l), LLt⟩])) (fun v _ => by rw [atL_snoc]) (fun _ _ => rfl))
         have HP := Lib.hid (MatIs.put hIs.out HLi.out HKd.out (fun e => HV0.out (by rw [<- H6.out.2.2.2.2.2.1, e]; rfl)) (by
          have h2 := H6.out.2.2.2.2.2.2.1
          rw [h2, HX6.out.2]
          exact Nat.pos_of_ne_zero HN0.out) (t := ⟨tb, varsA (namesB ls) (termsOf l), LLt⟩) rfl H6.out.2.2.2.2.2.2.1.symm)
         have HFx := Lib.hid (show (Ts ++ [(⟨tb, varsA (namesB ls) (termsOf l), LLt⟩ : TrieZ)]).length ≤ i + 1 /\ ∀ k, (tests k).length ≤ i + 1 from ⟨by rw [List.length_append, List.length_singleton]; omega, fun k => by have := hFw.2 k; omega⟩)
         clear hM7 hFw
         go_wp2
         go_roundw
         case rel => exact ⟨i + 1, _, tests, tv2, av2, sv, by omega, by first | rfl | (congr 1; done) | (congr 1; omega), HM7, HP, HFx⟩
         case measure => simp [intOf]; omega
     ·have HKd := Lib.hid hk3
      have hb3 : (l.1 == 1) = false := by simp [hk3]
      have hb4 : (l.1 == 2) = true := by simp [hk3]
      have hm64 : m ≤ 64 := by rw [<- HLt.out.2]; exact lit64 HC.out (List.mem_of_getElem? HLi.out) (by omega)
      have HLaid := Lib.hid (show ∀ W, Ext w3 W -> Calls Tryz.prog 117 #[.agg #[.string (predOf l), .slice a2 m cap2], bv, .slice na nv nc] W (RetN W fun w' v => ∃ va vc rb iv S', v = .agg #[.slice va (varsA (namesB ls) (termsOf l)).length vc, .pointer (some ⟨rb, 0, none⟩)] /\ Fast W.heap.size w'.heap.size w' fun X => TableAt S' X va rb iv (varsA (namesB ls) (termsOf l)) (tabA (namesB ls) (termsOf l) (rowsR Es ls i))) from fun W hW => by
       obtain ⟨Sb, hBb⟩ := HBs.out.2.2 i
       rw [HBV.out] at hBb
       have er : rowsR Es ls i = optLL (findE (Es i) (predOf l)) := by unfold rowsR; rw [HLi.out]; rfl
       rw [er]
       exact laid_any (hBb.ext (H3.out.1.trans hW)) HLt.out.2.symm (HLt.out.1.terms.kp hW fun _ _ h => h) hm64 env.symm (H3.out.2.2.1.ext hW) (namesB_nodup ls) (by omega))
      obtain ⟨kx, ekx⟩ : ∃ kx : Nat, lastL (namesB ls) l + 1 = (kx : Int) := ⟨(lastL (namesB ls) l + 1).toNat, by have := last_ge (N := namesB ls) (l := l); omega⟩
      have hkn : kx < nv + 1 := by have := last_lt (N := namesB ls) (l := l); omega
      have HK := Lib.hid (And.intro ekx hkn)
      have HJ := Lib.hid (show ∀ w', Ext W1 w' -> (fun w' : World => w'.cell? ⟨lb, 1, none⟩ = some (.string (predOf l)) /\ w'.cell? ⟨lb, 2, none⟩ = some (.slice a2 m cap2) /\ w'.cell? ⟨mb, 0, none⟩ = some (.slice na nv nc)) w' from fun w' hw' => by
       have hb := HW.out.1.ext hw'
       exact ⟨by rw [hb.cell']; rfl, by rw [hb.cell']; rfl, by rw [(HM1.out.box.ext hw').cell', env]; rfl⟩)
      have hvl := varsA_few (ts := termsOf l) (namesB_nodup ls)
      rw [HLt.out.2] at hvl
      rw [hk3] at l0
      clear ekx hkn hk3
      go_wp2
      clear eW1
      refine draw_begin (fun w' : World => w'.cell? ⟨lb, 1, none⟩ = some (.string (predOf l)) /\ w'.cell? ⟨lb, 2, none⟩ = some (.slice a2 m cap2) /\ w'.cell? ⟨mb, 0, none⟩ = some (.slice na nv nc)) [10] (by kernel_rfl) (HJ.out _ (Kp.refl W1).drew) (fun hHeld => ?_)
      (refine draw_free (i := 0) (v := ?_) rfl ?_ ?_; rotate_left; (intro w; go_simp; try with_reducible rfl)); (try simp only [Act.put, List.setIfInBounds_toArray, List.set_cons_zero, List.set_cons_succ])
      (refine draw_free (i := 1) (v := ?_) rfl ?_ ?_; rotate_left; (intro w; go_simp; try with_reducible rfl)); (try simp only [Act.put, List.setIfInBounds_toArray, List.set_cons_zero, List.set_cons_succ])
      (refine draw_in (i := 2) (v := ?_) rfl ?_ ?_; rotate_left; (intro w hSw; (try dsimp only at hSw); go_simp; try with_reducible rfl)); (try simp only [Act.put, List.setIfInBounds_toArray, List.set_cons_zero, List.set_cons_succ])
      (refine draw_free (i := 3) (v := ?_) rfl ?_ ?_; rotate_left; (intro w; go_simp; try with_reducible rfl)); (try simp only [Act.put, List.setIfInBounds_toArray, List.set_cons_zero, List.set_cons_succ])
      (refine draw_free (i := 4) (v := ?_) rfl ?_ ?_; rotate_left; (intro w; go_simp; try with_reducible rfl)); (try simp only [Act.put, List.setIfInBounds_toArray, List.set_cons_zero, List.set_cons_succ])
      (refine draw_free (i := 5) (v := ?_) rfl ?_ ?_; rotate_left; (intro w; go_simp; try with_reducible rfl)); (try simp only [Act.put, List.setIfInBounds_toArray, List.set_cons_zero, List.set_cons_succ])
      (refine draw_free (i := 6) (v := ?_) rfl ?_ ?_; rotate_left; (intro w; go_simp; try with_reducible rfl)); (try simp only [Act.put, List.setIfInBounds_toArray, List.set_cons_zero, List.set_cons_succ])
      (refine draw_in (i := 7) (v := ?_) rfl ?_ ?_; rotate_left; (intro w hSw; (try dsimp only at hSw); go_simp; try with_reducible rfl)); (try simp only [Act.put, List.setIfInBounds_toArray, List.set_cons_zero, List.set_cons_succ])
      refine draw_one (i := 8) ?_
      refine comes_turn (i := 8) rfl (fun K hK => ?_)
      go_simp
      (refine (HLaid.out _ (HM1.out.kp.trans (Kp.refl W1).drew)).mono ?_; rintro e w4 ⟨v4, rfl, hk4, va, vc, rb, ivt, St, rfl, hft⟩; have X1 := Lib.hid (And.intro (show Ext W1 w4 from ((Kp.refl W1).drew).trans hk4) (And.intro hk4.size hft)); clear hk4 hft)
      go_wp2_with fail
      refine hK.out _ _ ?_ (fun hHeld => ?_)
      ·(try dsimp only); (exact HJ.out _ X1.out.1)
      clear hK K; (try simp only [Act.put, List.setIfInBounds_toArray, List.set_cons_zero, List.set_cons_succ])
      refine draw_one (i := 9) ?_
      refine comes_turn (i := 9) rfl (fun K hK => ?_)
      go_simp
      (refine (missing_any (nv := nv) (lo := W1.drew.heap.size) X1.out.2.2 rfl (by omega) (fun v hv => (by have := (vars_mem.1 hv).1; omega)) (by omega) X1.out.2.1).mono ?_; rintro e w5 ⟨v5, rfl, hk5, t, rfl, hlast, hask, hfast⟩; have X2 := Lib.hid (And.intro hk5 (And.intro hlast (And.intro hask hfast))); clear hk5 hlast hask hfast)
      go_wp2_with fail
      refine hK.out _ _ ?_ (fun hHeld => ?_)
      ·(try dsimp only); (exact HJ.out _ (X1.out.1.trans X2.out.1))
      clear hK K; (try simp only [Act.put, List.setIfInBounds_toArray, List.set_cons_zero, List.set_cons_succ])
      refine draw_one (i := 10) ?_
      refine comes_late (i := 10) rfl (by kernel_rfl) (fun K hK => ?_)
      go_simp
      (refine (add_any (k := kx) (L := t.last) (HM1.out.ext (X1.out.1.trans X2.out.1)) rfl (by rw [X2.out.2.1]; have h8 := HK.out.1; unfold lastL at h8; rw [if_pos HKd.out] at h8; exact h8) (by rw [env]; exact HK.out.2) (by omega) (match_held (P := fun nv W => TestOk W nv t) HM1.out (X1.out.1.trans X2.out.1) X2.out.2.2.2 env (Nat.le_trans X1.out.2.1 X2.out.1.size)) (by have := HFew.out.2 kx; omega)).mono ?_; rintro e w6 ⟨rfl, sv2, hM5⟩; have X5 := Lib.hid hM5; clear hM5)
      go_wp2_with fail
      refine hK.out _ _ ?_
      clear hK K; (try simp only [Act.put, List.setIfInBounds_toArray, List.set_cons_zero, List.set_cons_succ])
      refine wpAnyD_done (by kernel_rfl) ?_ _
      have hFw := HFew.out
      have HP := Lib.hid (MatIs.add hIs.out HLi.out (by rw [HKd.out]; decide) (t := t) (k := kx) (by rw [env]; have := HK.out.2; omega) (by have := HK.out.1; omega) fun V hV => by
       rw [X2.out.2.2.1 V, isIn_not cmpRow_ord cmpRow_tight]
       unfold asksL
       rw [if_neg (by rw [HKd.out]; decide), if_pos HKd.out])
      have HFx := Lib.hid (show Ts.length ≤ i + 1 /\ ∀ k, (updF tests kx (tests kx ++ [t]) k).length ≤ i + 1 from ⟨by omega, fun k => by
       by_cases e : k = kx
       ·rw [e, upd_same, List.length_append, List.length_singleton]; have := hFw.2 kx; omega
       ·rw [upd_other _ _ e]; have := hFw.2 k; omega⟩)
      clear hFw
      go_wp2
      go_roundw
      case rel => exact ⟨i + 1, Ts, _, tv, av, sv2, by omega, by first | rfl | (congr 1; done) | (congr 1; omega), X5, HP, HFx⟩
      case measure => simp [intOf]; omega
     ·have HCm := Lib.hid (fun W (hW : Ext w3 W) => compares_any (a := a2) (m := m) (cap := cap2) (nc := nc) (namesB ls) 3 (predOf l) (opOf l) (leftOf l).1 (leftOf l).2.1 (rightOf l).1 (rightOf l).2.1 H3.out.2.2.2.symm (H3.out.2.2.1.ext hW) (by omega))
      have HKd := Lib.hid hk3
      have hb3 : (l.1 == 1) = false := by simp [hk3]
      have hb4 : (l.1 == 2) = false := by simp [hk3]
      have hb5 : (l.1 == 3) = true := by simp [hk3]
      obtain ⟨kx, eK⟩ : ∃ kx : Nat, lastL (namesB ls) l + 1 = (kx : Int) := ⟨(lastL (namesB ls) l + 1).toNat, by have := last_ge (N := namesB ls) (l := l); omega⟩
      have hkxn : kx < nv + 1 := by have := last_lt (N := namesB ls) (l := l); omega
      have HK := Lib.hid (And.intro eK hkxn)
      have HJ := Lib.hid (show ∀ w', Ext W1 w' -> (fun w' : World => w'.cell? ⟨lb, 0, none⟩ = some (.int .i64 3) /\ w'.cell? ⟨lb, 1, none⟩ = some (.string (predOf l)) /\ w'.cell? ⟨lb, 2, none⟩ = some (.slice a2 m cap2) /\ w'.cell? ⟨lb, 3, none⟩ = some (.int .i64 (opOf l)) /\ w'.cell? ⟨lb, 4, none⟩ = some (.int .i64 (leftOf l).1) /\ w'.cell? ⟨lb, 5, none⟩ = some (.string (leftOf l).2.1) /\ w'.cell? ⟨lb, 6, none⟩ = some (.int .i64 (rightOf l).1) /\ w'.cell? ⟨lb, 7, none⟩ = some (.string (rightOf l).2.1) /\ w'.cell? ⟨mb, 0, none⟩ = some (.slice na nv nc)) w' from fun w' hw' => by
       have hb := HW.out.1.ext hw'
       rw [hk3] at hb
       exact ⟨by rw [hb.cell']; rfl, by rw [hb.cell']; rfl, by rw [hb.cell']; rfl, by rw [hb.cell']; rfl, by rw [hb.cell']; rfl, by rw [hb.cell']; rfl, by rw [hb.cell']; rfl, by rw [hb.cell']; rfl, by rw [(HM1.out.box.ext hw').cell', env]; rfl⟩)
      rw [hk3] at l0
      clear eK hkxn hk3
      go_wp2
      clear eW1
      refine draw_begin (fun w' : World => w'.cell? ⟨lb, 0, none⟩ = some (.int .i64 3) /\ w'.cell? ⟨lb, 1, none⟩ = some (.string (predOf l)) /\ w'.cell? ⟨lb, 2, none⟩ = some (.slice a2 m cap2) /\ w'.cell? ⟨lb, 3, none⟩ = some (.int .i64 (opOf l)) /\ w'.cell? ⟨lb, 4, none⟩ = some (.int .i64 (leftOf l).1) /\ w'.cell? ⟨lb, 5, none⟩ = some (.string (leftOf l).2.1) /\ w'.cell? ⟨lb, 6, none⟩ = some (.int .i64 (rightOf l).1) /\ w'.cell? ⟨lb, 7, none⟩ = some (.string (rightOf l).2.1) /\ w'.cell? ⟨mb, 0, none⟩ = some (.slice na nv nc)) [7] (by kernel_rfl) (HJ.out _ (Kp.refl W1).drew) (fun hHeld => ?_)
      (refine draw_free (i := 0) (v := ?_) rfl ?_ ?_; rotate_left; (intro w; go_simp; try with_reducible rfl)); (try simp only [Act.put, List.setIfInBounds_toArray, List.set_cons_zero, List.set_cons_succ])
      (refine draw_in (i := 1) (v := ?_) rfl ?_ ?_; rotate_left; (intro w hSw; (try dsimp only at hSw); go_simp; try with_reducible rfl)); (try simp only [Act.put, List.setIfInBounds_toArray, List.set_cons_zero, List.set_cons_succ])
      (refine draw_free (i := 2) (v := ?_) rfl ?_ ?_; rotate_left; (intro w; go_simp; try with_reducible rfl)); (try simp only [Act.put, List.setIfInBounds_toArray, List.set_cons_zero, List.set_cons_succ])
      (refine draw_free (i := 3) (v := ?_) rfl ?_ ?_; rotate_left; (intro w; go_simp; try with_reducible rfl)); (try simp only [Act.put, List.setIfInBounds_toArray, List.set_cons_zero, List.set_cons_succ])
      (refine draw_free (i := 4) (v := ?_) rfl ?_ ?_; rotate_left; (intro w; go_simp; try with_reducible rfl)); (try simp only [Act.put, List.setIfInBounds_toArray, List.set_cons_zero, List.set_cons_succ])
      (refine draw_in (i := 5) (v := ?_) rfl ?_ ?_; rotate_left; (intro w hSw; (try dsimp only at hSw); go_simp; try with_reducible rfl)); (try simp only [Act.put, List.setIfInBounds_toArray, List.set_cons_zero, List.set_cons_succ])
      refine draw_one (i := 6) ?_
      refine comes_turn (i := 6) rfl (fun K hK => ?_)
      go_simp
      (refine (HCm.out _ (HM1.out.kp.trans (Kp.refl W1).drew)).mono ?_; rintro e w4 ⟨v4, rfl, hk4, t, rfl, hlast, hask, hfast⟩; have X1 := Lib.hid (And.intro (show Ext W1 w4 from ((Kp.refl W1).drew).trans hk4) (And.intro hlast (And.intro hask (And.intro hk4.size hfast)))); clear hk4 hlast hask hfast)
      go_wp2_with fail
      refine hK.out _ _ ?_ (fun hHeld => ?_)
      ·(try dsimp only); (exact HJ.out _ X1.out.1)
      clear hK K; (try simp only [Act.put, List.setIfInBounds_toArray, List.set_cons_zero, List.set_cons_succ])
      refine draw_one (i := 7) ?_
      refine comes_late (i := 7) rfl (by kernel_rfl) (fun K hK => ?_)
      go_simp
      (refine (add_any (k := kx) (L := t.last) (HM1.out.ext X1.out.1) rfl (by rw [X1.out.2.1, place_idx (t := leftOf l), place_idx (t := rightOf l)]; have h8 := HK.out.1; unfold lastL at h8; rw [if_neg (by rw [HKd.out]; decide)] at h8; exact h8) (by rw [env]; exact HK.out.2) (by omega) (match_held (P := fun nv W => TestOk W nv t) HM1.out X1.out.1 X1.out.2.2.2.2 env X1.out.2.2.2.1) (by have := HFew.out.2 kx; omega)).mono ?_; rintro e w5 ⟨rfl, sv2, hM5⟩; have X5 := Lib.hid hM5; clear hM5)
      go_wp2_with fail
      refine hK.out _ _ ?_
      clear hK K; (try simp only [Act.put, List.setIfInBounds_toArray, List.set_cons_zero, List.set_cons_succ])
      refine wpAnyD_done (by kernel_rfl) ?_ _
      have hFw := HFew.out
      have HP := Lib.hid (MatIs.add hIs.out HLi.out (by rw [HKd.out]; decide) (t := t) (k := kx) (by rw [env]; have := HK.out.2; omega) (by have := HK.out.1; omega) fun V hV => by
       rw [X1.out.2.2.1 V, opB_iff]
       unfold asksL
       rw [if_neg (by rw [HKd.out]; decide), if_neg (by rw [HKd.out]; decide)]
       have hs := safe_cmp (r := ((p, hs, ()), ls, ())) HC.out (List.mem_of_getElem? HLi.out) HKd.out
       rw [<- pick_val (hs _ (.inl rfl)), <- pick_val (hs _ (.inr rfl))])
      have HFx := Lib.hid (show Ts.length ≤ i + 1 /\ ∀ k, (updF tests kx (tests kx ++ [t]) k).length ≤ i + 1 from ⟨by omega, fun k => by
       by_cases e : k = kx
       ·rw [e, upd_same, List.length_append, List.length_singleton]; have := hFw.2 kx; omega
       ·rw [upd_other _ _ e]; have := hFw.2 k; omega⟩)
      clear hFw
      go_wp2
      go_roundw
      case rel => exact ⟨i + 1, Ts, _, tv, av, sv2, by omega, by first | rfl | (congr 1; done) | (congr 1; omega), X5, HP, HFx⟩
      case measure => simp [intOf]; omega
    ·have hbs := HBs.out.1
     have hnb2 : nb ≤ i := by omega
     have HBV := Lib.hid (show bvs.getD i (.pointer none) = .pointer none from by rw [List.getD_eq_getElem?_getD, List.getElem?_eq_none (by omega)]; rfl)
     have i2 : ¬ (i : Int) < (nb : Int) := by omega
     clear hbs hnb2
     rcases kinds_ok (r := ((p, hs, ()), ls, ())) HC.out (List.mem_of_getElem? HLi.out) with hk3 | hk3 | hk3
     ·have HKd := Lib.hid hk3
      have hb3 : (l.1 == 1) = true := by simp [hk3]
      have hm64 : m ≤ 64 := by rw [<- HLt.out.2]; exact lit64 HC.out (List.mem_of_getElem? HLi.out) (by omega)
      have HLaid := Lib.hid (show ∀ W, Ext w3 W -> Calls Tryz.prog 117 #[.agg #[.string (predOf l), .slice a2 m cap2], (.pointer none), .slice na nv nc] W (RetN W fun w' v => ∃ va vc rb iv S', v = .agg #[.slice va (varsA (namesB ls) (termsOf l)).length vc, .pointer (some ⟨rb, 0, none⟩)] /\ Fast W.heap.size w'.heap.size w' fun X => TableAt S' X va rb iv (varsA (namesB ls) (termsOf l)) (tabA (namesB ls) (termsOf l) (rowsR Es ls i))) from fun W hW => by
       obtain ⟨Sb, hBb⟩ := HBs.out.2.2 i
       rw [HBV.out] at hBb
       have er : rowsR Es ls i = optLL (findE (Es i) (predOf l)) := by unfold rowsR; rw [HLi.out]; rfl
       rw [er]
       exact laid_any (hBb.ext (H3.out.1.trans hW)) HLt.out.2.symm (HLt.out.1.terms.kp hW fun _ _ h => h) hm64 env.symm (H3.out.2.2.1.ext hW) (namesB_nodup ls) (by omega))
      have HJ := Lib.hid (show ∀ w', Ext W1 w' -> (fun w' : World => w'.cell? ⟨lb, 1, none⟩ = some (.string (predOf l)) /\ w'.cell? ⟨lb, 2, none⟩ = some (.slice a2 m cap2) /\ w'.cell? ⟨mb, 0, none⟩ = some (.slice na nv nc)) w' from fun w' hw' => by
       have hb := HW.out.1.ext hw'
       exact ⟨by rw [hb.cell']; rfl, by rw [hb.cell']; rfl, by rw [(HM1.out.box.ext hw').cell', env]; rfl⟩)
      have hvl := varsA_few (ts := termsOf l) (namesB_nodup ls)
      rw [HLt.out.2] at hvl
      rw [hk3] at l0
      clear hk3
      go_wp2
      clear eW1
      refine draw_begin (fun w' : World => w'.cell? ⟨lb, 1, none⟩ = some (.string (predOf l)) /\ w'.cell? ⟨lb, 2, none⟩ = some (.slice a2 m cap2) /\ w'.cell? ⟨mb, 0, none⟩ = some (.slice na nv nc)) [9] (by kernel_rfl) (HJ.out _ (Kp.refl W1).drew) (fun hHeld => ?_)
      (refine draw_free (i := 0) (v := ?_) rfl ?_ ?_; rotate_left; (intro w; go_simp; try with_reducible rfl)); (try simp only [Act.put, List.setIfInBounds_toArray, List.set_cons_zero, List.set_cons_succ])
      (refine draw_in (i := 1) (v := ?_) rfl ?_ ?_; rotate_left; (intro w hSw; (try dsimp only at hSw); go_simp; try with_reducible rfl)); (try simp only [Act.put, List.setIfInBounds_toArray, List.set_cons_zero, List.set_cons_succ])
      (refine draw_free (i := 2) (v := ?_) rfl ?_ ?_; rotate_left; (intro w; go_simp; try with_reducible rfl)); (try simp only [Act.put, List.setIfInBounds_toArray, List.set_cons_zero, List.set_cons_succ])
      (refine draw_free (i := 3) (v := ?_) rfl ?_ ?_; rotate_left; (intro w; go_simp; try with_reducible rfl)); (try simp only [Act.put, List.setIfInBounds_toArray, List.set_cons_zero, List.set_cons_succ])
      (refine draw_free (i := 4) (v := ?_) rfl ?_ ?_; rotate_left; (intro w; go_simp; try with_reducible rfl)); (try simp only [Act.put, List.setIfInBounds_toArray, List.set_cons_zero, List.set_cons_succ])
      (refine draw_free (i := 5) (v := ?_) rfl ?_ ?_; rotate_left; (intro w; go_simp; try with_reducible rfl)); (try simp only [Act.put, List.setIfInBounds_toArray, List.set_cons_zero, List.set_cons_succ])
      (refine draw_in (i := 6) (v := ?_) rfl ?_ ?_; rotate_left; (intro w hSw; (try dsimp only at hSw); go_simp; try with_reducible rfl)); (try simp only [Act.put, List.setIfInBounds_toArray, List.set_cons_zero, List.set_cons_succ])
      refine draw_two (i := 7) (k := 8) ?_ ?_
      ·refine comes_turn (i := 7) rfl (fun K hK => ?_)
       go_simp
       (refine (HLaid.out _ (by first | exact HM1.out.kp.trans (Kp.refl W1).drew | exact HM1.out.kp.trans (((Kp.refl W1).drew).alloc _))).mono ?_; rintro e w4 ⟨v4, rfl, hk4, va, vc, rb, ivt, St, rfl, hft⟩; have X1 := Lib.hid (And.intro (show Ext W1 w4 from (by first | exact ((Kp.refl W1).drew).trans hk4 | exact (((Kp.refl W1).drew).alloc _).trans hk4)) (And.intro hk4 hft)); clear hk4 hft)
       go_wp2_with fail
       refine hK.out _ _ ?_ (fun hHeld => ?_)
       ·(try dsimp only); (exact HJ.out _ X1.out.1)
       clear hK K; (try simp only [Act.put, List.setIfInBounds_toArray, List.set_cons_zero, List.set_cons_succ])
       refine draw_one (i := 8) ?_
       refine comes_turn (i := 8) rfl (fun K hK => ?_)
       go_simp
       refine hK.out _ _ ?_ (fun hHeld => ?_)
       ·(try dsimp only); (first | exact HJ.out _ (((Kp.refl W1).drew).alloc _) | exact HJ.out _ (X1.out.1.alloc _))
       clear hK K; (try simp only [Act.put, List.setIfInBounds_toArray, List.set_cons_zero, List.set_cons_succ])
       refine draw_one (i := 9) ?_
       refine comes_late (i := 9) rfl (by kernel_rfl) (fun K hK => ?_)
       (first | (have hB9 := Lib.hid (show Blk w4 W1.heap.size [.slice none 0 0, .pointer none] 175 from (Blk.new W1.drew [.slice none 0 0, .pointer none] 175).ext X1.out.2.1); have c90 : w4.cell? ⟨W1.heap.size, 0, none⟩ = some (.slice none 0 0) := (by rw [hB9.out.cell']; rfl); have c91 : w4.cell? ⟨W1.heap.size, 1, none⟩ = some (.pointer none) := (by rw [hB9.out.cell']; rfl); have f90 := hB9.out.free 0; have f91 := hB9.out.free 1) | skip)
       go_simp
       refine hK.out _ _ ?_
       clear hK K; (try simp only [Act.put, List.setIfInBounds_toArray, List.set_cons_zero, List.set_cons_succ])
       refine wpAnyD_done (by kernel_rfl) ?_ _
       clear hHeld
       first
        | (have HX5 := Lib.hid (match_boxA (x := .slice va (varsA (namesB ls) (termsOf l)).length vc) (y := .pointer (some ⟨rb, 0, none⟩)) X1.out.1 X1.out.2.2 (Kp.refl (F := fun _ => False) W1).drew.size X1.out.2.1.size)
           obtain ⟨tg, etg⟩ : ∃ z, w4.heap.size = z := ⟨_, rfl⟩
           obtain ⟨W5, eW5⟩ : ∃ z, w4.alloc (.cells #[.slice va (varsA (namesB ls) (termsOf l)).length vc, .pointer (some ⟨rb, 0, none⟩)] 175) = z := ⟨_, rfl⟩
           rw [eW5] at HX5 ⊢
           rw [etg] at HX5 ⊢
           clear eW5 etg)
        | (have HX5 := Lib.hid (match_boxB (x := .slice va (varsA (namesB ls) (termsOf l)).length vc) (y := .pointer (some ⟨rb, 0, none⟩)) hB9.out X1.out.1 X1.out.2.2 (Nat.le_refl _) (by show W1.heap.size < (W1.alloc _).heap.size; rw [alloc_size]; exact Nat.lt_succ_self _) X1.out.2.1.size)
           clear c90 c91 f90 f91
           obtain ⟨tg, etg⟩ : ∃ z, W1.heap.size = z := ⟨_, rfl⟩
           obtain ⟨W5, eW5⟩ : ∃ z, (w4.setCell ⟨W1.heap.size, 0, none⟩ (.slice va (varsA (namesB ls) (termsOf l)).length vc)).setCell ⟨W1.heap.size, 1, none⟩ (.pointer (some ⟨rb, 0, none⟩)) = z := ⟨_, rfl⟩
           rw [eW5] at HX5 ⊢
           have HTG := Lib.hid etg
           rw [etg] at HX5 ⊢
           clear eW5)
       have H5 := Lib.hid (show ∃ a, W1.heap.size ≤ a /\ a ≤ W5.heap.size /\ Ext W1 W5 /\ Blk W5 tg [.slice va (varsA (namesB ls) (termsOf l)).length vc, .pointer (some ⟨rb, 0, none⟩)] 175 /\ Fast a W5.heap.size W5 fun X => TableAt St X va rb ivt (varsA (namesB ls) (termsOf l)) (tabA (namesB ls) (termsOf l) (rowsR Es ls i)) from by
        obtain ⟨a, h1, h2⟩ := HX5.out
        refine ⟨a, ?_, h2⟩
        first
         | exact h1
         | (have h3 := HTG.out
            omega))
       clear HX5
       obtain ⟨a, ha1, ha2, hx5, hb5, hf5⟩ := H5.out
       obtain ⟨nV, enV⟩ : ∃ k, (varsA (namesB ls) (termsOf l)).length = k := ⟨_, rfl⟩
       obtain ⟨LLt, eLLt⟩ : ∃ L, tabA (namesB ls) (termsOf l) (rowsR Es ls i) = L := ⟨_, rfl⟩
       rw [eLLt] at hf5
       have hLLt : LLt.length ≤ 65536 := by
        obtain ⟨Sb, hBb⟩ := HBs.out.2.2 i
        have er : rowsR Es ls i = optLL (findE (Es i) (predOf l)) := by unfold rowsR; rw [HLi.out]; rfl
        have h1 := tab_few (namesB ls) (termsOf l) (rowsR Es ls i)
        rw [eLLt, er] at h1
        refine Nat.le_trans h1 ?_
        cases hfe : findE (Es i) (predOf l) with
        | none => exact Nat.zero_le _
        | some e => exact (hBb.ok.all _ (List.mem_map.2 ⟨e, (findE_some hfe).1, rfl⟩)).few
       have HLen := Lib.hid (rowsLen_q (z := False) hf5.here.rows.q)
       have t1 : W5.cell? ⟨tg, 1, none⟩ = some (.pointer (some ⟨rb, 0, none⟩)) := by rw [hb5.cell']; rfl
       have H6 := Lib.hid (And.intro ha1 (And.intro ha2 (And.intro hx5 (And.intro hb5 (And.intro hf5 (And.intro enV (And.intro eLLt hLLt)))))))
       rw [enV] at hvl
       clear ha1 ha2 hx5 hb5 hf5 H5 hLLt
       go_wp2_with fail
       refine HLen.out.mono ?_
       rintro e W6 ⟨v6, rfl, hk6, rfl, -⟩
       have hx6 := Kp.fq hk6
       obtain ⟨nL, enL⟩ : ∃ k, LLt.length = k := ⟨_, rfl⟩
       rw [enL]
       have HX6 := Lib.hid (And.intro hx6 enL)
       by_cases h0 : nL = 0
       ·subst h0
        have HNone := Lib.hid (show ∀ V, ¬ BindOk ls (rowsR Es ls) V from fun V hV => by
         have h1 := ((bind_iff (r := ((p, hs, ()), ls, ())) HC.out).1 hV).2 i l HLi.out
         unfold asksL at h1
         rw [if_pos HKd.out] at h1
         have h2 := H6.out.2.2.2.2.2.2.1
         have h3 : tabA (namesB ls) (termsOf l) (rowsR Es ls i) = [] := h2.trans (List.eq_nil_of_length_eq_zero HX6.out.2)
         exact absurd (show _ ∈ ([] : Rows2) from h3 ▸ h1) (by simp))
        clear hk6 hx6 enL t1
        go_wp2
        go_ret
        exact RetN.mk (H3.out.1.trans (HM1.out.kp.trans (H6.out.2.2.1.trans HX6.out.1))) (.inl ⟨rfl, .inr HNone.out⟩)
       ·have hn0 : ((nL : Int) == 0) = false := by simp; omega
        have HN0 := Lib.hid h0
        have u0 : W6.cell? ⟨tg, 0, none⟩ = some (.slice va nV vc) := by rw [(H6.out.2.2.2.1.ext hx6).cell', <- H6.out.2.2.2.2.2.1]; rfl
        have u1 : W6.cell? ⟨tg, 1, none⟩ = some (.pointer (some ⟨rb, 0, none⟩)) := by rw [(H6.out.2.2.2.1.ext hx6).cell']; rfl
        have HM6 := Lib.hid (HM1.out.ext (H6.out.2.2.1.trans hx6))
        have hFw := HFew.out
        by_cases hv0 : nV = 0
        ·subst hv0
         have hvn : varsA (namesB ls) (termsOf l) = [] := List.eq_nil_of_length_eq_zero H6.out.2.2.2.2.2.1
         have HP := Lib.hid (MatIs.none hIs.out HLi.out HKd.out hvn (by
          have h2 := H6.out.2.2.2.2.2.2.1
          rw [h2, HX6.out.2]
          exact Nat.pos_of_ne_zero HN0.out))
         clear hk6 hx6 enL t1 hvn h0
         go_wp2_with fail
         refine (put0_any (w := W6) (mb := mb) (rb := rb) (vc := vc) (va := va)).mono ?_
         rintro e W7 ⟨rfl, hx7⟩
         have HM7 := Lib.hid (HM6.out.ext hx7)
         have HFx := Lib.hid (show Ts.length ≤ i + 1 /\ ∀ k, (tests k).length ≤ i + 1 from ⟨by omega, fun k => by have := hFw.2 k; omega⟩)
         clear hx7 hFw
         go_wp2
         go_roundw
         case rel => exact ⟨i + 1, Ts, tests, tv, av, sv, by omega, by first | rfl | (congr 1; done) | (congr 1; omega), HM7, HP, HFx⟩
         case measure => simp [intOf]; omega
        ·have HV0 := Lib.hid hv0
         have HT := Lib.hid (match_held2 HM1.out (W2 := W6) (a := a) (P := fun X => TableAt St X va rb ivt (varsA (namesB ls) (termsOf l)) LLt) H6.out.1 ((H6.out.2.2.2.2.1.ext hx6).mono (Nat.le_refl _) hx6.size))
         clear hk6 hx6 enL t1 h0
         go_wp2_with fail
         refine (put_any HM6.out HT.out (fun _ h => h.elim) H6.out.2.2.2.2.2.1.symm (by omega) (by omega) (fun v hv => (vars_mem.1 hv).1) ((List.nodup_range).filter _) (fun x hx => by
          have h2 := H6.out.2.2.2.2.2.2.1
          rw [<- h2] at hx
          rw [tab_len hx]; exact H6.out.2.2.2.2.2.1) H6.out.2.2.2.2.2.2.2 (by omega) (by omega) (fun v => by have := atL_few Ts v; omega)).mono ?_
         rintro e W7 ⟨rfl, tb, tv2, av2, hM7⟩
         have HM7 := Lib.hid (hM7.congr (ats' := atL (Ts ++ [⟨tb, varsA (namesB ls) (termsOf l), LLt⟩])) (fun v _ => by rw [atL_snoc]) (fun _ _ => rfl))
         have HP := Lib.hid (MatIs.put hIs.out HLi.out HKd.out (fun e => HV0.out (by rw [<- H6.out.2.2.2.2.2.1, e]; rfl)) (by
          have h2 := H6.out.2.2.2.2.2.2.1
          rw [h2, HX6.out.2]
          exact Nat.pos_of_ne_zero HN0.out) (t := ⟨tb, varsA (namesB ls) (termsOf l), LLt⟩) rfl H6.out.2.2.2.2.2.2.1.symm)
         have HFx := Lib.hid (show (Ts ++ [(⟨tb, varsA (namesB ls) (termsOf l), LLt⟩ : TrieZ)]).length ≤ i + 1 /\ ∀ k, (tests k).length ≤ i + 1 from ⟨by rw [List.length_append, List.length_singleton]; omega, fun k => by have := hFw.2 k; omega⟩)
         clear hM7 hFw
         go_wp2
         go_roundw
         case rel => exact ⟨i + 1, _, tests, tv2, av2, sv, by omega, by first | rfl | (congr 1; done) | (congr 1; omega), HM7, HP, HFx⟩
         case measure => simp [intOf]; omega
      ·refine comes_turn (i := 8) rfl (fun K hK => ?_)
       go_simp
       refine hK.out _ _ ?_ (fun hHeld => ?_)
       ·(try dsimp only); (first | exact HJ.out _ (((Kp.refl W1).drew).alloc _) | exact HJ.out _ (X1.out.1.alloc _))
       clear hK K; (try simp only [Act.put, List.setIfInBounds_toArray, List.set_cons_zero, List.set_cons_succ])
       refine draw_one (i := 7) ?_
       refine comes_turn (i := 7) rfl (fun K hK => ?_)
       go_simp
       (refine (HLaid.out _ (by first | exact HM1.out.kp.trans (Kp.refl W1).drew | exact HM1.out.kp.trans (((Kp.refl W1).drew).alloc _))).mono ?_; rintro e w4 ⟨v4, rfl, hk4, va, vc, rb, ivt, St, rfl, hft⟩; have X1 := Lib.hid (And.intro (show Ext W1 w4 from (by first | exact ((Kp.refl W1).drew).trans hk4 | exact (((Kp.refl W1).drew).alloc _).trans hk4)) (And.intro hk4 hft)); clear hk4 hft)
       go_wp2_with fail
       refine hK.out _ _ ?_ (fun hHeld => ?_)
       ·(try dsimp only); (exact HJ.out _ X1.out.1)
       clear hK K; (try simp only [Act.put, List.setIfInBounds_toArray, List.set_cons_zero, List.set_cons_succ])
       refine draw_one (i := 9) ?_
       refine comes_late (i := 9) rfl (by kernel_rfl) (fun K hK => ?_)
       (first | (have hB9 := Lib.hid (show Blk w4 W1.heap.size [.slice none 0 0, .pointer none] 175 from (Blk.new W1.drew [.slice none 0 0, .pointer none] 175).ext X1.out.2.1); have c90 : w4.cell? ⟨W1.heap.size, 0, none⟩ = some (.slice none 0 0) := (by rw [hB9.out.cell']; rfl); have c91 : w4.cell? ⟨W1.heap.size, 1, none⟩ = some (.pointer none) := (by rw [hB9.out.cell']; rfl); have f90 := hB9.out.free 0; have f91 := hB9.out.free 1) | skip)
       go_simp
       refine hK.out _ _ ?_
       clear hK K; (try simp only [Act.put, List.setIfInBounds_toArray, List.set_cons_zero, List.set_cons_succ])
       refine wpAnyD_done (by kernel_rfl) ?_ _
       clear hHeld
       first
        | (have HX5 := Lib.hid (match_boxA (x := .slice va (varsA (namesB ls) (termsOf l)).length vc) (y := .pointer (some ⟨rb, 0, none⟩)) X1.out.1 X1.out.2.2 (Kp.refl (F := fun _ => False) W1).drew.size X1.out.2.1.size)
           obtain ⟨tg, etg⟩ : ∃ z, w4.heap.size = z := ⟨_, rfl⟩
           obtain ⟨W5, eW5⟩ : ∃ z, w4.alloc (.cells #[.slice va (varsA (namesB ls) (termsOf l)).length vc, .pointer (some ⟨rb, 0, none⟩)] 175) = z := ⟨_, rfl⟩
           rw [eW5] at HX5 ⊢
           rw [etg] at HX5 ⊢
           clear eW5 etg)
        | (have HX5 := Lib.hid (match_boxB (x := .slice va (varsA (namesB ls) (termsOf l)).length vc) (y := .pointer (some ⟨rb, 0, none⟩)) hB9.out X1.out.1 X1.out.2.2 (Nat.le_refl _) (by show W1.heap.size < (W1.alloc _).heap.size; rw [alloc_size]; exact Nat.lt_succ_self _) X1.out.2.1.size)
           clear c90 c91 f90 f91
           obtain ⟨tg, etg⟩ : ∃ z, W1.heap.size = z := ⟨_, rfl⟩
           obtain ⟨W5, eW5⟩ : ∃ z, (w4.setCell ⟨W1.heap.size, 0, none⟩ (.slice va (varsA (namesB ls) (termsOf l)).length vc)).setCell ⟨W1.heap.size, 1, none⟩ (.pointer (some ⟨rb, 0, none⟩)) = z := ⟨_, rfl⟩
           rw [eW5] at HX5 ⊢
           have HTG := Lib.hid etg
           rw [etg] at HX5 ⊢
           clear eW5)
       have H5 := Lib.hid (show ∃ a, W1.heap.size ≤ a /\ a ≤ W5.heap.size /\ Ext W1 W5 /\ Blk W5 tg [.slice va (varsA (namesB ls) (termsOf l)).length vc, .pointer (some ⟨rb, 0, none⟩)] 175 /\ Fast a W5.heap.size W5 fun X => TableAt St X va rb ivt (varsA (namesB ls) (termsOf l)) (tabA (namesB ls) (termsOf l) (rowsR Es ls i)) from by
        obtain ⟨a, h1, h2⟩ := HX5.out
        refine ⟨a, ?_, h2⟩
        first
         | exact h1
         | (have h3 := HTG.out
            omega))
       clear HX5
       obtain ⟨a, ha1, ha2, hx5, hb5, hf5⟩ := H5.out
       obtain ⟨nV, enV⟩ : ∃ k, (varsA (namesB ls) (termsOf l)).length = k := ⟨_, rfl⟩
       obtain ⟨LLt, eLLt⟩ : ∃ L, tabA (namesB ls) (termsOf l) (rowsR Es ls i) = L := ⟨_, rfl⟩
       rw [eLLt] at hf5
       have hLLt : LLt.length ≤ 65536 := by
        obtain ⟨Sb, hBb⟩ := HBs.out.2.2 i
        have er : rowsR Es ls i = optLL (findE (Es i) (predOf l)) := by unfold rowsR; rw [HLi.out]; rfl
        have h1 := tab_few (namesB ls) (termsOf l) (rowsR Es ls i)
        rw [eLLt, er] at h1
        refine Nat.le_trans h1 ?_
        cases hfe : findE (Es i) (predOf l) with
        | none => exact Nat.zero_le _
        | some e => exact (hBb.ok.all _ (List.mem_map.2 ⟨e, (findE_some hfe).1, rfl⟩)).few
       have HLen := Lib.hid (rowsLen_q (z := False) hf5.here.rows.q)
       have t1 : W5.cell? ⟨tg, 1, none⟩ = some (.pointer (some ⟨rb, 0, none⟩)) := by rw [hb5.cell']; rfl
       have H6 := Lib.hid (And.intro ha1 (And.intro ha2 (And.intro hx5 (And.intro hb5 (And.intro hf5 (And.intro enV (And.intro eLLt hLLt)))))))
       rw [enV] at hvl
       clear ha1 ha2 hx5 hb5 hf5 H5 hLLt
       go_wp2_with fail
       refine HLen.out.mono ?_
       rintro e W6 ⟨v6, rfl, hk6, rfl, -⟩
       have hx6 := Kp.fq hk6
       obtain ⟨nL, enL⟩ : ∃ k, LLt.length = k := ⟨_, rfl⟩
       rw [enL]
       have HX6 := Lib.hid (And.intro hx6 enL)
       by_cases h0 : nL = 0
       ·subst h0
        have HNone := Lib.hid (show ∀ V, ¬ BindOk ls (rowsR Es ls) V from fun V hV => by
         have h1 := ((bind_iff (r := ((p, hs, ()), ls, ())) HC.out).1 hV).2 i l HLi.out
         unfold asksL at h1
         rw [if_pos HKd.out] at h1
         have h2 := H6.out.2.2.2.2.2.2.1
         have h3 : tabA (namesB ls) (termsOf l) (rowsR Es ls i) = [] := h2.trans (List.eq_nil_of_length_eq_zero HX6.out.2)
         exact absurd (show _ ∈ ([] : Rows2) from h3 ▸ h1) (by simp))
        clear hk6 hx6 enL t1
        go_wp2
        go_ret
        exact RetN.mk (H3.out.1.trans (HM1.out.kp.trans (H6.out.2.2.1.trans HX6.out.1))) (.inl ⟨rfl, .inr HNone.out⟩)
       ·have hn0 : ((nL : Int) == 0) = false := by simp; omega
        have HN0 := Lib.hid h0
        have u0 : W6.cell? ⟨tg, 0, none⟩ = some (.slice va nV vc) := by rw [(H6.out.2.2.2.1.ext hx6).cell', <- H6.out.2.2.2.2.2.1]; rfl
        have u1 : W6.cell? ⟨tg, 1, none⟩ = some (.pointer (some ⟨rb, 0, none⟩)) := by rw [(H6.out.2.2.2.1.ext hx6).cell']; rfl
        have HM6 := Lib.hid (HM1.out.ext (H6.out.2.2.1.trans hx6))
        have hFw := HFew.out
        by_cases hv0 : nV = 0
        ·subst hv0
         have hvn : varsA (namesB ls) (termsOf l) = [] := List.eq_nil_of_length_eq_zero H6.out.2.2.2.2.2.1
         have HP := Lib.hid (MatIs.none hIs.out HLi.out HKd.out hvn (by
          have h2 := H6.out.2.2.2.2.2.2.1
          rw [h2, HX6.out.2]
          exact Nat.pos_of_ne_zero HN0.out))
         clear hk6 hx6 enL t1 hvn h0
         go_wp2_with fail
         refine (put0_any (w := W6) (mb := mb) (rb := rb) (vc := vc) (va := va)).mono ?_
         rintro e W7 ⟨rfl, hx7⟩
         have HM7 := Lib.hid (HM6.out.ext hx7)
         have HFx := Lib.hid (show Ts.length ≤ i + 1 /\ ∀ k, (tests k).length ≤ i + 1 from ⟨by omega, fun k => by have := hFw.2 k; omega⟩)
         clear hx7 hFw
         go_wp2
         go_roundw
         case rel => exact ⟨i + 1, Ts, tests, tv, av, sv, by omega, by first | rfl | (congr 1; done) | (congr 1; omega), HM7, HP, HFx⟩
         case measure => simp [intOf]; omega
        ·have HV0 := Lib.hid hv0
         have HT := Lib.hid (match_held2 HM1.out (W2 := W6) (a := a) (P := fun X => TableAt St X va rb ivt (varsA (namesB ls) (termsOf l)) LLt) H6.out.1 ((H6.out.2.2.2.2.1.ext hx6).mono (Nat.le_refl _) hx6.size))
         clear hk6 hx6 enL t1 h0
         go_wp2_with fail
         refine (put_any HM6.out HT.out (fun _ h => h.elim) H6.out.2.2.2.2.2.1.symm (by omega) (by omega) (fun v hv => (vars_mem.1 hv).1) ((List.nodup_range).filter _) (fun x hx => by
          have h2 := H6.out.2.2.2.2.2.2.1
          rw [<- h2] at hx
          rw [tab_len hx]; exact H6.out.2.2.2.2.2.1) H6.out.2.2.2.2.2.2.2 (by omega) (by omega) (fun v => by have := atL_few Ts v; omega)).mono ?_
         rintro e W7 ⟨rfl, tb, tv2, av2, hM7⟩
         have HM7 := Lib.hid (hM7.congr (ats' := atL (Ts ++ [⟨tb, varsA (namesB ls) (termsOf l), LLt⟩])) (fun v _ => by rw [atL_snoc]) (fun _ _ => rfl))
         have HP := Lib.hid (MatIs.put hIs.out HLi.out HKd.out (fun e => HV0.out (by rw [<- H6.out.2.2.2.2.2.1, e]; rfl)) (by
          have h2 := H6.out.2.2.2.2.2.2.1
          rw [h2, HX6.out.2]
          exact Nat.pos_of_ne_zero HN0.out) (t := ⟨tb, varsA (namesB ls) (termsOf l), LLt⟩) rfl H6.out.2.2.2.2.2.2.1.symm)
         have HFx := Lib.hid (show (Ts ++ [(⟨tb, varsA (namesB ls) (termsOf l), LLt⟩ : TrieZ)]).length ≤ i + 1 /\ ∀ k, (tests k).length ≤ i + 1 from ⟨by rw [List.length_append, List.length_singleton]; omega, fun k => by have := hFw.2 k; omega⟩)
         clear hM7 hFw
         go_wp2
         go_roundw
         case rel => exact ⟨i + 1, _, tests, tv2, av2, sv, by omega, by first | rfl | (congr 1; done) | (congr 1; omega), HM7, HP, HFx⟩
         case measure => simp [intOf]; omega
     ·have HKd := Lib.hid hk3
      have hb3 : (l.1 == 1) = false := by simp [hk3]
      have hb4 : (l.1 == 2) = true := by simp [hk3]
      have hm64 : m ≤ 64 := by rw [<- HLt.out.2]; exact lit64 HC.out (List.mem_of_getElem? HLi.out) (by omega)
      have HLaid := Lib.hid (show ∀ W, Ext w3 W -> Calls Tryz.prog 117 #[.agg #[.string (predOf l), .slice a2 m cap2], (.pointer none), .slice na nv nc] W (RetN W fun w' v => ∃ va vc rb iv S', v = .agg #[.slice va (varsA (namesB ls) (termsOf l)).length vc, .pointer (some ⟨rb, 0, none⟩)] /\ Fast W.heap.size w'.heap.size w' fun X => TableAt S' X va rb iv (varsA (namesB ls) (termsOf l)) (tabA (namesB ls) (termsOf l) (rowsR Es ls i))) from fun W hW => by
       obtain ⟨Sb, hBb⟩ := HBs.out.2.2 i
       rw [HBV.out] at hBb
       have er : rowsR Es ls i = optLL (findE (Es i) (predOf l)) := by unfold rowsR; rw [HLi.out]; rfl
       rw [er]
       exact laid_any (hBb.ext (H3.out.1.trans hW)) HLt.out.2.symm (HLt.out.1.terms.kp hW fun _ _ h => h) hm64 env.symm (H3.out.2.2.1.ext hW) (namesB_nodup ls) (by omega))
      obtain ⟨kx, ekx⟩ : ∃ kx : Nat, lastL (namesB ls) l + 1 = (kx : Int) := ⟨(lastL (namesB ls) l + 1).toNat, by have := last_ge (N := namesB ls) (l := l); omega⟩
      have hkn : kx < nv + 1 := by have := last_lt (N := namesB ls) (l := l); omega
      have HK := Lib.hid (And.intro ekx hkn)
      have HJ := Lib.hid (show ∀ w', Ext W1 w' -> (fun w' : World => w'.cell? ⟨lb, 1, none⟩ = some (.string (predOf l)) /\ w'.cell? ⟨lb, 2, none⟩ = some (.slice a2 m cap2) /\ w'.cell? ⟨mb, 0, none⟩ = some (.slice na nv nc)) w' from fun w' hw' => by
       have hb := HW.out.1.ext hw'
       exact ⟨by rw [hb.cell']; rfl, by rw [hb.cell']; rfl, by rw [(HM1.out.box.ext hw').cell', env]; rfl⟩)
      have hvl := varsA_few (ts := termsOf l) (namesB_nodup ls)
      rw [HLt.out.2] at hvl
      rw [hk3] at l0
      clear ekx hkn hk3
      go_wp2
      clear eW1
      refine draw_begin (fun w' : World => w'.cell? ⟨lb, 1, none⟩ = some (.string (predOf l)) /\ w'.cell? ⟨lb, 2, none⟩ = some (.slice a2 m cap2) /\ w'.cell? ⟨mb, 0, none⟩ = some (.slice na nv nc)) [10] (by kernel_rfl) (HJ.out _ (Kp.refl W1).drew) (fun hHeld => ?_)
      (refine draw_free (i := 0) (v := ?_) rfl ?_ ?_; rotate_left; (intro w; go_simp; try with_reducible rfl)); (try simp only [Act.put, List.setIfInBounds_toArray, List.set_cons_zero, List.set_cons_succ])
      (refine draw_free (i := 1) (v := ?_) rfl ?_ ?_; rotate_left; (intro w; go_simp; try with_reducible rfl)); (try simp only [Act.put, List.setIfInBounds_toArray, List.set_cons_zero, List.set_cons_succ])
      (refine draw_in (i := 2) (v := ?_) rfl ?_ ?_; rotate_left; (intro w hSw; (try dsimp only at hSw); go_simp; try with_reducible rfl)); (try simp only [Act.put, List.setIfInBounds_toArray, List.set_cons_zero, List.set_cons_succ])
      (refine draw_free (i := 3) (v := ?_) rfl ?_ ?_; rotate_left; (intro w; go_simp; try with_reducible rfl)); (try simp only [Act.put, List.setIfInBounds_toArray, List.set_cons_zero, List.set_cons_succ])
      (refine draw_free (i := 4) (v := ?_) rfl ?_ ?_; rotate_left; (intro w; go_simp; try with_reducible rfl)); (try simp only [Act.put, List.setIfInBounds_toArray, List.set_cons_zero, List.set_cons_succ])
      (refine draw_free (i := 5) (v := ?_) rfl ?_ ?_; rotate_left; (intro w; go_simp; try with_reducible rfl)); (try simp only [Act.put, List.setIfInBounds_toArray, List.set_cons_zero, List.set_cons_succ])
      (refine draw_free (i := 6) (v := ?_) rfl ?_ ?_; rotate_left; (intro w; go_simp; try with_reducible rfl)); (try simp only [Act.put, List.setIfInBounds_toArray, List.set_cons_zero, List.set_cons_succ])
      (refine draw_in (i := 7) (v := ?_) rfl ?_ ?_; rotate_left; (intro w hSw; (try dsimp only at hSw); go_simp; try with_reducible rfl)); (try simp only [Act.put, List.setIfInBounds_toArray, List.set_cons_zero, List.set_cons_succ])
      refine draw_one (i := 8) ?_
      refine comes_turn (i := 8) rfl (fun K hK => ?_)
      go_simp
      (refine (HLaid.out _ (HM1.out.kp.trans (Kp.refl W1).drew)).mono ?_; rintro e w4 ⟨v4, rfl, hk4, va, vc, rb, ivt, St, rfl, hft⟩; have X1 := Lib.hid (And.intro (show Ext W1 w4 from ((Kp.refl W1).drew).trans hk4) (And.intro hk4.size hft)); clear hk4 hft)
      go_wp2_with fail
      refine hK.out _ _ ?_ (fun hHeld => ?_)
      ·(try dsimp only); (exact HJ.out _ X1.out.1)
      clear hK K; (try simp only [Act.put, List.setIfInBounds_toArray, List.set_cons_zero, List.set_cons_succ])
      refine draw_one (i := 9) ?_
      refine comes_turn (i := 9) rfl (fun K hK => ?_)
      go_simp
      (refine (missing_any (nv := nv) (lo := W1.drew.heap.size) X1.out.2.2 rfl (by omega) (fun v hv => (by have := (vars_mem.1 hv).1; omega)) (by omega) X1.out.2.1).mono ?_; rintro e w5 ⟨v5, rfl, hk5, t, rfl, hlast, hask, hfast⟩; have X2 := Lib.hid (And.intro hk5 (And.intro hlast (And.intro hask hfast))); clear hk5 hlast hask hfast)
      go_wp2_with fail
      refine hK.out _ _ ?_ (fun hHeld => ?_)
      ·(try dsimp only); (exact HJ.out _ (X1.out.1.trans X2.out.1))
      clear hK K; (try simp only [Act.put, List.setIfInBounds_toArray, List.set_cons_zero, List.set_cons_succ])
      refine draw_one (i := 10) ?_
      refine comes_late (i := 10) rfl (by kernel_rfl) (fun K hK => ?_)
      go_simp
      (refine (add_any (k := kx) (L := t.last) (HM1.out.ext (X1.out.1.trans X2.out.1)) rfl (by rw [X2.out.2.1]; have h8 := HK.out.1; unfold lastL at h8; rw [if_pos HKd.out] at h8; exact h8) (by rw [env]; exact HK.out.2) (by omega) (match_held (P := fun nv W => TestOk W nv t) HM1.out (X1.out.1.trans X2.out.1) X2.out.2.2.2 env (Nat.le_trans X1.out.2.1 X2.out.1.size)) (by have := HFew.out.2 kx; omega)).mono ?_; rintro e w6 ⟨rfl, sv2, hM5⟩; have X5 := Lib.hid hM5; clear hM5)
      go_wp2_with fail
      refine hK.out _ _ ?_
      clear hK K; (try simp only [Act.put, List.setIfInBounds_toArray, List.set_cons_zero, List.set_cons_succ])
      refine wpAnyD_done (by kernel_rfl) ?_ _
      have hFw := HFew.out
      have HP := Lib.hid (MatIs.add hIs.out HLi.out (by rw [HKd.out]; decide) (t := t) (k := kx) (by rw [env]; have := HK.out.2; omega) (by have := HK.out.1; omega) fun V hV => by
       rw [X2.out.2.2.1 V, isIn_not cmpRow_ord cmpRow_tight]
       unfold asksL
       rw [if_neg (by rw [HKd.out]; decide), if_pos HKd.out])
      have HFx := Lib.hid (show Ts.length ≤ i + 1 /\ ∀ k, (updF tests kx (tests kx ++ [t]) k).length ≤ i + 1 from ⟨by omega, fun k => by
       by_cases e : k = kx
       ·rw [e, upd_same, List.length_append, List.length_singleton]; have := hFw.2 kx; omega
       ·rw [upd_other _ _ e]; have := hFw.2 k; omega⟩)
      clear hFw
      go_wp2
      go_roundw
      case rel => exact ⟨i + 1, Ts, _, tv, av, sv2, by omega, by first | rfl | (congr 1; done) | (congr 1; omega), X5, HP, HFx⟩
      case measure => simp [intOf]; omega
     ·have HCm := Lib.hid (fun W (hW : Ext w3 W) => compares_any (a := a2) (m := m) (cap := cap2) (nc := nc) (namesB ls) 3 (predOf l) (opOf l) (leftOf l).1 (leftOf l).2.1 (rightOf l).1 (rightOf l).2.1 H3.out.2.2.2.symm (H3.out.2.2.1.ext hW) (by omega))
      have HKd := Lib.hid hk3
      have hb3 : (l.1 == 1) = false := by simp [hk3]
      have hb4 : (l.1 == 2) = false := by simp [hk3]
      have hb5 : (l.1 == 3) = true := by simp [hk3]
      obtain ⟨kx, eK⟩ : ∃ kx : Nat, lastL (namesB ls) l + 1 = (kx : Int) := ⟨(lastL (namesB ls) l + 1).toNat, by have := last_ge (N := namesB ls) (l := l); omega⟩
      have hkxn : kx < nv + 1 := by have := last_lt (N := namesB ls) (l := l); omega
      have HK := Lib.hid (And.intro eK hkxn)
      have HJ := Lib.hid (show ∀ w', Ext W1 w' -> (fun w' : World => w'.cell? ⟨lb, 0, none⟩ = some (.int .i64 3) /\ w'.cell? ⟨lb, 1, none⟩ = some (.string (predOf l)) /\ w'.cell? ⟨lb, 2, none⟩ = some (.slice a2 m cap2) /\ w'.cell? ⟨lb, 3, none⟩ = some (.int .i64 (opOf l)) /\ w'.cell? ⟨lb, 4, none⟩ = some (.int .i64 (leftOf l).1) /\ w'.cell? ⟨lb, 5, none⟩ = some (.string (leftOf l).2.1) /\ w'.cell? ⟨lb, 6, none⟩ = some (.int .i64 (rightOf l).1) /\ w'.cell? ⟨lb, 7, none⟩ = some (.string (rightOf l).2.1) /\ w'.cell? ⟨mb, 0, none⟩ = some (.slice na nv nc)) w' from fun w' hw' => by
       have hb := HW.out.1.ext hw'
       rw [hk3] at hb
       exact ⟨by rw [hb.cell']; rfl, by rw [hb.cell']; rfl, by rw [hb.cell']; rfl, by rw [hb.cell']; rfl, by rw [hb.cell']; rfl, by rw [hb.cell']; rfl, by rw [hb.cell']; rfl, by rw [hb.cell']; rfl, by rw [(HM1.out.box.ext hw').cell', env]; rfl⟩)
      rw [hk3] at l0
      clear eK hkxn hk3
      go_wp2
      clear eW1
      refine draw_begin (fun w' : World => w'.cell? ⟨lb, 0, none⟩ = some (.int .i64 3) /\ w'.cell? ⟨lb, 1, none⟩ = some (.string (predOf l)) /\ w'.cell? ⟨lb, 2, none⟩ = some (.slice a2 m cap2) /\ w'.cell? ⟨lb, 3, none⟩ = some (.int .i64 (opOf l)) /\ w'.cell? ⟨lb, 4, none⟩ = some (.int .i64 (leftOf l).1) /\ w'.cell? ⟨lb, 5, none⟩ = some (.string (leftOf l).2.1) /\ w'.cell? ⟨lb, 6, none⟩ = some (.int .i64 (rightOf l).1) /\ w'.cell? ⟨lb, 7, none⟩ = some (.string (rightOf l).2.1) /\ w'.cell? ⟨mb, 0, none⟩ = some (.slice na nv nc)) [7] (by kernel_rfl) (HJ.out _ (Kp.refl W1).drew) (fun hHeld => ?_)
      (refine draw_free (i := 0) (v := ?_) rfl ?_ ?_; rotate_left; (intro w; go_simp; try with_reducible rfl)); (try simp only [Act.put, List.setIfInBounds_toArray, List.set_cons_zero, List.set_cons_succ])
      (refine draw_in (i := 1) (v := ?_) rfl ?_ ?_; rotate_left; (intro w hSw; (try dsimp only at hSw); go_simp; try with_reducible rfl)); (try simp only [Act.put, List.setIfInBounds_toArray, List.set_cons_zero, List.set_cons_succ])
      (refine draw_free (i := 2) (v := ?_) rfl ?_ ?_; rotate_left; (intro w; go_simp; try with_reducible rfl)); (try simp only [Act.put, List.setIfInBounds_toArray, List.set_cons_zero, List.set_cons_succ])
      (refine draw_free (i := 3) (v := ?_) rfl ?_ ?_; rotate_left; (intro w; go_simp; try with_reducible rfl)); (try simp only [Act.put, List.setIfInBounds_toArray, List.set_cons_zero, List.set_cons_succ])
      (refine draw_free (i := 4) (v := ?_) rfl ?_ ?_; rotate_left; (intro w; go_simp; try with_reducible rfl)); (try simp only [Act.put, List.setIfInBounds_toArray, List.set_cons_zero, List.set_cons_succ])
      (refine draw_in (i := 5) (v := ?_) rfl ?_ ?_; rotate_left; (intro w hSw; (try dsimp only at hSw); go_simp; try with_reducible rfl)); (try simp only [Act.put, List.setIfInBounds_toArray, List.set_cons_zero, List.set_cons_succ])
      refine draw_one (i := 6) ?_
      refine comes_turn (i := 6) rfl (fun K hK => ?_)
      go_simp
      (refine (HCm.out _ (HM1.out.kp.trans (Kp.refl W1).drew)).mono ?_; rintro e w4 ⟨v4, rfl, hk4, t, rfl, hlast, hask, hfast⟩; have X1 := Lib.hid (And.intro (show Ext W1 w4 from ((Kp.refl W1).drew).trans hk4) (And.intro hlast (And.intro hask (And.intro hk4.size hfast)))); clear hk4 hlast hask hfast)
      go_wp2_with fail
      refine hK.out _ _ ?_ (fun hHeld => ?_)
      ·(try dsimp only); (exact HJ.out _ X1.out.1)
      clear hK K; (try simp only [Act.put, List.setIfInBounds_toArray, List.set_cons_zero, List.set_cons_succ])
      refine draw_one (i := 7) ?_
      refine comes_late (i := 7) rfl (by kernel_rfl) (fun K hK => ?_)
      go_simp
      (refine (add_any (k := kx) (L := t.last) (HM1.out.ext X1.out.1) rfl (by rw [X1.out.2.1, place_idx (t := leftOf l), place_idx (t := rightOf l)]; have h8 := HK.out.1; unfold lastL at h8; rw [if_neg (by rw [HKd.out]; decide)] at h8; exact h8) (by rw [env]; exact HK.out.2) (by omega) (match_held (P := fun nv W => TestOk W nv t) HM1.out X1.out.1 X1.out.2.2.2.2 env X1.out.2.2.2.1) (by have := HFew.out.2 kx; omega)).mono ?_; rintro e w5 ⟨rfl, sv2, hM5⟩; have X5 := Lib.hid hM5; clear hM5)
      go_wp2_with fail
      refine hK.out _ _ ?_
      clear hK K; (try simp only [Act.put, List.setIfInBounds_toArray, List.set_cons_zero, List.set_cons_succ])
      refine wpAnyD_done (by kernel_rfl) ?_ _
      have hFw := HFew.out
      have HP := Lib.hid (MatIs.add hIs.out HLi.out (by rw [HKd.out]; decide) (t := t) (k := kx) (by rw [env]; have := HK.out.2; omega) (by have := HK.out.1; omega) fun V hV => by
       rw [X1.out.2.2.1 V, opB_iff]
       unfold asksL
       rw [if_neg (by rw [HKd.out]; decide), if_neg (by rw [HKd.out]; decide)]
       have hs := safe_cmp (r := ((p, hs, ()), ls, ())) HC.out (List.mem_of_getElem? HLi.out) HKd.out
       rw [<- pick_val (hs _ (.inl rfl)), <- pick_val (hs _ (.inr rfl))])
      have HFx := Lib.hid (show Ts.length ≤ i + 1 /\ ∀ k, (updF tests kx (tests kx ++ [t]) k).length ≤ i + 1 from ⟨by omega, fun k => by
       by_cases e : k = kx
       ·rw [e, upd_same, List.length_append, List.length_singleton]; have := hFw.2 kx; omega
       ·rw [upd_other _ _ e]; have := hFw.2 k; omega⟩)
      clear hFw
      go_wp2
      go_roundw
      case rel => exact ⟨i + 1, Ts, _, tv, av, sv2, by omega, by first | rfl | (congr 1; done) | (congr 1; omega), X5, HP, HFx⟩
      case measure => simp [intOf]; omega
   ·obtain rfl : n = i := by omega
    have hM2 := hM.out
    obtain ⟨A, hA⟩ := hM2.done (by first | omega | rw [env]) (by have := hFew.out.1; omega) (fun k => by have := hFew.out.2 k; omega)
    have hx : Ext w wr := H3.out.1.trans hM2.kp
    have HFin := Lib.hid (show Ext w wr /\ MatchV w wr ((p, hs, ()), ls, ()) Es (.pointer (some ⟨mb, 0, none⟩)) from
     ⟨hx, .inr ⟨mb, Ts, tests, A, rfl, HC.out, by rw [<- HL.out.1]; exact hIs.out, hA.mono H3.out.1.size (Nat.le_refl _)⟩⟩)
    clear hM2 hA hx hM hIs hFew hi hlt
    go_wp2
    go_ret
    exact RetN.mk HFin.out.1 HFin.out.2
 ·have hc' : ((cR : Int) == 0) = false := by simp; omega
  go_wp2
  go_ret
  exact RetN.mk H2.out.1 (.inl ⟨rfl, .inl (by rw [HC.out]; exact hc)⟩)
end Go.Proofs.YtinnmeiphbdogaaGreat

/- The walk through a matcher: all. -/
namespace Go.Proofs.YtinnmeiphbdogaaGreat
open Go.RowKit Go.Shelf
set_option linter.unusedVariables false
theorem from_all {C : WCtx} (hC : C.Ok) {l n : Nat} (hY : C.Yields l n) : ∀ (m v : Nat), v + m = C.M.N.length -> C.From v
 | 0, v, h => walkFrom_any hC hY (by omega) fun h2 => by omega
 | m + 1, v, h => walkFrom_any hC hY (by omega) fun _ => from_all hC hY m (v + 1) (by omega)
def SeqLeft (J Jx : (Nat -> Prop) -> List XB -> World -> Prop) (Lall : Rows2) (e : Ending) (W' : World) : Prop :=
 (∃ v, e = .returned v) /\ ∃ T W1, Kp T W1 W' /\ ((∃ xs : List XB, xs.map Prod.snd = Lall /\ J T xs W1) \/ (∃ pre : List XB, pre.map Prod.snd <+: Lall /\ Jx T pre W1))
structure AllAt (M : MatchZ) (W : World) (wb mb rb : Nat) (yv : Value) (m : Nat) (cv : Value) (cb : Nat -> Nat) (w : World) : Prop where
 box : Blk w wb [.pointer (some ⟨mb, 0, none⟩), cv, .slice (some ⟨rb, 0, none⟩) M.N.length M.N.length, yv] 186
 row : Blk w rb (strs (List.replicate M.N.length ⟨#[]⟩)) 9
 curs : Row w 188 1 cv m (cursC cb m) (fun g => W.heap.size ≤ g)
 cur : ∀ (j : Nat) t, j < m -> M.Ts[j]? = some t -> CurS w (cb j) t.tb [] (.slice none 0 0) /\ W.heap.size ≤ cb j
 inj : ∀ i j, i < m -> j < m -> cb i = cb j -> i = j
 kp : Ext W w
theorem AllAt.push {M : MatchZ} {W w w3 w4 : World} {wb mb rb m cb3 : Nat} {yv cv lv : Value} {cb : Nat -> Nat} {t : TrieZ} {e3 : Array Value} (h : AllAt M W wb mb rb yv m cv cb w) (hlo : W.heap.size ≤ wb) (ht : M.Ts[m]? = some t) (h3 : Ext w w3) (hn : w.heap.size ≤ cb3) (hc : CurAt w3 cb3 t.tb [] (.slice none 0 0) (fun k => w.heap.size ≤ k))
 (hr : Row w4 188 1 lv (m + 1) (cursC cb m ++ [.pointer (some ⟨cb3, 0, none⟩)]) (fun g => cv.ownBlock = some g \/ (w3.alloc (.cells e3 188)).heap.size ≤ g)) (hk : Kp (fun g => cv.ownBlock = some g) (w3.alloc (.cells e3 188)) w4) :
 AllAt M W wb mb rb yv (m + 1) lv (updF cb m cb3) (w4.setCell ⟨wb, 1, none⟩ lv) := by
 obtain ⟨t1, t2, t3, t4, t5, t6, t7, t8, t9⟩ := typ_w
 have x4 : Ext w (w3.alloc (.cells e3 188)) := h3.alloc _
 have own : ∀ g, cv.ownBlock = some g -> ∃ cs, Blk w g cs 188 := fun g hg => rowBlk h.curs hg
 have kx : Kp (fun g => cv.ownBlock = some g) w w4 := (Ext.kp x4).trans hk
 have ks : Kp (fun k => k = wb) w4 (w4.setCell ⟨wb, 1, none⟩ lv) := Kp.setCell (F := fun k => k = wb) (p := ⟨wb, 1, none⟩) (Kp.refl w4) (fun _ => rfl) _
 have hsz := h3.size
 have hsW := h.kp.size
 have hbx : Blk w4 wb [.pointer (some ⟨mb, 0, none⟩), cv, .slice (some ⟨rb, 0, none⟩) M.N.length M.N.length, yv] 186 := h.box.kp kx fun hg => by
  obtain ⟨cs, hb⟩ := own _ hg
  exact t9 (blkOne h.box hb)
 have hrb : Blk w4 rb (strs (List.replicate M.N.length ⟨#[]⟩)) 9 := h.row.kp kx fun hg => by
  obtain ⟨cs, hb⟩ := own _ hg
  exact t8 (blkOne hb h.row)
 have notB : ∀ (c : Nat) (tb : Nat), CurAt w4 c tb [] (.slice none 0 0) (fun k => (Value.slice none 0 0).ownBlock = some k) -> ∀ k, FootC c (.slice none 0 0) k -> ¬ k = wb := fun c tb hc k hk e => by
  rw [e] at hk
  exact hc.notB hbx t1 t2 hk
 have e1 : cursC (updF cb m cb3) (m + 1) = cursC cb m ++ [.pointer (some ⟨cb3, 0, none⟩)] := by
  unfold cursC
  rw [List.range_succ, List.map_append, List.map_singleton, upd_same]
  congr 1
  refine List.map_congr_left fun j hj => ?_
  rw [upd_other _ _ (by have := List.mem_range.1 hj; omega)]
 refine ⟨hbx.set 1 lv, hrb.kp ks fun e => t7 (blkOne hbx (by rw [<- e]; exact hrb)), ?_, fun j u hj hu => ?_, fun i j hi hj he => ?_, ?_⟩
 ·rw [e1]
  refine (hr.kp' ks fun g hg _ e => ?_).mono fun g hg => ?_
  ·obtain ⟨cs, hb⟩ := rowBlk hr hg
   have e' : g = wb := e
   rw [e'] at hb
   exact t9 (blkOne hbx hb)
  ·rcases hg with hg | hg
   ·exact h.curs.block g hg
   ·rw [alloc_size] at hg; omega
 ·by_cases e : j = m
  ·subst e
   rw [ht] at hu; cases hu
   rw [upd_same]
   have hc4 : CurS w4 cb3 t.tb [] (.slice none 0 0) := ((hc.ext ((Kp.refl w3).alloc _)).kp hk fun k hk1 hk2 => by
    rcases hk1 with rfl | hk1
    ·obtain ⟨cs, hb⟩ := own _ hk2
     have := hb.lt
     omega
    ·cases hk1).own
   exact ⟨hc4.kp ks (notB _ _ hc4), by omega⟩
  ·rw [upd_other _ _ e]
   obtain ⟨h1, h2⟩ := h.cur j u (by omega) hu
   have hc4 : CurS w4 (cb j) u.tb [] (.slice none 0 0) := h1.kp kx fun k hk1 hk2 => by
    obtain ⟨cs, hb⟩ := own _ hk2
    exact h1.notB hb t5 t6 hk1
   exact ⟨hc4.kp ks (notB _ _ hc4), h2⟩
 ·have old : ∀ j, j < m -> j < M.Ts.length -> cb j < w.heap.size := fun j hj hjT => (h.cur j _ hj (List.getElem?_eq_getElem hjT)).1.box.lt
  have hmT := (List.getElem?_eq_some_iff.1 ht).1
  by_cases e : i = m
  ·by_cases e2 : j = m
   ·omega
   ·rw [e, upd_same, upd_other _ _ e2] at he
    have := old j (by omega) (by omega)
    omega
  ·by_cases e2 : j = m
   ·rw [e2, upd_same, upd_other _ _ e] at he
    have := old i (by omega) (by omega)
    omega
   ·rw [upd_other _ _ e, upd_other _ _ e2] at he
    exact h.inj i j (by omega) (by omega) he
 ·refine (h.kp.trans' kx fun i hi hg => ?_).trans' ks fun i hi hg => ?_
  ·have := h.curs.block i hg
   omega
  ·have e : i = wb := hg
   omega
theorem AllAt.walk {M : MatchZ} {W w : World} {wb mb rb : Nat} {yv cv : Value} {cb : Nat -> Nat} (h : AllAt M W wb mb rb yv M.Ts.length cv cb w) (hlo : W.heap.size ≤ wb) (hlr : W.heap.size ≤ rb) : WalkAt w wb mb M yv cv rb (List.replicate M.N.length ⟨#[]⟩) cb (fun _ => .slice none 0 0) (fun _ => []) /\ ∀ k, OwnW wb rb M.Ts.length cv cb (fun _ => .slice none 0 0) k -> W.heap.size ≤ k := by
 refine ⟨⟨h.box, h.row, List.length_replicate, h.curs.ownB, fun j t ht => (h.cur j t (List.getElem?_eq_some_iff.1 ht).1 ht).1, fun i j hi hj hne => ⟨fun e => hne (h.inj i j hi hj e), fun k hk => by cases hk⟩⟩, fun k hk => ?_⟩
 rcases hk with rfl | rfl | hk | ⟨j, hj, hk | hk⟩
 ·exact hlo
 ·exact hlr
 ·exact h.curs.block k hk
 ·rw [hk]; exact (h.cur j _ hj (List.getElem?_eq_getElem hj)).2
 ·cases hk
def AllR (M : MatchZ) (W : World) (wb mb rb : Nat) (yv : Value) (iv : Value) (w : World) : Prop := ∃ (m : Nat) (cv : Value) (cb : Nat -> Nat), m ≤ M.Ts.length /\ iv = .int .i64 m /\ Hid (AllAt M W wb mb rb yv m cv cb w)
set_option maxRecDepth 100000 in
set_option maxHeartbeats 4000000 in
theorem all_any {Z : Nat -> Prop} {M : MatchZ} {A : MAddr} {mb : Nat} {w0 W : World} {J Jx : (Nat -> Prop) -> List XB -> World -> Prop} {Lall : Rows2} {l n : Nat} (hZ : ∀ k, Z k -> k < W.heap.size) (hW : Kp (fun k => ¬ Z k) w0 W) (hmat : ∀ W', Kp (fun k => ¬ Z k) w0 W' -> MatchAt W' mb M A) (hM : MatchOk M) (hL : AllB (SolM M) [] Lall)
 (hY : ∀ T T' pre x W1 W2, J T pre W1 -> Kp T W1 W2 -> (∀ k, T' k -> MoreT T W1 W2 k) -> GvRow W1 T' W2 x -> (pre ++ [x]).map Prod.snd <+: Lall -> YieldAt Fence.wide n Tryz.prog l (encX x) W2 fun e W' =>
  (e = .returned (.bool true) /\ J T' (pre ++ [x]) W' /\ Kp (fun k => ¬ WithZ Z T' k) W2 W') \/ (e = .returned (.bool false) /\ Jx T' (pre ++ [x]) W' /\ Kp (fun k => ¬ WithZ Z T' k) W2 W')) (hJ : J (fun _ => False) [] W) :
 Calls Tryz.prog 83 #[.pointer (some ⟨mb, 0, none⟩), .func (.yield l) #[] #[]] W (SeqLeft J Jx Lall) := by
 have hm := hmat W hW
 have c0 := hm.c0
 have c1 := hm.c1
 have hfew := hm.few
 obtain ⟨nv, env⟩ : ∃ x, M.N.length = x := ⟨_, rfl⟩
 obtain ⟨nT, enT⟩ : ∃ x, M.Ts.length = x := ⟨_, rfl⟩
 rw [env] at c0 hfew
 rw [enT] at c1 hfew
 have hnv := hfew.1
 have hnT := hfew.2.1
 clear hfew
 have HP := Lib.hid hm.ptrs
 have HT := Lib.hid hm.tries
 clear hm
 obtain ⟨w1, e1⟩ : ∃ x, W.alloc (.cells (List.replicate (nv * 1) (.string ⟨#[]⟩)).toArray 9) = x := ⟨_, rfl⟩
 obtain ⟨rb, erb⟩ : ∃ x, W.heap.size = x := ⟨_, rfl⟩
 have hmk := make_run (P := Tryz.prog) elemStr (c := .string ⟨#[]⟩) rfl nv (by omega) (by unfold maxLen; omega) W
 rw [e1, erb] at hmk
 have hx1 : Ext W w1 := by rw [<- e1]; exact (Kp.refl W).alloc _
 have hB1 : Blk w1 rb (strs (List.replicate nv ⟨#[]⟩)) 9 := by
  have h1 := Blk.new W (List.replicate (nv * 1) (.string ⟨#[]⟩)) 9
  have h2 : List.replicate (nv * 1) (Value.string ⟨#[]⟩) = strs (List.replicate nv ⟨#[]⟩) := by unfold strs; rw [List.map_replicate, Nat.mul_one]
  rw [<- e1, <- erb, <- h2]; exact h1
 obtain ⟨w2, e2⟩ : ∃ x, w1.alloc (.cells #[.pointer (some ⟨mb, 0, none⟩), .slice none 0 0, .slice (some ⟨rb, 0, none⟩) nv nv, .func (.yield l) #[] #[]] 186) = x := ⟨_, rfl⟩
 obtain ⟨wb, ewb⟩ : ∃ x, w1.heap.size = x := ⟨_, rfl⟩
 have hx2 : Ext w1 w2 := by rw [<- e2]; exact (Kp.refl w1).alloc _
 have hB2 : Blk w2 wb [.pointer (some ⟨mb, 0, none⟩), .slice none 0 0, .slice (some ⟨rb, 0, none⟩) nv nv, .func (.yield l) #[] #[]] 186 := by rw [<- e2, <- ewb]; exact Blk.new w1 _ _
 have hA := Lib.hid (show AllAt M W wb mb rb (.func (.yield l) #[] #[]) 0 (.slice none 0 0) (fun _ => 0) w2 from ⟨by rw [env]; exact hB2, by rw [env]; exact hB1.ext hx2, Row.nil _ _ _ _, fun j t hj => by omega, fun i j hi => by omega, hx1.trans hx2⟩)
 have c0' := hx1.cell c0 id
 have c1' := (hx1.trans hx2).cell c1 id
 have hlo : W.heap.size ≤ wb := by rw [<- ewb]; exact hx1.size
 have HLo := Lib.hid hlo
 clear hB1 hB2 hlo
 go_enter Tryz.func83, Tryz.ntmps83
 go_wp2
 clear e1 e2 ewb hmk
 go_loopw [22] (fun iv wr => AllR M W wb mb rb (.func (.yield l) #[] #[]) iv wr) (fun iv _ => nT - (intOf iv).toNat)
 case atStart => exact ⟨0, _, _, Nat.zero_le _, rfl, hA⟩
 case round =>
  obtain ⟨m, cv, cb, hm, rfl, hA2⟩ := hrel
  rw [enT] at hm
  obtain ⟨ca, cc, ecv, hcc, hccap⟩ := hA2.out.curs.shape
  subst ecv
  by_cases hlt : m < nT
  ·obtain ⟨t, ht⟩ : ∃ t, M.Ts[m]? = some t := ⟨_, List.getElem?_eq_getElem (by rw [enT]; exact hlt)⟩
   obtain ⟨tb0, to0, eta, t0⟩ := (HP.out.ext hA2.out.kp) m (triePtr t) (by rw [List.getElem?_map, ht]; rfl)
   rw [eta]
   unfold triePtr at t0
   have HWk := Lib.hid (fun W' (hW' : Ext wr W') => walk_any (((HT.out t (List.mem_of_getElem? ht)).ext hA2.out.kp).ext hW'))
   have HJ := Lib.hid (show ∀ w', Ext wr w' -> (fun w' : World => w'.cell? ⟨wb, 1, none⟩ = some (.slice ca m cc)) w' from fun w' hw' => by
    show w'.cell? ⟨wb, 1, none⟩ = some (.slice ca m cc)
    rw [(hA2.out.box.ext hw').cell']; rfl)
   have HTt := Lib.hid ht
   have HNo := Lib.hid (show (Value.slice ca m cc).ownBlock ≠ some wb from fun h => by
    obtain ⟨cs, hb⟩ := rowBlk hA2.out.curs h
    exact typ_w.2.2.2.2.2.2.2.2 (blkOne hA2.out.box hb))
   have b1 := HJ.out wr (Kp.refl _)
   clear ht hcc eta
   go_wp2
   refine draw_begin (fun w' : World => w'.cell? ⟨wb, 1, none⟩ = some (.slice ca m cc)) [8, 9, 10, 11] (by kernel_rfl) (HJ.out _ (Kp.refl wr).drew) (fun hHeld => ?_)
   (refine draw_free (i := 0) (v := ?_) rfl ?_ ?_; rotate_left; (intro w; go_simp; try with_reducible rfl)); (try simp only [Act.put, List.setIfInBounds_toArray, List.set_cons_zero, List.set_cons_succ])
   (refine draw_free (i := 1) (v := ?_) rfl ?_ ?_; rotate_left; (intro w; go_simp; try with_reducible rfl)); (try simp only [Act.put, List.setIfInBounds_toArray, List.set_cons_zero, List.set_cons_succ])
   (refine draw_free (i := 2) (v := ?_) rfl ?_ ?_; rotate_left; (intro w; go_simp; try with_reducible rfl)); (try simp only [Act.put, List.setIfInBounds_toArray, List.set_cons_zero, List.set_cons_succ])
   (refine draw_free (i := 3) (v := ?_) rfl ?_ ?_; rotate_left; (intro w; go_simp; try with_reducible rfl)); (try simp only [Act.put, List.setIfInBounds_toArray, List.set_cons_zero, List.set_cons_succ])
   (refine draw_in (i := 4) (v := ?_) rfl ?_ ?_; rotate_left; (intro w hSw; (try dsimp only at hSw); go_simp; try with_reducible rfl)); (try simp only [Act.put, List.setIfInBounds_toArray, List.set_cons_zero, List.set_cons_succ])
   (refine draw_free (i := 5) (v := ?_) rfl ?_ ?_; rotate_left; (intro w; go_simp; try with_reducible rfl)); (try simp only [Act.put, List.setIfInBounds_toArray, List.set_cons_zero, List.set_cons_succ])
   refine draw_one (i := 6) ?_
   refine comes_turn (i := 6) rfl (fun K hK => ?_)
   go_simp
   (refine (HWk.out _ (Kp.refl wr).drew).mono ?_; rintro e w3 ⟨v3, rfl, hk3, cb3, rfl, hn3, hcur3⟩; have X1 := Lib.hid (And.intro (show Ext wr w3 from ((Kp.refl wr).drew).trans hk3) (And.intro (show wr.heap.size ≤ cb3 from hn3) hcur3)); clear hk3 hn3 hcur3)
   go_wp2_with fail
   refine hK.out _ _ ?_ (fun hHeld => ?_)
   ·(try dsimp only); (exact HJ.out _ X1.out.1)
   clear hK K; (try simp only [Act.put, List.setIfInBounds_toArray, List.set_cons_zero, List.set_cons_succ])
   refine draw_one (i := 7) ?_
   refine comes_turn (i := 7) rfl (fun K hK => ?_)
   go_simp
   refine hK.out _ _ ?_ (fun hHeld => ?_)
   ·(try dsimp only); (exact HJ.out _ (X1.out.1.alloc _))
   clear hK K; (try simp only [Act.put, List.setIfInBounds_toArray, List.set_cons_zero, List.set_cons_succ])
   refine draw_one (i := 8) ?_
   refine comes_late (i := 8) rfl (by kernel_rfl) (fun K hK => ?_)
   refine drawApp (m := 1) (n := m) elem_pcur rfl _ _ rfl rfl ((hA2.out.curs.ext X1.out.1).alloc _) rfl (CellsAt.one w3 _ _) (by rfl) (by simp; rfl) (by omega) (by unfold maxLen; omega) ?_; intro v4 w4 hr4 hk4; obtain ⟨la4, lcap4, elv4, _, _⟩ := hr4.shape; subst elv4; have HB4 := Lib.hid (show Blk w4 wb [.pointer (some ⟨mb, 0, none⟩), .slice ca m cc, .slice (some ⟨rb, 0, none⟩) M.N.length M.N.length, .func (.yield l) #[] #[]] 186 from ((hA2.out.box.ext X1.out.1).alloc _).kp hk4 (fun h2 => HNo.out h2)); have X2 := Lib.hid (And.intro hr4 hk4); have y1 : w4.cell? ⟨wb, 1, none⟩ = some (.slice ca m cc) := (by rw [HB4.out.cell']; rfl); have yf := HB4.out.free 1; clear hr4 hk4
   refine hK.out _ _ ?_
   clear hK K; (try simp only [Act.put, List.setIfInBounds_toArray, List.set_cons_zero, List.set_cons_succ])
   refine draw_one (i := 9) ?_
   refine comes_late (i := 9) rfl (by kernel_rfl) (fun K hK => ?_)
   go_simp
   refine hK.out _ _ ?_
   clear hK K; (try simp only [Act.put, List.setIfInBounds_toArray, List.set_cons_zero, List.set_cons_succ])
   refine draw_one (i := 10) ?_
   refine comes_late (i := 10) rfl (by kernel_rfl) (fun K hK => ?_)
   go_simp
   refine hK.out _ _ ?_
   clear hK K; (try simp only [Act.put, List.setIfInBounds_toArray, List.set_cons_zero, List.set_cons_succ])
   refine draw_one (i := 11) ?_
   refine comes_late (i := 11) rfl (by kernel_rfl) (fun K hK => ?_)
   go_simp
   refine hK.out _ _ ?_
   clear hK K; (try simp only [Act.put, List.setIfInBounds_toArray, List.set_cons_zero, List.set_cons_succ])
   refine wpAnyD_done (by kernel_rfl) ?_ _
   clear hHeld
   have HP2 := Lib.hid (AllAt.push hA2.out HLo.out HTt.out X1.out.1 X1.out.2.1 X1.out.2.2 X2.out.1 X2.out.2)
   obtain ⟨w5, e5⟩ : ∃ x, w4.setCell ⟨wb, 1, none⟩ (.slice la4 (m + 1) lcap4) = x := ⟨_, rfl⟩
   rw [e5] at HP2 ⊢
   clear e5 y1 yf
   go_wp2
   go_roundw
   case rel => exact ⟨m + 1, _, _, by rw [enT]; omega, by first | rfl | (congr 1; done) | (congr 1; omega), HP2⟩
   case measure => simp [intOf]; omega
  ·obtain rfl : m = nT := by omega
   have hA3 := hA2.out
   rw [<- enT] at hA3
   obtain ⟨hwalk, hnew⟩ := hA3.walk HLo.out (by rw [erb]; exact Nat.le_refl _)
   obtain ⟨C, eC⟩ : ∃ C : WCtx, C = ⟨Z, W.heap.size, M, A, wb, mb, rb, .func (.yield l) #[] #[], .slice ca M.Ts.length cc, cb, J, Jx, Lall, w0⟩ := ⟨_, rfl⟩
   have hCok : C.Ok := by subst eC; exact ⟨hZ, hmat, hM⟩
   have hCY : C.Yields l n := by subst eC; exact ⟨rfl, hY⟩
   have hAt : C.At (fun _ => .slice none 0 0) (List.replicate M.N.length ⟨#[]⟩) (fun _ => []) wr := by subst eC; exact ⟨hwalk, hnew, hW.trans' hA2.out.kp fun i _ hi => hi.elim⟩
   have hFr := from_all hCok hCY M.N.length 0 (by subst eC; exact Nat.zero_add _) [] (fun _ => False) (fun _ => .slice none 0 0) _ (fun _ => []) [] Lall wr rfl hAt (by rw [List.take_zero]) (fun j t ht => by
    rw [begV_zero]; exact PathOk.nil) (fun k hk => by omega) (by subst eC; exact hL) ⟨[], by subst eC; simp⟩ ⟨fun _ => False, W, by subst eC; exact hJ, hA2.out.kp, fun k hk => by
     rcases hk with hk | hk
     ·refine .inr ?_
      have := hAt.new k hk
      subst eC; exact this
     ·exact hk.elim⟩ ⟨fun k hk => hk.elim, fun k _ hk => hk, fun k hk => hk.elim⟩
   have HFr := Lib.hid (show Calls Tryz.prog 123 #[.pointer (some ⟨wb, 0, none⟩), .int .i64 0] wr (SeqLeft J Jx Lall) from by
    have e1 : C.wb = wb := by subst eC; rfl
    rw [e1] at hFr
    refine hFr.mono ?_
    rintro e w' ⟨b, ov', R', rfl, hk, -, -, -, hE⟩
    refine ⟨⟨_, rfl⟩, ?_⟩
    subst eC
    rcases hE with ⟨-, xs, h1, T, W1, h2, h3, -⟩ | ⟨-, pre', h1, T, W1, h2, h3, -⟩
    ·exact ⟨T, W1, h3, .inl ⟨xs, h1, h2⟩⟩
    ·exact ⟨T, W1, h3, .inr ⟨pre', h1, h2⟩⟩)
   clear hA3 hwalk hnew hFr hAt hCY hCok eC C hm hlt hcc
   go_wp2_with fail
   refine HFr.out.mono ?_
   rintro e w9 ⟨⟨v9, rfl⟩, h9⟩
   have H9 := Lib.hid h9
   clear h9
   go_wp2
   go_end0
   exact ⟨⟨_, rfl⟩, H9.out⟩
end Go.Proofs.YtinnmeiphbdogaaGreat

/- join: Over: the bindings of a rule, one by one. -/
namespace Go.Proofs.YtinnmeiphbdogaaGreat
open Go.RowKit Go.Shelf
set_option linter.unusedVariables false
attribute [local go_sem] Oper.semAt_some
def BindsOf (r : RuleZ) (R : Nat -> Rows2) (L : Rows2) : Prop := (checkR r = 0 -> IsBinds r.2.1 R L) /\ (checkR r ≠ 0 -> L = [])
theorem matcher_some (tb : Nat) (w : World) : (binOp .neq 123 (.pointer (some ⟨tb, 0, none⟩)) (.pointer none)).run Tryz.prog w = .ok (.bool true) w := by kernel_rfl
theorem matcher_none (w : World) : (binOp .neq 123 (.pointer none) (.pointer none)).run Tryz.prog w = .ok (.bool false) w := by kernel_rfl
set_option maxRecDepth 100000 in
set_option maxHeartbeats 2000000 in
theorem over1_any {w0 w1 w : World} {r : RuleZ} {Es : Nat -> List Ent} {v : Value} {xb : Nat} {L : Rows2} (hM : MatchV w0 w1 r Es v) (hx : Ext w1 w) (hB : Blk w xb [v] 123) (hxb : w0.heap.size ≤ xb) (hL : BindsOf r (rowsR Es r.2.1) L) (n : Nat) :
 SeqOwn Fence.wide n Tryz.prog 82 #[.pointer (some ⟨xb, 0, none⟩)] encX (fun k => w0.heap.size ≤ k /\ k < w.heap.size) GvRow (fun xs => xs.map Prod.snd = L) (fun pre => pre.map Prod.snd <+: L) w := by
 intro l J Jx W hW hY hJ
 refine callsIn_wide.2 ?_
 have hxl := hB.lt
 have c0 : W.cell? ⟨xb, 0, none⟩ = some v := hW.cell (by rw [hB.cell']; rfl) fun h => h ⟨hxb, hxl⟩
 rcases hM with ⟨rfl, hno⟩ | ⟨mb, Ts, tests, A, rfl, hc, hIs, hF⟩
 ·have hL0 : L = [] := by
   by_cases hc : checkR r = 0
   ·rcases hno with hno | hno
    ·exact absurd hc hno
    ·cases L with
     | nil => rfl
     | cons V L => exact absurd (((hL.1 hc).iff V).1 (List.mem_cons_self ..)) (hno V)
   ·exact hL.2 hc
  have HE := Lib.hid (And.intro hL0 hJ)
  have hmn := matcher_none W
  clear hno hL hL0 hJ hY hW hB
  go_enter Tryz.func82, Tryz.ntmps82
  go_wp2
  go_end0
  exact ⟨⟨_, rfl⟩, fun _ => False, W, Kp.refl _, .inl ⟨[], by rw [HE.out.1]; rfl, HE.out.2⟩⟩
 ·have hok := matcher_ok hc hIs
  have hsol : AllB (SolM ⟨namesB r.2.1, Ts, tests⟩) [] L := by
   have e : SolM ⟨namesB r.2.1, Ts, tests⟩ = BindOk r.2.1 (rowsR Es r.2.1) := funext fun V => propext (hok.2 V)
   rw [e]; exact hL.1 hc
  have HA := Lib.hid (all_any (Z := fun k => w0.heap.size ≤ k /\ k < w.heap.size) (w0 := w) (W := W) (n := n - 1) (A := A) (fun k hk => Nat.lt_of_lt_of_le hk.2 hW.size) hW (fun W' hW' => hF W' ((Ext.kp hx).trans' hW' (F := fun k => ¬ (w0.heap.size ≤ k /\ k < w1.heap.size)) fun i hi h => fun h2 => h ⟨h2.1, Nat.lt_of_lt_of_le h2.2 hx.size⟩)) hok.1 hsol hY hJ)
  have hms := matcher_some mb W
  clear hok hsol hL hJ hY hW hB hF hIs
  go_enter Tryz.func82, Tryz.ntmps82
  go_wp2_with fail
  refine HA.out.mono ?_
  rintro e w9 ⟨⟨v9, rfl⟩, h9⟩
  have H9 := Lib.hid h9
  clear h9
  go_wp2
  go_end0
  exact ⟨⟨_, rfl⟩, H9.out⟩
def BindsV (w0 w : World) (L : Rows2) (v : Value) : Prop := ∃ xb lo, w0.heap.size ≤ lo /\ v = .func (.func 82) #[] #[.pointer (some ⟨xb, 0, none⟩)] /\
 ∀ n, SeqOwn Fence.wide n Tryz.prog 82 #[.pointer (some ⟨xb, 0, none⟩)] encX (fun k => lo ≤ k /\ k < w.heap.size) GvRow (fun xs => xs.map Prod.snd = L) (fun pre => pre.map Prod.snd <+: L) w
set_option maxRecDepth 100000 in
set_option maxHeartbeats 2000000 in
theorem over_any {w : World} {p : ByteArray} {hs : List TermZ} {ls : List LitZ} {ha ba bsa : Option Addr} {hn hcap n bcap nb bsc : Nat} {G : Nat -> Prop} {bvs : List Value} {Es : Nat -> List Ent} {L : Rows2} (hhn : hn = hs.length) (hh : TermsAt w G ha hs) (hhl : hn ≤ 1048576) (hbn : n = ls.length) (h : LitsAt w G ba ls) (hf : Fit ls) (hnv : (namesB ls).length ≤ 1048576) (hn16 : n ≤ 1048576)
 (hnb : nb = bvs.length) (hbs : CellsAt w bsa bvs) (hB : ∀ j, ∃ S, BaseV S w (bvs.getD j (.pointer none)) (Es j)) (hL : BindsOf ((p, hs, ()), ls, ()) (rowsR Es ls) L) :
 Calls Tryz.prog 39 #[ruleV p ha hn hcap ba n bcap, .slice bsa nb bsc] w (RetN w fun w' v => BindsV w w' L v) := by
 have HMt := Lib.hid (fun W (hW : Ext w W) => match_any (w := W) (p := p) (hs := hs) (ls := ls) (ha := ha) (ba := ba) (bsa := bsa) (hn := hn) (hcap := hcap) (n := n) (bcap := bcap) (nb := nb) (bsc := bsc) (G := G) (bvs := bvs) (Es := Es) hhn (hh.ext hW) hhl hbn (h.ext hW) hf hnv hn16 hnb (hbs.ext hW) (fun j => by
  obtain ⟨S, hb⟩ := hB j
  exact ⟨S, hb.ext hW⟩))
 have HL := Lib.hid hL
 obtain ⟨gb, egb⟩ : ∃ g, w.heap.size = g := ⟨_, rfl⟩
 obtain ⟨w1, e1⟩ : ∃ x, w.alloc (.cells #[.string p, .slice ha hn hcap, .slice ba n bcap] 27) = x := ⟨_, rfl⟩
 have x1 : Ext w w1 := by rw [<- e1]; exact (Kp.refl w).alloc _
 have hB1 : Blk w1 gb [.string p, .slice ha hn hcap, .slice ba n bcap] 27 := by rw [<- e1, <- egb]; exact Blk.new w _ _
 have H1 := Lib.hid x1
 have r0 : w1.cell? ⟨gb, 0, none⟩ = some (.string p) := by rw [hB1.cell']; rfl
 have r1 : w1.cell? ⟨gb, 1, none⟩ = some (.slice ha hn hcap) := by rw [hB1.cell']; rfl
 have r2 : w1.cell? ⟨gb, 2, none⟩ = some (.slice ba n bcap) := by rw [hB1.cell']; rfl
 clear hhn hh hbn h hf hnb hbs hB hL x1 hB1
 go_enter Tryz.func39, Tryz.ntmps39
 go_wp2_with fail
 clear e1 egb
 refine (HMt.out w1 H1.out).mono ?_
 rintro e w2 ⟨v2, rfl, hk2, hM⟩
 obtain ⟨o, rfl⟩ : ∃ o, v2 = .pointer o := by
  rcases hM with ⟨e, _⟩ | ⟨mb, _, _, _, e, _⟩
  ·exact ⟨_, e⟩
  ·exact ⟨_, e⟩
 have HM := Lib.hid (And.intro hk2 hM)
 clear hk2 hM r0 r1 r2
 go_wp2
 go_ret
 have hx3 : Ext w2 (w2.alloc (.cells #[.pointer o] 123)) := (Kp.refl w2).alloc _
 exact RetN.mk (H1.out.trans (HM.out.1.trans hx3)) ⟨w2.heap.size, w1.heap.size, H1.out.size, rfl, fun n => over1_any HM.out.2 hx3 (Blk.new w2 [.pointer o] 123) HM.out.1.size HL.out n⟩
end Go.Proofs.YtinnmeiphbdogaaGreat

/- join: Each: the bindings of a rule over one base. -/
namespace Go.Proofs.YtinnmeiphbdogaaGreat
open Go.RowKit Go.Shelf
set_option linter.unusedVariables false
attribute [local go_sem] Oper.semAt_some
theorem elem_base : ElemT Tryz.prog 64 29 1 8 (.pointer none) := ⟨by kernel_rfl, by kernel_rfl, rfl, by decide⟩
theorem mul_any (n : Nat) (hn : n ≤ 1048576) (w : World) : Calls Tryz.prog 131 #[.int .u64 (1 : Nat), .int .u64 (n : Nat)] w fun e w' => e = .returned (.tuple #[.int .u64 0, .int .u64 (n : Nat)]) /\ w' = w := by
 refine (Tryz.bits_Mul 1 n (by omega) (by omega) w).mono ?_
 rintro e w' ⟨rfl, rfl⟩
 have h1 : 1 * n / 18446744073709551616 = 0 := Nat.div_eq_of_lt (by omega)
 have h2 : 1 * n % 18446744073709551616 = n := by rw [Nat.one_mul]; exact Nat.mod_eq_of_lt (by omega)
 rw [h1, h2]
 exact ⟨rfl, rfl⟩
def RepTo (w0 : World) (g n : Nat) (bv : Value) (kv : Value) (W : World) : Prop := ∃ k : Nat, k ≤ n /\ (n = 0 \/ 0 < k) /\ kv = .int .i64 k /\ Hid (Ext w0 W) /\ Hid (Blk W g (List.replicate k bv ++ List.replicate (n - k) (.pointer none)) 29)
set_option maxRecDepth 100000 in
set_option maxHeartbeats 2000000 in
theorem repeat_any {w : World} {o : Option Addr} {xa : Option Addr} {xc n : Nat} (hx : CellsAt w xa [.pointer o]) (hn : n ≤ 1048576) :
 Calls Tryz.prog 92 #[.slice xa 1 xc, .int .i64 n] w (RetN w fun w' v => ∃ ao cap, v = .slice ao n cap /\ CellsAt w' ao (List.replicate n (.pointer o))) := by
 have HX := Lib.hid hx
 have hm := mul_any n hn w
 have HMu := Lib.hid hm
 have hmk := make_run (P := Tryz.prog) elem_base (c := .pointer none) rfl n (by omega) (by unfold maxLen; omega) w
 rw [Nat.mul_one] at hmk
 obtain ⟨g, eg⟩ : ∃ x, w.heap.size = x := ⟨_, rfl⟩
 obtain ⟨w1, e1⟩ : ∃ x, w.alloc (.cells (Array.replicate n (.pointer none)) 29) = x := ⟨_, rfl⟩
 have hB1 : Blk w1 g (List.replicate n (.pointer none)) 29 := by
  have h := Blk.new w (List.replicate n (.pointer none)) 29
  rw [List.toArray_replicate, e1, eg] at h
  exact h
 have x1 : Ext w w1 := by rw [<- e1]; exact (Kp.refl w).alloc _
 obtain ⟨w2, hrun, hk2, hB2⟩ := run_copyB (P := Tryz.prog) elem_base hB1 (off := 0) (dp := some ⟨g, 0, none⟩) (dLen := n) (dCap := n) (sp := xa) (sLen := 1) (sCap := xc) (cs := List.replicate (Nat.min 1 n) (.pointer o)) (by simp) (fun _ => rfl) (fun j u hu => by
  have hj := (List.getElem?_eq_some_iff.1 hu).1
  rw [List.length_replicate] at hj
  have hj1 : j < 1 := Nat.lt_of_lt_of_le hj (Nat.min_le_left _ _)
  rw [List.getElem?_replicate, if_pos hj] at hu
  obtain rfl : j = 0 := by omega
  exact (hx.ext x1) 0 u (by cases hu; rfl)) (by simp [List.length_replicate]; exact Nat.min_le_right _ _) (fun u hu => by rw [List.eq_of_mem_replicate hu]; rfl)
 have n0 : ¬ (n : Int) < 0 := by omega
 have n1 : ¬ (9223372036854775807 : Int) < (n : Int) := by omega
 have hlen : (List.replicate (Nat.min 1 n) (Value.pointer o)).length = Nat.min 1 n := List.length_replicate
 obtain ⟨k0, ek0⟩ : ∃ k, Nat.min 1 n = k := ⟨_, rfl⟩
 rw [ek0] at hrun hB2 hlen
 rw [hlen] at hrun
 have hk0 : k0 ≤ n /\ (n = 0 \/ 0 < k0) /\ (n = 0 -> k0 = 0) /\ (0 < n -> k0 = 1) := by rw [<- ek0]; simp only [Nat.min_def]; split <;> omega
 have hB2' : Blk w2 g (List.replicate k0 (.pointer o) ++ List.replicate (n - k0) (.pointer none)) 29 := by
  have e : splice (List.replicate n (Value.pointer none)) 0 (List.replicate k0 (Value.pointer o)) = List.replicate k0 (.pointer o) ++ List.replicate (n - k0) (.pointer none) := by
   unfold splice
   simp
  rw [e] at hB2; exact hB2
 have HP := Lib.hid (show RepTo w g n (.pointer o) (.int .i64 k0) w2 from ⟨k0, hk0.1, hk0.2.1, rfl, Lib.hid (x1.trans' hk2 fun i hi e => by have e' : i = g := e; omega), Lib.hid hB2'⟩)
 have hg : goInt (k0 : Nat) = .int .i64 (k0 : Nat) := rfl
 rw [hg] at hrun
 have HEG := Lib.hid eg
 clear hx hB1 x1 hk2 hB2 hB2' hm hlen ek0 hk0 hg
 go_enter Tryz.func92, Tryz.ntmps92
 go_wp2_with fail
 refine HMu.out.mono ?_
 rintro e w' ⟨rfl, rfl⟩
 go_wp2
 go_loopw [8] (fun kv wk => RepTo w' g n (.pointer o) kv wk) (fun kv _ => n - (intOf kv).toNat)
 case atStart => exact HP.out
 case round =>
  clear HP hrun
  obtain ⟨k, hk, hk0, rfl, hex, hb⟩ := hrel
  by_cases hlt : k < n
  ·have hkp : 0 < k := by omega
   obtain ⟨j, ej⟩ : ∃ j, Nat.min k (n - k) = j := ⟨_, rfl⟩
   have hj1 : j ≤ k := by rw [<- ej]; exact Nat.min_le_left _ _
   have hj2 : j ≤ n - k := by rw [<- ej]; exact Nat.min_le_right _ _
   have hj3 : 0 < j := by rw [<- ej]; simp only [Nat.min_def]; split <;> omega
   obtain ⟨W2, hrun2, hk3, hB3⟩ := run_copyB (P := Tryz.prog) elem_base (hb.out.drew) (off := k) (dp := some ⟨g, k, none⟩) (dLen := n - k) (dCap := n - k) (sp := some ⟨g, 0, none⟩) (sLen := k) (sCap := n) (cs := List.replicate j (.pointer o)) (by rw [List.length_replicate, ej]) (fun _ => rfl) (fun i u hu => by
    have hi := (List.getElem?_eq_some_iff.1 hu).1
    rw [List.length_replicate] at hi
    rw [List.getElem?_replicate, if_pos hi] at hu
    refine ⟨g, 0, rfl, ?_⟩
    rw [hb.out.drew.cell', Nat.zero_add, List.getElem?_append_left (by rw [List.length_replicate]; omega), List.getElem?_replicate, if_pos (by omega)]
    exact hu) (by simp; omega) (fun u hu => by rw [List.eq_of_mem_replicate hu]; rfl)
   rw [List.length_replicate] at hrun2
   have hg : goInt (j : Nat) = .int .i64 (j : Nat) := rfl
   rw [hg] at hrun2
   have HNX := Lib.hid (show RepTo w' g n (.pointer o) (.int .i64 ((k : Int) + (j : Int))) W2 from by
    refine ⟨k + j, by omega, .inr (by omega), by congr 1, Lib.hid (hex.out.trans' ((Ext.kp (Kp.refl wr).drew).trans hk3) fun i hi e => ?_), Lib.hid ?_⟩
    ·have e' : i = g := e
     have := HEG.out
     omega
    ·have e : splice (List.replicate k (.pointer o) ++ List.replicate (n - k) (Value.pointer none)) k (List.replicate j (.pointer o)) = List.replicate (k + j) (.pointer o) ++ List.replicate (n - (k + j)) (.pointer none) := by
      unfold splice
      rw [List.take_append_of_le_length (by simp), List.take_of_length_le (by simp), List.length_replicate, List.drop_append, List.drop_of_length_le (by simp), List.length_replicate, List.drop_replicate, List.nil_append, <- List.append_assoc, List.replicate_append_replicate]
      congr 2
      omega
     rw [e] at hB3
     exact hB3)
   have k1 : (k : Int) < (n : Int) := by omega
   have k2 : (k : Int) ≤ (n : Int) := by omega
   have k3 : ¬ n = k := by omega
   have rk : (n : Int) - k = ((n - k : Nat) : Int) := by omega
   have HJ := Lib.hid (And.intro hj1 (And.intro hj2 hj3))
   clear hex hb hk3 hB3 hg hk0 hk ej
   go_wp2
   refine draw_begin (fun _ : World => True) [] (by kernel_rfl) trivial (fun hHeld => ?_)
   (refine draw_free (i := 0) (v := ?_) rfl ?_ ?_; rotate_left; (intro w; go_simp; try with_reducible rfl)); (try simp only [Act.put, List.setIfInBounds_toArray, List.set_cons_zero, List.set_cons_succ])
   (refine draw_free (i := 1) (v := ?_) rfl ?_ ?_; rotate_left; (intro w; go_simp; try with_reducible rfl)); (try simp only [Act.put, List.setIfInBounds_toArray, List.set_cons_zero, List.set_cons_succ])
   (refine draw_free (i := 2) (v := ?_) rfl ?_ ?_; rotate_left; (intro w; go_simp; try with_reducible rfl)); (try simp only [Act.put, List.setIfInBounds_toArray, List.set_cons_zero, List.set_cons_succ])
   (refine draw_in (i := 3) (v := ?_) rfl ?_ ?_; rotate_left; (intro w hSw; (try dsimp only at hSw); go_simp; try with_reducible rfl)); (try simp only [Act.put, List.setIfInBounds_toArray, List.set_cons_zero, List.set_cons_succ])
   (refine draw_free (i := 4) (v := ?_) rfl ?_ ?_; rotate_left; (intro w; go_simp; try with_reducible rfl)); (try simp only [Act.put, List.setIfInBounds_toArray, List.set_cons_zero, List.set_cons_succ])
   (refine draw_free (i := 5) (v := ?_) rfl ?_ ?_; rotate_left; (intro w; go_simp; try with_reducible rfl)); (try simp only [Act.put, List.setIfInBounds_toArray, List.set_cons_zero, List.set_cons_succ])
   (refine draw_in (i := 6) (v := ?_) rfl ?_ ?_; rotate_left; (intro w hSw; (try dsimp only at hSw); go_simp; try with_reducible rfl)); (try simp only [Act.put, List.setIfInBounds_toArray, List.set_cons_zero, List.set_cons_succ])
   refine draw_one (i := 7) ?_
   refine comes_turn (i := 7) rfl (fun K hK => ?_)
   go_simp
   refine hK.out _ _ ?_ (fun hHeld => ?_)
   ·(try dsimp only); (first | done | trivial)
   clear hK K; (try simp only [Act.put, List.setIfInBounds_toArray, List.set_cons_zero, List.set_cons_succ])
   (refine draw_free (i := 8) (v := ?_) rfl ?_ ?_; rotate_left; (intro w; go_simp; try with_reducible rfl)); (try simp only [Act.put, List.setIfInBounds_toArray, List.set_cons_zero, List.set_cons_succ])
   (refine draw_free (i := 9) (v := ?_) rfl ?_ ?_; rotate_left; (intro w; go_simp; try with_reducible rfl)); (try simp only [Act.put, List.setIfInBounds_toArray, List.set_cons_zero, List.set_cons_succ])
   refine wpAnyD_done (by kernel_rfl) ?_ _
   clear hHeld
   have hw : IntKind.i64.wrap ((k : Int) + (j : Int)) = (k : Int) + (j : Int) := IntWalk.i64_in _ (by have := HJ.out; omega)
   go_wp2
   try rw [hw]
   go_roundw
   case rel => exact HNX.out
   case measure => have := HJ.out; simp [intOf]; omega
  ·obtain rfl : n = k := by omega
   have hB2 := hb.out
   rw [Nat.sub_self, List.replicate_zero, List.append_nil] at hB2
   have HR := Lib.hid (show Ext w' wr /\ CellsAt wr (some ⟨g, 0, none⟩) (List.replicate n (.pointer o)) from ⟨hex.out, CellsAt.pre (rest := []) (by rw [List.append_nil]; exact hB2)⟩)
   clear hex hb hB2 hk0 hk hlt
   go_wp2
   go_ret
   exact RetN.mk HR.out.1 ⟨_, _, rfl, HR.out.2⟩
def oneE (ls : List LitZ) (E : List Ent) (j : Nat) : List Ent := if j < ls.length then E else []
set_option maxRecDepth 100000 in
set_option maxHeartbeats 2000000 in
theorem each_any {S : Nat -> Prop} {w : World} {p : ByteArray} {hs : List TermZ} {ls : List LitZ} {ha ba : Option Addr} {hn hcap n bcap : Nat} {G : Nat -> Prop} {o : Option Addr} {E : List Ent} {L : Rows2} (hhn : hn = hs.length) (hh : TermsAt w G ha hs) (hhl : hn ≤ 1048576) (hbn : n = ls.length) (h : LitsAt w G ba ls) (hf : Fit ls) (hnv : (namesB ls).length ≤ 1048576) (hn16 : n ≤ 1048576)
 (hB : BaseV S w (.pointer o) E) (hL : BindsOf ((p, hs, ()), ls, ()) (rowsR (oneE ls E) ls) L) :
 Calls Tryz.prog 46 #[ruleV p ha hn hcap ba n bcap, .pointer o] w (RetN w fun w' v => BindsV w w' L v) := by
 have HOv := Lib.hid (fun W (hW : Ext w W) (bsa : Option Addr) (bsc : Nat) (hbs : CellsAt W bsa (List.replicate n (.pointer o))) => over_any (w := W) (p := p) (hs := hs) (ls := ls) (ha := ha) (ba := ba) (bsa := bsa) (hn := hn) (hcap := hcap) (n := n) (bcap := bcap) (nb := n) (bsc := bsc) (G := G) (bvs := List.replicate n (.pointer o)) (Es := oneE ls E) (L := L) hhn (hh.ext hW) hhl hbn (h.ext hW) hf hnv hn16 (by rw [List.length_replicate]) hbs (fun j => by
  unfold oneE
  by_cases hj : j < n
  ·rw [List.getD_eq_getElem?_getD, List.getElem?_replicate, if_pos hj, if_pos (by omega)]
   exact ⟨S, hB.ext hW⟩
  ·rw [List.getD_eq_getElem?_getD, List.getElem?_replicate, if_neg hj, if_neg (by omega)]
   exact ⟨fun _ => False, BaseV.nil⟩) hL)
 have HN := Lib.hid hn16
 obtain ⟨gb, egb⟩ : ∃ g, w.heap.size = g := ⟨_, rfl⟩
 obtain ⟨w1, e1⟩ : ∃ x, w.alloc (.cells #[.string p, .slice ha hn hcap, .slice ba n bcap] 27) = x := ⟨_, rfl⟩
 have x1 : Ext w w1 := by rw [<- e1]; exact (Kp.refl w).alloc _
 have hB1 : Blk w1 gb [.string p, .slice ha hn hcap, .slice ba n bcap] 27 := by rw [<- e1, <- egb]; exact Blk.new w _ _
 have H1 := Lib.hid x1
 have HJ := Lib.hid (show ∀ w', Ext w1 w' -> (fun w' : World => w'.cell? ⟨gb, 0, none⟩ = some (.string p) /\ w'.cell? ⟨gb, 1, none⟩ = some (.slice ha hn hcap) /\ w'.cell? ⟨gb, 2, none⟩ = some (.slice ba n bcap)) w' from fun w' hw' => ⟨by rw [(hB1.ext hw').cell']; rfl, by rw [(hB1.ext hw').cell']; rfl, by rw [(hB1.ext hw').cell']; rfl⟩)
 clear hhn hh hhl hbn h hf hnv hB hL x1 hB1
 go_enter Tryz.func46, Tryz.ntmps46
 go_wp2
 clear e1 egb
 refine draw_begin (fun w' : World => w'.cell? ⟨gb, 0, none⟩ = some (.string p) /\ w'.cell? ⟨gb, 1, none⟩ = some (.slice ha hn hcap) /\ w'.cell? ⟨gb, 2, none⟩ = some (.slice ba n bcap)) [7, 8] (by kernel_rfl) (HJ.out _ (Kp.refl w1).drew) (fun hHeld => ?_)
 (refine draw_in (i := 0) (v := ?_) rfl ?_ ?_; rotate_left; (intro w hSw; (try dsimp only at hSw); go_simp; try with_reducible rfl)); (try simp only [Act.put, List.setIfInBounds_toArray, List.set_cons_zero, List.set_cons_succ])
 (refine draw_free (i := 1) (v := ?_) rfl ?_ ?_; rotate_left; (intro w; go_simp; try with_reducible rfl)); (try simp only [Act.put, List.setIfInBounds_toArray, List.set_cons_zero, List.set_cons_succ])
 (refine draw_free (i := 3) (v := ?_) rfl ?_ ?_; rotate_left; (intro w; go_simp; try with_reducible rfl)); (try simp only [Act.put, List.setIfInBounds_toArray, List.set_cons_zero, List.set_cons_succ])
 (refine draw_in (i := 4) (v := ?_) rfl ?_ ?_; rotate_left; (intro w hSw; (try dsimp only at hSw); go_simp; try with_reducible rfl)); (try simp only [Act.put, List.setIfInBounds_toArray, List.set_cons_zero, List.set_cons_succ])
 (refine draw_in (i := 5) (v := ?_) rfl ?_ ?_; rotate_left; (intro w hSw; (try dsimp only at hSw); go_simp; try with_reducible rfl)); (try simp only [Act.put, List.setIfInBounds_toArray, List.set_cons_zero, List.set_cons_succ])
 refine draw_one (i := 2) ?_
 refine comes_turn (i := 2) rfl (fun K hK => ?_)
 go_simp
 refine hK.out _ _ ?_ (fun hHeld => ?_)
 ·(try dsimp only); (exact HJ.out _ (((Kp.refl w1).drew).alloc _))
 clear hK K; (try simp only [Act.put, List.setIfInBounds_toArray, List.set_cons_zero, List.set_cons_succ])
 refine draw_one (i := 6) ?_
 refine comes_turn (i := 6) rfl (fun K hK => ?_)
 go_simp
 (refine (repeat_any (o := o) (CellsAt.one w1.drew (.pointer o) 29) HN.out).mono ?_; rintro e w4 ⟨v4, rfl, hk4, ao, cap, rfl, hcs⟩; have X1 := Lib.hid (And.intro (show Ext w1 w4 from (((Kp.refl w1).drew).alloc _).trans hk4) hcs); clear hk4 hcs)
 go_wp2_with fail
 refine hK.out _ _ ?_ (fun hHeld => ?_)
 ·(try dsimp only); (exact HJ.out _ X1.out.1)
 clear hK K; (try simp only [Act.put, List.setIfInBounds_toArray, List.set_cons_zero, List.set_cons_succ])
 refine draw_one (i := 7) ?_
 refine comes_late (i := 7) rfl (by kernel_rfl) (fun K hK => ?_)
 go_simp
 (refine (HOv.out w4 (H1.out.trans X1.out.1) ao cap X1.out.2).mono ?_; rintro e w5 ⟨v5, rfl, hk5, hbd⟩; have X2 := Lib.hid (And.intro hk5 hbd); clear hk5 hbd)
 go_wp2_with fail
 refine hK.out _ _ ?_
 clear hK K; (try simp only [Act.put, List.setIfInBounds_toArray, List.set_cons_zero, List.set_cons_succ])
 refine draw_one (i := 8) ?_
 refine comes_late (i := 8) rfl (by kernel_rfl) (fun K hK => ?_)
 go_simp
 refine hK.out _ _ ?_
 clear hK K; (try simp only [Act.put, List.setIfInBounds_toArray, List.set_cons_zero, List.set_cons_succ])
 refine wpAnyD_done (by kernel_rfl) ?_ _
 clear hHeld
 go_wp2
 go_ret
 have hx4 : Ext w w4 := H1.out.trans X1.out.1
 obtain ⟨xb, lo, hlo, ev, hseq⟩ := X2.out.2
 exact RetN.mk (hx4.trans X2.out.1) ⟨xb, lo, Nat.le_trans hx4.size hlo, ev, hseq⟩
end Go.Proofs.YtinnmeiphbdogaaGreat

/- A rule's head with a binding: plain. -/
namespace Go.Proofs.YtinnmeiphbdogaaGreat
set_option linter.unusedVariables false
def headV (N V : List ByteArray) (hs : List TermZ) : List ByteArray := hs.filterMap fun t => if t.1 = 3 then some t.2.1 else if t.1 = 1 then some (valT N V t) else none
def headE (e : EnvZ) (hs : List TermZ) : List ByteArray := hs.filterMap fun t => if t.1 < 4 then some (valE e t) else none
theorem safe_head {r : RuleZ} (h : checkR r = 0) : ∀ t ∈ r.1.2.1, t.1 = 1 /\ t.2.1 ∈ namesB r.2.1 \/ t.1 = 3 \/ 4 ≤ t.1 := fun t ht => by
 unfold checkR at h
 split at h
 ·rename_i hp
  split at h
  ·rename_i hs
   unfold parted headOk at hp
   unfold safeR at hs
   rw [Bool.and_eq_true, Bool.and_eq_true, Bool.and_eq_true] at hp
   rw [Bool.and_eq_true] at hs
   have h1 := List.all_eq_true.1 hs.1 t ht
   have h2 := hp.1.1.1
   unfold kinds at h2
   have h3 := of_decide_eq_true (List.all_eq_true.1 h2 t ht)
   unfold safeT at h1
   split at h1
   ·cases h1
   ·rename_i h4
    rcases of_decide_eq_true h1 with h5 | h5 | h5
    ·exact .inr (.inl h5)
    ·exact .inr (.inr (by omega))
    ·by_cases h6 : t.1 = 1
     ·exact .inl ⟨h6, hasT_iff.1 h5⟩
     ·by_cases h7 : t.1 = 3
      ·exact .inr (.inl h7)
      ·exact .inr (.inr (by omega))
  ·cases h
 ·cases h
theorem fmap_congr {α β : Type} {f g : α -> Option β} : ∀ {l : List α}, (∀ x ∈ l, f x = g x) -> l.filterMap f = l.filterMap g
 | [], _ => rfl
 | x :: l, h => by
  rw [List.filterMap_cons, List.filterMap_cons, h x (List.mem_cons_self ..), fmap_congr fun y hy => h y (List.mem_cons_of_mem _ hy)]
theorem head_same {r : RuleZ} (h : checkR r = 0) (V : List ByteArray) : headV (namesB r.2.1) V r.1.2.1 = headE (namesB r.2.1, V) r.1.2.1 := by
 unfold headV headE
 refine fmap_congr fun t ht => ?_
 rcases safe_head h t ht with h1 | h1 | h1
 ·rw [if_neg (by omega), if_pos h1.1, if_pos (by omega), valE_eq (.inl h1)]
 ·rw [if_pos h1, if_pos (by omega), valE_eq (.inr h1)]
  unfold valT
  rw [if_neg (by omega)]
 ·rw [if_neg (by omega), if_neg (by omega), if_neg (by omega)]
end Go.Proofs.YtinnmeiphbdogaaGreat

/- join: Head: a rule's head with a binding. -/
namespace Go.Proofs.YtinnmeiphbdogaaGreat
open Go.RowKit Go.Shelf
set_option linter.unusedVariables false
attribute [local go_sem] Oper.semAt_some
def HeadWTo (w0 : World) (N V : List ByteArray) (hs : List TermZ) (n : Nat) (ov jv : Value) (W : World) : Prop :=
 ∃ i : Nat, i ≤ n /\ jv = .int .i64 i /\ Hid (Ext w0 W) /\ Hid (Row W 9 1 ov (headV N V (hs.take i)).length (strs (headV N V (hs.take i))) (New w0))
theorem headV_snoc (N V : List ByteArray) {hs : List TermZ} {i : Nat} {t : TermZ} (h : hs[i]? = some t) : headV N V (hs.take (i + 1)) = headV N V (hs.take i) ++ (if t.1 = 3 then [t.2.1] else if t.1 = 1 then [valT N V t] else []) := by
 unfold headV
 rw [List.take_add_one, h, List.filterMap_append]
 congr 1
 show List.filterMap _ [t] = _
 by_cases h1 : t.1 = 3
 ·simp [h1]
 ·by_cases h2 : t.1 = 1
  ·simp [h2]
  ·simp [h1, h2]
theorem headV_few (N V : List ByteArray) (hs : List TermZ) : (headV N V hs).length ≤ hs.length := List.length_filterMap_le _ _
def HeadOut (r : RuleZ) (V : List ByteArray) (w w' : World) (v : Value) : Prop :=
 (checkR r = 0 /\ V.length = (namesB r.2.1).length /\ ∃ ao cap, v = .tuple #[.slice ao (headV (namesB r.2.1) V r.1.2.1).length cap, .int .i64 0] /\ CellsAt w' ao (strs (headV (namesB r.2.1) V r.1.2.1)) /\ (headV (namesB r.2.1) V r.1.2.1).length ≤ cap /\ ∀ a, ao = some a -> w.heap.size ≤ a.block) \/
 (¬ (checkR r = 0 /\ V.length = (namesB r.2.1).length) /\ v = .tuple #[.slice none 0 0, .int .i64 2])
set_option maxRecDepth 100000 in
set_option maxHeartbeats 4000000 in
theorem headW_any {w : World} {p : ByteArray} {hs : List TermZ} {ls : List LitZ} {ha ba va : Option Addr} {hn hcap n bcap nb vc : Nat} {G : Nat -> Prop} {V : List ByteArray} (hhn : hn = hs.length) (hh : TermsAt w G ha hs) (hhl : hn ≤ 1048576) (hbn : n = ls.length) (h : LitsAt w G ba ls) (hf : Fit ls) (hnv : (namesB ls).length ≤ 1048576) (hV : nb = V.length) (hVc : CellsAt w va (strs V)) (hvb : nb ≤ 1048576) :
 Calls Tryz.prog 25 #[ruleV p ha hn hcap ba n bcap, .slice va nb vc] w (RetN w fun w' v => HeadOut ((p, hs, ()), ls, ()) V w w' v) := by
 have HCh := Lib.hid (fun W (hW : Ext w W) => check_any p hs ls ha hn hcap ba n bcap W G hhn (hh.ext hW) (by omega) hbn (h.ext hW) hf)
 have HVa := Lib.hid (fun W (hW : Ext w W) => vars_any p ha hn hcap ls ba n bcap W G hbn (h.ext hW) hf)
 have HT := Lib.hid (And.intro hhn hh)
 have HVc := Lib.hid (And.intro hV hVc)
 obtain ⟨cR, ecR⟩ : ∃ c, checkR ((p, hs, ()), ls, ()) = c := ⟨_, rfl⟩
 rw [ecR] at HCh
 have HC := Lib.hid ecR
 obtain ⟨gb, egb⟩ : ∃ g, w.heap.size = g := ⟨_, rfl⟩
 obtain ⟨w1, e1⟩ : ∃ x, w.alloc (.cells #[.string p, .slice ha hn hcap, .slice ba n bcap] 27) = x := ⟨_, rfl⟩
 have x1 : Ext w w1 := by rw [<- e1]; exact (Kp.refl w).alloc _
 have hB1 : Blk w1 gb [.string p, .slice ha hn hcap, .slice ba n bcap] 27 := by rw [<- e1, <- egb]; exact Blk.new w _ _
 have H1 := Lib.hid (And.intro x1 hB1)
 have r0 : w1.cell? ⟨gb, 0, none⟩ = some (.string p) := by rw [hB1.cell']; rfl
 have r1 : w1.cell? ⟨gb, 1, none⟩ = some (.slice ha hn hcap) := by rw [hB1.cell']; rfl
 have r2 : w1.cell? ⟨gb, 2, none⟩ = some (.slice ba n bcap) := by rw [hB1.cell']; rfl
 clear hh hbn h hf hV hVc ecR x1 hB1 hhn
 go_enter Tryz.func25, Tryz.ntmps25
 go_wp2_with fail
 clear e1 egb
 refine (HVa.out w1 H1.out.1).mono ?_
 rintro e w2 ⟨v2, rfl, hk2, na, nc, rfl, hnc, hna⟩
 obtain ⟨nv, env⟩ : ∃ k, (namesB ls).length = k := ⟨_, rfl⟩
 rw [env] at hnv ⊢
 have HEv := Lib.hid env
 have H2 := Lib.hid (And.intro (H1.out.1.trans hk2) (And.intro (H1.out.2.ext hk2) (And.intro hna env)))
 have q0 : w2.cell? ⟨gb, 0, none⟩ = some (.string p) := hk2.cell r0 id
 have q1 : w2.cell? ⟨gb, 1, none⟩ = some (.slice ha hn hcap) := hk2.cell r1 id
 have q2 : w2.cell? ⟨gb, 2, none⟩ = some (.slice ba n bcap) := hk2.cell r2 id
 clear hk2 r0 r1 r2 hnc hna env
 go_wp2_with fail
 refine (HCh.out w2 H2.out.1).mono ?_
 rintro e w3 ⟨v3, rfl, hk3, rfl⟩
 have H3 := Lib.hid (And.intro (H2.out.1.trans hk3) (And.intro (H2.out.2.1.ext hk3) (H2.out.2.2.1.ext hk3)))
 clear hk3 q0 q1 q2
 by_cases hc : cR = 0
 ·subst hc
  by_cases hl : nb = nv
  ·subst hl
   have u1 : w3.cell? ⟨gb, 1, none⟩ = some (.slice ha hn hcap) := by rw [H3.out.2.1.cell']; rfl
   go_wp2
   clear u1
   go_loopw [7, 26] (fun ov jv wk => HeadWTo w3 (namesB ls) V hs hn ov jv wk) (fun _ jv _ => hn - (intOf jv).toNat)
   case atStart => exact ⟨0, Nat.zero_le _, rfl, Lib.hid (Kp.refl _), Lib.hid (Row.nil _ _ _ _)⟩
   case round =>
    obtain ⟨i, hi, rfl, hex, hro⟩ := hrel
    obtain ⟨oa, oc, eov, hoc, hle⟩ := hro.out.shape
    subst eov
    by_cases hlt : i < hn
    ·obtain ⟨t, ht⟩ : ∃ t, hs[i]? = some t := ⟨_, List.getElem?_eq_getElem (by rw [<- HT.out.1]; exact hlt)⟩
     obtain ⟨b, off, eha, f0, f1, -, -⟩ := term_at (HT.out.2.ext (H3.out.1.trans hex.out)) ht
     subst eha
     obtain ⟨kt, st, ⟨⟩⟩ := t
     simp only at f0 f1
     have HTt := Lib.hid ht
     obtain ⟨bx, ebx⟩ : ∃ x, wr.heap.size = x := ⟨_, rfl⟩
     obtain ⟨W1, eW1⟩ : ∃ x, wr.alloc (.cells #[.int .i64 kt, .string st] 38) = x := ⟨_, rfl⟩
     have hBx : Blk W1 bx [.int .i64 kt, .string st] 38 := by rw [<- eW1, <- ebx]; exact Blk.new wr _ _
     have x1 : Ext wr W1 := by rw [<- eW1]; exact (Kp.refl wr).alloc _
     have g0 : W1.cell? ⟨bx, 0, none⟩ = some (.int .i64 kt) := by rw [hBx.cell']; rfl
     have g1 : W1.cell? ⟨bx, 1, none⟩ = some (.string st) := by rw [hBx.cell']; rfl
     have HX := Lib.hid (And.intro (hex.out.trans x1) (hro.out.ext x1))
     have hfew := headV_few (namesB ls) V (hs.take i)
     rw [List.length_take] at hfew
     clear hBx x1 ht hoc hle hex hro hi
     by_cases h3 : kt = 3
     ·subst h3
      have HS := Lib.hid (headV_snoc (namesB ls) V HTt.out)
      rw [if_pos rfl] at HS
      go_wp2_with (first | (at_builtin; refine Halted.out ?_))
      refine Halted.mk (wp_appN elemStr rfl _ _ rfl (HX.out.1.alloc _) rfl (HX.out.2.alloc _) rfl (CellsAt.one W1 (.string st) 9) rfl (by simp; rfl) (by omega) (by unfold maxLen; omega) ?_)
      intro v6 w6 hr6 hk6 hk6b _
      obtain ⟨la, lcap, elv, _, _⟩ := hr6.shape
      subst elv
      have HF := Lib.hid (show Ext w3 w6 /\ Row w6 9 1 (.slice la ((headV (namesB ls) V (hs.take i)).length + 1) lcap) (headV (namesB ls) V (hs.take (i + 1))).length (strs (headV (namesB ls) V (hs.take (i + 1)))) (New w3) from by
       refine ⟨hk6, ?_⟩
       rw [HS.out, List.length_append, List.length_singleton]
       have e : strs (headV (namesB ls) V (hs.take i) ++ [st]) = strs (headV (namesB ls) V (hs.take i)) ++ [.string st] := by simp [strs]
       rw [e]; exact hr6)
      clear hr6 hk6 hk6b
      go_wp2
      go_roundw
      case rel => exact ⟨i + 1, by omega, by first | rfl | (congr 1; done) | (congr 1; omega), Lib.hid HF.out.1, Lib.hid HF.out.2⟩
      case measure => simp [intOf]; omega
     ·have b3 : (kt == 3) = false := by simp [h3]
      by_cases h1 : kt = 1
      ·subst h1
       have hin : st ∈ namesB ls := by
        rcases safe_head (r := ((p, hs, ()), ls, ())) HC.out _ (List.mem_of_getElem? HTt.out) with h | h | h
        ·exact h.2
        ·cases h
        ·exact absurd (show (4 : Int) ≤ 1 from h) (by decide)
       obtain ⟨q, eq⟩ : ∃ q, (namesB ls).findIdx (fun s => decide (s = st)) = q := ⟨_, rfl⟩
       have hqn : q < (namesB ls).length := by
        have := (List.getElem?_eq_some_iff.1 (idx_of hin)).1
        rw [eq] at this; exact this
       have hqb : q < V.length := by rw [<- HVc.out.1, <- HEv.out]; exact hqn
       obtain ⟨x, hx⟩ : ∃ x, V[q]? = some x := ⟨_, List.getElem?_eq_getElem hqb⟩
       obtain ⟨vb, vo, eva, vc0⟩ := (HVc.out.2.ext (H3.out.1.trans HX.out.1)) q (.string x) (by simp [strs, hx])
       subst eva
       have HS := Lib.hid (headV_snoc (namesB ls) V HTt.out)
       rw [if_neg h3, if_pos rfl, show valT (namesB ls) V ((1 : Int), st, ()) = x from by
        unfold valT
        rw [if_pos rfl]
        show gotD V ((namesB ls).findIdx fun s => decide (s = st)) = x
        rw [eq]; exact getD_some hx] at HS
       have HIx := Lib.hid (show ∀ W, Ext w3 W -> Calls Tryz.prog 75 #[.slice na nb nc, .string st] W (RetN W fun w' v => v = .int .i64 (q : Nat)) from fun W hW => by
        have h := indexSx_any (namesB ls) st na nb nc W HEv.out.symm (H3.out.2.2.ext hW) (by omega)
        have e : firstI (fun s => decide (s = st)) (namesB ls) = (q : Nat) := by
         unfold firstI
         rw [if_pos (List.any_eq_true.2 ⟨st, hin, decide_eq_true rfl⟩), eq]
        rw [e] at h; exact h)
       have hqn2 : (q : Int) < (nb : Int) := by have := HVc.out.1; omega
       clear hin eq hqn hqb hx h3
       go_wp2_with fail
       refine (HIx.out W1 HX.out.1).mono ?_
       rintro e w5 ⟨v5, rfl, hk5, rfl⟩
       have v0 := hk5.cell vc0 id
       have HX5 := Lib.hid (And.intro (HX.out.1.trans hk5) (HX.out.2.ext hk5))
       clear hk5 vc0 eW1 g0 g1
       go_wp2_with (first | (at_builtin; refine Halted.out ?_))
       refine Halted.mk (wp_appN elemStr rfl _ _ rfl (HX5.out.1.alloc _) rfl (HX5.out.2.alloc _) rfl (CellsAt.one w5 (.string x) 9) rfl (by simp; rfl) (by omega) (by unfold maxLen; omega) ?_)
       intro v6 w6 hr6 hk6 hk6b _
       obtain ⟨la, lcap, elv, _, _⟩ := hr6.shape
       subst elv
       have HF := Lib.hid (show Ext w3 w6 /\ Row w6 9 1 (.slice la ((headV (namesB ls) V (hs.take i)).length + 1) lcap) (headV (namesB ls) V (hs.take (i + 1))).length (strs (headV (namesB ls) V (hs.take (i + 1)))) (New w3) from by
        refine ⟨hk6, ?_⟩
        rw [HS.out, List.length_append, List.length_singleton]
        have e : strs (headV (namesB ls) V (hs.take i) ++ [x]) = strs (headV (namesB ls) V (hs.take i)) ++ [.string x] := by simp [strs]
        rw [e]; exact hr6)
       clear hr6 hk6 hk6b
       go_wp2
       go_roundw
       case rel => exact ⟨i + 1, by omega, by first | rfl | (congr 1; done) | (congr 1; omega), Lib.hid HF.out.1, Lib.hid HF.out.2⟩
       case measure => simp [intOf]; omega
      ·have b1 : (kt == 1) = false := by simp [h1]
       have HS := Lib.hid (headV_snoc (namesB ls) V HTt.out)
       rw [if_neg h3, if_neg h1, List.append_nil] at HS
       clear h3 h1
       go_wp2
       go_roundw
       case rel => exact ⟨i + 1, by omega, by first | rfl | (congr 1; done) | (congr 1; omega), Lib.hid HX.out.1, Lib.hid (by rw [HS.out]; exact HX.out.2)⟩
       case measure => simp [intOf]; omega
    ·obtain rfl : hn = i := by omega
     have hall : hs.take hn = hs := List.take_of_length_le (by rw [<- HT.out.1]; exact Nat.le_refl _)
     have hro2 := hro.out
     rw [hall] at hro2 hoc hle ⊢
     have HCl := Lib.hid (clipS_any oa (headV (namesB ls) V hs).length oc wr hle)
     have HR := Lib.hid (show Ext w wr /\ CellsAt wr oa (strs (headV (namesB ls) V hs)) /\ ∀ a, oa = some a -> w.heap.size ≤ a.block from ⟨H3.out.1.trans hex.out, hoc, fun a e => by
      subst e
      have h1 : w3.heap.size ≤ a.block := hro2.block a.block rfl
      have h2 := H3.out.1.size
      omega⟩)
     clear hex hro hro2 hoc hle hi hlt hall
     go_wp2_with fail
     refine HCl.out.mono ?_
     rintro e w5 ⟨v5, rfl, hk5, rfl⟩
     go_wp2
     go_ret2
     exact RetN.mk (HR.out.1.trans hk5) (.inl ⟨HC.out, by rw [<- HVc.out.1]; exact HEv.out.symm, _, _, rfl, HR.out.2.1.ext hk5, Nat.le_refl _, HR.out.2.2⟩)
  ·have hnl : ((nb : Int) == (nv : Int)) = false := by simp; omega
   have HNl := Lib.hid (show ¬ (checkR ((p, hs, ()), ls, ()) = 0 /\ V.length = (namesB ls).length) from fun h => hl (by rw [HVc.out.1, <- HEv.out]; exact h.2))
   clear hl
   go_wp2
   go_ret2
   exact RetN.mk H3.out.1 (.inr ⟨HNl.out, rfl⟩)
 ·have hc' : ((cR : Int) == 0) = false := by simp; omega
  have HN := Lib.hid hc
  clear hc
  go_wp2
  go_ret2
  exact RetN.mk H3.out.1 (.inr ⟨fun h => HN.out (by rw [<- HC.out]; exact h.1), rfl⟩)
end Go.Proofs.YtinnmeiphbdogaaGreat

/- join: Facts: does a head ask for a sum? -/
namespace Go.Proofs.YtinnmeiphbdogaaGreat
open Go.RowKit Go.Shelf
set_option linter.unusedVariables false
attribute [local go_sem] Oper.semAt_some
end Go.Proofs.YtinnmeiphbdogaaGreat

/- join: Facts: rows that are added one by one: plain. -/
namespace Go.Proofs.YtinnmeiphbdogaaGreat
set_option linter.unusedVariables false
end Go.Proofs.YtinnmeiphbdogaaGreat

/- join: Facts: a round of its range over the bindings. -/
namespace Go.Proofs.YtinnmeiphbdogaaGreat
open Go.RowKit Go.Shelf
set_option linter.unusedVariables false
attribute [local go_sem] Oper.semAt_some
end Go.Proofs.YtinnmeiphbdogaaGreat

/- join: Facts. -/
namespace Go.Proofs.YtinnmeiphbdogaaGreat
open Go.RowKit Go.Shelf
set_option linter.unusedVariables false
attribute [local go_sem] Oper.semAt_some
structure FactsAt (w X : World) (gb b7 rb : Nat) (cs : List Value) : Prop where
 rule : Blk X gb cs 27
 r4 : Blk X (gb + 1) [.pointer none] 88
 r5 : Blk X (gb + 1 + 1) [.int .i64 0] 41
 rows : Blk X b7 [.pointer (some ⟨rb, 0, none⟩)] 88
 ext : Ext w X
 lt : gb + 1 + 1 < b7
theorem GvRow.put (T : Nat -> Prop) (W1 W2 : World) (x : XB) (l : Nat) (r o : Obj) (h : GvRow W1 T W2 x) (hr : W2.heap[l]? = some r) (hc : r.isCells = false) : GvRow (W1.putObj l o) T (W2.putObj l o) x := by
 refine ⟨h.1, ?_⟩
 rcases h.2 with h2 | ⟨g, rest, h1, h2, h3, h4⟩
 ·exact .inl h2
 ·refine .inr ⟨g, rest, h1, h2.kp (F := fun k => k = l) (Kp.putF (F := fun k => k = l) rfl _) (fun e => ?_), by rw [size_put]; exact h3, h4⟩
  have e' : g = l := e
  unfold Blk at h2
  rw [e', hr] at h2
  cases h2; cases hc
theorem GvRow.cells {W1 W2 : World} {T : Nat -> Prop} {xa : Option Addr} {xn xc : Nat} {V : List ByteArray} (h : GvRow W1 T W2 ((xa, xn, xc), V)) : (xn = V.length /\ xc = V.length) /\ CellsAt W2 xa (strs V) := by
 obtain ⟨h1, h2⟩ := h
 have h1' : (xn, xc) = (V.length, V.length) := h1
 refine ⟨⟨congrArg Prod.fst h1', congrArg Prod.snd h1'⟩, ?_⟩
 rcases h2 with ⟨e, e2⟩ | ⟨g, rest, e, hb, _⟩
 ·have e2' : V = [] := e2
  rw [e2']; exact CellsAt.nil _ _
 ·have e' : xa = some ⟨g, 0, none⟩ := e
  rw [e']; exact CellsAt.pre hb
end Go.Proofs.YtinnmeiphbdogaaGreat

/- The constants of bindings are small; a binding as one text: plain. -/
namespace Go.Proofs.YtinnmeiphbdogaaGreat
set_option linter.unusedVariables false
theorem gotD_small {x : List ByteArray} {i : Nat} (h : textsC x = true) : (gotD x i).size ≤ 4096 := by
 unfold gotD
 rw [List.getD_eq_getElem?_getD]
 cases hx : x[i]? with
 | none => show ByteArray.empty.size ≤ 4096; exact Nat.zero_le _
 | some s =>
  unfold textsC at h
  exact of_decide_eq_true (List.all_eq_true.1 h s (List.mem_of_getElem? hx))
theorem bind_small {ls : List LitZ} {R : Nat -> Rows2} {V : List ByteArray} (hV : BindOk ls R V) (hR : ∀ j x, x ∈ R j -> textsC x = true) : ∀ s ∈ V, s.size ≤ 4096 := fun s hs => by
 obtain ⟨v, hv⟩ := List.mem_iff_getElem?.1 hs
 have hvl := (List.getElem?_eq_some_iff.1 hv).1
 rw [hV.1] at hvl
 obtain ⟨l, hl, h1, hva⟩ := names_positive hvl
 obtain ⟨j, hj⟩ := List.mem_iff_getElem?.1 hl
 have hh := hV.2 j l hj
 unfold holdsL at hh
 rw [if_pos h1] at hh
 obtain ⟨x, hx, -, hf⟩ := hh
 obtain ⟨hvn, i, t, hi, ht, he⟩ := vars_mem.1 hva
 obtain ⟨v', hv', e'⟩ := (hf i t hi).2 ht
 have hv0 : (namesB ls)[v]? = some (gotD (namesB ls) v) := by unfold gotD; rw [List.getD_eq_getElem?_getD, List.getElem?_eq_getElem hvn]; rfl
 rw [he] at hv'
 have : v = v' := (List.getElem?_inj hvn (namesB_nodup ls)).1 (hv0.trans hv'.symm)
 subst this
 rw [hv] at e'
 cases e'
 exact gotD_small (hR j x hx)
def joinS (V : List ByteArray) : ByteArray := V.foldl (fun s x => s ++ x ++ ⟨#[59]⟩) ⟨#[]⟩
theorem joinS_snoc (V : List ByteArray) (x : ByteArray) : joinS (V ++ [x]) = joinS V ++ x ++ ⟨#[59]⟩ := by unfold joinS; rw [List.foldl_append]; rfl
theorem joinS_take {V : List ByteArray} {i : Nat} {x : ByteArray} (h : V[i]? = some x) : joinS (V.take (i + 1)) = joinS (V.take i) ++ x ++ ⟨#[59]⟩ := by
 rw [List.take_add_one, h]; exact joinS_snoc _ _
theorem joinS_small {V : List ByteArray} (h : ∀ s ∈ V, s.size ≤ 4096) (i : Nat) : (joinS (V.take i)).size ≤ i * 4097 := by
 induction i with
 | zero => exact Nat.zero_le _
 | succ i ih =>
  rw [Nat.succ_mul]
  generalize i * 4097 = m at ih ⊢
  cases hx : V[i]? with
  | none =>
   rw [List.take_add_one, hx, Option.toList_none, List.append_nil]
   exact Nat.le_trans ih (Nat.le_add_right _ _)
  | some x =>
   have h2 := h x (List.mem_of_getElem? hx)
   rw [joinS_take hx, ByteArray.size_append, ByteArray.size_append, show (⟨#[59]⟩ : ByteArray).size = 1 from rfl]
   omega
end Go.Proofs.YtinnmeiphbdogaaGreat

/- A list of texts that grows between the rounds of a range over bindings. -/
namespace Go.Proofs.YtinnmeiphbdogaaGreat
open Go.RowKit Go.Shelf
set_option linter.unusedVariables false
attribute [local go_sem] Oper.semAt_some
def ListI (w8 : World) (b : Nat) (f : List XB -> List ByteArray) (T : Nat -> Prop) (pre : List XB) (W : World) : Prop :=
 Kp (fun k => k = b) w8 W /\ (∀ k, T k -> w8.heap.size ≤ k) /\ ∃ v, Blk W b [v] 34 /\ Row W 9 1 v (f pre).length (strs (f pre)) (fun g => w8.heap.size ≤ g /\ ¬ T g)
section
variable {w8 W1 W : World} {b : Nat} {f : List XB -> List ByteArray} {T T' : Nat -> Prop} {pre : List XB}
theorem ListI.step (h : ListI w8 b f T pre W1) (hb : b < w8.heap.size) (hk : Kp T W1 W) (hT : ∀ k, T' k -> MoreT T W1 W k) : ListI w8 b f T' pre W := by
 obtain ⟨h1, h2, v, h3, h4⟩ := h
 have hs1 := h1.size
 refine ⟨h1.trans' hk fun i hi hf => absurd (h2 i hf) (by omega), fun k hk' => ?_, v, h3.kp hk fun hf => by have := h2 b hf; omega, ?_⟩
 ·rcases hT k hk' with h | h
  ·exact h2 k h
  ·omega
 ·have h5 := h4.kp' hk fun g hg hM hf => hM.2 hf
  obtain ⟨q1, q2 | ⟨g, cap, rest, a, hM, c, d⟩⟩ := h4
  ·obtain ⟨q3, q4⟩ := q2
   exact ⟨q1, .inl ⟨q3, q4⟩⟩
  ·obtain ⟨r1, ⟨r2, _⟩ | ⟨g', cap', rest', a', hM', c', d'⟩⟩ := h5
   ·rw [a] at r2; cases r2
   ·have hgg : g' = g := by rw [a] at a'; cases a'; rfl
    refine ⟨r1, .inr ⟨g', cap', rest', a', ⟨hM'.1, fun ht => ?_⟩, c', d'⟩⟩
    rcases hT g' ht with h | h
    ·exact hM'.2 h
    ·have := c.lt; omega
theorem ListI.put (h : ListI w8 b f T pre W) (hb : b < w8.heap.size) {l : Nat} {o o' : Obj} (hl : w8.heap.size ≤ l) (ho : W.heap[l]? = some o) (hc : o.isCells = false) : ListI w8 b f T pre (W.putObj l o') := by
 obtain ⟨h1, h2, v, h3, h4⟩ := h
 have hk : Kp (fun k => k = l) W (W.putObj l o') := Kp.putF (F := fun k => k = l) rfl _
 refine ⟨h1.trans' hk fun i hi hf => by have e : i = l := hf; omega, h2, v, h3.kp hk fun e => by have e' : b = l := e; omega, h4.kp' hk fun g hg _ e => ?_⟩
 obtain ⟨cs, hb'⟩ := rowBlk h4 hg
 have e' : g = l := e
 unfold Blk at hb'
 rw [e', ho] at hb'; cases hb'; cases hc
theorem ListI.start (h : Blk w8 b [.slice none 0 0] 34) (hf : f [] = []) : ListI w8 b f (fun _ => False) [] w8 :=
 ⟨Kp.refl _, fun k h => h.elim, _, h, by rw [hf]; exact Row.nil _ _ _ _⟩
theorem ListI.round {v v' : Value} {X : World} {x : XB} {s : ByteArray} {Z : Nat -> Prop} (h : ListI w8 b f T pre W) (hb : b < w8.heap.size) (hTlt : ∀ k, T k -> k < W.heap.size) (hZ : ∀ k, Z k -> b < k /\ k < w8.heap.size) (hv : Blk W b [v] 34) (hk : Kp (fun k => k = b \/ v.ownBlock = some k) W X) (hB : Blk X b [v'] 34) (hr : Row X 9 1 v' ((f pre).length + 1) (strs (f pre ++ [s])) (fun g => v.ownBlock = some g \/ W.heap.size ≤ g)) (hf : f (pre ++ [x]) = f pre ++ [s]) :
 KeepsFrom w8.heap.size W X /\ Kp (fun k => ¬ WithZ Z T k) W X /\ ListI w8 b f T (pre ++ [x]) X := by
 obtain ⟨h1, h2, v0, h3, h4⟩ := h
 have e0 : v0 = v := by
  unfold Blk at h3 hv
  rw [h3] at hv; cases hv; rfl
 subst e0
 have hsz := h1.size
 have hno : ∀ k, (k = b \/ v0.ownBlock = some k) -> ¬ T k /\ (k = b \/ w8.heap.size ≤ k) := fun k hk => by
  rcases hk with h | h
  ·exact ⟨fun ht => by have := h2 k ht; omega, .inl h⟩
  ·exact ⟨(h4.block k h).2, .inr (h4.block k h).1⟩
 refine ⟨⟨hk.size, fun k o hB2 hk2 ho => (hk.block k (lt_of_block hk2) fun hf => ?_).trans hk2⟩, hk.mono fun k hk2 hf hz => ?_, h1.trans' hk fun k hk2 hf => ?_, h2, v', hB, ?_⟩
 ·rcases hf with e | e
  ·unfold Blk at h3; rw [e, h3] at hk2; cases hk2; cases ho
  ·obtain ⟨cs, hb'⟩ := rowBlk h4 e
   unfold Blk at hb'; rw [hb'] at hk2; cases hk2; cases ho
 ·rcases hz with hz | hz
  ·exact (hno k hf).1 hz
  ·have := hZ k hz
   rcases (hno k hf).2 with h | h <;> omega
 ·rcases (hno k hf).2 with h | h
  ·exact h
  ·omega
 ·rw [hf, List.length_append, List.length_singleton]
  refine hr.mono fun g hg => ?_
  rcases hg with hg | hg
  ·exact h4.block g hg
  ·exact ⟨by omega, fun ht => by have := hTlt g ht; omega⟩
end
def eachS (pre : List XB) : List ByteArray := pre.map fun x => joinS x.2
noncomputable def eachBody : Code := ((Tryz.f18.body.bind firstRangeL).getD .skip)
set_option maxRecDepth 100000 in
theorem lit31 (t : Array Value) (h : t.size = 31) : ∃ u : Nat -> Value, (∀ i, t.getD i undef = u i) /\ t = #[u 0, u 1, u 2, u 3, u 4, u 5, u 6, u 7, u 8, u 9, u 10, u 11, u 12, u 13, u 14, u 15, u 16, u 17, u 18, u 19, u 20, u 21, u 22, u 23, u 24, u 25, u 26, u 27, u 28, u 29, u 30] := by
 refine ⟨fun i => t.toList.getD i undef, fun i => by simp [Array.getD_eq_getD_getElem?, List.getD_eq_getElem?_getD], ?_⟩
 apply Array.ext'
 have := list_litL t.toList 31 (by simpa using h)
 exact this
def JoinTo (X : World) (V : List ByteArray) (n : Nat) (sv iv : Value) (W : World) : Prop := ∃ i : Nat, i ≤ n /\ iv = .int .i64 i /\ sv = .string (joinS (V.take i)) /\ Hid (Ext X W)
set_option maxRecDepth 100000 in
set_option maxHeartbeats 4000000 in
theorem each_round {X : World} {b5 n l : Nat} {xa : Option Addr} {xc : Nat} {V ss : List ByteArray} {v : Value} {M : Nat -> Prop} {t : Array Value} {Qn : World -> Prop}
 (h5 : Blk X b5 [v] 34) (hr : Row X 9 1 v n (strs ss) M) (hn : n ≤ 1048576 * 1048576) (hV : CellsAt X xa (strs V)) (hVl : V.length ≤ 1048576) (hVs : ∀ s ∈ V, s.size ≤ 4096)
 (hz : t.size = 31) (t5 : t.getD 5 undef = .pointer (some ⟨b5, 0, none⟩)) (t6 : t.getD 6 undef = .slice xa V.length xc)
 (hQn : ∀ X', Kp (fun k => k = b5 \/ v.ownBlock = some k) X X' -> (∃ v', Blk X' b5 [v'] 34 /\ Row X' 9 1 v' (n + 1) (strs (ss ++ [joinS V])) (fun g => v.ownBlock = some g \/ X.heap.size ≤ g)) -> Qn X') :
 eachBody.wpIn (Fence.wide.inRound l) 2 Tryz.prog (laidPost Qn fun _ => False) { tmps := t, defers := [] } X := by
 obtain ⟨u, hu, rfl⟩ := lit31 t hz
 have e5 := (hu 5).symm.trans t5
 have e6 := (hu 6).symm.trans t6
 rw [e5, e6]
 clear hz t5 t6 e5 e6 hu
 obtain ⟨oa, oc, ev, _, _⟩ := hr.shape
 subst ev
 have HQ := Lib.hid hQn
 have H0 := Lib.hid (And.intro h5 hr)
 have HV := Lib.hid (And.intro hV hVs)
 obtain ⟨m, em⟩ : ∃ m, V.length = m := ⟨_, rfl⟩
 rw [em] at hVl ⊢
 have HM := Lib.hid em
 clear hQn h5 hr hV hVs em
 conv => arg 4; whnf
 gi_wp2
 gi_loopw [7, 8] (fun sv iv wr => JoinTo X V m sv iv wr) (fun _ iv _ => m - (intOf iv).toNat)
 case atStart => exact ⟨0, Nat.zero_le _, rfl, rfl, Lib.hid (Kp.refl _)⟩
 case round =>
  obtain ⟨i, hi, rfl, rfl, hex⟩ := hrel
  by_cases hlt : i < m
  ·obtain ⟨x, hx⟩ : ∃ x, V[i]? = some x := ⟨_, List.getElem?_eq_getElem (by rw [HM.out]; exact hlt)⟩
   obtain ⟨xb, xo, exa, xc0⟩ := (HV.out.1.ext hex.out) i (.string x) (by simp [strs, hx])
   subst exa
   have HX := Lib.hid (joinS_take hx)
   have hs1 := joinS_small HV.out.2 i
   have hs2 := HV.out.2 x (List.mem_of_getElem? hx)
   obtain ⟨sa, esa⟩ : ∃ s, joinS (V.take i) = s := ⟨_, rfl⟩
   rw [esa] at HX hs1 ⊢
   have hadd1 : (Op.stringOp .add sa x).run Tryz.prog wr = .ok (.string (sa ++ x)) wr := run_string_add_sum _ _ _ (by omega)
   have hadd2 : (Op.stringOp .add (sa ++ x) ⟨#[59]⟩).run Tryz.prog wr = .ok (.string (sa ++ x ++ ⟨#[59]⟩)) wr := run_string_add_sum _ _ _ (by rw [ByteArray.size_append]; have h3 : (⟨#[59]⟩ : ByteArray).size = 1 := rfl; omega)
   have i1 : (i : Int) < (m : Int) := by omega
   clear hx hs1 hs2 esa
   gi_wp2
   go_roundw
   case rel => exact ⟨i + 1, by omega, by first | rfl | (congr 1; done) | (congr 1; omega), by rw [HX.out], hex⟩
   case measure => simp [intOf]; omega
  ·obtain rfl : i = m := by omega
   have hall : V.take i = V := List.take_of_length_le (by rw [HM.out]; exact Nat.le_refl _)
   rw [hall]
   obtain ⟨s, es⟩ : ∃ s, joinS V = s := ⟨_, rfl⟩
   rw [es] at HQ ⊢
   have b0 : wr.cell? ⟨b5, 0, none⟩ = some (.slice oa n oc) := by rw [(H0.out.1.ext hex.out).cell']; rfl
   gi_wp2_with (first | (gi_at_builtin; refine Halted.out ?_))
   refine Halted.mk (wpIn_app elemStr rfl _ _ rfl (F := fun k => (Value.slice oa n oc).ownBlock = some k) (w0 := X) (M := fun g => (Value.slice oa n oc).ownBlock = some g \/ X.heap.size ≤ g) ((Ext.kp hex.out).alloc _) (fun g hg hlt2 => by rcases hg with hg | hg; exact hg; omega) (fun g hg => .inr (by have := hex.out.size; have h2 : (wr.alloc _).heap.size ≤ g := hg; rw [alloc_size] at h2; omega)) rfl (((H0.out.2.ext hex.out).alloc _).own.mono fun g hg => .inl hg) rfl (by rfl) (CellsAt.one wr (.string s) 9) (by simp [Value.oneCell']) (by omega) (by unfold maxLen; omega) ?_)
   intro v6 w6 hr6 hk6 hk6b _ _
   have hB6 : Blk w6 b5 [.slice oa n oc] 34 := ((H0.out.1.ext hex.out).alloc _).kp hk6b fun hg => by
    obtain ⟨cs, hb⟩ := rowBlk (H0.out.2.ext hex.out) hg
    exact absurd (blkOne hb (H0.out.1.ext hex.out)) (by decide)
   have c6 : w6.cell? ⟨b5, 0, none⟩ = some (.slice oa n oc) := by rw [hB6.cell']; rfl
   have f6 := hB6.free 0
   obtain ⟨la, lcap, elv, _, _⟩ := hr6.shape
   subst elv
   have H6 := Lib.hid (And.intro hr6 (And.intro hk6 hB6))
   clear hr6 hk6 hk6b hB6 b0
   gi_wp2
   have ks : Kp (fun k => k = b5) w6 (w6.setCell ⟨b5, 0, none⟩ (.slice la (n + 1) lcap)) := Kp.setCell (F := fun k => k = b5) (p := ⟨b5, 0, none⟩) (Kp.refl w6) (fun _ => rfl) _
   refine HQ.out _ ((H6.out.2.1.mono fun k _ h => Or.inr h).trans (ks.mono fun k _ h => Or.inl h)) ⟨_, H6.out.2.2.set 0 _, ?_⟩
   have e : strs (ss ++ [s]) = strs ss ++ [.string s] := by simp [strs]
   rw [e]
   refine H6.out.1.kp' ks fun g hg _ e2 => ?_
   obtain ⟨cs, hb⟩ := rowBlk H6.out.1 hg
   rw [show g = b5 from e2] at hb
   exact absurd (blkOne hb H6.out.2.2) (by decide)
end Go.Proofs.YtinnmeiphbdogaaGreat
