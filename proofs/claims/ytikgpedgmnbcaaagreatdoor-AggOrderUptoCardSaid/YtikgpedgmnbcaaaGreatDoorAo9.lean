/- Texts joined for a claim (AggTail, AggFPl, AggGroups, AggIns, AggOf, AggFacts, AggAll, AggLib, AggMove, AggPerm, AggFew). -/
import Derived.Test.YtikgpedgmnbcaaaGreatDoorAo8
set_option linter.unusedVariables false
set_option linter.unusedSimpArgs false
set_option maxRecDepth 100000
namespace Go.Proofs.YtikgpedgmnbcaaaGreatDoor
section
open Go.RowKit Go.Shelf
attribute [local go_sem] Oper.semAt_some
theorem aE3 {w W : World} {P : World -> Value -> Prop} {tmps : Array Value} {ds : List Deferred} {lo g6 g7 : Nat} {a b : Value} (hm : Marks lo W ds) (hk : Ext w W) (hlo : w.heap.size ≤ lo) (h6 : tmps.getD 6 undef = .pointer (some ⟨g6, 0, none⟩)) (h7 : tmps.getD 7 undef = .pointer (some ⟨g7, 0, none⟩)) (hB6 : Blk W g6 [a] 120) (hB7 : Blk W g7 [b] 46)
 (hP : ∀ w', Ext w w' -> Kp (fun k => lo ≤ k /\ ¬ dM W k) W w' -> P w' (.tuple #[a, b])) :
 bodyPostM Fence.wide 4 Tryz.prog Tryz.f66 (RetN w P) .ret { tmps := tmps, defers := ds } W := by
 refine fM hm fun w' e1 e2 e3 e4 e5 e6 => ?_
 have kx : Kp (fun k => lo ≤ k /\ ¬ dM W k) W w' := ⟨e1, e2, e3, by omega, fun k hk hf => by
  by_cases h : lo ≤ k
  ·by_cases h2 : ∃ o : Obj, W.heap[k]? = some o /\ o.isCells = true
   ·obtain ⟨o, h2, h3⟩ := h2
    rw [h2]; exact e6 k o h2 h3
   ·exact absurd ⟨h, h2⟩ hf
  ·exact e5 k (by omega)⟩
 have hx : Ext w w' := hk.trans' kx fun i hi h => absurd h.1 (by omega)
 refine ⟨.tuple #[a, b], ?_, RetN.mk hx (hP w' hx kx)⟩
 have hB62 : Blk w' g6 [a] 120 := hB6.kp kx fun h => h.2 ⟨_, hB6, rfl⟩
 have hB72 : Blk w' g7 [b] 46 := hB7.kp kx fun h => h.2 ⟨_, hB7, rfl⟩
 have c0 : w'.cell? ⟨g6, 0, none⟩ = some a := by rw [hB62.cell']; rfl
 have c1 : w'.cell? ⟨g7, 0, none⟩ = some b := by rw [hB72.cell']; rfl
 have h6' : tmps[6]?.getD undef = .pointer (some ⟨g6, 0, none⟩) := by simpa using h6
 have h7' : tmps[7]?.getD undef = .pointer (some ⟨g7, 0, none⟩) := by simpa using h7
 simp [results, Tryz.f66, go_sem, h6', h7', c0, c1]
def eM (k : Int) (at_ : Nat) (L : aC) : Nat := L.foldl (fun f V => jZ f (takeA k at_ V)) 0
theorem aCo (k : Int) (at_ : Nat) (L : aC) (V : List ByteArray) : eM k at_ (L ++ [V]) = jZ (eM k at_ L) (takeA k at_ V) := by unfold eM; rw [List.foldl_append]; rfl
theorem aCc {m : Nat} : ∀ {gs : List dL} (h V : List ByteArray), (∀ g ∈ gs, g.2.length ≤ m) -> ∀ g ∈ cO gs h V, g.2.length ≤ m + 1
 | [], h, V, hm, g, hg => by
  rw [List.mem_singleton.1 hg]; simp
 | x :: gs, h, V, hm, g, hg => by
  unfold cO at hg
  have hx := hm x (List.mem_cons_self ..)
  split at hg
  ·rcases List.mem_cons.1 hg with e | e
   ·rw [e]; simpa using hx
   ·have := hm g (List.mem_cons_of_mem _ e); omega
  ·rcases List.mem_cons.1 hg with e | e
   ·rw [e]; omega
   ·exact aCc h V (fun g hg => hm g (List.mem_cons_of_mem _ hg)) g e
theorem aCh (N : List ByteArray) (hs : List aE) (L : aC) : ∀ g ∈ bL N hs L, g.2.length ≤ L.length := by
 have key : ∀ (L : aC) (gs : List dL) (m : Nat), (∀ g ∈ gs, g.2.length ≤ m) -> ∀ g ∈ L.foldl (fun gs V => cO gs (aP N V hs) V) gs, g.2.length ≤ m + L.length := fun L => by
  induction L with
  | nil => intro gs m h; exact h
  | cons V L ih =>
   intro gs m h g hg
   have h2 := ih _ (m + 1) (aCc (aP N V hs) V h) g hg
   rw [List.length_cons]; omega
 have := key L [] 0 (fun g hg => by cases hg)
 simpa [bL] using this
def iN (N : List ByteArray) (hs : List aE) (k at_ : Int) (L : aC) (w w' : World) (v : Value) : Prop :=
 ∃ lo bl mr lv bs ra, v = .tuple #[lv, .int .i64 (eM k at_.toNat L : Nat)] /\ GrpsAt w' lo (fun _ => False) bl mr k at_ (bL N hs L) lv bs ra /\ w.heap.size ≤ lo /\ w.heap.size ≤ bl /\ w.heap.size ≤ mr
structure GrpsB (w X : World) (gb a9 ob mr : Nat) (cs : List Value) (k at_ : Int) (s8 : ByteArray) : Prop where
 rule : Blk X gb cs 43
 r6 : Blk X (gb + 1) [.slice none 0 0] 120
 r7 : Blk X (gb + 1 + 1) [.int .i64 0] 46
 term : Blk X (gb + 1 + 1 + 1) [.int .i64 k, .string s8] 58
 plc : Blk X a9 [.int .i64 at_] 3
 ofb : Blk X ob [.map (some mr)] 184
 ext : Ext w X
theorem GrpsB.kp {F : Nat -> Prop} {w X Y : World} {gb a9 ob mr : Nat} {cs : List Value} {k at_ : Int} {s8 : ByteArray} (h : GrpsB w X gb a9 ob mr cs k at_ s8) (hk : Kp F X Y) (hF : ∀ q, F q -> w.heap.size ≤ q /\ q ≠ gb /\ q ≠ gb + 1 /\ q ≠ gb + 1 + 1 /\ q ≠ gb + 1 + 1 + 1 /\ q ≠ a9 /\ q ≠ ob) : GrpsB w Y gb a9 ob mr cs k at_ s8 :=
 ⟨h.rule.kp hk fun f => (hF _ f).2.1 rfl, h.r6.kp hk fun f => (hF _ f).2.2.1 rfl, h.r7.kp hk fun f => (hF _ f).2.2.2.1 rfl, h.term.kp hk fun f => (hF _ f).2.2.2.2.1 rfl, h.plc.kp hk fun f => (hF _ f).2.2.2.2.2.1 rfl, h.ofb.kp hk fun f => (hF _ f).2.2.2.2.2.2 rfl, h.ext.trans' hk fun i hi f => absurd hi (Nat.not_lt.2 (hF i f).1)⟩
def Loc4 (bl mr bn bf : Nat) : Nat -> Prop := fun q => q = bl \/ q = mr \/ q = bn \/ q = bf
def GrpsI (w8 : World) (bl mr bn bf : Nat) (k at_ : Int) (N : List ByteArray) (hs : List aE) (T : Nat -> Prop) (pre : List XB) (W : World) : Prop :=
 Kp (Loc4 bl mr bn bf) w8 W /\ (∀ q, T q -> w8.heap.size ≤ q) /\ Blk W bn [.int .i64 (pre.length : Nat)] 3 /\ Blk W bf [.int .i64 (eM k at_.toNat (pre.map Prod.snd) : Nat)] 46 /\ ∃ lv bs ra, GrpsAt W w8.heap.size T bl mr k at_ (bL N hs (pre.map Prod.snd)) lv bs ra
section
variable {w8 W1 W : World} {bl mr bn bf : Nat} {k at_ : Int} {N : List ByteArray} {hs : List aE} {T T' : Nat -> Prop} {pre : List XB}
theorem GrpsI.step (h : GrpsI w8 bl mr bn bf k at_ N hs T pre W1) (hl : bn < w8.heap.size /\ bf < w8.heap.size) (hk : Kp T W1 W) (hT : ∀ q, T' q -> sM T W1 W q) : GrpsI w8 bl mr bn bf k at_ N hs T' pre W := by
 obtain ⟨h1, h2, h3, h4, lv, bs, ra, h5⟩ := h
 refine ⟨h1.trans' hk fun i hi hf => absurd (h2 i hf) (by omega), fun q hq => ?_, h3.kp hk fun f => absurd (h2 _ f) (by omega), h4.kp hk fun f => absurd (h2 _ f) (by omega), lv, bs, ra, h5.step h2 hk hT⟩
 have := h1.size
 rcases hT q hq with h | h
 ·exact h2 q h
 ·omega
theorem GrpsI.put (h : GrpsI w8 bl mr bn bf k at_ N hs T pre W) {l : Nat} {o o' : Obj} (hl : w8.heap.size ≤ l) (hb : bn < w8.heap.size /\ bf < w8.heap.size) (ho : W.heap[l]? = some o) (hc : o.isCells = false) : GrpsI w8 bl mr bn bf k at_ N hs T pre (W.putObj l o') := by
 obtain ⟨h1, h2, h3, h4, lv, bs, ra, h5⟩ := h
 have hk : Kp (fun q => q = l) W (W.putObj l o') := Kp.putF (F := fun q => q = l) rfl _
 exact ⟨h1.trans' hk fun i hi hf => by have e : i = l := hf; omega, h2, h3.kp hk (fun e => by have e' : bn = l := e; omega), h4.kp hk (fun e => by have e' : bf = l := e; omega), lv, bs, ra, h5.put hl ho hc⟩
theorem GrpsI.start (h1 : Blk w8 bl [.slice none 0 0] 120) (h2 : MapIs w8 mr []) (h3 : Blk w8 bn [.int .i64 0] 3) (h4 : Blk w8 bf [.int .i64 0] 46) : GrpsI w8 bl mr bn bf k at_ N hs (fun _ => False) [] w8 :=
 ⟨Kp.refl _, fun q h => h.elim, h3, h4, .slice none 0 0, fun _ => ⟨0, 0, 0, 0, 0, 0, 0⟩, fun _ => none, ⟨h1, Row.nil _ _ _ _, h2, fun i g h => by simp [bL] at h, fun i g h => by simp [bL] at h, fun i h => by simp [bL] at h, fun i j h => by simp [bL] at h, h1.lt, h2.lt⟩⟩
end
noncomputable def oP : Code := zZ 3 (Tryz.f66.body.getD .skip)
set_option maxHeartbeats 16000000 in
theorem aCd {w W4 : World} {gb a9 : Nat} {p : ByteArray} {hs : List aE} {ls : List aM} {ha ba : Option Addr} {hn hcap n bcap : Nat} {o : Option Addr} {L : aC} {k at_ : Int} {s8 : ByteArray} {t : Array Value}
 (hb0 : Blk W4 gb [.string p, .slice ha hn hcap, .slice ba n bcap] 43) (hb1 : Blk W4 (gb + 1) [.slice none 0 0] 120) (hb2 : Blk W4 (gb + 1 + 1) [.int .i64 0] 46) (hb3 : Blk W4 (gb + 1 + 1 + 1) [.int .i64 k, .string s8] 58) (hb9 : Blk W4 a9 [.int .i64 at_] 3) (hx4 : Ext w W4) (hgb : gb = w.heap.size)
 (hEa : ∀ W, Ext w W -> Calls Tryz.prog 112 #[dN p ha hn hcap ba n bcap, .pointer o] W (RetN W fun w' v => aF2 W w' L v))
 (hHd : ∀ W, Ext w W -> ∀ (V : List ByteArray) (va : Option Addr) (nb vc : Nat), nb = V.length -> CellsAt W va (strs V) -> nb ≤ 1048576 -> Calls Tryz.prog 113 #[dN p ha hn hcap ba n bcap, .slice va nb vc] W (RetN W fun w' v => tJ ((p, hs, ()), ls, ()) V W w' v))
 (hL : ∀ V ∈ L, V.length = (aA ls).length) (hnv : (aA ls).length ≤ 1048576) (hhl : hs.length ≤ 1048576) (hc : aO ((p, hs, ()), ls, ()) = 0) (hk : 4 ≤ k /\ k ≤ 7) (hat : k ≠ 4 -> 0 ≤ at_ /\ at_ < (aA ls).length) (hN : NumW w) (hLl : L.length ≤ 1048576) (hVs : ∀ V ∈ L, ∀ s ∈ V, s.size ≤ 1048576) (hHs : ∀ V ∈ L, ∀ s ∈ aP (aA ls) V hs, s.size ≤ 1048576)
 (hz : t.size = 83) (t1 : t.getD 1 undef = .pointer o) (t3 : t.getD 3 undef = .pointer (some ⟨gb, 0, none⟩)) (t6 : t.getD 6 undef = .pointer (some ⟨gb + 1, 0, none⟩)) (t7 : t.getD 7 undef = .pointer (some ⟨gb + 1 + 1, 0, none⟩)) (t8 : t.getD 8 undef = .pointer (some ⟨gb + 1 + 1 + 1, 0, none⟩)) (t9 : t.getD 9 undef = .pointer (some ⟨a9, 0, none⟩)) :
 oP.wp Tryz.prog (bodyPostM Fence.wide 4 Tryz.prog Tryz.f66 (RetN w fun w' v => iN (aA ls) hs k at_ L w w' v)) { tmps := t, defers := [] } W4 := by
 obtain ⟨u, hu, rfl⟩ := aJx t hz
 have e1 := (hu 1).symm.trans t1
 have e3 := (hu 3).symm.trans t3
 have e6 := (hu 6).symm.trans t6
 have e7 := (hu 7).symm.trans t7
 have e8 := (hu 8).symm.trans t8
 have e9 := (hu 9).symm.trans t9
 rw [e1, e3, e6, e7, e8, e9]
 clear hz t1 t3 t6 t7 t8 t9 e1 e3 e6 e7 e8 e9 hu
 have HEa := qH hEa
 have HHd := qH hHd
 have HN := qH (And.intro hL (And.intro hnv (And.intro hhl (And.intro hc (And.intro hk (And.intro hat (And.intro hN (And.intro hLl (And.intro hVs hHs)))))))))
 obtain ⟨bl, ebl⟩ : ∃ g, W4.heap.size = g := ⟨_, rfl⟩
 obtain ⟨w5, e5⟩ : ∃ x, W4.alloc (.cells #[.slice none 0 0] 120) = x := ⟨_, rfl⟩
 obtain ⟨w6, e6⟩ : ∃ x, w5.alloc (.map #[] 0) = x := ⟨_, rfl⟩
 obtain ⟨w7, e7⟩ : ∃ x, w6.alloc (.cells #[.map (some (bl + 1))] 184) = x := ⟨_, rfl⟩
 obtain ⟨w8, e8⟩ : ∃ x, w7.alloc (.cells #[.int .i64 0] 3) = x := ⟨_, rfl⟩
 obtain ⟨w9, e9⟩ : ∃ x, w8.alloc (.cells #[.int .i64 0] 46) = x := ⟨_, rfl⟩
 have s5 : w5.heap.size = bl + 1 := by rw [<- e5, aK, ebl]
 have s6 : w6.heap.size = bl + 1 + 1 := by rw [<- e6, World.size_alloc, s5]
 have s7 : w7.heap.size = bl + 1 + 1 + 1 := by rw [<- e7, aK, s6]
 have s8' : w8.heap.size = bl + 1 + 1 + 1 + 1 := by rw [<- e8, aK, s7]
 have x5 : Ext W4 w5 := by rw [<- e5]; exact (Kp.refl W4).alloc _
 have x6 : Ext w5 w6 := by rw [<- e6]; exact (Kp.refl w5).alloc _
 have x7 : Ext w6 w7 := by rw [<- e7]; exact (Kp.refl w6).alloc _
 have x8 : Ext w7 w8 := by rw [<- e8]; exact (Kp.refl w7).alloc _
 have x9 : Ext w8 w9 := by rw [<- e9]; exact (Kp.refl w8).alloc _
 have x49 : Ext W4 w9 := x5.trans (x6.trans (x7.trans (x8.trans x9)))
 have b5 : Blk w9 bl [.slice none 0 0] 120 := Blk.ext (by have h := Blk.new W4 [.slice none 0 0] 120; rw [ebl] at h; rw [<- e5]; exact h) (x6.trans (x7.trans (x8.trans x9)))
 have b6 : MapIs w9 (bl + 1) [] := MapIs.ext (by have h := MapIs.new w5; rw [s5] at h; rw [<- e6]; exact h) (x7.trans (x8.trans x9))
 have b7 : Blk w9 (bl + 1 + 1) [.map (some (bl + 1))] 184 := Blk.ext (by have h := Blk.new w6 [.map (some (bl + 1))] 184; rw [s6] at h; rw [<- e7]; exact h) (x8.trans x9)
 have b8 : Blk w9 (bl + 1 + 1 + 1) [.int .i64 0] 3 := Blk.ext (by have h := Blk.new w7 [.int .i64 0] 3; rw [s7] at h; rw [<- e8]; exact h) x9
 have b9 : Blk w9 (bl + 1 + 1 + 1 + 1) [.int .i64 0] 46 := by have h := Blk.new w8 [.int .i64 0] 46; rw [s8'] at h; rw [<- e9]; exact h
 have H9 := qH (show GrpsB w w9 gb a9 (bl + 1 + 1) (bl + 1) [.string p, .slice ha hn hcap, .slice ba n bcap] k at_ s8 from ⟨hb0.ext x49, hb1.ext x49, hb2.ext x49, hb3.ext x49, hb9.ext x49, b7, hx4.trans x49⟩)
 have HM := qH (And.intro b5 (And.intro b6 (And.intro b8 b9)))
 have HO := qH (show gb + 1 + 1 + 1 < bl /\ a9 < bl /\ gb = w.heap.size from ⟨by rw [<- ebl]; exact hb3.lt, by rw [<- ebl]; exact hb9.lt, hgb⟩)
 have HEq := qH (And.intro ebl (And.intro e5 (And.intro e6 (And.intro e7 (And.intro e8 (And.intro e9 (And.intro s5 (And.intro s6 (And.intro s7 s8')))))))))
 have g0 : (((((W4.alloc (.cells #[.slice none 0 0] 120)).alloc (.map #[] 0)).alloc (.cells #[.map (some (bl + 1))] 184)).alloc (.cells #[.int .i64 0] 3)).alloc (.cells #[.int .i64 0] 46)).cell? ⟨gb, 0, none⟩ = some (.string p) := by rw [e5, e6, e7, e8, e9, H9.out.rule.cell']; rfl
 have g1 : (((((W4.alloc (.cells #[.slice none 0 0] 120)).alloc (.map #[] 0)).alloc (.cells #[.map (some (bl + 1))] 184)).alloc (.cells #[.int .i64 0] 3)).alloc (.cells #[.int .i64 0] 46)).cell? ⟨gb, 1, none⟩ = some (.slice ha hn hcap) := by rw [e5, e6, e7, e8, e9, H9.out.rule.cell']; rfl
 have g2 : (((((W4.alloc (.cells #[.slice none 0 0] 120)).alloc (.map #[] 0)).alloc (.cells #[.map (some (bl + 1))] 184)).alloc (.cells #[.int .i64 0] 3)).alloc (.cells #[.int .i64 0] 46)).cell? ⟨gb, 2, none⟩ = some (.slice ba n bcap) := by rw [e5, e6, e7, e8, e9, H9.out.rule.cell']; rfl
 clear e5 e6 e7 e8 e9 s5 s6 s7 s8'
 clear hEa hHd hL hnv hhl hc hk hat hN hLl hVs hHs x5 x6 x7 x8 x9 x49 b5 b6 b7 b8 b9 hb0 hb1 hb2 hb3 hb9 hx4 hgb
 obtain ⟨Q, eQ⟩ : ∃ Q, Q = bodyPostM Fence.wide 4 Tryz.prog Tryz.f66 (RetN w fun w' v => iN (aA ls) hs k at_ L w w' v) := ⟨_, rfl⟩
 rw [<- eQ]
 have EQ := qH eQ; clear eQ
 have hmm := @run_makeMap Tryz.prog
 conv => arg 2; whnf
 go_wp2_with fail
 obtain ⟨ebl, e5, e6, e7, e8, e9, -⟩ := HEq.out
 rw [e5, e6, e7, e8, e9]
 clear ebl e5 e6 e7 e8 e9 HEq hmm g0 g1 g2
 obtain ⟨ob, eob⟩ : ∃ x, bl + 1 + 1 = x := ⟨_, rfl⟩
 obtain ⟨mr, emr⟩ : ∃ x, bl + 1 = x := ⟨_, rfl⟩
 obtain ⟨bn, ebn⟩ : ∃ x, bl + 1 + 1 + 1 = x := ⟨_, rfl⟩
 obtain ⟨bf, ebf⟩ : ∃ x, bl + 1 + 1 + 1 + 1 = x := ⟨_, rfl⟩
 rw [ebf, ebn, eob, emr]
 rw [eob, emr] at H9
 rw [ebf, ebn, emr] at HM
 have HO2 := qH (show mr = bl + 1 /\ ob = bl + 1 + 1 /\ bn = bl + 1 + 1 + 1 /\ bf = bl + 1 + 1 + 1 + 1 from ⟨emr.symm, eob.symm, ebn.symm, ebf.symm⟩)
 clear eob emr ebn ebf
 refine (HEa.out w9 H9.out.ext).mono ?_
 rintro e w10 ⟨v10, rfl, hk10, xb, lo, hlo, rfl, hseq⟩
 have HS := qH (show wH Fence.wide 3 Tryz.prog 197 #[.pointer (some ⟨xb, 0, none⟩)] (fun x : XB => #[.slice x.1.1 x.1.2.1 x.1.2.2]) (fun k => lo ≤ k /\ k < w10.heap.size) GvRow (fun xs => xs.map Prod.snd = L) (fun pre => pre.map Prod.snd <+: L) w10 from hseq 3)
 have H10 := qH (H9.out.kp (F := fun _ => False) hk10 fun q h => h.elim)
 have HM10 := qH (show Blk w10 bl [.slice none 0 0] 120 /\ MapIs w10 mr [] /\ Blk w10 bn [.int .i64 0] 3 /\ Blk w10 bf [.int .i64 0] 46 from ⟨HM.out.1.ext hk10, HM.out.2.1.ext hk10, HM.out.2.2.1.ext hk10, HM.out.2.2.2.ext hk10⟩)
 have HLo := qH (show bf < lo /\ lo ≤ w10.heap.size + lo from ⟨Nat.lt_of_lt_of_le HM.out.2.2.2.lt hlo, by omega⟩)
 clear hseq hk10 hlo
 go_wp2_with fail
 have hbn10 : bn < w10.heap.size /\ bf < w10.heap.size := ⟨HM10.out.2.2.1.lt, HM10.out.2.2.2.lt⟩
 refine' wpIn_wide.1 (nX (F := Fence.wide) (n := 4) (w0 := w10) rfl (by omega) (gf := 197) (lb := #[.pointer (some ⟨xb, 0, none⟩)]) rfl trivial (enters_of Tryz.func197 (by kernel_rfl) rfl)
  HS.out (Kp.refl _) (fun k h => h.2) (fun _ => rfl) GvRow.put (GrpsI w10 bl mr bn bf k at_ (aA ls) hs) (fun _ _ _ _ => False)
  (fun T s W l o o' h _ hl ho hc => h.put hl hbn10 ho hc) (fun c T s W l o o' h _ hl ho hc => h)
  (fun W o h => h.step hbn10 ((Kp.refl W).alloc o) (fun k hk => hk.elim)) (GrpsI.start HM10.out.1 HM10.out.2.1 HM10.out.2.2.1 HM10.out.2.2.2) _ ?assign ?body ?done ?stop)
 case assign =>
  intro l x W K hK
  gi_wp2
  exact hK
 case stop =>
  rintro D c T pre W1 W hD hpre hX
  exact hX.elim
 case body =>
  rintro l T T' pre ⟨⟨xa, xn, xc⟩, V⟩ W1 W hI hT hk hsub hgv hpre
  have hTlt : ∀ k, T' k -> k < W.heap.size := fun k hk' => by
   rcases hsub k hk' with h | h
   ·exact Nat.lt_of_lt_of_le (hT k h) hk.size
   ·exact h.2
  obtain ⟨kX, hTge, hbn, hbf, lv, bs, ra, hG⟩ := hI
  have hown1 : ∀ i, i < (bL (aA ls) hs (pre.map Prod.snd)).length -> ∀ q, (bs i).own q -> q < W1.heap.size := fun i hi q hq => ((hG.grp i _ (qG hi)).lt q hq).1
  obtain ⟨kX2, hTge2, hbn2, hbf2, -⟩ := GrpsI.step ⟨kX, hTge, hbn, hbf, lv, bs, ra, hG⟩ hbn10 hk hsub
  have hG2 := hG.step hTge hk hsub
  obtain ⟨o1, o2, o3⟩ := HO.out
  obtain ⟨p1, p2, p3, p4⟩ := HO2.out
  have hA := H10.out.kp kX2 fun q f => by
   rcases f with f | f | f | f <;> omega
  obtain ⟨hx1, hxc⟩ := hgv.cells
  have hxn : xn = V.length := hx1.1
  have hxc2 : xc = V.length := hx1.2
  subst hxn hxc2
  have hpre2 : (pre.map Prod.snd) ++ [V] <+: L := by
   have h := hpre
   rw [List.map_append] at h
   exact h
  have hmem : V ∈ L := hpre2.subset (List.mem_append_right _ (List.mem_singleton.2 rfl))
  have hVl := HN.out.1 V hmem
  have hml : pre.length + 1 ≤ L.length := by
   have := hpre2.length_le
   simpa using this
  have hm16 := HN.out.2.2.2.2.2.2.2.1
  have hsz := kX2.size
  have hgn := lM (aA ls) hs (pre.map Prod.snd)
  have hgB := aCh (aA ls) hs (pre.map Prod.snd)
  rw [List.length_map] at hgn hgB
  have hVn : V.length ≤ 1048576 := by rw [hVl]; exact HN.out.2.1
  refine wpIn_mono (Q := gP (fun X' => KeepsFrom w10.heap.size W X' /\ Kp (fun k => ¬ fV (fun k => lo ≤ k /\ k < w10.heap.size) T' k) W X' /\ GrpsI w10 bl mr bn bf k at_ (aA ls) hs T' (pre ++ [((xa, V.length, V.length), V)]) X') (fun _ => False)) ?_ ?_
  ·show Code.wpIn _ _ _ oR _ _ _
   refine zW (w0 := w) (hs := hs) (ls := ls) (p := p) (ha := ha) (ba := ba) (hn := hn) (hcap := hcap) (ln := n) (bcap := bcap) (m := pre.length) (n := V.length) (V := V) hG2 hA.rule hA.term hA.plc hA.ofb hbn2 hbf2 (by omega) (by omega) hA.ext (by omega) hgn hgB hTlt HN.out.2.2.2.2.1 rfl ?_ (fun h => by rw [hVl]; exact HN.out.2.2.2.2.2.1 h) HN.out.2.2.2.2.2.2.1 (HN.out.2.2.2.2.2.2.2.2.1 V hmem) hVn (fun W' hW' hcs => HHd.out W' hW' V xa V.length V.length rfl hcs hVn) HN.out.2.2.2.1 hVl HN.out.2.2.1 (HN.out.2.2.2.2.2.2.2.2.2 V hmem) rfl rfl rfl rfl rfl rfl rfl rfl rfl ?_
   ·rcases hgv.2 with h | ⟨g, rest, e, hb, h1, h2⟩
    ·exact .inl h
    ·exact .inr ⟨g, rest, e, hb, by have := kX.size; have : W1.heap.size ≤ g := h1; omega, fun i hi ho => by have := hown1 i hi g ho; have : W1.heap.size ≤ g := h1; omega⟩
   ·intro X' lv' bs' ra' q1 q2 q3 q4
    have hF : ∀ q, (q = bl \/ q = mr \/ q = bn \/ q = bf \/ lv.ownBlock = some q \/ ∃ i, i < (bL (aA ls) hs (pre.map Prod.snd)).length /\ (bs i).own q) -> ¬ T' q /\ (Loc4 bl mr bn bf q \/ (w10.heap.size ≤ q /\ dM W q)) := fun q hq => by
     rcases hq with e | e | e | e | e | ⟨i, hi, e⟩
     ·exact ⟨fun ht => by have := hTge2 q ht; omega, .inl (.inl e)⟩
     ·exact ⟨fun ht => by have := hTge2 q ht; omega, .inl (.inr (.inl e))⟩
     ·exact ⟨fun ht => by have := hTge2 q ht; omega, .inl (.inr (.inr (.inl e)))⟩
     ·exact ⟨fun ht => by have := hTge2 q ht; omega, .inl (.inr (.inr (.inr e)))⟩
     ·obtain ⟨cs, hb⟩ := aT hG2.row e
      exact ⟨(hG2.row.block q e).2, .inr ⟨(hG2.row.block q e).1, _, hb, rfl⟩⟩
     ·have h1 := hG2.own i hi q e
      exact ⟨h1.2, .inr ⟨h1.1, ((hG2.grp i _ (qG hi)).lt q e).2⟩⟩
    have hsn : bL (aA ls) hs ((pre ++ [((xa, V.length, V.length), V)]).map Prod.snd) = cO (bL (aA ls) hs (pre.map Prod.snd)) (aP (aA ls) V hs) V := by
     rw [List.map_append, List.map_singleton, aCe]
    refine ⟨⟨q4.size, fun q ob2 hB hq ho => (q4.block q (lt_of_block hq) fun f => ?_).trans hq⟩, q4.mono fun q _ f hz => ?_, kX2.trans' q4 fun q hq f => ?_, hTge2, ?_, ?_, lv', bs', ra', ?_⟩
    ·rcases (hF q f).2 with h | ⟨_, ob3, h1, h2⟩
     ·rcases h with h | h | h | h <;> omega
     ·rw [hq] at h1; cases h1; rw [ho] at h2; cases h2
    ·rcases hz with hz | hz
     ·exact (hF q f).1 hz
     ·have h1 := HLo.out.1
      have h2 := hz.1
      have h3 := hz.2
      rcases (hF q f).2 with h | h
      ·rcases h with h | h | h | h <;> omega
      ·omega
    ·rcases (hF q f).2 with h | h
     ·exact h
     ·omega
    ·rw [List.length_append, List.length_singleton]; exact q2
    ·rw [List.map_append, List.map_singleton, aCo]; exact q3
    ·rw [hsn]; exact q1
  ·intro e a W' h
   cases e <;> first | exact h | exact h.elim
 case done =>
  rintro D T xs W1 W hD hxs hI hT hk hd
  obtain ⟨kX, -, hbn, hbf, lv, bs, ra, hG⟩ := hI.step (T' := fun _ => False) hbn10 hk (fun k hk' => hk'.elim)
  have hxs' : xs.map Prod.snd = L := hxs
  rw [hxs'] at hbf hG
  obtain ⟨o1, o2, o3⟩ := HO.out
  obtain ⟨p1, p2, p3, p4⟩ := HO2.out
  have hA := H10.out.kp kX fun q f => by
   rcases f with f | f | f | f <;> omega
  have hm1 : Marks w10.heap.size W [{ target := .collected D, args := #[] }] := ⟨[D], rfl, by simp, fun D' hD' => by rw [List.mem_singleton.1 hD']; exact ⟨hD, hd⟩⟩
  obtain ⟨la, lc, elv, -, -⟩ := hG.row.shape
  subst elv
  obtain ⟨gl, egl⟩ : ∃ x, (bL (aA ls) hs L).length = x := ⟨_, rfl⟩
  rw [egl] at hG
  obtain ⟨fz, efz⟩ : ∃ x, eM k at_.toNat L = x := ⟨_, rfl⟩
  rw [efz] at hbf
  have HZ := qH (And.intro hA (And.intro hm1 (And.intro kX (And.intro hbf (And.intro hG (And.intro efz egl))))))
  have HJ := qH (show ∀ w', Ext W w' -> (fun w' : World => w'.cell? ⟨bl, 0, none⟩ = some (.slice la gl lc) /\ w'.cell? ⟨bf, 0, none⟩ = some (.int .i64 (fz : Nat))) w' from fun w' hw => ⟨by rw [(hG.box.ext hw).cell']; rfl, by rw [(hbf.ext hw).cell']; rfl⟩)
  have hoff : bl ≠ gb + 1 /\ bf ≠ gb + 1 /\ gb + 1 + 1 ≠ gb + 1 := ⟨by omega, by omega, by omega⟩
  have HK := qH (show (W.drew.setCell ⟨gb + 1, 0, none⟩ (.slice la gl lc)).cell? ⟨bl, 0, none⟩ = some (.slice la gl lc) /\ (W.drew.setCell ⟨gb + 1, 0, none⟩ (.slice la gl lc)).cell? ⟨bf, 0, none⟩ = some (.int .i64 (fz : Nat)) /\ Blk (W.drew.setCell ⟨gb + 1, 0, none⟩ (.slice la gl lc)) (gb + 1 + 1) [.int .i64 0] 46 from
   ⟨by rw [((hG.box.ext (Kp.refl W).drew).other (p := ⟨gb + 1, 0, none⟩) hoff.1 _).cell']; rfl, by rw [((hbf.ext (Kp.refl W).drew).other (p := ⟨gb + 1, 0, none⟩) hoff.2.1 _).cell']; rfl, (hA.r7.ext (Kp.refl W).drew).other (p := ⟨gb + 1, 0, none⟩) hoff.2.2 _⟩)
  have HJ6 := qH (hA.r6.ext (Kp.refl W).drew)
  clear hA hm1 kX hbf hG efz egl hI hT hk hd hD hxs hxs' hbn o1 o2 o3 p1 p2 p3 p4 hbn10 hoff
  go_wp2_with fail
  refine tK ?_
  refine bC (fun w' : World => w'.cell? ⟨bl, 0, none⟩ = some (.slice la gl lc) /\ w'.cell? ⟨bf, 0, none⟩ = some (.int .i64 (fz : Nat))) [3] (by kernel_rfl) (HJ.out _ (Kp.refl W).drew) (fun hHeld => ?_)
  refine dI 0 ?_; try simp only [Act.put,sI,sZ,sS]
  refine dI 1 ?_; try simp only [Act.put,sI,sZ,sS]
  refine aF (i := 2) ?_
  refine aG (i := 2) rfl (fun K hK => ?_)
  (have hc6 : W.cell? ⟨gb + 1, 0, none⟩ = some (.slice none 0 0) := (by rw [HZ.out.1.r6.cell']; rfl); have hf6 := HZ.out.1.r6.free 0)
  go_simp
  refine hK.out _ _ ?_ (fun hHeld => ?_)
  ·(try dsimp only); (exact ⟨HK.out.1, HK.out.2.1⟩)
  clear hK K; (try simp only [Act.put,sI,sZ,sS])
  refine aF (i := 3) ?_
  refine aI (i := 3) rfl (by kernel_rfl) (fun K hK => ?_)
  (have hc7 : W.cell? ⟨gb + 1 + 1, 0, none⟩ = some (.int .i64 0) := (by rw [HZ.out.1.r7.cell']; rfl); have hf7 := HZ.out.1.r7.free 0)
  go_simp
  refine hK.out _ _ ?_
  clear hK K; (try simp only [Act.put,sI,sZ,sS])
  refine aN (by kernel_rfl) ?_ _
  refine fK ?_
  clear hHeld hc6 hf6 hc7 hf7
  go_wp2_with fail
  obtain ⟨hA, hm1, kX, hbf, hG, efz, egl⟩ := HZ.out
  obtain ⟨o1, o2, o3⟩ := HO.out
  obtain ⟨p1, p2, p3, p4⟩ := HO2.out
  have hne : gb + 1 ≠ gb + 1 + 1 := by omega
  have ks : Kp (fun q => q = gb + 1 \/ q = gb + 1 + 1) W ((W.setCell ⟨gb + 1, 0, none⟩ (.slice la gl lc)).setCell ⟨gb + 1 + 1, 0, none⟩ (.int .i64 (fz : Nat))).drew := (Kp.setCell (F := fun q => q = gb + 1 \/ q = gb + 1 + 1) (p := ⟨gb + 1 + 1, 0, none⟩) (Kp.setCell (F := fun q => q = gb + 1 \/ q = gb + 1 + 1) (p := ⟨gb + 1, 0, none⟩) (Kp.refl W) (fun _ => .inl rfl) _) (fun _ => .inr rfl) _).drew
  have hb6 : Blk ((W.setCell ⟨gb + 1, 0, none⟩ (.slice la gl lc)).setCell ⟨gb + 1 + 1, 0, none⟩ (.int .i64 (fz : Nat))).drew (gb + 1) [.slice la gl lc] 120 := ((hA.r6.set 0 (.slice la gl lc)).other (p := ⟨gb + 1 + 1, 0, none⟩) hne _).ext (Kp.refl _).drew
  have hb7 : Blk ((W.setCell ⟨gb + 1, 0, none⟩ (.slice la gl lc)).setCell ⟨gb + 1 + 1, 0, none⟩ (.int .i64 (fz : Nat))).drew (gb + 1 + 1) [.int .i64 (fz : Nat)] 46 := ((hA.r7.other (p := ⟨gb + 1, 0, none⟩) hne.symm (.slice la gl lc)).set 0 (.int .i64 (fz : Nat))).ext (Kp.refl _).drew
  generalize ((W.setCell ⟨gb + 1, 0, none⟩ (.slice la gl lc)).setCell ⟨gb + 1 + 1, 0, none⟩ (.int .i64 (fz : Nat))).drew = W2 at ks hb6 hb7 ⊢
  have hl10 : gb + 1 + 1 < w10.heap.size := H10.out.r7.lt
  have hs10 := H10.out.ext.size
  have hbl10 := HM10.out.1.lt
  have hmr10 := HM10.out.2.1.lt
  have hG2 : GrpsAt W2 w10.heap.size (fun _ => False) bl mr k at_ (bL (aA ls) hs L) (.slice la gl lc) bs ra := hG.kp ks (fun q hq f => by
   rcases (hG.lt hq).2 with e | e | e
   ·rcases f with f | f <;> omega
   ·rcases f with f | f <;> omega
   ·rcases f with f | f <;> omega) fun _ _ h => h
  rw [EQ.out]
  refine aE3 (lo := w10.heap.size) (hm1.kp ks fun q f => by rcases f with f | f <;> omega) (hA.ext.trans' ks fun i hi f => by rcases f with f | f <;> omega) hs10 rfl rfl hb6 hb7 fun w' hx' kx => ⟨w10.heap.size, bl, mr, .slice la gl lc, bs, ra, by rw [efz], hG2.kp kx (fun q hq f => ?_) (fun _ _ h => h), hs10, by omega, by omega⟩
  rcases (hG2.lt hq).2 with e | e | e
  ·have := f.1; omega
  ·have := f.1; omega
  ·rcases hq with hq | hq | hq | ⟨i, hi, hq⟩ | ⟨i, hi, hq⟩
   ·omega
   ·omega
   ·obtain ⟨cs, hb⟩ := aT hG2.row hq
    exact f.2 ⟨_, hb, rfl⟩
   ·exact f.2 ((hG2.grp i _ (qG hi)).lt q hq).2
   ·rcases hG2.rows i _ (qG hi) with ⟨e2, _⟩ | ⟨q', rest, e2, hb, _⟩
    ·rw [e2] at hq; cases hq
    ·rw [e2] at hq; cases hq; exact f.2 ⟨_, hb, rfl⟩
end
section
def gH (k : Int) (at_ : Nat) : List dL -> Nat
 | [] => 0
 | g :: gs => if (cG k at_ g.2).2 ≠ 0 then (cG k at_ g.2).2 else gH k at_ gs
def iE (k : Int) (at_ j : Nat) (g : dL) : List ByteArray := g.1.take j ++ (cG k at_ g.2).1 :: g.1.drop j
def pZ (N : List ByteArray) (hs : List aE) (k : Int) (at_ j : Nat) (L : aC) : Nat × aC :=
 if eM k at_ L ≠ 0 then (eM k at_ L, []) else if gH k at_ (bL N hs L) ≠ 0 then (gH k at_ (bL N hs L), []) else aR hs.length [] ((bL N hs L).map (iE k at_ j))
theorem qF (k : Int) (at_ : Nat) : ∀ (a b : List dL), gH k at_ a = 0 -> gH k at_ (a ++ b) = gH k at_ b
 | [], b, _ => rfl
 | g :: a, b, h => by
  unfold gH at h
  rw [List.cons_append]
  show (if _ then _ else _) = _
  split at h
  ·rename_i h2; exact absurd h h2
  ·rename_i h2
   rw [if_neg h2]
   exact qF k at_ a b h
theorem aI6 {k : Int} {at_ : Nat} {gs : List dL} {i : Nat} {g : dL} (h : gH k at_ (gs.take i) = 0) (hg : gs[i]? = some g) : ((cG k at_ g.2).2 = 0 -> gH k at_ (gs.take (i + 1)) = 0) /\ ((cG k at_ g.2).2 ≠ 0 -> gH k at_ gs = (cG k at_ g.2).2) := by
 refine ⟨fun h0 => ?_, fun h0 => ?_⟩
 ·rw [oV hg, qF k at_ _ _ h]
  show (if _ then _ else _) = _
  rw [if_neg (fun e => e h0)]; rfl
 ·have e : gs = gs.take i ++ g :: gs.drop (i + 1) := by
   obtain ⟨hl, e2⟩ := List.getElem?_eq_some_iff.1 hg
   rw [<- e2, <- List.drop_eq_getElem_cons hl, List.take_append_drop]
  rw [e, qF k at_ _ _ h]
  show (if _ then _ else _) = _
  rw [if_pos h0]
theorem lL {r : bM} (hc : aO r = 0) : (∀ t ∈ r.1.2.1, 1 ≤ t.1 /\ t.1 ≤ 7) /\ pY r.1.2.1 < 2 := by
 unfold aO at hc
 split at hc
 ·rename_i hp
  unfold dG iZ kinds at hp
  rw [Bool.and_eq_true, Bool.and_eq_true, Bool.and_eq_true] at hp
  exact ⟨fun t ht => of_decide_eq_true (List.all_eq_true.1 hp.1.1.1 t ht), of_decide_eq_true hp.1.1.2⟩
 ·cases hc
theorem vC {r : bM} (hc : aO r = 0) {t : aE} (ht : t ∈ r.1.2.1) (h3 : t.1 ≠ 3) (h4 : t.1 ≠ 4) : 0 ≤ bI (fun x => decide (x = t.2.1)) (aA r.2.1) /\ bI (fun x => decide (x = t.2.1)) (aA r.2.1) < (aA r.2.1).length := by
 unfold aO at hc
 split at hc
 ·split at hc
  ·rename_i hs
   unfold jN at hs
   rw [Bool.and_eq_true] at hs
   have h := List.all_eq_true.1 hs.1 t ht
   unfold dD at h
   split at h
   ·cases h
   ·have h2 := of_decide_eq_true h
    have h5 : jK (aA r.2.1) t.2.1 = true := by
     rcases h2 with h2 | h2 | h2
     ·exact absurd h2 h3
     ·exact absurd h2 h4
     ·exact h2
    unfold bI
    unfold jK at h5
    rw [if_pos h5]
    have h6 : (aA r.2.1).findIdx (fun x => decide (x = t.2.1)) < (aA r.2.1).length := List.findIdx_lt_length.2 (List.any_eq_true.1 h5)
    omega
  ·cases hc
 ·cases hc
theorem vO (N V : List ByteArray) : ∀ (ts : List aE), (∀ t ∈ ts, t.1 = 1 \/ t.1 = 3 \/ 4 ≤ t.1) -> (aP N V ts).length + pY ts = ts.length
 | [], _ => rfl
 | t :: ts, h => by
  have ih := vO N V ts fun u hu => h u (List.mem_cons_of_mem _ hu)
  unfold aP pY at ih ⊢
  rw [List.filterMap_cons, List.countP_cons]
  rcases h t (List.mem_cons_self ..) with h1 | h1 | h1
  ·simp [h1]; omega
  ·simp [h1]; omega
  ·have e3 : ¬ t.1 = 3 := by omega
   have e1 : ¬ t.1 = 1 := by omega
   simp [e3, e1, h1]; omega
theorem qU {r : bM} (hc : aO r = 0) {j : Nat} {t : aE} (hj : r.1.2.1[j]? = some t) (h4 : 4 ≤ t.1) (N V : List ByteArray) : (aP N V r.1.2.1).length + 1 = r.1.2.1.length := by
 have h1 := vO N V r.1.2.1 fun u hu => by
  rcases qI hc u hu with h | h | h
  ·exact .inl h.1
  ·exact .inr (.inl h)
  ·exact .inr (.inr h)
 have h2 := (lL hc).2
 have h3 : 0 < pY r.1.2.1 := List.countP_pos_iff.2 ⟨t, List.mem_of_getElem? hj, by simpa using h4⟩
 omega
theorem rX {P : List ByteArray -> Prop} : ∀ {gs : List dL} {h V : List ByteArray}, (∀ g ∈ gs, P g.1) -> P h -> ∀ g ∈ cO gs h V, P g.1
 | [], h, V, _, hp, g, hg => by rw [List.mem_singleton.1 hg]; exact hp
 | x :: gs, h, V, ha, hp, g, hg => by
  unfold cO at hg
  have hx := ha x (List.mem_cons_self ..)
  split at hg
  ·rcases List.mem_cons.1 hg with e | e
   ·rw [e]; exact hx
   ·exact ha g (List.mem_cons_of_mem _ e)
  ·rcases List.mem_cons.1 hg with e | e
   ·rw [e]; exact hx
   ·exact rX (fun g hg => ha g (List.mem_cons_of_mem _ hg)) hp g e
theorem aCg (N : List ByteArray) (hs : List aE) (L : aC) : ∀ g ∈ bL N hs L, ∃ V ∈ L, g.1 = aP N V hs := by
 have key : ∀ (L2 L : aC) (gs : List dL), (∀ V ∈ L2, V ∈ L) -> (∀ g ∈ gs, ∃ V ∈ L, g.1 = aP N V hs) -> ∀ g ∈ L2.foldl (fun gs V => cO gs (aP N V hs) V) gs, ∃ V ∈ L, g.1 = aP N V hs := fun L2 L => by
  induction L2 with
  | nil => intro gs _ h; exact h
  | cons V L2 ih =>
   intro gs hm h
   exact ih _ (fun U hU => hm U (List.mem_cons_of_mem _ hU)) (rX (P := fun x => ∃ V ∈ L, x = aP N V hs) h ⟨V, hm V (List.mem_cons_self ..), rfl⟩)
 exact key L L [] (fun _ h => h) fun g hg => by cases hg
end
section
open Go.RowKit Go.Shelf
attribute [local go_sem] Oper.semAt_some
theorem cell0 {W : World} {g : Nat} {v : Value} {e : TypeId} (h : Blk W g [v] e) : W.cell? ⟨g, 0, none⟩ = some v := by rw [h.cell']; rfl
set_option maxHeartbeats 16000000 in
theorem aE4 {S : Nat -> Prop} {w : World} {p : ByteArray} {hs : List aE} {ls : List aM} {ha ba : Option Addr} {hn hcap n bcap j : Nat} {G : Nat -> Prop} {o : Option Addr} {E : List Ent} {L : aC} {k at_ : Int} {s8 : ByteArray} (hhn : hn = hs.length) (hh : bD w G ha hs) (hhl : hn ≤ 1048576) (hbn : n = ls.length) (h : cF w G ba ls) (hf : Fit ls) (hnv : (aA ls).length ≤ 1048576) (hn16 : n ≤ 1048576)
 (hB : BaseV S w (.pointer o) E) (hL : jX ((p, hs, ()), ls, ()) (cH (wP ls E) ls) L) (hc : aO ((p, hs, ()), ls, ()) = 0) (hj : hs[j]? = some (k, s8, ())) (hk : 4 ≤ k /\ k ≤ 7) (hat0 : bI (fun x => decide (x = s8)) (aA ls) = at_) (hat : k ≠ 4 -> 0 ≤ at_ /\ at_ < (aA ls).length) (hN : NumW w) (hLl : L.length ≤ 1048576) (hVs : ∀ V ∈ L, ∀ s ∈ V, s.size ≤ 1048576) (hHs : ∀ V ∈ L, ∀ s ∈ aP (aA ls) V hs, s.size ≤ 1048576) :
 Calls Tryz.prog 66 #[dN p ha hn hcap ba n bcap, .pointer o, .int .i64 (j : Nat)] w (RetN w fun w' v => iN (aA ls) hs k at_ L w w' v) := by
 have HEa := qH (fun W (hW : Ext w W) => aCy (hcap := hcap) (bcap := bcap) (p := p) hhn (hh.ext hW) (by omega) hbn (h.ext hW) hf hnv hn16 (hB.ext hW) hL)
 have HHd := qH (fun W (hW : Ext w W) (V : List ByteArray) (va : Option Addr) (nb vc : Nat) (hV : nb = V.length) (hc : CellsAt W va (strs V)) (hb : nb ≤ 1048576) => xV (hcap := hcap) (bcap := bcap) (p := p) (vc := vc) hhn (hh.ext hW) hhl hbn (h.ext hW) hf hnv hV hc hb)
 have HVa := qH (fun W (hW : Ext w W) => zU p hs ls ha hn hcap ba n bcap W G hhn (hh.ext hW) hhl hbn (h.ext hW) hf hc)
 have HN := qH (And.intro hhn (And.intro hhl (And.intro hL (And.intro hnv (And.intro hc (And.intro hk (And.intro hat (And.intro hN (And.intro hLl (And.intro hVs hHs))))))))))
 have hjl := (List.getElem?_eq_some_iff.1 hj).1
 have i1 : (j : Int) < (hn : Int) := by omega
 obtain ⟨tb, off, eha, f0, f1, -, -⟩ := fH hh hj
 subst eha
 simp only at f0 f1
 have HAt := qH hat0
 obtain ⟨gb, egb⟩ : ∃ g, w.heap.size = g := ⟨_, rfl⟩
 obtain ⟨w1, e1⟩ : ∃ x, w.alloc (.cells #[.string p, .slice (some ⟨tb, off, none⟩) hn hcap, .slice ba n bcap] 43) = x := ⟨_, rfl⟩
 obtain ⟨w2, e2⟩ : ∃ x, w1.alloc (.cells #[.slice none 0 0] 120) = x := ⟨_, rfl⟩
 obtain ⟨w3, e3⟩ : ∃ x, w2.alloc (.cells #[.int .i64 0] 46) = x := ⟨_, rfl⟩
 obtain ⟨w4, e4⟩ : ∃ x, w3.alloc (.cells #[.int .i64 k, .string s8] 58) = x := ⟨_, rfl⟩
 have s1 : w1.heap.size = gb + 1 := by rw [<- e1, aK, egb]
 have s2 : w2.heap.size = gb + 1 + 1 := by rw [<- e2, aK, s1]
 have s3 : w3.heap.size = gb + 1 + 1 + 1 := by rw [<- e3, aK, s2]
 have x1 : Ext w w1 := by rw [<- e1]; exact (Kp.refl w).alloc _
 have x2 : Ext w1 w2 := by rw [<- e2]; exact (Kp.refl w1).alloc _
 have x3 : Ext w2 w3 := by rw [<- e3]; exact (Kp.refl w2).alloc _
 have x4 : Ext w3 w4 := by rw [<- e4]; exact (Kp.refl w3).alloc _
 have H4 := qH (show Blk w4 gb [.string p, .slice (some ⟨tb, off, none⟩) hn hcap, .slice ba n bcap] 43 /\ Blk w4 (gb + 1) [.slice none 0 0] 120 /\ Blk w4 (gb + 1 + 1) [.int .i64 0] 46 /\ Blk w4 (gb + 1 + 1 + 1) [.int .i64 k, .string s8] 58 /\ Ext w w4 from
  ⟨Blk.ext (by have h := Blk.new w [.string p, .slice (some ⟨tb, off, none⟩) hn hcap, .slice ba n bcap] 43; rw [egb] at h; rw [<- e1]; exact h) (x2.trans (x3.trans x4)), Blk.ext (by have h := Blk.new w1 [.slice none 0 0] 120; rw [s1] at h; rw [<- e2]; exact h) (x3.trans x4), Blk.ext (by have h := Blk.new w2 [.int .i64 0] 46; rw [s2] at h; rw [<- e3]; exact h) x4, by have h := Blk.new w3 [.int .i64 k, .string s8] 58; rw [s3] at h; rw [<- e4]; exact h, x1.trans (x2.trans (x3.trans x4))⟩)
 have HB3 := qH (show Blk w3 gb [.string p, .slice (some ⟨tb, off, none⟩) hn hcap, .slice ba n bcap] 43 from Blk.ext (by have h := Blk.new w [.string p, .slice (some ⟨tb, off, none⟩) hn hcap, .slice ba n bcap] 43; rw [egb] at h; rw [<- e1]; exact h) (x2.trans x3))
 have r1 : w3.cell? ⟨gb, 1, none⟩ = some (.slice (some ⟨tb, off, none⟩) hn hcap) := by rw [HB3.out.cell']; rfl
 replace f0 := (x1.trans (x2.trans x3)).cell f0 id
 replace f1 := (x1.trans (x2.trans x3)).cell f1 id
 have HG := qH egb
 have HEq := qH (And.intro e1 (And.intro e2 (And.intro e3 (And.intro e4 (And.intro s1 (And.intro s2 s3))))))
 have HT := qH (show ∀ (W : World) (a9 : Nat) (t : Array Value), Ext w4 W -> Blk W a9 [.int .i64 at_] 3 -> t.size = 83 -> t.getD 1 undef = .pointer o -> t.getD 3 undef = .pointer (some ⟨gb, 0, none⟩) -> t.getD 6 undef = .pointer (some ⟨gb + 1, 0, none⟩) -> t.getD 7 undef = .pointer (some ⟨gb + 1 + 1, 0, none⟩) -> t.getD 8 undef = .pointer (some ⟨gb + 1 + 1 + 1, 0, none⟩) -> t.getD 9 undef = .pointer (some ⟨a9, 0, none⟩) ->
  oP.wp Tryz.prog (bodyPostM Fence.wide 4 Tryz.prog Tryz.f66 (RetN w fun w' v => iN (aA ls) hs k at_ L w w' v)) { tmps := t, defers := [] } W from fun W a9 t hW hb9 hz t1 t3 t6 t7 t8 t9 => by
  obtain ⟨q1, q2, q3, q4, q5⟩ := H4.out
  exact aCd (q1.ext hW) (q2.ext hW) (q3.ext hW) (q4.ext hW) hb9 (q5.trans hW) egb.symm
   (fun W hW => HEa.out W hW) (fun W hW V va nb vc h1 h2 h3 => HHd.out W hW V va nb vc h1 h2 h3) (fun V hV => ((hL.1 hc).iff V).1 hV |>.1) hnv (by omega) hc hk hat hN hLl hVs hHs hz t1 t3 t6 t7 t8 t9)
 have hnv2 := hnv
 have HJ := qH (show ∀ w', Ext w4 w' -> (fun w' : World => w'.cell? ⟨gb, 0, none⟩ = some (.string p) /\ w'.cell? ⟨gb, 1, none⟩ = some (.slice (some ⟨tb, off, none⟩) hn hcap) /\ w'.cell? ⟨gb, 2, none⟩ = some (.slice ba n bcap) /\ w'.cell? ⟨gb + 1 + 1 + 1, 1, none⟩ = some (.string s8)) w' from fun w' hw => ⟨by rw [(H4.out.1.ext hw).cell']; rfl, by rw [(H4.out.1.ext hw).cell']; rfl, by rw [(H4.out.1.ext hw).cell']; rfl, by rw [(H4.out.2.2.2.1.ext hw).cell']; rfl⟩)
 clear hhn hh hhl hbn h hf hnv hn16 hB hL hc hj hk hat0 hat hN hLl hVs hHs x1 x2 x3 x4 hjl
 refine callsIn_wide.1 (callsIn_of_wp_marks (n := 4) Tryz.func66 rfl trivial ?_ rfl)
 refine wpIn_wide.2 ?_
 obtain ⟨Q, eQ⟩ : ∃ Q, Q = bodyPostM Fence.wide 4 Tryz.prog Tryz.f66 (RetN w fun w' v => iN (aA ls) hs k at_ L w w' v) := ⟨_, rfl⟩
 rw [<- eQ]
 have EQ := qH eQ; clear eQ
 simp only [Tryz.ntmps66, List.size_toArray, List.length_cons, List.length_nil, Nat.reduceAdd, Nat.reduceSub, Array.replicate_succ, Array.replicate_zero, List.push_toArray, List.append_toArray, List.nil_append, List.cons_append]
 conv => arg 2; whnf
 show Code.wp _ (Code.seq _ (Code.seq _ (Code.seq _ oP))) _ _ _
 go_wp2_with fail
 clear e1 e2 e3 e4 s1 s2 s3 r1 f0 f1 i1 HEq HB3
 refine tK ?_
 refine bC (fun w' : World => w'.cell? ⟨gb, 0, none⟩ = some (.string p) /\ w'.cell? ⟨gb, 1, none⟩ = some (.slice (some ⟨tb, off, none⟩) hn hcap) /\ w'.cell? ⟨gb, 2, none⟩ = some (.slice ba n bcap) /\ w'.cell? ⟨gb + 1 + 1 + 1, 1, none⟩ = some (.string s8)) [6] (by kernel_rfl) (HJ.out _ (Kp.refl w4).drew) (fun hHeld => ?_)
 refine dI 0 ?_; try simp only [Act.put,sI,sZ,sS]
 refine dF 2 ?_; try simp only [Act.put,sI,sZ,sS]
 refine dI 3 ?_; try simp only [Act.put,sI,sZ,sS]
 refine vS (i := 1) (k := 5) ?_ ?_
 ·refine aG (i := 1) rfl (fun K hK => ?_)
  go_simp
  (refine (HVa.out _ (by first | exact H4.out.2.2.2.2.trans (Kp.refl w4).drew | exact H4.out.2.2.2.2.trans ((Kp.refl w4).drew.alloc _))).mono ?_; rintro e w5 ⟨v5, rfl, hk5, ao, cap, rfl, hcap, hcs, -, -⟩; have X5 := qH (show Ext w4 w5 from by first | exact (Kp.refl w4).drew.trans hk5 | exact ((Kp.refl w4).drew.alloc _).trans hk5); have HC5 := qH hcs; have K5 := qH hk5; clear hk5 hcs hcap)
  go_wp2_with fail
  refine hK.out _ _ ?_ (fun hHeld => ?_)
  ·(try dsimp only); (exact HJ.out _ X5.out)
  clear hK K; (try simp only [Act.put,sI,sZ,sS])
  refine vS (i := 4) (k := 5) ?_ ?_
  ·refine aG (i := 4) rfl (fun K hK => ?_)
   go_simp
   (refine (fA (aA ls) s8 ao (aA ls).length cap _ rfl (by first | exact HC5.out | exact HC5.out.ext ((Kp.refl _).alloc _)) (by omega)).mono ?_; rintro e w6 ⟨v6, rfl, hk6, rfl⟩; rw [HAt.out]; have X6 := qH (show Ext w4 w6 from by first | exact X5.out.trans hk6 | exact (X5.out.alloc _).trans hk6); have K6 := qH hk6; clear hk6)
   go_wp2_with fail
   refine hK.out _ _ ?_ (fun hHeld => ?_)
   ·(try dsimp only); (exact HJ.out _ X6.out)
   clear hK K; (try simp only [Act.put,sI,sZ,sS])
   refine aF (i := 5) ?_
   refine aG (i := 5) rfl (fun K hK => ?_)
   (first | have HA9 := qH (Blk.new w6 [.int .i64 0] 3) | have HA9 := qH (Blk.new w5 [.int .i64 0] 3) | have HA9 := qH (show Blk (w4.drew.alloc (.cells #[.int .i64 0] 3)) w4.heap.size [.int .i64 0] 3 from Blk.new w4.drew [.int .i64 0] 3))
   go_simp
   refine hK.out _ _ ?_ (fun hHeld => ?_)
   ·(try dsimp only); (first | exact HJ.out _ (X6.out.alloc _) | exact HJ.out _ (X5.out.alloc _) | exact HJ.out _ ((Kp.refl w4).drew.alloc _))
   clear hK K; (try simp only [Act.put,sI,sZ,sS])
   refine aF (i := 6) ?_
   refine aI (i := 6) rfl (by kernel_rfl) (fun K hK => ?_)
   (first | (have hb9 := (HA9.out.ext K5.out).ext K6.out; have hc9 := cell0 hb9; have hf9 := hb9.free 0) | (have hb9 := HA9.out.ext K6.out; have hc9 := cell0 hb9; have hf9 := hb9.free 0) | skip)
   go_simp
   refine hK.out _ _ ?_
   clear hK K; (try simp only [Act.put,sI,sZ,sS])
   refine aN (by kernel_rfl) ?_ _
   refine fK ?_
   go_wp2_with fail
   rw [EQ.out]
   refine HT.out _ _ _ ?_ ?_ rfl rfl rfl rfl rfl rfl rfl
   ·first | exact X6.out.alloc _ | exact X6.out.trans' (Kp.setCell (F := fun q => q = w5.heap.size) (p := ⟨w5.heap.size, 0, none⟩) (Kp.refl _) (fun _ => rfl) _) (fun i hi e => by have e' : i = w5.heap.size := e; have := X5.out.size; omega) | exact X6.out.trans' (Kp.setCell (F := fun q => q = w4.heap.size) (p := ⟨w4.heap.size, 0, none⟩) (Kp.refl _) (fun _ => rfl) _) (fun i hi e => by have e' : i = w4.heap.size := e; omega)
   ·first | exact Blk.new w6 [.int .i64 at_] 3 | exact hb9.set 0 _
  ·refine aG (i := 5) rfl (fun K hK => ?_)
   (first | have HA9 := qH (Blk.new w6 [.int .i64 0] 3) | have HA9 := qH (Blk.new w5 [.int .i64 0] 3) | have HA9 := qH (show Blk (w4.drew.alloc (.cells #[.int .i64 0] 3)) w4.heap.size [.int .i64 0] 3 from Blk.new w4.drew [.int .i64 0] 3))
   go_simp
   refine hK.out _ _ ?_ (fun hHeld => ?_)
   ·(try dsimp only); (first | exact HJ.out _ (X6.out.alloc _) | exact HJ.out _ (X5.out.alloc _) | exact HJ.out _ ((Kp.refl w4).drew.alloc _))
   clear hK K; (try simp only [Act.put,sI,sZ,sS])
   refine aF (i := 4) ?_
   refine aG (i := 4) rfl (fun K hK => ?_)
   go_simp
   (refine (fA (aA ls) s8 ao (aA ls).length cap _ rfl (by first | exact HC5.out | exact HC5.out.ext ((Kp.refl _).alloc _)) (by omega)).mono ?_; rintro e w6 ⟨v6, rfl, hk6, rfl⟩; rw [HAt.out]; have X6 := qH (show Ext w4 w6 from by first | exact X5.out.trans hk6 | exact (X5.out.alloc _).trans hk6); have K6 := qH hk6; clear hk6)
   go_wp2_with fail
   refine hK.out _ _ ?_ (fun hHeld => ?_)
   ·(try dsimp only); (exact HJ.out _ X6.out)
   clear hK K; (try simp only [Act.put,sI,sZ,sS])
   refine aF (i := 6) ?_
   refine aI (i := 6) rfl (by kernel_rfl) (fun K hK => ?_)
   (first | (have hb9 := (HA9.out.ext K5.out).ext K6.out; have hc9 := cell0 hb9; have hf9 := hb9.free 0) | (have hb9 := HA9.out.ext K6.out; have hc9 := cell0 hb9; have hf9 := hb9.free 0) | skip)
   go_simp
   refine hK.out _ _ ?_
   clear hK K; (try simp only [Act.put,sI,sZ,sS])
   refine aN (by kernel_rfl) ?_ _
   refine fK ?_
   go_wp2_with fail
   rw [EQ.out]
   refine HT.out _ _ _ ?_ ?_ rfl rfl rfl rfl rfl rfl rfl
   ·first | exact X6.out.alloc _ | exact X6.out.trans' (Kp.setCell (F := fun q => q = w5.heap.size) (p := ⟨w5.heap.size, 0, none⟩) (Kp.refl _) (fun _ => rfl) _) (fun i hi e => by have e' : i = w5.heap.size := e; have := X5.out.size; omega) | exact X6.out.trans' (Kp.setCell (F := fun q => q = w4.heap.size) (p := ⟨w4.heap.size, 0, none⟩) (Kp.refl _) (fun _ => rfl) _) (fun i hi e => by have e' : i = w4.heap.size := e; omega)
   ·first | exact Blk.new w6 [.int .i64 at_] 3 | exact hb9.set 0 _
 ·refine aG (i := 5) rfl (fun K hK => ?_)
  (first | have HA9 := qH (Blk.new w6 [.int .i64 0] 3) | have HA9 := qH (Blk.new w5 [.int .i64 0] 3) | have HA9 := qH (show Blk (w4.drew.alloc (.cells #[.int .i64 0] 3)) w4.heap.size [.int .i64 0] 3 from Blk.new w4.drew [.int .i64 0] 3))
  go_simp
  refine hK.out _ _ ?_ (fun hHeld => ?_)
  ·(try dsimp only); (first | exact HJ.out _ (X6.out.alloc _) | exact HJ.out _ (X5.out.alloc _) | exact HJ.out _ ((Kp.refl w4).drew.alloc _))
  clear hK K; (try simp only [Act.put,sI,sZ,sS])
  refine aF (i := 1) ?_
  refine aG (i := 1) rfl (fun K hK => ?_)
  go_simp
  (refine (HVa.out _ (by first | exact H4.out.2.2.2.2.trans (Kp.refl w4).drew | exact H4.out.2.2.2.2.trans ((Kp.refl w4).drew.alloc _))).mono ?_; rintro e w5 ⟨v5, rfl, hk5, ao, cap, rfl, hcap, hcs, -, -⟩; have X5 := qH (show Ext w4 w5 from by first | exact (Kp.refl w4).drew.trans hk5 | exact ((Kp.refl w4).drew.alloc _).trans hk5); have HC5 := qH hcs; have K5 := qH hk5; clear hk5 hcs hcap)
  go_wp2_with fail
  refine hK.out _ _ ?_ (fun hHeld => ?_)
  ·(try dsimp only); (exact HJ.out _ X5.out)
  clear hK K; (try simp only [Act.put,sI,sZ,sS])
  refine aF (i := 4) ?_
  refine aG (i := 4) rfl (fun K hK => ?_)
  go_simp
  (refine (fA (aA ls) s8 ao (aA ls).length cap _ rfl (by first | exact HC5.out | exact HC5.out.ext ((Kp.refl _).alloc _)) (by omega)).mono ?_; rintro e w6 ⟨v6, rfl, hk6, rfl⟩; rw [HAt.out]; have X6 := qH (show Ext w4 w6 from by first | exact X5.out.trans hk6 | exact (X5.out.alloc _).trans hk6); have K6 := qH hk6; clear hk6)
  go_wp2_with fail
  refine hK.out _ _ ?_ (fun hHeld => ?_)
  ·(try dsimp only); (exact HJ.out _ X6.out)
  clear hK K; (try simp only [Act.put,sI,sZ,sS])
  refine aF (i := 6) ?_
  refine aI (i := 6) rfl (by kernel_rfl) (fun K hK => ?_)
  (first | (have hb9 := (HA9.out.ext K5.out).ext K6.out; have hc9 := cell0 hb9; have hf9 := hb9.free 0) | (have hb9 := HA9.out.ext K6.out; have hc9 := cell0 hb9; have hf9 := hb9.free 0) | skip)
  go_simp
  refine hK.out _ _ ?_
  clear hK K; (try simp only [Act.put,sI,sZ,sS])
  refine aN (by kernel_rfl) ?_ _
  refine fK ?_
  go_wp2_with fail
  rw [EQ.out]
  refine HT.out _ _ _ ?_ ?_ rfl rfl rfl rfl rfl rfl rfl
  ·first | exact X6.out.alloc _ | exact X6.out.trans' (Kp.setCell (F := fun q => q = w5.heap.size) (p := ⟨w5.heap.size, 0, none⟩) (Kp.refl _) (fun _ => rfl) _) (fun i hi e => by have e' : i = w5.heap.size := e; have := X5.out.size; omega) | exact X6.out.trans' (Kp.setCell (F := fun q => q = w4.heap.size) (p := ⟨w4.heap.size, 0, none⟩) (Kp.refl _) (fun _ => rfl) _) (fun i hi e => by have e' : i = w4.heap.size := e; omega)
  ·first | exact Blk.new w6 [.int .i64 at_] 3 | exact hb9.set 0 _
end
section
open Go.RowKit Go.Shelf
theorem aA4 {P : Program} {t e : TypeId} {k bytes : Nat} {z : Value} {w : World} (E : cX P t e k bytes z) (ty : TypeId) {ao : Option Addr} {n : Nat} {xs : List Value} (hx : xs.length = n * k) (hc : CellsAt w ao xs) (h0 : ao = none -> n = 0)
 {so : Option Addr} {m c : Nat} {news : List Value} (hl : news.length = m * k) (hs : CellsAt w so news) (hm : 0 < m) (hb : (n + m) * bytes ≤ 140737488355328) (h63 : n + m ≤ maxLen) :
 ∃ v' w', (Builtin.append_ #[t, t] ty #[.slice ao n n, .slice so m c]).run P w = .ok v' w' /\ Row w' e k v' (n + m) (xs ++ news) (New w) /\ Ext w w' := by
 have hne : news ≠ [] := by
  rintro rfl
  have h0 := Nat.mul_pos hm E.2.2.2
  simp only [List.length_nil] at hl; omega
 obtain ⟨b, off, rfl, hlt⟩ := hs.off hne
 have hsrc : ∀ j u, news[j]? = some u -> w.cell? ((⟨b, off, none⟩ : Addr).add j) = some u := fun j u hu => by
  obtain ⟨b', off', he, hc⟩ := hs j u hu
  cases he
  rw [Addr.add_lit]; exact hc
 obtain ⟨ht, hi, hz, hk⟩ := E
 obtain ⟨i, hi, hz1, hz2, hz3⟩ := info_parts hi
 have hsmall : n + m ≤ 9223372036854775807 := h63
 have grown : ∀ old, (w.drew.alloc (.cells (xs.toArray ++ news.toArray ++ Builtin.zeroCells z.cells (grownCap w (n + m) old e - (n + m))) e)).heap[w.heap.size]? =
  some (.cells ((xs ++ news) ++ (Builtin.zeroCells z.cells (grownCap w (n + m) old e - (n + m))).toList).toArray e (0, 0)) := fun old => by
  show (w.heap.push _)[w.heap.size]? = _
  simp
 have lens : ∀ old, ((xs ++ news) ++ (Builtin.zeroCells z.cells (grownCap w (n + m) old e - (n + m))).toList).length = grownCap w (n + m) old e * k := fun old => by
  have hge := grownCap_ge w (n + m) old e
  simp only [List.length_append, Array.length_toList, size_zeroCells, hz, hx, hl, <- Nat.add_mul]
  congr 1; omega
 cases ao with
 | none =>
  have hn0 := h0 rfl
  subst hn0
  have hx0 : xs = [] := List.eq_nil_of_length_eq_zero (by simpa using hx)
  subst hx0
  have hr := run_append_nil (P := P) w t ty e i z ht hi hz1 ⟨b, off, none⟩ m c news (by rw [hz2]; exact hl) hsrc (by omega) (by omega) (by rw [hz3]; simp only [Nat.zero_add] at hb; omega)
  refine ⟨_, _, hr, ?_, ⟨rfl, rfl, rfl, by simp, fun k hk _ => Below.heap_alloc w.drew _ k hk⟩⟩
  have h1 := grown 0
  have h2 := lens 0
  simp only [Nat.zero_add, List.nil_append, Array.empty_append] at h1 h2 ⊢
  exact ⟨hl, .inr ⟨_, _, _, rfl, Nat.le_refl _, h1, h2, grownCap_ge w m 0 e, grownCap_le_maxLen w m 0 e (by omega)⟩⟩
 | some a =>
  have holds : ∀ j u, xs[j]? = some u -> w.cell? (a.add j) = some u := fun j u hu => by
   obtain ⟨b', off', he, hc2⟩ := hc j u hu
   cases he
   rw [Addr.add_lit]; exact hc2
  have hr := run_append_grow (P := P) w t ty e i z ht hi hz1 a n n xs (by rw [hz2]; exact hx) holds ⟨b, off, none⟩ m c news (by rw [hz2]; exact hl) hsrc (by omega) (by omega) (by rw [hz3]; exact growslice_fits (by omega) hb)
  exact ⟨_, _, hr, ⟨by rw [List.length_append, hx, hl, Nat.add_mul], .inr ⟨_, _, _, rfl, Nat.le_refl _, grown n, lens n, grownCap_ge w (n + m) n e, grownCap_le_maxLen w (n + m) n e (by omega)⟩⟩, ⟨rfl, rfl, rfl, by simp, fun k hk _ => Below.heap_alloc w.drew _ k hk⟩⟩
theorem aDl {P : Program} {t e : TypeId} {k bytes : Nat} {z : Value} {w : World} (E : cX P t e k bytes z) {ops : Array Oper} {rest : List Oper} {o : Oper} {a : Act} {Q : Exit -> Act -> World -> Prop} (hgd : o.guard = none) (s x : Operand)
 (ho : o.op = .call { callee := .builtin .append, args := #[s, x], argTypes := #[t, t] })
 {ao : Option Addr} {n : Nat} {xs : List Value} (hs : a.eval s = .slice ao n n) (hc : CellsAt w ao xs) (hx : xs.length = n * k) (h0 : ao = none -> n = 0)
 {so : Option Addr} {m c : Nat} {news : List Value} (hsx : a.eval x = .slice so m c) (hsrc : CellsAt w so news) (hl : news.length = m * k) (hm : 0 < m)
 (hb : (n + m) * bytes ≤ 140737488355328) (h63 : n + m ≤ maxLen)
 (h : ∀ v' w', Row w' e k v' (n + m) (xs ++ news) (New w) -> Ext w w' -> wpList P ops Q rest (a.put o.dst v') w') : wpList P ops Q (o :: rest) a w := by
 refine wpList_plain hgd fun K hK => ?_
 obtain ⟨v', w', hrun, h2, h3⟩ := aA4 (P := P) E o.type hx hc h0 hl hsrc hm hb h63 (c := c)
 unfold Oper.wp execOp
 simp only [ho, resolve, invoke, builtin, Sem.run_bind, Sem.run_pure, Result.andThen_ok, List.map_toArray, List.map_cons, List.map_nil, hs, hsx, hrun]
 exact hK _ _ (h v' w' h2 h3)
abbrev SlZ := Option Addr × Nat × Nat
structure ListsO (W : World) (M : Nat -> Prop) (N : Nat) (vs : Nat -> SlZ) (gb : Nat -> Nat) (C : Nat -> List ByteArray) : Prop where
 len : ∀ i, i < N -> (vs i).2 = ((C i).length, (C i).length)
 blk : ∀ i, i < N -> ((vs i).1 = none /\ C i = []) \/ ((vs i).1 = some ⟨gb i, 0, none⟩ /\ M (gb i) /\ ∃ rest, Blk W (gb i) (strs (C i) ++ rest) 9)
 far : ∀ i j, i < N -> j < N -> i ≠ j -> (vs i).1 ≠ none -> (vs j).1 ≠ none -> gb i ≠ gb j
set_option maxHeartbeats 4000000 in
theorem uX {xs : List Value} {ao : Option Addr} {n i : Nat} {x : Value} {vb : Nat} {w : World} (hn : n = xs.length) (ho : (ao = none /\ xs = []) \/ ∃ g rest, ao = some ⟨g, 0, none⟩ /\ Blk w g (xs ++ rest) 9) (hi : i ≤ n) (hx : x.oneCell' = true) (hxs : ∀ u ∈ xs, u.oneCell' = true) (hv : Blk w vb [x] 9) (hb : n ≤ 1048576) :
 Calls Tryz.prog 67 #[.slice ao n n, .int .i64 (i : Nat), .slice (some ⟨vb, 0, none⟩) 1 1] w (RetN w fun w' v => Row w' 9 1 v (n + 1) (xs.take i ++ x :: xs.drop i) (New w)) := by
 have hsrc : CellsAt w (some ⟨vb, 0, none⟩) [x] := CellsAt.pre (rest := []) hv
 have hcells : CellsAt w ao xs := by
  rcases ho with ⟨_, e⟩ | ⟨g, rest, e, hB⟩
  ·rw [e]; exact CellsAt.nil _ _
  ·rw [e]; exact CellsAt.pre hB
 by_cases hin : i = n
 ·subst hin
  have h0 : ao = none -> i = 0 := fun e => by
   rcases ho with ⟨_, e2⟩ | ⟨g, rest, e2, _⟩
   ·rw [hn, e2]; rfl
   ·rw [e] at e2; cases e2
  have HNN := qH hn
  clear ho hv
  go_enter Tryz.func67, Tryz.ntmps67
  go_wp2_with (first | (at_builtin; refine Halted.out ?_))
  refine Halted.mk (aDl dV rfl _ _ rfl rfl hcells (by omega) h0 rfl hsrc rfl (by omega) (by omega) (by unfold maxLen; omega) ?_)
  intro v1 w1 hr1 hk1
  have HR := qH hr1; clear hr1 hcells
  go_wp2
  go_ret
  refine RetN.mk hk1 ?_
  have := HNN.out
  rw [List.take_of_length_le (by omega), List.drop_of_length_le (by omega)]
  exact HR.out
 ·have hlt : i < n := by omega
  obtain ⟨g, rest, rfl, hB⟩ : ∃ g rest, ao = some ⟨g, 0, none⟩ /\ Blk w g (xs ++ rest) 9 := by
   rcases ho with ⟨_, e⟩ | h
   ·rw [e] at hn; simp at hn; omega
   ·exact h
  clear ho
  have hk0 : 0 < n + 1 - i := by omega
  obtain ⟨w1, G, hrun1, hG, hGm, hext1, hsz1, hB1⟩ := oB (w := w) dV rfl Tryz.underlying3 (ao := some ⟨g, 0, none⟩) (n := i) (cap := n) (olds := xs.take i) (fun j u hu => by
   rw [List.getElem?_take] at hu
   split at hu
   ·exact hcells j u hu
   ·cases hu) (by simp; omega) (k := n + 1 - i) hk0 (by omega) (by rw [show i + (n + 1 - i) = n + 1 by omega]; omega) (by unfold maxLen; omega)
  rw [show i + (n + 1 - i) = n + 1 by omega] at hrun1 hG
  have rk : (n : Int) + 1 - i = ((n + 1 - i : Nat) : Int) := by omega
  rw [<- rk] at hrun1
  clear rk
  have hv1 := hsrc.ext hext1
  have hgh : g < w.heap.size := hB.lt
  obtain ⟨w2, hrun2, hk2, hB2⟩ := kE dV (w := w1) hB1 (off := i) (dp := some ⟨w.heap.size, i, none⟩) (dLen := n + 1 - i) (dCap := G - i) (sp := some ⟨vb, 0, none⟩) (sLen := 1) (sCap := 1) (cs := [x]) (by simp [Nat.min_def]; omega) (fun _ => rfl) hv1 (by simp; omega) (by simpa using hx)
  have hB' : Blk w2 g (xs ++ rest) 9 := (hB.ext hext1).kp hk2 (by omega)
  have HB' := qH hB'; have HB2 := qH hB2; have HK2 := qH hk2; have HE1 := qH hext1
  have HNN := qH hn
  have HXS := qH hxs
  have ncG : ¬ G = i := by omega
  have ncG1 : ¬ G = i + 1 := by omega
  have nci : ¬ n = i := by omega
  have hi1 : ((i : Int) + 1).toNat = i + 1 := by omega
  have hw1 : IntKind.i64.wrap ((i : Int) + 1) = (i : Int) + 1 := IntWalk.i64_in _ (by omega)
  have hp1 : (0 : Int) ≤ (i : Int) + 1 := by omega
  have hp2 : (i : Int) ≤ (n : Int) + 1 := by omega
  have hp3 : (i : Int) ≤ (n : Int) := by omega
  clear hB hB' hB2 hk2 hext1 hn hxs hv1 hB1 hv hsrc hcells hb
  unfold maxLen at hGm
  go_enter Tryz.func67, Tryz.ntmps67
  go_wp2_with (first | (at_builtin; refine Halted.out ?_))
  refine Halted.mk (wV rfl _ _ rfl rfl rfl hrun1 ?_)
  clear hrun1
  go_wp2
  go_still_tail 8, (by kernel_rfl)
  refine tL dV rfl _ _ rfl (w := w2.drew) (HB2.out.drew) (g := w.heap.size) (off := i + 1) rfl rfl (cs := xs.drop i) (by have := HNN.out; first | (simp; omega) | (simp [Nat.min_def]; first | omega | (split <;> omega))) (fun _ => rfl) (fun j u hu => ⟨g, i, rfl, by
   have hb := HB'.out
   rw [hb.drew.cell']
   rw [List.getElem?_drop] at hu
   rw [List.getElem?_append_left (List.getElem?_eq_some_iff.1 hu).1]; exact hu⟩) (by have := HNN.out; simp [splice]; omega) (fun u hu => HXS.out u (List.mem_of_mem_drop hu)) ?_
  intro w3 hk3 hB3
  have HK3 := qH hk3; have HB3 := qH hB3
  clear hk3 hB3 hw1 hi1 hp1 hp2 hp3
  go_wp2
  go_ret
  have hext2 : Ext w w2 := HE1.out.trans' HK2.out (fun k hk e => by omega)
  have hext3 : Ext w w3 := (hext2.drew).trans' HK3.out (fun k hk e => by omega)
  refine RetN.mk hext3 ⟨?_, .inr ⟨w.heap.size, G, List.replicate (G - (n + 1)) (.string ⟨#[]⟩), rfl, Nat.le_refl _, ?_, ?_, hG, by unfold maxLen; omega⟩⟩
  ·have := HNN.out; simp; omega
  ·have h := rL xs x (.string ⟨#[]⟩) i G (by have := HNN.out; omega) (by have := HNN.out; omega)
   have := HB3.out
   rw [h] at this
   exact this.congrL (by rw [HNN.out])
  ·have := HNN.out; simp; omega
end
section
open Go.RowKit
attribute [local go_sem] Oper.semAt_some
def isAgg (t : aE) : Bool := decide (4 ≤ t.1 /\ t.1 ≤ 7)
def wI (ts : List aE) (i : Nat) (b : Bool) : Prop := (b = true /\ ∃ t, ts[i]? = some t /\ isAgg t = true /\ ∀ (j : Nat) u, j < i -> ts[j]? = some u -> isAgg u = false) \/ (b = false /\ i = 0 /\ ∀ t ∈ ts, isAgg t = false)
theorem aJq (k : Int) (s : ByteArray) (w : World) : Calls Tryz.prog 63 #[.agg #[.int .i64 k, .string s]] w (RetN w fun w' v => v = .bool (decide (4 ≤ k /\ k ≤ 7))) := by
 by_cases h1 : 4 ≤ k
 ·by_cases h2 : k ≤ 7
  ·go_enter Tryz.func63, Tryz.ntmps63
   go_wp2
   go_ret
   exact RetN.mk ((Kp.refl w).alloc _) (by simp [h1, h2])
  ·go_enter Tryz.func63, Tryz.ntmps63
   go_wp2
   go_ret
   exact RetN.mk ((Kp.refl w).alloc _) (by simp [h1, h2])
 ·go_enter Tryz.func63, Tryz.ntmps63
  go_wp2
  go_ret
  exact RetN.mk ((Kp.refl w).alloc _) (by simp; omega)
def NoAgg (w0 : World) (ts : List aE) (n : Nat) (iv : Value) (w : World) : Prop := ∃ i : Nat, i ≤ n /\ iv = .int .i64 i /\ Hid (∀ (j : Nat) u, j < i -> ts[j]? = some u -> isAgg u = false) /\ Hid (Ext w0 w)
def IdxIs (ts : List aE) (v : Value) : Prop := (∃ i : Nat, v = .int .i64 i /\ i < ts.length /\ wI ts i true) \/ (v = .int .i64 (-1) /\ wI ts 0 false)
set_option maxHeartbeats 1000000 in
theorem zV (ts : List aE) (ao : Option Addr) (n cap : Nat) (w : World) (G : Nat -> Prop) (hn : n = ts.length) (h : bD w G ao ts) (hl : n ≤ 1048576) :
 Calls Tryz.prog 62 #[.slice ao n cap, .func (Fn.func 63) #[] #[]] w (RetN w fun w' v => IdxIs ts v) := by
 have HN := qH hn; have HE := qH h; clear hn h
 have hent : ∀ args w, (callFunc 63 args).run Tryz.prog w = .ok (.enter 63 args) w := enters_of Tryz.func63 (by kernel_rfl) rfl
 go_enter Tryz.func62, Tryz.ntmps62
 go_wp2
 go_loopw [8] (fun iv wr => NoAgg w ts n iv wr) (fun iv _ => n - (intOf iv).toNat)
 case atStart => exact ⟨0, Nat.zero_le _, rfl, fun j u h => by omega, Kp.refl w⟩
 case round =>
  obtain ⟨i, hi, rfl, hno, hex⟩ := hrel
  by_cases hlt : i < n
  ·have hlt' : i < ts.length := by rw [<- HN.out]; exact hlt
   obtain ⟨t, ht⟩ : ∃ t, ts[i]? = some t := ⟨_, qG hlt'⟩
   obtain ⟨b, off, eao, hc0, hc1, _⟩ := fH (HE.out.ext hex.out) ht
   subst eao
   obtain ⟨k, ek⟩ : ∃ k, k = t.1 := ⟨_, rfl⟩
   obtain ⟨s, es⟩ : ∃ s, s = t.2.1 := ⟨_, rfl⟩
   rw [<- ek] at hc0
   rw [<- es] at hc1
   obtain ⟨r, er⟩ : ∃ r : Bool, r = decide (4 ≤ k /\ k ≤ 7) := ⟨_, rfl⟩
   have hr : isAgg t = r := by unfold isAgg; rw [er, ek]
   have HC := qH (aJq k s wr)
   rw [<- er] at HC
   have HT := qH (And.intro ht hr)
   clear ht hlt' ek es er hr
   cases r
   ·go_wp2_with fail
    refine HC.out.mono ?_
    rintro e w1 ⟨v, rfl, hk1, rfl⟩
    have HX := qH (hex.out.trans hk1); clear hk1 hc0 hc1
    go_wp2
    go_roundw
    case rel =>
     refine ⟨i + 1, by omega, by first | rfl | (congr 1; done) | (congr 1; omega), fun j u hj hu => ?_, HX⟩
     by_cases e : j = i
     ·subst e; rw [HT.out.1] at hu; cases hu; exact HT.out.2
     ·exact hno.out j u (by omega) hu
    case measure => simp [intOf]; omega
   ·go_wp2_with fail
    refine HC.out.mono ?_
    rintro e w1 ⟨v, rfl, hk1, rfl⟩
    have HX := qH (hex.out.trans hk1); clear hk1 hc0 hc1
    go_wp2
    go_ret
    exact RetN.mk HX.out (.inl ⟨i, rfl, by have := HN.out; omega, .inl ⟨rfl, t, HT.out.1, HT.out.2, hno.out⟩⟩)
  ·go_wp2
   go_ret
   refine RetN.mk hex.out (.inr ⟨rfl, .inr ⟨rfl, rfl, fun t ht => ?_⟩⟩)
   obtain ⟨j, hj, rfl⟩ := List.mem_iff_getElem.1 ht
   exact hno.out j _ (by have := HN.out; omega) (qG hj)
theorem yT (p : ByteArray) (ts : List aE) (ao : Option Addr) (n cap : Nat) (w : World) (G : Nat -> Prop) (hn : n = ts.length) (h : bD w G ao ts) (hl : n ≤ 1048576) :
 Calls Tryz.prog 32 #[.agg #[.string p, .slice ao n cap]] w (RetN w fun w' v => ∃ i b, v = .tuple #[.int .i64 (i : Nat), .bool b] /\ wI ts i b) := by
 have hx : Ext w (w.alloc (.cells #[.string p, .slice ao n cap] 40)) := (Kp.refl w).alloc _
 have HI := qH (zV ts ao n cap _ G hn (h.ext hx) hl)
 have HX := qH hx
 have HL := qH (show ts.length ≤ 1048576 by omega)
 clear hn h hx hl
 go_enter Tryz.func32, Tryz.ntmps32
 go_wp2_with fail
 refine HI.out.mono ?_
 rintro e w1 ⟨v, rfl, hk, hv⟩
 have HK := qH (HX.out.trans hk); clear hk
 rcases hv with ⟨i, rfl, hi, hf⟩ | ⟨rfl, hf⟩
 ·have hi2 : i ≤ 1048576 := by have := HL.out; omega
  have HF := qH hf; clear hf hi
  have q1 : max (i : Int) 0 = (i : Int) := by omega
  have q2 : (0 : Int) ≤ (i : Int) := by omega
  go_wp2
  go_ret2
  exact RetN.mk HK.out ⟨i, true, by first | rfl | simp, HF.out⟩
 ·have HF := qH hf; clear hf
  go_wp2
  go_ret2
  exact RetN.mk HK.out ⟨0, false, by first | rfl | simp, HF.out⟩
end
section
open Go.RowKit Go.Shelf
attribute [local go_sem] Oper.semAt_some
def AggOut (r : bM) (nb : Bool) (L : aC) (w w' : World) (v : Value) : Prop :=
 (aO r ≠ 0 /\ v = .tuple #[.pointer none, .int .i64 (aO r : Nat)]) \/
 (aO r = 0 /\ ∃ j k s8, r.1.2.1[j]? = some (k, s8, ()) /\ (4 ≤ k /\ k ≤ 7) /\
  ((r.2.1 = [] /\ v = .tuple #[.pointer none, .int .i64 111]) \/
   (r.2.1 ≠ [] /\ nb = true /\ v = .tuple #[.pointer none, .int .i64 1]) \/
   (r.2.1 ≠ [] /\ nb = false /\ ∃ e A, pZ (aA r.2.1) r.1.2.1 k (bI (fun x => decide (x = s8)) (aA r.2.1)).toNat j L = (e, A) /\
    ((e ≠ 0 /\ v = .tuple #[.pointer none, .int .i64 (e : Nat)]) \/ (e = 0 /\ ∃ rb iv S, v = .tuple #[.pointer (some ⟨rb, 0, none⟩), .int .i64 0] /\ RowsAt S w' rb iv r.1.2.1.length A /\ w.heap.size ≤ rb /\ (∀ k, S k -> w.heap.size ≤ k) /\ ∀ k, iv.ownBlock = some k -> w.heap.size ≤ k)))))
def aK2 (w9 : World) (k : Int) (at_ j : Nat) (gs : List dL) (n : Nat) (av iv : Value) (W : World) : Prop :=
 ∃ i : Nat, i ≤ n /\ iv = .int .i64 i /\ gH k at_ (gs.take i) = 0 /\ Hid (Ext w9 W) /\ Hid (OwnRows w9.heap.size W av ((gs.take i).map (iE k at_ j)))
def AddTo (w9 w12 : World) (rb m : Nat) (LL : aC) (n : Nat) (iv : Value) (W : World) : Prop :=
 ∃ i : Nat, i ≤ n /\ iv = .int .i64 i /\ (aR m [] (LL.take i)).1 = 0 /\ Hid (Kp (fun q => q = rb) w12 W) /\ ∃ S v, Hid (RowsAt S W rb v m (aR m [] (LL.take i)).2 /\ (∀ q, S q -> w12.heap.size ≤ q) /\ ∀ q, v.ownBlock = some q -> w12.heap.size ≤ q)
set_option maxHeartbeats 16000000 in
theorem aAl {S : Nat -> Prop} {w : World} {p : ByteArray} {hs : List aE} {ls : List aM} {ha ba : Option Addr} {hn hcap n bcap : Nat} {G : Nat -> Prop} {o : Option Addr} {E : List Ent} {L : aC} (hhn : hn = hs.length) (hh : bD w G ha hs) (hhl : hn ≤ 1048576) (hbn : n = ls.length) (h : cF w G ba ls) (hf : Fit ls) (hnv : (aA ls).length ≤ 1048576) (hn16 : n ≤ 1048576)
 (hB : BaseV S w (.pointer o) E) (hL : jX ((p, hs, ()), ls, ()) (cH (wP ls E) ls) L) (hag : (hs.any fun t => decide (4 ≤ t.1)) = true) (hN : NumW w) (hLl : L.length ≤ 1048576) (hVs : ∀ V ∈ L, ∀ s ∈ V, s.size ≤ 1048576) (hHs : ∀ V ∈ L, ∀ s ∈ aP (aA ls) V hs, s.size ≤ 1048576) :
 Calls Tryz.prog 33 #[dN p ha hn hcap ba n bcap, .pointer o] w (RetN w fun w' v => AggOut ((p, hs, ()), ls, ()) o.isNone L w w' v) := by
 have HCh := qH (fun W (hW : Ext w W) => iM p hs ls ha hn hcap ba n bcap W G hhn (hh.ext hW) (by omega) hbn (h.ext hW) hf)
 have HOf := qH (fun W (hW : Ext w W) => yT p hs ha hn hcap W G hhn (hh.ext hW) (by omega))
 obtain ⟨cR, ecR⟩ : ∃ c, aO ((p, hs, ()), ls, ()) = c := ⟨_, rfl⟩
 rw [ecR] at HCh
 have HC := qH ecR
 have HGr := qH (show aO ((p, hs, ()), ls, ()) = 0 -> ∀ (j : Nat) (k : Int) (s8 : ByteArray), hs[j]? = some (k, s8, ()) -> 4 ≤ k /\ k ≤ 7 -> (k ≠ 4 -> 0 ≤ bI (fun x => decide (x = s8)) (aA ls) /\ bI (fun x => decide (x = s8)) (aA ls) < (aA ls).length) -> ∀ W, Ext w W -> Calls Tryz.prog 66 #[dN p ha hn hcap ba n bcap, .pointer o, .int .i64 (j : Nat)] W (RetN W fun w' v => iN (aA ls) hs k (bI (fun x => decide (x = s8)) (aA ls)) L W w' v) from
  fun hc j k s8 hj hk hat W hW => aE4 hhn (hh.ext hW) hhl hbn (h.ext hW) hf hnv hn16 (hB.ext hW) hL hc hj hk rfl hat (hN.ext hW) hLl hVs hHs)
 have HN := qH (And.intro hhn (And.intro hhl (And.intro hbn (And.intro hag (And.intro hN hLl)))))
 obtain ⟨gb, egb⟩ : ∃ g, w.heap.size = g := ⟨_, rfl⟩
 obtain ⟨w1, e1⟩ : ∃ x, w.alloc (.cells #[.string p, .slice ha hn hcap, .slice ba n bcap] 43) = x := ⟨_, rfl⟩
 have x1 : Ext w w1 := by rw [<- e1]; exact (Kp.refl w).alloc _
 have hB1 : Blk w1 gb [.string p, .slice ha hn hcap, .slice ba n bcap] 43 := by rw [<- e1, <- egb]; exact Blk.new w _ _
 have H1 := qH (And.intro x1 hB1)
 have r0 : w1.cell? ⟨gb, 0, none⟩ = some (.string p) := by rw [hB1.cell']; rfl
 have r1 : w1.cell? ⟨gb, 1, none⟩ = some (.slice ha hn hcap) := by rw [hB1.cell']; rfl
 have r2 : w1.cell? ⟨gb, 2, none⟩ = some (.slice ba n bcap) := by rw [hB1.cell']; rfl
 clear hhn hh hhl hbn h hf hnv hn16 hB hL hag hN hLl hVs hHs ecR x1 hB1
 go_enter Tryz.func33, Tryz.ntmps33
 go_wp2_with fail
 clear e1
 refine (HCh.out w1 H1.out.1).mono ?_
 rintro e w2 ⟨v2, rfl, hk2, rfl⟩
 have H2 := qH (And.intro (H1.out.1.trans hk2) (H1.out.2.ext hk2))
 have q0 : w2.cell? ⟨gb, 0, none⟩ = some (.string p) := by rw [H2.out.2.cell']; rfl
 have q1 : w2.cell? ⟨gb, 1, none⟩ = some (.slice ha hn hcap) := by rw [H2.out.2.cell']; rfl
 clear hk2 r0 r1 r2
 by_cases hc : cR = 0
 ·subst hc
  go_wp2_with fail
  refine (HOf.out w2 H2.out.1).mono ?_
  rintro e w3 ⟨v3, rfl, hk3, j, b, rfl, hfa⟩
  have hb : b = true := by
   rcases hfa with ⟨h, _⟩ | ⟨_, _, h⟩
   ·exact h
   ·obtain ⟨t, ht, h2⟩ := List.any_eq_true.1 HN.out.2.2.2.1
    have h3 := h t ht
    unfold isAgg at h3
    have h4 := of_decide_eq_true h2
    have h5 := ((lL HC.out).1 t ht).2
    exact absurd ⟨h4, h5⟩ (of_decide_eq_false h3)
  subst hb
  have H3 := qH (And.intro (H2.out.1.trans hk3) (H2.out.2.ext hk3))
  have s0 : w3.cell? ⟨gb, 0, none⟩ = some (.string p) := by rw [H3.out.2.cell']; rfl
  have s1 : w3.cell? ⟨gb, 1, none⟩ = some (.slice ha hn hcap) := by rw [H3.out.2.cell']; rfl
  have s2 : w3.cell? ⟨gb, 2, none⟩ = some (.slice ba n bcap) := by rw [H3.out.2.cell']; rfl
  clear hk3 q0 q1
  obtain ⟨t, htj, hta⟩ : ∃ t, hs[j]? = some t /\ isAgg t = true := by
   rcases hfa with ⟨_, t, h1, h2, _⟩ | ⟨h, _⟩
   ·exact ⟨t, h1, h2⟩
   ·cases h
  obtain ⟨k, s8, ⟨⟩⟩ := t
  have hk : 4 ≤ k /\ k ≤ 7 := of_decide_eq_true hta
  have hat : k ≠ 4 -> 0 ≤ bI (fun x => decide (x = s8)) (aA ls) /\ bI (fun x => decide (x = s8)) (aA ls) < (aA ls).length := fun h4 => vC HC.out (List.mem_of_getElem? htj) (fun e => by have e' : k = 3 := e; omega) h4
  have HJ := qH (And.intro htj hk)
  have HW := qH (show ∀ (w' : World) (v : Value), Ext w w' -> ((ls = [] /\ v = .tuple #[.pointer none, .int .i64 111]) \/ (ls ≠ [] /\ o.isNone = true /\ v = .tuple #[.pointer none, .int .i64 1]) \/ (ls ≠ [] /\ o.isNone = false /\ ∃ e A, pZ (aA ls) hs k (bI (fun x => decide (x = s8)) (aA ls)).toNat j L = (e, A) /\ ((e ≠ 0 /\ v = .tuple #[.pointer none, .int .i64 (e : Nat)]) \/ (e = 0 /\ ∃ rb iv S, v = .tuple #[.pointer (some ⟨rb, 0, none⟩), .int .i64 0] /\ RowsAt S w' rb iv hs.length A /\ w.heap.size ≤ rb /\ (∀ k, S k -> w.heap.size ≤ k) /\ ∀ k, iv.ownBlock = some k -> w.heap.size ≤ k)))) -> RetN w (fun w' v => AggOut ((p, hs, ()), ls, ()) o.isNone L w w' v) (.returned v) w' from fun w' v hx h => RetN.mk hx (.inr ⟨HC.out, j, k, s8, HJ.out.1, HJ.out.2, h⟩))
  have HG9 := qH (HGr.out HC.out j k s8 htj hk hat w3 H3.out.1)
  clear htj hk hat hta hfa
  by_cases hb0 : n = 0
  ·subst hb0
   have HL0 := qH (List.eq_nil_of_length_eq_zero HN.out.2.2.1.symm)
   go_wp2_with fail
   go_ret2
   exact HW.out _ _ H3.out.1 (.inl ⟨HL0.out, rfl⟩)
  have HL0 := qH (show ls ≠ [] from fun e => hb0 (by rw [HN.out.2.2.1, e]; rfl))
  have hn0 : ((n : Int) == 0) = false := by simp; omega
  clear hb0
  cases o with
  | none =>
   have hnn : (binOp .eql 45 (.pointer none) (.pointer none)).run Tryz.prog w3 = .ok (.bool true) w3 := by kernel_rfl
   go_wp2_with fail
   go_ret2
   exact HW.out _ _ H3.out.1 (.inr (.inl ⟨HL0.out, rfl, rfl⟩))
  | some ob =>
   go_wp2_with fail
   clear s0 s1 s2
   refine HG9.out.mono ?_
   rintro e w9 ⟨v9, rfl, hk9, lo, bl, mr, lv, bs, ra, rfl, hG, hlo, hbl, hmr⟩
   have H9 := qH (show Ext w w9 /\ Blk w9 gb [.string p, .slice ha hn hcap, .slice ba n bcap] 43 from ⟨H3.out.1.trans hk9, H3.out.2.ext hk9⟩)
   obtain ⟨at_, eat⟩ : ∃ x, bI (fun x => decide (x = s8)) (aA ls) = x := ⟨_, rfl⟩
   rw [eat] at hG HW ⊢
   obtain ⟨gs, egs⟩ : ∃ x, bL (aA ls) hs L = x := ⟨_, rfl⟩
   have hgB := aCh (aA ls) hs L
   have hgH := aCg (aA ls) hs L
   have hgn := lM (aA ls) hs L
   rw [egs] at hG hgB hgH hgn
   obtain ⟨fz, efz⟩ : ∃ x, eM k at_.toNat L = x := ⟨_, rfl⟩
   rw [efz]
   obtain ⟨la, lc, elv, _, _⟩ := hG.row.shape
   subst elv
   obtain ⟨gl, egl⟩ : ∃ x, gs.length = x := ⟨_, rfl⟩
   rw [egl] at hG hgn ⊢
   have HP := qH (And.intro egs (And.intro egl (And.intro efz (And.intro hgB (And.intro hgH hgn)))))
   have HG := qH (And.intro hG (And.intro hlo hk9.size))
   clear hG hlo hbl hmr hgB hgH hgn egs egl efz eat hk9
   by_cases hfz : fz = 0
   ·subst hfz
    go_wp2_with fail
    go_loopw [11, 61] (fun av iv wr => aK2 w9 k at_.toNat j gs gl av iv wr) (fun _ iv _ => gl - (intOf iv).toNat)
    case atStart => exact ⟨0, Nat.zero_le _, rfl, rfl, qH (Kp.refl _), qH (OwnRows.nil _ _)⟩
    case round =>
     obtain ⟨i, hi, rfl, hte, hex, hO⟩ := hrel
     by_cases hlt : i < gl
     ·obtain ⟨g, hg⟩ : ∃ g, gs[i]? = some g := ⟨_, qG (by rw [HP.out.2.1]; exact hlt)⟩
      obtain ⟨gr, B⟩ := g
      have hGi := (HG.out.1.ext hex.out)
      have hGA := hGi.grp i _ hg
      have hGR := hGi.rows i _ hg
      have HT := qH (aDd hGA (HN.out.2.2.2.2.1.ext (H9.out.1.trans hex.out)) (by
       have h1 : B.length ≤ L.length := HP.out.2.2.2.1 _ (List.mem_of_getElem? hg)
       exact Nat.le_trans h1 HN.out.2.2.2.2.2))
      obtain ⟨lg, ela, c1⟩ : ∃ g, la = some ⟨g, 0, none⟩ /\ wr.cell? ⟨g, i, none⟩ = some (fO (bs i).g) := by
       have hgl : gs.length = gl := HP.out.2.1
       obtain ⟨h1, ⟨e, h0⟩ | ⟨g, cap, rest, e, hM, hb, hl, hc, hm⟩⟩ := hGi.row
       ·omega
       ·cases e
        refine ⟨g, rfl, ?_⟩
        rw [hb.cell', List.getElem?_append_left (by unfold mQ; simp; omega)]
        unfold mQ
        rw [List.getElem?_map, List.getElem?_range (by omega)]; rfl
      subst ela
      have rn1 : gr.length + 1 = hn := by
       obtain ⟨V, _, e⟩ := HP.out.2.2.2.2.1 _ (List.mem_of_getElem? hg)
       have e' : gr = aP (aA ls) V hs := e
       rw [e', HN.out.1]
       exact qU HC.out HJ.out.1 HJ.out.2.1 _ _
      have hjn : j < hn := by rw [HN.out.1]; exact (List.getElem?_eq_some_iff.1 HJ.out.1).1
      have hhn16 := HN.out.2.1
      obtain ⟨rn, ern⟩ : ∃ x, gr.length = x := ⟨_, rfl⟩
      have c0 : wr.cell? ⟨(bs i).g, 0, none⟩ = some (.slice (ra i) rn rn) := by rw [hGA.blk.cell', <- ern]; rfl
      have c2 : wr.cell? ⟨(bs i).g, 2, none⟩ = some (xB k (bs i)) := by rw [hGA.blk.cell']; rfl
      have hent := aI4 k
      obtain ⟨tf, etf⟩ : ∃ x, kU k = x := ⟨_, rfl⟩
      obtain ⟨tc, etc⟩ : ∃ x, nI k (bs i) = x := ⟨_, rfl⟩
      rw [etf, etc] at HT
      rw [etf] at hent
      unfold xB at c2
      rw [etf, etc] at c2
      unfold fO at c1
      have HTE := qH (aI6 hte hg)
      obtain ⟨st, est⟩ : ∃ x, (cG k at_.toNat B).1 = x := ⟨_, rfl⟩
      obtain ⟨te, ete⟩ : ∃ x, (cG k at_.toNat B).2 = x := ⟨_, rfl⟩
      have HTE2 := qH (show (te = 0 -> gH k at_.toNat (gs.take (i + 1)) = 0) /\ (te ≠ 0 -> gH k at_.toNat gs = te) from by rw [<- ete]; exact HTE.out)
      rw [est, ete] at HT
      obtain ⟨bg, ebg⟩ : ∃ x, (bs i).g = x := ⟨_, rfl⟩
      rw [ebg] at c1 c0 c2
      have hbg := hGA.blk
      rw [ebg] at hbg
      have HI := qH (And.intro hg (And.intro hGR (And.intro hbg (And.intro ern est))))
      have i1 : (i : Int) < (gl : Int) := by omega
      have hgl16 : gl ≤ 1048576 := by have h1 := HP.out.2.2.2.2.2; have h2 := HN.out.2.2.2.2.2; omega
      obtain ⟨ava, avc, eav, -⟩ := hO.out.shape
      rw [List.length_map, List.length_take, HP.out.2.1, Nat.min_eq_left hi] at eav
      subst eav
      clear hte hg hGi hGA hGR etf etc HTE est ete ebg hbg ern rn1
      go_wp2_with fail
      refine HT.out.mono ?_
      rintro e w4 ⟨v4, rfl, hk4, rfl⟩
      have H4 := qH (hex.out.trans hk4)
      replace c0 := hk4.cell c0 id
      have HX4 := qH hk4
      clear c1 c2 hent hk4
      by_cases hte : te = 0
      ·subst hte
       have hsl : (strs gr).length = rn := by rw [<- HI.out.2.2.2.1]; simp [strs]
       have rn2 : rn + 1 = hn := by
        obtain ⟨V, _, e⟩ := HP.out.2.2.2.2.1 _ (List.mem_of_getElem? HI.out.1)
        have e' : gr = aP (aA ls) V hs := e
        rw [<- HI.out.2.2.2.1, e', HN.out.1]
        exact qU HC.out HJ.out.1 HJ.out.2.1 _ _
       have HIns := qH (uX (xs := strs gr) (ao := ra i) (n := rn) (i := j) (x := .string st) (vb := w4.heap.size) (w := w4.alloc (.cells #[.string st] 9)) hsl.symm (by
        rcases HI.out.2.1 with ⟨e1, e2⟩ | ⟨q, rest, e, hb, _⟩
        ·have e2' : gr = [] := e2
         exact .inl ⟨e1, by rw [e2']; rfl⟩
        ·exact .inr ⟨q, rest, e, (hb.ext HX4.out).alloc _⟩) (by omega) rfl (fun u hu => by
        obtain ⟨s, _, rfl⟩ := List.mem_map.1 hu; rfl) (Blk.new w4 [.string st] 9) (by omega))
       obtain ⟨ps, hps, p2, p3, p4⟩ := hO.out
       have hpl : ps.length = i := by
        have := congrArg List.length hps
        rw [List.length_map, List.length_map, List.length_take, HP.out.2.1, Nat.min_eq_left hi] at this
        exact this.symm
       rw [hpl] at p2
       have HO2 := qH (And.intro hps (And.intro p2 (And.intro p3 (And.intro p4 hpl))))
       have HR2 := qH (And.intro hsl rn2)
       clear hps p2 p3 p4 hpl hO hsl rn2
       go_wp2_with fail
       refine HIns.out.mono ?_
       rintro e w6 ⟨v6, rfl, hk6, hr6⟩
       obtain ⟨xa, xc, ev6, _, _⟩ := hr6.shape
       subst ev6
       have HX6 := qH (And.intro (show Ext w4 w6 from ((Kp.refl w4).alloc _).trans hk6) (And.intro hr6 hk6.size))
       clear hk6 hr6 c0
       go_wp2_with (first | (at_builtin; refine Halted.out ?_))
       refine Halted.mk (kR gE rfl _ _ rfl ((H4.out.trans HX6.out.1).alloc _) rfl ((HO2.out.2.1.ext (HX4.out.trans HX6.out.1)).alloc _) rfl (CellsAt.one w6 _ _) rfl (by simp; rfl) (by omega) (by unfold maxLen; omega) ?_)
       intro v7 w7 hr7 hk7 hk7b _
       obtain ⟨va7, vc7, ev7, _, _⟩ := hr7.shape
       subst ev7
       have HFin := qH (show Ext w9 w7 /\ OwnRows w9.heap.size w7 (.slice va7 (i + 1) vc7) ((gs.take (i + 1)).map (iE k at_.toNat j)) from by
        obtain ⟨hps, p2, p3, p4, hpl⟩ := HO2.out
        have hx6 := HX4.out.trans HX6.out.1
        have hz4 := HX4.out.size
        have hz9 := hex.out.size
        have hx6a : Ext wr (w6.alloc (.cells #[.slice xa (rn + 1) xc] 66)) := hx6.alloc _
        have eins : iE k at_.toNat j (gr, B) = gr.take j ++ st :: gr.drop j := by
         unfold iE; rw [HI.out.2.2.2.2]
        have hlen : (gr.take j ++ st :: gr.drop j).length = rn + 1 := by
         have h1 := HI.out.2.2.2.1
         have h2 := HR2.out.2
         simp; omega
        have hstr : strs (gr.take j ++ st :: gr.drop j) = (strs gr).take j ++ .string st :: (strs gr).drop j := by
         unfold strs
         rw [List.map_append, List.map_cons, List.map_take, List.map_drop]
        have h := OwnRows.push (lo := w9.heap.size) (ps := ps) (w := w6.alloc (.cells #[.slice xa (rn + 1) xc] 66)) (w' := w7) (v := .slice ava i avc) (v' := .slice va7 (i + 1) vc7) (B := (w4.alloc (.cells #[.string st] 9)).heap.size) (x := (xa, rn + 1, xc)) (ss := gr.take j ++ st :: gr.drop j) (by rw [hpl]; exact p2.ext hx6a) (fun p hp => ⟨(p3 p hp).1.ext hx6a, (p3 p hp).2⟩) p4
         (fun p hp g hg => by
          have := (p3 p hp).1.lt g hg
          rw [aK]; omega) (by rw [aK]; omega) (by
          rw [hlen, hstr]
          exact (HX6.out.2.1.ext ((Kp.refl w6).alloc _))) (by rw [hlen]; have := HR2.out.2; omega) (by rw [hpl]; exact hr7) hk7b
        refine ⟨hk7, ?_⟩
        rw [oV HI.out.1, List.map_append, List.map_singleton, eins, hps]
        exact h)
       clear hr7 hk7 hk7b
       go_wp2
       go_roundw
       case rel => exact ⟨i + 1, by omega, by first | rfl | (congr 1; done) | (congr 1; omega), HTE2.out.1 (by first | rfl | trivial), qH HFin.out.1, qH HFin.out.2⟩
       case measure => simp [intOf]; omega
      ·have h0 : ((te : Int) != 0) = true := by simp; omega
       have HF := qH hte
       clear hte
       go_wp2_with fail
       go_ret2
       refine HW.out _ _ (H9.out.1.trans H4.out) (.inr (.inr ⟨HL0.out, rfl, te, [], ?_, .inl ⟨HF.out, rfl⟩⟩))
       unfold pZ
       rw [HP.out.1, HP.out.2.2.1, if_neg (fun h => h rfl), HTE2.out.2 HF.out, if_pos HF.out]
     ·generalize hwA : wr = wA at *; clear hwA
      obtain rfl : i = gl := by omega
      have htk : gs.take i = gs := List.take_of_length_le (by rw [HP.out.2.1]; exact Nat.le_refl _)
      rw [htk] at hte hO
      obtain ⟨aa, ac, eav, rs, hLL, hca, hab, hrs⟩ := hO.out.shape
      rw [List.length_map, HP.out.2.1] at eav
      subst eav
      have hrl : rs.length = i := by
       have := congrArg List.length hLL
       rw [List.length_map, List.length_map, HP.out.2.1] at this
       exact this.symm
      have hB' := H9.out.2.ext hex.out
      have s1 : wA.cell? ⟨gb, 1, none⟩ = some (.slice ha hn hcap) := by rw [hB'.cell']; rfl
      have h64 : hn ≤ 64 := by rw [HN.out.1]; exact aKb HC.out
      have hi16 : i ≤ 1048576 := by have h1 := HP.out.2.2.2.2.2; have h2 := HN.out.2.2.2.2.2; omega
      have HNR := qH (gM (fun _ => False) wA hn h64 (fun k h => h.elim))
      have HRs := qH (And.intro hLL (And.intro hca (And.intro hrs (And.intro hrl hte))))
      clear hte hO htk hLL hca hab hrs hrl hB' hlt hi
      go_wp2_with fail
      refine HNR.out.mono ?_
      rintro e w12 ⟨v12, rfl, hk12, rfl, hr12⟩
      obtain ⟨rb, erb⟩ : ∃ x, wA.heap.size = x := ⟨_, rfl⟩
      rw [erb] at hr12 ⊢
      have H12 := qH (And.intro hk12 (And.intro hr12 erb))
      clear s1 hk12 hr12 erb
      go_wp2_with fail
      go_loopw [98] (fun iv wr => AddTo w9 w12 rb hn (gs.map (iE k at_.toNat j)) i iv wr) (fun iv _ => i - (intOf iv).toNat)
      case atStart => exact ⟨0, Nat.zero_le _, rfl, rfl, qH (Kp.refl _), fun _ => False, .slice none 0 0, qH ⟨H12.out.2.1, fun q h => h.elim, fun q h => by cases h⟩⟩
      case round =>
       obtain ⟨q, hq, rfl, hz, hkp, S9, v9, hR⟩ := hrel
       have hxw : Ext w wr := (H9.out.1.trans (hex.out.trans H12.out.1)).trans' hkp.out fun i hi e => by
        have e' : i = rb := e
        have h1 := (H9.out.1.trans hex.out).size
        have := H12.out.2.2; omega
       by_cases hlt : q < i
       ·obtain ⟨⟨⟨xa, xn, xc⟩, ss⟩, hp⟩ : ∃ p, rs[q]? = some p := ⟨_, qG (by rw [HRs.out.2.2.2.1]; exact hlt)⟩
        have hLq : (gs.map (iE k at_.toNat j))[q]? = some ss := by rw [HRs.out.1, List.getElem?_map, hp]; rfl
        obtain ⟨ab, ao, eaa, c0⟩ := HRs.out.2.1 q _ (qM rs q _ hp)
        subst eaa
        have hab : ab < wA.heap.size := World.block_lt_of_cell? _ _ c0
        have herb := H12.out.2.2
        replace c0 := hkp.out.cell (H12.out.1.cell c0 id) (fun e => by have e' : ab = rb := e; omega)
        obtain ⟨hr1, hr2, hr3⟩ := HRs.out.2.2.1 _ (List.mem_of_getElem? hp)
        have hro : ∀ a, xa = some a -> a.block < wA.heap.size := fun a e => (hr3 a e).2
        have hs12 := H12.out.1.size
        have hskp := hkp.out.size
        have hxn : xn = ss.length := hr1.1
        have hAdd := qL (z := False) (hR.out.1.q) (iU hn ((gs.map (iE k at_.toNat j)).take q) [] List.Pairwise.nil) (ao := xa) (n := xn) (cap := xc) (ss := ss) ⟨⟨hxn, (hr1.2.ext H12.out.1).kp hkp.out fun a e f => by
         have h1 := hro a e
         have f' : a.block = rb := f
         omega⟩, hr2, fun a e _ => by
         have h1 := hro a e
         omega⟩ (fun a e _ ho => by
         have h1 := hro a e
         rcases ho with ho | ho
         ·have ho' : a.block = rb := ho
          omega
         ·have h2 := hR.out.2.2 _ ho
          omega) (by have := gK hn ((gs.map (iE k at_.toNat j)).take q) [] (Nat.zero_le _); omega)
        obtain ⟨RL, eRL⟩ : ∃ x, (aR hn [] ((gs.map (iE k at_.toNat j)).take q)).2 = x := ⟨_, rfl⟩
        rw [eRL] at hAdd
        obtain ⟨er, eer⟩ : ∃ er, (aJ hn RL ss).2 = er := ⟨_, rfl⟩
        have HAdd := qH hAdd
        have HQ := qH (And.intro hLq (And.intro eRL (And.intro eer (And.intro hz hR.out))))
        have q1 : (q : Int) < (i : Int) := by omega
        have HX := qH (And.intro hxw (And.intro hkp.out herb))
        clear hLq hp hab hr1 hr2 hr3 hro hs12 hskp hxn hAdd eRL hz hR hxw hkp herb
        go_wp2_with fail
        refine HAdd.out.mono ?_
        rintro e w14 ⟨v14, rfl, hk14, ev14, S', iv', -, g2, g3, g4⟩
        subst ev14
        rw [eer]
        obtain ⟨fr, efr⟩ : ∃ x, (aJ hn RL ss).1 = x := ⟨_, rfl⟩
        rw [efr]
        have HK := qH (show Ext w w14 /\ Kp (fun q => q = rb) w12 w14 /\ RowsAt S' w14 rb iv' hn (aV hn RL ss) /\ (∀ q, S' q -> w12.heap.size ≤ q) /\ ∀ q, iv'.ownBlock = some q -> w12.heap.size ≤ q from by
         obtain ⟨hLq, eRL, eer, hz, hRt, hS, hv⟩ := HQ.out
         obtain ⟨hxw, hkp, herb⟩ := HX.out
         have hs12 := H12.out.1.size
         have hskp := hkp.size
         have hwA := (H9.out.1.trans hex.out).size
         refine ⟨hxw.trans' hk14 fun i hi f => ?_, hkp.trans' hk14 fun i hi f => ?_, ?_, fun q h => ?_, fun q h => ?_⟩
         ·rcases f with f | f
          ·have f' : i = rb := f
           omega
          ·have := hv _ f; omega
         ·rcases f with f | f
          ·exact f
          ·have := hv _ f; omega
         ·rcases g3 with g3 | g3
          ·exact g3
          ·exact g3.1.elim
         ·rcases g2 q h with h | h
          ·exact hS q h
          ·omega
         ·rcases g4 q h with h | h
          ·exact hv q h
          ·omega)
        clear g2 g3 g4 hk14 eer efr c0
        by_cases h0 : er = 0
        ·have HF := qH h0
         subst h0
         go_wp2
         go_roundw
         case rel =>
          obtain ⟨hLq, eRL, eer, hz, hRt, hS, hv⟩ := HQ.out
          have e2 : aR hn [] ((gs.map (iE k at_.toNat j)).take (q + 1)) = (0, aV hn RL ss) := by
           rw [oV hLq, lE hz (by rw [eRL]; exact eer), eRL]
          exact ⟨q + 1, by omega, by first | rfl | (congr 1; done) | (congr 1; omega), by rw [e2], qH HK.out.2.1, S', iv', qH (by rw [e2]; exact HK.out.2.2)⟩
         case measure => simp [intOf]; omega
        ·have he0 : ((er : Int) != 0) = true := by simp; omega
         have HF := qH h0
         clear h0
         go_wp2_with fail
         go_ret2
         obtain ⟨hLq, eRL, eer, hz, hRt, hS, hv⟩ := HQ.out
         have e2 : aR hn [] (gs.map (iE k at_.toNat j)) = (er, RL) := by
          have e3 : gs.map (iE k at_.toNat j) = (gs.map (iE k at_.toNat j)).take (q + 1) ++ (gs.map (iE k at_.toNat j)).drop (q + 1) := (List.take_append_drop _ _).symm
          have e4 : aR hn [] ((gs.map (iE k at_.toNat j)).take (q + 1)) = (er, RL) := by
           rw [oV hLq, mK hz (by rw [eRL, eer]; exact HF.out), eRL, eer]
          rw [e3, pD hn _ _ _ (by rw [e4]; exact HF.out), e4]
         refine HW.out _ _ HK.out.1 (.inr (.inr ⟨HL0.out, rfl, er, RL, ?_, .inl ⟨HF.out, rfl⟩⟩))
         unfold pZ
         rw [HP.out.1, HP.out.2.2.1, if_neg (fun h => h rfl), HRs.out.2.2.2.2, if_neg (fun h => h rfl), <- HN.out.1]
         exact e2
       ·obtain rfl : q = i := by omega
        have htk : (gs.map (iE k at_.toNat j)).take q = gs.map (iE k at_.toNat j) := List.take_of_length_le (by rw [List.length_map, HP.out.2.1]; exact Nat.le_refl _)
        rw [htk] at hz hR
        have HX := qH (And.intro hxw (And.intro hz hR.out))
        clear htk hz hR hkp hxw
        go_wp2_with fail
        go_ret2
        obtain ⟨hxw, hz, hRt, hS, hv⟩ := HX.out
        have hs12 := H12.out.1.size
        have hwA := (H9.out.1.trans hex.out).size
        have herb := H12.out.2.2
        refine HW.out _ _ hxw (.inr (.inr ⟨HL0.out, rfl, 0, (aR hn [] (gs.map (iE k at_.toNat j))).2, ?_, .inr ⟨rfl, rb, v9, S9, rfl, by rw [<- HN.out.1]; exact hRt, by omega, fun q h => by have := hS q h; omega, fun q h => by have := hv q h; omega⟩⟩))
        unfold pZ
        rw [HP.out.1, HP.out.2.2.1, if_neg (fun h => h rfl), HRs.out.2.2.2.2, if_neg (fun h => h rfl), <- HN.out.1]
        exact Prod.ext hz rfl
   ·have h0 : ((fz : Int) != 0) = true := by simp; omega
    have HF := qH hfz
    clear hfz
    go_wp2_with fail
    go_ret2
    exact HW.out _ _ H9.out.1 (.inr (.inr ⟨HL0.out, rfl, fz, [], by unfold pZ; rw [HP.out.2.2.1, if_pos HF.out], .inl ⟨HF.out, rfl⟩⟩))
 ·have h0 : ((cR : Int) != 0) = true := by simp; omega
  have HCR := qH hc
  clear hc
  go_wp2_with fail
  go_ret2
  exact RetN.mk H2.out.1 (.inl ⟨by rw [HC.out]; exact HCR.out, by rw [HC.out]; rfl⟩)
def wF : List aE -> Nat -> Option (Nat × Int × ByteArray)
 | [], _ => none
 | t :: ts, i => if 4 ≤ t.1 then some (i, t.1, t.2.1) else wF ts (i + 1)
theorem yS : ∀ {ts : List aE} {i : Nat}, (ts.any fun t => decide (4 ≤ t.1)) = false -> wF ts i = none
 | [], _, _ => rfl
 | t :: ts, i, h => by
  rw [List.any_cons, Bool.or_eq_false_iff] at h
  unfold wF
  rw [if_neg (of_decide_eq_false h.1)]
  exact yS h.2
theorem yR : ∀ {ts : List aE} {i j : Nat} {k : Int} {s : ByteArray}, ts[j]? = some (k, s, ()) -> 4 ≤ k -> (∀ l t, ts[l]? = some t -> 4 ≤ t.1 -> l = j) -> wF ts i = some (i + j, k, s)
 | [], i, j, k, s, h, _, _ => by cases h
 | t :: ts, i, j, k, s, h, hk, hu => by
  unfold wF
  match j, h with
  | 0, h => cases h; rw [if_pos hk]; rfl
  | j + 1, h =>
   rw [if_neg (fun h4 => by have := hu 0 t rfl h4; omega), yR (i := i + 1) (j := j) h hk (fun l u hl h4 => by have := hu (l + 1) u hl h4; omega)]
   rw [Nat.add_assoc, Nat.add_comm 1]
theorem wE : ∀ {ts : List aE}, pY ts < 2 -> ∀ {i j : Nat} {t u : aE}, ts[i]? = some t -> ts[j]? = some u -> 4 ≤ t.1 -> 4 ≤ u.1 -> i = j
 | [], _, i, j, t, u, hi, _, _, _ => by cases hi
 | x :: ts, h, i, j, t, u, hi, hj, h4, h5 => by
  unfold pY at h
  rw [List.countP_cons] at h
  have key : ∀ {k : Nat} {s : aE}, ts[k]? = some s -> 4 ≤ s.1 -> 4 ≤ x.1 -> False := fun {k s} hs h6 h7 => by
   have h1 : 0 < ts.countP fun t => decide (4 ≤ t.1) := List.countP_pos_iff.2 ⟨s, List.mem_of_getElem? hs, by simpa using h6⟩
   rw [if_pos (by simpa using h7)] at h
   omega
  match i, j, hi, hj with
  | 0, 0, _, _ => rfl
  | 0, j + 1, hi, hj => cases hi; exact (key hj h5 h4).elim
  | i + 1, 0, hi, hj => cases hj; exact (key hi h4 h5).elim
  | i + 1, j + 1, hi, hj =>
   rw [wE (ts := ts) (by unfold pY; omega) hi hj h4 h5]
def cI (r : bM) (nb : Bool) (L : aC) : Nat × aC :=
 if aO r ≠ 0 then (aO r, []) else
 match wF r.1.2.1 0 with
 | none => if nb = true then (1, []) else aR r.1.2.1.length [] (L.map fun V => aP (aA r.2.1) V r.1.2.1)
 | some (j, k, s8) => if r.2.1 = [] then (111, []) else if nb = true then (1, []) else pZ (aA r.2.1) r.1.2.1 k (bI (fun x => decide (x = s8)) (aA r.2.1)).toNat j L
def FactsR (e m : Nat) (A : aC) (w w' : World) (v : Value) : Prop := (e ≠ 0 /\ v = .tuple #[.pointer none, .int .i64 (e : Nat)]) \/ (e = 0 /\ ∃ rb iv S, v = .tuple #[.pointer (some ⟨rb, 0, none⟩), .int .i64 0] /\ RowsAt S w' rb iv m A /\ w.heap.size ≤ rb /\ (∀ k, S k -> w.heap.size ≤ k) /\ ∀ k, iv.ownBlock = some k -> w.heap.size ≤ k)
theorem AggOut.to {r : bM} {nb : Bool} {L : aC} {w w' : World} {v : Value} (h : AggOut r nb L w w' v) : FactsR (cI r nb L).1 r.1.2.1.length (cI r nb L).2 w w' v := by
 unfold cI
 rcases h with ⟨hc, rfl⟩ | ⟨hc, j, k, s8, hj, hk, h⟩
 ·rw [if_pos hc]; exact .inl ⟨hc, rfl⟩
 ·rw [if_neg (fun h => h hc), yR (i := 0) hj hk.1 (fun l t hl h4 => wE (lL hc).2 hl hj h4 hk.1), Nat.zero_add]
  show FactsR (if _ then _ else _ : Nat × aC).1 _ (if _ then _ else _ : Nat × aC).2 _ _ _
  rcases h with ⟨h0, rfl⟩ | ⟨h0, h1, rfl⟩ | ⟨h0, h1, e, A, hM, h⟩
  ·rw [if_pos h0]; exact .inl ⟨by decide, rfl⟩
  ·rw [if_neg h0, if_pos h1]; exact .inl ⟨by decide, rfl⟩
  ·rw [if_neg h0, if_neg (by rw [h1]; decide), hM]; exact h
theorem FactsOut.to {r : bM} {nb : Bool} {L : aC} {w w' : World} {v : Value} (h : FactsOut r nb L w w' v) (hag : (r.1.2.1.any fun t => decide (4 ≤ t.1)) = false) : FactsR (cI r nb L).1 r.1.2.1.length (cI r nb L).2 w w' v := by
 unfold cI
 rw [yS hag]
 rcases h with ⟨hc, rfl⟩ | ⟨_, h, _⟩ | ⟨hc, _, h1, rfl⟩ | ⟨hc, _, h1, e, A, hM, h⟩
 ·rw [if_pos hc]; exact .inl ⟨hc, rfl⟩
 ·rw [hag] at h; cases h
 ·rw [if_neg (fun h => h hc)]
  show FactsR (if _ then _ else _ : Nat × aC).1 _ (if _ then _ else _ : Nat × aC).2 _ _ _
  rw [if_pos h1]; exact .inl ⟨by decide, rfl⟩
 ·rw [if_neg (fun h => h hc)]
  show FactsR (if _ then _ else _ : Nat × aC).1 _ (if _ then _ else _ : Nat × aC).2 _ _ _
  rw [if_neg (by rw [h1]; decide), hM]; exact h
theorem FactsR.older {e m : Nat} {A : aC} {w w1 w' : World} {v : Value} (h : FactsR e m A w1 w' v) (hs : w.heap.size ≤ w1.heap.size) : FactsR e m A w w' v := by
 rcases h with h | ⟨h, rb, iv, S, ev, h1, h2, h3, h4⟩
 ·exact .inl h
 ·exact .inr ⟨h, rb, iv, S, ev, h1, Nat.le_trans hs h2, fun k hk => Nat.le_trans hs (h3 k hk), fun k hk => Nat.le_trans hs (h4 k hk)⟩
theorem FactsR.two {e m : Nat} {A : aC} {w w' : World} {v : Value} (h : FactsR e m A w w' v) : ∃ x y, v = .tuple #[x, y] := by
 rcases h with ⟨_, h⟩ | ⟨_, rb, iv, S, h, _⟩
 ·exact ⟨_, _, h⟩
 ·exact ⟨_, _, h⟩
set_option maxHeartbeats 4000000 in
theorem aFu {S : Nat -> Prop} {w : World} {p : ByteArray} {hs : List aE} {ls : List aM} {ha ba : Option Addr} {hn hcap n bcap : Nat} {G : Nat -> Prop} {o : Option Addr} {E : List Ent} {L : aC} (hhn : hn = hs.length) (hh : bD w G ha hs) (hhl : hn ≤ 1048576) (hbn : n = ls.length) (h : cF w G ba ls) (hf : Fit ls) (hnv : (aA ls).length ≤ 1048576) (hn16 : n ≤ 1048576)
 (hB : BaseV S w (.pointer o) E) (hL : jX ((p, hs, ()), ls, ()) (cH (wP ls E) ls) L) (hN : NumW w) (hsz : (hs.any fun t => decide (4 ≤ t.1)) = true -> L.length ≤ 1048576 /\ (∀ V ∈ L, ∀ s ∈ V, s.size ≤ 1048576) /\ ∀ V ∈ L, ∀ s ∈ aP (aA ls) V hs, s.size ≤ 1048576) :
 Calls Tryz.prog 33 #[dN p ha hn hcap ba n bcap, .pointer o] w (RetN w fun w' v => FactsR (cI ((p, hs, ()), ls, ()) o.isNone L).1 hs.length (cI ((p, hs, ()), ls, ()) o.isNone L).2 w w' v) := by
 cases hag : (hs.any fun t => decide (4 ≤ t.1)) with
 | true =>
  obtain ⟨z1, z2, z3⟩ := hsz hag
  refine (aAl (hcap := hcap) (bcap := bcap) (p := p) hhn hh hhl hbn h hf hnv hn16 hB hL hag hN z1 z2 z3).mono ?_
  rintro e w' ⟨v, rfl, hk, hO⟩
  exact RetN.mk hk hO.to
 | false =>
 clear hsz
 have HCh := qH (fun W (hW : Ext w W) => iM p hs ls ha hn hcap ba n bcap W G hhn (hh.ext hW) (by omega) hbn (h.ext hW) hf)
 have HOf := qH (fun W (hW : Ext w W) => yT p hs ha hn hcap W G hhn (hh.ext hW) (by omega))
 have HFa := qH (fun W (hW : Ext w W) => aH3 (hcap := hcap) (bcap := bcap) (p := p) hhn (hh.ext hW) hhl hbn (h.ext hW) hf hnv hn16 (hB.ext hW) hL)
 obtain ⟨cR, ecR⟩ : ∃ c, aO ((p, hs, ()), ls, ()) = c := ⟨_, rfl⟩
 rw [ecR] at HCh
 have HC := qH (And.intro ecR hag)
 obtain ⟨gb, egb⟩ : ∃ g, w.heap.size = g := ⟨_, rfl⟩
 obtain ⟨w1, e1⟩ : ∃ x, w.alloc (.cells #[.string p, .slice ha hn hcap, .slice ba n bcap] 43) = x := ⟨_, rfl⟩
 have x1 : Ext w w1 := by rw [<- e1]; exact (Kp.refl w).alloc _
 have hB1 : Blk w1 gb [.string p, .slice ha hn hcap, .slice ba n bcap] 43 := by rw [<- e1, <- egb]; exact Blk.new w _ _
 have H1 := qH (And.intro x1 hB1)
 have r0 : w1.cell? ⟨gb, 0, none⟩ = some (.string p) := by rw [hB1.cell']; rfl
 have r1 : w1.cell? ⟨gb, 1, none⟩ = some (.slice ha hn hcap) := by rw [hB1.cell']; rfl
 have r2 : w1.cell? ⟨gb, 2, none⟩ = some (.slice ba n bcap) := by rw [hB1.cell']; rfl
 clear hhn hh hhl hbn h hf hnv hn16 hB hL hag hN ecR x1 hB1
 go_enter Tryz.func33, Tryz.ntmps33
 go_wp2_with fail
 clear e1
 refine (HCh.out w1 H1.out.1).mono ?_
 rintro e w2 ⟨v2, rfl, hk2, rfl⟩
 have H2 := qH (And.intro (H1.out.1.trans hk2) (H1.out.2.ext hk2))
 have q0 : w2.cell? ⟨gb, 0, none⟩ = some (.string p) := by rw [H2.out.2.cell']; rfl
 have q1 : w2.cell? ⟨gb, 1, none⟩ = some (.slice ha hn hcap) := by rw [H2.out.2.cell']; rfl
 clear hk2 r0 r1 r2
 by_cases hc : cR = 0
 ·subst hc
  go_wp2_with fail
  refine (HOf.out w2 H2.out.1).mono ?_
  rintro e w3 ⟨v3, rfl, hk3, j, b, rfl, hfa⟩
  have hb : b = false := by
   rcases hfa with ⟨_, t, h1, h2, _⟩ | ⟨h, _⟩
   ·have h3 := List.any_eq_false.1 HC.out.2 t (List.mem_of_getElem? h1)
    exact absurd (of_decide_eq_true h2).1 (fun h4 => h3 (decide_eq_true h4))
   ·exact h
  subst hb
  have H3 := qH (And.intro (H2.out.1.trans hk3) (H2.out.2.ext hk3))
  have s0 : w3.cell? ⟨gb, 0, none⟩ = some (.string p) := by rw [H3.out.2.cell']; rfl
  have s1 : w3.cell? ⟨gb, 1, none⟩ = some (.slice ha hn hcap) := by rw [H3.out.2.cell']; rfl
  have s2 : w3.cell? ⟨gb, 2, none⟩ = some (.slice ba n bcap) := by rw [H3.out.2.cell']; rfl
  clear hk3 q0 q1 hfa
  go_wp2_with fail
  refine (HFa.out w3 H3.out.1).mono ?_
  rintro e w4 ⟨v4, rfl, hk4, hO⟩
  have HO := qH (And.intro (H3.out.1.trans hk4) ((FactsOut.to hO HC.out.2).older (w := w) H3.out.1.size))
  obtain ⟨x4, y4, rfl⟩ := HO.out.2.two
  clear hk4 hO s0 s1 s2
  go_wp2
  go_ret2
  exact RetN.mk HO.out.1 HO.out.2
 ·have h0 : ((cR : Int) != 0) = true := by simp; omega
  have HF := qH hc
  clear hc
  go_wp2_with fail
  go_ret2
  refine RetN.mk H2.out.1 ?_
  have e : (cI ((p, hs, ()), ls, ()) o.isNone L) = (cR, []) := by
   unfold cI
   rw [HC.out.1, if_pos HF.out]
  rw [e]
  exact .inl ⟨HF.out, rfl⟩
theorem nP (k : Int) (w : World) : Calls Tryz.prog 19 #[.int .i64 k] w (RetN w fun w' u => u = .int .i64 k) := by
 go_enter Tryz.func19, Tryz.ntmps19
 go_wp2
 go_ret
 exact RetN.mk (Kp.refl _) rfl
theorem zE (s : ByteArray) (w : World) : Calls Tryz.prog 25 #[.string s] w (RetN w fun w' u => u = .agg #[.int .i64 1, .string s]) := by
 obtain ⟨g0, eg0⟩ : ∃ g, w.heap.size = g := ⟨_, rfl⟩
 obtain ⟨wb, eb⟩ : ∃ wb, (w.alloc (.cells #[.int .i64 0, .string ⟨#[]⟩] 58)) = wb := ⟨_, rfl⟩
 have hB : Blk wb (g0) [.int .i64 0, .string ⟨#[]⟩] 58 := by rw [<- eb, <- eg0]; exact Blk.new w _ _
 have HX := qH (show Ext w wb by rw [<- eb]; exact ((Kp.refl w).alloc _))
 have HB := qH (And.intro hB eg0)
 have f0 := hB.free 0
 have u0 : wb.cell? ⟨g0, 0, none⟩ = some (.int .i64 0) := by rw [hB.cell']; rfl
 have f1 := hB.free 1
 have u1 : wb.cell? ⟨g0, 1, none⟩ = some (.string ⟨#[]⟩) := by rw [hB.cell']; rfl
 clear hB
 go_enter Tryz.func25, Tryz.ntmps25
 go_wp2
 obtain ⟨W, eW⟩ : ∃ x, ((wb.setCell ⟨g0, 0, none⟩ (.int .i64 1)).setCell ⟨g0, 1, none⟩ (.string s)) = x := ⟨_, rfl⟩
 have hBW : Blk W (g0) [.int .i64 1, .string s] 58 := by rw [<- eW]; exact ((HB.out.1.set 0 _).set 1 _)
 have kW : Kp (fun k => k = g0) wb W := by rw [<- eW]; exact (Kp.setCell (F := fun k => k = g0) (p := ⟨g0, 1, none⟩) (Kp.setCell (F := fun k => k = g0) (p := ⟨g0, 0, none⟩) (Kp.refl wb) (fun _ => rfl) _) (fun _ => rfl) _)
 have d0 : W.cell? ⟨g0, 0, none⟩ = some (.int .i64 1) := by rw [hBW.cell']; rfl
 have d1 : W.cell? ⟨g0, 1, none⟩ = some (.string s) := by rw [hBW.cell']; rfl
 rw [eW]
 refine bodyPost_ret (v := .agg #[.int .i64 1, .string s]) (by simp [results, Tryz.results25, go_sem, d0, d1]) rfl ?_
 exact RetN.mk (HX.out.trans' kW fun i hi e => by have := HB.out.2; omega) rfl
theorem aG9 (p : ByteArray) (a : Option Addr) (n c : Nat) (w : World) : Calls Tryz.prog 24 #[.string p, .slice a n c] w (RetN w fun w' u => u = .agg #[.int .i64 1, .string p, .slice a n c, .int .i64 0, .int .i64 0, .string ⟨#[]⟩, .int .i64 0, .string ⟨#[]⟩]) := by
 obtain ⟨g0, eg0⟩ : ∃ g, w.heap.size = g := ⟨_, rfl⟩
 obtain ⟨wb, eb⟩ : ∃ wb, (w.alloc (.cells #[.int .i64 0, .string ⟨#[]⟩, .slice none 0 0, .int .i64 0, .int .i64 0, .string ⟨#[]⟩, .int .i64 0, .string ⟨#[]⟩] 60)) = wb := ⟨_, rfl⟩
 have hB : Blk wb (g0) [.int .i64 0, .string ⟨#[]⟩, .slice none 0 0, .int .i64 0, .int .i64 0, .string ⟨#[]⟩, .int .i64 0, .string ⟨#[]⟩] 60 := by rw [<- eb, <- eg0]; exact Blk.new w _ _
 have HX := qH (show Ext w wb by rw [<- eb]; exact ((Kp.refl w).alloc _))
 have HB := qH (And.intro hB eg0)
 have f0 := hB.free 0
 have u0 : wb.cell? ⟨g0, 0, none⟩ = some (.int .i64 0) := by rw [hB.cell']; rfl
 have f1 := hB.free 1
 have u1 : wb.cell? ⟨g0, 1, none⟩ = some (.string ⟨#[]⟩) := by rw [hB.cell']; rfl
 have f2 := hB.free 2
 have u2 : wb.cell? ⟨g0, 2, none⟩ = some (.slice none 0 0) := by rw [hB.cell']; rfl
 have f3 := hB.free 3
 have u3 : wb.cell? ⟨g0, 3, none⟩ = some (.int .i64 0) := by rw [hB.cell']; rfl
 have f4 := hB.free 4
 have u4 : wb.cell? ⟨g0, 4, none⟩ = some (.int .i64 0) := by rw [hB.cell']; rfl
 have f5 := hB.free 5
 have u5 : wb.cell? ⟨g0, 5, none⟩ = some (.string ⟨#[]⟩) := by rw [hB.cell']; rfl
 have f6 := hB.free 6
 have u6 : wb.cell? ⟨g0, 6, none⟩ = some (.int .i64 0) := by rw [hB.cell']; rfl
 have f7 := hB.free 7
 have u7 : wb.cell? ⟨g0, 7, none⟩ = some (.string ⟨#[]⟩) := by rw [hB.cell']; rfl
 clear hB
 go_enter Tryz.func24, Tryz.ntmps24
 go_wp2
 obtain ⟨W, eW⟩ : ∃ x, ((((((((wb.setCell ⟨g0, 0, none⟩ (.int .i64 1)).setCell ⟨g0, 1, none⟩ (.string p)).setCell ⟨g0, 2, none⟩ (.slice a n c)).setCell ⟨g0, 3, none⟩ (.int .i64 0)).setCell ⟨g0, 4, none⟩ (.int .i64 0)).setCell ⟨g0, 5, none⟩ (.string ⟨#[]⟩)).setCell ⟨g0, 6, none⟩ (.int .i64 0)).setCell ⟨g0, 7, none⟩ (.string ⟨#[]⟩)) = x := ⟨_, rfl⟩
 have hBW : Blk W (g0) [.int .i64 1, .string p, .slice a n c, .int .i64 0, .int .i64 0, .string ⟨#[]⟩, .int .i64 0, .string ⟨#[]⟩] 60 := by rw [<- eW]; exact ((((((((HB.out.1.set 0 _).set 1 _).set 2 _).set 3 _).set 4 _).set 5 _).set 6 _).set 7 _)
 have kW : Kp (fun k => k = g0) wb W := by rw [<- eW]; exact (Kp.setCell (F := fun k => k = g0) (p := ⟨g0, 7, none⟩) (Kp.setCell (F := fun k => k = g0) (p := ⟨g0, 6, none⟩) (Kp.setCell (F := fun k => k = g0) (p := ⟨g0, 5, none⟩) (Kp.setCell (F := fun k => k = g0) (p := ⟨g0, 4, none⟩) (Kp.setCell (F := fun k => k = g0) (p := ⟨g0, 3, none⟩) (Kp.setCell (F := fun k => k = g0) (p := ⟨g0, 2, none⟩) (Kp.setCell (F := fun k => k = g0) (p := ⟨g0, 1, none⟩) (Kp.setCell (F := fun k => k = g0) (p := ⟨g0, 0, none⟩) (Kp.refl wb) (fun _ => rfl) _) (fun _ => rfl) _) (fun _ => rfl) _) (fun _ => rfl) _) (fun _ => rfl) _) (fun _ => rfl) _) (fun _ => rfl) _) (fun _ => rfl) _)
 have d0 : W.cell? ⟨g0, 0, none⟩ = some (.int .i64 1) := by rw [hBW.cell']; rfl
 have d1 : W.cell? ⟨g0, 1, none⟩ = some (.string p) := by rw [hBW.cell']; rfl
 have d2 : W.cell? ⟨g0, 2, none⟩ = some (.slice a n c) := by rw [hBW.cell']; rfl
 have d3 : W.cell? ⟨g0, 3, none⟩ = some (.int .i64 0) := by rw [hBW.cell']; rfl
 have d4 : W.cell? ⟨g0, 4, none⟩ = some (.int .i64 0) := by rw [hBW.cell']; rfl
 have d5 : W.cell? ⟨g0, 5, none⟩ = some (.string ⟨#[]⟩) := by rw [hBW.cell']; rfl
 have d6 : W.cell? ⟨g0, 6, none⟩ = some (.int .i64 0) := by rw [hBW.cell']; rfl
 have d7 : W.cell? ⟨g0, 7, none⟩ = some (.string ⟨#[]⟩) := by rw [hBW.cell']; rfl
 rw [eW]
 refine bodyPost_ret (v := .agg #[.int .i64 1, .string p, .slice a n c, .int .i64 0, .int .i64 0, .string ⟨#[]⟩, .int .i64 0, .string ⟨#[]⟩]) (by simp [results, Tryz.results24, go_sem, d0, d1, d2, d3, d4, d5, d6, d7]) rfl ?_
 exact RetN.mk (HX.out.trans' kW fun i hi e => by have := HB.out.2; omega) rfl
theorem aD2 (ha ba : Option Addr) (hn hc n c : Nat) (w : World) : Calls Tryz.prog 28 #[.slice ha hn hc, .slice ba n c] w (RetN w fun w' u => u = dN ⟨#[116]⟩ ha hn hc ba n c) := by
 obtain ⟨g0, eg0⟩ : ∃ g, w.heap.size = g := ⟨_, rfl⟩
 obtain ⟨wb, eb⟩ : ∃ wb, (w.alloc (.cells #[.string ⟨#[]⟩, .slice none 0 0, .slice none 0 0] 43)) = wb := ⟨_, rfl⟩
 have hB : Blk wb (g0) [.string ⟨#[]⟩, .slice none 0 0, .slice none 0 0] 43 := by rw [<- eb, <- eg0]; exact Blk.new w _ _
 have HX := qH (show Ext w wb by rw [<- eb]; exact ((Kp.refl w).alloc _))
 have HB := qH (And.intro hB eg0)
 have f0 := hB.free 0
 have u0 : wb.cell? ⟨g0, 0, none⟩ = some (.string ⟨#[]⟩) := by rw [hB.cell']; rfl
 have f1 := hB.free 1
 have u1 : wb.cell? ⟨g0, 1, none⟩ = some (.slice none 0 0) := by rw [hB.cell']; rfl
 have f2 := hB.free 2
 have u2 : wb.cell? ⟨g0, 2, none⟩ = some (.slice none 0 0) := by rw [hB.cell']; rfl
 clear hB
 go_enter Tryz.func28, Tryz.ntmps28
 go_wp2
 obtain ⟨W, eW⟩ : ∃ x, (((wb.setCell ⟨g0, 0, none⟩ (.string ⟨#[116]⟩)).setCell ⟨g0, 1, none⟩ (.slice ha hn hc)).setCell ⟨g0, 2, none⟩ (.slice ba n c)) = x := ⟨_, rfl⟩
 have hBW : Blk W (g0) [.string ⟨#[116]⟩, .slice ha hn hc, .slice ba n c] 43 := by rw [<- eW]; exact (((HB.out.1.set 0 _).set 1 _).set 2 _)
 have kW : Kp (fun k => k = g0) wb W := by rw [<- eW]; exact (Kp.setCell (F := fun k => k = g0) (p := ⟨g0, 2, none⟩) (Kp.setCell (F := fun k => k = g0) (p := ⟨g0, 1, none⟩) (Kp.setCell (F := fun k => k = g0) (p := ⟨g0, 0, none⟩) (Kp.refl wb) (fun _ => rfl) _) (fun _ => rfl) _) (fun _ => rfl) _)
 have d0 : W.cell? ⟨g0, 0, none⟩ = some (.string ⟨#[116]⟩) := by rw [hBW.cell']; rfl
 have d1 : W.cell? ⟨g0, 1, none⟩ = some (.slice ha hn hc) := by rw [hBW.cell']; rfl
 have d2 : W.cell? ⟨g0, 2, none⟩ = some (.slice ba n c) := by rw [hBW.cell']; rfl
 rw [eW]
 refine bodyPost_ret (v := dN ⟨#[116]⟩ ha hn hc ba n c) (by simp [results, Tryz.results28, go_sem, d0, d1, d2]) rfl ?_
 exact RetN.mk (HX.out.trans' kW fun i hi e => by have := HB.out.2; omega) rfl
def aKy (w0 : World) (ss tt : List ByteArray) (n : Nat) (iv : Value) (w : World) : Prop := ∃ i : Nat, i ≤ n /\ iv = .int .i64 i /\ Hid (Ext w0 w) /\ Hid (ss.take i = tt.take i)
set_option maxHeartbeats 1000000 in
theorem aDy (ss tt : List ByteArray) (ao bo : Option Addr) (n m acap bcap : Nat) (w : World) (hn : n = ss.length) (hm : m = tt.length) (ha : CellsAt w ao (strs ss)) (hb : CellsAt w bo (strs tt)) (hl : n ≤ 4611686018427387904) :
 Calls Tryz.prog 59 #[.slice ao n acap, .slice bo m bcap] w (RetN w fun w' v => v = .bool (decide (ss = tt))) := by
 have HN := qH (And.intro hn hm); have HA := qH ha; have HB := qH hb
 clear hn hm ha hb
 by_cases hnm : n = m
 ·subst hnm
  have q1 : ((n : Int) != (n : Int)) = false := by simp
  go_enter Tryz.func59, Tryz.ntmps59
  go_wp2
  go_loopw [5] (fun iv wr => aKy w ss tt n iv wr) (fun iv _ => n - (intOf iv).toNat)
  case atStart => exact ⟨0, Nat.zero_le _, rfl, qH (Kp.refl w), qH rfl⟩
  case round =>
   obtain ⟨i, hi, rfl, hex, heq⟩ := hrel
   by_cases hlt : i < n
   ·obtain ⟨s, hs⟩ : ∃ s, ss[i]? = some s := ⟨_, qG (by rw [<- HN.out.1]; exact hlt)⟩
    obtain ⟨t, ht⟩ : ∃ t, tt[i]? = some t := ⟨_, qG (by rw [<- HN.out.2]; exact hlt)⟩
    obtain ⟨g1, o1, e1, c0⟩ := HA.out i (.string s) (by simp [strs, hs])
    obtain ⟨g2, o2, e2, d0⟩ := HB.out i (.string t) (by simp [strs, ht])
    subst e1 e2
    replace c0 := hex.out.cell c0 id
    replace d0 := hex.out.cell d0 id
    have HST := qH (And.intro hs ht)
    clear hs ht
    by_cases hst : s = t
    ·subst hst
     have q4 := str_eq s
     go_wp2
     go_quiet (fail)
     go_wp2
     go_roundw
     case rel => exact ⟨i + 1, by omega, by first | rfl | (congr 1; done) | (congr 1; omega), qH (hex.out.drewN _), qH (by rw [List.take_add_one, List.take_add_one, HST.out.1, HST.out.2, heq.out])⟩
     case measure => simp [intOf]; omega
    ·have q4 := kY hst
     have HD := qH (show decide (ss = tt) = false from decide_eq_false fun e => hst (by have h := HST.out.1; rw [e, HST.out.2] at h; cases h; rfl))
     clear hst
     go_wp2
     go_quiet (fail)
     go_wp2
     go_ret
     exact RetN.mk (hex.out.drewN _) (by rw [HD.out]; rfl)
   ·obtain rfl : n = i := by omega
    have HD := qH (show decide (ss = tt) = true from decide_eq_true (by
     have h := heq.out
     rw [List.take_of_length_le (by rw [<- HN.out.1]; exact Nat.le_refl _), List.take_of_length_le (by rw [<- HN.out.2]; exact Nat.le_refl _)] at h
     exact h))
    go_wp2
    go_ret
    exact RetN.mk hex.out (by rw [HD.out]; rfl)
 ·have q1 : ((n : Int) != (m : Int)) = true := by simp; omega
  have q2 : ((n : Int) == (m : Int)) = false := by simp; omega
  have HD := qH (show decide (ss = tt) = false from decide_eq_false fun e => hnm (by rw [HN.out.1, HN.out.2, e]))
  clear hnm
  go_enter Tryz.func59, Tryz.ntmps59
  go_wp2
  go_ret
  exact RetN.mk (Kp.refl w) (by rw [HD.out]; rfl)
def aIx (w0 : World) (A B : aC) (n : Nat) (iv : Value) (w : World) : Prop := ∃ i : Nat, i ≤ n /\ iv = .int .i64 i /\ Hid (Ext w0 w) /\ Hid (A.take i = B.take i)
set_option maxHeartbeats 4000000 in
theorem sK {S S' : Nat -> Prop} {A B : aC} {ao bo : Option Addr} {n m acap bcap : Nat} {w : World} (hn : n = A.length) (hm : m = B.length) (ha : RowsIn S w ao A) (hb : RowsIn S' w bo B) (hl : n ≤ 4611686018427387904) :
 Calls Tryz.prog 22 #[.slice ao n acap, .slice bo m bcap] w (RetN w fun w' v => v = .bool (decide (A = B))) := by
 have HN := qH (And.intro hn hm); have HA := qH ha; have HB := qH hb
 clear hn hm ha hb
 by_cases hnm : n = m
 ·subst hnm
  have q1 : ((n : Int) != (n : Int)) = false := by simp
  go_enter Tryz.func22, Tryz.ntmps22
  go_wp2
  go_loopw [5] (fun iv wr => aIx w A B n iv wr) (fun iv _ => n - (intOf iv).toNat)
  case atStart => exact ⟨0, Nat.zero_le _, rfl, qH (Kp.refl w), qH rfl⟩
  case round =>
   obtain ⟨i, hi, rfl, hex, heq⟩ := hrel
   by_cases hlt : i < n
   ·obtain ⟨s, hs⟩ : ∃ s, A[i]? = some s := ⟨_, qG (by rw [<- HN.out.1]; exact hlt)⟩
    obtain ⟨t, ht⟩ : ∃ t, B[i]? = some t := ⟨_, qG (by rw [<- HN.out.2]; exact hlt)⟩
    obtain ⟨g1, o1, x1, c1, e1, d1, hc1, hl1, -⟩ := (HA.out.ext hex.out).get hs
    obtain ⟨g2, o2, x2, c2, e2, d2, hc2, hl2, -⟩ := (HB.out.ext hex.out).get ht
    subst e1 e2
    have HST := qH (And.intro hs ht)
    have HSm := qH (fun W (hW : Ext wr W) => aDy s t x1 x2 s.length t.length c1 c2 W rfl rfl (hc1.ext hW) (hc2.ext hW) (by omega))
    obtain ⟨ns, ens⟩ : ∃ k, s.length = k := ⟨_, rfl⟩
    obtain ⟨nt, ent⟩ : ∃ k, t.length = k := ⟨_, rfl⟩
    rw [ens] at d1 HSm
    rw [ent] at d2 HSm
    have i1 : (i : Int) < (n : Int) := by omega
    have HJ := qH (show ∀ w', Ext wr w' -> (fun w' : World => w'.cell? ⟨g1, o1 + i, none⟩ = some (.slice x1 ns c1) /\ w'.cell? ⟨g2, o2 + i, none⟩ = some (.slice x2 nt c2)) w' from fun w' hw => ⟨hw.cell d1 id, hw.cell d2 id⟩)
    clear hs ht hc1 hc2 hl1 hl2 ens ent d1 d2
    go_wp2
    refine bC (fun w' : World => w'.cell? ⟨g1, o1 + i, none⟩ = some (.slice x1 ns c1) /\ w'.cell? ⟨g2, o2 + i, none⟩ = some (.slice x2 nt c2)) [] (by kernel_rfl) (HJ.out _ (Kp.refl wr).drew) (fun hHeld => ?_)
    refine dF 0 ?_; try simp only [Act.put,sI,sZ,sS]
    refine dF 1 ?_; try simp only [Act.put,sI,sZ,sS]
    refine dI 2 ?_; try simp only [Act.put,sI,sZ,sS]
    refine dI 3 ?_; try simp only [Act.put,sI,sZ,sS]
    refine dF 4 ?_; try simp only [Act.put,sI,sZ,sS]
    refine dF 5 ?_; try simp only [Act.put,sI,sZ,sS]
    refine dI 6 ?_; try simp only [Act.put,sI,sZ,sS]
    refine dI 7 ?_; try simp only [Act.put,sI,sZ,sS]
    refine aF (i := 8) ?_
    refine aG (i := 8) rfl (fun K hK => ?_)
    go_simp
    (refine (HSm.out _ ((Kp.refl wr).drew)).mono ?_; rintro e w5 ⟨v, rfl, hk5, rfl⟩; have X5 := qH (show Ext wr w5 from ((Kp.refl wr).drew).trans hk5); clear hk5)
    go_wp2_with fail
    refine hK.out _ _ ?_ (fun hHeld => ?_)
    ·(try dsimp only); (exact HJ.out _ X5.out)
    clear hK K; (try simp only [Act.put,sI,sZ,sS])
    refine dF 9 ?_; try simp only [Act.put,sI,sZ,sS]
    refine aN (by kernel_rfl) ?_ _
    clear hHeld
    by_cases hst : s = t
    ·have hd : decide (s = t) = true := decide_eq_true hst
     rw [hd]
     have HE := qH hst
     clear hst hd
     go_wp2
     go_roundw
     case rel => exact ⟨i + 1, by omega, by first | rfl | (congr 1; done) | (congr 1; omega), qH (hex.out.trans X5.out), qH (by rw [List.take_add_one, List.take_add_one, HST.out.1, HST.out.2, heq.out, HE.out])⟩
     case measure => simp [intOf]; omega
    ·have hd : decide (s = t) = false := decide_eq_false hst
     rw [hd]
     have HD := qH (show decide (A = B) = false from decide_eq_false fun e => hst (by have h := HST.out.1; rw [e, HST.out.2] at h; cases h; rfl))
     clear hst hd
     go_wp2
     go_ret
     exact RetN.mk (hex.out.trans X5.out) (by rw [HD.out]; rfl)
   ·obtain rfl : n = i := by omega
    have HD := qH (show decide (A = B) = true from decide_eq_true (by
     have h := heq.out
     rw [List.take_of_length_le (by rw [<- HN.out.1]; exact Nat.le_refl _), List.take_of_length_le (by rw [<- HN.out.2]; exact Nat.le_refl _)] at h
     exact h))
    go_wp2
    go_ret
    exact RetN.mk hex.out (by rw [HD.out]; rfl)
 ·have q1 : ((n : Int) != (m : Int)) = true := by simp; omega
  have q2 : ((n : Int) == (m : Int)) = false := by simp; omega
  have HD := qH (show decide (A = B) = false from decide_eq_false fun e => hnm (by rw [HN.out.1, HN.out.2, e]))
  clear hnm
  go_enter Tryz.func22, Tryz.ntmps22
  go_wp2
  go_ret
  exact RetN.mk (Kp.refl w) (by rw [HD.out]; rfl)
def pC (C : List bH) (ls : List aM) (j : Nat) : aC := match ls[j]? with | some l => bP C (bK l) | none => []
def aZ (r : bM) (C : List bH) : aC := if aO r = 0 then aL4 r (pC C r.2.1) else []
theorem oL (E : List Ent) (s : ByteArray) : fS (bQ E s) = bP (aU E) s := by
 unfold bP
 rw [pT]
 cases bQ E s <;> rfl
theorem aJd (ls : List aM) (E : List Ent) : cH (wP ls E) ls = pC (aU E) ls := by
 funext j
 unfold cH wP pC
 by_cases hj : j < ls.length
 ·rw [if_pos hj, qG hj, oL]; rfl
 ·rw [if_neg hj, List.getElem?_eq_none (by omega)]; rfl
theorem aFn (r : bM) (E : List Ent) : jX r (cH (wP r.2.1 E) r.2.1) (aZ r (aU E)) := by
 rw [aJd]
 unfold aZ
 exact ⟨fun hc => by rw [if_pos hc]; exact wC hc _, fun hc => by rw [if_neg hc]⟩
abbrev TT : Nat -> Prop := fun _ => True
def fitB (ts : List aE) : Bool := ts.all fun t => (Lit.int .i64 t.1).wf && decide (t.2.1.size ≤ 4096)
theorem aHz {t : aE} (h : ((Lit.int .i64 t.1).wf && decide (t.2.1.size ≤ 4096)) = true) : gF t := by
 rw [Bool.and_eq_true, decide_eq_true_eq] at h
 exact ⟨h.1, by unfold maxLen; omega⟩
theorem vL {ts : List aE} (h : fitB ts = true) : ∀ t ∈ ts, gF t := fun t ht => aHz (List.all_eq_true.1 h t ht)
def aGi (ls : List aM) : Bool := ls.all fun l => (Lit.int .i64 l.1).wf && (decide ((bK l).size ≤ 4096) && (fitB (aB l) && ((Lit.int .i64 (jI l)).wf && fitB [leftOf l, aY l])))
theorem aBz {ls : List aM} (h : aGi ls = true) : ∀ l ∈ ls, LitAll l := fun l hl => by
 have h1 := List.all_eq_true.1 h l hl
 simp only [Bool.and_eq_true, decide_eq_true_eq] at h1
 obtain ⟨a, b, c, d, e⟩ := h1
 have e2 := vL e
 exact ⟨a, by unfold maxLen; omega, vL c, d, e2 _ (by simp), e2 _ (by simp)⟩
theorem wZ (w : World) (ts : List aE) (h : fitB ts = true) : bD (w.alloc (.cells (aI7 ts).toArray 58)) TT (some ⟨w.heap.size, 0, none⟩) ts :=
 aKj (s := bX) (f := aAw) (rest := []) (fun x => rfl) (fun i x hi => zF (vL h x (List.mem_of_getElem? hi))) trivial (by rw [List.append_nil]; exact Blk.new w (aI7 ts) 58)
theorem aJt (w : World) (a : Option Addr) : cF w TT a [] := fun i x hx => by simp at hx
theorem aJu (w : World) (ls : List aM) (vs : List (Option Addr × Nat)) (hv : vs.length = ls.length) (h : aGi ls = true) (ht : ∀ x ∈ ls.zip vs, bD w TT x.2.1 (aB x.1) /\ (aB x.1).length ≤ x.2.2 /\ x.2.2 ≤ maxLen) : cF (w.alloc (.cells ((ls.zip vs).flatMap iA).toArray 60)) TT (some ⟨w.heap.size, 0, none⟩) ls :=
 uM (rest := []) hv (aBz h) (fun x hx => ⟨(ht x hx).1.ext ((Kp.refl w).alloc _), (ht x hx).2⟩) trivial (by rw [List.append_nil]; exact Blk.new w ((ls.zip vs).flatMap iA) 60)
def aJe (l : List (Nat × List ByteArray)) : List fQ := l.map fun x => ((some ⟨x.1, 0, none⟩, x.2.length, x.2.length), x.2)
theorem xI {w : World} {g : Nat} {l : List (Nat × List ByteArray)} {LL : aC} (hl : LL = l.map Prod.snd) (hB : Blk w g (dZ (aJe l)) 66) (hr : ∀ x ∈ l, Blk w x.1 (strs x.2) 9 /\ x.2.length ≤ 64) : RowsIn TT w (some ⟨g, 0, none⟩) LL := by
 refine ⟨aJe l, by rw [hl]; unfold aJe; rw [List.map_map]; rfl, CellsAt.pre (rest := []) (by rw [List.append_nil]; exact hB), fun _ _ => trivial, fun p hp => ?_⟩
 obtain ⟨x, hx, rfl⟩ := List.mem_map.1 hp
 obtain ⟨h1, h2⟩ := hr x hx
 exact ⟨⟨rfl, CellsAt.pre (rest := []) (by rw [List.append_nil]; exact h1)⟩, by show x.2.length ≤ _; omega, fun _ _ => trivial⟩
def fewB (ls : List aM) : Bool := decide ((aA ls).length ≤ 1048576)
theorem aMk {ls : List aM} (h : fewB ls = true) : (aA ls).length ≤ 1048576 := of_decide_eq_true h
def aL3 (ls : List aM) : Bool := decide (ls.length ≤ 64) && ls.all fun l => decide ((aB l).length ≤ 64)
theorem aMj {ls : List aM} (h : aL3 ls = true) : Fit ls := by
 unfold aL3 at h
 rw [Bool.and_eq_true, decide_eq_true_eq] at h
 exact ⟨by omega, fun l hl => by have := of_decide_eq_true (List.all_eq_true.1 h.2 l hl); omega⟩
end
section
def Val (N V : List ByteArray) (s x : ByteArray) : Prop := ∃ v : Nat, N[v]? = some s /\ V[v]? = some x
structure SameV (N V N' V' : List ByteArray) : Prop where
 val : ∀ s x, Val N V s x ↔ Val N' V' s x
 mem : ∀ s, s ∈ N ↔ s ∈ N'
def dP (N : List ByteArray) (s : ByteArray) : Nat := N.findIdx fun u => decide (u = s)
theorem aBg {N : List ByteArray} {s : ByteArray} (h : s ∈ N) : N[dP N s]? = some s := by
 have hl : dP N s < N.length := List.findIdx_lt_length_of_exists ⟨s, h, decide_eq_true rfl⟩
 have h2 := List.findIdx_getElem (w := hl)
 rw [qG hl]
 exact congrArg some (of_decide_eq_true h2)
theorem aHa {N : List ByteArray} {s : ByteArray} (h : ¬ s ∈ N) : dP N s = N.length :=
 List.findIdx_eq_length_of_false fun x hx => decide_eq_false fun e => h (e ▸ hx)
theorem nH {N V : List ByteArray} (hN : N.Nodup) {s x : ByteArray} (h : Val N V s x) : aS V (dP N s) = x := by
 obtain ⟨v, h1, h2⟩ := h
 have h3 := aBg (List.mem_of_getElem? h1)
 have hv : v < N.length := (List.getElem?_eq_some_iff.1 h1).1
 have : v = dP N s := (List.getElem?_inj hv hN).1 (h1.trans h3.symm)
 rw [<- this]
 unfold aS
 rw [List.getD_eq_getElem?_getD, h2]; rfl
theorem aDr {N V : List ByteArray} (hV : V.length = N.length) {s : ByteArray} (h : s ∈ N) : Val N V s (aS V (dP N s)) := by
 have h3 := aBg h
 refine ⟨dP N s, h3, ?_⟩
 have hv := (List.getElem?_eq_some_iff.1 h3).1
 unfold aS
 rw [List.getD_eq_getElem?_getD, qG (by omega)]; rfl
theorem tG {N V : List ByteArray} (hV : V.length = N.length) {s : ByteArray} (h : ¬ s ∈ N) : aS V (dP N s) = ByteArray.empty := by
 rw [aHa h]
 unfold aS
 rw [List.getD_eq_getElem?_getD, List.getElem?_eq_none (by omega)]; rfl
theorem qB {N V N' V' : List ByteArray} (hN : N.Nodup) (hN' : N'.Nodup) (hV : V.length = N.length) (hV' : V'.length = N'.length) (h : SameV N V N' V') (t : aE) : kC N V t = kC N' V' t := by
 unfold kC
 by_cases h1 : t.1 = 1
 ·rw [if_pos h1, if_pos h1]
  show aS V (dP N t.2.1) = aS V' (dP N' t.2.1)
  by_cases hs : t.2.1 ∈ N
  ·exact (nH hN' ((h.val _ _).1 (aDr hV hs))).symm
  ·rw [tG hV hs, tG hV' fun h2 => hs ((h.mem _).2 h2)]
 ·rw [if_neg h1, if_neg h1]
theorem yE {N V N' V' : List ByteArray} (h : SameV N V N' V') (ts : List aE) (x : List ByteArray) : wR N V ts x ↔ wR N' V' ts x :=
 forall_congr' fun i => forall_congr' fun t => forall_congr' fun hi => and_congr_right fun _ => forall_congr' fun h1 => h.val _ _
theorem aEw {N V N' V' : List ByteArray} (hN : N.Nodup) (hN' : N'.Nodup) (hV : V.length = N.length) (hV' : V'.length = N'.length) (h : SameV N V N' V') (R : aC) (l : aM) : fZ N V R l ↔ fZ N' V' R l := by
 unfold fZ
 split
 ·exact exists_congr fun x => and_congr_right fun _ => and_congr_right fun _ => yE h _ x
 ·split
  ·exact not_congr (exists_congr fun x => and_congr_right fun _ => and_congr_right fun _ => yE h _ x)
  ·rw [qB hN hN' hV hV' h, qB hN hN' hV hV' h]
def fU (N V N' : List ByteArray) : List ByteArray := N'.map fun s => aS V (dP N s)
theorem nQ {N V N' : List ByteArray} (hN : N.Nodup) (hV : V.length = N.length) (h : ∀ s, s ∈ N ↔ s ∈ N') : SameV N V N' (fU N V N') := by
 refine ⟨fun s x => ⟨fun hv => ?_, fun ⟨v, h1, h2⟩ => ?_⟩, h⟩
 ·have hs : s ∈ N := by obtain ⟨v, h1, _⟩ := hv; exact List.mem_of_getElem? h1
  obtain ⟨v, h1⟩ := List.mem_iff_getElem?.1 ((h s).1 hs)
  refine ⟨v, h1, ?_⟩
  unfold fU
  rw [List.getElem?_map, h1, Option.map_some, nH hN hv]
 ·unfold fU at h2
  rw [List.getElem?_map, h1, Option.map_some] at h2
  cases h2
  exact aDr hV ((h s).2 (List.mem_of_getElem? h1))
theorem xM {ls : List aM} {s : ByteArray} : s ∈ aA ls ↔ ∃ l ∈ ls, l.1 = 1 /\ ∃ t ∈ aB l, t.1 = 1 /\ t.2.1 = s := by
 constructor
 ·intro h
  obtain ⟨v, hv⟩ := List.mem_iff_getElem?.1 h
  have hvl := (List.getElem?_eq_some_iff.1 hv).1
  obtain ⟨l, hl, h1, hva⟩ := iV hvl
  obtain ⟨_, i, t, hi, ht, he⟩ := cT.1 hva
  refine ⟨l, hl, h1, t, List.mem_of_getElem? hi, ht, ?_⟩
  rw [he]
  unfold aS
  rw [List.getD_eq_getElem?_getD, hv]; rfl
 ·rintro ⟨l, hl, h1, t, ht, h2, rfl⟩
  exact uI hl h1 ht h2
theorem nB {ls : List aM} {C : List bH} {V : List ByteArray} : cJ ls (pC C ls) V ↔ V.length = (aA ls).length /\ ∀ l ∈ ls, fZ (aA ls) V (bP C (bK l)) l := by
 unfold cJ
 refine and_congr_right fun _ => ⟨fun h l hl => ?_, fun h i l hi => ?_⟩
 ·obtain ⟨i, hi⟩ := List.mem_iff_getElem?.1 hl
  have h1 := h i l hi
  unfold pC at h1
  rw [hi] at h1; exact h1
 ·unfold pC
  rw [hi]
  exact h l (List.mem_of_getElem? hi)
section
variable {r r' : bM} {C : List bH}
theorem dR {ls ls' : List aM} (hm : ∀ l, l ∈ ls' ↔ l ∈ ls) (s : ByteArray) : s ∈ aA ls ↔ s ∈ aA ls' := by
 rw [xM, xM]
 exact exists_congr fun l => and_congr_left fun _ => (hm l).symm
theorem aE0 {N N' : List ByteArray} (h : ∀ s, s ∈ N ↔ s ∈ N') (s : ByteArray) : jK N s = jK N' s := by
 rw [Bool.eq_iff_iff, bV, bV]; exact h s
theorem wD {α : Type} {L L' : List α} (h : ∀ x, x ∈ L' ↔ x ∈ L) (p : α -> Bool) : L'.all p = L.all p := by
 rw [Bool.eq_iff_iff, List.all_eq_true, List.all_eq_true]
 exact ⟨fun k x hx => k x ((h x).2 hx), fun k x hx => k x ((h x).1 hx)⟩
theorem aFk (h : r'.1 = r.1) (hm : ∀ l, l ∈ r'.2.1 ↔ l ∈ r.2.1) : aO r' = aO r := by
 have hN := dR hm
 have e1 : dG r' = dG r := by unfold dG; rw [h, wD hm]
 have e2 : ∀ b, dD (aA r'.2.1) b = dD (aA r.2.1) b := fun b => funext fun t => by unfold dD; rw [aE0 hN]
 have e3 : gI (aA r'.2.1) = gI (aA r.2.1) := funext fun l => by unfold gI; rw [e2, e2]
 have e4 : jN r' = jN r := by unfold jN; rw [h, e2, e3, wD hm]
 unfold aO
 rw [e1, e4]
theorem fE (hc : aO r = 0) {V : List ByteArray} : V ∈ aZ r C ↔ cJ r.2.1 (pC C r.2.1) V := by
 unfold aZ
 rw [if_pos hc]
 exact (wC hc _).iff V
end
def jB (C : List bH) : List aM -> Nat -> Option Nat
 | [], n => some n
 | l :: ls, n => if l.1 = 1 then (if 20000 < n * (1 + (bP C (bK l)).length) then none else jB C ls (n * (1 + (bP C (bK l)).length))) else jB C ls n
def zY (C : List bH) (ls : List aM) : Bool := (jB C ls 1).isSome
theorem iK (C : List bH) : ∀ (a b : List aM) (n : Nat), jB C (a ++ b) n = (jB C a n).bind (jB C b)
 | [], b, n => rfl
 | l :: a, b, n => by
  show jB C (l :: (a ++ b)) n = (jB C (l :: a) n).bind _
  unfold jB
  split
  ·split
   ·rfl
   ·exact iK C a b _
  ·exact iK C a b n
def tY (R : Nat -> aC) : List aM -> Nat -> Nat
 | [], _ => 1
 | l :: rest, i => if l.1 = 1 then (1 + (R i).length) * tY R rest (i + 1) else tY R rest (i + 1)
theorem rY {α β : Type} {f : α -> List β} {m : Nat} : ∀ {L : List α}, (∀ x, (f x).length ≤ m) -> (L.flatMap f).length ≤ L.length * m
 | [], h => Nat.zero_le _
 | x :: L, h => by
  rw [List.flatMap_cons, List.length_append, List.length_cons, Nat.succ_mul]
  have h1 := rY (L := L) h
  have h2 := h x
  omega
theorem aDs (e : dC) (ts : List aE) (R : aC) : (cP e ts R).length ≤ R.length := by
 unfold cP
 refine Nat.le_trans (aJs _) ?_
 exact List.length_filterMap_le _ _
theorem mO (all : List aM) (R : Nat -> aC) : ∀ (rest : List aM) (i : Nat) (e : dC), (gD all R rest i e).length ≤ tY R rest i
 | [], i, e => by
  unfold gD tY
  split
  ·exact Nat.le_refl _
  ·exact Nat.zero_le _
 | l :: rest, i, e => by
  unfold gD tY
  split
  ·refine Nat.le_trans (rY fun q => mO all R rest (i + 1) _) (Nat.mul_le_mul_right _ ?_)
   have h1 := aDs e (aB l) (jO (aB l) (R i))
   have h2 : (jO (aB l) (R i)).length ≤ (R i).length := List.length_filter_le _ _
   omega
  ·exact mO all R rest (i + 1) e
theorem zX {C : List bH} : ∀ {ls : List aM} {n m : Nat}, n ≤ 20000 -> jB C ls n = some m -> m ≤ 20000
 | [], n, m, h, e => by cases e; exact h
 | l :: ls, n, m, h, e => by
  unfold jB at e
  split at e
  ·split at e
   ·cases e
   ·rename_i hq
    exact zX (Nat.not_lt.1 hq) e
  ·exact zX h e
def eY (C : List bH) : List aM -> Nat
 | [] => 1
 | l :: rest => if l.1 = 1 then (1 + (bP C (bK l)).length) * eY C rest else eY C rest
theorem lG (C : List bH) : ∀ a b : List aM, eY C (a ++ b) = eY C a * eY C b
 | [], b => by show _ = 1 * _; rw [Nat.one_mul]; rfl
 | l :: a, b => by
  show (if l.1 = 1 then _ * eY C (a ++ b) else eY C (a ++ b)) = (if l.1 = 1 then _ * eY C a else eY C a) * eY C b
  rw [lG C a b]
  split
  ·rw [Nat.mul_assoc]
  ·rfl
theorem aD8 (C : List bH) (a b : List aM) : eY C (b ++ a) = eY C (a ++ b) := by rw [lG, lG, Nat.mul_comm]
theorem tX {R : Nat -> aC} {C : List bH} : ∀ {rest : List aM} {i : Nat}, (∀ (j : Nat) (l : aM), rest[j]? = some l -> (R (i + j)).length ≤ (bP C (bK l)).length) -> tY R rest i ≤ eY C rest
 | [], i, h => Nat.le_refl _
 | l :: rest, i, h => by
  have ht : ∀ (j : Nat) (l' : aM), rest[j]? = some l' -> (R (i + 1 + j)).length ≤ (bP C (bK l')).length := fun j l' hj => by
   have := h (j + 1) l' (by simpa using hj)
   rw [show i + (j + 1) = i + 1 + j by omega] at this; exact this
  have h0 := h 0 l rfl
  rw [Nat.add_zero] at h0
  unfold tY eY
  split
  ·exact Nat.mul_le_mul (by omega) (tX ht)
  ·exact tX ht
theorem yO (r : bM) (C : List bH) : (aZ r C).length ≤ eY C r.2.1 := by
 unfold aZ
 split
 ·refine Nat.le_trans (mO r.2.1 (pC C r.2.1) r.2.1 0 ([], [])) (tX fun j l hj => ?_)
  rw [Nat.zero_add]
  unfold pC
  rw [hj]; exact Nat.le_refl _
 ·exact Nat.zero_le _
theorem qY {C : List bH} : ∀ {ls : List aM} {n m : Nat}, jB C ls n = some m -> n * eY C ls ≤ m
 | [], n, m, e => by cases e; show n * 1 ≤ n; omega
 | l :: ls, n, m, e => by
  unfold jB at e
  unfold eY
  split at e
  ·rename_i h1
   rw [if_pos h1]
   split at e
   ·cases e
   ·have h2 := qY e
    rw [Nat.mul_assoc] at h2; exact h2
  ·rename_i h1
   rw [if_neg h1]
   exact qY e
theorem vP {C : List bH} {ls : List aM} (h : zY C ls = true) : eY C ls ≤ 20000 := by
 unfold zY at h
 obtain ⟨m, hm⟩ := Option.isSome_iff_exists.1 h
 have h1 := qY hm
 have h2 := zX (by decide) hm
 omega
theorem uA {α : Type} [DecidableEq α] : ∀ {a b : List α}, a.Nodup -> b.Nodup -> (∀ x, x ∈ a ↔ x ∈ b) -> a.Perm b
 | [], b, _, _, h => by
  cases b with
  | nil => exact .nil
  | cons y b => have := (h y).2 (List.mem_cons_self ..); simp at this
 | x :: a, b, ha, hb, h => by
  have hx : x ∈ b := (h x).1 (List.mem_cons_self ..)
  rw [List.nodup_cons] at ha
  refine List.Perm.trans (.cons x (uA ha.2 (hb.erase x) fun y => ?_)) (List.perm_cons_erase hx).symm
  rw [hb.mem_erase_iff, <- h y, List.mem_cons]
  constructor
  ·intro hy; exact ⟨fun e => ha.1 (e ▸ hy), .inr hy⟩
  ·rintro ⟨h1, h2 | h2⟩
   ·exact absurd h2 h1
   ·exact h2
theorem qP {N V N' : List ByteArray} (hN : N.Nodup) (hN' : N'.Nodup) (hV : V.length = N.length) (h : ∀ s, s ∈ N ↔ s ∈ N') : fU N' (fU N V N') N = V := by
 have hs := nQ (V := V) hN hV h
 refine List.ext_getElem? fun i => ?_
 unfold fU
 rw [List.getElem?_map]
 cases hi : N[i]? with
 | none => rw [Option.map_none, List.getElem?_eq_none (by have := List.getElem?_eq_none_iff.1 hi; omega)]
 | some s =>
  have hil := (List.getElem?_eq_some_iff.1 hi).1
  have hv : Val N V s V[i] := ⟨i, hi, qG (by omega)⟩
  rw [Option.map_some]
  show some (aS (fU N V N') (dP N' s)) = V[i]?
  rw [nH hN' ((hs.val _ _).1 hv), qG (by omega)]
theorem sF {r r' : bM} {C : List bH} (hc : aO r = 0) (hc' : aO r' = 0) (hm : ∀ l, l ∈ r'.2.1 ↔ l ∈ r.2.1) {V : List ByteArray} (hV : V ∈ aZ r C) : fU (aA r.2.1) V (aA r'.2.1) ∈ aZ r' C := by
 rw [fE hc, nB] at hV
 have hN := bA r.2.1
 have hsm := nQ (N := aA r.2.1) (V := V) (N' := aA r'.2.1) hN hV.1 (dR hm)
 have hl : (fU (aA r.2.1) V (aA r'.2.1)).length = (aA r'.2.1).length := by unfold fU; rw [List.length_map]
 rw [fE hc', nB]
 exact ⟨hl, fun l hl2 => (aEw hN (bA r'.2.1) hV.1 hl hsm _ l).1 (hV.2 l ((hm l).1 hl2))⟩
theorem aFm {r r' : bM} {C : List bH} (hc : aO r = 0) (hc' : aO r' = 0) (hm : ∀ l, l ∈ r'.2.1 ↔ l ∈ r.2.1) (hn : (aZ r C).Nodup) (hn' : (aZ r' C).Nodup) : (aZ r' C).Perm ((aZ r C).map fun V => fU (aA r.2.1) V (aA r'.2.1)) := by
 have hl : ∀ V ∈ aZ r C, V.length = (aA r.2.1).length := fun V hV => ((fE hc).1 hV).1
 have hl' : ∀ V ∈ aZ r' C, V.length = (aA r'.2.1).length := fun V hV => ((fE hc').1 hV).1
 refine uA hn' ?_ fun V => ?_
 ·refine (List.pairwise_map.2 (hn.imp_of_mem fun {a b} ha hb hab e => hab ?_))
  have h1 := qP (bA r.2.1) (bA r'.2.1) (hl a ha) (dR hm)
  have h2 := qP (bA r.2.1) (bA r'.2.1) (hl b hb) (dR hm)
  rw [<- h1, <- h2, e]
 ·rw [List.mem_map]
  constructor
  ·intro hV
   exact ⟨_, sF hc' hc (fun l => (hm l).symm) hV, qP (bA _) (bA _) (hl' V hV) (dR fun l => (hm l).symm)⟩
  ·rintro ⟨U, hU, rfl⟩
   exact sF hc hc' hm hU
theorem aHx {N V N' : List ByteArray} (hN : N.Nodup) (hN' : N'.Nodup) (hV : V.length = N.length) (h : ∀ s, s ∈ N ↔ s ∈ N') (s : ByteArray) : aS (fU N V N') (dP N' s) = aS V (dP N s) := by
 by_cases hs : s ∈ N
 ·exact nH hN' (((nQ hN hV h).val _ _).1 (aDr hV hs))
 ·rw [tG hV hs, tG (by unfold fU; rw [List.length_map]) fun h2 => hs ((h s).2 h2)]
theorem aEz {N V N' : List ByteArray} (hN : N.Nodup) (hN' : N'.Nodup) (hV : V.length = N.length) (h : ∀ s, s ∈ N ↔ s ∈ N') (hs : List aE) : aP N' (fU N V N') hs = aP N V hs := by
 unfold aP
 refine congrArg (fun f => hs.filterMap f) (funext fun t => ?_)
 rw [qB hN hN' hV (by unfold fU; rw [List.length_map]) (nQ hN hV h) t]
theorem aIh {r : bM} {C : List bH} (hc : aO r = 0) (hC : BaseOk C) {V : List ByteArray} (hV : V ∈ aZ r C) : ∀ s ∈ V, s.size ≤ 4096 := by
 rw [fE hc, nB] at hV
 intro s hs
 obtain ⟨v, hv⟩ := List.mem_iff_getElem?.1 hs
 have hvl := (List.getElem?_eq_some_iff.1 hv).1
 obtain ⟨l, hl, h1, hva⟩ := iV (ls := r.2.1) (v := v) (by rw [<- hV.1]; exact hvl)
 obtain ⟨_, i, t, hi, ht, he⟩ := cT.1 hva
 have hh := hV.2 l hl
 unfold fZ at hh
 rw [if_pos h1] at hh
 obtain ⟨x, hx, hxl, hf⟩ := hh
 obtain ⟨u, hu1, hu2⟩ := (hf i t hi).2 ht
 have hN := bA r.2.1
 have hnv : (aA r.2.1)[v]? = some t.2.1 := by
  rw [he]; unfold aS
  rw [List.getD_eq_getElem?_getD, qG (by rw [<- hV.1]; exact hvl)]; rfl
 have huv : u = v := by
  have hul := (List.getElem?_eq_some_iff.1 hu1).1
  exact (List.getElem?_inj hul hN).1 (hu1.trans hnv.symm)
 subst huv
 rw [hv] at hu2
 have e : s = aS x i := Option.some.inj hu2
 unfold bP at hx
 cases hg : dH C (bK l) with
 | none => rw [hg] at hx; cases hx
 | some p =>
  rw [hg] at hx
  have ok := hC.all _ ((jA hC.nodup).1 hg)
  have htx := ok.txt x hx
  rw [e]
  unfold aS
  rw [List.getD_eq_getElem?_getD]
  cases hxi : x[i]? with
  | none => decide
  | some y => exact of_decide_eq_true (List.all_eq_true.1 htx y (List.mem_of_getElem? hxi))
theorem aI9 {l l' : List Int} (h : l.Perm l') : l.sum = l'.sum := by
 induction h with
 | nil => rfl
 | cons x _ ih => rw [List.sum_cons, List.sum_cons, ih]
 | swap x y l => simp only [List.sum_cons]; omega
 | trans _ _ h1 h2 => exact h1.trans h2
section
variable {c : ByteArray -> ByteArray -> Int} (O : OrdLaw c) (T : wG c)
include O
theorem irr (x : ByteArray) : ¬ c x x < 0 := fun h => by have := (O.swap x x).1 h; omega
theorem aL1 {x y : ByteArray} (h : ¬ c x y < 0) : c y x ≤ 0 := by
 have := O.swap x y
 have h2 := O.swap y x
 omega
include T
theorem aAf : ∀ (l : List ByteArray) (s : ByteArray), (l.foldl (fun b x => if c x b < 0 then x else b) s) ∈ s :: l /\ ∀ x ∈ s :: l, ¬ c x (l.foldl (fun b x => if c x b < 0 then x else b) s) < 0
 | [], s => ⟨List.mem_cons_self .., fun x hx => by rw [List.mem_singleton.1 hx]; exact irr O s⟩
 | y :: l, s => by
  obtain ⟨h1, h2⟩ := aAf l (if c y s < 0 then y else s)
  obtain ⟨z, ez⟩ : ∃ z, l.foldl (fun b x => if c x b < 0 then x else b) (if c y s < 0 then y else s) = z := ⟨_, rfl⟩
  rw [List.foldl_cons, ez]
  rw [ez] at h1 h2
  have h0 := h2 _ (List.mem_cons_self ..)
  refine ⟨?_, fun x hx => ?_⟩
  ·rcases List.mem_cons.1 h1 with e | h1
   ·rw [e]; split <;> simp
   ·simp [h1]
  ·rcases List.mem_cons.1 hx with e | hx
   ·rw [e]
    by_cases hy : c y s < 0
    ·rw [if_pos hy] at h0
     intro hlt
     have e0 : c y z ≤ 0 := O.trans _ _ _ (by omega) (Int.le_of_lt hlt)
     have e1 : c y z = 0 := by omega
     rw [T _ _ e1] at hy
     have := (O.swap z s).1 hy
     omega
    ·rw [if_neg hy] at h0; exact h0
   ·rcases List.mem_cons.1 hx with e | hx
    ·rw [e]
     by_cases hy : c y s < 0
     ·rw [if_pos hy] at h0; exact h0
     ·rw [if_neg hy] at h0
      intro hlt
      have e0 : c y s ≤ 0 := O.trans _ _ _ (Int.le_of_lt hlt) (aL1 O h0)
      have e1 : c y s = 0 := by omega
      rw [T _ _ e1] at hlt
      exact h0 hlt
    ·exact h2 x (List.mem_cons_of_mem _ hx)
theorem sG {l l' : List ByteArray} {s s' : ByteArray} (h : ∀ x, x ∈ s :: l ↔ x ∈ s' :: l') : l.foldl (fun b x => if c x b < 0 then x else b) s = l'.foldl (fun b x => if c x b < 0 then x else b) s' := by
 obtain ⟨h1, h2⟩ := aAf O T l s
 obtain ⟨h3, h4⟩ := aAf O T l' s'
 have a := h2 _ ((h _).2 h3)
 have b := h4 _ ((h _).1 h1)
 have d := aL1 O a
 exact T _ _ (by omega)
end
def kD (k : Int) (l : List ByteArray) : ByteArray × Nat :=
 if k = 4 then (⟨(Lib.itoa l.length).toArray⟩, 0)
 else if k = 5 then (if -9223372036854775808 ≤ (l.map fun s => (bZ s.data.toList).1).sum /\ (l.map fun s => (bZ s.data.toList).1).sum ≤ 9223372036854775807 then (⟨(Lib.itoa (l.map fun s => (bZ s.data.toList).1).sum).toArray⟩, 0) else (ByteArray.empty, 151))
 else (match l with | [] => ByteArray.empty | s :: l => l.foldl (fun b x => if (if k = 6 then rB x b else rB b x) < 0 then x else b) s, 0)
theorem aDw (k : Int) (at_ : Nat) (hk : 4 ≤ k /\ k ≤ 7) (B : aC) : cG k at_ B = kD k (B.map fun V => aS V at_) := by
 unfold cG kD
 by_cases h4 : k = 4
 ·rw [if_pos h4, if_pos h4, List.length_map]
 ·rw [if_neg h4, if_neg h4]
  by_cases h5 : k = 5
  ·rw [if_pos h5, if_pos h5, List.map_map]; rfl
  ·rw [if_neg h5, if_neg h5]
   congr 1
   cases B with
   | nil => rfl
   | cons V B =>
    show B.foldl _ _ = (B.map _).foldl _ _
    rw [List.foldl_map]
    refine congrArg (fun f => B.foldl f (aS V at_)) (funext fun b => funext fun U => ?_)
    by_cases h6 : k = 6
    ·rw [if_pos h6]
     by_cases hl : Op.bytesLess (aS U at_).toList b.toList = true
     ·rw [if_pos (.inl ⟨h6, hl⟩), if_pos (show rB (aS U at_) b < 0 from cW.2 hl)]
     ·rw [if_neg (fun h => by rcases h with h | h; exact hl h.2; omega), if_neg (show ¬ rB (aS U at_) b < 0 from fun h => hl (cW.1 h))]
    ·have h7 : k = 7 := by omega
     rw [if_neg h6]
     by_cases hl : Op.bytesLess b.toList (aS U at_).toList = true
     ·rw [if_pos (.inr ⟨h7, hl⟩), if_pos (show rB b (aS U at_) < 0 from cW.2 hl)]
     ·rw [if_neg (fun h => by rcases h with h | h; omega; exact hl h.2), if_neg (show ¬ rB b (aS U at_) < 0 from fun h => hl (cW.1 h))]
theorem aI3 {l l' : List ByteArray} (h : l.length = l'.length) : kD 4 l = kD 4 l' := by
 unfold kD
 rw [if_pos rfl, if_pos rfl, h]
theorem sD : wG rB := fun _ _ h => dE (dW h)
theorem aGz (k : Int) (hk : 4 ≤ k /\ k ≤ 7) {l l' : List ByteArray} (h : l.Perm l') : kD k l = kD k l' := by
 unfold kD
 by_cases h4 : k = 4
 ·rw [if_pos h4, if_pos h4, h.length_eq]
 ·rw [if_neg h4, if_neg h4]
  by_cases h5 : k = 5
  ·rw [if_pos h5, if_pos h5, aI9 (h.map _)]
  ·rw [if_neg h5, if_neg h5]
   congr 1
   match l, l', h with
   | [], [], _ => rfl
   | [], y :: b, h => exact absurd h.length_eq (by simp)
   | x :: a, [], h => exact absurd h.length_eq (by simp)
   | x :: a, y :: b, h =>
    show a.foldl _ _ = b.foldl _ _
    by_cases h6 : k = 6
    ·simp only [if_pos h6]
     exact sG (c := rB) vZ sD fun z => h.mem_iff
    ·simp only [if_neg h6]
     exact sG (c := fun x y => rB y x) ⟨fun x y => vZ.swap y x, fun x y z h1 h2 => vZ.trans z y x h2 h1⟩ (fun x y e => (sD _ _ e).symm) fun z => h.mem_iff
def fR (k : Int) (s : ByteArray) : Nat := if k = 5 /\ (bZ s.data.toList).2 = false then 150 else 0
theorem aCp (k : Int) (at_ : Nat) (L : aC) : eM k at_ L = if (L.any fun V => decide (fR k (aS V at_) ≠ 0)) = true then 150 else 0 := by
 have key : ∀ (L : aC) (f : Nat), f = 0 \/ f = 150 -> L.foldl (fun f V => jZ f (takeA k at_ V)) f = if (L.any fun V => decide (fR k (aS V at_) ≠ 0)) = true then 150 else f := fun L => by
  induction L with
  | nil => intro f _; rfl
  | cons V L ih =>
   intro f hf
   have ht : takeA k at_ V = fR k (aS V at_) := rfl
   rw [List.foldl_cons, ht, List.any_cons]
   by_cases h0 : fR k (aS V at_) = 0
   ·have e : jZ f (fR k (aS V at_)) = f := if_pos h0
    rw [e, ih f hf, decide_eq_false (fun h => h h0), Bool.false_or]
   ·have h150 : fR k (aS V at_) = 150 := by
     unfold fR at h0 ⊢
     split at h0
     ·rename_i h; rw [if_pos h]
     ·exact absurd rfl h0
    have e : jZ f (fR k (aS V at_)) = 150 := by unfold jZ; rw [if_neg h0, h150]
    rw [e, ih 150 (.inr rfl), decide_eq_true h0, Bool.true_or, if_pos rfl]
    split <;> rfl
 exact key L 0 (.inl rfl)
theorem zG (k : Int) (at_ : Nat) : ∀ gs : List dL, gH k at_ gs = if (gs.any fun g => decide ((cG k at_ g.2).2 ≠ 0)) = true then 151 else 0
 | [] => rfl
 | g :: gs => by
  unfold gH
  rw [List.any_cons]
  by_cases h0 : (cG k at_ g.2).2 = 0
  ·rw [if_neg (fun h => h h0), zG k at_ gs, decide_eq_false (fun h => h h0), Bool.false_or]
  ·rw [if_pos h0, decide_eq_true h0, Bool.true_or, if_pos rfl]
   unfold cG at h0 ⊢
   split at h0
   ·exact absurd rfl h0
   ·rename_i h4
    rw [if_neg h4]
    split at h0
    ·rename_i h5
     rw [if_pos h5]
     split at h0
     ·exact absurd rfl h0
     ·rename_i hr; rw [if_neg hr]
    ·exact absurd rfl h0
structure GrpInv (N : List ByteArray) (hs : List aE) (gs : List dL) (L : aC) : Prop where
 nodup : (gs.map Prod.fst).Nodup
 own : ∀ g ∈ gs, g.2 = L.filter fun V => decide (aP N V hs = g.1)
 all : ∀ V ∈ L, ∃ g ∈ gs, g.1 = aP N V hs
 some : ∀ g ∈ gs, ∃ V ∈ L, aP N V hs = g.1
theorem GrpInv.snoc {N : List ByteArray} {hs : List aE} {gs : List dL} {L : aC} (h : GrpInv N hs gs L) (V : List ByteArray) : GrpInv N hs (cO gs (aP N V hs) V) (L ++ [V]) := by
 cases hk : eA gs (aP N V hs) with
 | none =>
  rw [fB V hk]
  have hne := aEq.1 hk
  refine ⟨?_, fun g hg => ?_, fun U hU => ?_, fun g hg => ?_⟩
  ·rw [List.map_append, List.nodup_append]
   refine ⟨h.nodup, by simp, fun a ha b hb => ?_⟩
   obtain ⟨g, hg, rfl⟩ := List.mem_map.1 ha
   rw [List.map_singleton, List.mem_singleton] at hb
   rw [hb]; exact hne g hg
  ·rw [List.filter_append]
   rcases List.mem_append.1 hg with hg | hg
   ·rw [<- h.own g hg, List.filter_cons_of_neg (by rw [decide_eq_true_eq]; exact fun e => hne g hg e.symm)]; simp
   ·rw [List.mem_singleton.1 hg]
    have e : (L.filter fun U => decide (aP N U hs = aP N V hs)) = [] := List.filter_eq_nil_iff.2 fun U hU e => by
     obtain ⟨g, hg, e2⟩ := h.all U hU
     exact hne g hg (e2.trans (of_decide_eq_true e))
    show [V] = _ ++ [V].filter fun U => decide (aP N U hs = aP N V hs)
    rw [e]; simp
  ·rcases List.mem_append.1 hU with hU | hU
   ·obtain ⟨g, hg, e⟩ := h.all U hU
    exact ⟨g, List.mem_append_left _ hg, e⟩
   ·rw [List.mem_singleton.1 hU]
    exact ⟨_, List.mem_append_right _ (List.mem_singleton.2 rfl), rfl⟩
  ·rcases List.mem_append.1 hg with hg | hg
   ·obtain ⟨U, hU, e⟩ := h.some g hg
    exact ⟨U, List.mem_append_left _ hU, e⟩
   ·rw [List.mem_singleton.1 hg]
    exact ⟨V, List.mem_append_right _ (List.mem_singleton.2 rfl), rfl⟩
 | some k =>
  obtain ⟨B, hB, e⟩ := jP V hk
  rw [e]
  have hkl := (List.getElem?_eq_some_iff.1 hB).1
  have hgB := List.mem_of_getElem? hB
  have hm : (gs.set k (aP N V hs, B ++ [V])).map Prod.fst = gs.map Prod.fst := by
   rw [List.map_set]
   refine List.ext_getElem? fun i => ?_
   rw [List.getElem?_set]
   split
   ·rename_i e2; subst e2
    rw [List.length_map, if_pos hkl, List.getElem?_map, hB]; rfl
   ·rfl
  refine ⟨by rw [hm]; exact h.nodup, fun g hg => ?_, fun U hU => ?_, fun g hg => ?_⟩
  ·obtain ⟨i, hi⟩ := List.mem_iff_getElem?.1 hg
   rw [List.getElem?_set] at hi
   rw [List.filter_append]
   split at hi
   ·rename_i e2; subst e2
    cases hi
    show B ++ [V] = _ ++ [V].filter fun U => decide (aP N U hs = aP N V hs)
    rw [<- h.own _ hgB]; simp
   ·rename_i hne
    have hg2 := List.mem_of_getElem? hi
    rw [<- h.own g hg2, List.filter_cons_of_neg]
    ·simp
    ·rw [decide_eq_true_eq]
     intro e2
     refine hne ?_
     have h1 : (gs.map Prod.fst)[k]? = Option.some (aP N V hs) := by rw [List.getElem?_map, hB]; rfl
     have h2 : (gs.map Prod.fst)[i]? = Option.some (aP N V hs) := by rw [List.getElem?_map, hi, e2]; rfl
     exact (List.getElem?_inj (by rw [List.length_map]; exact hkl) h.nodup).1 (h1.trans h2.symm)
  ·have key : ∀ x, x ∈ gs.map Prod.fst -> ∃ g ∈ gs.set k (aP N V hs, B ++ [V]), g.1 = x := fun x hx => by
    rw [<- hm] at hx
    obtain ⟨g, hg, e2⟩ := List.mem_map.1 hx
    exact ⟨g, hg, e2⟩
   rcases List.mem_append.1 hU with hU | hU
   ·obtain ⟨g, hg, e2⟩ := h.all U hU
    exact key _ (e2 ▸ List.mem_map_of_mem hg)
   ·rw [List.mem_singleton.1 hU]
    exact key _ (List.mem_map.2 ⟨_, hgB, rfl⟩)
  ·have hx : g.1 ∈ gs.map Prod.fst := by rw [<- hm]; exact List.mem_map_of_mem hg
   obtain ⟨g2, hg2, e2⟩ := List.mem_map.1 hx
   obtain ⟨U, hU, e3⟩ := h.some g2 hg2
   exact ⟨U, List.mem_append_left _ hU, e3.trans e2⟩
theorem vE (N : List ByteArray) (hs : List aE) (L : aC) : GrpInv N hs (bL N hs L) L := by
 have key : ∀ (M L : aC) (gs : List dL), GrpInv N hs gs L -> GrpInv N hs (M.foldl (fun gs V => cO gs (aP N V hs) V) gs) (L ++ M) := fun M => by
  induction M with
  | nil => intro L gs h; rw [List.append_nil]; exact h
  | cons V M ih =>
   intro L gs h
   have := ih (L ++ [V]) _ (h.snoc V)
   rw [List.append_assoc] at this; exact this
 exact key L [] [] ⟨List.nodup_nil, fun g hg => (by cases hg), fun V hV => (by cases hV), fun g hg => (by cases hg)⟩
theorem lD (m : Nat) : ∀ (R acc : aC), (∀ x ∈ R, x.length = m) -> acc.length + R.length ≤ 65536 -> (aR m acc R).1 = if R.all bT = true then 0 else 31
 | [], acc, _, _ => rfl
 | x :: R, acc, hl, hf => by
  rw [List.length_cons] at hf
  rw [cU, List.all_cons]
  have hx := hl x (List.mem_cons_self ..)
  cases htx : bT x with
  | false =>
   have e : (aJ m acc x).2 = 31 := by unfold aJ; rw [if_neg (fun h => h hx), if_pos htx]
   rw [e, if_pos (by decide), Bool.false_and, if_neg (by decide)]
  | true =>
   have e : (aJ m acc x).2 = 0 := by
    unfold aJ
    rw [if_neg (fun h => h hx), if_neg (by rw [htx]; decide), if_neg (fun h => by omega)]
   rw [if_neg (fun h => h e), Bool.true_and]
   refine lD m R _ (fun y hy => hl y (List.mem_cons_of_mem _ hy)) ?_
   unfold aV
   rw [if_pos e]
   have := kO (c := aD) acc x
   split at this <;> omega
theorem pE {m : Nat} {R R' : aC} (h : ∀ x, x ∈ R ↔ x ∈ R') (hl : ∀ x ∈ R, x.length = m) (hf : R.length ≤ 65536) (hf' : R'.length ≤ 65536) : (aR m [] R).1 = (aR m [] R').1 /\ ((aR m [] R).1 = 0 -> (aR m [] R).2 = (aR m [] R').2) := by
 have e : (aR m [] R).1 = (aR m [] R').1 := by
  rw [lD m R [] hl (by simpa using hf), lD m R' [] (fun x hx => hl x ((h x).2 hx)) (by simpa using hf'), wD (L := R) (L' := R') (fun x => (h x).symm)]
 refine ⟨e, fun h0 => ?_⟩
 rw [oK m R [] h0, oK m R' [] (e ▸ h0)]
 show pH aD R = pH aD R'
 exact Strict.unique bR (Strict.new bR _) (Strict.new bR _) fun x => by rw [aBv bR lP, aBv bR lP, h]
section
variable {N N' : List ByteArray} {hs : List aE} {k : Int} {at_ at2 j : Nat} {L L' : aC} {vf vf' : List ByteArray -> ByteArray}
theorem tF (hk : 4 ≤ k /\ k ≤ 7) (hp : (L.map fun V => (aP N V hs, vf V)).Perm (L'.map fun V => (aP N' V hs, vf' V))) {gs gs' : List dL} (h : GrpInv N hs gs L) (h' : GrpInv N' hs gs' L') (hv : ∀ B, cG k at_ B = kD k (B.map vf)) (hv' : ∀ B, cG k at2 B = kD k (B.map vf')) {g : dL} (hg : g ∈ gs) : ∃ g' ∈ gs', g'.1 = g.1 /\ cG k at2 g'.2 = cG k at_ g.2 := by
 obtain ⟨V, hV, e⟩ := h.some g hg
 have h1 : (aP N V hs, vf V) ∈ L'.map fun V => (aP N' V hs, vf' V) := hp.mem_iff.1 (List.mem_map.2 ⟨V, hV, rfl⟩)
 obtain ⟨V', hV', e2⟩ := List.mem_map.1 h1
 obtain ⟨g', hg', e3⟩ := h'.all V' hV'
 have e4 : g'.1 = g.1 := by rw [e3, <- e]; exact congrArg Prod.fst e2
 refine ⟨g', hg', e4, ?_⟩
 have key : ∀ (M : List ByteArray) (K : aC) (f : List ByteArray -> ByteArray) (x : List ByteArray), (K.filter fun V => decide (aP M V hs = x)).map f = ((K.map fun V => (aP M V hs, f V)).filter fun p => decide (p.1 = x)).map Prod.snd := fun M K f x => by
  rw [List.filter_map, List.map_map]; rfl
 rw [hv, hv', h.own g hg, h'.own g' hg', key, key, e4]
 exact (aGz k hk ((hp.filter _).map _)).symm
theorem aJ9 (g : dL) : (iE k at_ j g).length = g.1.length + 1 := by
 unfold iE
 rw [List.length_append, List.length_cons, List.length_take, List.length_drop]
 omega
theorem yU (hk : 4 ≤ k /\ k ≤ 7) (hp : (L.map fun V => (aP N V hs, vf V)).Perm (L'.map fun V => (aP N' V hs, vf' V))) (hv : ∀ B, cG k at_ B = kD k (B.map vf)) (hv' : ∀ B, cG k at2 B = kD k (B.map vf')) (ht : ∀ V, fR k (aS V at_) = fR k (vf V)) (ht' : ∀ V, fR k (aS V at2) = fR k (vf' V))
 (hlen : ∀ V ∈ L, (aP N V hs).length + 1 = hs.length) (hf : L.length ≤ 65536) : (pZ N hs k at_ j L).1 = (pZ N' hs k at2 j L').1 /\ ((pZ N hs k at_ j L).1 = 0 -> (pZ N hs k at_ j L).2 = (pZ N' hs k at2 j L').2) := by
 have hI := vE N hs L
 have hI' := vE N' hs L'
 have hl : L'.length = L.length := by have := hp.length_eq; rw [List.length_map, List.length_map] at this; exact this.symm
 have e1 : eM k at_ L = eM k at2 L' := by
  rw [aCp, aCp]
  have key : (L.any fun V => decide (fR k (aS V at_) ≠ 0)) = (L'.any fun V => decide (fR k (aS V at2) ≠ 0)) := by
   have h1 : ∀ (M : List ByteArray) (K : aC) (f : List ByteArray -> ByteArray) (b : Nat), (∀ V, fR k (aS V b) = fR k (f V)) -> (K.any fun V => decide (fR k (aS V b) ≠ 0)) = ((K.map fun V => (aP M V hs, f V)).any fun p => decide (fR k p.2 ≠ 0)) := fun M K f b hb => by
    rw [List.any_map]
    exact congrArg K.any (funext fun V => by rw [hb V]; rfl)
   rw [h1 N L vf at_ ht, h1 N' L' vf' at2 ht', Bool.eq_iff_iff, List.any_eq_true, List.any_eq_true]
   exact exists_congr fun p => and_congr_left fun _ => hp.mem_iff
  rw [key]
 have e2 : gH k at_ (bL N hs L) = gH k at2 (bL N' hs L') := by
  rw [zG, zG]
  have key : ((bL N hs L).any fun g => decide ((cG k at_ g.2).2 ≠ 0)) = ((bL N' hs L').any fun g => decide ((cG k at2 g.2).2 ≠ 0)) := by
   rw [Bool.eq_iff_iff, List.any_eq_true, List.any_eq_true]
   constructor
   ·rintro ⟨g, hg, h⟩
    obtain ⟨g', hg', _, e⟩ := tF hk hp hI hI' hv hv' hg
    exact ⟨g', hg', by rw [e]; exact h⟩
   ·rintro ⟨g, hg, h⟩
    obtain ⟨g', hg', _, e⟩ := tF hk hp.symm hI' hI hv' hv hg
    exact ⟨g', hg', by rw [e]; exact h⟩
  rw [key]
 unfold pZ
 rw [<- e1, <- e2]
 split
 ·exact ⟨rfl, fun _ => rfl⟩
 ·split
  ·exact ⟨rfl, fun _ => rfl⟩
  ·have ins : ∀ (g g' : dL), g'.1 = g.1 -> cG k at2 g'.2 = cG k at_ g.2 -> iE k at2 j g' = iE k at_ j g := fun g g' h1 h2 => by unfold iE; rw [h1, h2]
   refine pE (fun x => ⟨fun hx => ?_, fun hx => ?_⟩) (fun x hx => ?_) ?_ ?_
   ·obtain ⟨g, hg, rfl⟩ := List.mem_map.1 hx
    obtain ⟨g', hg', e3, e4⟩ := tF hk hp hI hI' hv hv' hg
    exact List.mem_map.2 ⟨g', hg', ins g g' e3 e4⟩
   ·obtain ⟨g, hg, rfl⟩ := List.mem_map.1 hx
    obtain ⟨g', hg', e3, e4⟩ := tF hk hp.symm hI' hI hv' hv hg
    exact List.mem_map.2 ⟨g', hg', (ins g' g e3.symm e4.symm).symm⟩
   ·obtain ⟨g, hg, rfl⟩ := List.mem_map.1 hx
    obtain ⟨V, hV, e⟩ := hI.some g hg
    rw [aJ9, <- e]; exact hlen V hV
   ·rw [List.length_map]; exact Nat.le_trans (lM N hs L) hf
   ·rw [List.length_map]; exact Nat.le_trans (lM N' hs L') (by omega)
end
theorem aGq : ∀ {ts : List aE} {i : Nat}, wF ts i = none -> ∀ t ∈ ts, ¬ decide (4 ≤ t.1) = true
 | [], _, _, t, ht => by cases ht
 | x :: ts, i, h, t, ht => by
  unfold wF at h
  split at h
  ·cases h
  ·rename_i hx
   rcases List.mem_cons.1 ht with e | ht
   ·rw [e]; exact fun h => hx (of_decide_eq_true h)
   ·exact aGq h t ht
theorem aGr : ∀ {ts : List aE} {i j : Nat} {k : Int} {s : ByteArray}, wF ts i = some (j, k, s) -> ∃ n, j = i + n /\ ts[n]? = some (k, s, ()) /\ 4 ≤ k
 | [], _, _, _, _, h => by cases h
 | x :: ts, i, j, k, s, h => by
  unfold wF at h
  split at h
  ·rename_i hx
   cases h
   exact ⟨0, rfl, rfl, hx⟩
  ·obtain ⟨n, h1, h2, h3⟩ := aGr h
   exact ⟨n + 1, by omega, h2, h3⟩
theorem aCu {r r' : bM} {C : List bH} (h1 : r'.1 = r.1) (hm : ∀ l, l ∈ r'.2.1 ↔ l ∈ r.2.1) (hn : (aZ r C).Nodup) (hn' : (aZ r' C).Nodup) (hf : (aZ r C).length ≤ 65536) :
 (cI r false (aZ r C)).1 = (cI r' false (aZ r' C)).1 /\ ((cI r false (aZ r C)).1 = 0 -> (cI r false (aZ r C)).2 = (cI r' false (aZ r' C)).2) := by
 have hcc := aFk h1 hm
 by_cases hc : aO r = 0
 rotate_left
 ·have hc' : aO r' ≠ 0 := by rw [hcc]; exact hc
  unfold cI
  rw [if_pos hc, if_pos hc', hcc]
  exact ⟨rfl, fun _ => rfl⟩
 have hc' : aO r' = 0 := hcc.trans hc
 have hN := bA r.2.1
 have hN' := bA r'.2.1
 have hnm := dR hm
 have hp := aFm hc hc' hm hn hn'
 have hVl : ∀ V ∈ aZ r C, V.length = (aA r.2.1).length := fun V hV => ((fE hc).1 hV).1
 have hlen : (aZ r' C).length = (aZ r C).length := by rw [hp.length_eq, List.length_map]
 have hpair : ∀ (f f' : List ByteArray -> ByteArray), (∀ V ∈ aZ r C, f' (fU (aA r.2.1) V (aA r'.2.1)) = f V) -> ((aZ r C).map fun V => (aP (aA r.2.1) V r.1.2.1, f V)).Perm ((aZ r' C).map fun V => (aP (aA r'.2.1) V r.1.2.1, f' V)) := fun f f' hff => by
  refine List.Perm.trans (List.Perm.of_eq ?_) (hp.map _).symm
  rw [List.map_map]
  refine List.map_congr_left fun V hV => ?_
  show _ = (aP (aA r'.2.1) (fU _ V _) r.1.2.1, f' (fU _ V _))
  rw [aEz hN hN' (hVl V hV) hnm, hff V hV]
 have hs' : r'.1.2.1 = r.1.2.1 := by rw [h1]
 unfold cI
 rw [if_neg (show ¬ aO r ≠ 0 from fun h => h hc), if_neg (show ¬ aO r' ≠ 0 from fun h => h hc'), hs']
 cases hag : wF r.1.2.1 0 with
 | none =>
  show (if false = true then _ else _ : Nat × aC).1 = (if false = true then _ else _ : Nat × aC).1 /\ ((if false = true then _ else _ : Nat × aC).1 = 0 -> (if false = true then _ else _ : Nat × aC).2 = (if false = true then _ else _ : Nat × aC).2)
  rw [if_neg (by decide), if_neg (by decide)]
  have hp2 := hpair (fun _ => ByteArray.empty) (fun _ => ByteArray.empty) (fun _ _ => rfl)
  have hfst := hp2.map Prod.fst
  rw [List.map_map, List.map_map] at hfst
  refine pE (fun x => hfst.mem_iff) (fun x hx => ?_) (by rw [List.length_map]; exact hf) (by rw [List.length_map, hlen]; exact hf)
  obtain ⟨V, _, rfl⟩ := List.mem_map.1 hx
  have h2 := vO (aA r.2.1) V r.1.2.1 fun u hu => by
   rcases qI hc u hu with h | h | h
   ·exact .inl h.1
   ·exact .inr (.inl h)
   ·exact .inr (.inr h)
  have h3 : pY r.1.2.1 = 0 := by
   unfold pY
   exact List.countP_eq_zero.2 (aGq hag)
  omega
 | some q =>
  obtain ⟨j, k, s8⟩ := q
  obtain ⟨n, hjn, hj, hk4⟩ := aGr hag
  have hk7 := ((lL hc).1 _ (List.mem_of_getElem? hj)).2
  have hk : 4 ≤ k /\ k ≤ 7 := ⟨hk4, hk7⟩
  have hne : r'.2.1 = [] ↔ r.2.1 = [] := by
   rw [List.eq_nil_iff_forall_not_mem, List.eq_nil_iff_forall_not_mem]
   exact ⟨fun h l hl => h l ((hm l).2 hl), fun h l hl => h l ((hm l).1 hl)⟩
  show (if r.2.1 = [] then _ else _ : Nat × aC).1 = (if r'.2.1 = [] then _ else _ : Nat × aC).1 /\ ((if r.2.1 = [] then _ else _ : Nat × aC).1 = 0 -> (if r.2.1 = [] then _ else _ : Nat × aC).2 = (if r'.2.1 = [] then _ else _ : Nat × aC).2)
  by_cases h0 : r.2.1 = []
  ·rw [if_pos h0, if_pos (hne.2 h0)]; exact ⟨rfl, fun _ => rfl⟩
  rw [if_neg h0, if_neg (fun h => h0 (hne.1 h)), if_neg (by decide), if_neg (by decide)]
  have hhl : ∀ V ∈ aZ r C, (aP (aA r.2.1) V r.1.2.1).length + 1 = r.1.2.1.length := fun V _ => qU hc hj hk4 _ _
  by_cases h4 : k = 4
  ·subst h4
   have hz : ∀ (b : Nat) (f : List ByteArray -> ByteArray) (B : aC), cG 4 b B = kD 4 (B.map f) := fun b f B => by
    rw [aDw 4 b (by decide)]
    exact aI3 (by rw [List.length_map, List.length_map])
   exact yU hk (hpair (fun _ => ByteArray.empty) (fun _ => ByteArray.empty) (fun _ _ => rfl)) (hz _ _) (hz _ _) (fun _ => rfl) (fun _ => rfl) hhl hf
  ·have hv := vC hc (List.mem_of_getElem? hj) (fun e => by have e' : k = 3 := e; omega) h4
   have hv' := vC hc' (by rw [hs']; exact List.mem_of_getElem? hj) (fun e => by have e' : k = 3 := e; omega) h4
   have pl : ∀ (M : List ByteArray), 0 ≤ bI (fun x => decide (x = s8)) M -> (bI (fun x => decide (x = s8)) M).toNat = dP M s8 := fun M h => by
    unfold bI at h ⊢
    split at h
    ·rename_i h2; rw [if_pos h2]; exact Int.toNat_natCast _
    ·exact absurd h (by decide)
   have e1 := pl _ hv.1
   have e2 := pl _ hv'.1
   exact yU hk (hpair (fun V => aS V (dP (aA r.2.1) s8)) (fun V => aS V (dP (aA r'.2.1) s8)) (fun V hV => aHx hN hN' (hVl V hV) hnm s8)) (fun B => by rw [aDw _ _ hk, e1]) (fun B => by rw [aDw _ _ hk, e2]) (fun V => by rw [e1]) (fun V => by rw [e2]) hhl hf
end
section
open Go.RowKit Go.Shelf
attribute [local go_sem] Oper.semAt_some
def FewTo (w0 : World) (C : List bH) (ls : List aM) (n : Nat) (pv iv : Value) (w : World) : Prop := ∃ (i m : Nat), i ≤ n /\ iv = .int .i64 i /\ pv = .int .i64 m /\ m ≤ 20000 /\ Hid (Ext w0 w) /\ Hid (jB C (ls.take i) 1 = some m)
set_option maxHeartbeats 4000000 in
theorem aH1 {S : Nat -> Prop} {w : World} {p : ByteArray} {hs : List aE} {ls : List aM} {ha ba : Option Addr} {hn hcap n bcap : Nat} {G : Nat -> Prop} {v : Value} {E : List Ent} (hbn : n = ls.length) (h : cF w G ba ls) (hf : Fit ls) (hB : BaseV S w v E) :
 Calls Tryz.prog 20 #[dN p ha hn hcap ba n bcap, v] w (RetN w fun w' u => u = .bool (zY (aU E) ls)) := by
 have HN := qH hbn; have HE := qH h; have HF := qH hf; have hl : n ≤ 1048576 := by have := hf.len; omega
 have HSz := qH (fun W (hW : Ext w W) (s : ByteArray) => aAg (hB.ext hW) s)
 have hok := hB.ok
 have HSm := qH (show ∀ s, (bP (aU E) s).length ≤ 65536 from fun s => by
  unfold bP
  cases hg : dH (aU E) s with
  | none => exact Nat.zero_le _
  | some x => exact (hok.all (s, x) ((jA hok.nodup).1 hg)).few)
 clear hbn h hf hB hok
 obtain ⟨g0, eg0⟩ : ∃ g, w.heap.size = g := ⟨_, rfl⟩
 obtain ⟨w1, e1⟩ : ∃ x, w.alloc (.cells #[.string p, .slice ha hn hcap, .slice ba n bcap] 43) = x := ⟨_, rfl⟩
 have hB1 : Blk w1 g0 [.string p, .slice ha hn hcap, .slice ba n bcap] 43 := by rw [<- e1, <- eg0]; exact Blk.new w _ _
 have hx1 : Ext w w1 := by rw [<- e1]; exact (Kp.refl w).alloc _
 have H1 := qH (And.intro hx1 hB1)
 clear hB1 hx1
 go_enter Tryz.func20, Tryz.ntmps20
 go_wp2
 clear e1 eg0
 go_loopw [5, 6] (fun pv iv wr => FewTo w1 (aU E) ls n pv iv wr) (fun _ iv _ => n - (intOf iv).toNat)
 case atStart => exact ⟨0, 1, Nat.zero_le _, rfl, rfl, by decide, qH (Kp.refl _), qH rfl⟩
 case round =>
  obtain ⟨i, m, hi, rfl, rfl, hm, hex, hfe⟩ := hrel
  have XR := qH (H1.out.1.trans hex.out)
  have b2 : wr.cell? ⟨g0, 2, none⟩ = some (.slice ba n bcap) := by rw [(H1.out.2.ext hex.out).cell']; rfl
  by_cases hlt : i < n
  ·have hltl : i < ls.length := by rw [<- HN.out]; exact hlt
   obtain ⟨l, hli⟩ : ∃ l, ls[i]? = some l := ⟨_, qG hltl⟩
   obtain ⟨b, off, a2, cap2, eao, hG, hb, hL, c0, c1, c2, c3, c4, c5, c6, c7⟩ := oN HE.out hli
   subst eao
   replace c0 := XR.out.cell c0 id
   replace c1 := XR.out.cell c1 id
   replace c2 := XR.out.cell c2 id
   replace c3 := XR.out.cell c3 id
   replace c4 := XR.out.cell c4 id
   replace c5 := XR.out.cell c5 id
   replace c6 := XR.out.cell c6 id
   replace c7 := XR.out.cell c7 id
   obtain ⟨mm, emm⟩ : ∃ mm, mm = (aB l).length := ⟨_, rfl⟩
   rw [<- emm] at c2
   have hmm : mm ≤ 1048576 := by rw [emm]; exact HF.out.terms l (List.mem_of_getElem? hli)
   obtain ⟨k, ek⟩ : ∃ k, k = l.1 := ⟨_, rfl⟩
   rw [<- ek] at c0
   clear hltl hG hb
   obtain ⟨pl, epl⟩ : ∃ pl, bK l = pl := ⟨_, rfl⟩
   rw [epl] at c1
   have HT := qH (show ls.take (i + 1) = ls.take i ++ [l] from by rw [List.take_add_one, hli]; rfl)
   have HL := qH (And.intro hli (And.intro ek epl))
   clear hli ek epl emm hL hmm
   by_cases hk1 : k = 1
   ·subst hk1
    obtain ⟨z, ez⟩ : ∃ z, (fS (bQ E pl)).length = z := ⟨_, rfl⟩
    have hz16 : z ≤ 65536 := by rw [<- ez, oL]; exact HSm.out pl
    have hSz := HSz.out wr XR.out pl
    rw [ez] at hSz
    have HS := qH hSz
    have HZ := qH (show (bP (aU E) pl).length = z from by rw [<- oL]; exact ez)
    clear ez hSz
    go_wp2_with fail
    refine HS.out.mono ?_
    rintro e w2 ⟨v2, rfl, hk2, rfl⟩
    have X2 := qH (hex.out.trans hk2)
    have hmz : m * (1 + z) ≤ 20000 * 65537 := Nat.mul_le_mul hm (by omega)
    have hw1 : IntKind.i64.wrap ((1 : Int) + (z : Int)) = (1 : Int) + (z : Int) := IntWalk.i64_in _ (by omega)
    obtain ⟨q, eq⟩ : ∃ q, m * (1 + z) = q := ⟨_, rfl⟩
    have hqi : (m : Int) * (1 + (z : Int)) = (q : Int) := by rw [<- eq]; push_cast; rfl
    rw [eq] at hmz
    have hw2 : IntKind.i64.wrap ((m : Int) * (1 + (z : Int))) = (q : Int) := by rw [hqi]; exact IntWalk.i64_in _ (by omega)
    have HQ := qH eq
    clear hk2 eq hqi c0 c1 c2 c3 c4 c5 c6 c7 b2
    by_cases hq : 20000 < q
    ·have HFa := qH (show zY (aU E) ls = false from by
      have e1 : ls = ls.take (i + 1) ++ ls.drop (i + 1) := (List.take_append_drop _ _).symm
      have e2 : jB (aU E) (ls.take (i + 1)) 1 = none := by
       rw [HT.out, iK, hfe.out]
       show jB (aU E) [l] m = none
       unfold jB
       rw [if_pos HL.out.2.1.symm, HL.out.2.2, HZ.out, HQ.out, if_pos hq]
      unfold zY
      rw [e1, iK, e2]; rfl)
     have hq2 : (20000 : Int) < (q : Int) := by omega
     clear hq hz16 hmz
     go_wp2
     go_ret
     exact RetN.mk (H1.out.1.trans X2.out) (by rw [HFa.out]; rfl)
    ·have HFa := qH (show jB (aU E) (ls.take (i + 1)) 1 = some q from by
      rw [HT.out, iK, hfe.out]
      show jB (aU E) [l] m = some q
      unfold jB
      rw [if_pos HL.out.2.1.symm, HL.out.2.2, HZ.out, HQ.out, if_neg hq]
      rfl)
     have hq2 : ¬ (20000 : Int) < (q : Int) := by omega
     have hq3 : q ≤ 20000 := by omega
     clear hq hz16 hmz hm
     go_wp2
     go_roundw
     case rel => exact ⟨i + 1, q, by omega, by first | rfl | (congr 1; done) | (congr 1; omega), rfl, hq3, X2, HFa⟩
     case measure => simp [intOf]; omega
   ·have hk2 : (k == 1) = false := by simp [hk1]
    have HFa := qH (show jB (aU E) (ls.take (i + 1)) 1 = some m from by
     rw [HT.out, iK, hfe.out]
     show jB (aU E) [l] m = some m
     unfold jB
     rw [if_neg (fun e => hk1 (HL.out.2.1.trans e))]
     rfl)
    clear hk1
    go_wp2
    go_roundw
    case rel => exact ⟨i + 1, m, by omega, by first | rfl | (congr 1; done) | (congr 1; omega), rfl, hm, hex, HFa⟩
    case measure => simp [intOf]; omega
  ·obtain rfl : n = i := by omega
   have HFa := qH (show zY (aU E) ls = true from by
    have h := hfe.out
    rw [List.take_of_length_le (by rw [<- HN.out]; exact Nat.le_refl _)] at h
    unfold zY; rw [h]; rfl)
   go_wp2
   go_ret
   exact RetN.mk XR.out (by rw [HFa.out]; rfl)
end
end Go.Proofs.YtikgpedgmnbcaaaGreatDoor
