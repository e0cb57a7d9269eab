/- Texts joined for a claim (AggTail, AggFPl, AggGroups, AggIns, AggOf, AggFacts, AggLib, RowSame, BaseAdd, BaseAdd2, BaseDecl). -/
import Derived.Test.YtikgpedgmnbcaaaGreatDoorAt8
set_option linter.unusedVariables false
set_option linter.unusedSimpArgs false
set_option maxRecDepth 100000
namespace Go.Proofs.YtikgpedgmnbcaaaGreatDoor
section
open Go.RowKit Go.Shelf
attribute [local go_sem] Oper.semAt_some
theorem aCm {w W : World} {P : World -> Value -> Prop} {tmps : Array Value} {ds : List Deferred} {lo g6 g7 : Nat} {a b : Value} (hm : Marks lo W ds) (hk : Ext w W) (hlo : w.heap.size ≤ lo) (h6 : tmps.getD 6 undef = .pointer (some ⟨g6, 0, none⟩)) (h7 : tmps.getD 7 undef = .pointer (some ⟨g7, 0, none⟩)) (hB6 : Blk W g6 [a] 120) (hB7 : Blk W g7 [b] 46)
 (hP : ∀ w', Ext w w' -> Kp (fun k => lo ≤ k /\ ¬ fV W k) W w' -> P w' (.tuple #[a, b])) :
 bodyPostM Fence.wide 4 Tryz.prog Tryz.f66 (RetN w P) .ret { tmps := tmps, defers := ds } W := by
 refine fX hm fun w' e1 e2 e3 e4 e5 e6 => ?_
 have kx : Kp (fun k => lo ≤ k /\ ¬ fV W k) W w' := ⟨e1, e2, e3, by omega, fun k hk hf => by
  by_cases h : lo ≤ k
  ·by_cases h2 : ∃ o : Obj, W.heap[k]? = some o /\ o.isCells = true
   ·obtain ⟨o, h2, h3⟩ := h2
    rw [h2]; exact e6 k o h2 h3
   ·exact absurd ⟨h, h2⟩ hf
  ·exact e5 k (by omega)⟩
 have hx : Ext w w' := hk.trans' kx fun i hi h => absurd h.1 (by omega)
 refine ⟨.tuple #[a, b], ?_, RetN.mk hx (hP w' hx kx)⟩
 have hB62 : Blk w' g6 [a] 120 := hB6.kp kx fun h => h.2 ⟨_, hB6, rfl⟩
 have hB72 : Blk w' g7 [b] 46 := hB7.kp kx fun h => h.2 ⟨_, hB7, rfl⟩
 have c0 : w'.cell? ⟨g6, 0, none⟩ = some a := by rw [hB62.cell']; rfl
 have c1 : w'.cell? ⟨g7, 0, none⟩ = some b := by rw [hB72.cell']; rfl
 have h6' : tmps[6]?.getD undef = .pointer (some ⟨g6, 0, none⟩) := by simpa using h6
 have h7' : tmps[7]?.getD undef = .pointer (some ⟨g7, 0, none⟩) := by simpa using h7
 simp [results, Tryz.f66, go_sem, h6', h7', c0, c1]
def fY (k : Int) (at_ : Nat) (L : aC) : Nat := L.foldl (fun f V => pA f (takeA k at_ V)) 0
theorem aAd (k : Int) (at_ : Nat) (L : aC) (V : List ByteArray) : fY k at_ (L ++ [V]) = pA (fY k at_ L) (takeA k at_ V) := by unfold fY; rw [List.foldl_append]; rfl
theorem zR {m : Nat} : ∀ {gs : List eT} (h V : List ByteArray), (∀ g ∈ gs, g.2.length ≤ m) -> ∀ g ∈ cK gs h V, g.2.length ≤ m + 1
 | [], h, V, hm, g, hg => by
  rw [List.mem_singleton.1 hg]; simp
 | x :: gs, h, V, hm, g, hg => by
  unfold cK at hg
  have hx := hm x (List.mem_cons_self ..)
  split at hg
  ·rcases List.mem_cons.1 hg with e | e
   ·rw [e]; simpa using hx
   ·have := hm g (List.mem_cons_of_mem _ e); omega
  ·rcases List.mem_cons.1 hg with e | e
   ·rw [e]; omega
   ·exact zR h V (fun g hg => hm g (List.mem_cons_of_mem _ hg)) g e
theorem zW (N : List ByteArray) (hs : List aF) (L : aC) : ∀ g ∈ bK N hs L, g.2.length ≤ L.length := by
 have key : ∀ (L : aC) (gs : List eT) (m : Nat), (∀ g ∈ gs, g.2.length ≤ m) -> ∀ g ∈ L.foldl (fun gs V => cK gs (bE N V hs) V) gs, g.2.length ≤ m + L.length := fun L => by
  induction L with
  | nil => intro gs m h; exact h
  | cons V L ih =>
   intro gs m h g hg
   have h2 := ih _ (m + 1) (zR (bE N V hs) V h) g hg
   rw [List.length_cons]; omega
 have := key L [] 0 (fun g hg => by cases hg)
 simpa [bK] using this
def gH (N : List ByteArray) (hs : List aF) (k at_ : Int) (L : aC) (w w' : World) (v : Value) : Prop :=
 ∃ lo bl mr lv bs ra, v = .tuple #[lv, .int .i64 (fY k at_.toNat L : Nat)] /\ GrpsAt w' lo (fun _ => False) bl mr k at_ (bK N hs L) lv bs ra /\ w.heap.size ≤ lo /\ w.heap.size ≤ bl /\ w.heap.size ≤ mr
structure GrpsB (w X : World) (gb a9 ob mr : Nat) (cs : List Value) (k at_ : Int) (s8 : ByteArray) : Prop where
 rule : Blk X gb cs 43
 r6 : Blk X (gb + 1) [.slice none 0 0] 120
 r7 : Blk X (gb + 1 + 1) [.int .i64 0] 46
 term : Blk X (gb + 1 + 1 + 1) [.int .i64 k, .string s8] 58
 plc : Blk X a9 [.int .i64 at_] 3
 ofb : Blk X ob [.map (some mr)] 184
 ext : Ext w X
theorem GrpsB.kp {F : Nat -> Prop} {w X Y : World} {gb a9 ob mr : Nat} {cs : List Value} {k at_ : Int} {s8 : ByteArray} (h : GrpsB w X gb a9 ob mr cs k at_ s8) (hk : Kp F X Y) (hF : ∀ q, F q -> w.heap.size ≤ q /\ q ≠ gb /\ q ≠ gb + 1 /\ q ≠ gb + 1 + 1 /\ q ≠ gb + 1 + 1 + 1 /\ q ≠ a9 /\ q ≠ ob) : GrpsB w Y gb a9 ob mr cs k at_ s8 :=
 ⟨h.rule.kp hk fun f => (hF _ f).2.1 rfl, h.r6.kp hk fun f => (hF _ f).2.2.1 rfl, h.r7.kp hk fun f => (hF _ f).2.2.2.1 rfl, h.term.kp hk fun f => (hF _ f).2.2.2.2.1 rfl, h.plc.kp hk fun f => (hF _ f).2.2.2.2.2.1 rfl, h.ofb.kp hk fun f => (hF _ f).2.2.2.2.2.2 rfl, h.ext.trans' hk fun i hi f => absurd hi (Nat.not_lt.2 (hF i f).1)⟩
def Loc4 (bl mr bn bf : Nat) : Nat -> Prop := fun q => q = bl \/ q = mr \/ q = bn \/ q = bf
def GrpsI (w8 : World) (bl mr bn bf : Nat) (k at_ : Int) (N : List ByteArray) (hs : List aF) (T : Nat -> Prop) (pre : List XB) (W : World) : Prop :=
 Kp (Loc4 bl mr bn bf) w8 W /\ (∀ q, T q -> w8.heap.size ≤ q) /\ Blk W bn [.int .i64 (pre.length : Nat)] 3 /\ Blk W bf [.int .i64 (fY k at_.toNat (pre.map Prod.snd) : Nat)] 46 /\ ∃ lv bs ra, GrpsAt W w8.heap.size T bl mr k at_ (bK N hs (pre.map Prod.snd)) lv bs ra
section
variable {w8 W1 W : World} {bl mr bn bf : Nat} {k at_ : Int} {N : List ByteArray} {hs : List aF} {T T' : Nat -> Prop} {pre : List XB}
theorem GrpsI.step (h : GrpsI w8 bl mr bn bf k at_ N hs T pre W1) (hl : bn < w8.heap.size /\ bf < w8.heap.size) (hk : Kp T W1 W) (hT : ∀ q, T' q -> tM T W1 W q) : GrpsI w8 bl mr bn bf k at_ N hs T' pre W := by
 obtain ⟨h1, h2, h3, h4, lv, bs, ra, h5⟩ := h
 refine ⟨h1.trans' hk fun i hi hf => absurd (h2 i hf) (by omega), fun q hq => ?_, h3.kp hk fun f => absurd (h2 _ f) (by omega), h4.kp hk fun f => absurd (h2 _ f) (by omega), lv, bs, ra, h5.step h2 hk hT⟩
 have := h1.size
 rcases hT q hq with h | h
 ·exact h2 q h
 ·omega
theorem GrpsI.put (h : GrpsI w8 bl mr bn bf k at_ N hs T pre W) {l : Nat} {o o' : Obj} (hl : w8.heap.size ≤ l) (hb : bn < w8.heap.size /\ bf < w8.heap.size) (ho : W.heap[l]? = some o) (hc : o.isCells = false) : GrpsI w8 bl mr bn bf k at_ N hs T pre (W.putObj l o') := by
 obtain ⟨h1, h2, h3, h4, lv, bs, ra, h5⟩ := h
 have hk : Kp (fun q => q = l) W (W.putObj l o') := Kp.putF (F := fun q => q = l) rfl _
 exact ⟨h1.trans' hk fun i hi hf => by have e : i = l := hf; omega, h2, h3.kp hk (fun e => by have e' : bn = l := e; omega), h4.kp hk (fun e => by have e' : bf = l := e; omega), lv, bs, ra, h5.put hl ho hc⟩
theorem GrpsI.start (h1 : Blk w8 bl [.slice none 0 0] 120) (h2 : MapIs w8 mr []) (h3 : Blk w8 bn [.int .i64 0] 3) (h4 : Blk w8 bf [.int .i64 0] 46) : GrpsI w8 bl mr bn bf k at_ N hs (fun _ => False) [] w8 :=
 ⟨Kp.refl _, fun q h => h.elim, h3, h4, .slice none 0 0, fun _ => ⟨0, 0, 0, 0, 0, 0, 0⟩, fun _ => none, ⟨h1, Row.nil _ _ _ _, h2, fun i g h => by simp [bK] at h, fun i g h => by simp [bK] at h, fun i h => by simp [bK] at h, fun i j h => by simp [bK] at h, h1.lt, h2.lt⟩⟩
end
noncomputable def mX : Code := aCt 3 (Tryz.f66.body.getD .skip)
set_option maxHeartbeats 16000000 in
theorem zS {w W4 : World} {gb a9 : Nat} {p : ByteArray} {hs : List aF} {ls : List aQ} {ha ba : Option Addr} {hn hcap n bcap : Nat} {o : Option Addr} {L : aC} {k at_ : Int} {s8 : ByteArray} {t : Array Value}
 (hb0 : Blk W4 gb [.string p, .slice ha hn hcap, .slice ba n bcap] 43) (hb1 : Blk W4 (gb + 1) [.slice none 0 0] 120) (hb2 : Blk W4 (gb + 1 + 1) [.int .i64 0] 46) (hb3 : Blk W4 (gb + 1 + 1 + 1) [.int .i64 k, .string s8] 58) (hb9 : Blk W4 a9 [.int .i64 at_] 3) (hx4 : Ext w W4) (hgb : gb = w.heap.size)
 (hEa : ∀ W, Ext w W -> Calls Tryz.prog 112 #[eV p ha hn hcap ba n bcap, .pointer o] W (RetN W fun w' v => aDe W w' L v))
 (hHd : ∀ W, Ext w W -> ∀ (V : List ByteArray) (va : Option Addr) (nb vc : Nat), nb = V.length -> CellsAt W va (strs V) -> nb ≤ 1048576 -> Calls Tryz.prog 113 #[eV p ha hn hcap ba n bcap, .slice va nb vc] W (RetN W fun w' v => xN ((p, hs, ()), ls, ()) V W w' v))
 (hL : ∀ V ∈ L, V.length = (aA ls).length) (hnv : (aA ls).length ≤ 1048576) (hhl : hs.length ≤ 1048576) (hc : aT ((p, hs, ()), ls, ()) = 0) (hk : 4 ≤ k /\ k ≤ 7) (hat : k ≠ 4 -> 0 ≤ at_ /\ at_ < (aA ls).length) (hN : NumW w) (hLl : L.length ≤ 1048576) (hVs : ∀ V ∈ L, ∀ s ∈ V, s.size ≤ 1048576) (hHs : ∀ V ∈ L, ∀ s ∈ bE (aA ls) V hs, s.size ≤ 1048576)
 (hz : t.size = 83) (t1 : t.getD 1 undef = .pointer o) (t3 : t.getD 3 undef = .pointer (some ⟨gb, 0, none⟩)) (t6 : t.getD 6 undef = .pointer (some ⟨gb + 1, 0, none⟩)) (t7 : t.getD 7 undef = .pointer (some ⟨gb + 1 + 1, 0, none⟩)) (t8 : t.getD 8 undef = .pointer (some ⟨gb + 1 + 1 + 1, 0, none⟩)) (t9 : t.getD 9 undef = .pointer (some ⟨a9, 0, none⟩)) :
 mX.wp Tryz.prog (bodyPostM Fence.wide 4 Tryz.prog Tryz.f66 (RetN w fun w' v => gH (aA ls) hs k at_ L w w' v)) { tmps := t, defers := [] } W4 := by
 obtain ⟨u, hu, rfl⟩ := aGq t hz
 have e1 := (hu 1).symm.trans t1
 have e3 := (hu 3).symm.trans t3
 have e6 := (hu 6).symm.trans t6
 have e7 := (hu 7).symm.trans t7
 have e8 := (hu 8).symm.trans t8
 have e9 := (hu 9).symm.trans t9
 rw [e1, e3, e6, e7, e8, e9]
 clear hz t1 t3 t6 t7 t8 t9 e1 e3 e6 e7 e8 e9 hu
 have HEa := qH hEa
 have HHd := qH hHd
 have HN := qH (And.intro hL (And.intro hnv (And.intro hhl (And.intro hc (And.intro hk (And.intro hat (And.intro hN (And.intro hLl (And.intro hVs hHs)))))))))
 obtain ⟨bl, ebl⟩ : ∃ g, W4.heap.size = g := ⟨_, rfl⟩
 obtain ⟨w5, e5⟩ : ∃ x, W4.alloc (.cells #[.slice none 0 0] 120) = x := ⟨_, rfl⟩
 obtain ⟨w6, e6⟩ : ∃ x, w5.alloc (.map #[] 0) = x := ⟨_, rfl⟩
 obtain ⟨w7, e7⟩ : ∃ x, w6.alloc (.cells #[.map (some (bl + 1))] 184) = x := ⟨_, rfl⟩
 obtain ⟨w8, e8⟩ : ∃ x, w7.alloc (.cells #[.int .i64 0] 3) = x := ⟨_, rfl⟩
 obtain ⟨w9, e9⟩ : ∃ x, w8.alloc (.cells #[.int .i64 0] 46) = x := ⟨_, rfl⟩
 have s5 : w5.heap.size = bl + 1 := by rw [<- e5, aK, ebl]
 have s6 : w6.heap.size = bl + 1 + 1 := by rw [<- e6, World.size_alloc, s5]
 have s7 : w7.heap.size = bl + 1 + 1 + 1 := by rw [<- e7, aK, s6]
 have s8' : w8.heap.size = bl + 1 + 1 + 1 + 1 := by rw [<- e8, aK, s7]
 have x5 : Ext W4 w5 := by rw [<- e5]; exact (Kp.refl W4).alloc _
 have x6 : Ext w5 w6 := by rw [<- e6]; exact (Kp.refl w5).alloc _
 have x7 : Ext w6 w7 := by rw [<- e7]; exact (Kp.refl w6).alloc _
 have x8 : Ext w7 w8 := by rw [<- e8]; exact (Kp.refl w7).alloc _
 have x9 : Ext w8 w9 := by rw [<- e9]; exact (Kp.refl w8).alloc _
 have x49 : Ext W4 w9 := x5.trans (x6.trans (x7.trans (x8.trans x9)))
 have b5 : Blk w9 bl [.slice none 0 0] 120 := Blk.ext (by have h := Blk.new W4 [.slice none 0 0] 120; rw [ebl] at h; rw [<- e5]; exact h) (x6.trans (x7.trans (x8.trans x9)))
 have b6 : MapIs w9 (bl + 1) [] := MapIs.ext (by have h := MapIs.new w5; rw [s5] at h; rw [<- e6]; exact h) (x7.trans (x8.trans x9))
 have b7 : Blk w9 (bl + 1 + 1) [.map (some (bl + 1))] 184 := Blk.ext (by have h := Blk.new w6 [.map (some (bl + 1))] 184; rw [s6] at h; rw [<- e7]; exact h) (x8.trans x9)
 have b8 : Blk w9 (bl + 1 + 1 + 1) [.int .i64 0] 3 := Blk.ext (by have h := Blk.new w7 [.int .i64 0] 3; rw [s7] at h; rw [<- e8]; exact h) x9
 have b9 : Blk w9 (bl + 1 + 1 + 1 + 1) [.int .i64 0] 46 := by have h := Blk.new w8 [.int .i64 0] 46; rw [s8'] at h; rw [<- e9]; exact h
 have H9 := qH (show GrpsB w w9 gb a9 (bl + 1 + 1) (bl + 1) [.string p, .slice ha hn hcap, .slice ba n bcap] k at_ s8 from ⟨hb0.ext x49, hb1.ext x49, hb2.ext x49, hb3.ext x49, hb9.ext x49, b7, hx4.trans x49⟩)
 have HM := qH (And.intro b5 (And.intro b6 (And.intro b8 b9)))
 have HO := qH (show gb + 1 + 1 + 1 < bl /\ a9 < bl /\ gb = w.heap.size from ⟨by rw [<- ebl]; exact hb3.lt, by rw [<- ebl]; exact hb9.lt, hgb⟩)
 have HEq := qH (And.intro ebl (And.intro e5 (And.intro e6 (And.intro e7 (And.intro e8 (And.intro e9 (And.intro s5 (And.intro s6 (And.intro s7 s8')))))))))
 have g0 : (((((W4.alloc (.cells #[.slice none 0 0] 120)).alloc (.map #[] 0)).alloc (.cells #[.map (some (bl + 1))] 184)).alloc (.cells #[.int .i64 0] 3)).alloc (.cells #[.int .i64 0] 46)).cell? ⟨gb, 0, none⟩ = some (.string p) := by rw [e5, e6, e7, e8, e9, H9.out.rule.cell']; rfl
 have g1 : (((((W4.alloc (.cells #[.slice none 0 0] 120)).alloc (.map #[] 0)).alloc (.cells #[.map (some (bl + 1))] 184)).alloc (.cells #[.int .i64 0] 3)).alloc (.cells #[.int .i64 0] 46)).cell? ⟨gb, 1, none⟩ = some (.slice ha hn hcap) := by rw [e5, e6, e7, e8, e9, H9.out.rule.cell']; rfl
 have g2 : (((((W4.alloc (.cells #[.slice none 0 0] 120)).alloc (.map #[] 0)).alloc (.cells #[.map (some (bl + 1))] 184)).alloc (.cells #[.int .i64 0] 3)).alloc (.cells #[.int .i64 0] 46)).cell? ⟨gb, 2, none⟩ = some (.slice ba n bcap) := by rw [e5, e6, e7, e8, e9, H9.out.rule.cell']; rfl
 clear e5 e6 e7 e8 e9 s5 s6 s7 s8'
 clear hEa hHd hL hnv hhl hc hk hat hN hLl hVs hHs x5 x6 x7 x8 x9 x49 b5 b6 b7 b8 b9 hb0 hb1 hb2 hb3 hb9 hx4 hgb
 obtain ⟨Q, eQ⟩ : ∃ Q, Q = bodyPostM Fence.wide 4 Tryz.prog Tryz.f66 (RetN w fun w' v => gH (aA ls) hs k at_ L w w' v) := ⟨_, rfl⟩
 rw [<- eQ]
 have EQ := qH eQ; clear eQ
 have hmm := @run_makeMap Tryz.prog
 conv => arg 2; whnf
 go_wp2_with fail
 obtain ⟨ebl, e5, e6, e7, e8, e9, -⟩ := HEq.out
 rw [e5, e6, e7, e8, e9]
 clear ebl e5 e6 e7 e8 e9 HEq hmm g0 g1 g2
 obtain ⟨ob, eob⟩ : ∃ x, bl + 1 + 1 = x := ⟨_, rfl⟩
 obtain ⟨mr, emr⟩ : ∃ x, bl + 1 = x := ⟨_, rfl⟩
 obtain ⟨bn, ebn⟩ : ∃ x, bl + 1 + 1 + 1 = x := ⟨_, rfl⟩
 obtain ⟨bf, ebf⟩ : ∃ x, bl + 1 + 1 + 1 + 1 = x := ⟨_, rfl⟩
 rw [ebf, ebn, eob, emr]
 rw [eob, emr] at H9
 rw [ebf, ebn, emr] at HM
 have HO2 := qH (show mr = bl + 1 /\ ob = bl + 1 + 1 /\ bn = bl + 1 + 1 + 1 /\ bf = bl + 1 + 1 + 1 + 1 from ⟨emr.symm, eob.symm, ebn.symm, ebf.symm⟩)
 clear eob emr ebn ebf
 refine (HEa.out w9 H9.out.ext).mono ?_
 rintro e w10 ⟨v10, rfl, hk10, xb, lo, hlo, rfl, hseq⟩
 have HS := qH (show xK Fence.wide 3 Tryz.prog 197 #[.pointer (some ⟨xb, 0, none⟩)] (fun x : XB => #[.slice x.1.1 x.1.2.1 x.1.2.2]) (fun k => lo ≤ k /\ k < w10.heap.size) GvRow (fun xs => xs.map Prod.snd = L) (fun pre => pre.map Prod.snd <+: L) w10 from hseq 3)
 have H10 := qH (H9.out.kp (F := fun _ => False) hk10 fun q h => h.elim)
 have HM10 := qH (show Blk w10 bl [.slice none 0 0] 120 /\ MapIs w10 mr [] /\ Blk w10 bn [.int .i64 0] 3 /\ Blk w10 bf [.int .i64 0] 46 from ⟨HM.out.1.ext hk10, HM.out.2.1.ext hk10, HM.out.2.2.1.ext hk10, HM.out.2.2.2.ext hk10⟩)
 have HLo := qH (show bf < lo /\ lo ≤ w10.heap.size + lo from ⟨Nat.lt_of_lt_of_le HM.out.2.2.2.lt hlo, by omega⟩)
 clear hseq hk10 hlo
 go_wp2_with fail
 have hbn10 : bn < w10.heap.size /\ bf < w10.heap.size := ⟨HM10.out.2.2.1.lt, HM10.out.2.2.2.lt⟩
 refine' wpIn_wide.1 (tO (F := Fence.wide) (n := 4) (w0 := w10) rfl (by omega) (gf := 197) (lb := #[.pointer (some ⟨xb, 0, none⟩)]) rfl trivial (enters_of Tryz.func197 (by kernel_rfl) rfl)
  HS.out (Kp.refl _) (fun k h => h.2) (fun _ => rfl) GvRow.put (GrpsI w10 bl mr bn bf k at_ (aA ls) hs) (fun _ _ _ _ => False)
  (fun T s W l o o' h _ hl ho hc => h.put hl hbn10 ho hc) (fun c T s W l o o' h _ hl ho hc => h)
  (fun W o h => h.step hbn10 ((Kp.refl W).alloc o) (fun k hk => hk.elim)) (GrpsI.start HM10.out.1 HM10.out.2.1 HM10.out.2.2.1 HM10.out.2.2.2) _ ?assign ?body ?done ?stop)
 case assign =>
  intro l x W K hK
  gi_wp2
  exact hK
 case stop =>
  rintro D c T pre W1 W hD hpre hX
  exact hX.elim
 case body =>
  rintro l T T' pre ⟨⟨xa, xn, xc⟩, V⟩ W1 W hI hT hk hsub hgv hpre
  have hTlt : ∀ k, T' k -> k < W.heap.size := fun k hk' => by
   rcases hsub k hk' with h | h
   ·exact Nat.lt_of_lt_of_le (hT k h) hk.size
   ·exact h.2
  obtain ⟨kX, hTge, hbn, hbf, lv, bs, ra, hG⟩ := hI
  have hown1 : ∀ i, i < (bK (aA ls) hs (pre.map Prod.snd)).length -> ∀ q, (bs i).own q -> q < W1.heap.size := fun i hi q hq => ((hG.grp i _ (qG hi)).lt q hq).1
  obtain ⟨kX2, hTge2, hbn2, hbf2, -⟩ := GrpsI.step ⟨kX, hTge, hbn, hbf, lv, bs, ra, hG⟩ hbn10 hk hsub
  have hG2 := hG.step hTge hk hsub
  obtain ⟨o1, o2, o3⟩ := HO.out
  obtain ⟨p1, p2, p3, p4⟩ := HO2.out
  have hA := H10.out.kp kX2 fun q f => by
   rcases f with f | f | f | f <;> omega
  obtain ⟨hx1, hxc⟩ := hgv.cells
  have hxn : xn = V.length := hx1.1
  have hxc2 : xc = V.length := hx1.2
  subst hxn hxc2
  have hpre2 : (pre.map Prod.snd) ++ [V] <+: L := by
   have h := hpre
   rw [List.map_append] at h
   exact h
  have hmem : V ∈ L := hpre2.subset (List.mem_append_right _ (List.mem_singleton.2 rfl))
  have hVl := HN.out.1 V hmem
  have hml : pre.length + 1 ≤ L.length := by
   have := hpre2.length_le
   simpa using this
  have hm16 := HN.out.2.2.2.2.2.2.2.1
  have hsz := kX2.size
  have hgn := sQ (aA ls) hs (pre.map Prod.snd)
  have hgB := zW (aA ls) hs (pre.map Prod.snd)
  rw [List.length_map] at hgn hgB
  have hVn : V.length ≤ 1048576 := by rw [hVl]; exact HN.out.2.1
  refine wpIn_mono (Q := iX (fun X' => KeepsFrom w10.heap.size W X' /\ Kp (fun k => ¬ fU (fun k => lo ≤ k /\ k < w10.heap.size) T' k) W X' /\ GrpsI w10 bl mr bn bf k at_ (aA ls) hs T' (pre ++ [((xa, V.length, V.length), V)]) X') (fun _ => False)) ?_ ?_
  ·show Code.wpIn _ _ _ mZ _ _ _
   refine wX (w0 := w) (hs := hs) (ls := ls) (p := p) (ha := ha) (ba := ba) (hn := hn) (hcap := hcap) (ln := n) (bcap := bcap) (m := pre.length) (n := V.length) (V := V) hG2 hA.rule hA.term hA.plc hA.ofb hbn2 hbf2 (by omega) (by omega) hA.ext (by omega) hgn hgB hTlt HN.out.2.2.2.2.1 rfl ?_ (fun h => by rw [hVl]; exact HN.out.2.2.2.2.2.1 h) HN.out.2.2.2.2.2.2.1 (HN.out.2.2.2.2.2.2.2.2.1 V hmem) hVn (fun W' hW' hcs => HHd.out W' hW' V xa V.length V.length rfl hcs hVn) HN.out.2.2.2.1 hVl HN.out.2.2.1 (HN.out.2.2.2.2.2.2.2.2.2 V hmem) rfl rfl rfl rfl rfl rfl rfl rfl rfl ?_
   ·rcases hgv.2 with h | ⟨g, rest, e, hb, h1, h2⟩
    ·exact .inl h
    ·exact .inr ⟨g, rest, e, hb, by have := kX.size; have : W1.heap.size ≤ g := h1; omega, fun i hi ho => by have := hown1 i hi g ho; have : W1.heap.size ≤ g := h1; omega⟩
   ·intro X' lv' bs' ra' q1 q2 q3 q4
    have hF : ∀ q, (q = bl \/ q = mr \/ q = bn \/ q = bf \/ lv.ownBlock = some q \/ ∃ i, i < (bK (aA ls) hs (pre.map Prod.snd)).length /\ (bs i).own q) -> ¬ T' q /\ (Loc4 bl mr bn bf q \/ (w10.heap.size ≤ q /\ fV W q)) := fun q hq => by
     rcases hq with e | e | e | e | e | ⟨i, hi, e⟩
     ·exact ⟨fun ht => by have := hTge2 q ht; omega, .inl (.inl e)⟩
     ·exact ⟨fun ht => by have := hTge2 q ht; omega, .inl (.inr (.inl e))⟩
     ·exact ⟨fun ht => by have := hTge2 q ht; omega, .inl (.inr (.inr (.inl e)))⟩
     ·exact ⟨fun ht => by have := hTge2 q ht; omega, .inl (.inr (.inr (.inr e)))⟩
     ·obtain ⟨cs, hb⟩ := aP hG2.row e
      exact ⟨(hG2.row.block q e).2, .inr ⟨(hG2.row.block q e).1, _, hb, rfl⟩⟩
     ·have h1 := hG2.own i hi q e
      exact ⟨h1.2, .inr ⟨h1.1, ((hG2.grp i _ (qG hi)).lt q e).2⟩⟩
    have hsn : bK (aA ls) hs ((pre ++ [((xa, V.length, V.length), V)]).map Prod.snd) = cK (bK (aA ls) hs (pre.map Prod.snd)) (bE (aA ls) V hs) V := by
     rw [List.map_append, List.map_singleton, zT]
    refine ⟨⟨q4.size, fun q ob2 hB hq ho => (q4.block q (lt_of_block hq) fun f => ?_).trans hq⟩, q4.mono fun q _ f hz => ?_, kX2.trans' q4 fun q hq f => ?_, hTge2, ?_, ?_, lv', bs', ra', ?_⟩
    ·rcases (hF q f).2 with h | ⟨_, ob3, h1, h2⟩
     ·rcases h with h | h | h | h <;> omega
     ·rw [hq] at h1; cases h1; rw [ho] at h2; cases h2
    ·rcases hz with hz | hz
     ·exact (hF q f).1 hz
     ·have h1 := HLo.out.1
      have h2 := hz.1
      have h3 := hz.2
      rcases (hF q f).2 with h | h
      ·rcases h with h | h | h | h <;> omega
      ·omega
    ·rcases (hF q f).2 with h | h
     ·exact h
     ·omega
    ·rw [List.length_append, List.length_singleton]; exact q2
    ·rw [List.map_append, List.map_singleton, aAd]; exact q3
    ·rw [hsn]; exact q1
  ·intro e a W' h
   cases e <;> first | exact h | exact h.elim
 case done =>
  rintro D T xs W1 W hD hxs hI hT hk hd
  obtain ⟨kX, -, hbn, hbf, lv, bs, ra, hG⟩ := hI.step (T' := fun _ => False) hbn10 hk (fun k hk' => hk'.elim)
  have hxs' : xs.map Prod.snd = L := hxs
  rw [hxs'] at hbf hG
  obtain ⟨o1, o2, o3⟩ := HO.out
  obtain ⟨p1, p2, p3, p4⟩ := HO2.out
  have hA := H10.out.kp kX fun q f => by
   rcases f with f | f | f | f <;> omega
  have hm1 : Marks w10.heap.size W [{ target := .collected D, args := #[] }] := ⟨[D], rfl, by simp, fun D' hD' => by rw [List.mem_singleton.1 hD']; exact ⟨hD, hd⟩⟩
  obtain ⟨la, lc, elv, -, -⟩ := hG.row.shape
  subst elv
  obtain ⟨gl, egl⟩ : ∃ x, (bK (aA ls) hs L).length = x := ⟨_, rfl⟩
  rw [egl] at hG
  obtain ⟨fz, efz⟩ : ∃ x, fY k at_.toNat L = x := ⟨_, rfl⟩
  rw [efz] at hbf
  have HZ := qH (And.intro hA (And.intro hm1 (And.intro kX (And.intro hbf (And.intro hG (And.intro efz egl))))))
  have HJ := qH (show ∀ w', Ext W w' -> (fun w' : World => w'.cell? ⟨bl, 0, none⟩ = some (.slice la gl lc) /\ w'.cell? ⟨bf, 0, none⟩ = some (.int .i64 (fz : Nat))) w' from fun w' hw => ⟨by rw [(hG.box.ext hw).cell']; rfl, by rw [(hbf.ext hw).cell']; rfl⟩)
  have hoff : bl ≠ gb + 1 /\ bf ≠ gb + 1 /\ gb + 1 + 1 ≠ gb + 1 := ⟨by omega, by omega, by omega⟩
  have HK := qH (show (W.drew.setCell ⟨gb + 1, 0, none⟩ (.slice la gl lc)).cell? ⟨bl, 0, none⟩ = some (.slice la gl lc) /\ (W.drew.setCell ⟨gb + 1, 0, none⟩ (.slice la gl lc)).cell? ⟨bf, 0, none⟩ = some (.int .i64 (fz : Nat)) /\ Blk (W.drew.setCell ⟨gb + 1, 0, none⟩ (.slice la gl lc)) (gb + 1 + 1) [.int .i64 0] 46 from
   ⟨by rw [((hG.box.ext (Kp.refl W).drew).other (p := ⟨gb + 1, 0, none⟩) hoff.1 _).cell']; rfl, by rw [((hbf.ext (Kp.refl W).drew).other (p := ⟨gb + 1, 0, none⟩) hoff.2.1 _).cell']; rfl, (hA.r7.ext (Kp.refl W).drew).other (p := ⟨gb + 1, 0, none⟩) hoff.2.2 _⟩)
  have HJ6 := qH (hA.r6.ext (Kp.refl W).drew)
  clear hA hm1 kX hbf hG efz egl hI hT hk hd hD hxs hxs' hbn o1 o2 o3 p1 p2 p3 p4 hbn10 hoff
  go_wp2_with fail
  refine qZ ?_
  refine aO (fun w' : World => w'.cell? ⟨bl, 0, none⟩ = some (.slice la gl lc) /\ w'.cell? ⟨bf, 0, none⟩ = some (.int .i64 (fz : Nat))) [3] (by kernel_rfl) (HJ.out _ (Kp.refl W).drew) (fun hHeld => ?_)
  refine dI 0 ?_; try simp only [Act.put,sI,sZ,sS]
  refine dI 1 ?_; try simp only [Act.put,sI,sZ,sS]
  refine aE (i := 2) ?_
  refine aG (i := 2) rfl (fun K hK => ?_)
  (have hc6 : W.cell? ⟨gb + 1, 0, none⟩ = some (.slice none 0 0) := (by rw [HZ.out.1.r6.cell']; rfl); have hf6 := HZ.out.1.r6.free 0)
  go_simp
  refine hK.out _ _ ?_ (fun hHeld => ?_)
  ·(try dsimp only); (exact ⟨HK.out.1, HK.out.2.1⟩)
  clear hK K; (try simp only [Act.put,sI,sZ,sS])
  refine aE (i := 3) ?_
  refine aJ (i := 3) rfl (by kernel_rfl) (fun K hK => ?_)
  (have hc7 : W.cell? ⟨gb + 1 + 1, 0, none⟩ = some (.int .i64 0) := (by rw [HZ.out.1.r7.cell']; rfl); have hf7 := HZ.out.1.r7.free 0)
  go_simp
  refine hK.out _ _ ?_
  clear hK K; (try simp only [Act.put,sI,sZ,sS])
  refine aI (by kernel_rfl) ?_ _
  refine eI ?_
  clear hHeld hc6 hf6 hc7 hf7
  go_wp2_with fail
  obtain ⟨hA, hm1, kX, hbf, hG, efz, egl⟩ := HZ.out
  obtain ⟨o1, o2, o3⟩ := HO.out
  obtain ⟨p1, p2, p3, p4⟩ := HO2.out
  have hne : gb + 1 ≠ gb + 1 + 1 := by omega
  have ks : Kp (fun q => q = gb + 1 \/ q = gb + 1 + 1) W ((W.setCell ⟨gb + 1, 0, none⟩ (.slice la gl lc)).setCell ⟨gb + 1 + 1, 0, none⟩ (.int .i64 (fz : Nat))).drew := (Kp.setCell (F := fun q => q = gb + 1 \/ q = gb + 1 + 1) (p := ⟨gb + 1 + 1, 0, none⟩) (Kp.setCell (F := fun q => q = gb + 1 \/ q = gb + 1 + 1) (p := ⟨gb + 1, 0, none⟩) (Kp.refl W) (fun _ => .inl rfl) _) (fun _ => .inr rfl) _).drew
  have hb6 : Blk ((W.setCell ⟨gb + 1, 0, none⟩ (.slice la gl lc)).setCell ⟨gb + 1 + 1, 0, none⟩ (.int .i64 (fz : Nat))).drew (gb + 1) [.slice la gl lc] 120 := ((hA.r6.set 0 (.slice la gl lc)).other (p := ⟨gb + 1 + 1, 0, none⟩) hne _).ext (Kp.refl _).drew
  have hb7 : Blk ((W.setCell ⟨gb + 1, 0, none⟩ (.slice la gl lc)).setCell ⟨gb + 1 + 1, 0, none⟩ (.int .i64 (fz : Nat))).drew (gb + 1 + 1) [.int .i64 (fz : Nat)] 46 := ((hA.r7.other (p := ⟨gb + 1, 0, none⟩) hne.symm (.slice la gl lc)).set 0 (.int .i64 (fz : Nat))).ext (Kp.refl _).drew
  generalize ((W.setCell ⟨gb + 1, 0, none⟩ (.slice la gl lc)).setCell ⟨gb + 1 + 1, 0, none⟩ (.int .i64 (fz : Nat))).drew = W2 at ks hb6 hb7 ⊢
  have hl10 : gb + 1 + 1 < w10.heap.size := H10.out.r7.lt
  have hs10 := H10.out.ext.size
  have hbl10 := HM10.out.1.lt
  have hmr10 := HM10.out.2.1.lt
  have hG2 : GrpsAt W2 w10.heap.size (fun _ => False) bl mr k at_ (bK (aA ls) hs L) (.slice la gl lc) bs ra := hG.kp ks (fun q hq f => by
   rcases (hG.lt hq).2 with e | e | e
   ·rcases f with f | f <;> omega
   ·rcases f with f | f <;> omega
   ·rcases f with f | f <;> omega) fun _ _ h => h
  rw [EQ.out]
  refine aCm (lo := w10.heap.size) (hm1.kp ks fun q f => by rcases f with f | f <;> omega) (hA.ext.trans' ks fun i hi f => by rcases f with f | f <;> omega) hs10 rfl rfl hb6 hb7 fun w' hx' kx => ⟨w10.heap.size, bl, mr, .slice la gl lc, bs, ra, by rw [efz], hG2.kp kx (fun q hq f => ?_) (fun _ _ h => h), hs10, by omega, by omega⟩
  rcases (hG2.lt hq).2 with e | e | e
  ·have := f.1; omega
  ·have := f.1; omega
  ·rcases hq with hq | hq | hq | ⟨i, hi, hq⟩ | ⟨i, hi, hq⟩
   ·omega
   ·omega
   ·obtain ⟨cs, hb⟩ := aP hG2.row hq
    exact f.2 ⟨_, hb, rfl⟩
   ·exact f.2 ((hG2.grp i _ (qG hi)).lt q hq).2
   ·rcases hG2.rows i _ (qG hi) with ⟨e2, _⟩ | ⟨q', rest, e2, hb, _⟩
    ·rw [e2] at hq; cases hq
    ·rw [e2] at hq; cases hq; exact f.2 ⟨_, hb, rfl⟩
end
section
def iO (k : Int) (at_ : Nat) : List eT -> Nat
 | [] => 0
 | g :: gs => if (eU k at_ g.2).2 ≠ 0 then (eU k at_ g.2).2 else iO k at_ gs
def jV (k : Int) (at_ j : Nat) (g : eT) : List ByteArray := g.1.take j ++ (eU k at_ g.2).1 :: g.1.drop j
def xJ (N : List ByteArray) (hs : List aF) (k : Int) (at_ j : Nat) (L : aC) : Nat × aC :=
 if fY k at_ L ≠ 0 then (fY k at_ L, []) else if iO k at_ (bK N hs L) ≠ 0 then (iO k at_ (bK N hs L), []) else bB hs.length [] ((bK N hs L).map (jV k at_ j))
theorem oN (k : Int) (at_ : Nat) : ∀ (a b : List eT), iO k at_ a = 0 -> iO k at_ (a ++ b) = iO k at_ b
 | [], b, _ => rfl
 | g :: a, b, h => by
  unfold iO at h
  rw [List.cons_append]
  show (if _ then _ else _) = _
  split at h
  ·rename_i h2; exact absurd h h2
  ·rename_i h2
   rw [if_neg h2]
   exact oN k at_ a b h
theorem aF4 {k : Int} {at_ : Nat} {gs : List eT} {i : Nat} {g : eT} (h : iO k at_ (gs.take i) = 0) (hg : gs[i]? = some g) : ((eU k at_ g.2).2 = 0 -> iO k at_ (gs.take (i + 1)) = 0) /\ ((eU k at_ g.2).2 ≠ 0 -> iO k at_ gs = (eU k at_ g.2).2) := by
 refine ⟨fun h0 => ?_, fun h0 => ?_⟩
 ·rw [nE hg, oN k at_ _ _ h]
  show (if _ then _ else _) = _
  rw [if_neg (fun e => e h0)]; rfl
 ·have e : gs = gs.take i ++ g :: gs.drop (i + 1) := by
   obtain ⟨hl, e2⟩ := List.getElem?_eq_some_iff.1 hg
   rw [<- e2, <- List.drop_eq_getElem_cons hl, List.take_append_drop]
  rw [e, oN k at_ _ _ h]
  show (if _ then _ else _) = _
  rw [if_pos h0]
theorem mV {r : cN} (hc : aT r = 0) : (∀ t ∈ r.1.2.1, 1 ≤ t.1 /\ t.1 ≤ 7) /\ qR r.1.2.1 < 2 := by
 unfold aT at hc
 split at hc
 ·rename_i hp
  unfold dM gR kinds at hp
  rw [Bool.and_eq_true, Bool.and_eq_true, Bool.and_eq_true] at hp
  exact ⟨fun t ht => of_decide_eq_true (List.all_eq_true.1 hp.1.1.1 t ht), of_decide_eq_true hp.1.1.2⟩
 ·cases hc
theorem aG6 {r : cN} (hc : aT r = 0) {t : aF} (ht : t ∈ r.1.2.1) (h3 : t.1 ≠ 3) (h4 : t.1 ≠ 4) : 0 ≤ bC (fun x => decide (x = t.2.1)) (aA r.2.1) /\ bC (fun x => decide (x = t.2.1)) (aA r.2.1) < (aA r.2.1).length := by
 unfold aT at hc
 split at hc
 ·split at hc
  ·rename_i hs
   unfold kR at hs
   rw [Bool.and_eq_true] at hs
   have h := List.all_eq_true.1 hs.1 t ht
   unfold cZ at h
   split at h
   ·cases h
   ·have h2 := of_decide_eq_true h
    have h5 : iZ (aA r.2.1) t.2.1 = true := by
     rcases h2 with h2 | h2 | h2
     ·exact absurd h2 h3
     ·exact absurd h2 h4
     ·exact h2
    unfold bC
    unfold iZ at h5
    rw [if_pos h5]
    have h6 : (aA r.2.1).findIdx (fun x => decide (x = t.2.1)) < (aA r.2.1).length := List.findIdx_lt_length.2 (List.any_eq_true.1 h5)
    omega
  ·cases hc
 ·cases hc
theorem aAg (N V : List ByteArray) : ∀ (ts : List aF), (∀ t ∈ ts, t.1 = 1 \/ t.1 = 3 \/ 4 ≤ t.1) -> (bE N V ts).length + qR ts = ts.length
 | [], _ => rfl
 | t :: ts, h => by
  have ih := aAg N V ts fun u hu => h u (List.mem_cons_of_mem _ hu)
  unfold bE qR at ih ⊢
  rw [List.filterMap_cons, List.countP_cons]
  rcases h t (List.mem_cons_self ..) with h1 | h1 | h1
  ·simp [h1]; omega
  ·simp [h1]; omega
  ·have e3 : ¬ t.1 = 3 := by omega
   have e1 : ¬ t.1 = 1 := by omega
   simp [e3, e1, h1]; omega
theorem vC {r : cN} (hc : aT r = 0) {j : Nat} {t : aF} (hj : r.1.2.1[j]? = some t) (h4 : 4 ≤ t.1) (N V : List ByteArray) : (bE N V r.1.2.1).length + 1 = r.1.2.1.length := by
 have h1 := aAg N V r.1.2.1 fun u hu => by
  rcases uM hc u hu with h | h | h
  ·exact .inl h.1
  ·exact .inr (.inl h)
  ·exact .inr (.inr h)
 have h2 := (mV hc).2
 have h3 : 0 < qR r.1.2.1 := List.countP_pos_iff.2 ⟨t, List.mem_of_getElem? hj, by simpa using h4⟩
 omega
theorem pW {P : List ByteArray -> Prop} : ∀ {gs : List eT} {h V : List ByteArray}, (∀ g ∈ gs, P g.1) -> P h -> ∀ g ∈ cK gs h V, P g.1
 | [], h, V, _, hp, g, hg => by rw [List.mem_singleton.1 hg]; exact hp
 | x :: gs, h, V, ha, hp, g, hg => by
  unfold cK at hg
  have hx := ha x (List.mem_cons_self ..)
  split at hg
  ·rcases List.mem_cons.1 hg with e | e
   ·rw [e]; exact hx
   ·exact ha g (List.mem_cons_of_mem _ e)
  ·rcases List.mem_cons.1 hg with e | e
   ·rw [e]; exact hx
   ·exact pW (fun g hg => ha g (List.mem_cons_of_mem _ hg)) hp g e
theorem zV (N : List ByteArray) (hs : List aF) (L : aC) : ∀ g ∈ bK N hs L, ∃ V ∈ L, g.1 = bE N V hs := by
 have key : ∀ (L2 L : aC) (gs : List eT), (∀ V ∈ L2, V ∈ L) -> (∀ g ∈ gs, ∃ V ∈ L, g.1 = bE N V hs) -> ∀ g ∈ L2.foldl (fun gs V => cK gs (bE N V hs) V) gs, ∃ V ∈ L, g.1 = bE N V hs := fun L2 L => by
  induction L2 with
  | nil => intro gs _ h; exact h
  | cons V L2 ih =>
   intro gs hm h
   exact ih _ (fun U hU => hm U (List.mem_cons_of_mem _ hU)) (pW (P := fun x => ∃ V ∈ L, x = bE N V hs) h ⟨V, hm V (List.mem_cons_self ..), rfl⟩)
 exact key L L [] (fun _ h => h) fun g hg => by cases hg
end
section
open Go.RowKit Go.Shelf
attribute [local go_sem] Oper.semAt_some
theorem cell0 {W : World} {g : Nat} {v : Value} {e : TypeId} (h : Blk W g [v] e) : W.cell? ⟨g, 0, none⟩ = some v := by rw [h.cell']; rfl
set_option maxHeartbeats 16000000 in
theorem aCn {S : Nat -> Prop} {w : World} {p : ByteArray} {hs : List aF} {ls : List aQ} {ha ba : Option Addr} {hn hcap n bcap j : Nat} {G : Nat -> Prop} {o : Option Addr} {E : List Ent} {L : aC} {k at_ : Int} {s8 : ByteArray} (hhn : hn = hs.length) (hh : bD w G ha hs) (hhl : hn ≤ 1048576) (hbn : n = ls.length) (h : dC w G ba ls) (hf : Fit ls) (hnv : (aA ls).length ≤ 1048576) (hn16 : n ≤ 1048576)
 (hB : BaseV S w (.pointer o) E) (hL : mD ((p, hs, ()), ls, ()) (bZ (yT ls E) ls) L) (hc : aT ((p, hs, ()), ls, ()) = 0) (hj : hs[j]? = some (k, s8, ())) (hk : 4 ≤ k /\ k ≤ 7) (hat0 : bC (fun x => decide (x = s8)) (aA ls) = at_) (hat : k ≠ 4 -> 0 ≤ at_ /\ at_ < (aA ls).length) (hN : NumW w) (hLl : L.length ≤ 1048576) (hVs : ∀ V ∈ L, ∀ s ∈ V, s.size ≤ 1048576) (hHs : ∀ V ∈ L, ∀ s ∈ bE (aA ls) V hs, s.size ≤ 1048576) :
 Calls Tryz.prog 66 #[eV p ha hn hcap ba n bcap, .pointer o, .int .i64 (j : Nat)] w (RetN w fun w' v => gH (aA ls) hs k at_ L w w' v) := by
 have HEa := qH (fun W (hW : Ext w W) => aHk (hcap := hcap) (bcap := bcap) (p := p) hhn (hh.ext hW) (by omega) hbn (h.ext hW) hf hnv hn16 (hB.ext hW) hL)
 have HHd := qH (fun W (hW : Ext w W) (V : List ByteArray) (va : Option Addr) (nb vc : Nat) (hV : nb = V.length) (hc : CellsAt W va (strs V)) (hb : nb ≤ 1048576) => aEx (hcap := hcap) (bcap := bcap) (p := p) (vc := vc) hhn (hh.ext hW) hhl hbn (h.ext hW) hf hnv hV hc hb)
 have HVa := qH (fun W (hW : Ext w W) => wV p hs ls ha hn hcap ba n bcap W G hhn (hh.ext hW) hhl hbn (h.ext hW) hf hc)
 have HN := qH (And.intro hhn (And.intro hhl (And.intro hL (And.intro hnv (And.intro hc (And.intro hk (And.intro hat (And.intro hN (And.intro hLl (And.intro hVs hHs))))))))))
 have hjl := (List.getElem?_eq_some_iff.1 hj).1
 have i1 : (j : Int) < (hn : Int) := by omega
 obtain ⟨tb, off, eha, f0, f1, -, -⟩ := eF hh hj
 subst eha
 simp only at f0 f1
 have HAt := qH hat0
 obtain ⟨gb, egb⟩ : ∃ g, w.heap.size = g := ⟨_, rfl⟩
 obtain ⟨w1, e1⟩ : ∃ x, w.alloc (.cells #[.string p, .slice (some ⟨tb, off, none⟩) hn hcap, .slice ba n bcap] 43) = x := ⟨_, rfl⟩
 obtain ⟨w2, e2⟩ : ∃ x, w1.alloc (.cells #[.slice none 0 0] 120) = x := ⟨_, rfl⟩
 obtain ⟨w3, e3⟩ : ∃ x, w2.alloc (.cells #[.int .i64 0] 46) = x := ⟨_, rfl⟩
 obtain ⟨w4, e4⟩ : ∃ x, w3.alloc (.cells #[.int .i64 k, .string s8] 58) = x := ⟨_, rfl⟩
 have s1 : w1.heap.size = gb + 1 := by rw [<- e1, aK, egb]
 have s2 : w2.heap.size = gb + 1 + 1 := by rw [<- e2, aK, s1]
 have s3 : w3.heap.size = gb + 1 + 1 + 1 := by rw [<- e3, aK, s2]
 have x1 : Ext w w1 := by rw [<- e1]; exact (Kp.refl w).alloc _
 have x2 : Ext w1 w2 := by rw [<- e2]; exact (Kp.refl w1).alloc _
 have x3 : Ext w2 w3 := by rw [<- e3]; exact (Kp.refl w2).alloc _
 have x4 : Ext w3 w4 := by rw [<- e4]; exact (Kp.refl w3).alloc _
 have H4 := qH (show Blk w4 gb [.string p, .slice (some ⟨tb, off, none⟩) hn hcap, .slice ba n bcap] 43 /\ Blk w4 (gb + 1) [.slice none 0 0] 120 /\ Blk w4 (gb + 1 + 1) [.int .i64 0] 46 /\ Blk w4 (gb + 1 + 1 + 1) [.int .i64 k, .string s8] 58 /\ Ext w w4 from
  ⟨Blk.ext (by have h := Blk.new w [.string p, .slice (some ⟨tb, off, none⟩) hn hcap, .slice ba n bcap] 43; rw [egb] at h; rw [<- e1]; exact h) (x2.trans (x3.trans x4)), Blk.ext (by have h := Blk.new w1 [.slice none 0 0] 120; rw [s1] at h; rw [<- e2]; exact h) (x3.trans x4), Blk.ext (by have h := Blk.new w2 [.int .i64 0] 46; rw [s2] at h; rw [<- e3]; exact h) x4, by have h := Blk.new w3 [.int .i64 k, .string s8] 58; rw [s3] at h; rw [<- e4]; exact h, x1.trans (x2.trans (x3.trans x4))⟩)
 have HB3 := qH (show Blk w3 gb [.string p, .slice (some ⟨tb, off, none⟩) hn hcap, .slice ba n bcap] 43 from Blk.ext (by have h := Blk.new w [.string p, .slice (some ⟨tb, off, none⟩) hn hcap, .slice ba n bcap] 43; rw [egb] at h; rw [<- e1]; exact h) (x2.trans x3))
 have r1 : w3.cell? ⟨gb, 1, none⟩ = some (.slice (some ⟨tb, off, none⟩) hn hcap) := by rw [HB3.out.cell']; rfl
 replace f0 := (x1.trans (x2.trans x3)).cell f0 id
 replace f1 := (x1.trans (x2.trans x3)).cell f1 id
 have HG := qH egb
 have HEq := qH (And.intro e1 (And.intro e2 (And.intro e3 (And.intro e4 (And.intro s1 (And.intro s2 s3))))))
 have HT := qH (show ∀ (W : World) (a9 : Nat) (t : Array Value), Ext w4 W -> Blk W a9 [.int .i64 at_] 3 -> t.size = 83 -> t.getD 1 undef = .pointer o -> t.getD 3 undef = .pointer (some ⟨gb, 0, none⟩) -> t.getD 6 undef = .pointer (some ⟨gb + 1, 0, none⟩) -> t.getD 7 undef = .pointer (some ⟨gb + 1 + 1, 0, none⟩) -> t.getD 8 undef = .pointer (some ⟨gb + 1 + 1 + 1, 0, none⟩) -> t.getD 9 undef = .pointer (some ⟨a9, 0, none⟩) ->
  mX.wp Tryz.prog (bodyPostM Fence.wide 4 Tryz.prog Tryz.f66 (RetN w fun w' v => gH (aA ls) hs k at_ L w w' v)) { tmps := t, defers := [] } W from fun W a9 t hW hb9 hz t1 t3 t6 t7 t8 t9 => by
  obtain ⟨q1, q2, q3, q4, q5⟩ := H4.out
  exact zS (q1.ext hW) (q2.ext hW) (q3.ext hW) (q4.ext hW) hb9 (q5.trans hW) egb.symm
   (fun W hW => HEa.out W hW) (fun W hW V va nb vc h1 h2 h3 => HHd.out W hW V va nb vc h1 h2 h3) (fun V hV => ((hL.1 hc).iff V).1 hV |>.1) hnv (by omega) hc hk hat hN hLl hVs hHs hz t1 t3 t6 t7 t8 t9)
 have hnv2 := hnv
 have HJ := qH (show ∀ w', Ext w4 w' -> (fun w' : World => w'.cell? ⟨gb, 0, none⟩ = some (.string p) /\ w'.cell? ⟨gb, 1, none⟩ = some (.slice (some ⟨tb, off, none⟩) hn hcap) /\ w'.cell? ⟨gb, 2, none⟩ = some (.slice ba n bcap) /\ w'.cell? ⟨gb + 1 + 1 + 1, 1, none⟩ = some (.string s8)) w' from fun w' hw => ⟨by rw [(H4.out.1.ext hw).cell']; rfl, by rw [(H4.out.1.ext hw).cell']; rfl, by rw [(H4.out.1.ext hw).cell']; rfl, by rw [(H4.out.2.2.2.1.ext hw).cell']; rfl⟩)
 clear hhn hh hhl hbn h hf hnv hn16 hB hL hc hj hk hat0 hat hN hLl hVs hHs x1 x2 x3 x4 hjl
 refine callsIn_wide.1 (callsIn_of_wp_marks (n := 4) Tryz.func66 rfl trivial ?_ rfl)
 refine wpIn_wide.2 ?_
 obtain ⟨Q, eQ⟩ : ∃ Q, Q = bodyPostM Fence.wide 4 Tryz.prog Tryz.f66 (RetN w fun w' v => gH (aA ls) hs k at_ L w w' v) := ⟨_, rfl⟩
 rw [<- eQ]
 have EQ := qH eQ; clear eQ
 simp only [Tryz.ntmps66, List.size_toArray, List.length_cons, List.length_nil, Nat.reduceAdd, Nat.reduceSub, Array.replicate_succ, Array.replicate_zero, List.push_toArray, List.append_toArray, List.nil_append, List.cons_append]
 conv => arg 2; whnf
 show Code.wp _ (Code.seq _ (Code.seq _ (Code.seq _ mX))) _ _ _
 go_wp2_with fail
 clear e1 e2 e3 e4 s1 s2 s3 r1 f0 f1 i1 HEq HB3
 refine qZ ?_
 refine aO (fun w' : World => w'.cell? ⟨gb, 0, none⟩ = some (.string p) /\ w'.cell? ⟨gb, 1, none⟩ = some (.slice (some ⟨tb, off, none⟩) hn hcap) /\ w'.cell? ⟨gb, 2, none⟩ = some (.slice ba n bcap) /\ w'.cell? ⟨gb + 1 + 1 + 1, 1, none⟩ = some (.string s8)) [6] (by kernel_rfl) (HJ.out _ (Kp.refl w4).drew) (fun hHeld => ?_)
 refine dI 0 ?_; try simp only [Act.put,sI,sZ,sS]
 refine dF 2 ?_; try simp only [Act.put,sI,sZ,sS]
 refine dI 3 ?_; try simp only [Act.put,sI,sZ,sS]
 refine tD (i := 1) (k := 5) ?_ ?_
 ·refine aG (i := 1) rfl (fun K hK => ?_)
  go_simp
  (refine (HVa.out _ (by first | exact H4.out.2.2.2.2.trans (Kp.refl w4).drew | exact H4.out.2.2.2.2.trans ((Kp.refl w4).drew.alloc _))).mono ?_; rintro e w5 ⟨v5, rfl, hk5, ao, cap, rfl, hcap, hcs, -, -⟩; have X5 := qH (show Ext w4 w5 from by first | exact (Kp.refl w4).drew.trans hk5 | exact ((Kp.refl w4).drew.alloc _).trans hk5); have HC5 := qH hcs; have K5 := qH hk5; clear hk5 hcs hcap)
  go_wp2_with fail
  refine hK.out _ _ ?_ (fun hHeld => ?_)
  ·(try dsimp only); (exact HJ.out _ X5.out)
  clear hK K; (try simp only [Act.put,sI,sZ,sS])
  refine tD (i := 4) (k := 5) ?_ ?_
  ·refine aG (i := 4) rfl (fun K hK => ?_)
   go_simp
   (refine (dY (aA ls) s8 ao (aA ls).length cap _ rfl (by first | exact HC5.out | exact HC5.out.ext ((Kp.refl _).alloc _)) (by omega)).mono ?_; rintro e w6 ⟨v6, rfl, hk6, rfl⟩; rw [HAt.out]; have X6 := qH (show Ext w4 w6 from by first | exact X5.out.trans hk6 | exact (X5.out.alloc _).trans hk6); have K6 := qH hk6; clear hk6)
   go_wp2_with fail
   refine hK.out _ _ ?_ (fun hHeld => ?_)
   ·(try dsimp only); (exact HJ.out _ X6.out)
   clear hK K; (try simp only [Act.put,sI,sZ,sS])
   refine aE (i := 5) ?_
   refine aG (i := 5) rfl (fun K hK => ?_)
   (first | have HA9 := qH (Blk.new w6 [.int .i64 0] 3) | have HA9 := qH (Blk.new w5 [.int .i64 0] 3) | have HA9 := qH (show Blk (w4.drew.alloc (.cells #[.int .i64 0] 3)) w4.heap.size [.int .i64 0] 3 from Blk.new w4.drew [.int .i64 0] 3))
   go_simp
   refine hK.out _ _ ?_ (fun hHeld => ?_)
   ·(try dsimp only); (first | exact HJ.out _ (X6.out.alloc _) | exact HJ.out _ (X5.out.alloc _) | exact HJ.out _ ((Kp.refl w4).drew.alloc _))
   clear hK K; (try simp only [Act.put,sI,sZ,sS])
   refine aE (i := 6) ?_
   refine aJ (i := 6) rfl (by kernel_rfl) (fun K hK => ?_)
   (first | (have hb9 := (HA9.out.ext K5.out).ext K6.out; have hc9 := cell0 hb9; have hf9 := hb9.free 0) | (have hb9 := HA9.out.ext K6.out; have hc9 := cell0 hb9; have hf9 := hb9.free 0) | skip)
   go_simp
   refine hK.out _ _ ?_
   clear hK K; (try simp only [Act.put,sI,sZ,sS])
   refine aI (by kernel_rfl) ?_ _
   refine eI ?_
   go_wp2_with fail
   rw [EQ.out]
   refine HT.out _ _ _ ?_ ?_ rfl rfl rfl rfl rfl rfl rfl
   ·first | exact X6.out.alloc _ | exact X6.out.trans' (Kp.setCell (F := fun q => q = w5.heap.size) (p := ⟨w5.heap.size, 0, none⟩) (Kp.refl _) (fun _ => rfl) _) (fun i hi e => by have e' : i = w5.heap.size := e; have := X5.out.size; omega) | exact X6.out.trans' (Kp.setCell (F := fun q => q = w4.heap.size) (p := ⟨w4.heap.size, 0, none⟩) (Kp.refl _) (fun _ => rfl) _) (fun i hi e => by have e' : i = w4.heap.size := e; omega)
   ·first | exact Blk.new w6 [.int .i64 at_] 3 | exact hb9.set 0 _
  ·refine aG (i := 5) rfl (fun K hK => ?_)
   (first | have HA9 := qH (Blk.new w6 [.int .i64 0] 3) | have HA9 := qH (Blk.new w5 [.int .i64 0] 3) | have HA9 := qH (show Blk (w4.drew.alloc (.cells #[.int .i64 0] 3)) w4.heap.size [.int .i64 0] 3 from Blk.new w4.drew [.int .i64 0] 3))
   go_simp
   refine hK.out _ _ ?_ (fun hHeld => ?_)
   ·(try dsimp only); (first | exact HJ.out _ (X6.out.alloc _) | exact HJ.out _ (X5.out.alloc _) | exact HJ.out _ ((Kp.refl w4).drew.alloc _))
   clear hK K; (try simp only [Act.put,sI,sZ,sS])
   refine aE (i := 4) ?_
   refine aG (i := 4) rfl (fun K hK => ?_)
   go_simp
   (refine (dY (aA ls) s8 ao (aA ls).length cap _ rfl (by first | exact HC5.out | exact HC5.out.ext ((Kp.refl _).alloc _)) (by omega)).mono ?_; rintro e w6 ⟨v6, rfl, hk6, rfl⟩; rw [HAt.out]; have X6 := qH (show Ext w4 w6 from by first | exact X5.out.trans hk6 | exact (X5.out.alloc _).trans hk6); have K6 := qH hk6; clear hk6)
   go_wp2_with fail
   refine hK.out _ _ ?_ (fun hHeld => ?_)
   ·(try dsimp only); (exact HJ.out _ X6.out)
   clear hK K; (try simp only [Act.put,sI,sZ,sS])
   refine aE (i := 6) ?_
   refine aJ (i := 6) rfl (by kernel_rfl) (fun K hK => ?_)
   (first | (have hb9 := (HA9.out.ext K5.out).ext K6.out; have hc9 := cell0 hb9; have hf9 := hb9.free 0) | (have hb9 := HA9.out.ext K6.out; have hc9 := cell0 hb9; have hf9 := hb9.free 0) | skip)
   go_simp
   refine hK.out _ _ ?_
   clear hK K; (try simp only [Act.put,sI,sZ,sS])
   refine aI (by kernel_rfl) ?_ _
   refine eI ?_
   go_wp2_with fail
   rw [EQ.out]
   refine HT.out _ _ _ ?_ ?_ rfl rfl rfl rfl rfl rfl rfl
   ·first | exact X6.out.alloc _ | exact X6.out.trans' (Kp.setCell (F := fun q => q = w5.heap.size) (p := ⟨w5.heap.size, 0, none⟩) (Kp.refl _) (fun _ => rfl) _) (fun i hi e => by have e' : i = w5.heap.size := e; have := X5.out.size; omega) | exact X6.out.trans' (Kp.setCell (F := fun q => q = w4.heap.size) (p := ⟨w4.heap.size, 0, none⟩) (Kp.refl _) (fun _ => rfl) _) (fun i hi e => by have e' : i = w4.heap.size := e; omega)
   ·first | exact Blk.new w6 [.int .i64 at_] 3 | exact hb9.set 0 _
 ·refine aG (i := 5) rfl (fun K hK => ?_)
  (first | have HA9 := qH (Blk.new w6 [.int .i64 0] 3) | have HA9 := qH (Blk.new w5 [.int .i64 0] 3) | have HA9 := qH (show Blk (w4.drew.alloc (.cells #[.int .i64 0] 3)) w4.heap.size [.int .i64 0] 3 from Blk.new w4.drew [.int .i64 0] 3))
  go_simp
  refine hK.out _ _ ?_ (fun hHeld => ?_)
  ·(try dsimp only); (first | exact HJ.out _ (X6.out.alloc _) | exact HJ.out _ (X5.out.alloc _) | exact HJ.out _ ((Kp.refl w4).drew.alloc _))
  clear hK K; (try simp only [Act.put,sI,sZ,sS])
  refine aE (i := 1) ?_
  refine aG (i := 1) rfl (fun K hK => ?_)
  go_simp
  (refine (HVa.out _ (by first | exact H4.out.2.2.2.2.trans (Kp.refl w4).drew | exact H4.out.2.2.2.2.trans ((Kp.refl w4).drew.alloc _))).mono ?_; rintro e w5 ⟨v5, rfl, hk5, ao, cap, rfl, hcap, hcs, -, -⟩; have X5 := qH (show Ext w4 w5 from by first | exact (Kp.refl w4).drew.trans hk5 | exact ((Kp.refl w4).drew.alloc _).trans hk5); have HC5 := qH hcs; have K5 := qH hk5; clear hk5 hcs hcap)
  go_wp2_with fail
  refine hK.out _ _ ?_ (fun hHeld => ?_)
  ·(try dsimp only); (exact HJ.out _ X5.out)
  clear hK K; (try simp only [Act.put,sI,sZ,sS])
  refine aE (i := 4) ?_
  refine aG (i := 4) rfl (fun K hK => ?_)
  go_simp
  (refine (dY (aA ls) s8 ao (aA ls).length cap _ rfl (by first | exact HC5.out | exact HC5.out.ext ((Kp.refl _).alloc _)) (by omega)).mono ?_; rintro e w6 ⟨v6, rfl, hk6, rfl⟩; rw [HAt.out]; have X6 := qH (show Ext w4 w6 from by first | exact X5.out.trans hk6 | exact (X5.out.alloc _).trans hk6); have K6 := qH hk6; clear hk6)
  go_wp2_with fail
  refine hK.out _ _ ?_ (fun hHeld => ?_)
  ·(try dsimp only); (exact HJ.out _ X6.out)
  clear hK K; (try simp only [Act.put,sI,sZ,sS])
  refine aE (i := 6) ?_
  refine aJ (i := 6) rfl (by kernel_rfl) (fun K hK => ?_)
  (first | (have hb9 := (HA9.out.ext K5.out).ext K6.out; have hc9 := cell0 hb9; have hf9 := hb9.free 0) | (have hb9 := HA9.out.ext K6.out; have hc9 := cell0 hb9; have hf9 := hb9.free 0) | skip)
  go_simp
  refine hK.out _ _ ?_
  clear hK K; (try simp only [Act.put,sI,sZ,sS])
  refine aI (by kernel_rfl) ?_ _
  refine eI ?_
  go_wp2_with fail
  rw [EQ.out]
  refine HT.out _ _ _ ?_ ?_ rfl rfl rfl rfl rfl rfl rfl
  ·first | exact X6.out.alloc _ | exact X6.out.trans' (Kp.setCell (F := fun q => q = w5.heap.size) (p := ⟨w5.heap.size, 0, none⟩) (Kp.refl _) (fun _ => rfl) _) (fun i hi e => by have e' : i = w5.heap.size := e; have := X5.out.size; omega) | exact X6.out.trans' (Kp.setCell (F := fun q => q = w4.heap.size) (p := ⟨w4.heap.size, 0, none⟩) (Kp.refl _) (fun _ => rfl) _) (fun i hi e => by have e' : i = w4.heap.size := e; omega)
  ·first | exact Blk.new w6 [.int .i64 at_] 3 | exact hb9.set 0 _
end
section
open Go.RowKit Go.Shelf
theorem yC {P : Program} {t e : TypeId} {k bytes : Nat} {z : Value} {w : World} (E : cP P t e k bytes z) (ty : TypeId) {ao : Option Addr} {n : Nat} {xs : List Value} (hx : xs.length = n * k) (hc : CellsAt w ao xs) (h0 : ao = none -> n = 0)
 {so : Option Addr} {m c : Nat} {news : List Value} (hl : news.length = m * k) (hs : CellsAt w so news) (hm : 0 < m) (hb : (n + m) * bytes ≤ 140737488355328) (h63 : n + m ≤ maxLen) :
 ∃ v' w', (Builtin.append_ #[t, t] ty #[.slice ao n n, .slice so m c]).run P w = .ok v' w' /\ Row w' e k v' (n + m) (xs ++ news) (New w) /\ Ext w w' := by
 have hne : news ≠ [] := by
  rintro rfl
  have h0 := Nat.mul_pos hm E.2.2.2
  simp only [List.length_nil] at hl; omega
 obtain ⟨b, off, rfl, hlt⟩ := hs.off hne
 have hsrc : ∀ j u, news[j]? = some u -> w.cell? ((⟨b, off, none⟩ : Addr).add j) = some u := fun j u hu => by
  obtain ⟨b', off', he, hc⟩ := hs j u hu
  cases he
  rw [Addr.add_lit]; exact hc
 obtain ⟨ht, hi, hz, hk⟩ := E
 obtain ⟨i, hi, hz1, hz2, hz3⟩ := info_parts hi
 have hsmall : n + m ≤ 9223372036854775807 := h63
 have grown : ∀ old, (w.drew.alloc (.cells (xs.toArray ++ news.toArray ++ Builtin.zeroCells z.cells (grownCap w (n + m) old e - (n + m))) e)).heap[w.heap.size]? =
  some (.cells ((xs ++ news) ++ (Builtin.zeroCells z.cells (grownCap w (n + m) old e - (n + m))).toList).toArray e (0, 0)) := fun old => by
  show (w.heap.push _)[w.heap.size]? = _
  simp
 have lens : ∀ old, ((xs ++ news) ++ (Builtin.zeroCells z.cells (grownCap w (n + m) old e - (n + m))).toList).length = grownCap w (n + m) old e * k := fun old => by
  have hge := grownCap_ge w (n + m) old e
  simp only [List.length_append, Array.length_toList, size_zeroCells, hz, hx, hl, <- Nat.add_mul]
  congr 1; omega
 cases ao with
 | none =>
  have hn0 := h0 rfl
  subst hn0
  have hx0 : xs = [] := List.eq_nil_of_length_eq_zero (by simpa using hx)
  subst hx0
  have hr := run_append_nil (P := P) w t ty e i z ht hi hz1 ⟨b, off, none⟩ m c news (by rw [hz2]; exact hl) hsrc (by omega) (by omega) (by rw [hz3]; simp only [Nat.zero_add] at hb; omega)
  refine ⟨_, _, hr, ?_, ⟨rfl, rfl, rfl, by simp, fun k hk _ => Below.heap_alloc w.drew _ k hk⟩⟩
  have h1 := grown 0
  have h2 := lens 0
  simp only [Nat.zero_add, List.nil_append, Array.empty_append] at h1 h2 ⊢
  exact ⟨hl, .inr ⟨_, _, _, rfl, Nat.le_refl _, h1, h2, grownCap_ge w m 0 e, grownCap_le_maxLen w m 0 e (by omega)⟩⟩
 | some a =>
  have holds : ∀ j u, xs[j]? = some u -> w.cell? (a.add j) = some u := fun j u hu => by
   obtain ⟨b', off', he, hc2⟩ := hc j u hu
   cases he
   rw [Addr.add_lit]; exact hc2
  have hr := run_append_grow (P := P) w t ty e i z ht hi hz1 a n n xs (by rw [hz2]; exact hx) holds ⟨b, off, none⟩ m c news (by rw [hz2]; exact hl) hsrc (by omega) (by omega) (by rw [hz3]; exact growslice_fits (by omega) hb)
  exact ⟨_, _, hr, ⟨by rw [List.length_append, hx, hl, Nat.add_mul], .inr ⟨_, _, _, rfl, Nat.le_refl _, grown n, lens n, grownCap_ge w (n + m) n e, grownCap_le_maxLen w (n + m) n e (by omega)⟩⟩, ⟨rfl, rfl, rfl, by simp, fun k hk _ => Below.heap_alloc w.drew _ k hk⟩⟩
theorem aA8 {P : Program} {t e : TypeId} {k bytes : Nat} {z : Value} {w : World} (E : cP P t e k bytes z) {ops : Array Oper} {rest : List Oper} {o : Oper} {a : Act} {Q : Exit -> Act -> World -> Prop} (hgd : o.guard = none) (s x : Operand)
 (ho : o.op = .call { callee := .builtin .append, args := #[s, x], argTypes := #[t, t] })
 {ao : Option Addr} {n : Nat} {xs : List Value} (hs : a.eval s = .slice ao n n) (hc : CellsAt w ao xs) (hx : xs.length = n * k) (h0 : ao = none -> n = 0)
 {so : Option Addr} {m c : Nat} {news : List Value} (hsx : a.eval x = .slice so m c) (hsrc : CellsAt w so news) (hl : news.length = m * k) (hm : 0 < m)
 (hb : (n + m) * bytes ≤ 140737488355328) (h63 : n + m ≤ maxLen)
 (h : ∀ v' w', Row w' e k v' (n + m) (xs ++ news) (New w) -> Ext w w' -> wpList P ops Q rest (a.put o.dst v') w') : wpList P ops Q (o :: rest) a w := by
 refine wpList_plain hgd fun K hK => ?_
 obtain ⟨v', w', hrun, h2, h3⟩ := yC (P := P) E o.type hx hc h0 hl hsrc hm hb h63 (c := c)
 unfold Oper.wp execOp
 simp only [ho, resolve, invoke, builtin, Sem.run_bind, Sem.run_pure, Result.andThen_ok, List.map_toArray, List.map_cons, List.map_nil, hs, hsx, hrun]
 exact hK _ _ (h v' w' h2 h3)
abbrev SlZ := Option Addr × Nat × Nat
structure ListsO (W : World) (M : Nat -> Prop) (N : Nat) (vs : Nat -> SlZ) (gb : Nat -> Nat) (C : Nat -> List ByteArray) : Prop where
 len : ∀ i, i < N -> (vs i).2 = ((C i).length, (C i).length)
 blk : ∀ i, i < N -> ((vs i).1 = none /\ C i = []) \/ ((vs i).1 = some ⟨gb i, 0, none⟩ /\ M (gb i) /\ ∃ rest, Blk W (gb i) (strs (C i) ++ rest) 9)
 far : ∀ i j, i < N -> j < N -> i ≠ j -> (vs i).1 ≠ none -> (vs j).1 ≠ none -> gb i ≠ gb j
set_option maxHeartbeats 4000000 in
theorem sL {xs : List Value} {ao : Option Addr} {n i : Nat} {x : Value} {vb : Nat} {w : World} (hn : n = xs.length) (ho : (ao = none /\ xs = []) \/ ∃ g rest, ao = some ⟨g, 0, none⟩ /\ Blk w g (xs ++ rest) 9) (hi : i ≤ n) (hx : x.oneCell' = true) (hxs : ∀ u ∈ xs, u.oneCell' = true) (hv : Blk w vb [x] 9) (hb : n ≤ 1048576) :
 Calls Tryz.prog 67 #[.slice ao n n, .int .i64 (i : Nat), .slice (some ⟨vb, 0, none⟩) 1 1] w (RetN w fun w' v => Row w' 9 1 v (n + 1) (xs.take i ++ x :: xs.drop i) (New w)) := by
 have hsrc : CellsAt w (some ⟨vb, 0, none⟩) [x] := CellsAt.pre (rest := []) hv
 have hcells : CellsAt w ao xs := by
  rcases ho with ⟨_, e⟩ | ⟨g, rest, e, hB⟩
  ·rw [e]; exact CellsAt.nil _ _
  ·rw [e]; exact CellsAt.pre hB
 by_cases hin : i = n
 ·subst hin
  have h0 : ao = none -> i = 0 := fun e => by
   rcases ho with ⟨_, e2⟩ | ⟨g, rest, e2, _⟩
   ·rw [hn, e2]; rfl
   ·rw [e] at e2; cases e2
  have HNN := qH hn
  clear ho hv
  go_enter Tryz.func67, Tryz.ntmps67
  go_wp2_with (first | (at_builtin; refine Halted.out ?_))
  refine Halted.mk (aA8 dG rfl _ _ rfl rfl hcells (by omega) h0 rfl hsrc rfl (by omega) (by omega) (by unfold maxLen; omega) ?_)
  intro v1 w1 hr1 hk1
  have HR := qH hr1; clear hr1 hcells
  go_wp2
  go_ret
  refine RetN.mk hk1 ?_
  have := HNN.out
  rw [List.take_of_length_le (by omega), List.drop_of_length_le (by omega)]
  exact HR.out
 ·have hlt : i < n := by omega
  obtain ⟨g, rest, rfl, hB⟩ : ∃ g rest, ao = some ⟨g, 0, none⟩ /\ Blk w g (xs ++ rest) 9 := by
   rcases ho with ⟨_, e⟩ | h
   ·rw [e] at hn; simp at hn; omega
   ·exact h
  clear ho
  have hk0 : 0 < n + 1 - i := by omega
  obtain ⟨w1, G, hrun1, hG, hGm, hext1, hsz1, hB1⟩ := mJ (w := w) dG rfl Tryz.underlying3 (ao := some ⟨g, 0, none⟩) (n := i) (cap := n) (olds := xs.take i) (fun j u hu => by
   rw [List.getElem?_take] at hu
   split at hu
   ·exact hcells j u hu
   ·cases hu) (by simp; omega) (k := n + 1 - i) hk0 (by omega) (by rw [show i + (n + 1 - i) = n + 1 by omega]; omega) (by unfold maxLen; omega)
  rw [show i + (n + 1 - i) = n + 1 by omega] at hrun1 hG
  have rk : (n : Int) + 1 - i = ((n + 1 - i : Nat) : Int) := by omega
  rw [<- rk] at hrun1
  clear rk
  have hv1 := hsrc.ext hext1
  have hgh : g < w.heap.size := hB.lt
  obtain ⟨w2, hrun2, hk2, hB2⟩ := iQ dG (w := w1) hB1 (off := i) (dp := some ⟨w.heap.size, i, none⟩) (dLen := n + 1 - i) (dCap := G - i) (sp := some ⟨vb, 0, none⟩) (sLen := 1) (sCap := 1) (cs := [x]) (by simp [Nat.min_def]; omega) (fun _ => rfl) hv1 (by simp; omega) (by simpa using hx)
  have hB' : Blk w2 g (xs ++ rest) 9 := (hB.ext hext1).kp hk2 (by omega)
  have HB' := qH hB'; have HB2 := qH hB2; have HK2 := qH hk2; have HE1 := qH hext1
  have HNN := qH hn
  have HXS := qH hxs
  have ncG : ¬ G = i := by omega
  have ncG1 : ¬ G = i + 1 := by omega
  have nci : ¬ n = i := by omega
  have hi1 : ((i : Int) + 1).toNat = i + 1 := by omega
  have hw1 : IntKind.i64.wrap ((i : Int) + 1) = (i : Int) + 1 := IntWalk.i64_in _ (by omega)
  have hp1 : (0 : Int) ≤ (i : Int) + 1 := by omega
  have hp2 : (i : Int) ≤ (n : Int) + 1 := by omega
  have hp3 : (i : Int) ≤ (n : Int) := by omega
  clear hB hB' hB2 hk2 hext1 hn hxs hv1 hB1 hv hsrc hcells hb
  unfold maxLen at hGm
  go_enter Tryz.func67, Tryz.ntmps67
  go_wp2_with (first | (at_builtin; refine Halted.out ?_))
  refine Halted.mk (tZ rfl _ _ rfl rfl rfl hrun1 ?_)
  clear hrun1
  go_wp2
  go_still_tail 8, (by kernel_rfl)
  refine rA dG rfl _ _ rfl (w := w2.drew) (HB2.out.drew) (g := w.heap.size) (off := i + 1) rfl rfl (cs := xs.drop i) (by have := HNN.out; first | (simp; omega) | (simp [Nat.min_def]; first | omega | (split <;> omega))) (fun _ => rfl) (fun j u hu => ⟨g, i, rfl, by
   have hb := HB'.out
   rw [hb.drew.cell']
   rw [List.getElem?_drop] at hu
   rw [List.getElem?_append_left (List.getElem?_eq_some_iff.1 hu).1]; exact hu⟩) (by have := HNN.out; simp [splice]; omega) (fun u hu => HXS.out u (List.mem_of_mem_drop hu)) ?_
  intro w3 hk3 hB3
  have HK3 := qH hk3; have HB3 := qH hB3
  clear hk3 hB3 hw1 hi1 hp1 hp2 hp3
  go_wp2
  go_ret
  have hext2 : Ext w w2 := HE1.out.trans' HK2.out (fun k hk e => by omega)
  have hext3 : Ext w w3 := (hext2.drew).trans' HK3.out (fun k hk e => by omega)
  refine RetN.mk hext3 ⟨?_, .inr ⟨w.heap.size, G, List.replicate (G - (n + 1)) (.string ⟨#[]⟩), rfl, Nat.le_refl _, ?_, ?_, hG, by unfold maxLen; omega⟩⟩
  ·have := HNN.out; simp; omega
  ·have h := pM xs x (.string ⟨#[]⟩) i G (by have := HNN.out; omega) (by have := HNN.out; omega)
   have := HB3.out
   rw [h] at this
   exact this.congrL (by rw [HNN.out])
  ·have := HNN.out; simp; omega
end
section
open Go.RowKit
attribute [local go_sem] Oper.semAt_some
def isAgg (t : aF) : Bool := decide (4 ≤ t.1 /\ t.1 ≤ 7)
def tN (ts : List aF) (i : Nat) (b : Bool) : Prop := (b = true /\ ∃ t, ts[i]? = some t /\ isAgg t = true /\ ∀ (j : Nat) u, j < i -> ts[j]? = some u -> isAgg u = false) \/ (b = false /\ i = 0 /\ ∀ t ∈ ts, isAgg t = false)
theorem aGm (k : Int) (s : ByteArray) (w : World) : Calls Tryz.prog 63 #[.agg #[.int .i64 k, .string s]] w (RetN w fun w' v => v = .bool (decide (4 ≤ k /\ k ≤ 7))) := by
 by_cases h1 : 4 ≤ k
 ·by_cases h2 : k ≤ 7
  ·go_enter Tryz.func63, Tryz.ntmps63
   go_wp2
   go_ret
   exact RetN.mk ((Kp.refl w).alloc _) (by simp [h1, h2])
  ·go_enter Tryz.func63, Tryz.ntmps63
   go_wp2
   go_ret
   exact RetN.mk ((Kp.refl w).alloc _) (by simp [h1, h2])
 ·go_enter Tryz.func63, Tryz.ntmps63
  go_wp2
  go_ret
  exact RetN.mk ((Kp.refl w).alloc _) (by simp; omega)
def NoAgg (w0 : World) (ts : List aF) (n : Nat) (iv : Value) (w : World) : Prop := ∃ i : Nat, i ≤ n /\ iv = .int .i64 i /\ Hid (∀ (j : Nat) u, j < i -> ts[j]? = some u -> isAgg u = false) /\ Hid (Ext w0 w)
def IdxIs (ts : List aF) (v : Value) : Prop := (∃ i : Nat, v = .int .i64 i /\ i < ts.length /\ tN ts i true) \/ (v = .int .i64 (-1) /\ tN ts 0 false)
set_option maxHeartbeats 1000000 in
theorem wW (ts : List aF) (ao : Option Addr) (n cap : Nat) (w : World) (G : Nat -> Prop) (hn : n = ts.length) (h : bD w G ao ts) (hl : n ≤ 1048576) :
 Calls Tryz.prog 62 #[.slice ao n cap, .func (Fn.func 63) #[] #[]] w (RetN w fun w' v => IdxIs ts v) := by
 have HN := qH hn; have HE := qH h; clear hn h
 have hent : ∀ args w, (callFunc 63 args).run Tryz.prog w = .ok (.enter 63 args) w := enters_of Tryz.func63 (by kernel_rfl) rfl
 go_enter Tryz.func62, Tryz.ntmps62
 go_wp2
 go_loopw [8] (fun iv wr => NoAgg w ts n iv wr) (fun iv _ => n - (intOf iv).toNat)
 case atStart => exact ⟨0, Nat.zero_le _, rfl, fun j u h => by omega, Kp.refl w⟩
 case round =>
  obtain ⟨i, hi, rfl, hno, hex⟩ := hrel
  by_cases hlt : i < n
  ·have hlt' : i < ts.length := by rw [<- HN.out]; exact hlt
   obtain ⟨t, ht⟩ : ∃ t, ts[i]? = some t := ⟨_, qG hlt'⟩
   obtain ⟨b, off, eao, hc0, hc1, _⟩ := eF (HE.out.ext hex.out) ht
   subst eao
   obtain ⟨k, ek⟩ : ∃ k, k = t.1 := ⟨_, rfl⟩
   obtain ⟨s, es⟩ : ∃ s, s = t.2.1 := ⟨_, rfl⟩
   rw [<- ek] at hc0
   rw [<- es] at hc1
   obtain ⟨r, er⟩ : ∃ r : Bool, r = decide (4 ≤ k /\ k ≤ 7) := ⟨_, rfl⟩
   have hr : isAgg t = r := by unfold isAgg; rw [er, ek]
   have HC := qH (aGm k s wr)
   rw [<- er] at HC
   have HT := qH (And.intro ht hr)
   clear ht hlt' ek es er hr
   cases r
   ·go_wp2_with fail
    refine HC.out.mono ?_
    rintro e w1 ⟨v, rfl, hk1, rfl⟩
    have HX := qH (hex.out.trans hk1); clear hk1 hc0 hc1
    go_wp2
    go_roundw
    case rel =>
     refine ⟨i + 1, by omega, by first | rfl | (congr 1; done) | (congr 1; omega), fun j u hj hu => ?_, HX⟩
     by_cases e : j = i
     ·subst e; rw [HT.out.1] at hu; cases hu; exact HT.out.2
     ·exact hno.out j u (by omega) hu
    case measure => simp [intOf]; omega
   ·go_wp2_with fail
    refine HC.out.mono ?_
    rintro e w1 ⟨v, rfl, hk1, rfl⟩
    have HX := qH (hex.out.trans hk1); clear hk1 hc0 hc1
    go_wp2
    go_ret
    exact RetN.mk HX.out (.inl ⟨i, rfl, by have := HN.out; omega, .inl ⟨rfl, t, HT.out.1, HT.out.2, hno.out⟩⟩)
  ·go_wp2
   go_ret
   refine RetN.mk hex.out (.inr ⟨rfl, .inr ⟨rfl, rfl, fun t ht => ?_⟩⟩)
   obtain ⟨j, hj, rfl⟩ := List.mem_iff_getElem.1 ht
   exact hno.out j _ (by have := HN.out; omega) (qG hj)
theorem aFk (p : ByteArray) (ts : List aF) (ao : Option Addr) (n cap : Nat) (w : World) (G : Nat -> Prop) (hn : n = ts.length) (h : bD w G ao ts) (hl : n ≤ 1048576) :
 Calls Tryz.prog 32 #[.agg #[.string p, .slice ao n cap]] w (RetN w fun w' v => ∃ i b, v = .tuple #[.int .i64 (i : Nat), .bool b] /\ tN ts i b) := by
 have hx : Ext w (w.alloc (.cells #[.string p, .slice ao n cap] 40)) := (Kp.refl w).alloc _
 have HI := qH (wW ts ao n cap _ G hn (h.ext hx) hl)
 have HX := qH hx
 have HL := qH (show ts.length ≤ 1048576 by omega)
 clear hn h hx hl
 go_enter Tryz.func32, Tryz.ntmps32
 go_wp2_with fail
 refine HI.out.mono ?_
 rintro e w1 ⟨v, rfl, hk, hv⟩
 have HK := qH (HX.out.trans hk); clear hk
 rcases hv with ⟨i, rfl, hi, hf⟩ | ⟨rfl, hf⟩
 ·have hi2 : i ≤ 1048576 := by have := HL.out; omega
  have HF := qH hf; clear hf hi
  have q1 : max (i : Int) 0 = (i : Int) := by omega
  have q2 : (0 : Int) ≤ (i : Int) := by omega
  go_wp2
  go_ret2
  exact RetN.mk HK.out ⟨i, true, by first | rfl | simp, HF.out⟩
 ·have HF := qH hf; clear hf
  go_wp2
  go_ret2
  exact RetN.mk HK.out ⟨0, false, by first | rfl | simp, HF.out⟩
end
section
open Go.RowKit Go.Shelf
attribute [local go_sem] Oper.semAt_some
def aH7 (r : cN) (nb : Bool) (L : aC) (w w' : World) (v : Value) : Prop :=
 (aT r ≠ 0 /\ v = .tuple #[.pointer none, .int .i64 (aT r : Nat)]) \/
 (aT r = 0 /\ ∃ j k s8, r.1.2.1[j]? = some (k, s8, ()) /\ (4 ≤ k /\ k ≤ 7) /\
  ((r.2.1 = [] /\ v = .tuple #[.pointer none, .int .i64 111]) \/
   (r.2.1 ≠ [] /\ nb = true /\ v = .tuple #[.pointer none, .int .i64 1]) \/
   (r.2.1 ≠ [] /\ nb = false /\ ∃ e A, xJ (aA r.2.1) r.1.2.1 k (bC (fun x => decide (x = s8)) (aA r.2.1)).toNat j L = (e, A) /\
    ((e ≠ 0 /\ v = .tuple #[.pointer none, .int .i64 (e : Nat)]) \/ (e = 0 /\ ∃ rb iv S, v = .tuple #[.pointer (some ⟨rb, 0, none⟩), .int .i64 0] /\ RowsAt S w' rb iv r.1.2.1.length A /\ w.heap.size ≤ rb /\ (∀ k, S k -> w.heap.size ≤ k) /\ ∀ k, iv.ownBlock = some k -> w.heap.size ≤ k)))))
def aH1 (w9 : World) (k : Int) (at_ j : Nat) (gs : List eT) (n : Nat) (av iv : Value) (W : World) : Prop :=
 ∃ i : Nat, i ≤ n /\ iv = .int .i64 i /\ iO k at_ (gs.take i) = 0 /\ Hid (Ext w9 W) /\ Hid (OwnRows w9.heap.size W av ((gs.take i).map (jV k at_ j)))
def AddTo (w9 w12 : World) (rb m : Nat) (LL : aC) (n : Nat) (iv : Value) (W : World) : Prop :=
 ∃ i : Nat, i ≤ n /\ iv = .int .i64 i /\ (bB m [] (LL.take i)).1 = 0 /\ Hid (Kp (fun q => q = rb) w12 W) /\ ∃ S v, Hid (RowsAt S W rb v m (bB m [] (LL.take i)).2 /\ (∀ q, S q -> w12.heap.size ≤ q) /\ ∀ q, v.ownBlock = some q -> w12.heap.size ≤ q)
set_option maxHeartbeats 16000000 in
theorem xI {S : Nat -> Prop} {w : World} {p : ByteArray} {hs : List aF} {ls : List aQ} {ha ba : Option Addr} {hn hcap n bcap : Nat} {G : Nat -> Prop} {o : Option Addr} {E : List Ent} {L : aC} (hhn : hn = hs.length) (hh : bD w G ha hs) (hhl : hn ≤ 1048576) (hbn : n = ls.length) (h : dC w G ba ls) (hf : Fit ls) (hnv : (aA ls).length ≤ 1048576) (hn16 : n ≤ 1048576)
 (hB : BaseV S w (.pointer o) E) (hL : mD ((p, hs, ()), ls, ()) (bZ (yT ls E) ls) L) (hag : (hs.any fun t => decide (4 ≤ t.1)) = true) (hN : NumW w) (hLl : L.length ≤ 1048576) (hVs : ∀ V ∈ L, ∀ s ∈ V, s.size ≤ 1048576) (hHs : ∀ V ∈ L, ∀ s ∈ bE (aA ls) V hs, s.size ≤ 1048576) :
 Calls Tryz.prog 33 #[eV p ha hn hcap ba n bcap, .pointer o] w (RetN w fun w' v => aH7 ((p, hs, ()), ls, ()) o.isNone L w w' v) := by
 have HCh := qH (fun W (hW : Ext w W) => mB p hs ls ha hn hcap ba n bcap W G hhn (hh.ext hW) (by omega) hbn (h.ext hW) hf)
 have HOf := qH (fun W (hW : Ext w W) => aFk p hs ha hn hcap W G hhn (hh.ext hW) (by omega))
 obtain ⟨cR, ecR⟩ : ∃ c, aT ((p, hs, ()), ls, ()) = c := ⟨_, rfl⟩
 rw [ecR] at HCh
 have HC := qH ecR
 have HGr := qH (show aT ((p, hs, ()), ls, ()) = 0 -> ∀ (j : Nat) (k : Int) (s8 : ByteArray), hs[j]? = some (k, s8, ()) -> 4 ≤ k /\ k ≤ 7 -> (k ≠ 4 -> 0 ≤ bC (fun x => decide (x = s8)) (aA ls) /\ bC (fun x => decide (x = s8)) (aA ls) < (aA ls).length) -> ∀ W, Ext w W -> Calls Tryz.prog 66 #[eV p ha hn hcap ba n bcap, .pointer o, .int .i64 (j : Nat)] W (RetN W fun w' v => gH (aA ls) hs k (bC (fun x => decide (x = s8)) (aA ls)) L W w' v) from
  fun hc j k s8 hj hk hat W hW => aCn hhn (hh.ext hW) hhl hbn (h.ext hW) hf hnv hn16 (hB.ext hW) hL hc hj hk rfl hat (hN.ext hW) hLl hVs hHs)
 have HN := qH (And.intro hhn (And.intro hhl (And.intro hbn (And.intro hag (And.intro hN hLl)))))
 obtain ⟨gb, egb⟩ : ∃ g, w.heap.size = g := ⟨_, rfl⟩
 obtain ⟨w1, e1⟩ : ∃ x, w.alloc (.cells #[.string p, .slice ha hn hcap, .slice ba n bcap] 43) = x := ⟨_, rfl⟩
 have x1 : Ext w w1 := by rw [<- e1]; exact (Kp.refl w).alloc _
 have hB1 : Blk w1 gb [.string p, .slice ha hn hcap, .slice ba n bcap] 43 := by rw [<- e1, <- egb]; exact Blk.new w _ _
 have H1 := qH (And.intro x1 hB1)
 have r0 : w1.cell? ⟨gb, 0, none⟩ = some (.string p) := by rw [hB1.cell']; rfl
 have r1 : w1.cell? ⟨gb, 1, none⟩ = some (.slice ha hn hcap) := by rw [hB1.cell']; rfl
 have r2 : w1.cell? ⟨gb, 2, none⟩ = some (.slice ba n bcap) := by rw [hB1.cell']; rfl
 clear hhn hh hhl hbn h hf hnv hn16 hB hL hag hN hLl hVs hHs ecR x1 hB1
 go_enter Tryz.func33, Tryz.ntmps33
 go_wp2_with fail
 clear e1
 refine (HCh.out w1 H1.out.1).mono ?_
 rintro e w2 ⟨v2, rfl, hk2, rfl⟩
 have H2 := qH (And.intro (H1.out.1.trans hk2) (H1.out.2.ext hk2))
 have q0 : w2.cell? ⟨gb, 0, none⟩ = some (.string p) := by rw [H2.out.2.cell']; rfl
 have q1 : w2.cell? ⟨gb, 1, none⟩ = some (.slice ha hn hcap) := by rw [H2.out.2.cell']; rfl
 clear hk2 r0 r1 r2
 by_cases hc : cR = 0
 ·subst hc
  go_wp2_with fail
  refine (HOf.out w2 H2.out.1).mono ?_
  rintro e w3 ⟨v3, rfl, hk3, j, b, rfl, hfa⟩
  have hb : b = true := by
   rcases hfa with ⟨h, _⟩ | ⟨_, _, h⟩
   ·exact h
   ·obtain ⟨t, ht, h2⟩ := List.any_eq_true.1 HN.out.2.2.2.1
    have h3 := h t ht
    unfold isAgg at h3
    have h4 := of_decide_eq_true h2
    have h5 := ((mV HC.out).1 t ht).2
    exact absurd ⟨h4, h5⟩ (of_decide_eq_false h3)
  subst hb
  have H3 := qH (And.intro (H2.out.1.trans hk3) (H2.out.2.ext hk3))
  have s0 : w3.cell? ⟨gb, 0, none⟩ = some (.string p) := by rw [H3.out.2.cell']; rfl
  have s1 : w3.cell? ⟨gb, 1, none⟩ = some (.slice ha hn hcap) := by rw [H3.out.2.cell']; rfl
  have s2 : w3.cell? ⟨gb, 2, none⟩ = some (.slice ba n bcap) := by rw [H3.out.2.cell']; rfl
  clear hk3 q0 q1
  obtain ⟨t, htj, hta⟩ : ∃ t, hs[j]? = some t /\ isAgg t = true := by
   rcases hfa with ⟨_, t, h1, h2, _⟩ | ⟨h, _⟩
   ·exact ⟨t, h1, h2⟩
   ·cases h
  obtain ⟨k, s8, ⟨⟩⟩ := t
  have hk : 4 ≤ k /\ k ≤ 7 := of_decide_eq_true hta
  have hat : k ≠ 4 -> 0 ≤ bC (fun x => decide (x = s8)) (aA ls) /\ bC (fun x => decide (x = s8)) (aA ls) < (aA ls).length := fun h4 => aG6 HC.out (List.mem_of_getElem? htj) (fun e => by have e' : k = 3 := e; omega) h4
  have HJ := qH (And.intro htj hk)
  have HW := qH (show ∀ (w' : World) (v : Value), Ext w w' -> ((ls = [] /\ v = .tuple #[.pointer none, .int .i64 111]) \/ (ls ≠ [] /\ o.isNone = true /\ v = .tuple #[.pointer none, .int .i64 1]) \/ (ls ≠ [] /\ o.isNone = false /\ ∃ e A, xJ (aA ls) hs k (bC (fun x => decide (x = s8)) (aA ls)).toNat j L = (e, A) /\ ((e ≠ 0 /\ v = .tuple #[.pointer none, .int .i64 (e : Nat)]) \/ (e = 0 /\ ∃ rb iv S, v = .tuple #[.pointer (some ⟨rb, 0, none⟩), .int .i64 0] /\ RowsAt S w' rb iv hs.length A /\ w.heap.size ≤ rb /\ (∀ k, S k -> w.heap.size ≤ k) /\ ∀ k, iv.ownBlock = some k -> w.heap.size ≤ k)))) -> RetN w (fun w' v => aH7 ((p, hs, ()), ls, ()) o.isNone L w w' v) (.returned v) w' from fun w' v hx h => RetN.mk hx (.inr ⟨HC.out, j, k, s8, HJ.out.1, HJ.out.2, h⟩))
  have HG9 := qH (HGr.out HC.out j k s8 htj hk hat w3 H3.out.1)
  clear htj hk hat hta hfa
  by_cases hb0 : n = 0
  ·subst hb0
   have HL0 := qH (List.eq_nil_of_length_eq_zero HN.out.2.2.1.symm)
   go_wp2_with fail
   go_ret2
   exact HW.out _ _ H3.out.1 (.inl ⟨HL0.out, rfl⟩)
  have HL0 := qH (show ls ≠ [] from fun e => hb0 (by rw [HN.out.2.2.1, e]; rfl))
  have hn0 : ((n : Int) == 0) = false := by simp; omega
  clear hb0
  cases o with
  | none =>
   have hnn : (binOp .eql 45 (.pointer none) (.pointer none)).run Tryz.prog w3 = .ok (.bool true) w3 := by kernel_rfl
   go_wp2_with fail
   go_ret2
   exact HW.out _ _ H3.out.1 (.inr (.inl ⟨HL0.out, rfl, rfl⟩))
  | some ob =>
   go_wp2_with fail
   clear s0 s1 s2
   refine HG9.out.mono ?_
   rintro e w9 ⟨v9, rfl, hk9, lo, bl, mr, lv, bs, ra, rfl, hG, hlo, hbl, hmr⟩
   have H9 := qH (show Ext w w9 /\ Blk w9 gb [.string p, .slice ha hn hcap, .slice ba n bcap] 43 from ⟨H3.out.1.trans hk9, H3.out.2.ext hk9⟩)
   obtain ⟨at_, eat⟩ : ∃ x, bC (fun x => decide (x = s8)) (aA ls) = x := ⟨_, rfl⟩
   rw [eat] at hG HW ⊢
   obtain ⟨gs, egs⟩ : ∃ x, bK (aA ls) hs L = x := ⟨_, rfl⟩
   have hgB := zW (aA ls) hs L
   have hgH := zV (aA ls) hs L
   have hgn := sQ (aA ls) hs L
   rw [egs] at hG hgB hgH hgn
   obtain ⟨fz, efz⟩ : ∃ x, fY k at_.toNat L = x := ⟨_, rfl⟩
   rw [efz]
   obtain ⟨la, lc, elv, _, _⟩ := hG.row.shape
   subst elv
   obtain ⟨gl, egl⟩ : ∃ x, gs.length = x := ⟨_, rfl⟩
   rw [egl] at hG hgn ⊢
   have HP := qH (And.intro egs (And.intro egl (And.intro efz (And.intro hgB (And.intro hgH hgn)))))
   have HG := qH (And.intro hG (And.intro hlo hk9.size))
   clear hG hlo hbl hmr hgB hgH hgn egs egl efz eat hk9
   by_cases hfz : fz = 0
   ·subst hfz
    go_wp2_with fail
    go_loopw [11, 61] (fun av iv wr => aH1 w9 k at_.toNat j gs gl av iv wr) (fun _ iv _ => gl - (intOf iv).toNat)
    case atStart => exact ⟨0, Nat.zero_le _, rfl, rfl, qH (Kp.refl _), qH (OwnRows.nil _ _)⟩
    case round =>
     obtain ⟨i, hi, rfl, hte, hex, hO⟩ := hrel
     by_cases hlt : i < gl
     ·obtain ⟨g, hg⟩ : ∃ g, gs[i]? = some g := ⟨_, qG (by rw [HP.out.2.1]; exact hlt)⟩
      obtain ⟨gr, B⟩ := g
      have hGi := (HG.out.1.ext hex.out)
      have hGA := hGi.grp i _ hg
      have hGR := hGi.rows i _ hg
      have HT := qH (aA1 hGA (HN.out.2.2.2.2.1.ext (H9.out.1.trans hex.out)) (by
       have h1 : B.length ≤ L.length := HP.out.2.2.2.1 _ (List.mem_of_getElem? hg)
       exact Nat.le_trans h1 HN.out.2.2.2.2.2))
      obtain ⟨lg, ela, c1⟩ : ∃ g, la = some ⟨g, 0, none⟩ /\ wr.cell? ⟨g, i, none⟩ = some (eM (bs i).g) := by
       have hgl : gs.length = gl := HP.out.2.1
       obtain ⟨h1, ⟨e, h0⟩ | ⟨g, cap, rest, e, hM, hb, hl, hc, hm⟩⟩ := hGi.row
       ·omega
       ·cases e
        refine ⟨g, rfl, ?_⟩
        rw [hb.cell', List.getElem?_append_left (by unfold lB; simp; omega)]
        unfold lB
        rw [List.getElem?_map, List.getElem?_range (by omega)]; rfl
      subst ela
      have rn1 : gr.length + 1 = hn := by
       obtain ⟨V, _, e⟩ := HP.out.2.2.2.2.1 _ (List.mem_of_getElem? hg)
       have e' : gr = bE (aA ls) V hs := e
       rw [e', HN.out.1]
       exact vC HC.out HJ.out.1 HJ.out.2.1 _ _
      have hjn : j < hn := by rw [HN.out.1]; exact (List.getElem?_eq_some_iff.1 HJ.out.1).1
      have hhn16 := HN.out.2.1
      obtain ⟨rn, ern⟩ : ∃ x, gr.length = x := ⟨_, rfl⟩
      have c0 : wr.cell? ⟨(bs i).g, 0, none⟩ = some (.slice (ra i) rn rn) := by rw [hGA.blk.cell', <- ern]; rfl
      have c2 : wr.cell? ⟨(bs i).g, 2, none⟩ = some (uF k (bs i)) := by rw [hGA.blk.cell']; rfl
      have hent := aF2 k
      obtain ⟨tf, etf⟩ : ∃ x, jG k = x := ⟨_, rfl⟩
      obtain ⟨tc, etc⟩ : ∃ x, lW k (bs i) = x := ⟨_, rfl⟩
      rw [etf, etc] at HT
      rw [etf] at hent
      unfold uF at c2
      rw [etf, etc] at c2
      unfold eM at c1
      have HTE := qH (aF4 hte hg)
      obtain ⟨st, est⟩ : ∃ x, (eU k at_.toNat B).1 = x := ⟨_, rfl⟩
      obtain ⟨te, ete⟩ : ∃ x, (eU k at_.toNat B).2 = x := ⟨_, rfl⟩
      have HTE2 := qH (show (te = 0 -> iO k at_.toNat (gs.take (i + 1)) = 0) /\ (te ≠ 0 -> iO k at_.toNat gs = te) from by rw [<- ete]; exact HTE.out)
      rw [est, ete] at HT
      obtain ⟨bg, ebg⟩ : ∃ x, (bs i).g = x := ⟨_, rfl⟩
      rw [ebg] at c1 c0 c2
      have hbg := hGA.blk
      rw [ebg] at hbg
      have HI := qH (And.intro hg (And.intro hGR (And.intro hbg (And.intro ern est))))
      have i1 : (i : Int) < (gl : Int) := by omega
      have hgl16 : gl ≤ 1048576 := by have h1 := HP.out.2.2.2.2.2; have h2 := HN.out.2.2.2.2.2; omega
      obtain ⟨ava, avc, eav, -⟩ := hO.out.shape
      rw [List.length_map, List.length_take, HP.out.2.1, Nat.min_eq_left hi] at eav
      subst eav
      clear hte hg hGi hGA hGR etf etc HTE est ete ebg hbg ern rn1
      go_wp2_with fail
      refine HT.out.mono ?_
      rintro e w4 ⟨v4, rfl, hk4, rfl⟩
      have H4 := qH (hex.out.trans hk4)
      replace c0 := hk4.cell c0 id
      have HX4 := qH hk4
      clear c1 c2 hent hk4
      by_cases hte : te = 0
      ·subst hte
       have hsl : (strs gr).length = rn := by rw [<- HI.out.2.2.2.1]; simp [strs]
       have rn2 : rn + 1 = hn := by
        obtain ⟨V, _, e⟩ := HP.out.2.2.2.2.1 _ (List.mem_of_getElem? HI.out.1)
        have e' : gr = bE (aA ls) V hs := e
        rw [<- HI.out.2.2.2.1, e', HN.out.1]
        exact vC HC.out HJ.out.1 HJ.out.2.1 _ _
       have HIns := qH (sL (xs := strs gr) (ao := ra i) (n := rn) (i := j) (x := .string st) (vb := w4.heap.size) (w := w4.alloc (.cells #[.string st] 9)) hsl.symm (by
        rcases HI.out.2.1 with ⟨e1, e2⟩ | ⟨q, rest, e, hb, _⟩
        ·have e2' : gr = [] := e2
         exact .inl ⟨e1, by rw [e2']; rfl⟩
        ·exact .inr ⟨q, rest, e, (hb.ext HX4.out).alloc _⟩) (by omega) rfl (fun u hu => by
        obtain ⟨s, _, rfl⟩ := List.mem_map.1 hu; rfl) (Blk.new w4 [.string st] 9) (by omega))
       obtain ⟨ps, hps, p2, p3, p4⟩ := hO.out
       have hpl : ps.length = i := by
        have := congrArg List.length hps
        rw [List.length_map, List.length_map, List.length_take, HP.out.2.1, Nat.min_eq_left hi] at this
        exact this.symm
       rw [hpl] at p2
       have HO2 := qH (And.intro hps (And.intro p2 (And.intro p3 (And.intro p4 hpl))))
       have HR2 := qH (And.intro hsl rn2)
       clear hps p2 p3 p4 hpl hO hsl rn2
       go_wp2_with fail
       refine HIns.out.mono ?_
       rintro e w6 ⟨v6, rfl, hk6, hr6⟩
       obtain ⟨xa, xc, ev6, _, _⟩ := hr6.shape
       subst ev6
       have HX6 := qH (And.intro (show Ext w4 w6 from ((Kp.refl w4).alloc _).trans hk6) (And.intro hr6 hk6.size))
       clear hk6 hr6 c0
       go_wp2_with (first | (at_builtin; refine Halted.out ?_))
       refine Halted.mk (jD fG rfl _ _ rfl ((H4.out.trans HX6.out.1).alloc _) rfl ((HO2.out.2.1.ext (HX4.out.trans HX6.out.1)).alloc _) rfl (CellsAt.one w6 _ _) rfl (by simp; rfl) (by omega) (by unfold maxLen; omega) ?_)
       intro v7 w7 hr7 hk7 hk7b _
       obtain ⟨va7, vc7, ev7, _, _⟩ := hr7.shape
       subst ev7
       have HFin := qH (show Ext w9 w7 /\ OwnRows w9.heap.size w7 (.slice va7 (i + 1) vc7) ((gs.take (i + 1)).map (jV k at_.toNat j)) from by
        obtain ⟨hps, p2, p3, p4, hpl⟩ := HO2.out
        have hx6 := HX4.out.trans HX6.out.1
        have hz4 := HX4.out.size
        have hz9 := hex.out.size
        have hx6a : Ext wr (w6.alloc (.cells #[.slice xa (rn + 1) xc] 66)) := hx6.alloc _
        have eins : jV k at_.toNat j (gr, B) = gr.take j ++ st :: gr.drop j := by
         unfold jV; rw [HI.out.2.2.2.2]
        have hlen : (gr.take j ++ st :: gr.drop j).length = rn + 1 := by
         have h1 := HI.out.2.2.2.1
         have h2 := HR2.out.2
         simp; omega
        have hstr : strs (gr.take j ++ st :: gr.drop j) = (strs gr).take j ++ .string st :: (strs gr).drop j := by
         unfold strs
         rw [List.map_append, List.map_cons, List.map_take, List.map_drop]
        have h := OwnRows.push (lo := w9.heap.size) (ps := ps) (w := w6.alloc (.cells #[.slice xa (rn + 1) xc] 66)) (w' := w7) (v := .slice ava i avc) (v' := .slice va7 (i + 1) vc7) (B := (w4.alloc (.cells #[.string st] 9)).heap.size) (x := (xa, rn + 1, xc)) (ss := gr.take j ++ st :: gr.drop j) (by rw [hpl]; exact p2.ext hx6a) (fun p hp => ⟨(p3 p hp).1.ext hx6a, (p3 p hp).2⟩) p4
         (fun p hp g hg => by
          have := (p3 p hp).1.lt g hg
          rw [aK]; omega) (by rw [aK]; omega) (by
          rw [hlen, hstr]
          exact (HX6.out.2.1.ext ((Kp.refl w6).alloc _))) (by rw [hlen]; have := HR2.out.2; omega) (by rw [hpl]; exact hr7) hk7b
        refine ⟨hk7, ?_⟩
        rw [nE HI.out.1, List.map_append, List.map_singleton, eins, hps]
        exact h)
       clear hr7 hk7 hk7b
       go_wp2
       go_roundw
       case rel => exact ⟨i + 1, by omega, by first | rfl | (congr 1; done) | (congr 1; omega), HTE2.out.1 (by first | rfl | trivial), qH HFin.out.1, qH HFin.out.2⟩
       case measure => simp [intOf]; omega
      ·have h0 : ((te : Int) != 0) = true := by simp; omega
       have HF := qH hte
       clear hte
       go_wp2_with fail
       go_ret2
       refine HW.out _ _ (H9.out.1.trans H4.out) (.inr (.inr ⟨HL0.out, rfl, te, [], ?_, .inl ⟨HF.out, rfl⟩⟩))
       unfold xJ
       rw [HP.out.1, HP.out.2.2.1, if_neg (fun h => h rfl), HTE2.out.2 HF.out, if_pos HF.out]
     ·generalize hwA : wr = wA at *; clear hwA
      obtain rfl : i = gl := by omega
      have htk : gs.take i = gs := List.take_of_length_le (by rw [HP.out.2.1]; exact Nat.le_refl _)
      rw [htk] at hte hO
      obtain ⟨aa, ac, eav, rs, hLL, hca, hab, hrs⟩ := hO.out.shape
      rw [List.length_map, HP.out.2.1] at eav
      subst eav
      have hrl : rs.length = i := by
       have := congrArg List.length hLL
       rw [List.length_map, List.length_map, HP.out.2.1] at this
       exact this.symm
      have hB' := H9.out.2.ext hex.out
      have s1 : wA.cell? ⟨gb, 1, none⟩ = some (.slice ha hn hcap) := by rw [hB'.cell']; rfl
      have h64 : hn ≤ 64 := by rw [HN.out.1]; exact aJn HC.out
      have hi16 : i ≤ 1048576 := by have h1 := HP.out.2.2.2.2.2; have h2 := HN.out.2.2.2.2.2; omega
      have HNR := qH (iF (fun _ => False) wA hn h64 (fun k h => h.elim))
      have HRs := qH (And.intro hLL (And.intro hca (And.intro hrs (And.intro hrl hte))))
      clear hte hO htk hLL hca hab hrs hrl hB' hlt hi
      go_wp2_with fail
      refine HNR.out.mono ?_
      rintro e w12 ⟨v12, rfl, hk12, rfl, hr12⟩
      obtain ⟨rb, erb⟩ : ∃ x, wA.heap.size = x := ⟨_, rfl⟩
      rw [erb] at hr12 ⊢
      have H12 := qH (And.intro hk12 (And.intro hr12 erb))
      clear s1 hk12 hr12 erb
      go_wp2_with fail
      go_loopw [98] (fun iv wr => AddTo w9 w12 rb hn (gs.map (jV k at_.toNat j)) i iv wr) (fun iv _ => i - (intOf iv).toNat)
      case atStart => exact ⟨0, Nat.zero_le _, rfl, rfl, qH (Kp.refl _), fun _ => False, .slice none 0 0, qH ⟨H12.out.2.1, fun q h => h.elim, fun q h => by cases h⟩⟩
      case round =>
       obtain ⟨q, hq, rfl, hz, hkp, S9, v9, hR⟩ := hrel
       have hxw : Ext w wr := (H9.out.1.trans (hex.out.trans H12.out.1)).trans' hkp.out fun i hi e => by
        have e' : i = rb := e
        have h1 := (H9.out.1.trans hex.out).size
        have := H12.out.2.2; omega
       by_cases hlt : q < i
       ·obtain ⟨⟨⟨xa, xn, xc⟩, ss⟩, hp⟩ : ∃ p, rs[q]? = some p := ⟨_, qG (by rw [HRs.out.2.2.2.1]; exact hlt)⟩
        have hLq : (gs.map (jV k at_.toNat j))[q]? = some ss := by rw [HRs.out.1, List.getElem?_map, hp]; rfl
        obtain ⟨ab, ao, eaa, c0⟩ := HRs.out.2.1 q _ (uQ rs q _ hp)
        subst eaa
        have hab : ab < wA.heap.size := World.block_lt_of_cell? _ _ c0
        have herb := H12.out.2.2
        replace c0 := hkp.out.cell (H12.out.1.cell c0 id) (fun e => by have e' : ab = rb := e; omega)
        obtain ⟨hr1, hr2, hr3⟩ := HRs.out.2.2.1 _ (List.mem_of_getElem? hp)
        have hro : ∀ a, xa = some a -> a.block < wA.heap.size := fun a e => (hr3 a e).2
        have hs12 := H12.out.1.size
        have hskp := hkp.out.size
        have hxn : xn = ss.length := hr1.1
        have hAdd := uP (z := False) (hR.out.1.q) (kU hn ((gs.map (jV k at_.toNat j)).take q) [] List.Pairwise.nil) (ao := xa) (n := xn) (cap := xc) (ss := ss) ⟨⟨hxn, (hr1.2.ext H12.out.1).kp hkp.out fun a e f => by
         have h1 := hro a e
         have f' : a.block = rb := f
         omega⟩, hr2, fun a e _ => by
         have h1 := hro a e
         omega⟩ (fun a e _ ho => by
         have h1 := hro a e
         rcases ho with ho | ho
         ·have ho' : a.block = rb := ho
          omega
         ·have h2 := hR.out.2.2 _ ho
          omega) (by have := pN hn ((gs.map (jV k at_.toNat j)).take q) [] (Nat.zero_le _); omega)
        obtain ⟨RL, eRL⟩ : ∃ x, (bB hn [] ((gs.map (jV k at_.toNat j)).take q)).2 = x := ⟨_, rfl⟩
        rw [eRL] at hAdd
        obtain ⟨er, eer⟩ : ∃ er, (aM hn RL ss).2 = er := ⟨_, rfl⟩
        have HAdd := qH hAdd
        have HQ := qH (And.intro hLq (And.intro eRL (And.intro eer (And.intro hz hR.out))))
        have q1 : (q : Int) < (i : Int) := by omega
        have HX := qH (And.intro hxw (And.intro hkp.out herb))
        clear hLq hp hab hr1 hr2 hr3 hro hs12 hskp hxn hAdd eRL hz hR hxw hkp herb
        go_wp2_with fail
        refine HAdd.out.mono ?_
        rintro e w14 ⟨v14, rfl, hk14, ev14, S', iv', -, g2, g3, g4⟩
        subst ev14
        rw [eer]
        obtain ⟨fr, efr⟩ : ∃ x, (aM hn RL ss).1 = x := ⟨_, rfl⟩
        rw [efr]
        have HK := qH (show Ext w w14 /\ Kp (fun q => q = rb) w12 w14 /\ RowsAt S' w14 rb iv' hn (aV hn RL ss) /\ (∀ q, S' q -> w12.heap.size ≤ q) /\ ∀ q, iv'.ownBlock = some q -> w12.heap.size ≤ q from by
         obtain ⟨hLq, eRL, eer, hz, hRt, hS, hv⟩ := HQ.out
         obtain ⟨hxw, hkp, herb⟩ := HX.out
         have hs12 := H12.out.1.size
         have hskp := hkp.size
         have hwA := (H9.out.1.trans hex.out).size
         refine ⟨hxw.trans' hk14 fun i hi f => ?_, hkp.trans' hk14 fun i hi f => ?_, ?_, fun q h => ?_, fun q h => ?_⟩
         ·rcases f with f | f
          ·have f' : i = rb := f
           omega
          ·have := hv _ f; omega
         ·rcases f with f | f
          ·exact f
          ·have := hv _ f; omega
         ·rcases g3 with g3 | g3
          ·exact g3
          ·exact g3.1.elim
         ·rcases g2 q h with h | h
          ·exact hS q h
          ·omega
         ·rcases g4 q h with h | h
          ·exact hv q h
          ·omega)
        clear g2 g3 g4 hk14 eer efr c0
        by_cases h0 : er = 0
        ·have HF := qH h0
         subst h0
         go_wp2
         go_roundw
         case rel =>
          obtain ⟨hLq, eRL, eer, hz, hRt, hS, hv⟩ := HQ.out
          have e2 : bB hn [] ((gs.map (jV k at_.toNat j)).take (q + 1)) = (0, aV hn RL ss) := by
           rw [nE hLq, wL hz (by rw [eRL]; exact eer), eRL]
          exact ⟨q + 1, by omega, by first | rfl | (congr 1; done) | (congr 1; omega), by rw [e2], qH HK.out.2.1, S', iv', qH (by rw [e2]; exact HK.out.2.2)⟩
         case measure => simp [intOf]; omega
        ·have he0 : ((er : Int) != 0) = true := by simp; omega
         have HF := qH h0
         clear h0
         go_wp2_with fail
         go_ret2
         obtain ⟨hLq, eRL, eer, hz, hRt, hS, hv⟩ := HQ.out
         have e2 : bB hn [] (gs.map (jV k at_.toNat j)) = (er, RL) := by
          have e3 : gs.map (jV k at_.toNat j) = (gs.map (jV k at_.toNat j)).take (q + 1) ++ (gs.map (jV k at_.toNat j)).drop (q + 1) := (List.take_append_drop _ _).symm
          have e4 : bB hn [] ((gs.map (jV k at_.toNat j)).take (q + 1)) = (er, RL) := by
           rw [nE hLq, yH hz (by rw [eRL, eer]; exact HF.out), eRL, eer]
          rw [e3, wK hn _ _ _ (by rw [e4]; exact HF.out), e4]
         refine HW.out _ _ HK.out.1 (.inr (.inr ⟨HL0.out, rfl, er, RL, ?_, .inl ⟨HF.out, rfl⟩⟩))
         unfold xJ
         rw [HP.out.1, HP.out.2.2.1, if_neg (fun h => h rfl), HRs.out.2.2.2.2, if_neg (fun h => h rfl), <- HN.out.1]
         exact e2
       ·obtain rfl : q = i := by omega
        have htk : (gs.map (jV k at_.toNat j)).take q = gs.map (jV k at_.toNat j) := List.take_of_length_le (by rw [List.length_map, HP.out.2.1]; exact Nat.le_refl _)
        rw [htk] at hz hR
        have HX := qH (And.intro hxw (And.intro hz hR.out))
        clear htk hz hR hkp hxw
        go_wp2_with fail
        go_ret2
        obtain ⟨hxw, hz, hRt, hS, hv⟩ := HX.out
        have hs12 := H12.out.1.size
        have hwA := (H9.out.1.trans hex.out).size
        have herb := H12.out.2.2
        refine HW.out _ _ hxw (.inr (.inr ⟨HL0.out, rfl, 0, (bB hn [] (gs.map (jV k at_.toNat j))).2, ?_, .inr ⟨rfl, rb, v9, S9, rfl, by rw [<- HN.out.1]; exact hRt, by omega, fun q h => by have := hS q h; omega, fun q h => by have := hv q h; omega⟩⟩))
        unfold xJ
        rw [HP.out.1, HP.out.2.2.1, if_neg (fun h => h rfl), HRs.out.2.2.2.2, if_neg (fun h => h rfl), <- HN.out.1]
        exact Prod.ext hz rfl
   ·have h0 : ((fz : Int) != 0) = true := by simp; omega
    have HF := qH hfz
    clear hfz
    go_wp2_with fail
    go_ret2
    exact HW.out _ _ H9.out.1 (.inr (.inr ⟨HL0.out, rfl, fz, [], by unfold xJ; rw [HP.out.2.2.1, if_pos HF.out], .inl ⟨HF.out, rfl⟩⟩))
 ·have h0 : ((cR : Int) != 0) = true := by simp; omega
  have HCR := qH hc
  clear hc
  go_wp2_with fail
  go_ret2
  exact RetN.mk H2.out.1 (.inl ⟨by rw [HC.out]; exact HCR.out, by rw [HC.out]; rfl⟩)
theorem uS (k : Int) (w : World) : Calls Tryz.prog 19 #[.int .i64 k] w (RetN w fun w' u => u = .int .i64 k) := by
 go_enter Tryz.func19, Tryz.ntmps19
 go_wp2
 go_ret
 exact RetN.mk (Kp.refl _) rfl
theorem wF (s : ByteArray) (w : World) : Calls Tryz.prog 25 #[.string s] w (RetN w fun w' u => u = .agg #[.int .i64 1, .string s]) := by
 obtain ⟨g0, eg0⟩ : ∃ g, w.heap.size = g := ⟨_, rfl⟩
 obtain ⟨wb, eb⟩ : ∃ wb, (w.alloc (.cells #[.int .i64 0, .string ⟨#[]⟩] 58)) = wb := ⟨_, rfl⟩
 have hB : Blk wb (g0) [.int .i64 0, .string ⟨#[]⟩] 58 := by rw [<- eb, <- eg0]; exact Blk.new w _ _
 have HX := qH (show Ext w wb by rw [<- eb]; exact ((Kp.refl w).alloc _))
 have HB := qH (And.intro hB eg0)
 have f0 := hB.free 0
 have u0 : wb.cell? ⟨g0, 0, none⟩ = some (.int .i64 0) := by rw [hB.cell']; rfl
 have f1 := hB.free 1
 have u1 : wb.cell? ⟨g0, 1, none⟩ = some (.string ⟨#[]⟩) := by rw [hB.cell']; rfl
 clear hB
 go_enter Tryz.func25, Tryz.ntmps25
 go_wp2
 obtain ⟨W, eW⟩ : ∃ x, ((wb.setCell ⟨g0, 0, none⟩ (.int .i64 1)).setCell ⟨g0, 1, none⟩ (.string s)) = x := ⟨_, rfl⟩
 have hBW : Blk W (g0) [.int .i64 1, .string s] 58 := by rw [<- eW]; exact ((HB.out.1.set 0 _).set 1 _)
 have kW : Kp (fun k => k = g0) wb W := by rw [<- eW]; exact (Kp.setCell (F := fun k => k = g0) (p := ⟨g0, 1, none⟩) (Kp.setCell (F := fun k => k = g0) (p := ⟨g0, 0, none⟩) (Kp.refl wb) (fun _ => rfl) _) (fun _ => rfl) _)
 have d0 : W.cell? ⟨g0, 0, none⟩ = some (.int .i64 1) := by rw [hBW.cell']; rfl
 have d1 : W.cell? ⟨g0, 1, none⟩ = some (.string s) := by rw [hBW.cell']; rfl
 rw [eW]
 refine bodyPost_ret (v := .agg #[.int .i64 1, .string s]) (by simp [results, Tryz.results25, go_sem, d0, d1]) rfl ?_
 exact RetN.mk (HX.out.trans' kW fun i hi e => by have := HB.out.2; omega) rfl
theorem aEe (p : ByteArray) (a : Option Addr) (n c : Nat) (w : World) : Calls Tryz.prog 24 #[.string p, .slice a n c] w (RetN w fun w' u => u = .agg #[.int .i64 1, .string p, .slice a n c, .int .i64 0, .int .i64 0, .string ⟨#[]⟩, .int .i64 0, .string ⟨#[]⟩]) := by
 obtain ⟨g0, eg0⟩ : ∃ g, w.heap.size = g := ⟨_, rfl⟩
 obtain ⟨wb, eb⟩ : ∃ wb, (w.alloc (.cells #[.int .i64 0, .string ⟨#[]⟩, .slice none 0 0, .int .i64 0, .int .i64 0, .string ⟨#[]⟩, .int .i64 0, .string ⟨#[]⟩] 60)) = wb := ⟨_, rfl⟩
 have hB : Blk wb (g0) [.int .i64 0, .string ⟨#[]⟩, .slice none 0 0, .int .i64 0, .int .i64 0, .string ⟨#[]⟩, .int .i64 0, .string ⟨#[]⟩] 60 := by rw [<- eb, <- eg0]; exact Blk.new w _ _
 have HX := qH (show Ext w wb by rw [<- eb]; exact ((Kp.refl w).alloc _))
 have HB := qH (And.intro hB eg0)
 have f0 := hB.free 0
 have u0 : wb.cell? ⟨g0, 0, none⟩ = some (.int .i64 0) := by rw [hB.cell']; rfl
 have f1 := hB.free 1
 have u1 : wb.cell? ⟨g0, 1, none⟩ = some (.string ⟨#[]⟩) := by rw [hB.cell']; rfl
 have f2 := hB.free 2
 have u2 : wb.cell? ⟨g0, 2, none⟩ = some (.slice none 0 0) := by rw [hB.cell']; rfl
 have f3 := hB.free 3
 have u3 : wb.cell? ⟨g0, 3, none⟩ = some (.int .i64 0) := by rw [hB.cell']; rfl
 have f4 := hB.free 4
 have u4 : wb.cell? ⟨g0, 4, none⟩ = some (.int .i64 0) := by rw [hB.cell']; rfl
 have f5 := hB.free 5
 have u5 : wb.cell? ⟨g0, 5, none⟩ = some (.string ⟨#[]⟩) := by rw [hB.cell']; rfl
 have f6 := hB.free 6
 have u6 : wb.cell? ⟨g0, 6, none⟩ = some (.int .i64 0) := by rw [hB.cell']; rfl
 have f7 := hB.free 7
 have u7 : wb.cell? ⟨g0, 7, none⟩ = some (.string ⟨#[]⟩) := by rw [hB.cell']; rfl
 clear hB
 go_enter Tryz.func24, Tryz.ntmps24
 go_wp2
 obtain ⟨W, eW⟩ : ∃ x, ((((((((wb.setCell ⟨g0, 0, none⟩ (.int .i64 1)).setCell ⟨g0, 1, none⟩ (.string p)).setCell ⟨g0, 2, none⟩ (.slice a n c)).setCell ⟨g0, 3, none⟩ (.int .i64 0)).setCell ⟨g0, 4, none⟩ (.int .i64 0)).setCell ⟨g0, 5, none⟩ (.string ⟨#[]⟩)).setCell ⟨g0, 6, none⟩ (.int .i64 0)).setCell ⟨g0, 7, none⟩ (.string ⟨#[]⟩)) = x := ⟨_, rfl⟩
 have hBW : Blk W (g0) [.int .i64 1, .string p, .slice a n c, .int .i64 0, .int .i64 0, .string ⟨#[]⟩, .int .i64 0, .string ⟨#[]⟩] 60 := by rw [<- eW]; exact ((((((((HB.out.1.set 0 _).set 1 _).set 2 _).set 3 _).set 4 _).set 5 _).set 6 _).set 7 _)
 have kW : Kp (fun k => k = g0) wb W := by rw [<- eW]; exact (Kp.setCell (F := fun k => k = g0) (p := ⟨g0, 7, none⟩) (Kp.setCell (F := fun k => k = g0) (p := ⟨g0, 6, none⟩) (Kp.setCell (F := fun k => k = g0) (p := ⟨g0, 5, none⟩) (Kp.setCell (F := fun k => k = g0) (p := ⟨g0, 4, none⟩) (Kp.setCell (F := fun k => k = g0) (p := ⟨g0, 3, none⟩) (Kp.setCell (F := fun k => k = g0) (p := ⟨g0, 2, none⟩) (Kp.setCell (F := fun k => k = g0) (p := ⟨g0, 1, none⟩) (Kp.setCell (F := fun k => k = g0) (p := ⟨g0, 0, none⟩) (Kp.refl wb) (fun _ => rfl) _) (fun _ => rfl) _) (fun _ => rfl) _) (fun _ => rfl) _) (fun _ => rfl) _) (fun _ => rfl) _) (fun _ => rfl) _) (fun _ => rfl) _)
 have d0 : W.cell? ⟨g0, 0, none⟩ = some (.int .i64 1) := by rw [hBW.cell']; rfl
 have d1 : W.cell? ⟨g0, 1, none⟩ = some (.string p) := by rw [hBW.cell']; rfl
 have d2 : W.cell? ⟨g0, 2, none⟩ = some (.slice a n c) := by rw [hBW.cell']; rfl
 have d3 : W.cell? ⟨g0, 3, none⟩ = some (.int .i64 0) := by rw [hBW.cell']; rfl
 have d4 : W.cell? ⟨g0, 4, none⟩ = some (.int .i64 0) := by rw [hBW.cell']; rfl
 have d5 : W.cell? ⟨g0, 5, none⟩ = some (.string ⟨#[]⟩) := by rw [hBW.cell']; rfl
 have d6 : W.cell? ⟨g0, 6, none⟩ = some (.int .i64 0) := by rw [hBW.cell']; rfl
 have d7 : W.cell? ⟨g0, 7, none⟩ = some (.string ⟨#[]⟩) := by rw [hBW.cell']; rfl
 rw [eW]
 refine bodyPost_ret (v := .agg #[.int .i64 1, .string p, .slice a n c, .int .i64 0, .int .i64 0, .string ⟨#[]⟩, .int .i64 0, .string ⟨#[]⟩]) (by simp [results, Tryz.results24, go_sem, d0, d1, d2, d3, d4, d5, d6, d7]) rfl ?_
 exact RetN.mk (HX.out.trans' kW fun i hi e => by have := HB.out.2; omega) rfl
theorem aBl (ha ba : Option Addr) (hn hc n c : Nat) (w : World) : Calls Tryz.prog 28 #[.slice ha hn hc, .slice ba n c] w (RetN w fun w' u => u = eV ⟨#[116]⟩ ha hn hc ba n c) := by
 obtain ⟨g0, eg0⟩ : ∃ g, w.heap.size = g := ⟨_, rfl⟩
 obtain ⟨wb, eb⟩ : ∃ wb, (w.alloc (.cells #[.string ⟨#[]⟩, .slice none 0 0, .slice none 0 0] 43)) = wb := ⟨_, rfl⟩
 have hB : Blk wb (g0) [.string ⟨#[]⟩, .slice none 0 0, .slice none 0 0] 43 := by rw [<- eb, <- eg0]; exact Blk.new w _ _
 have HX := qH (show Ext w wb by rw [<- eb]; exact ((Kp.refl w).alloc _))
 have HB := qH (And.intro hB eg0)
 have f0 := hB.free 0
 have u0 : wb.cell? ⟨g0, 0, none⟩ = some (.string ⟨#[]⟩) := by rw [hB.cell']; rfl
 have f1 := hB.free 1
 have u1 : wb.cell? ⟨g0, 1, none⟩ = some (.slice none 0 0) := by rw [hB.cell']; rfl
 have f2 := hB.free 2
 have u2 : wb.cell? ⟨g0, 2, none⟩ = some (.slice none 0 0) := by rw [hB.cell']; rfl
 clear hB
 go_enter Tryz.func28, Tryz.ntmps28
 go_wp2
 obtain ⟨W, eW⟩ : ∃ x, (((wb.setCell ⟨g0, 0, none⟩ (.string ⟨#[116]⟩)).setCell ⟨g0, 1, none⟩ (.slice ha hn hc)).setCell ⟨g0, 2, none⟩ (.slice ba n c)) = x := ⟨_, rfl⟩
 have hBW : Blk W (g0) [.string ⟨#[116]⟩, .slice ha hn hc, .slice ba n c] 43 := by rw [<- eW]; exact (((HB.out.1.set 0 _).set 1 _).set 2 _)
 have kW : Kp (fun k => k = g0) wb W := by rw [<- eW]; exact (Kp.setCell (F := fun k => k = g0) (p := ⟨g0, 2, none⟩) (Kp.setCell (F := fun k => k = g0) (p := ⟨g0, 1, none⟩) (Kp.setCell (F := fun k => k = g0) (p := ⟨g0, 0, none⟩) (Kp.refl wb) (fun _ => rfl) _) (fun _ => rfl) _) (fun _ => rfl) _)
 have d0 : W.cell? ⟨g0, 0, none⟩ = some (.string ⟨#[116]⟩) := by rw [hBW.cell']; rfl
 have d1 : W.cell? ⟨g0, 1, none⟩ = some (.slice ha hn hc) := by rw [hBW.cell']; rfl
 have d2 : W.cell? ⟨g0, 2, none⟩ = some (.slice ba n c) := by rw [hBW.cell']; rfl
 rw [eW]
 refine bodyPost_ret (v := eV ⟨#[116]⟩ ha hn hc ba n c) (by simp [results, Tryz.results28, go_sem, d0, d1, d2]) rfl ?_
 exact RetN.mk (HX.out.trans' kW fun i hi e => by have := HB.out.2; omega) rfl
def aHx (w0 : World) (ss tt : List ByteArray) (n : Nat) (iv : Value) (w : World) : Prop := ∃ i : Nat, i ≤ n /\ iv = .int .i64 i /\ Hid (Ext w0 w) /\ Hid (ss.take i = tt.take i)
set_option maxHeartbeats 1000000 in
theorem aBj (ss tt : List ByteArray) (ao bo : Option Addr) (n m acap bcap : Nat) (w : World) (hn : n = ss.length) (hm : m = tt.length) (ha : CellsAt w ao (strs ss)) (hb : CellsAt w bo (strs tt)) (hl : n ≤ 4611686018427387904) :
 Calls Tryz.prog 59 #[.slice ao n acap, .slice bo m bcap] w (RetN w fun w' v => v = .bool (decide (ss = tt))) := by
 have HN := qH (And.intro hn hm); have HA := qH ha; have HB := qH hb
 clear hn hm ha hb
 by_cases hnm : n = m
 ·subst hnm
  have q1 : ((n : Int) != (n : Int)) = false := by simp
  go_enter Tryz.func59, Tryz.ntmps59
  go_wp2
  go_loopw [5] (fun iv wr => aHx w ss tt n iv wr) (fun iv _ => n - (intOf iv).toNat)
  case atStart => exact ⟨0, Nat.zero_le _, rfl, qH (Kp.refl w), qH rfl⟩
  case round =>
   obtain ⟨i, hi, rfl, hex, heq⟩ := hrel
   by_cases hlt : i < n
   ·obtain ⟨s, hs⟩ : ∃ s, ss[i]? = some s := ⟨_, qG (by rw [<- HN.out.1]; exact hlt)⟩
    obtain ⟨t, ht⟩ : ∃ t, tt[i]? = some t := ⟨_, qG (by rw [<- HN.out.2]; exact hlt)⟩
    obtain ⟨g1, o1, e1, c0⟩ := HA.out i (.string s) (by simp [strs, hs])
    obtain ⟨g2, o2, e2, d0⟩ := HB.out i (.string t) (by simp [strs, ht])
    subst e1 e2
    replace c0 := hex.out.cell c0 id
    replace d0 := hex.out.cell d0 id
    have HST := qH (And.intro hs ht)
    clear hs ht
    by_cases hst : s = t
    ·subst hst
     have q4 := str_eq s
     go_wp2
     go_quiet (fail)
     go_wp2
     go_roundw
     case rel => exact ⟨i + 1, by omega, by first | rfl | (congr 1; done) | (congr 1; omega), qH (hex.out.drewN _), qH (by rw [List.take_add_one, List.take_add_one, HST.out.1, HST.out.2, heq.out])⟩
     case measure => simp [intOf]; omega
    ·have q4 := jI hst
     have HD := qH (show decide (ss = tt) = false from decide_eq_false fun e => hst (by have h := HST.out.1; rw [e, HST.out.2] at h; cases h; rfl))
     clear hst
     go_wp2
     go_quiet (fail)
     go_wp2
     go_ret
     exact RetN.mk (hex.out.drewN _) (by rw [HD.out]; rfl)
   ·obtain rfl : n = i := by omega
    have HD := qH (show decide (ss = tt) = true from decide_eq_true (by
     have h := heq.out
     rw [List.take_of_length_le (by rw [<- HN.out.1]; exact Nat.le_refl _), List.take_of_length_le (by rw [<- HN.out.2]; exact Nat.le_refl _)] at h
     exact h))
    go_wp2
    go_ret
    exact RetN.mk hex.out (by rw [HD.out]; rfl)
 ·have q1 : ((n : Int) != (m : Int)) = true := by simp; omega
  have q2 : ((n : Int) == (m : Int)) = false := by simp; omega
  have HD := qH (show decide (ss = tt) = false from decide_eq_false fun e => hnm (by rw [HN.out.1, HN.out.2, e]))
  clear hnm
  go_enter Tryz.func59, Tryz.ntmps59
  go_wp2
  go_ret
  exact RetN.mk (Kp.refl w) (by rw [HD.out]; rfl)
def aFs (w0 : World) (A B : aC) (n : Nat) (iv : Value) (w : World) : Prop := ∃ i : Nat, i ≤ n /\ iv = .int .i64 i /\ Hid (Ext w0 w) /\ Hid (A.take i = B.take i)
set_option maxHeartbeats 4000000 in
theorem aA0 {S S' : Nat -> Prop} {A B : aC} {ao bo : Option Addr} {n m acap bcap : Nat} {w : World} (hn : n = A.length) (hm : m = B.length) (ha : RowsIn S w ao A) (hb : RowsIn S' w bo B) (hl : n ≤ 4611686018427387904) :
 Calls Tryz.prog 22 #[.slice ao n acap, .slice bo m bcap] w (RetN w fun w' v => v = .bool (decide (A = B))) := by
 have HN := qH (And.intro hn hm); have HA := qH ha; have HB := qH hb
 clear hn hm ha hb
 by_cases hnm : n = m
 ·subst hnm
  have q1 : ((n : Int) != (n : Int)) = false := by simp
  go_enter Tryz.func22, Tryz.ntmps22
  go_wp2
  go_loopw [5] (fun iv wr => aFs w A B n iv wr) (fun iv _ => n - (intOf iv).toNat)
  case atStart => exact ⟨0, Nat.zero_le _, rfl, qH (Kp.refl w), qH rfl⟩
  case round =>
   obtain ⟨i, hi, rfl, hex, heq⟩ := hrel
   by_cases hlt : i < n
   ·obtain ⟨s, hs⟩ : ∃ s, A[i]? = some s := ⟨_, qG (by rw [<- HN.out.1]; exact hlt)⟩
    obtain ⟨t, ht⟩ : ∃ t, B[i]? = some t := ⟨_, qG (by rw [<- HN.out.2]; exact hlt)⟩
    obtain ⟨g1, o1, x1, c1, e1, d1, hc1, hl1, -⟩ := (HA.out.ext hex.out).get hs
    obtain ⟨g2, o2, x2, c2, e2, d2, hc2, hl2, -⟩ := (HB.out.ext hex.out).get ht
    subst e1 e2
    have HST := qH (And.intro hs ht)
    have HSm := qH (fun W (hW : Ext wr W) => aBj s t x1 x2 s.length t.length c1 c2 W rfl rfl (hc1.ext hW) (hc2.ext hW) (by omega))
    obtain ⟨ns, ens⟩ : ∃ k, s.length = k := ⟨_, rfl⟩
    obtain ⟨nt, ent⟩ : ∃ k, t.length = k := ⟨_, rfl⟩
    rw [ens] at d1 HSm
    rw [ent] at d2 HSm
    have i1 : (i : Int) < (n : Int) := by omega
    have HJ := qH (show ∀ w', Ext wr w' -> (fun w' : World => w'.cell? ⟨g1, o1 + i, none⟩ = some (.slice x1 ns c1) /\ w'.cell? ⟨g2, o2 + i, none⟩ = some (.slice x2 nt c2)) w' from fun w' hw => ⟨hw.cell d1 id, hw.cell d2 id⟩)
    clear hs ht hc1 hc2 hl1 hl2 ens ent d1 d2
    go_wp2
    refine aO (fun w' : World => w'.cell? ⟨g1, o1 + i, none⟩ = some (.slice x1 ns c1) /\ w'.cell? ⟨g2, o2 + i, none⟩ = some (.slice x2 nt c2)) [] (by kernel_rfl) (HJ.out _ (Kp.refl wr).drew) (fun hHeld => ?_)
    refine dF 0 ?_; try simp only [Act.put,sI,sZ,sS]
    refine dF 1 ?_; try simp only [Act.put,sI,sZ,sS]
    refine dI 2 ?_; try simp only [Act.put,sI,sZ,sS]
    refine dI 3 ?_; try simp only [Act.put,sI,sZ,sS]
    refine dF 4 ?_; try simp only [Act.put,sI,sZ,sS]
    refine dF 5 ?_; try simp only [Act.put,sI,sZ,sS]
    refine dI 6 ?_; try simp only [Act.put,sI,sZ,sS]
    refine dI 7 ?_; try simp only [Act.put,sI,sZ,sS]
    refine aE (i := 8) ?_
    refine aG (i := 8) rfl (fun K hK => ?_)
    go_simp
    (refine (HSm.out _ ((Kp.refl wr).drew)).mono ?_; rintro e w5 ⟨v, rfl, hk5, rfl⟩; have X5 := qH (show Ext wr w5 from ((Kp.refl wr).drew).trans hk5); clear hk5)
    go_wp2_with fail
    refine hK.out _ _ ?_ (fun hHeld => ?_)
    ·(try dsimp only); (exact HJ.out _ X5.out)
    clear hK K; (try simp only [Act.put,sI,sZ,sS])
    refine dF 9 ?_; try simp only [Act.put,sI,sZ,sS]
    refine aI (by kernel_rfl) ?_ _
    clear hHeld
    by_cases hst : s = t
    ·have hd : decide (s = t) = true := decide_eq_true hst
     rw [hd]
     have HE := qH hst
     clear hst hd
     go_wp2
     go_roundw
     case rel => exact ⟨i + 1, by omega, by first | rfl | (congr 1; done) | (congr 1; omega), qH (hex.out.trans X5.out), qH (by rw [List.take_add_one, List.take_add_one, HST.out.1, HST.out.2, heq.out, HE.out])⟩
     case measure => simp [intOf]; omega
    ·have hd : decide (s = t) = false := decide_eq_false hst
     rw [hd]
     have HD := qH (show decide (A = B) = false from decide_eq_false fun e => hst (by have h := HST.out.1; rw [e, HST.out.2] at h; cases h; rfl))
     clear hst hd
     go_wp2
     go_ret
     exact RetN.mk (hex.out.trans X5.out) (by rw [HD.out]; rfl)
   ·obtain rfl : n = i := by omega
    have HD := qH (show decide (A = B) = true from decide_eq_true (by
     have h := heq.out
     rw [List.take_of_length_le (by rw [<- HN.out.1]; exact Nat.le_refl _), List.take_of_length_le (by rw [<- HN.out.2]; exact Nat.le_refl _)] at h
     exact h))
    go_wp2
    go_ret
    exact RetN.mk hex.out (by rw [HD.out]; rfl)
 ·have q1 : ((n : Int) != (m : Int)) = true := by simp; omega
  have q2 : ((n : Int) == (m : Int)) = false := by simp; omega
  have HD := qH (show decide (A = B) = false from decide_eq_false fun e => hnm (by rw [HN.out.1, HN.out.2, e]))
  clear hnm
  go_enter Tryz.func22, Tryz.ntmps22
  go_wp2
  go_ret
  exact RetN.mk (Kp.refl w) (by rw [HD.out]; rfl)
def aGb (C : List bJ) (ls : List aQ) (j : Nat) : aC := match ls[j]? with | some l => bV C (bM l) | none => []
def gB (r : cN) (C : List bJ) : aC := if aT r = 0 then aI6 r (aGb C r.2.1) else []
theorem aBy (E : List Ent) (s : ByteArray) : gN (bL E s) = bV (aW E) s := by
 unfold bV
 rw [oB]
 cases bL E s <;> rfl
theorem aGa (ls : List aQ) (E : List Ent) : bZ (yT ls E) ls = aGb (aW E) ls := by
 funext j
 unfold bZ yT aGb
 by_cases hj : j < ls.length
 ·rw [if_pos hj, qG hj, aBy]; rfl
 ·rw [if_neg hj, List.getElem?_eq_none (by omega)]; rfl
theorem aC0 (r : cN) (E : List Ent) : mD r (bZ (yT r.2.1 E) r.2.1) (gB r (aW E)) := by
 rw [aGa]
 unfold gB
 exact ⟨fun hc => by rw [if_pos hc]; exact aHo hc _, fun hc => by rw [if_neg hc]⟩
abbrev TT : Nat -> Prop := fun _ => True
def fitB (ts : List aF) : Bool := ts.all fun t => (Lit.int .i64 t.1).wf && decide (t.2.1.size ≤ 4096)
theorem aEz {t : aF} (h : ((Lit.int .i64 t.1).wf && decide (t.2.1.size ≤ 4096)) = true) : gC t := by
 rw [Bool.and_eq_true, decide_eq_true_eq] at h
 exact ⟨h.1, by unfold maxLen; omega⟩
theorem sY {ts : List aF} (h : fitB ts = true) : ∀ t ∈ ts, gC t := fun t ht => aEz (List.all_eq_true.1 h t ht)
def aDr (ls : List aQ) : Bool := ls.all fun l => (Lit.int .i64 l.1).wf && (decide ((bM l).size ≤ 4096) && (fitB (aB l) && ((Lit.int .i64 (iA l)).wf && fitB [leftOf l, aU l])))
theorem zF {ls : List aQ} (h : aDr ls = true) : ∀ l ∈ ls, LitAll l := fun l hl => by
 have h1 := List.all_eq_true.1 h l hl
 simp only [Bool.and_eq_true, decide_eq_true_eq] at h1
 obtain ⟨a, b, c, d, e⟩ := h1
 have e2 := sY e
 exact ⟨a, by unfold maxLen; omega, sY c, d, e2 _ (by simp), e2 _ (by simp)⟩
theorem uD (w : World) (ts : List aF) (h : fitB ts = true) : bD (w.alloc (.cells (aF5 ts).toArray 58)) TT (some ⟨w.heap.size, 0, none⟩) ts :=
 aHh (s := jN) (f := xW) (rest := []) (fun x => rfl) (fun i x hi => wG (sY h x (List.mem_of_getElem? hi))) trivial (by rw [List.append_nil]; exact Blk.new w (aF5 ts) 58)
theorem aGo (w : World) (ls : List aQ) (vs : List (Option Addr × Nat)) (hv : vs.length = ls.length) (h : aDr ls = true) (ht : ∀ x ∈ ls.zip vs, bD w TT x.2.1 (aB x.1) /\ (aB x.1).length ≤ x.2.2 /\ x.2.2 ≤ maxLen) : dC (w.alloc (.cells ((ls.zip vs).flatMap aCb).toArray 60)) TT (some ⟨w.heap.size, 0, none⟩) ls :=
 aCa (rest := []) hv (zF h) (fun x hx => ⟨(ht x hx).1.ext ((Kp.refl w).alloc _), (ht x hx).2⟩) trivial (by rw [List.append_nil]; exact Blk.new w ((ls.zip vs).flatMap aCb) 60)
def aGc (l : List (Nat × List ByteArray)) : List eS := l.map fun x => ((some ⟨x.1, 0, none⟩, x.2.length, x.2.length), x.2)
theorem uN {w : World} {g : Nat} {l : List (Nat × List ByteArray)} {LL : aC} (hl : LL = l.map Prod.snd) (hB : Blk w g (dX (aGc l)) 66) (hr : ∀ x ∈ l, Blk w x.1 (strs x.2) 9 /\ x.2.length ≤ 64) : RowsIn TT w (some ⟨g, 0, none⟩) LL := by
 refine ⟨aGc l, by rw [hl]; unfold aGc; rw [List.map_map]; rfl, CellsAt.pre (rest := []) (by rw [List.append_nil]; exact hB), fun _ _ => trivial, fun p hp => ?_⟩
 obtain ⟨x, hx, rfl⟩ := List.mem_map.1 hp
 obtain ⟨h1, h2⟩ := hr x hx
 exact ⟨⟨rfl, CellsAt.pre (rest := []) (by rw [List.append_nil]; exact h1)⟩, by show x.2.length ≤ _; omega, fun _ _ => trivial⟩
def fewB (ls : List aQ) : Bool := decide ((aA ls).length ≤ 1048576)
theorem aJp {ls : List aQ} (h : fewB ls = true) : (aA ls).length ≤ 1048576 := of_decide_eq_true h
def aI5 (ls : List aQ) : Bool := decide (ls.length ≤ 64) && ls.all fun l => decide ((aB l).length ≤ 64)
theorem aJo {ls : List aQ} (h : aI5 ls = true) : Fit ls := by
 unfold aI5 at h
 rw [Bool.and_eq_true, decide_eq_true_eq] at h
 exact ⟨by omega, fun l hl => by have := of_decide_eq_true (List.all_eq_true.1 h.2 l hl); omega⟩
end
section
open Go.RowKit Go.Shelf
section
variable {z z1 z2 : Prop} {S : Nat -> Prop} {w w' : World} {b b1 b2 : Nat} {iv iv1 iv2 : Value} {arity a1 a2 : Nat} {LL L1 L2 : List (List ByteArray)}
theorem pR (a : Int) (w : World) (ha : a < 0 \/ 64 < a) : Calls Tryz.prog 68 #[.int .i64 a] w (Ret (.tuple #[.pointer none, .int .i64 2]) w) := by
 by_cases h0 : a < 0
 ·have t1 : decide (a < 0) = true := by simp [h0]
  go_enter Tryz.func68, Tryz.ntmps68
  go_wp2
  go_ret2
  exact Ret.mk rfl
 ·have h1 : 64 < a := by omega
  have t1 : decide (a < 0) = false := by simp; omega
  have t2 : decide (a > 64) = true := by simp; omega
  have t3 : decide (64 < a) = true := by simp; omega
  go_enter Tryz.func68, Tryz.ntmps68
  go_wp2
  go_ret2
  exact Ret.mk rfl
end
end
section
open Go.RowKit
theorem aFn {C : List bJ} {s : ByteArray} (row : List ByteArray) (h : bU s = false) : dV C s row = (false, 32) := if_pos h
theorem aFo {C : List bJ} {s : ByteArray} {row : List ByteArray} (h : bU s = true) (hg : cW C s = none) (hl : 64 < row.length) : dV C s row = (false, 30) := by
 unfold dV
 rw [if_neg (by rw [h]; simp), if_pos (by unfold pH; rw [hg]; exact decide_eq_false (by omega))]
theorem aC8 {C : List bJ} {s : ByteArray} {row : List ByteArray} {v : Nat × aC} (h : bU s = true) (hg : cW C s = some v) (hl : v.1 ≠ row.length) : dV C s row = (false, 30) := by
 unfold dV
 rw [if_neg (by rw [h]; simp), if_pos (by unfold pH; rw [hg]; exact decide_eq_false hl)]
theorem vV {C : List bJ} {s : ByteArray} {row : List ByteArray} (h : bU s = true) (hg : pH C s row = true) (ht : bP row = false) : dV C s row = (false, 31) := by
 unfold dV
 rw [if_neg (by rw [h]; simp), if_neg (by rw [hg]; simp), if_pos ht]
theorem vW {C : List bJ} {s : ByteArray} {row : List ByteArray} (h : bU s = true) (hg : pH C s row = true) (ht : bP row = true) (hm : 262144 ≤ bF C) (hi : bA aD (bV C s) row = false) : dV C s row = (false, 4) := by
 unfold dV
 rw [if_neg (by rw [h]; simp), if_neg (by rw [hg]; simp), if_neg (by rw [ht]; simp), if_pos ⟨hm, hi⟩]
theorem mC {C : List bJ} {s : ByteArray} {row : List ByteArray} (h : bU s = true) (hg : pH C s row = true) (ht : bP row = true) (hm : ¬ (262144 ≤ bF C /\ bA aD (bV C s) row = false)) :
 dV C s row = if 65536 ≤ (bV C s).length /\ bA aD (bV C s) row = false then (false, 4) else (!bA aD (bV C s) row, 0) := by
 unfold dV
 rw [if_neg (by rw [h]; simp), if_neg (by rw [hg]; simp), if_neg (by rw [ht]; simp), if_neg hm]
theorem oG {C : List bJ} {s : ByteArray} {row : List ByteArray} {v : Nat × aC} (hg : cW C s = some v) (h : v.1 = row.length) : pH C s row = true := by unfold pH; rw [hg]; exact decide_eq_true h
theorem xH {C : List bJ} {s : ByteArray} {row : List ByteArray} (hg : cW C s = none) (h : row.length ≤ 64) : pH C s row = true := by unfold pH; rw [hg]; exact decide_eq_true h
theorem aA5 {C : List bJ} {s : ByteArray} {row : List ByteArray} (h : (dV C s row).2 ≠ 0) : pJ C s row = C := if_neg h
section
variable {S S' : Nat -> Prop} {w w1 w2 w3 w4 : World} {bb r : Nat} {E : List Ent} {s : ByteArray} {ss : List ByteArray} {e : Ent} {iv' : Value}
def BaseAdded (S : Nat -> Prop) (w : World) (bb r : Nat) (E : List Ent) (s : ByteArray) (ss : List ByteArray) (w' : World) (v : Value) : Prop :=
 v = .tuple #[.bool (dV (aW E) s ss).1, .int .i64 ((dV (aW E) s ss).2 : Nat)] /\ ∃ S' E', (∀ k, S k -> S' k) /\ (∀ k, S' k -> S k \/ w.heap.size ≤ k) /\ BaseAt S' w' bb r E' /\ aW E' = pJ (aW E) s ss /\ ∀ k, gE bb r E' k -> gE bb r E k \/ w.heap.size ≤ k
theorem BaseAdded.same (h : BaseAt S w bb r E) (hk : Ext w w1) {n : Nat} (hR : dV (aW E) s ss = (false, n)) (hn : n ≠ 0) {v : Value} (hv : v = .tuple #[.bool false, .int .i64 (n : Nat)]) : BaseAdded S w bb r E s ss w1 v :=
 ⟨by rw [hv, hR], S, E, fun _ h => h, fun _ h => .inl h, h.ext hk, (aA5 (by rw [hR]; exact hn)).symm, fun _ h => .inl h⟩
theorem rQ {pre post : List Ent} (hiv : ∀ k, iv'.ownBlock = some k -> e.iv.ownBlock = some k \/ w.heap.size ≤ k) (LL' : List (List ByteArray)) : ∀ k, gE bb r (pre ++ { e with iv := iv', LL := LL' } :: post) k -> gE bb r (pre ++ e :: post) k \/ w.heap.size ≤ k := by
 rintro k (h | h | ⟨f, hf, ho⟩)
 ·exact .inl (.inl h)
 ·exact .inl (.inr (.inl h))
 ·rcases List.mem_append.1 hf with hf | hf
  ·exact .inl (.inr (.inr ⟨f, List.mem_append_left _ hf, ho⟩))
  ·rcases List.mem_cons.1 hf with rfl | hf
   ·rcases ho with ho | ho
    ·exact .inl (.inr (.inr ⟨e, List.mem_append_right _ List.mem_cons_self, .inl ho⟩))
    ·rcases hiv k ho with h2 | h2
     ·exact .inl (.inr (.inr ⟨e, List.mem_append_right _ List.mem_cons_self, .inr h2⟩))
     ·exact .inr h2
   ·exact .inl (.inr (.inr ⟨f, List.mem_append_right _ (List.mem_cons_of_mem _ hf), ho⟩))
theorem lR (h : BaseAt S w bb r E) (he : bL E s = some e) (hx : Ext w w2) (hk : Kp e.own w2 w3) : MapIs w3 r (fN E) := (h.map.ext hx).kp hk fun ho => (h.off e (cL he).1 r ho).2 rfl
theorem fP (h : BaseAt S w bb r E) (he : bL E s = some e) (hx : Ext w w2) (hk : Kp e.own w2 w3) : Blk w3 bb [.map (some r), .int .i64 (bF (aW E) : Nat)] 153 := (h.blk.ext hx).kp hk fun ho => (h.off e (cL he).1 bb ho).1 rfl
theorem oF {LL : List (List ByteArray)} (h : BaseAt S w bb r E) (he : bL E s = some e) (hf : bU s = true /\ e.ar = ss.length /\ bP ss = true /\ e.LL = LL /\ ¬ (262144 ≤ bF (aW E) /\ bA aD LL ss = false)) (hx : Ext w w2) (hk : Kp e.own w2 w3) (hss : ∀ k, S k -> S' k) (hsn : ∀ k, S' k -> S k \/ w2.heap.size ≤ k)
 (hr : RowsAt S' w3 e.b iv' e.ar (aV e.ar LL ss)) (hiv : ∀ k, iv'.ownBlock = some k -> e.iv.ownBlock = some k \/ w2.heap.size ≤ k) (h0 : aM e.ar LL ss = if 65536 ≤ LL.length /\ bA aD LL ss = false then (false, 4) else (!bA aD LL ss, 0)) (h4 : 65536 ≤ LL.length /\ bA aD LL ss = false) :
 RetF (gE bb r E) w (BaseAdded S w bb r E s ss) (.returned (.tuple #[.bool false, .int .i64 4])) w3 := by
 obtain ⟨f1, f2, f3, f4, f5⟩ := hf
 obtain ⟨g1, g2⟩ := dB he
 have hL : aV e.ar LL ss = LL := by unfold aV; rw [h0, if_pos h4]; rfl
 rw [hL] at hr
 have hR : dV (aW E) s ss = (false, 4) := by
  rw [mC f1 (oG g1 f2) f3 (by rw [g2, f4]; exact f5), g2, f4, if_pos h4]
 have hC : pJ (aW E) s ss = aW E := aA5 (by rw [hR]; decide)
 obtain ⟨pre, post, rfl⟩ := iJ he
 have hem : e ∈ pre ++ e :: post := List.mem_append_right _ List.mem_cons_self
 have hkw : Kp e.own w w3 := (Ext.kp hx).trans hk
 have hz := hx.size
 have hs2 : ∀ k, S' k -> S k \/ w.heap.size ≤ k := fun k hk' => (hsn k hk').imp id fun q => Nat.le_trans hz q
 have hiv2 : ∀ k, iv'.ownBlock = some k -> e.iv.ownBlock = some k \/ w.heap.size ≤ k := fun k hk' => (hiv k hk').imp id fun q => Nat.le_trans hz q
 have hsame : aW (pre ++ { e with iv := iv', LL := LL } :: post) = aW (pre ++ e :: post) := by
  rw [<- f4]; simp [aW, Ent.cnt]
 refine RetF.mk (hkw.mono fun k _ ho => .inr (.inr ⟨e, hem, ho⟩)) ⟨by rw [hR]; rfl, S', pre ++ { e with iv := iv', LL := LL } :: post, hss, hs2, ?_, by rw [hC, hsame], rQ hiv2 LL⟩
 exact h.turn hkw hss hs2 hr hiv2 (Kp.refl _) (lR h he hx hk) (fP h he hx hk) (by rw [hsame]) (by rw [hsame]; exact h.ok)
theorem qB {LL : List (List ByteArray)} (h : BaseAt S w bb r E) (he : bL E s = some e) (hf : bU s = true /\ e.ar = ss.length /\ bP ss = true /\ e.LL = LL /\ ¬ (262144 ≤ bF (aW E) /\ bA aD LL ss = false)) (hx : Ext w w2) (hk : Kp e.own w2 w3) (hss : ∀ k, S k -> S' k) (hsn : ∀ k, S' k -> S k \/ w2.heap.size ≤ k)
 (hr : RowsAt S' w3 e.b iv' e.ar (aV e.ar LL ss)) (hiv : ∀ k, iv'.ownBlock = some k -> e.iv.ownBlock = some k \/ w2.heap.size ≤ k) (h0 : aM e.ar LL ss = if 65536 ≤ LL.length /\ bA aD LL ss = false then (false, 4) else (!bA aD LL ss, 0)) (hi : bA aD LL ss = true)
 (hk4 : Kp (fun k => k = r) w3 w4) (hm4 : MapIs w4 r (jP (fN E) s (.pointer (some ⟨e.b, 0, none⟩)))) : RetF (gE bb r E) w (BaseAdded S w bb r E s ss) (.returned (.tuple #[.bool false, .int .i64 0])) w4 := by
 obtain ⟨f1, f2, f3, f4, f5⟩ := hf
 obtain ⟨g1, g2⟩ := dB he
 have hn4 : ¬ (65536 ≤ LL.length /\ bA aD LL ss = false) := fun k => by rw [hi] at k; cases k.2
 have hadd : cM aD LL ss = LL := by unfold cM; rw [if_pos hi]
 have hL : aV e.ar LL ss = LL := by unfold aV; rw [h0, if_neg hn4]; exact hadd
 rw [hL] at hr
 have hR : dV (aW E) s ss = (false, 0) := by
  rw [mC f1 (oG g1 f2) f3 (by rw [g2, f4]; exact f5), g2, f4, if_neg hn4, hi]; rfl
 have hnd := h.ok.nodup
 rw [show jP (fN E) s (.pointer (some ⟨e.b, 0, none⟩)) = fN E from aAj he (by rw [tC]; exact hnd)] at hm4
 obtain ⟨pre, post, rfl⟩ := iJ he
 have hem : e ∈ pre ++ e :: post := List.mem_append_right _ List.mem_cons_self
 have hkw : Kp e.own w w3 := (Ext.kp hx).trans hk
 have hz := hx.size
 have hs2 : ∀ k, S' k -> S k \/ w.heap.size ≤ k := fun k hk' => (hsn k hk').imp id fun q => Nat.le_trans hz q
 have hiv2 : ∀ k, iv'.ownBlock = some k -> e.iv.ownBlock = some k \/ w.heap.size ≤ k := fun k hk' => (hiv k hk').imp id fun q => Nat.le_trans hz q
 have hsame : aW (pre ++ { e with iv := iv', LL := LL } :: post) = aW (pre ++ e :: post) := by
  rw [<- f4]; simp [aW, Ent.cnt]
 have hC : pJ (aW (pre ++ e :: post)) s ss = aW (pre ++ { e with iv := iv', LL := LL } :: post) := by
  unfold pJ
  rw [if_pos (by rw [hR]), g2, f4, hadd, <- f2]
  exact aAm he hnd iv' LL
 refine RetF.mk ((hkw.mono fun k _ ho => .inr (.inr ⟨e, hem, ho⟩)).trans (hk4.mono fun k _ ho => .inr (.inl ho))) ⟨by rw [hR]; rfl, S', pre ++ { e with iv := iv', LL := LL } :: post, hss, hs2, ?_, hC.symm, rQ hiv2 LL⟩
 exact h.turn hkw hss hs2 hr hiv2 (hk4.mono fun k _ ho => .inr ho) hm4 ((fP h he hx hk).kp hk4 h.ne) (by rw [hsame]) (by rw [hsame]; exact h.ok)
theorem qC {LL : List (List ByteArray)} {n : Nat} (h : BaseAt S w bb r E) (he : bL E s = some e) (hf : bU s = true /\ e.ar = ss.length /\ bP ss = true /\ e.LL = LL /\ ¬ (262144 ≤ bF (aW E) /\ bA aD LL ss = false)) (hx : Ext w w2) (hk : Kp e.own w2 w3) (hss : ∀ k, S k -> S' k) (hsn : ∀ k, S' k -> S k \/ w2.heap.size ≤ k)
 (hr : RowsAt S' w3 e.b iv' e.ar (aV e.ar LL ss)) (hiv : ∀ k, iv'.ownBlock = some k -> e.iv.ownBlock = some k \/ w2.heap.size ≤ k) (h0 : aM e.ar LL ss = if 65536 ≤ LL.length /\ bA aD LL ss = false then (false, 4) else (!bA aD LL ss, 0)) (hi : bA aD LL ss = false) (hn4 : ¬ (65536 ≤ LL.length /\ bA aD LL ss = false))
 (hk4 : Kp (fun k => k = r) w3 w4) (hm4 : MapIs w4 r (jP (fN E) s (.pointer (some ⟨e.b, 0, none⟩)))) (en : bF (aW E) = n) : RetF (gE bb r E) w (BaseAdded S w bb r E s ss) (.returned (.tuple #[.bool true, .int .i64 0])) (w4.setCell ⟨bb, 1, none⟩ (.int .i64 ((n : Int) + 1))) := by
 obtain ⟨f1, f2, f3, f4, f5⟩ := hf
 obtain ⟨g1, g2⟩ := dB he
 have hL : aV e.ar LL ss = cM aD LL ss := by unfold aV; rw [h0, if_neg hn4]; rfl
 rw [hL] at hr
 have hR : dV (aW E) s ss = (true, 0) := by
  rw [mC f1 (oG g1 f2) f3 (by rw [g2, f4]; exact f5), g2, f4, if_neg hn4, hi]; rfl
 have hnd := h.ok.nodup
 rw [show jP (fN E) s (.pointer (some ⟨e.b, 0, none⟩)) = fN E from aAj he (by rw [tC]; exact hnd)] at hm4
 obtain ⟨pre, post, rfl⟩ := iJ he
 have hem : e ∈ pre ++ e :: post := List.mem_append_right _ List.mem_cons_self
 have hkw : Kp e.own w w3 := (Ext.kp hx).trans hk
 have hz := hx.size
 have hs2 : ∀ k, S' k -> S k \/ w.heap.size ≤ k := fun k hk' => (hsn k hk').imp id fun q => Nat.le_trans hz q
 have hiv2 : ∀ k, iv'.ownBlock = some k -> e.iv.ownBlock = some k \/ w.heap.size ≤ k := fun k hk' => (hiv k hk').imp id fun q => Nat.le_trans hz q
 have hset := aAm he hnd iv' (cM aD LL ss)
 have hC : pJ (aW (pre ++ e :: post)) s ss = aW (pre ++ { e with iv := iv', LL := cM aD LL ss } :: post) := by
  unfold pJ
  rw [if_pos (by rw [hR]), g2, f4, <- f2]
  exact hset
 have htot : n + 1 = bF (aW (pre ++ { e with iv := iv', LL := cM aD LL ss } :: post)) := by
  have h1 := uC hnd (s := s) (v := (e.ar, cM aD LL ss))
  rw [hset, g2, f4] at h1
  have h2 := oH (c := aD) LL ss
  rw [hi] at h2
  simp only [Bool.false_eq_true, if_false] at h2
  have h3 : (e.ar, cM aD LL ss).2.length = LL.length + 1 := h2
  omega
 have kf : Kp (fun k => k = bb \/ k = r) w3 (w4.setCell ⟨bb, 1, none⟩ (.int .i64 ((n : Int) + 1))) := (hk4.mono fun k _ ho => .inr ho).trans (Kp.setCell (F := fun k => k = bb \/ k = r) (Kp.refl w4) (fun _ => .inl rfl) _)
 have hb5 : Blk (w4.setCell ⟨bb, 1, none⟩ (.int .i64 ((n : Int) + 1))) bb [.map (some r), .int .i64 ((n + 1 : Nat) : Int)] 153 := by
  have h1 := ((fP h he hx hk).kp hk4 h.ne).set 1 (.int .i64 ((n : Int) + 1))
  exact h1
 have hm5 := hm4.kp (Kp.setCell (F := fun k => k = bb) (Kp.refl w4) (p := ⟨bb, 1, none⟩) (fun _ => rfl) (.int .i64 ((n : Int) + 1))) (fun e2 => h.ne e2.symm)
 refine RetF.mk ((hkw.mono fun k _ ho => .inr (.inr ⟨e, hem, ho⟩)).trans (kf.mono fun k _ ho => ho.elim .inl fun h => .inr (.inl h))) ⟨by rw [hR]; rfl, S', pre ++ { e with iv := iv', LL := cM aD LL ss } :: post, hss, hs2, ?_, hC.symm, rQ hiv2 _⟩
 exact h.turn hkw hss hs2 hr hiv2 kf hm5 hb5 htot (by rw [<- hC]; exact aGl h.ok s ss)
theorem aAt {n : Nat} {b : Nat} (h : BaseAt S w bb r E) (he : bL E s = none) (hf : bU s = true /\ ss.length ≤ 64 /\ bP ss = true /\ ¬ 262144 ≤ bF (aW E)) (hx : Ext w w3) (hss : ∀ k, S k -> S' k) (hsn : ∀ k, S' k -> S k \/ w.heap.size ≤ k)
 (hr : RowsAt S' w3 b iv' ss.length [ss]) (hb : w.heap.size ≤ b) (hiv : ∀ k, iv'.ownBlock = some k -> w.heap.size ≤ k)
 (hk4 : Kp (fun k => k = r) w3 w4) (hm4 : MapIs w4 r (jP (fN E) s (.pointer (some ⟨b, 0, none⟩)))) (en : bF (aW E) = n) : RetF (gE bb r E) w (BaseAdded S w bb r E s ss) (.returned (.tuple #[.bool true, .int .i64 0])) (w4.setCell ⟨bb, 1, none⟩ (.int .i64 ((n : Int) + 1))) := by
 obtain ⟨f1, f2, f3, f4⟩ := hf
 obtain ⟨g1, g2⟩ := dU he
 have hR : dV (aW E) s ss = (true, 0) := by
  rw [mC f1 (xH g1 f2) f3 (fun k => f4 k.1), g2, if_neg (by simp)]; rfl
 have hone : cM aD [] ss = [ss] := by simp [cM, bA, below]
 have hpush := aFa he b iv' ss.length [ss]
 have hC : pJ (aW E) s ss = aW (E ++ [{ name := s, b := b, iv := iv', ar := ss.length, LL := [ss] }]) := by
  unfold pJ
  rw [if_pos (by rw [hR]), g2, hone]
  exact hpush
 have htot : n + 1 = bF (aW (E ++ [{ name := s, b := b, iv := iv', ar := ss.length, LL := [ss] }])) := by
  rw [<- en]
  simp [bF, aW, Ent.cnt]
 rw [vM he b iv' ss.length [ss]] at hm4
 have kf : Kp (fun k => k = bb \/ k = r) w3 (w4.setCell ⟨bb, 1, none⟩ (.int .i64 ((n : Int) + 1))) := (hk4.mono fun k _ ho => .inr ho).trans (Kp.setCell (F := fun k => k = bb \/ k = r) (Kp.refl w4) (fun _ => .inl rfl) _)
 have hb5 : Blk (w4.setCell ⟨bb, 1, none⟩ (.int .i64 ((n : Int) + 1))) bb [.map (some r), .int .i64 ((n + 1 : Nat) : Int)] 153 := ((h.blk.ext hx).kp hk4 h.ne).set 1 (.int .i64 ((n : Int) + 1))
 have hm5 := hm4.kp (Kp.setCell (F := fun k => k = bb) (Kp.refl w4) (p := ⟨bb, 1, none⟩) (fun _ => rfl) (.int .i64 ((n : Int) + 1))) (fun e2 => h.ne e2.symm)
 have ho : ∀ k, eD b iv' k -> w.heap.size ≤ k := fun k ho => by
  rcases ho with rfl | ho
  ·exact hb
  ·exact hiv k ho
 refine RetF.mk ((Ext.kp hx).trans (kf.mono fun k _ ho => ho.elim .inl fun h => .inr (.inl h))) ⟨by rw [hR]; rfl, S', E ++ [{ name := s, b := b, iv := iv', ar := ss.length, LL := [ss] }], hss, hsn, ?_, hC.symm, ?_⟩
 ·exact h.push (e := { name := s, b := b, iv := iv', ar := ss.length, LL := [ss] }) hx hss hsn hr ho kf hb5 hm5 htot (by rw [<- hC]; exact aGl h.ok s ss)
 ·rintro k (h1 | h1 | ⟨f, hf, ho2⟩)
  ·exact .inl (.inl h1)
  ·exact .inl (.inr (.inl h1))
  ·rcases List.mem_append.1 hf with hf | hf
   ·exact .inl (.inr (.inr ⟨f, hf, ho2⟩))
   ·obtain rfl := List.mem_singleton.1 hf
    exact .inr (ho k ho2)
end
set_option maxHeartbeats 4000000 in
theorem aAu {S : Nat -> Prop} {w : World} {bb r : Nat} {E : List Ent} (h : BaseAt S w bb r E) (s : ByteArray) {ao : Option Addr} {k cap : Nat} {ss : List ByteArray} (hx : RowIn w (ao, k, cap) ss) (ho : gY (ao, k, cap) (gE bb r E)) :
 Calls Tryz.prog 57 #[.pointer (some ⟨bb, 0, none⟩), .string s, .slice ao k cap] w (RetF (gE bb r E) w (BaseAdded S w bb r E s ss)) := by
 have hkn : k = ss.length := hx.1.1
 have hcs : CellsAt w ao (strs ss) := hx.1.2
 have hkl : k ≤ 8796093021952 := by rw [hkn]; exact hx.2.1
 have c0 : w.cell? ⟨bb, 0, none⟩ = some (.map (some r)) := by rw [h.blk.cell']; rfl
 have hlk := gM (P := Tryz.prog) Tryz.underlying151 Tryz.underlying9 (z := .pointer none) (by kernel_rfl) h.map s
 rw [lM] at hlk
 have hnm := uV s w
 rw [show decide (1 ≤ s.size /\ s.size ≤ 4096) = bU s from rfl] at hnm
 have HN := qH hnm; clear hnm
 have HT := qH (fun w1 (hw : Ext w w1) => oM ss ao k cap w1 hkn (hcs.ext hw) (by omega))
 obtain ⟨n, en⟩ : ∃ n, bF (aW E) = n := ⟨_, rfl⟩
 have EN := qH en
 have hnl : n ≤ 262144 := by rw [<- en]; exact h.ok.few
 have c1 : w.cell? ⟨bb, 1, none⟩ = some (.int .i64 n) := by rw [h.blk.cell', en]; rfl
 have HC1 := qH (fun w1 (hw : Ext w w1) => (hw.cell c1 id : w1.cell? ⟨bb, 1, none⟩ = some (.int .i64 n)))
 have H := qH h
 have HX := qH (And.intro hx ho)
 have HKN := qH hkn
 clear h hx ho hcs hkn en c1
 cases hn : bU s with
 | false =>
  rw [hn] at HN
  have HNM := qH hn
  clear hn hlk c0
  go_enter Tryz.func57, Tryz.ntmps57
  go_wp2_with fail
  refine HN.out.mono ?_
  rintro e w' ⟨rfl, rfl⟩
  go_wp2
  go_ret2
  exact RetF.mk (Kp.refl _) (BaseAdded.same H.out (Kp.refl _) (aFn ss HNM.out) (by decide) rfl)
 | true =>
  rw [hn] at HN
  have HNM := qH hn
  clear hn
  cases he : bL E s with
  | none =>
   rw [he] at hlk
   have hlk' : ∀ w', w' = w -> (Instr.lookup 151 (.map (some r)) (.string s) false).run Tryz.prog w' = .ok (.pointer none) w' := fun w' e => by rw [e]; exact hlk
   replace hlk := hlk' w rfl
   clear hlk'
   have HE := qH he
   clear he
   by_cases hl : 64 < k
   ·have HNB := qH (pR (k : Int) w (.inr (by omega)))
    go_enter Tryz.func57, Tryz.ntmps57
    go_wp2_with fail
    refine HN.out.mono ?_
    rintro e w' ⟨rfl, rfl⟩
    go_wp2_with fail
    refine HNB.out.mono ?_
    rintro e w' ⟨rfl, rfl⟩
    go_wp2
    go_ret2
    exact RetF.mk (Kp.refl _) (BaseAdded.same H.out (Kp.refl _) (aFo HNM.out (dU HE.out).1 (by rw [<- HKN.out]; exact hl)) (by decide) rfl)
   have hk64 : k ≤ 64 := by omega
   have HNR := qH (iF S w k hk64 H.out.inS)
   have HL := qH (show ss.length ≤ 64 by rw [<- HKN.out]; exact hk64)
   clear hl
   cases ht : bP ss with
   | false =>
    rw [ht] at HT
    have HTX := qH ht
    clear ht
    go_enter Tryz.func57, Tryz.ntmps57
    go_wp2_with fail
    refine HN.out.mono ?_
    rintro e w' ⟨rfl, rfl⟩
    go_wp2_with fail
    refine HNR.out.mono ?_
    rintro e w1 ⟨v, rfl, hk1, rfl, hrows⟩
    have d2 : w1.cell? ⟨w.heap.size, 2, none⟩ = some (.int .i64 k) := by rw [hrows.blk.cell']; rfl
    have HK1 := qH hk1
    clear hk1 hrows
    go_wp2_with fail
    refine (HT.out w1 HK1.out).mono ?_
    rintro e w2 ⟨v, rfl, hk2, rfl⟩
    have HK2 := qH (HK1.out.trans hk2)
    clear hk2
    go_wp2
    go_ret2
    exact RetF.mk (Ext.kp HK2.out) (BaseAdded.same H.out HK2.out (vV HNM.out (xH (dU HE.out).1 HL.out) HTX.out) (by decide) rfl)
   | true =>
    rw [ht] at HT
    have HTX := qH ht
    clear ht
    have HAdd := qH (fun w1 (hw : Ext w w1) (hr : RowsAt S w1 w.heap.size (.slice none 0 0) k []) => kZ hr List.Pairwise.nil (ao := ao) (n := k) (cap := cap) (ss := ss) ⟨⟨HKN.out, HX.out.1.1.2.ext hw⟩, HX.out.1.2.1, fun a e hne => Nat.lt_of_lt_of_le (HX.out.1.2.2 a e hne) hw.size⟩
     (fun a e hne ho => by
      have := HX.out.1.2.2 a e hne
      rcases ho with ho | ho
      ·omega
      ·cases ho) (by simp))
    by_cases hm : 262144 ≤ n
    ·have q2 : decide ((262144 : Int) ≤ (n : Int)) = true := by rw [decide_eq_true_iff]; omega
     have HM := qH hm
     have HHas := qH (fun w1 (hw : Ext w w1) (hr : RowsAt S w1 w.heap.size (.slice none 0 0) k []) => kY hr List.Pairwise.nil (x := (ao, k, cap)) (ss := ss) ⟨⟨HKN.out, HX.out.1.1.2.ext hw⟩, HX.out.1.2.1, fun a e hne => Nat.lt_of_lt_of_le (HX.out.1.2.2 a e hne) hw.size⟩
      (fun a e hne ho => by
       have := HX.out.1.2.2 a e hne
       rcases ho with ho | ho
       ·omega
       ·cases ho))
     clear hm
     go_enter Tryz.func57, Tryz.ntmps57
     go_wp2_with fail
     refine HN.out.mono ?_
     rintro e w' ⟨rfl, rfl⟩
     go_wp2_with fail
     refine HNR.out.mono ?_
     rintro e w1 ⟨v, rfl, hk1, rfl, hrows⟩
     have d2 : w1.cell? ⟨w.heap.size, 2, none⟩ = some (.int .i64 k) := by rw [hrows.blk.cell']; rfl
     have HK1 := qH (And.intro hk1 hrows)
     clear hk1 hrows
     go_wp2_with fail
     refine (HT.out w1 HK1.out.1).mono ?_
     rintro e w2 ⟨v, rfl, hk2, rfl⟩
     have HK2 := qH (HK1.out.1.trans hk2)
     have HR2 := qH (HK1.out.2.ext hk2)
     have c1' := HC1.out w2 HK2.out
     clear hk2 d2
     go_wp2_with fail
     refine (HHas.out w2 HK2.out HR2.out).mono ?_
     rintro e w3 ⟨v, rfl, hk3, rfl⟩
     have HK3 := qH (HK2.out.trans hk3)
     clear hk3 c1'
     have hni : bA aD ([] : List (List ByteArray)) ss = false := rfl
     go_wp2
     go_ret2
     exact RetF.mk (Ext.kp HK3.out) (BaseAdded.same H.out HK3.out (vW HNM.out (xH (dU HE.out).1 HL.out) HTX.out (by rw [EN.out]; exact HM.out) (by rw [(dU HE.out).2]; rfl)) (by decide) rfl)
    ·have q2 : decide ((262144 : Int) ≤ (n : Int)) = false := by rw [decide_eq_false_iff_not]; omega
     have HM := qH hm
     clear hm
     go_enter Tryz.func57, Tryz.ntmps57
     go_wp2_with fail
     refine HN.out.mono ?_
     rintro e w' ⟨rfl, rfl⟩
     go_wp2_with fail
     refine HNR.out.mono ?_
     rintro e w1 ⟨v, rfl, hk1, rfl, hrows⟩
     have d2 : w1.cell? ⟨w.heap.size, 2, none⟩ = some (.int .i64 k) := by rw [hrows.blk.cell']; rfl
     have HK1 := qH (And.intro hk1 hrows)
     clear hk1 hrows
     go_wp2_with fail
     refine (HT.out w1 HK1.out.1).mono ?_
     rintro e w2 ⟨v, rfl, hk2, rfl⟩
     have HK2 := qH (HK1.out.1.trans hk2)
     have HR2 := qH (HK1.out.2.ext hk2)
     have c1' := HC1.out w2 HK2.out
     clear hk2 d2
     go_wp2_with fail
     refine (HAdd.out w2 HK2.out HR2.out).mono ?_
     rintro e w3 ⟨v, rfl, hk3, hv, S', iv', hss, hsn, hrows3, hiv⟩
     have e0 : aM k [] ss = (true, 0) := by
      unfold aM; rw [if_neg (by rw [HKN.out]; simp), if_neg (by rw [HTX.out]; simp), if_neg (by simp)]; simp [bA]
     have e1 : aV k [] ss = [ss] := by
      unfold aV; rw [e0]; simp [cM, bA, below]
     rw [e0] at hv
     rw [e1] at hrows3
     subst hv
     have hz := HK2.out.size
     have kk3 : Kp (fun g => g = w.heap.size) w2 w3 := hk3.mono fun g _ h => by
      rcases h with h | h
      ·exact h
      ·cases h
     have hex3 : Ext w w3 := HK2.out.trans' kk3 (fun i hi e => by omega)
     rw [HKN.out] at hrows3
     have HR3 := qH (And.intro hex3 (And.intro hss (And.intro (fun q (hq : S' q) => (hsn q hq).imp id fun u => Nat.le_trans hz u) (And.intro hrows3 (fun q (hq : iv'.ownBlock = some q) => show w.heap.size ≤ q by
      rcases hiv q hq with u | u
      ·cases u
      ·exact Nat.le_trans hz u)))))
     have HB3 := qH (And.intro (H.out.blk.ext hex3) (H.out.map.ext hex3))
     clear hk3 kk3 hex3 hrows3 hss hsn hiv e0 e1 c1' hlk c0 hz
     go_wp2_with fail
     refine (eA HB3.out.1 HB3.out.2 s (some ⟨w.heap.size, 0, none⟩)).mono ?_
     rintro e w4 ⟨v, rfl, hk4, hm4⟩
     have HM4 := qH (And.intro hk4 hm4)
     have hb4 : Blk w4 bb [.map (some r), .int .i64 (bF (aW E) : Nat)] 153 := HB3.out.1.kp hk4 H.out.ne
     have c4 : w4.cell? ⟨bb, 1, none⟩ = some (.int .i64 n) := by rw [hb4.cell', EN.out]; rfl
     have f4 := hb4.free 1
     clear hk4 hm4 hb4
     go_wp2
     go_ret2
     exact aAt H.out HE.out ⟨HNM.out, HL.out, HTX.out, by rw [EN.out]; exact HM.out⟩ HR3.out.1 HR3.out.2.1 HR3.out.2.2.1 HR3.out.2.2.2.1 (Nat.le_refl _) HR3.out.2.2.2.2 HM4.out.1 HM4.out.2 EN.out
  | some e0 =>
   rw [he] at hlk
   have HE := qH he
   obtain ⟨hem, hes⟩ := cL he
   obtain ⟨b0, eb0⟩ : ∃ b0, e0.b = b0 := ⟨_, rfl⟩
   obtain ⟨ar, ear⟩ : ∃ ar, e0.ar = ar := ⟨_, rfl⟩
   obtain ⟨LL, eLL⟩ : ∃ LL, e0.LL = LL := ⟨_, rfl⟩
   have hlk' : (Instr.lookup 151 (.map (some r)) (.string s) false).run Tryz.prog w = .ok (.pointer (some ⟨b0, 0, none⟩)) w := by rw [<- eb0]; exact hlk
   have hra := H.out.rows e0 hem
   have d2 : w.cell? ⟨b0, 2, none⟩ = some (.int .i64 ar) := by rw [<- eb0, hra.blk.cell', ear]; rfl
   have HEM := qH (And.intro hem (And.intro eb0 (And.intro ear eLL)))
   have hoff : gY (ao, k, cap) (eD e0.b e0.iv) := fun a e hne hown => HX.out.2 a e hne (.inr (.inr ⟨e0, hem, hown⟩))
   have HOff := qH hoff
   have HHas := qH (fun w1 (hw : Ext w w1) => kY ((H.out.rows e0 hem).ext hw) (H.out.strict hem) (x := (ao, k, cap)) (ss := ss) ⟨⟨HKN.out, HX.out.1.1.2.ext hw⟩, HX.out.1.2.1, fun a e hne => Nat.lt_of_lt_of_le (HX.out.1.2.2 a e hne) hw.size⟩ hoff)
   have HA := qH (fun w1 (hw : Ext w w1) => kZ ((H.out.rows e0 hem).ext hw) (H.out.strict hem) (ao := ao) (n := k) (cap := cap) (ss := ss) ⟨⟨HKN.out, HX.out.1.1.2.ext hw⟩, HX.out.1.2.1, fun a e hne => Nat.lt_of_lt_of_le (HX.out.1.2.2 a e hne) hw.size⟩ hoff (by have := H.out.few hem; omega))
   clear he hem hes hra hoff hlk
   rw [HEM.out.2.1, HEM.out.2.2.2] at HHas
   rw [HEM.out.2.1, HEM.out.2.2.1, HEM.out.2.2.2] at HA
   clear eb0 ear eLL
   by_cases ha : ar = k
   ·have HAr := qH ha
    have q1 : ((ar : Int) != (k : Int)) = false := by simp [ha]
    clear ha
    have hnil : Ext w w := Kp.refl w
    cases ht : bP ss with
    | false =>
     rw [ht] at HT
     have HTX := qH ht
     clear ht
     go_enter Tryz.func57, Tryz.ntmps57
     go_wp2_with fail
     refine HN.out.mono ?_
     rintro e w' ⟨rfl, rfl⟩
     go_wp2_with fail
     refine (HT.out w hnil).mono ?_
     rintro e w2 ⟨v, rfl, hk2, rfl⟩
     have HK2 := qH hk2
     clear hk2
     go_wp2
     go_ret2
     exact RetF.mk (Ext.kp HK2.out) (BaseAdded.same H.out HK2.out (vV HNM.out (oG (dB HE.out).1 (by rw [HEM.out.2.2.1, HAr.out]; exact HKN.out)) HTX.out) (by decide) rfl)
    | true =>
     rw [ht] at HT
     have HTX := qH ht
     clear ht
     have hR0 : aM ar LL ss = if 65536 ≤ LL.length /\ bA aD LL ss = false then (false, 4) else (!bA aD LL ss, 0) := by
      unfold aM
      rw [if_neg (by rw [HAr.out, HKN.out]; simp), if_neg (by rw [HTX.out]; simp)]
     have HR0 := qH hR0
     clear hR0
     by_cases hm : 262144 ≤ n
     ·have q2 : decide ((262144 : Int) ≤ (n : Int)) = true := by rw [decide_eq_true_iff]; omega
      have HM := qH hm
      clear hm
      cases hi : bA aD LL ss with
      | false =>
       have HI := qH hi
       rw [hi] at HHas
       clear hi
       go_enter Tryz.func57, Tryz.ntmps57
       go_wp2_with fail
       refine HN.out.mono ?_
       rintro e w' ⟨rfl, rfl⟩
       go_wp2_with fail
       refine (HT.out w hnil).mono ?_
       rintro e w2 ⟨v, rfl, hk2, rfl⟩
       have HK2 := qH hk2
       have c1' := HC1.out w2 hk2
       clear hk2
       go_wp2_with fail
       refine (HHas.out w2 HK2.out).mono ?_
       rintro e w3 ⟨v, rfl, hk3, rfl⟩
       have HK3 := qH (HK2.out.trans hk3)
       clear hk3 c1'
       go_wp2
       go_ret2
       exact RetF.mk (Ext.kp HK3.out) (BaseAdded.same H.out HK3.out (vW HNM.out (oG (dB HE.out).1 (by rw [HEM.out.2.2.1, HAr.out]; exact HKN.out)) HTX.out (by rw [EN.out]; exact HM.out) (by rw [(dB HE.out).2, HEM.out.2.2.2]; exact HI.out)) (by decide) rfl)
      | true =>
       have HI0 := qH hi
       rw [hi] at HHas
       clear hi
       have HF := qH (show (bU s = true /\ e0.ar = ss.length /\ bP ss = true /\ e0.LL = LL /\ ¬ (262144 ≤ bF (aW E) /\ bA aD LL ss = false)) /\ True from ⟨⟨HNM.out, by rw [HEM.out.2.2.1, HAr.out]; exact HKN.out, HTX.out, HEM.out.2.2.2, fun q => by rw [HI0.out] at q; cases q.2⟩, trivial⟩)
       go_enter Tryz.func57, Tryz.ntmps57
       go_wp2_with fail
       refine HN.out.mono ?_
       rintro e w' ⟨rfl, rfl⟩
       go_wp2_with fail
       refine (HT.out w hnil).mono ?_
       rintro e w2 ⟨v, rfl, hk2, rfl⟩
       have HK2 := qH hk2
       have c1' := HC1.out w2 hk2
       clear hk2
       go_wp2_with fail
       refine (HHas.out w2 HK2.out).mono ?_
       rintro e w2b ⟨v, rfl, hk3, rfl⟩
       have HK2b := qH (HK2.out.trans hk3)
       clear hk3 c1'
       go_wp2_with fail
       refine (HA.out w2b HK2b.out).mono ?_
       rintro e w3 ⟨v, rfl, hk3, hv, S', iv', hss, hsn, hrows3, hiv⟩
       rw [<- HEM.out.2.1] at hk3 hrows3
       rw [<- HEM.out.2.2.1] at hrows3
       have HX3 := qH (And.intro hk3 (And.intro hss (And.intro hsn (And.intro hrows3 hiv))))
       rw [HR0.out] at hv
       subst hv
       clear hk3 hss hsn hrows3 hiv
       by_cases h4 : 65536 ≤ LL.length /\ bA aD LL ss = false
       ·have e4 : (if 65536 ≤ LL.length /\ bA aD LL ss = false then (false, 4) else (!bA aD LL ss, 0)) = (false, 4) := if_pos h4
        have H4 := qH (And.intro h4 e4)
        rw [e4]
        clear h4 e4
        go_wp2
        go_ret2
        exact oF H.out HE.out HF.out.1 HK2b.out HX3.out.1 HX3.out.2.1 HX3.out.2.2.1 HX3.out.2.2.2.1 HX3.out.2.2.2.2 (by rw [HEM.out.2.2.1]; exact HR0.out) H4.out.1
       ·have e4 : (if 65536 ≤ LL.length /\ bA aD LL ss = false then (false, 4) else (!bA aD LL ss, 0)) = (!bA aD LL ss, 0) := if_neg h4
        have H4 := qH (And.intro h4 e4)
        rw [e4]
        clear h4 e4
        have hm3 := lR H.out HE.out HK2b.out HX3.out.1
        have hb3 := fP H.out HE.out HK2b.out HX3.out.1
        have HB3 := qH (And.intro hb3 hm3)
        have c31 : w3.cell? ⟨bb, 1, none⟩ = some (.int .i64 n) := by rw [HB3.out.1.cell', EN.out]; rfl
        clear hm3 hb3 c31
        cases hi : bA aD LL ss with
        | true =>
         have HI := qH hi
         clear hi
         go_wp2_with fail
         refine (eA HB3.out.1 HB3.out.2 s (some ⟨b0, 0, none⟩)).mono ?_
         rintro e w4 ⟨v, rfl, hk4, hm4⟩
         rw [<- HEM.out.2.1] at hm4
         have HM4 := qH (And.intro hk4 hm4)
         clear hk4 hm4
         go_wp2
         go_ret2
         exact qB H.out HE.out HF.out.1 HK2b.out HX3.out.1 HX3.out.2.1 HX3.out.2.2.1 HX3.out.2.2.2.1 HX3.out.2.2.2.2 (by rw [HEM.out.2.2.1]; exact HR0.out) HI.out HM4.out.1 HM4.out.2
        | false =>
         have HI := qH hi
         clear hi
         go_wp2_with fail
         refine (eA HB3.out.1 HB3.out.2 s (some ⟨b0, 0, none⟩)).mono ?_
         rintro e w4 ⟨v, rfl, hk4, hm4⟩
         rw [<- HEM.out.2.1] at hm4
         have HM4 := qH (And.intro hk4 hm4)
         have hb4 : Blk w4 bb [.map (some r), .int .i64 (bF (aW E) : Nat)] 153 := HB3.out.1.kp hk4 H.out.ne
         have c4 : w4.cell? ⟨bb, 1, none⟩ = some (.int .i64 n) := by rw [hb4.cell', EN.out]; rfl
         have f4 := hb4.free 1
         clear hk4 hm4 hb4
         go_wp2
         go_ret2
         exact qC H.out HE.out HF.out.1 HK2b.out HX3.out.1 HX3.out.2.1 HX3.out.2.2.1 HX3.out.2.2.2.1 HX3.out.2.2.2.2 (by rw [HEM.out.2.2.1]; exact HR0.out) HI.out H4.out.1 HM4.out.1 HM4.out.2 EN.out
     ·have q2 : decide ((262144 : Int) ≤ (n : Int)) = false := by rw [decide_eq_false_iff_not]; omega
      have HM := qH hm
      clear hm
      have HF := qH (show (bU s = true /\ e0.ar = ss.length /\ bP ss = true /\ e0.LL = LL /\ ¬ (262144 ≤ bF (aW E) /\ bA aD LL ss = false)) /\ True from ⟨⟨HNM.out, by rw [HEM.out.2.2.1, HAr.out]; exact HKN.out, HTX.out, HEM.out.2.2.2, fun q => HM.out (by rw [<- EN.out]; exact q.1)⟩, trivial⟩)
      go_enter Tryz.func57, Tryz.ntmps57
      go_wp2_with fail
      refine HN.out.mono ?_
      rintro e w' ⟨rfl, rfl⟩
      go_wp2_with fail
      refine (HT.out w hnil).mono ?_
      rintro e w2 ⟨v, rfl, hk2, rfl⟩
      have HK2 := qH hk2
      have c1' := HC1.out w2 hk2
      clear hk2
      go_wp2_with fail
      refine (HA.out w2 HK2.out).mono ?_
      rintro e w3 ⟨v, rfl, hk3, hv, S', iv', hss, hsn, hrows3, hiv⟩
      rw [<- HEM.out.2.1] at hk3 hrows3
      rw [<- HEM.out.2.2.1] at hrows3
      have HX3 := qH (And.intro hk3 (And.intro hss (And.intro hsn (And.intro hrows3 hiv))))
      rw [HR0.out] at hv
      subst hv
      clear hk3 hss hsn hrows3 hiv
      by_cases h4 : 65536 ≤ LL.length /\ bA aD LL ss = false
      ·have e4 : (if 65536 ≤ LL.length /\ bA aD LL ss = false then (false, 4) else (!bA aD LL ss, 0)) = (false, 4) := if_pos h4
       have H4 := qH (And.intro h4 e4)
       rw [e4]
       clear h4 e4
       go_wp2
       go_ret2
       exact oF H.out HE.out HF.out.1 HK2.out HX3.out.1 HX3.out.2.1 HX3.out.2.2.1 HX3.out.2.2.2.1 HX3.out.2.2.2.2 (by rw [HEM.out.2.2.1]; exact HR0.out) H4.out.1
      ·have e4 : (if 65536 ≤ LL.length /\ bA aD LL ss = false then (false, 4) else (!bA aD LL ss, 0)) = (!bA aD LL ss, 0) := if_neg h4
       have H4 := qH (And.intro h4 e4)
       rw [e4]
       clear h4 e4
       have hm3 := lR H.out HE.out HK2.out HX3.out.1
       have hb3 := fP H.out HE.out HK2.out HX3.out.1
       have HB3 := qH (And.intro hb3 hm3)
       have c31 : w3.cell? ⟨bb, 1, none⟩ = some (.int .i64 n) := by rw [HB3.out.1.cell', EN.out]; rfl
       clear hm3 hb3 c31
       cases hi : bA aD LL ss with
       | true =>
        have HI := qH hi
        clear hi
        go_wp2_with fail
        refine (eA HB3.out.1 HB3.out.2 s (some ⟨b0, 0, none⟩)).mono ?_
        rintro e w4 ⟨v, rfl, hk4, hm4⟩
        rw [<- HEM.out.2.1] at hm4
        have HM4 := qH (And.intro hk4 hm4)
        clear hk4 hm4
        go_wp2
        go_ret2
        exact qB H.out HE.out HF.out.1 HK2.out HX3.out.1 HX3.out.2.1 HX3.out.2.2.1 HX3.out.2.2.2.1 HX3.out.2.2.2.2 (by rw [HEM.out.2.2.1]; exact HR0.out) HI.out HM4.out.1 HM4.out.2
       | false =>
        have HI := qH hi
        clear hi
        go_wp2_with fail
        refine (eA HB3.out.1 HB3.out.2 s (some ⟨b0, 0, none⟩)).mono ?_
        rintro e w4 ⟨v, rfl, hk4, hm4⟩
        rw [<- HEM.out.2.1] at hm4
        have HM4 := qH (And.intro hk4 hm4)
        have hb4 : Blk w4 bb [.map (some r), .int .i64 (bF (aW E) : Nat)] 153 := HB3.out.1.kp hk4 H.out.ne
        have c4 : w4.cell? ⟨bb, 1, none⟩ = some (.int .i64 n) := by rw [hb4.cell', EN.out]; rfl
        have f4 := hb4.free 1
        clear hk4 hm4 hb4
        go_wp2
        go_ret2
        exact qC H.out HE.out HF.out.1 HK2.out HX3.out.1 HX3.out.2.1 HX3.out.2.2.1 HX3.out.2.2.2.1 HX3.out.2.2.2.2 (by rw [HEM.out.2.2.1]; exact HR0.out) HI.out H4.out.1 HM4.out.1 HM4.out.2 EN.out
   ·have HAr := qH ha
    have q1 : ((ar : Int) != (k : Int)) = true := by rw [bne_iff_ne]; omega
    clear ha
    go_enter Tryz.func57, Tryz.ntmps57
    go_wp2_with fail
    refine HN.out.mono ?_
    rintro e w' ⟨rfl, rfl⟩
    go_wp2
    go_ret2
    exact RetF.mk (Kp.refl _) (BaseAdded.same H.out (Kp.refl _) (aC8 HNM.out (dB HE.out).1 (by show e0.ar ≠ ss.length; rw [HEM.out.2.2.1, <- HKN.out]; exact HAr.out)) (by decide) rfl)
section
variable {S S' : Nat -> Prop} {w w1 w2 w3 w4 : World} {bb r : Nat} {E : List Ent} {s : ByteArray} {e : Ent}
def BaseDecled (S : Nat -> Prop) (w : World) (bb r : Nat) (E : List Ent) (s : ByteArray) (a : Int) (w' : World) (v : Value) : Prop :=
 v = .int .i64 ((dK (aW E) s a : Nat) : Int) /\ ∃ E', BaseAt S w' bb r E' /\ aW E' = fO (aW E) s a /\ ∀ k, gE bb r E' k -> gE bb r E k \/ w.heap.size ≤ k
theorem BaseDecled.same {a : Int} (h : BaseAt S w bb r E) (hk : Ext w w1) {n : Nat} (hR : dK (aW E) s a = n) (hn : fO (aW E) s a = aW E) {v : Value} (hv : v = .int .i64 (n : Nat)) : BaseDecled S w bb r E s a w1 v :=
 ⟨by rw [hv, hR], E, h.ext hk, hn.symm, fun _ h => .inl h⟩
theorem tE {C : List bJ} (a : Int) (h : bU s = false) : dK C s a = 32 := if_pos h
theorem aE7 {C : List bJ} {a : Int} (h : bU s = true) (ha : a < 0 \/ 64 < a) : dK C s a = 2 := by
 unfold dK
 rw [if_neg (by rw [h]; simp), if_pos ha]
theorem aCv {C : List bJ} {a : Int} (h : bU s = true) (ha : ¬ (a < 0 \/ 64 < a)) (hg : cW C s = none) : dK C s a = 0 := by
 unfold dK
 rw [if_neg (by rw [h]; simp), if_neg ha, hg]
theorem aCu {C : List bJ} {a : Int} {v : Nat × aC} (h : bU s = true) (ha : ¬ (a < 0 \/ 64 < a)) (hg : cW C s = some v) : dK C s a = if (v.1 : Int) = a then 0 else 30 := by
 unfold dK
 rw [if_neg (by rw [h]; simp), if_neg ha, hg]
theorem vQ {C : List bJ} {a : Int} (h : dK C s a ≠ 0) : fO C s a = C := if_neg fun k => h k.1
theorem aCw {C : List bJ} {a : Int} {v : Nat × aC} (hg : cW C s = some v) : fO C s a = C := if_neg fun k => by rw [hg] at k; cases k.2
theorem xF {k b : Nat} (h : BaseAt S w bb r E) (he : bL E s = none) (hn : bU s = true) (hk : k ≤ 64) (hx : Ext w w3) (hr : RowsAt S w3 b (.slice none 0 0) k []) (hb : w.heap.size ≤ b)
 (hk4 : Kp (fun k => k = r) w3 w4) (hm4 : MapIs w4 r (jP (fN E) s (.pointer (some ⟨b, 0, none⟩)))) : RetF (gE bb r E) w (BaseDecled S w bb r E s (k : Int)) (.returned (.int .i64 0)) w4 := by
 obtain ⟨g1, g2⟩ := dU he
 have hR : dK (aW E) s (k : Int) = 0 := aCv hn (by omega) g1
 have hC : fO (aW E) s (k : Int) = aW (E ++ [{ name := s, b := b, iv := .slice none 0 0, ar := k, LL := [] }]) := by
  unfold fO
  rw [if_pos ⟨hR, g1⟩]
  simp [aW, Ent.cnt]
 rw [vM he b (.slice none 0 0) k []] at hm4
 have ho : ∀ q, eD b (.slice none 0 0) q -> w.heap.size ≤ q := fun q ho => by
  rcases ho with rfl | ho
  ·exact hb
  ·cases ho
 have htot : bF (aW E) = bF (aW (E ++ [{ name := s, b := b, iv := .slice none 0 0, ar := k, LL := [] }])) := by simp [bF, aW, Ent.cnt]
 refine RetF.mk ((Ext.kp hx).trans (hk4.mono fun k _ ho => .inr (.inl ho))) ⟨by rw [hR]; rfl, E ++ [{ name := s, b := b, iv := .slice none 0 0, ar := k, LL := [] }], ?_, hC.symm, ?_⟩
 ·exact h.push (e := { name := s, b := b, iv := .slice none 0 0, ar := k, LL := [] }) hx (fun _ x => x) (fun _ x => .inl x) hr ho (hk4.mono fun k _ ho => .inr ho) ((h.blk.ext hx).kp hk4 h.ne) hm4 htot (by rw [<- hC]; exact aIh h.ok s _)
 ·rintro q (h1 | h1 | ⟨f, hf, ho2⟩)
  ·exact .inl (.inl h1)
  ·exact .inl (.inr (.inl h1))
  ·rcases List.mem_append.1 hf with hf | hf
   ·exact .inl (.inr (.inr ⟨f, hf, ho2⟩))
   ·obtain rfl := List.mem_singleton.1 hf
    exact .inr (ho q ho2)
set_option maxHeartbeats 4000000 in
theorem xG (h : BaseAt S w bb r E) (s : ByteArray) (a : Int) :
 Calls Tryz.prog 56 #[.pointer (some ⟨bb, 0, none⟩), .string s, .int .i64 a] w (RetF (gE bb r E) w (BaseDecled S w bb r E s a)) := by
 have c0 : w.cell? ⟨bb, 0, none⟩ = some (.map (some r)) := by rw [h.blk.cell']; rfl
 have hnm := uV s w
 rw [show decide (1 ≤ s.size /\ s.size ≤ 4096) = bU s from rfl] at hnm
 have HN := qH hnm; clear hnm
 have H := qH h
 have HLk := qH (fun w1 (hw : Ext w w1) => gM (P := Tryz.prog) Tryz.underlying151 Tryz.underlying9 (z := .pointer none) (by kernel_rfl) (h.map.ext hw) s)
 rw [lM] at HLk
 clear h
 cases hn : bU s with
 | false =>
  rw [hn] at HN
  have HNM := qH hn
  clear hn c0
  go_enter Tryz.func56, Tryz.ntmps56
  go_wp2_with fail
  refine HN.out.mono ?_
  rintro e w' ⟨rfl, rfl⟩
  go_wp2
  go_ret
  exact RetF.mk (Kp.refl _) (BaseDecled.same H.out (Kp.refl _) (tE a HNM.out) (vQ (by rw [tE a HNM.out]; decide)) rfl)
 | true =>
  rw [hn] at HN
  have HNM := qH hn
  clear hn
  by_cases ha : a < 0 \/ 64 < a
  ·have HNB := qH (pR a w ha)
   have HAB := qH ha
   obtain ⟨p, hp⟩ : ∃ p : Option Addr, ((bL E s).map Ent.ptr).getD (.pointer none) = .pointer p := by
    cases bL E s with
    | none => exact ⟨none, rfl⟩
    | some e => exact ⟨some ⟨e.b, 0, none⟩, rfl⟩
   have hlk := HLk.out w (Kp.refl w)
   rw [hp] at hlk
   clear ha hp
   go_enter Tryz.func56, Tryz.ntmps56
   go_wp2_with fail
   refine HN.out.mono ?_
   rintro e w' ⟨rfl, rfl⟩
   go_wp2_with fail
   refine HNB.out.mono ?_
   rintro e w' ⟨rfl, rfl⟩
   go_wp2
   go_ret
   have e2 := aE7 (s := s) (C := aW E) HNM.out HAB.out
   exact RetF.mk (Kp.refl _) (BaseDecled.same H.out (Kp.refl _) e2 (vQ (by rw [e2]; decide)) rfl)
  ·obtain ⟨k, rfl⟩ := Int.eq_ofNat_of_zero_le (show 0 ≤ a by omega)
   have hk64 : k ≤ 64 := by omega
   have HNR := qH (iF S w k hk64 H.out.inS)
   have HAN := qH ha
   clear ha
   cases he : bL E s with
   | none =>
    rw [he] at HLk
    have HE := qH he
    clear he
    go_enter Tryz.func56, Tryz.ntmps56
    go_wp2_with fail
    refine HN.out.mono ?_
    rintro e w' ⟨rfl, rfl⟩
    go_wp2_with fail
    refine HNR.out.mono ?_
    rintro e w1 ⟨v, rfl, hk1, rfl, hrows⟩
    have hlk : (Instr.lookup 151 (.map (some r)) (.string s) false).run Tryz.prog w1 = .ok (.pointer none) w1 := HLk.out w1 hk1
    have c1 := hk1.cell c0 id
    have HK1 := qH (And.intro hk1 hrows)
    clear hk1 hrows
    go_wp2_with fail
    refine (eA (H.out.blk.ext HK1.out.1) (H.out.map.ext HK1.out.1) s (some ⟨w.heap.size, 0, none⟩)).mono ?_
    rintro e w4 ⟨v, rfl, hk4, hm4⟩
    have HM4 := qH (And.intro hk4 hm4)
    clear hk4 hm4
    go_wp2
    go_ret
    exact xF H.out HE.out HNM.out hk64 HK1.out.1 HK1.out.2 (Nat.le_refl _) HM4.out.1 HM4.out.2
   | some e0 =>
    rw [he] at HLk
    have HE := qH he
    obtain ⟨hem, hes⟩ := cL he
    obtain ⟨b0, eb0⟩ : ∃ b0, e0.b = b0 := ⟨_, rfl⟩
    obtain ⟨ar, ear⟩ : ∃ ar, e0.ar = ar := ⟨_, rfl⟩
    have d2 : w.cell? ⟨b0, 2, none⟩ = some (.int .i64 ar) := by rw [<- eb0, (H.out.rows e0 hem).blk.cell', ear]; rfl
    have HEM := qH (And.intro eb0 ear)
    have hg : cW (aW E) s = some (ar, e0.LL) := by rw [<- ear]; exact (dB he).1
    have hR := aCu (C := aW E) HNM.out HAN.out hg
    have HR := qH (And.intro hR (aCw (C := aW E) (a := (k : Int)) hg))
    clear he hem hes eb0 ear hg hR
    by_cases hq : ar = k
    ·have q1 : ((ar : Int) != (k : Int)) = false := by simp [hq]
     have HQ := qH hq
     clear hq
     go_enter Tryz.func56, Tryz.ntmps56
     go_wp2_with fail
     refine HN.out.mono ?_
     rintro e w' ⟨rfl, rfl⟩
     go_wp2_with fail
     refine HNR.out.mono ?_
     rintro e w1 ⟨v, rfl, hk1, rfl, hrows⟩
     have hlk : (Instr.lookup 151 (.map (some r)) (.string s) false).run Tryz.prog w1 = .ok (.pointer (some ⟨b0, 0, none⟩)) w1 := by rw [<- HEM.out.1]; exact HLk.out w1 hk1
     have c1 := hk1.cell c0 id
     have d21 := hk1.cell d2 id
     have HK1 := qH hk1
     clear hk1 hrows
     go_wp2
     go_ret
     exact RetF.mk (Ext.kp HK1.out) (BaseDecled.same H.out HK1.out (by rw [HR.out.1, if_pos (by rw [HQ.out])]) HR.out.2 rfl)
    ·have q1 : ((ar : Int) != (k : Int)) = true := by rw [bne_iff_ne]; omega
     have HQ := qH hq
     clear hq
     go_enter Tryz.func56, Tryz.ntmps56
     go_wp2_with fail
     refine HN.out.mono ?_
     rintro e w' ⟨rfl, rfl⟩
     go_wp2_with fail
     refine HNR.out.mono ?_
     rintro e w1 ⟨v, rfl, hk1, rfl, hrows⟩
     have hlk : (Instr.lookup 151 (.map (some r)) (.string s) false).run Tryz.prog w1 = .ok (.pointer (some ⟨b0, 0, none⟩)) w1 := by rw [<- HEM.out.1]; exact HLk.out w1 hk1
     have c1 := hk1.cell c0 id
     have d21 := hk1.cell d2 id
     have HK1 := qH hk1
     clear hk1 hrows
     go_wp2
     go_ret
     exact RetF.mk (Ext.kp HK1.out) (BaseDecled.same H.out HK1.out (by rw [HR.out.1, if_neg (fun q => HQ.out (by omega))]) HR.out.2 rfl)
end
end
end Go.Proofs.YtikgpedgmnbcaaaGreatDoor
