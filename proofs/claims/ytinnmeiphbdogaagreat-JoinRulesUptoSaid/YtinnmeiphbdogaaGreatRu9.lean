/- Texts joined for a claim (JEach, RefEnv, RefVal, JRefHead, JLent, RowSame, BaseAdd, BaseAdd2, BaseDecl, BaseFrom, JGiven, JPath). -/
import Derived.Test.YtinnmeiphbdogaaGreatRu8
/- The law of joins: each: all bindings of a rule in a base, each as one text. -/
namespace Go.Proofs.YtinnmeiphbdogaaGreat
open Go.RowKit Go.Shelf
set_option linter.unusedVariables false
attribute [local go_sem] Oper.semAt_some
theorem base_texts {S : Nat -> Prop} {w : World} {v : Value} {E : List Ent} (hB : BaseV S w v E) (s : ByteArray) : ∀ x ∈ optLL (findE E s), textsC x = true := fun x hx => by
 have hok := hB.ok
 cases he : findE E s with
 | none => rw [he] at hx; simp [optLL] at hx
 | some e =>
  rw [he] at hx
  exact (hok.all _ (List.mem_map.2 ⟨e, (findE_some he).1, rfl⟩)).txt x hx
theorem binds_known {r : RuleZ} {Es : Nat -> List Ent} {L : Rows2} (hL : BindsOf r (rowsR Es r.2.1) L) (hT : ∀ j x, x ∈ rowsR Es r.2.1 j -> textsC x = true) : ∀ V ∈ L, checkR r = 0 /\ V.length = (namesB r.2.1).length /\ ∀ s ∈ V, s.size ≤ 4096 := fun V hV => by
 by_cases hc : checkR r = 0
 ·have hb := ((hL.1 hc).iff V).1 hV
  exact ⟨hc, hb.1, bind_small hb hT⟩
 ·rw [hL.2 hc] at hV; simp at hV
theorem one_texts {S : Nat -> Prop} {w : World} {v : Value} {E : List Ent} {ls : List LitZ} (hB : BaseV S w v E) : ∀ j x, x ∈ rowsR (oneE ls E) ls j -> textsC x = true := fun j x hx => by
 unfold rowsR oneE at hx
 split at hx
 ·exact base_texts hB _ x hx
 ·simp [findE, optLL] at hx
theorem each_ret {w W : World} {P : World -> Value -> Prop} {tmps : Array Value} {ds : List Deferred} {lo : Nat} {v : Value} (hm : Marks lo W ds) (hk : Ext w W) (hlo : w.heap.size ≤ lo) (h4 : tmps.getD 4 undef = v)
 (hP : ∀ w', Ext w w' -> Kp (fun k => lo ≤ k /\ ¬ CellB W k) W w' -> P w' v) :
 bodyPostM Fence.wide 4 Tryz.prog Tryz.f18 (RetN w P) .ret { tmps := tmps, defers := ds } W := by
 refine leaves_marks hm fun w' e1 e2 e3 e4 e5 e6 => ?_
 have kx : Kp (fun k => lo ≤ k /\ ¬ CellB W k) W w' := ⟨e1, e2, e3, by omega, fun k hk hf => by
  by_cases h : lo ≤ k
  ·by_cases h2 : ∃ o : Obj, W.heap[k]? = some o /\ o.isCells = true
   ·obtain ⟨o, h2, h3⟩ := h2
    rw [h2]; exact e6 k o h2 h3
   ·exact absurd ⟨h, h2⟩ hf
  ·exact e5 k (by omega)⟩
 have hx : Ext w w' := hk.trans' kx fun i hi h => absurd h.1 (by omega)
 refine ⟨v, ?_, RetN.mk hx (hP w' hx kx)⟩
 have h4' : tmps[4]?.getD undef = v := by simpa using h4
 simp [results, Tryz.f18, go_sem, h4']
set_option maxRecDepth 100000 in
set_option maxHeartbeats 4000000 in
theorem each14_any {S : Nat -> Prop} {w : World} {p : ByteArray} {hs : List TermZ} {ls : List LitZ} {ha ba : Option Addr} {hn hcap n bcap : Nat} {G : Nat -> Prop} {o : Option Addr} {E : List Ent} {L : Rows2} (hhn : hn = hs.length) (hh : TermsAt w G ha hs) (hhl : hn ≤ 1048576) (hbn : n = ls.length) (h : LitsAt w G ba ls) (hf : Fit ls) (hnv : (namesB ls).length ≤ 1048576) (hn16 : n ≤ 1048576)
 (hB : BaseV S w (.pointer o) E) (hL : BindsOf ((p, hs, ()), ls, ()) (rowsR (oneE ls E) ls) L) (hLn : L.length ≤ 1048576 * 1048576) :
 Calls Tryz.prog 18 #[ruleV p ha hn hcap ba n bcap, .pointer o] w (RetN w fun w' v => Row w' 9 1 v L.length (strs (L.map joinS)) (New w)) := by
 have HEa := Lib.hid (fun W (hW : Ext w W) => each_any (hcap := hcap) (bcap := bcap) (p := p) hhn (hh.ext hW) hhl hbn (h.ext hW) hf hnv hn16 (hB.ext hW) hL)
 have HK := Lib.hid (binds_known hL (one_texts hB))
 have HN := Lib.hid (And.intro hnv hLn)
 obtain ⟨gb, egb⟩ : ∃ g, w.heap.size = g := ⟨_, rfl⟩
 obtain ⟨w1, e1⟩ : ∃ x, w.alloc (.cells #[.string p, .slice ha hn hcap, .slice ba n bcap] 27) = x := ⟨_, rfl⟩
 obtain ⟨w2, e2⟩ : ∃ x, w1.alloc (.cells #[.slice none 0 0] 34) = x := ⟨_, rfl⟩
 have s1 : w1.heap.size = gb + 1 := by rw [<- e1, alloc_size, egb]
 have x1 : Ext w w1 := by rw [<- e1]; exact (Kp.refl w).alloc _
 have x2 : Ext w1 w2 := by rw [<- e2]; exact (Kp.refl w1).alloc _
 have H2 := Lib.hid (show Blk w2 gb [.string p, .slice ha hn hcap, .slice ba n bcap] 27 /\ Blk w2 (gb + 1) [.slice none 0 0] 34 /\ Ext w w2 from
  ⟨Blk.ext (by have h := Blk.new w [.string p, .slice ha hn hcap, .slice ba n bcap] 27; rw [egb] at h; rw [<- e1]; exact h) x2, by have h := Blk.new w1 [.slice none 0 0] 34; rw [s1] at h; rw [<- e2]; exact h, x1.trans x2⟩)
 have r0 : w2.cell? ⟨gb, 0, none⟩ = some (.string p) := by rw [H2.out.1.cell']; rfl
 have r1 : w2.cell? ⟨gb, 1, none⟩ = some (.slice ha hn hcap) := by rw [H2.out.1.cell']; rfl
 have r2 : w2.cell? ⟨gb, 2, none⟩ = some (.slice ba n bcap) := by rw [H2.out.1.cell']; rfl
 have HG := Lib.hid egb
 clear hhn hh hhl hbn h hf hnv hn16 hB hL x1 x2 hLn
 refine callsIn_wide.1 (callsIn_of_wp_marks (n := 4) Tryz.func18 rfl trivial ?_ rfl)
 refine wpIn_wide.2 ?_
 obtain ⟨Q, eQ⟩ : ∃ Q, Q = bodyPostM Fence.wide 4 Tryz.prog Tryz.f18 (RetN w fun w' v => Row w' 9 1 v L.length (strs (L.map joinS)) (New w)) := ⟨_, rfl⟩
 rw [<- eQ]
 have EQ := Lib.hid eQ; clear eQ
 simp only [Tryz.ntmps18, List.size_toArray, List.length_cons, List.length_nil, Nat.reduceAdd, Nat.reduceSub, Array.replicate_succ, Array.replicate_zero, List.push_toArray, List.append_toArray, List.nil_append, List.cons_append]
 go_wp2_with fail
 clear e1 e2 egb s1
 refine (HEa.out w2 H2.out.2.2).mono ?_
 rintro e w8 ⟨v8, rfl, hk8, xb, lo, hlo, rfl, hseq⟩
 have HS := Lib.hid (show SeqOwn Fence.wide 3 Tryz.prog 82 #[.pointer (some ⟨xb, 0, none⟩)] (fun x : XB => #[.slice x.1.1 x.1.2.1 x.1.2.2]) (fun k => lo ≤ k /\ k < w8.heap.size) GvRow (fun xs => xs.map Prod.snd = L) (fun pre => pre.map Prod.snd <+: L) w8 from hseq 3)
 have H8 := Lib.hid (show Blk w8 (gb + 1) [.slice none 0 0] 34 /\ Ext w w8 /\ gb + 1 < lo from ⟨H2.out.2.1.ext hk8, H2.out.2.2.trans hk8, Nat.lt_of_lt_of_le H2.out.2.1.lt hlo⟩)
 clear hseq hk8 hlo r0 r1 r2
 go_wp2_with fail
 have hb8 : gb + 1 < w8.heap.size := H8.out.1.lt
 refine' wpIn_wide.1 (wpIn_rangeOwn (F := Fence.wide) (n := 4) (w0 := w8) rfl (by omega) (gf := 82) (lb := #[.pointer (some ⟨xb, 0, none⟩)]) rfl trivial (enters_of Tryz.func82 (by kernel_rfl) rfl)
  HS.out (Kp.refl _) (fun k h => h.2) (fun _ => rfl) GvRow.put (ListI w8 (gb + 1) eachS) (fun _ _ _ _ => False)
  (fun T s W l o o' h _ hl ho hc => h.put hb8 hl ho hc) (fun c T s W l o o' h _ hl ho hc => h.elim)
  (fun W o h => h.step hb8 ((Kp.refl W).alloc o) (fun k hk => hk.elim)) (ListI.start H8.out.1 rfl) _ ?assign ?body ?done ?stop)
 case assign =>
  intro l x W K hK
  gi_wp2
  exact hK
 case body =>
  rintro l T T' pre ⟨⟨xa, xn, xc⟩, V⟩ W1 W hI hT hk hsub hgv hpre
  have hI2 := hI.step hb8 hk hsub
  have hTlt : ∀ k, T' k -> k < W.heap.size := fun k hk' => by
   rcases hsub k hk' with h | h
   ·exact Nat.lt_of_lt_of_le (hT k h) hk.size
   ·exact h.2
  obtain ⟨hx1, hxc⟩ := hgv.cells
  have hxn : xn = V.length := hx1.1
  have hxc2 : xc = V.length := hx1.2
  subst hxn hxc2
  have hmem : V ∈ L := hpre.subset (by rw [List.map_append]; exact List.mem_append_right _ (List.mem_singleton.2 rfl))
  have hpl : pre.length < L.length := by
   have h := hpre.length_le
   rw [List.length_map, List.length_append, List.length_singleton] at h
   omega
  obtain ⟨hc0, hVl, hVs⟩ := HK.out V hmem
  have hN1 := HN.out.1
  have hN2 := HN.out.2
  have hVl' : V.length = (namesB ls).length := hVl
  obtain ⟨v, hv, hrv⟩ := hI2.2.2
  have hel : (eachS pre).length = pre.length := by unfold eachS; rw [List.length_map]
  rw [hel] at hrv
  refine wpIn_mono (Q := laidPost (fun X' => KeepsFrom w8.heap.size W X' /\ Kp (fun k => ¬ WithZ (fun k => lo ≤ k /\ k < w8.heap.size) T' k) W X' /\ ListI w8 (gb + 1) eachS T' (pre ++ [((xa, V.length, V.length), V)]) X') (fun _ => False)) ?_ ?_
  ·show Code.wpIn _ _ _ eachBody _ _ _
   refine each_round (v := v) (ss := eachS pre) (V := V) hv hrv (by omega) hxc (by omega) hVs rfl rfl rfl ?_
   rintro X' hk' ⟨v', hv', hr'⟩
   exact hI2.round hb8 hTlt (fun k hk => ⟨by have := H8.out.2.2; have := hk.1; omega, hk.2⟩) hv hk' hv' (by rw [hel]; exact hr') (by unfold eachS; rw [List.map_append]; rfl)
  ·intro e a W' h
   cases e <;> first | exact h | exact h.elim
 case done =>
  rintro D T xs W1 W hD hxs hI hT hk hd
  have hI2 := hI.step (T' := fun _ => False) hb8 hk (fun k hk' => hk'.elim)
  obtain ⟨kX, hTge, v, hv, hrv⟩ := hI2
  have hxs' : eachS xs = L.map joinS := by
   have h : xs.map Prod.snd = L := hxs
   unfold eachS
   rw [<- h, List.map_map]; rfl
  rw [hxs', List.length_map] at hrv
  have hm1 : Marks w8.heap.size W [{ target := .collected D, args := #[] }] := Marks.push (Marks.nil w8.heap.size w8) (fun k o h ho => (kX.block k (lt_of_block h) (fun e => by
   have e' : k = gb + 1 := e
   have h8 := H8.out.1
   unfold Blk at h8
   rw [e', h8] at h; cases h; cases ho)).trans h) hD hD hd
  have v7 : W.cell? ⟨gb + 1, 0, none⟩ = some v := by rw [hv.cell']; rfl
  obtain ⟨la, lc, ev, _, _⟩ := hrv.shape
  subst ev
  have HZ := Lib.hid (And.intro hm1 (And.intro hrv kX))
  clear hxs' hm1 hrv kX hTge hI hT hk hd hD hxs hv
  go_wp2_with fail
  obtain ⟨hm1, hrv, kX⟩ := HZ.out
  have hx8 := H8.out.2.1.size
  have hgl := HG.out
  rw [EQ.out]
  refine each_ret (lo := w8.heap.size) hm1 (H8.out.2.1.trans' kX fun i hi hf => by have e : i = gb + 1 := hf; omega) hx8 rfl fun w' hx' kx => ?_
  refine (hrv.kp' kx fun g hg hM hf => ?_).mono fun g hg => Nat.le_trans hx8 hg.1
  obtain ⟨cs, hb⟩ := rowBlk hrv hg
  exact hf.2 ⟨_, hb, rfl⟩
 case stop =>
  rintro D c T pre W1 W hD hpre hX hT hk hd
  exact hX.elim
end Go.Proofs.YtinnmeiphbdogaaGreat

/- The document's Env: a variable's constant. -/
namespace Go.Proofs.YtinnmeiphbdogaaGreat
open Go.RowKit Go.Shelf
set_option linter.unusedVariables false
def ofV : Option ByteArray -> Value
 | some y => .tuple #[.string y, .bool true]
 | none => .tuple #[.string ⟨#[]⟩, .bool false]
def OfTo (w0 : World) (N : List ByteArray) (s : ByteArray) (n : Nat) (iv : Value) (w : World) : Prop := ∃ i : Nat, i ≤ n /\ iv = .int .i64 i /\ Hid (∀ x ∈ N.take i, x ≠ s) /\ Hid (Ext w0 w)
set_option maxRecDepth 100000 in
set_option maxHeartbeats 1000000 in
theorem envOf_any (e : EnvZ) (s : ByteArray) (na va : Option Addr) (n nc vc : Nat) (w : World) (he : EnvOk e) (hn : n = e.1.length) (h1 : CellsAt w na (strs e.1)) (h2 : CellsAt w va (strs e.2)) (hl : n ≤ 1048576) :
 Calls Tryz.prog 111 #[.agg #[.slice na n nc, .slice va n vc], .string s] w (RetN w fun w' v => v = ofV (ofE e s)) := by
 have HN := Lib.hid (And.intro he (And.intro hn (And.intro h1 h2)))
 clear he hn h1 h2
 go_enter Tryz.func111, Tryz.ntmps111
 obtain ⟨w1, e1⟩ : ∃ w1, w.alloc (.cells #[.slice na n nc, .slice va n vc] 111) = w1 := ⟨_, rfl⟩
 obtain ⟨g0, eg0⟩ : ∃ g, w.heap.size = g := ⟨_, rfl⟩
 have hB : Blk w1 g0 [.slice na n nc, .slice va n vc] 111 := by rw [<- e1, <- eg0]; exact Blk.new w _ _
 have hx1 : Ext w w1 := by rw [<- e1]; exact (Kp.refl w).alloc _
 have H1 := Lib.hid (And.intro hx1 hB)
 clear hx1 hB
 go_wp2
 clear e1 eg0
 go_loopw [6] (fun iv wr => OfTo w1 e.1 s n iv wr) (fun iv _ => n - (intOf iv).toNat)
 case atStart => exact ⟨0, Nat.zero_le _, rfl, Lib.hid (by simp), Lib.hid (Kp.refl _)⟩
 case round =>
  obtain ⟨i, hi, rfl, hno, hex⟩ := hrel
  have hb2 := H1.out.2.ext hex.out
  have c0 : wr.cell? ⟨g0, 0, none⟩ = some (.slice na n nc) := by rw [hb2.cell']; rfl
  have c1 : wr.cell? ⟨g0, 1, none⟩ = some (.slice va n vc) := by rw [hb2.cell']; rfl
  clear hb2
  by_cases hlt : i < n
  ·obtain ⟨x, hx⟩ : ∃ x, e.1[i]? = some x := ⟨_, List.getElem?_eq_getElem (by have := HN.out.2.1; omega)⟩
   obtain ⟨nb, no, ena, n0⟩ := HN.out.2.2.1 i (.string x) (by simp [strs, hx])
   subst ena
   replace n0 := hex.out.cell (H1.out.1.cell n0 id) id
   have HX := Lib.hid hx
   clear hx
   by_cases hs : x = s
   ·subst hs
    have hq := str_eqS x
    obtain ⟨y, hy⟩ : ∃ y, e.2[i]? = some y := ⟨_, List.getElem?_eq_getElem (by have := HN.out.2.1; have := HN.out.1.len; omega)⟩
    obtain ⟨vb, vo, eva, v0⟩ := HN.out.2.2.2 i (.string y) (by simp [strs, hy])
    subst eva
    replace v0 := hex.out.cell (H1.out.1.cell v0 id) id
    have HF := Lib.hid (show ofE e x = some y from (ofE_some HN.out.1).2 ⟨i, HX.out, hy⟩)
    clear hy
    go_wp2
    go_ret2
    exact RetN.mk (H1.out.1.trans hex.out) (by rw [HF.out]; rfl)
   ·have hq := str_neS hs
    have HS := Lib.hid hs
    clear hs
    go_wp2
    go_roundw
    case rel =>
     refine ⟨i + 1, by omega, by first | rfl | (congr 1; done) | (congr 1; omega), Lib.hid fun z hz => ?_, hex⟩
     rw [List.take_add_one, HX.out, List.mem_append] at hz
     rcases hz with hz | hz
     ·exact hno.out z hz
     ·simp at hz; subst hz; exact HS.out
    case measure => simp [intOf]; omega
  ·have HF := Lib.hid (show ofE e s = none from ofE_none.2 fun hm => hno.out s (by rw [List.take_of_length_le (by have := HN.out.2.1; omega)]; exact hm) rfl)
   go_wp2
   go_ret2
   exact RetN.mk (H1.out.1.trans hex.out) (by rw [HF.out]; rfl)
end Go.Proofs.YtinnmeiphbdogaaGreat

/- The document's Env: a term's constant. -/
namespace Go.Proofs.YtinnmeiphbdogaaGreat
open Go.RowKit Go.Shelf
set_option linter.unusedVariables false
set_option maxRecDepth 100000 in
set_option maxHeartbeats 1000000 in
theorem envVal_any (e : EnvZ) (k : Int) (s : ByteArray) (na va : Option Addr) (n nc vc : Nat) (w : World) (he : EnvOk e) (hn : n = e.1.length) (h1 : CellsAt w na (strs e.1)) (h2 : CellsAt w va (strs e.2)) (hl : n ≤ 1048576) :
 Calls Tryz.prog 74 #[.agg #[.slice na n nc, .slice va n vc], .agg #[.int .i64 k, .string s]] w (RetN w fun w' v => v = .string (valE e (k, s, ()))) := by
 have HO := Lib.hid (fun (W : World) (hW : Ext w W) => envOf_any e s na va n nc vc W he hn (h1.ext hW) (h2.ext hW) hl)
 clear he hn h1 h2
 go_enter Tryz.func74, Tryz.ntmps74
 obtain ⟨w1, e1⟩ : ∃ w1, (w.alloc (.cells #[.slice na n nc, .slice va n vc] 111)).alloc (.cells #[.int .i64 k, .string s] 38) = w1 := ⟨_, rfl⟩
 obtain ⟨g0, eg0⟩ : ∃ g, w.heap.size = g := ⟨_, rfl⟩
 have hB : Blk w1 g0 [.slice na n nc, .slice va n vc] 111 := by rw [<- e1, <- eg0]; exact (Blk.new w _ _).alloc _
 have hB2 : Blk w1 (g0 + 1) [.int .i64 k, .string s] 38 := by
  have h := Blk.new (w.alloc (.cells #[.slice na n nc, .slice va n vc] 111)) [.int .i64 k, .string s] 38
  rw [alloc_size, eg0] at h
  rw [<- e1]; exact h
 have hx1 : Ext w w1 := by rw [<- e1]; exact ((Kp.refl w).alloc _).alloc _
 have c0 : w1.cell? ⟨g0, 0, none⟩ = some (.slice na n nc) := by rw [hB.cell']; rfl
 have c1 : w1.cell? ⟨g0, 1, none⟩ = some (.slice va n vc) := by rw [hB.cell']; rfl
 have d0 : w1.cell? ⟨g0 + 1, 0, none⟩ = some (.int .i64 k) := by rw [hB2.cell']; rfl
 have d1 : w1.cell? ⟨g0 + 1, 1, none⟩ = some (.string s) := by rw [hB2.cell']; rfl
 have H1 := Lib.hid hx1
 clear hx1 hB hB2
 by_cases hk : k = 3
 ·subst hk
  go_wp2
  go_ret
  exact RetN.mk H1.out rfl
 ·have HK := Lib.hid hk
  go_wp2_with fail
  refine (HO.out w1 H1.out).mono ?_
  rintro e' w2 ⟨v, rfl, hk2, rfl⟩
  have H2 := Lib.hid (H1.out.trans hk2)
  clear hk2 c0 c1 d0 d1 hk
  cases ho : ofE e s with
  | none =>
   have HF := Lib.hid (show valE e (k, s, ()) = ⟨#[]⟩ from by unfold valE; rw [if_neg HK.out]; show (ofE e s).getD _ = _; rw [ho]; rfl)
   clear ho
   unfold ofV
   go_wp2
   go_ret
   exact RetN.mk H2.out (by first | (rw [HF.out]; done) | (rw [HF.out]; rfl) | simp [HF.out])
  | some y =>
   have HF := Lib.hid (show valE e (k, s, ()) = y from by unfold valE; rw [if_neg HK.out]; show (ofE e s).getD _ = _; rw [ho]; rfl)
   clear ho
   unfold ofV
   go_wp2
   go_ret
   exact RetN.mk H2.out (by first | (rw [HF.out]; done) | (rw [HF.out]; rfl) | simp [HF.out])
end Go.Proofs.YtinnmeiphbdogaaGreat

/- The document's Head; Vars by both, of any rule; the law's same. -/
namespace Go.Proofs.YtinnmeiphbdogaaGreat
open Go.RowKit Go.Shelf
set_option linter.unusedVariables false
attribute [local go_sem] Oper.semAt_some
def varsOfR (r : RuleZ) : List ByteArray := if checkR r = 0 then namesB r.2.1 else []
set_option maxRecDepth 100000 in
theorem varsR_any (p : ByteArray) (hs : List TermZ) (ls : List LitZ) (ha : Option Addr) (hn hcap : Nat) (ba : Option Addr) (n bcap : Nat) (w : World) (G : Nat -> Prop) (hhn : hn = hs.length) (hh : TermsAt w G ha hs) (hhl : hn ≤ 1048576) (hbn : n = ls.length) (h : LitsAt w G ba ls) (hf : Fit ls) :
 Calls Tryz.prog 13 #[ruleV p ha hn hcap ba n bcap] w (RetN w fun w' v => ∃ ao cap, v = .slice ao (varsOfR ((p, hs, ()), ls, ())).length cap /\ CellsAt w' ao (strs (varsOfR ((p, hs, ()), ls, ())))) := by
 by_cases hc : checkR ((p, hs, ()), ls, ()) = 0
 ·refine (joinVars_any p hs ls ha hn hcap ba n bcap w G hhn hh hhl hbn h hf hc).mono ?_
  rintro e w' ⟨v, rfl, hk, ao, cap, rfl, h1, h2⟩
  exact RetN.mk hk ⟨ao, cap, by unfold varsOfR; rw [if_pos hc], by unfold varsOfR; rw [if_pos hc]; exact h2⟩
 ·obtain ⟨cR, ecR⟩ : ∃ c, checkR ((p, hs, ()), ls, ()) = c := ⟨_, rfl⟩
  have HF := Lib.hid (show varsOfR ((p, hs, ()), ls, ()) = [] from by unfold varsOfR; rw [if_neg hc])
  have h1 := fun (W : World) (hW : Ext w W) => check_any p hs ls ha hn hcap ba n bcap W G hhn (hh.ext hW) hhl hbn (h.ext hW) hf
  rw [ecR] at h1 hc
  have HC := Lib.hid h1
  have hc' : ((cR : Int) == 0) = false := by simp; omega
  have hc2 : ((cR : Int) != 0) = true := by simp; omega
  clear h1 hhn hh hbn h hf hc ecR
  go_enter Tryz.func13, Tryz.ntmps13
  go_wp2_with fail
  refine (HC.out _ ((Kp.refl _).alloc _)).mono ?_
  rintro e w1 ⟨v, rfl, hk1, rfl⟩
  have X1 := Lib.hid (((Kp.refl _).alloc _).trans hk1)
  clear hk1
  go_wp2
  go_ret
  exact RetN.mk X1.out ⟨none, 0, by rw [HF.out]; rfl, by rw [HF.out]; exact CellsAt.nil _ _⟩
set_option maxRecDepth 100000 in
theorem refVarsR_any (p : ByteArray) (hs : List TermZ) (ls : List LitZ) (ha : Option Addr) (hn hcap : Nat) (ba : Option Addr) (n bcap : Nat) (w : World) (G : Nat -> Prop) (hhn : hn = hs.length) (hh : TermsAt w G ha hs) (hhl : hn ≤ 1048576) (hbn : n = ls.length) (h : LitsAt w G ba ls) (hf : Fit ls) :
 Calls Tryz.prog 22 #[ruleV p ha hn hcap ba n bcap] w (RetN w fun w' v => ∃ ao cap, v = .slice ao (varsOfR ((p, hs, ()), ls, ())).length cap /\ CellsAt w' ao (strs (varsOfR ((p, hs, ()), ls, ())))) := by
 by_cases hc : checkR ((p, hs, ()), ls, ()) = 0
 ·refine (refVars_any p hs ls ha hn hcap ba n bcap w G hhn hh hhl hbn h hf hc).mono ?_
  rintro e w' ⟨v, rfl, hk, ao, cap, rfl, h1, h2⟩
  exact RetN.mk hk ⟨ao, cap, by unfold varsOfR; rw [if_pos hc], by unfold varsOfR; rw [if_pos hc]; exact h2⟩
 ·obtain ⟨cR, ecR⟩ : ∃ c, checkR ((p, hs, ()), ls, ()) = c := ⟨_, rfl⟩
  have HF := Lib.hid (show varsOfR ((p, hs, ()), ls, ()) = [] from by unfold varsOfR; rw [if_neg hc])
  have h1 := fun (W : World) (hW : Ext w W) => refCheck_any p hs ls ha hn hcap ba n bcap W G hhn (hh.ext hW) hhl hbn (h.ext hW) hf
  rw [ecR] at h1 hc
  have HC := Lib.hid h1
  have hc' : ((cR : Int) == 0) = false := by simp; omega
  have hc2 : ((cR : Int) != 0) = true := by simp; omega
  clear h1 hhn hh hbn h hf hc ecR
  go_enter Tryz.func22, Tryz.ntmps22
  go_wp2_with fail
  refine (HC.out _ ((Kp.refl _).alloc _)).mono ?_
  rintro e w1 ⟨v, rfl, hk1, rfl⟩
  have X1 := Lib.hid (((Kp.refl _).alloc _).trans hk1)
  clear hk1
  go_wp2
  go_ret
  exact RetN.mk X1.out ⟨none, 0, by rw [HF.out]; rfl, by rw [HF.out]; exact CellsAt.nil _ _⟩
def Same14To (w0 : World) (ss tt : List ByteArray) (n : Nat) (iv : Value) (w : World) : Prop := ∃ i : Nat, i ≤ n /\ iv = .int .i64 i /\ Hid (Ext w0 w) /\ Hid (ss.take i = tt.take i)
set_option maxRecDepth 100000 in
set_option maxHeartbeats 1000000 in
theorem same14_any (ss tt : List ByteArray) (ao bo : Option Addr) (n m acap bcap : Nat) (w : World) (hn : n = ss.length) (hm : m = tt.length) (ha : CellsAt w ao (strs ss)) (hb : CellsAt w bo (strs tt)) (hl : n ≤ 4611686018427387904) :
 Calls Tryz.prog 17 #[.slice ao n acap, .slice bo m bcap] w (RetN w fun w' v => v = .bool (decide (ss = tt))) := by
 have HN := Lib.hid (And.intro hn hm); have HA := Lib.hid ha; have HB := Lib.hid hb
 clear hn hm ha hb
 by_cases hnm : n = m
 ·subst hnm
  have q1 : ((n : Int) != (n : Int)) = false := by simp
  go_enter Tryz.func17, Tryz.ntmps17
  go_wp2
  go_loopw [5] (fun iv wr => Same14To w ss tt n iv wr) (fun iv _ => n - (intOf iv).toNat)
  case atStart => exact ⟨0, Nat.zero_le _, rfl, Lib.hid (Kp.refl w), Lib.hid rfl⟩
  case round =>
   obtain ⟨i, hi, rfl, hex, heq⟩ := hrel
   by_cases hlt : i < n
   ·obtain ⟨s, hs⟩ : ∃ s, ss[i]? = some s := ⟨_, List.getElem?_eq_getElem (by rw [<- HN.out.1]; exact hlt)⟩
    obtain ⟨t, ht⟩ : ∃ t, tt[i]? = some t := ⟨_, List.getElem?_eq_getElem (by rw [<- HN.out.2]; exact hlt)⟩
    obtain ⟨g1, o1, e1, c0⟩ := HA.out i (.string s) (by simp [strs, hs])
    obtain ⟨g2, o2, e2, d0⟩ := HB.out i (.string t) (by simp [strs, ht])
    subst e1 e2
    replace c0 := hex.out.cell c0 id
    replace d0 := hex.out.cell d0 id
    have HST := Lib.hid (And.intro hs ht)
    clear hs ht
    by_cases hst : s = t
    ·subst hst
     have q4 := str_eq s
     go_wp2
     go_quiet (fail)
     go_wp2
     go_roundw
     case rel => exact ⟨i + 1, by omega, by first | rfl | (congr 1; done) | (congr 1; omega), Lib.hid (hex.out.drewN _), Lib.hid (by rw [List.take_add_one, List.take_add_one, HST.out.1, HST.out.2, heq.out])⟩
     case measure => simp [intOf]; omega
    ·have q4 := str_ne hst
     have HD := Lib.hid (show decide (ss = tt) = false from decide_eq_false fun e => hst (by have h := HST.out.1; rw [e, HST.out.2] at h; cases h; rfl))
     clear hst
     go_wp2
     go_quiet (fail)
     go_wp2
     go_ret
     exact RetN.mk (hex.out.drewN _) (by rw [HD.out]; rfl)
   ·obtain rfl : n = i := by omega
    have HD := Lib.hid (show decide (ss = tt) = true from decide_eq_true (by
     have h := heq.out
     rw [List.take_of_length_le (by rw [<- HN.out.1]; exact Nat.le_refl _), List.take_of_length_le (by rw [<- HN.out.2]; exact Nat.le_refl _)] at h
     exact h))
    go_wp2
    go_ret
    exact RetN.mk hex.out (by rw [HD.out]; rfl)
 ·have q1 : ((n : Int) != (m : Int)) = true := by simp; omega
  have q2 : ((n : Int) == (m : Int)) = false := by simp; omega
  have HD := Lib.hid (show decide (ss = tt) = false from decide_eq_false fun e => hnm (by rw [HN.out.1, HN.out.2, e]))
  clear hnm
  go_enter Tryz.func17, Tryz.ntmps17
  go_wp2
  go_ret
  exact RetN.mk (Kp.refl w) (by rw [HD.out]; rfl)
def RefHeadTo (w0 : World) (e : EnvZ) (hs : List TermZ) (n : Nat) (ov jv : Value) (W : World) : Prop :=
 ∃ i : Nat, i ≤ n /\ jv = .int .i64 i /\ Hid (Ext w0 W) /\ Hid (Row W 9 1 ov (headE e (hs.take i)).length (strs (headE e (hs.take i))) (New w0))
theorem headE_snoc (e : EnvZ) {hs : List TermZ} {i : Nat} {t : TermZ} (h : hs[i]? = some t) : headE e (hs.take (i + 1)) = headE e (hs.take i) ++ (if t.1 < 4 then [valE e t] else []) := by
 unfold headE
 rw [List.take_add_one, h, List.filterMap_append]
 congr 1
 show List.filterMap _ [t] = _
 by_cases h1 : t.1 < 4
 ·simp [h1]
 ·simp [h1]
theorem headE_few (e : EnvZ) (hs : List TermZ) : (headE e hs).length ≤ hs.length := List.length_filterMap_le _ _
def RefHeadOut (r : RuleZ) (V : List ByteArray) (w w' : World) (v : Value) : Prop :=
 (checkR r = 0 /\ V.length = (namesB r.2.1).length /\ ∃ ao cap, v = .tuple #[.slice ao (headE (namesB r.2.1, V) r.1.2.1).length cap, .int .i64 0] /\ CellsAt w' ao (strs (headE (namesB r.2.1, V) r.1.2.1)) /\ ∀ a, ao = some a -> w.heap.size ≤ a.block) \/
 (¬ (checkR r = 0 /\ V.length = (namesB r.2.1).length) /\ v = .tuple #[.slice none 0 0, .int .i64 2])
set_option maxRecDepth 100000 in
set_option maxHeartbeats 4000000 in
theorem refHead_any {w : World} {p : ByteArray} {hs : List TermZ} {ls : List LitZ} {ha ba va : Option Addr} {hn hcap n bcap nb vc : Nat} {G : Nat -> Prop} {V : List ByteArray} (hhn : hn = hs.length) (hh : TermsAt w G ha hs) (hhl : hn ≤ 1048576) (hbn : n = ls.length) (h : LitsAt w G ba ls) (hf : Fit ls) (hnv : (namesB ls).length ≤ 1048576) (hV : nb = V.length) (hVc : CellsAt w va (strs V)) (hvb : nb ≤ 1048576) :
 Calls Tryz.prog 24 #[ruleV p ha hn hcap ba n bcap, .slice va nb vc] w (RetN w fun w' v => RefHeadOut ((p, hs, ()), ls, ()) V w w' v) := by
 have HCh := Lib.hid (fun W (hW : Ext w W) => refCheck_any p hs ls ha hn hcap ba n bcap W G hhn (hh.ext hW) hhl hbn (h.ext hW) hf)
 have HVa := Lib.hid (fun W (hW : Ext w W) => names14_any p ha hn hcap ls ba n bcap W G hbn (h.ext hW) hf)
 have HT := Lib.hid (And.intro hhn hh)
 have HVc := Lib.hid (And.intro hV hVc)
 obtain ⟨cR, ecR⟩ : ∃ c, checkR ((p, hs, ()), ls, ()) = c := ⟨_, rfl⟩
 rw [ecR] at HCh
 have HC := Lib.hid ecR
 obtain ⟨gb, egb⟩ : ∃ g, w.heap.size = g := ⟨_, rfl⟩
 obtain ⟨w1, e1⟩ : ∃ x, w.alloc (.cells #[.string p, .slice ha hn hcap, .slice ba n bcap] 27) = x := ⟨_, rfl⟩
 have x1 : Ext w w1 := by rw [<- e1]; exact (Kp.refl w).alloc _
 have hB1 : Blk w1 gb [.string p, .slice ha hn hcap, .slice ba n bcap] 27 := by rw [<- e1, <- egb]; exact Blk.new w _ _
 have H1 := Lib.hid (And.intro x1 hB1)
 have r0 : w1.cell? ⟨gb, 0, none⟩ = some (.string p) := by rw [hB1.cell']; rfl
 have r1 : w1.cell? ⟨gb, 1, none⟩ = some (.slice ha hn hcap) := by rw [hB1.cell']; rfl
 have r2 : w1.cell? ⟨gb, 2, none⟩ = some (.slice ba n bcap) := by rw [hB1.cell']; rfl
 clear hh hbn h hf hV hVc ecR x1 hB1 hhn
 go_enter Tryz.func24, Tryz.ntmps24
 go_wp2_with fail
 clear e1 egb
 refine (HVa.out w1 H1.out.1).mono ?_
 rintro e w2 ⟨v2, rfl, hk2, na, nc, rfl, hnc, hna⟩
 obtain ⟨nv, env⟩ : ∃ k, (namesB ls).length = k := ⟨_, rfl⟩
 rw [env] at hnv ⊢
 have HEv := Lib.hid env
 have H2 := Lib.hid (And.intro (H1.out.1.trans hk2) (And.intro (H1.out.2.ext hk2) hna))
 have q0 : w2.cell? ⟨gb, 0, none⟩ = some (.string p) := hk2.cell r0 id
 have q1 : w2.cell? ⟨gb, 1, none⟩ = some (.slice ha hn hcap) := hk2.cell r1 id
 have q2 : w2.cell? ⟨gb, 2, none⟩ = some (.slice ba n bcap) := hk2.cell r2 id
 clear hk2 r0 r1 r2 hnc hna env
 go_wp2_with fail
 refine (HCh.out w2 H2.out.1).mono ?_
 rintro e w3 ⟨v3, rfl, hk3, rfl⟩
 have H3 := Lib.hid (And.intro (H2.out.1.trans hk3) (And.intro (H2.out.2.1.ext hk3) (H2.out.2.2.ext hk3)))
 clear hk3 q0 q1 q2
 by_cases hc : cR = 0
 ·subst hc
  by_cases hl : nb = nv
  ·subst hl
   obtain ⟨ge, ege⟩ : ∃ g, w3.heap.size = g := ⟨_, rfl⟩
   obtain ⟨w4, e4⟩ : ∃ x, w3.alloc (.cells #[.slice na nb nc, .slice va nb vc] 111) = x := ⟨_, rfl⟩
   have hB4 : Blk w4 ge [.slice na nb nc, .slice va nb vc] 111 := by rw [<- e4, <- ege]; exact Blk.new w3 _ _
   have x34 : Ext w3 w4 := by rw [<- e4]; exact (Kp.refl w3).alloc _
   have HE := Lib.hid (And.intro (H3.out.1.trans x34) (And.intro hB4 (And.intro (H3.out.2.1.ext x34) (H3.out.2.2.ext x34))))
   have HNd := Lib.hid (show EnvOk (namesB ls, V) from ⟨namesB_nodup ls, by rw [<- HVc.out.1]; exact HEv.out.symm⟩)
   have q3 : ((nb : Int) != (nb : Int)) = false := by simp
   clear hB4 x34
   go_wp2
   clear e4 ege q3
   go_loopw [8, 9] (fun ov jv wk => RefHeadTo w4 (namesB ls, V) hs hn ov jv wk) (fun _ jv _ => hn - (intOf jv).toNat)
   case atStart => exact ⟨0, Nat.zero_le _, rfl, Lib.hid (Kp.refl _), Lib.hid (Row.nil _ _ _ _)⟩
   case round =>
    obtain ⟨i, hi, rfl, hex, hro⟩ := hrel
    obtain ⟨oa, oc, eov, hoc, hle⟩ := hro.out.shape
    subst eov
    have u1 : wr.cell? ⟨gb, 1, none⟩ = some (.slice ha hn hcap) := by rw [(HE.out.2.2.1.ext hex.out).cell']; rfl
    by_cases hlt : i < hn
    ·obtain ⟨t, ht⟩ : ∃ t, hs[i]? = some t := ⟨_, List.getElem?_eq_getElem (by rw [<- HT.out.1]; exact hlt)⟩
     obtain ⟨b, off, eha, f0, f1, -, -⟩ := term_at (HT.out.2.ext (HE.out.1.trans hex.out)) ht
     subst eha
     obtain ⟨kt, st, ⟨⟩⟩ := t
     simp only at f0 f1
     have HTt := Lib.hid ht
     obtain ⟨bx, ebx⟩ : ∃ x, wr.heap.size = x := ⟨_, rfl⟩
     obtain ⟨W1, eW1⟩ : ∃ x, wr.alloc (.cells #[.int .i64 kt, .string st] 38) = x := ⟨_, rfl⟩
     have hBx : Blk W1 bx [.int .i64 kt, .string st] 38 := by rw [<- eW1, <- ebx]; exact Blk.new wr _ _
     have x1 : Ext wr W1 := by rw [<- eW1]; exact (Kp.refl wr).alloc _
     have g0 : W1.cell? ⟨bx, 0, none⟩ = some (.int .i64 kt) := by rw [hBx.cell']; rfl
     have g1 : W1.cell? ⟨bx, 1, none⟩ = some (.string st) := by rw [hBx.cell']; rfl
     have v0 : W1.cell? ⟨ge, 0, none⟩ = some (.slice na nb nc) := by rw [((HE.out.2.1.ext hex.out).ext x1).cell']; rfl
     have v1 : W1.cell? ⟨ge, 1, none⟩ = some (.slice va nb vc) := by rw [((HE.out.2.1.ext hex.out).ext x1).cell']; rfl
     have HX := Lib.hid (And.intro (hex.out.trans x1) (hro.out.ext x1))
     have hfew := headE_few (namesB ls, V) (hs.take i)
     rw [List.length_take] at hfew
     have HS := Lib.hid (headE_snoc (namesB ls, V) HTt.out)
     have HVl := Lib.hid (envVal_any (namesB ls, V) kt st na va nb nc vc W1 HNd.out HEv.out.symm (HE.out.2.2.2.ext HX.out.1) (HVc.out.2.ext (HE.out.1.trans HX.out.1)) hvb)
     clear hBx x1 ht hoc hle hex hro hi
     by_cases h4 : kt < 4
     ·rw [if_pos h4] at HS
      go_wp2_with fail
      refine HVl.out.mono ?_
      rintro e w5 ⟨v5, rfl, hk5, rfl⟩
      obtain ⟨x, ex⟩ : ∃ x, valE (namesB ls, V) (kt, st, ()) = x := ⟨_, rfl⟩
      rw [ex] at HS ⊢
      have HX5 := Lib.hid (And.intro (HX.out.1.trans hk5) (HX.out.2.ext hk5))
      clear hk5 eW1 g0 g1 v0 v1 ex h4 u1 f0 f1 ebx
      go_wp2_with (first | (at_builtin; refine Halted.out ?_))
      refine Halted.mk (wp_appN elemStr rfl _ _ rfl (HX5.out.1.alloc _) rfl (HX5.out.2.alloc _) rfl (CellsAt.one w5 (.string x) 9) rfl (by simp; rfl) (by omega) (by unfold maxLen; omega) ?_)
      intro v6 w6 hr6 hk6 hk6b _
      obtain ⟨la, lcap, elv, _, _⟩ := hr6.shape
      subst elv
      have HF := Lib.hid (show Ext w4 w6 /\ Row w6 9 1 (.slice la ((headE (namesB ls, V) (hs.take i)).length + 1) lcap) (headE (namesB ls, V) (hs.take (i + 1))).length (strs (headE (namesB ls, V) (hs.take (i + 1)))) (New w4) from by
       refine ⟨hk6, ?_⟩
       rw [HS.out, List.length_append, List.length_singleton]
       have e : strs (headE (namesB ls, V) (hs.take i) ++ [x]) = strs (headE (namesB ls, V) (hs.take i)) ++ [.string x] := by simp [strs]
       rw [e]; exact hr6)
      clear hr6 hk6 hk6b
      go_wp2
      go_roundw
      case rel => exact ⟨i + 1, by omega, by first | rfl | (congr 1; done) | (congr 1; omega), Lib.hid HF.out.1, Lib.hid HF.out.2⟩
      case measure => simp [intOf]; omega
     ·rw [if_neg h4, List.append_nil] at HS
      go_wp2
      go_roundw
      case rel => exact ⟨i + 1, by omega, by first | rfl | (congr 1; done) | (congr 1; omega), Lib.hid HX.out.1, Lib.hid (by rw [HS.out]; exact HX.out.2)⟩
      case measure => simp [intOf]; omega
    ·obtain rfl : hn = i := by omega
     have hall : hs.take hn = hs := List.take_of_length_le (by rw [<- HT.out.1]; exact Nat.le_refl _)
     have hro2 := hro.out
     rw [hall] at hoc hle hro2 ⊢
     have HR := Lib.hid (show Ext w wr /\ CellsAt wr oa (strs (headE (namesB ls, V) hs)) /\ ∀ a, oa = some a -> w.heap.size ≤ a.block from ⟨HE.out.1.trans hex.out, hoc, fun a e => by
      subst e
      have h1 : w4.heap.size ≤ a.block := hro2.block a.block rfl
      have h2 := HE.out.1.size
      omega⟩)
     clear hex hro hro2 hoc hle hi hlt hall
     go_wp2
     go_ret2
     exact RetN.mk HR.out.1 (.inl ⟨HC.out, by rw [<- HVc.out.1]; exact HEv.out.symm, _, _, rfl, HR.out.2⟩)
  ·have hnl : ((nv : Int) == (nb : Int)) = false := by simp; omega
   have hnl2 : ((nv : Int) != (nb : Int)) = true := by simp; omega
   have HNl := Lib.hid (show ¬ (checkR ((p, hs, ()), ls, ()) = 0 /\ V.length = (namesB ls).length) from fun h => hl (by rw [HVc.out.1, <- HEv.out]; exact h.2))
   clear hl
   go_wp2
   go_ret2
   exact RetN.mk H3.out.1 (.inr ⟨HNl.out, rfl⟩)
 ·have hc' : ((cR : Int) == 0) = false := by simp; omega
  have hc2 : ((cR : Int) != 0) = true := by simp; omega
  have HN := Lib.hid hc
  clear hc
  go_wp2
  go_ret2
  exact RetN.mk H3.out.1 (.inr ⟨fun h => HN.out (by rw [<- HC.out]; exact h.1), rfl⟩)
def headR (r : RuleZ) (V : List ByteArray) : List ByteArray × Nat := if checkR r = 0 /\ V.length = (namesB r.2.1).length then (headV (namesB r.2.1) V r.1.2.1, 0) else ([], 2)
def HeadSame (r : RuleZ) (V : List ByteArray) (w w' : World) (v : Value) : Prop := ∃ ao cap, v = .tuple #[.slice ao (headR r V).1.length cap, .int .i64 ((headR r V).2 : Nat)] /\ CellsAt w' ao (strs (headR r V).1) /\ ((headR r V).1 ≠ [] -> ∀ a, ao = some a -> w.heap.size ≤ a.block)
theorem HeadOut.same {r : RuleZ} {V : List ByteArray} {w w' : World} {v : Value} (h : HeadOut r V w w' v) : HeadSame r V w w' v := by
 unfold HeadSame headR
 rcases h with ⟨h1, h2, ao, cap, e, h3, -, h4⟩ | ⟨h1, e⟩
 ·rw [if_pos ⟨h1, h2⟩]; exact ⟨ao, cap, e, h3, fun _ => h4⟩
 ·rw [if_neg h1]; exact ⟨none, 0, e, CellsAt.nil _ _, fun h => absurd rfl h⟩
theorem RefHeadOut.same {r : RuleZ} {V : List ByteArray} {w w' : World} {v : Value} (h : RefHeadOut r V w w' v) : HeadSame r V w w' v := by
 unfold HeadSame headR
 rcases h with ⟨h1, h2, ao, cap, e, h3, h4⟩ | ⟨h1, e⟩
 ·rw [<- head_same h1] at h3 e
  rw [if_pos ⟨h1, h2⟩]; exact ⟨ao, cap, e, h3, fun _ => h4⟩
 ·rw [if_neg h1]; exact ⟨none, 0, e, CellsAt.nil _ _, fun h => absurd rfl h⟩
theorem headR_few (r : RuleZ) (V : List ByteArray) : (headR r V).1.length ≤ r.1.2.1.length := by
 unfold headR
 split
 ·exact headV_few _ _ _
 ·exact Nat.zero_le _
end Go.Proofs.YtinnmeiphbdogaaGreat

/- The law of joins: lent, kept: a rule in memory of its own, with marks behind its lists. -/
namespace Go.Proofs.YtinnmeiphbdogaaGreat
open Go.RowKit
set_option linter.unusedVariables false
abbrev markK : TermZ := (-71, ⟨#[]⟩, ())
def TermsK (w0 w : World) (a : Option Addr) (n cap : Nat) (ts : List TermZ) : Prop := ∃ g rest, a = some ⟨g, 0, none⟩ /\ n = ts.length /\ n + 1 ≤ cap /\ cap ≤ maxLen /\ w0.heap.size ≤ g /\ Blk w g (tcells (ts ++ [markK]) ++ rest) 38
theorem TermsK.at {w0 w : World} {a : Option Addr} {n cap : Nat} {ts : List TermZ} (h : TermsK w0 w a n cap ts) (hf : ∀ t ∈ ts, TermFit t) : TermsAt w (New w0) a ts := by
 obtain ⟨g, rest, rfl, _, _, _, hg, hB⟩ := h
 rw [tcells_snoc, List.append_assoc] at hB
 exact elems_of (s := shTerm) (f := termC) (fun x => rfl) (fun i x hi => term_mk (hf x (List.mem_of_getElem? hi))) hg hB
theorem TermsK.mark {w0 w : World} {a : Option Addr} {n cap : Nat} {ts : List TermZ} (h : TermsK w0 w a n cap ts) : ∃ g, a = some ⟨g, 0, none⟩ /\ w.cell? ⟨g, n * 2, none⟩ = some (.int .i64 (-71)) /\ n + 1 ≤ cap /\ cap ≤ maxLen := by
 obtain ⟨g, rest, rfl, hn, h1, h2, hg, hB⟩ := h
 refine ⟨g, rfl, ?_, h1, h2⟩
 rw [tcells_snoc, List.append_assoc] at hB
 rw [hB.cell', hn, <- tcells_len ts, List.getElem?_append_right (Nat.le_refl _), Nat.sub_self]; rfl
theorem TermsK.kp {w0 w w' : World} {F : Nat -> Prop} {a : Option Addr} {n cap : Nat} {ts : List TermZ} (h : TermsK w0 w a n cap ts) (hk : Kp F w w') (hF : ∀ k cs, Blk w k cs 38 -> ¬ F k) : TermsK w0 w' a n cap ts := by
 obtain ⟨g, rest, e, hn, h1, h2, hg, hB⟩ := h
 exact ⟨g, rest, e, hn, h1, h2, hg, hB.kp hk (hF g _ hB)⟩
theorem TermsK.ext {w0 w w' : World} {a : Option Addr} {n cap : Nat} {ts : List TermZ} (h : TermsK w0 w a n cap ts) (hk : Ext w w') : TermsK w0 w' a n cap ts := h.kp hk fun _ _ _ => id
theorem TermsK.old {w0 w1 w : World} {a : Option Addr} {n cap : Nat} {ts : List TermZ} (h : TermsK w1 w a n cap ts) (hs : w0.heap.size ≤ w1.heap.size) : TermsK w0 w a n cap ts := by
 obtain ⟨g, rest, e, hn, h1, h2, hg, hB⟩ := h
 exact ⟨g, rest, e, hn, h1, h2, Nat.le_trans hs hg, hB⟩
theorem typ_at : 38 ≠ 24 := by decide
set_option maxRecDepth 100000 in
set_option maxHeartbeats 2000000 in
theorem lentAtom_any (p : ByteArray) (ts : List TermZ) (ao : Option Addr) (n cap : Nat) (w : World) (G : Nat -> Prop) (hn : n = ts.length) (h : TermsAt w G ao ts) (hl : n ≤ 1048576) :
 Calls Tryz.prog 68 #[.agg #[.string p, .slice ao n cap]] w (RetN w fun w' v => ∃ a c, v = .agg #[.string p, .slice a n c] /\ TermsK w w' a n c ts) := by
 have HN := Lib.hid hn
 have HC := Lib.hid (terms_cells h)
 have HL := Lib.hid (tcells_len ts)
 obtain ⟨g0, eg0⟩ : ∃ g, w.heap.size = g := ⟨_, rfl⟩
 obtain ⟨w1, e1⟩ : ∃ x, (w.alloc (.cells #[.string p, .slice ao n cap] 24)).alloc (.cells #[.string ⟨#[]⟩, .slice none 0 0] 24) = x := ⟨_, rfl⟩
 have hB1 : Blk w1 g0 [.string p, .slice ao n cap] 24 := by rw [<- e1, <- eg0]; exact (Blk.new w _ _).alloc _
 have hB2 : Blk w1 (g0 + 1) [.string ⟨#[]⟩, .slice none 0 0] 24 := by
  have h := Blk.new (w.alloc (.cells #[.string p, .slice ao n cap] 24)) [.string ⟨#[]⟩, .slice none 0 0] 24
  rw [alloc_size, eg0] at h
  rw [<- e1]; exact h
 have hx1 : Ext w w1 := by rw [<- e1]; exact ((Kp.refl w).alloc _).alloc _
 have r1 : w1.cell? ⟨g0, 1, none⟩ = some (.slice ao n cap) := by rw [hB1.cell']; rfl
 have H1 := Lib.hid (And.intro hx1 (And.intro hB1 (And.intro hB2 eg0)))
 clear hn h hB1 hB2 hx1
 go_enter Tryz.func68, Tryz.ntmps68
 go_wp2_with (first | (at_builtin; refine Halted.out ?_))
 clear e1 eg0
 refine Halted.mk (wp_appN (m := n) (n := 0) elem_term rfl _ _ rfl H1.out.1 rfl (Row.nil _ _ _ (New w)) rfl (HC.out.ext H1.out.1) (by rw [HL.out, HN.out]) (tcells_one ts) (by omega) (by unfold maxLen; omega) ?_)
 intro v1 w2 hr1 hk1 hk1b _
 rw [Nat.zero_add, List.nil_append] at hr1
 obtain ⟨a1, c1, ev1, _, _⟩ := hr1.shape
 subst ev1
 have HR1 := Lib.hid hr1
 have X1 := Lib.hid (And.intro hk1 (show Ext w1 w2 from hk1b.mono fun k _ h => by cases h))
 clear hr1 hk1 hk1b r1
 go_wp2_with (first | (at_builtin; refine Halted.out ?_))
 refine Halted.mk (wp_appN (m := 1) (n := n) elem_term rfl _ _ rfl (X1.out.1.alloc _) rfl (HR1.out.alloc _) rfl (CellsAt.two w2 (.int .i64 (-71)) (.string ⟨#[]⟩) 38) (by rfl) (by simp [Value.oneCell']) (by omega) (by unfold maxLen; omega) ?_)
 intro v2 w3 hr2 hk2 hk2b _
 have hno : ∀ g cs, Blk w2 g cs 24 -> Blk w3 g cs 24 := fun g cs hb => (hb.alloc _).kp hk2b fun hg => by
  obtain ⟨cs', hb'⟩ := HR1.out.blkOf hg
  exact typ_at (blk_ne hb' hb)
 have hB13 := hno _ _ (H1.out.2.1.ext X1.out.2)
 have hB23 := hno _ _ (H1.out.2.2.1.ext X1.out.2)
 obtain ⟨h1, ⟨rfl, h0⟩ | ⟨g, cap2, rest, rfl, hM, hB, hlen, hnc, hcm⟩⟩ := hr2
 ·omega
 ·have hcm2 : cap2 ≤ 9223372036854775807 := hcm
  have i1 : (n : Int) ≤ (cap2 : Int) := by omega
  have q0 : w3.cell? ⟨g0, 0, none⟩ = some (.string p) := by rw [hB13.cell']; rfl
  have q1 : w3.cell? ⟨g0, 1, none⟩ = some (.slice ao n cap) := by rw [hB13.cell']; rfl
  have q2 : w3.cell? ⟨g0 + 1, 0, none⟩ = some (.string ⟨#[]⟩) := by rw [hB23.cell']; rfl
  have q3 : w3.cell? ⟨g0 + 1, 1, none⟩ = some (.slice none 0 0) := by rw [hB23.cell']; rfl
  have f1 := hB13.free 1
  have f2 := hB23.free 0
  have f3 := hB23.free 1
  have H3 := Lib.hid (And.intro hk2 (And.intro hB13 (And.intro hB23 (And.intro hM hB))))
  clear h1 hk2 hk2b hno hB13 hB23 hM hB hlen
  go_wp2
  obtain ⟨W, eW⟩ : ∃ x, (((w3.setCell ⟨g0, 1, none⟩ (.slice (some ⟨g, 0, none⟩) n cap2)).setCell ⟨g0 + 1, 0, none⟩ (.string p)).setCell ⟨g0 + 1, 1, none⟩ (.slice (some ⟨g, 0, none⟩) n cap2)) = x := ⟨_, rfl⟩
  have n1 : g0 ≠ g0 + 1 := by omega
  have hBW : Blk W (g0 + 1) [.string p, .slice (some ⟨g, 0, none⟩) n cap2] 24 := by
   rw [<- eW]; exact ((H3.out.2.2.1.other (p := ⟨g0, 1, none⟩) (fun e => n1 e.symm) _).set 0 _).set 1 _
  have kW : Kp (fun k => k = g0 \/ k = g0 + 1) w3 W := by
   rw [<- eW]
   exact Kp.setCell (F := fun k => k = g0 \/ k = g0 + 1) (p := ⟨g0 + 1, 1, none⟩) (Kp.setCell (F := fun k => k = g0 \/ k = g0 + 1) (p := ⟨g0 + 1, 0, none⟩) (Kp.setCell (F := fun k => k = g0 \/ k = g0 + 1) (p := ⟨g0, 1, none⟩) (Kp.refl w3) (fun _ => .inl rfl) _) (fun _ => .inr rfl) _) (fun _ => .inr rfl) _
  have d0 : W.cell? ⟨g0 + 1, 0, none⟩ = some (.string p) := by rw [hBW.cell']; rfl
  have d1 : W.cell? ⟨g0 + 1, 1, none⟩ = some (.slice (some ⟨g, 0, none⟩) n cap2) := by rw [hBW.cell']; rfl
  rw [eW]
  refine bodyPost_ret (v := .agg #[.string p, .slice (some ⟨g, 0, none⟩) n cap2]) (by simp [results, Tryz.results68, go_sem, d0, d1]) rfl ?_
  refine RetN.mk (H3.out.1.trans' kW fun i hi h => by have := H1.out.2.2.2; omega) ⟨_, _, rfl, g, rest, rfl, HN.out, hnc, hcm, H3.out.2.2.2.1, ?_⟩
  rw [tcells_snoc]
  refine H3.out.2.2.2.2.kp kW fun h => ?_
  rcases h with h | h
  ·rw [h] at H3; exact typ_at (blk_ne H3.out.2.2.2.2 H3.out.2.1)
  ·rw [h] at H3; exact typ_at (blk_ne H3.out.2.2.2.2 H3.out.2.2.1)
def markZ : List Value := [.int .i64 (-72), .string ⟨#[]⟩, .slice none 0 0, .int .i64 0, .int .i64 0, .string ⟨#[]⟩, .int .i64 0, .string ⟨#[]⟩]
structure RuleK (w0 w : World) (hs : List TermZ) (ls : List LitZ) (ha : Option Addr) (hn hcap : Nat) (ba : Option Addr) (n bcap : Nat) : Prop where
 head : TermsK w0 w ha hn hcap hs
 body : ∃ g rest vs, ba = some ⟨g, 0, none⟩ /\ n = ls.length /\ n + 1 ≤ bcap /\ bcap ≤ maxLen /\ w0.heap.size ≤ g /\ vs.length = ls.length /\ Blk w g ((ls.zip vs).flatMap litC ++ (markZ ++ rest)) 40 /\ ∀ x ∈ ls.zip vs, TermsK w0 w x.2.1 (termsOf x.1).length x.2.2 (termsOf x.1)
section
variable {w0 w w' : World} {F : Nat -> Prop} {hs : List TermZ} {ls : List LitZ} {ha : Option Addr} {hn hcap : Nat} {ba : Option Addr} {n bcap : Nat}
theorem RuleK.kp (h : RuleK w0 w hs ls ha hn hcap ba n bcap) (hk : Kp F w w') (hF : ∀ k cs, Blk w k cs 38 \/ Blk w k cs 40 -> ¬ F k) : RuleK w0 w' hs ls ha hn hcap ba n bcap := by
 obtain ⟨h1, g, rest, vs, e, a1, a2, a3, a4, a5, hB, hx⟩ := h
 exact ⟨h1.kp hk fun k cs hb => hF k cs (.inl hb), g, rest, vs, e, a1, a2, a3, a4, a5, hB.kp hk (hF g _ (.inr hB)), fun x hxx => (hx x hxx).kp hk fun k cs hb => hF k cs (.inl hb)⟩
theorem RuleK.ext (h : RuleK w0 w hs ls ha hn hcap ba n bcap) (hk : Ext w w') : RuleK w0 w' hs ls ha hn hcap ba n bcap := h.kp hk fun _ _ _ => id
theorem RuleK.lits (h : RuleK w0 w hs ls ha hn hcap ba n bcap) (hall : ∀ l ∈ ls, LitAll l) : LitsAt w (New w0) ba ls := by
 obtain ⟨_, g, rest, vs, rfl, a1, a2, a3, a4, a5, hB, hx⟩ := h
 refine lits_cells a5 hall (fun x hxx => ?_) a4 hB
 have hm := hx x hxx
 have hl : x.1 ∈ ls := (List.of_mem_zip (show (x.1, x.2) ∈ ls.zip vs from hxx)).1
 refine ⟨hm.at (hall _ hl).terms, ?_⟩
 obtain ⟨_, _, _, _, q1, q2, _, _⟩ := hm
 exact ⟨by omega, q2⟩
theorem RuleK.terms (h : RuleK w0 w hs ls ha hn hcap ba n bcap) (hf : ∀ t ∈ hs, TermFit t) : TermsAt w (New w0) ha hs := h.head.at hf
theorem RuleK.mark (h : RuleK w0 w hs ls ha hn hcap ba n bcap) : ∃ g, ba = some ⟨g, 0, none⟩ /\ w.cell? ⟨g, n * 8, none⟩ = some (.int .i64 (-72)) /\ n + 1 ≤ bcap /\ bcap ≤ maxLen /\ ∀ i l, ls[i]? = some l -> ∃ a2 c2, TermsK w0 w a2 (termsOf l).length c2 (termsOf l) /\ ∀ c u, (litC (l, (a2, c2)))[c]? = some u -> w.cell? ⟨g, i * 8 + c, none⟩ = some u := by
 obtain ⟨_, g, rest, vs, rfl, hn, hc, hm, _, hv, hB, hx⟩ := h
 have hz : (ls.zip vs).length = n := by rw [List.length_zip, hv, Nat.min_self, hn]
 have hfl : ((ls.zip vs).flatMap litC).length = n * 8 := by rw [flat_len litC 8 litC_len, hz]
 refine ⟨g, rfl, ?_, hc, hm, fun i l hi => ?_⟩
 ·rw [hB.cell', <- hfl, List.getElem?_append_right (Nat.le_refl _), Nat.sub_self]; rfl
 ·have hil := (List.getElem?_eq_some_iff.1 hi).1
  have hv2 : i < vs.length := by omega
  have hzi : (ls.zip vs)[i]? = some (l, vs[i]) := by rw [List.getElem?_zip_eq_some]; exact ⟨hi, List.getElem?_eq_getElem hv2⟩
  refine ⟨vs[i].1, vs[i].2, hx _ (List.mem_of_getElem? hzi), fun c u hu => ?_⟩
  have hc8 : c < 8 := (List.getElem?_eq_some_iff.1 hu).1
  have hg := flat_get litC 8 litC_len (ls.zip vs) i _ c hzi hc8
  rw [hB.cell', List.getElem?_append_left (by rw [hfl]; omega), hg]
  exact hu
end
def LentTo (ls : List LitZ) (hs : List TermZ) (p : ByteArray) (w0 wb : World) (g0 : Nat) (ha : Option Addr) (hn hcap : Nat) (ba : Option Addr) (bcap n : Nat) (bv iv : Value) (w : World) : Prop := ∃ i : Nat, i ≤ n /\ iv = .int .i64 i /\ Hid (Ext w0 w) /\ Hid (Blk w g0 [.string p, .slice ha hn hcap, .slice ba n bcap] 27 /\ Blk w (g0 + 1) [.string ⟨#[]⟩, .slice none 0 0, .slice none 0 0] 27 /\ TermsK w0 w ha hn hcap hs) /\ Hid (∃ vs, vs.length = i /\ Row w 40 8 bv i (((ls.take i).zip vs).flatMap litC) (New w0) /\ ∀ x ∈ (ls.take i).zip vs, TermsK w0 w x.2.1 (termsOf x.1).length x.2.2 (termsOf x.1))
set_option maxRecDepth 100000 in
set_option maxHeartbeats 8000000 in
theorem lent14_any (p : ByteArray) (hs : List TermZ) (ls : List LitZ) (ha : Option Addr) (hn hcap : Nat) (ba : Option Addr) (n bcap : Nat) (w : World) (G : Nat -> Prop) (hhn : hn = hs.length) (hh : TermsAt w G ha hs) (hhl : hn ≤ 1048576) (hbn : n = ls.length) (h : LitsAt w G ba ls) (hf : Fit ls) :
 Calls Tryz.prog 19 #[ruleV p ha hn hcap ba n bcap] w (RetN w fun w' v => ∃ ha' hcap' ba' bcap', v = ruleV p ha' hn hcap' ba' n bcap' /\ RuleK w w' hs ls ha' hn hcap' ba' n bcap') := by
 have HN := Lib.hid hbn; have HE := Lib.hid h; have HF := Lib.hid hf; have hl : n ≤ 1048576 := by have := hf.len; omega
 have HHd := Lib.hid (fun (W : World) (hW : Ext w W) => lentAtom_any p hs ha hn hcap W G hhn (hh.ext hW) hhl)
 obtain ⟨g0, eg0⟩ : ∃ g, w.heap.size = g := ⟨_, rfl⟩
 obtain ⟨w1, e1⟩ : ∃ x, (w.alloc (.cells #[.string p, .slice ha hn hcap, .slice ba n bcap] 27)).alloc (.cells #[.string ⟨#[]⟩, .slice none 0 0, .slice none 0 0] 27) = x := ⟨_, rfl⟩
 have hB1 : Blk w1 g0 [.string p, .slice ha hn hcap, .slice ba n bcap] 27 := by rw [<- e1, <- eg0]; exact (Blk.new w _ _).alloc _
 have hB2 : Blk w1 (g0 + 1) [.string ⟨#[]⟩, .slice none 0 0, .slice none 0 0] 27 := by
  have h := Blk.new (w.alloc (.cells #[.string p, .slice ha hn hcap, .slice ba n bcap] 27)) [.string ⟨#[]⟩, .slice none 0 0, .slice none 0 0] 27
  rw [alloc_size, eg0] at h
  rw [<- e1]; exact h
 have hx1 : Ext w w1 := by rw [<- e1]; exact ((Kp.refl w).alloc _).alloc _
 have r0 : w1.cell? ⟨g0, 0, none⟩ = some (.string p) := by rw [hB1.cell']; rfl
 have r1 : w1.cell? ⟨g0, 1, none⟩ = some (.slice ha hn hcap) := by rw [hB1.cell']; rfl
 have r2 : w1.cell? ⟨g0, 2, none⟩ = some (.slice ba n bcap) := by rw [hB1.cell']; rfl
 have H1 := Lib.hid (And.intro hx1 (And.intro hB1 (And.intro hB2 eg0)))
 clear hbn h hf hhn hh hB1 hB2 hx1
 go_enter Tryz.func19, Tryz.ntmps19
 go_wp2_with fail
 clear e1 eg0
 refine (HHd.out _ H1.out.1).mono ?_
 rintro e w2 ⟨v, rfl, hk2, ha', hcap', rfl, htm⟩
 have hB2a := H1.out.2.1.ext hk2
 have s0 : w2.cell? ⟨g0, 0, none⟩ = some (.string p) := by rw [hB2a.cell']; rfl
 have s1 : w2.cell? ⟨g0, 1, none⟩ = some (.slice ha hn hcap) := by rw [hB2a.cell']; rfl
 have sf0 := hB2a.free 0
 have sf1 := hB2a.free 1
 obtain ⟨w3, e3⟩ : ∃ x, (w2.setCell ⟨g0, 0, none⟩ (.string p)).setCell ⟨g0, 1, none⟩ (.slice ha' hn hcap') = x := ⟨_, rfl⟩
 have k23 : Kp (fun k => k = g0) w2 w3 := by rw [<- e3]; exact Kp.setCell (F := fun k => k = g0) (p := ⟨g0, 1, none⟩) (Kp.setCell (F := fun k => k = g0) (p := ⟨g0, 0, none⟩) (Kp.refl w2) (fun _ => rfl) _) (fun _ => rfl) _
 have hB3 : Blk w3 g0 [.string p, .slice ha' hn hcap', .slice ba n bcap] 27 := by rw [<- e3]; exact (hB2a.set 0 _).set 1 _
 have hB3b : Blk w3 (g0 + 1) [.string ⟨#[]⟩, .slice none 0 0, .slice none 0 0] 27 := (H1.out.2.2.1.ext hk2).kp k23 (by omega)
 have hx3 : Ext w w3 := (H1.out.1.trans hk2).trans' k23 fun i hi e => by have := H1.out.2.2.2; omega
 have htm3 : TermsK w w3 ha' hn hcap' hs := (htm.old H1.out.1.size).kp k23 fun k cs hb e => by rw [e] at hb; exact typ_tr (blk_ne hb hB2a)
 have H3 := Lib.hid (And.intro hx3 (And.intro hB3 (And.intro hB3b htm3)))
 clear hB2a k23 hB3 hB3b hx3 htm3 htm hk2 r0 r1 r2
 go_wp2
 try rw [e3]
 clear e3 s0 s1 sf0 sf1
 go_loopw [4, 5] (fun bv iv wr => LentTo ls hs p w w3 g0 ha' hn hcap' ba bcap n bv iv wr) (fun _ iv _ => n - (intOf iv).toNat)
 case atStart => exact ⟨0, Nat.zero_le _, rfl, Lib.hid H3.out.1, Lib.hid H3.out.2, Lib.hid ⟨[], rfl, Row.nil _ _ _ _, fun x hx => by simp at hx⟩⟩
 case round =>
  obtain ⟨i, hi, rfl, hex, hbk, hin⟩ := hrel
  obtain ⟨vs, hvs, hrow, hterms⟩ := hin.out
  obtain ⟨bo, bc, ebv, _, _⟩ := hrow.shape
  subst ebv
  by_cases hlt : i < n
  ·have hltl : i < ls.length := by rw [<- HN.out]; exact hlt
   obtain ⟨l, hli⟩ : ∃ l, ls[i]? = some l := ⟨_, List.getElem?_eq_getElem hltl⟩
   obtain ⟨b, off, a2, cap2, eao, hG, hb, hL, c0, c1, c2, c3, c4, c5, c6, c7⟩ := lit_at HE.out hli
   subst eao
   replace c0 := hex.out.cell c0 id
   replace c1 := hex.out.cell c1 id
   replace c2 := hex.out.cell c2 id
   replace c3 := hex.out.cell c3 id
   replace c4 := hex.out.cell c4 id
   replace c5 := hex.out.cell c5 id
   replace c6 := hex.out.cell c6 id
   replace c7 := hex.out.cell c7 id
   obtain ⟨mm, emm⟩ : ∃ mm, mm = (termsOf l).length := ⟨_, rfl⟩
   rw [<- emm] at c2
   have hmm : mm ≤ 1048576 := by rw [emm]; exact HF.out.terms l (List.mem_of_getElem? hli)
   obtain ⟨k, ek⟩ : ∃ k, k = l.1 := ⟨_, rfl⟩
   rw [<- ek] at c0
   clear hltl hG hb
   have HOL := Lib.hid (fun (W : World) (hW : Ext w W) => lentAtom_any (predOf l) (termsOf l) a2 mm cap2 W G emm (hL.terms.ext hW) hmm)
   have b2 : wr.cell? ⟨g0, 2, none⟩ = some (.slice (some ⟨b, off, none⟩) n bcap) := by rw [hbk.out.1.cell']; rfl
   obtain ⟨pl, epl⟩ : ∃ pl, predOf l = pl := ⟨_, rfl⟩
   rw [epl] at c1 HOL
   obtain ⟨s3, e3⟩ : ∃ s3, opOf l = s3 := ⟨_, rfl⟩
   rw [e3] at c3
   obtain ⟨s4, e4⟩ : ∃ s4, (leftOf l).1 = s4 := ⟨_, rfl⟩
   rw [e4] at c4
   obtain ⟨s5, e5⟩ : ∃ s5, (leftOf l).2.1 = s5 := ⟨_, rfl⟩
   rw [e5] at c5
   obtain ⟨s6, e6⟩ : ∃ s6, (rightOf l).1 = s6 := ⟨_, rfl⟩
   rw [e6] at c6
   obtain ⟨s7, e7⟩ : ∃ s7, (rightOf l).2.1 = s7 := ⟨_, rfl⟩
   rw [e7] at c7
   have HL := Lib.hid (And.intro hli (show ∀ a c, litC (l, (a, c)) = [.int .i64 k, .string pl, .slice a mm c, .int .i64 s3, .int .i64 s4, .string s5, .int .i64 s6, .string s7] from fun a c => by rw [ek, <- epl, emm, <- e3, <- e4, <- e5, <- e6, <- e7]; rfl))
   have EMM := Lib.hid emm
   obtain ⟨gt, egt⟩ : ∃ gt, wr.heap.size = gt := ⟨_, rfl⟩
   obtain ⟨wx, ewx⟩ : ∃ wx, wr.alloc (.cells #[.int .i64 k, .string pl, .slice a2 mm cap2, .int .i64 s3, .int .i64 s4, .string s5, .int .i64 s6, .string s7] 40) = wx := ⟨_, rfl⟩
   have hgt : Blk wx gt [.int .i64 k, .string pl, .slice a2 mm cap2, .int .i64 s3, .int .i64 s4, .string s5, .int .i64 s6, .string s7] 40 := by rw [<- ewx, <- egt]; exact Blk.new wr _ _
   have hxx : Ext wr wx := by rw [<- ewx]; exact (Kp.refl wr).alloc _
   have g1 : wx.cell? ⟨gt, 1, none⟩ = some (.string pl) := by rw [hgt.cell']; rfl
   have g2 : wx.cell? ⟨gt, 2, none⟩ = some (.slice a2 mm cap2) := by rw [hgt.cell']; rfl
   have HX := Lib.hid (And.intro hxx (And.intro hgt egt))
   have HIn := Lib.hid (And.intro hvs (And.intro hrow hterms))
   clear hli emm ek epl e3 e4 e5 e6 e7 hL hgt hxx hvs hrow hterms hin
   go_wp2_with fail
   clear ewx egt c0 c1 c2 c3 c4 c5 c6 c7 b2
   refine (HOL.out _ (hex.out.trans HX.out.1)).mono ?_
   rintro e w4 ⟨v, rfl, hk4, a3, c3, rfl, htm⟩
   have hg4 := HX.out.2.1.ext hk4
   have h1 : w4.cell? ⟨gt, 1, none⟩ = some (.string pl) := by rw [hg4.cell']; rfl
   have h2 : w4.cell? ⟨gt, 2, none⟩ = some (.slice a2 mm cap2) := by rw [hg4.cell']; rfl
   have h1f := hg4.free 1
   have h2f := hg4.free 2
   obtain ⟨w5, ew5⟩ : ∃ w5, (w4.setCell ⟨gt, 1, none⟩ (.string pl)).setCell ⟨gt, 2, none⟩ (.slice a3 mm c3) = w5 := ⟨_, rfl⟩
   have hg5 : Blk w5 gt [.int .i64 k, .string pl, .slice a3 mm c3, .int .i64 s3, .int .i64 s4, .string s5, .int .i64 s6, .string s7] 40 := by rw [<- ew5]; exact (hg4.set 1 _).set 2 _
   have hk45 : Kp (fun k => k = gt) w4 w5 := by rw [<- ew5]; exact Kp.setCell (F := fun k => k = gt) (p := ⟨gt, 2, none⟩) (Kp.setCell (F := fun k => k = gt) (p := ⟨gt, 1, none⟩) (Kp.refl w4) (fun _ => rfl) _) (fun _ => rfl) _
   have hx5 : Ext wr w5 := (HX.out.1.trans hk4).trans' hk45 fun j hj e => by have := HX.out.2.2; omega
   have hT5 : TermsK w w5 a3 mm c3 (termsOf l) := (htm.old (Nat.le_trans hex.out.size HX.out.1.size)).kp hk45 fun k cs hb e => by rw [e] at hb; exact typ_tl (blk_ne hb hg4)
   have q0 : w5.cell? ⟨gt, 0, none⟩ = some (.int .i64 k) := by rw [hg5.cell']; rfl
   have q1 : w5.cell? ⟨gt, 1, none⟩ = some (.string pl) := by rw [hg5.cell']; rfl
   have q2 : w5.cell? ⟨gt, 2, none⟩ = some (.slice a3 mm c3) := by rw [hg5.cell']; rfl
   have q3 : w5.cell? ⟨gt, 3, none⟩ = some (.int .i64 s3) := by rw [hg5.cell']; rfl
   have q4 : w5.cell? ⟨gt, 4, none⟩ = some (.int .i64 s4) := by rw [hg5.cell']; rfl
   have q5 : w5.cell? ⟨gt, 5, none⟩ = some (.string s5) := by rw [hg5.cell']; rfl
   have q6 : w5.cell? ⟨gt, 6, none⟩ = some (.int .i64 s6) := by rw [hg5.cell']; rfl
   have q7 : w5.cell? ⟨gt, 7, none⟩ = some (.string s7) := by rw [hg5.cell']; rfl
   have X5 := Lib.hid (And.intro hx5 hT5)
   have HR5 := Lib.hid (HIn.out.2.1.ext hx5)
   clear hk4 htm hg4 hg5 hx5 hk45 hT5 g1 g2
   go_wp2_with (first | (at_builtin; refine Halted.out ?_))
   clear ew5 h1 h2 h1f h2f
   refine Halted.mk (wp_appN (m := 1) (n := i) elem_lit rfl _ _ rfl ((hex.out.trans X5.out.1).alloc _) rfl (HR5.out.alloc _) rfl (CellsAt.new w5 [.int .i64 k, .string pl, .slice a3 mm c3, .int .i64 s3, .int .i64 s4, .string s5, .int .i64 s6, .string s7] 40) (by rfl) (by rw [<- HL.out.2]; exact litC_one _) (by omega) (by unfold maxLen; omega) ?_)
   intro v1 w6 hr1 hk1 hk2 _
   have hbl : ∀ g cs, Blk w5 g cs 27 -> Blk w6 g cs 27 := fun g cs hb => (hb.alloc _).kp hk2 fun e => by
    obtain ⟨cs', hb'⟩ := HR5.out.blkOf e
    exact typ_lrC (blk_ne hb' hb)
   have hT6 : ∀ {a : Option Addr} {m c : Nat} {ts : List TermZ}, TermsK w w5 a m c ts -> TermsK w w6 a m c ts := fun ht => (ht.ext ((Kp.refl w5).alloc _)).kp hk2 fun k cs hb e => by
    obtain ⟨cs', hb'⟩ := (HR5.out.alloc _).blkOf e
    exact typ_tl (blk_ne hb hb')
   have hlen : (ls.take i).length = vs.length := by rw [List.length_take, HIn.out.1]; have := HN.out; omega
   have et : ls.take (i + 1) = ls.take i ++ [l] := by rw [List.take_add_one, HL.out.1]; rfl
   have HFin := Lib.hid (show Ext w w6 /\ (Blk w6 g0 [.string p, .slice ha' hn hcap', .slice (some ⟨b, off, none⟩) n bcap] 27 /\ Blk w6 (g0 + 1) [.string ⟨#[]⟩, .slice none 0 0, .slice none 0 0] 27 /\ TermsK w w6 ha' hn hcap' hs) /\ ∃ vs, vs.length = i + 1 /\ Row w6 40 8 v1 (i + 1) (((ls.take (i + 1)).zip vs).flatMap litC) (New w) /\ ∀ x ∈ (ls.take (i + 1)).zip vs, TermsK w w6 x.2.1 (termsOf x.1).length x.2.2 (termsOf x.1) from by
    refine ⟨hk1, ⟨hbl _ _ (hbk.out.1.ext X5.out.1), hbl _ _ (hbk.out.2.1.ext X5.out.1), hT6 (hbk.out.2.2.ext X5.out.1)⟩, vs ++ [(a3, c3)], by rw [List.length_append, HIn.out.1]; rfl, ?_, ?_⟩
    ·rw [et, List.zip_append hlen, List.flatMap_append]
     have e2 : (([l].zip [(a3, c3)]).flatMap litC) = [.int .i64 k, .string pl, .slice a3 mm c3, .int .i64 s3, .int .i64 s4, .string s5, .int .i64 s6, .string s7] := by
      show litC (l, (a3, c3)) ++ [] = _
      rw [HL.out.2, List.append_nil]
     rw [e2]; exact hr1
    ·intro x hx
     rw [et, List.zip_append hlen, List.mem_append] at hx
     rcases hx with hx | hx
     ·exact hT6 ((HIn.out.2.2 x hx).ext X5.out.1)
     ·simp at hx; subst hx
      have h := hT6 X5.out.2
      rw [EMM.out] at h; exact h)
   obtain ⟨b6, c6, ev6, _, _⟩ := hr1.shape
   subst ev6
   clear hr1 hk1 hk2 hbl hT6 hlen et q0 q1 q2 q3 q4 q5 q6 q7
   go_wp2
   go_roundw
   case rel => exact ⟨i + 1, by omega, by first | rfl | (congr 1; done) | (congr 1; omega), Lib.hid HFin.out.1, Lib.hid HFin.out.2.1, Lib.hid HFin.out.2.2⟩
   case measure => simp [intOf]; omega
  ·obtain rfl : n = i := by omega
   have hall : ls.take n = ls := List.take_of_length_le (by have := HN.out; omega)
   rw [hall] at hrow hterms
   have HR5 := Lib.hid hrow
   have HTs := Lib.hid (And.intro hvs hterms)
   have HBk := hbk
   have HEx := hex
   clear hrow hterms hvs hall hin hbk
   go_wp2_with (first | (at_builtin; refine Halted.out ?_))
   refine Halted.mk (wp_appN (m := 1) (n := n) elem_lit rfl _ _ rfl (HEx.out.alloc _) rfl (HR5.out.alloc _) rfl (CellsAt.new wr [.int .i64 (-72), .string ⟨#[]⟩, .slice none 0 0, .int .i64 0, .int .i64 0, .string ⟨#[]⟩, .int .i64 0, .string ⟨#[]⟩] 40) (by rfl) (by intro u hu; simp at hu; rcases hu with rfl | rfl | rfl | rfl | rfl | rfl | rfl | rfl <;> rfl) (by omega) (by unfold maxLen; omega) ?_)
   intro v1 w6 hr1 hk1 hk2 _
   have hbl : ∀ g cs, Blk wr g cs 27 -> Blk w6 g cs 27 := fun g cs hb => (hb.alloc _).kp hk2 fun e => by
    obtain ⟨cs', hb'⟩ := HR5.out.blkOf e
    exact typ_lrC (blk_ne hb' hb)
   have hT6 : ∀ {a : Option Addr} {m c : Nat} {ts : List TermZ}, TermsK w wr a m c ts -> TermsK w w6 a m c ts := fun ht => (ht.ext ((Kp.refl wr).alloc _)).kp hk2 fun k cs hb e => by
    obtain ⟨cs', hb'⟩ := (HR5.out.alloc _).blkOf e
    exact typ_tl (blk_ne hb hb')
   obtain ⟨h1, ⟨rfl, h0⟩ | ⟨gb, cap2, rest, rfl, hM, hBB, hlen, hnc, hcm⟩⟩ := hr1
   ·omega
   ·have hB6 := hbl _ _ HBk.out.1
    have hB6b := hbl _ _ HBk.out.2.1
    have hcm2 : cap2 ≤ 9223372036854775807 := hcm
    have i1 : (n : Int) ≤ (cap2 : Int) := by omega
    have q0 : w6.cell? ⟨g0, 0, none⟩ = some (.string p) := by rw [hB6.cell']; rfl
    have q1 : w6.cell? ⟨g0, 1, none⟩ = some (.slice ha' hn hcap') := by rw [hB6.cell']; rfl
    have q2 : w6.cell? ⟨g0, 2, none⟩ = some (.slice ba n bcap) := by rw [hB6.cell']; rfl
    have p0 : w6.cell? ⟨g0 + 1, 0, none⟩ = some (.string ⟨#[]⟩) := by rw [hB6b.cell']; rfl
    have p1 : w6.cell? ⟨g0 + 1, 1, none⟩ = some (.slice none 0 0) := by rw [hB6b.cell']; rfl
    have p2 : w6.cell? ⟨g0 + 1, 2, none⟩ = some (.slice none 0 0) := by rw [hB6b.cell']; rfl
    have f2 := hB6.free 2
    have f3 := hB6b.free 0
    have f4 := hB6b.free 1
    have f5 := hB6b.free 2
    have H6 := Lib.hid (show Ext w w6 /\ Blk w6 g0 [.string p, .slice ha' hn hcap', .slice ba n bcap] 27 /\ Blk w6 (g0 + 1) [.string ⟨#[]⟩, .slice none 0 0, .slice none 0 0] 27 /\ TermsK w w6 ha' hn hcap' hs /\ Blk w6 gb ((ls.zip vs).flatMap litC ++ (markZ ++ rest)) 40 /\ (∀ x ∈ ls.zip vs, TermsK w w6 x.2.1 (termsOf x.1).length x.2.2 (termsOf x.1)) /\ New w gb from
     ⟨hk1, hB6, hB6b, hT6 HBk.out.2.2, by rw [<- List.append_assoc]; exact hBB, fun x hx => hT6 (HTs.out.2 x hx), hM⟩)
    clear h1 hk1 hk2 hbl hT6 hB6 hB6b hM hBB hlen
    go_wp2
    obtain ⟨W, eW⟩ : ∃ x, ((((w6.setCell ⟨g0, 2, none⟩ (.slice (some ⟨gb, 0, none⟩) n cap2)).setCell ⟨g0 + 1, 0, none⟩ (.string p)).setCell ⟨g0 + 1, 1, none⟩ (.slice ha' hn hcap')).setCell ⟨g0 + 1, 2, none⟩ (.slice (some ⟨gb, 0, none⟩) n cap2)) = x := ⟨_, rfl⟩
    have n1 : g0 ≠ g0 + 1 := by omega
    have hBW : Blk W (g0 + 1) [.string p, .slice ha' hn hcap', .slice (some ⟨gb, 0, none⟩) n cap2] 27 := by
     rw [<- eW]; exact (((H6.out.2.2.1.other (p := ⟨g0, 2, none⟩) (fun e => n1 e.symm) _).set 0 _).set 1 _).set 2 _
    have kW : Kp (fun k => k = g0 \/ k = g0 + 1) w6 W := by
     rw [<- eW]
     exact Kp.setCell (F := fun k => k = g0 \/ k = g0 + 1) (p := ⟨g0 + 1, 2, none⟩) (Kp.setCell (F := fun k => k = g0 \/ k = g0 + 1) (p := ⟨g0 + 1, 1, none⟩) (Kp.setCell (F := fun k => k = g0 \/ k = g0 + 1) (p := ⟨g0 + 1, 0, none⟩) (Kp.setCell (F := fun k => k = g0 \/ k = g0 + 1) (p := ⟨g0, 2, none⟩) (Kp.refl w6) (fun _ => .inl rfl) _) (fun _ => .inr rfl) _) (fun _ => .inr rfl) _) (fun _ => .inr rfl) _
    have d0 : W.cell? ⟨g0 + 1, 0, none⟩ = some (.string p) := by rw [hBW.cell']; rfl
    have d1 : W.cell? ⟨g0 + 1, 1, none⟩ = some (.slice ha' hn hcap') := by rw [hBW.cell']; rfl
    have d2 : W.cell? ⟨g0 + 1, 2, none⟩ = some (.slice (some ⟨gb, 0, none⟩) n cap2) := by rw [hBW.cell']; rfl
    rw [eW]
    have noT : ∀ k cs, Blk w6 k cs 38 -> ¬ (k = g0 \/ k = g0 + 1) := fun k cs hb h => by
     rcases h with h | h
     ·rw [h] at hb; exact typ_tr (blk_ne hb H6.out.2.1)
     ·rw [h] at hb; exact typ_tr (blk_ne hb H6.out.2.2.1)
    have noL : ¬ (gb = g0 \/ gb = g0 + 1) := fun h => by
     rcases h with h | h
     ·have hb := H6.out.2.2.2.2.1; rw [h] at hb; exact typ_lrC (blk_ne hb H6.out.2.1)
     ·have hb := H6.out.2.2.2.2.1; rw [h] at hb; exact typ_lrC (blk_ne hb H6.out.2.2.1)
    refine bodyPost_ret (v := ruleV p ha' hn hcap' (some ⟨gb, 0, none⟩) n cap2) (by simp [results, Tryz.results19, go_sem, d0, d1, d2]) rfl ?_
    exact RetN.mk (H6.out.1.trans' kW fun i hi h => by have := H1.out.2.2.2; omega) ⟨_, _, _, _, rfl, H6.out.2.2.2.1.kp kW noT, gb, rest, vs, rfl, HN.out, hnc, hcm, H6.out.2.2.2.2.2.2, by rw [HTs.out.1, HN.out], H6.out.2.2.2.2.1.kp kW noL, fun x hx => (H6.out.2.2.2.2.2.1 x hx).kp kW noT⟩
end Go.Proofs.YtinnmeiphbdogaaGreat

/- tuple.Rows: Same; Union, Minus, Meet; NewRows of a bad arity. -/
namespace Go.Proofs.YtinnmeiphbdogaaGreat
open Go.RowKit Go.Shelf
set_option linter.unusedVariables false
section
variable {z z1 z2 : Prop} {S : Nat -> Prop} {w w' : World} {b b1 b2 : Nat} {iv iv1 iv2 : Value} {arity a1 a2 : Nat} {LL L1 L2 : List (List ByteArray)}
theorem newRows_bad (a : Int) (w : World) (ha : a < 0 \/ 64 < a) : Calls Tryz.prog 85 #[.int .i64 a] w (Ret (.tuple #[.pointer none, .int .i64 2]) w) := by
 by_cases h0 : a < 0
 ·have t1 : decide (a < 0) = true := by simp [h0]
  go_enter Tryz.func85, Tryz.ntmps85
  go_wp2
  go_ret2
  exact Ret.mk rfl
 ·have h1 : 64 < a := by omega
  have t1 : decide (a < 0) = false := by simp; omega
  have t2 : decide (a > 64) = true := by simp; omega
  have t3 : decide (64 < a) = true := by simp; omega
  go_enter Tryz.func85, Tryz.ntmps85
  go_wp2
  go_ret2
  exact Ret.mk rfl
end
end Go.Proofs.YtinnmeiphbdogaaGreat

/- tuple.Base: Add, at every base. -/
namespace Go.Proofs.YtinnmeiphbdogaaGreat
open Go.RowKit
set_option linter.unusedVariables false
theorem addR_name {C : List CntZ} {s : ByteArray} (row : List ByteArray) (h : namedC s = false) : addR C s row = (false, 32) := if_pos h
theorem addR_long {C : List CntZ} {s : ByteArray} {row : List ByteArray} (h : namedC s = true) (hg : getC C s = none) (hl : 64 < row.length) : addR C s row = (false, 30) := by
 unfold addR
 rw [if_neg (by rw [h]; simp), if_pos (by unfold arOk; rw [hg]; exact decide_eq_false (by omega))]
theorem addR_arity {C : List CntZ} {s : ByteArray} {row : List ByteArray} {v : Nat × Rows2} (h : namedC s = true) (hg : getC C s = some v) (hl : v.1 ≠ row.length) : addR C s row = (false, 30) := by
 unfold addR
 rw [if_neg (by rw [h]; simp), if_pos (by unfold arOk; rw [hg]; exact decide_eq_false hl)]
theorem addR_text {C : List CntZ} {s : ByteArray} {row : List ByteArray} (h : namedC s = true) (hg : arOk C s row = true) (ht : textsC row = false) : addR C s row = (false, 31) := by
 unfold addR
 rw [if_neg (by rw [h]; simp), if_neg (by rw [hg]; simp), if_pos ht]
theorem addR_many {C : List CntZ} {s : ByteArray} {row : List ByteArray} (h : namedC s = true) (hg : arOk C s row = true) (ht : textsC row = true) (hm : 262144 ≤ totalC C) (hi : isIn cmpRow (rowsC C s) row = false) : addR C s row = (false, 4) := by
 unfold addR
 rw [if_neg (by rw [h]; simp), if_neg (by rw [hg]; simp), if_neg (by rw [ht]; simp), if_pos ⟨hm, hi⟩]
theorem addR_rest {C : List CntZ} {s : ByteArray} {row : List ByteArray} (h : namedC s = true) (hg : arOk C s row = true) (ht : textsC row = true) (hm : ¬ (262144 ≤ totalC C /\ isIn cmpRow (rowsC C s) row = false)) :
 addR C s row = if 65536 ≤ (rowsC C s).length /\ isIn cmpRow (rowsC C s) row = false then (false, 4) else (!isIn cmpRow (rowsC C s) row, 0) := by
 unfold addR
 rw [if_neg (by rw [h]; simp), if_neg (by rw [hg]; simp), if_neg (by rw [ht]; simp), if_neg hm]
theorem ar_some {C : List CntZ} {s : ByteArray} {row : List ByteArray} {v : Nat × Rows2} (hg : getC C s = some v) (h : v.1 = row.length) : arOk C s row = true := by unfold arOk; rw [hg]; exact decide_eq_true h
theorem ar_none {C : List CntZ} {s : ByteArray} {row : List ByteArray} (hg : getC C s = none) (h : row.length ≤ 64) : arOk C s row = true := by unfold arOk; rw [hg]; exact decide_eq_true h
theorem addC_not {C : List CntZ} {s : ByteArray} {row : List ByteArray} (h : (addR C s row).2 ≠ 0) : addC C s row = C := if_neg h
section
variable {S S' : Nat -> Prop} {w w1 w2 w3 w4 : World} {bb r : Nat} {E : List Ent} {s : ByteArray} {ss : List ByteArray} {e : Ent} {iv' : Value}
def BaseAdded (S : Nat -> Prop) (w : World) (bb r : Nat) (E : List Ent) (s : ByteArray) (ss : List ByteArray) (w' : World) (v : Value) : Prop :=
 v = .tuple #[.bool (addR (cntE E) s ss).1, .int .i64 ((addR (cntE E) s ss).2 : Nat)] /\ ∃ S' E', (∀ k, S k -> S' k) /\ (∀ k, S' k -> S k \/ w.heap.size ≤ k) /\ BaseAt S' w' bb r E' /\ cntE E' = addC (cntE E) s ss /\ ∀ k, OwnB bb r E' k -> OwnB bb r E k \/ w.heap.size ≤ k
theorem BaseAdded.same (h : BaseAt S w bb r E) (hk : Ext w w1) {n : Nat} (hR : addR (cntE E) s ss = (false, n)) (hn : n ≠ 0) {v : Value} (hv : v = .tuple #[.bool false, .int .i64 (n : Nat)]) : BaseAdded S w bb r E s ss w1 v :=
 ⟨by rw [hv, hR], S, E, fun _ h => h, fun _ h => .inl h, h.ext hk, (addC_not (by rw [hR]; exact hn)).symm, fun _ h => .inl h⟩
theorem own_turn {pre post : List Ent} (hiv : ∀ k, iv'.ownBlock = some k -> e.iv.ownBlock = some k \/ w.heap.size ≤ k) (LL' : List (List ByteArray)) : ∀ k, OwnB bb r (pre ++ { e with iv := iv', LL := LL' } :: post) k -> OwnB bb r (pre ++ e :: post) k \/ w.heap.size ≤ k := by
 rintro k (h | h | ⟨f, hf, ho⟩)
 ·exact .inl (.inl h)
 ·exact .inl (.inr (.inl h))
 ·rcases List.mem_append.1 hf with hf | hf
  ·exact .inl (.inr (.inr ⟨f, List.mem_append_left _ hf, ho⟩))
  ·rcases List.mem_cons.1 hf with rfl | hf
   ·rcases ho with ho | ho
    ·exact .inl (.inr (.inr ⟨e, List.mem_append_right _ List.mem_cons_self, .inl ho⟩))
    ·rcases hiv k ho with h2 | h2
     ·exact .inl (.inr (.inr ⟨e, List.mem_append_right _ List.mem_cons_self, .inr h2⟩))
     ·exact .inr h2
   ·exact .inl (.inr (.inr ⟨f, List.mem_append_right _ (List.mem_cons_of_mem _ hf), ho⟩))
theorem baseMap_own (h : BaseAt S w bb r E) (he : findE E s = some e) (hx : Ext w w2) (hk : Kp e.own w2 w3) : MapIs w3 r (entM E) := (h.map.ext hx).kp hk fun ho => (h.off e (findE_some he).1 r ho).2 rfl
theorem baseBlk_own (h : BaseAt S w bb r E) (he : findE E s = some e) (hx : Ext w w2) (hk : Kp e.own w2 w3) : Blk w3 bb [.map (some r), .int .i64 (totalC (cntE E) : Nat)] 129 := (h.blk.ext hx).kp hk fun ho => (h.off e (findE_some he).1 bb ho).1 rfl
theorem baseAdd_full {LL : List (List ByteArray)} (h : BaseAt S w bb r E) (he : findE E s = some e) (hf : namedC s = true /\ e.ar = ss.length /\ textsC ss = true /\ e.LL = LL /\ ¬ (262144 ≤ totalC (cntE E) /\ isIn cmpRow LL ss = false)) (hx : Ext w w2) (hk : Kp e.own w2 w3) (hss : ∀ k, S k -> S' k) (hsn : ∀ k, S' k -> S k \/ w2.heap.size ≤ k)
 (hr : RowsAt S' w3 e.b iv' e.ar (rowsAddL e.ar LL ss)) (hiv : ∀ k, iv'.ownBlock = some k -> e.iv.ownBlock = some k \/ w2.heap.size ≤ k) (h0 : rowsAddR e.ar LL ss = if 65536 ≤ LL.length /\ isIn cmpRow LL ss = false then (false, 4) else (!isIn cmpRow LL ss, 0)) (h4 : 65536 ≤ LL.length /\ isIn cmpRow LL ss = false) :
 RetF (OwnB bb r E) w (BaseAdded S w bb r E s ss) (.returned (.tuple #[.bool false, .int .i64 4])) w3 := by
 obtain ⟨f1, f2, f3, f4, f5⟩ := hf
 obtain ⟨g1, g2⟩ := findE_rows he
 have hL : rowsAddL e.ar LL ss = LL := by unfold rowsAddL; rw [h0, if_pos h4]; rfl
 rw [hL] at hr
 have hR : addR (cntE E) s ss = (false, 4) := by
  rw [addR_rest f1 (ar_some g1 f2) f3 (by rw [g2, f4]; exact f5), g2, f4, if_pos h4]
 have hC : addC (cntE E) s ss = cntE E := addC_not (by rw [hR]; decide)
 obtain ⟨pre, post, rfl⟩ := findE_split he
 have hem : e ∈ pre ++ e :: post := List.mem_append_right _ List.mem_cons_self
 have hkw : Kp e.own w w3 := (Ext.kp hx).trans hk
 have hz := hx.size
 have hs2 : ∀ k, S' k -> S k \/ w.heap.size ≤ k := fun k hk' => (hsn k hk').imp id fun q => Nat.le_trans hz q
 have hiv2 : ∀ k, iv'.ownBlock = some k -> e.iv.ownBlock = some k \/ w.heap.size ≤ k := fun k hk' => (hiv k hk').imp id fun q => Nat.le_trans hz q
 have hsame : cntE (pre ++ { e with iv := iv', LL := LL } :: post) = cntE (pre ++ e :: post) := by
  rw [<- f4]; simp [cntE, Ent.cnt]
 refine RetF.mk (hkw.mono fun k _ ho => .inr (.inr ⟨e, hem, ho⟩)) ⟨by rw [hR]; rfl, S', pre ++ { e with iv := iv', LL := LL } :: post, hss, hs2, ?_, by rw [hC, hsame], own_turn hiv2 LL⟩
 exact h.turn hkw hss hs2 hr hiv2 (Kp.refl _) (baseMap_own h he hx hk) (baseBlk_own h he hx hk) (by rw [hsame]) (by rw [hsame]; exact h.ok)
theorem baseAdd_had {LL : List (List ByteArray)} (h : BaseAt S w bb r E) (he : findE E s = some e) (hf : namedC s = true /\ e.ar = ss.length /\ textsC ss = true /\ e.LL = LL /\ ¬ (262144 ≤ totalC (cntE E) /\ isIn cmpRow LL ss = false)) (hx : Ext w w2) (hk : Kp e.own w2 w3) (hss : ∀ k, S k -> S' k) (hsn : ∀ k, S' k -> S k \/ w2.heap.size ≤ k)
 (hr : RowsAt S' w3 e.b iv' e.ar (rowsAddL e.ar LL ss)) (hiv : ∀ k, iv'.ownBlock = some k -> e.iv.ownBlock = some k \/ w2.heap.size ≤ k) (h0 : rowsAddR e.ar LL ss = if 65536 ≤ LL.length /\ isIn cmpRow LL ss = false then (false, 4) else (!isIn cmpRow LL ss, 0)) (hi : isIn cmpRow LL ss = true)
 (hk4 : Kp (fun k => k = r) w3 w4) (hm4 : MapIs w4 r (putM (entM E) s (.pointer (some ⟨e.b, 0, none⟩)))) : RetF (OwnB bb r E) w (BaseAdded S w bb r E s ss) (.returned (.tuple #[.bool false, .int .i64 0])) w4 := by
 obtain ⟨f1, f2, f3, f4, f5⟩ := hf
 obtain ⟨g1, g2⟩ := findE_rows he
 have hn4 : ¬ (65536 ≤ LL.length /\ isIn cmpRow LL ss = false) := fun k => by rw [hi] at k; cases k.2
 have hadd : addS cmpRow LL ss = LL := by unfold addS; rw [if_pos hi]
 have hL : rowsAddL e.ar LL ss = LL := by unfold rowsAddL; rw [h0, if_neg hn4]; exact hadd
 rw [hL] at hr
 have hR : addR (cntE E) s ss = (false, 0) := by
  rw [addR_rest f1 (ar_some g1 f2) f3 (by rw [g2, f4]; exact f5), g2, f4, if_neg hn4, hi]; rfl
 have hnd := h.ok.nodup
 rw [show putM (entM E) s (.pointer (some ⟨e.b, 0, none⟩)) = entM E from entM_put he (by rw [entM_names]; exact hnd)] at hm4
 obtain ⟨pre, post, rfl⟩ := findE_split he
 have hem : e ∈ pre ++ e :: post := List.mem_append_right _ List.mem_cons_self
 have hkw : Kp e.own w w3 := (Ext.kp hx).trans hk
 have hz := hx.size
 have hs2 : ∀ k, S' k -> S k \/ w.heap.size ≤ k := fun k hk' => (hsn k hk').imp id fun q => Nat.le_trans hz q
 have hiv2 : ∀ k, iv'.ownBlock = some k -> e.iv.ownBlock = some k \/ w.heap.size ≤ k := fun k hk' => (hiv k hk').imp id fun q => Nat.le_trans hz q
 have hsame : cntE (pre ++ { e with iv := iv', LL := LL } :: post) = cntE (pre ++ e :: post) := by
  rw [<- f4]; simp [cntE, Ent.cnt]
 have hC : addC (cntE (pre ++ e :: post)) s ss = cntE (pre ++ { e with iv := iv', LL := LL } :: post) := by
  unfold addC
  rw [if_pos (by rw [hR]), g2, f4, hadd, <- f2]
  exact cntE_set he hnd iv' LL
 refine RetF.mk ((hkw.mono fun k _ ho => .inr (.inr ⟨e, hem, ho⟩)).trans (hk4.mono fun k _ ho => .inr (.inl ho))) ⟨by rw [hR]; rfl, S', pre ++ { e with iv := iv', LL := LL } :: post, hss, hs2, ?_, hC.symm, own_turn hiv2 LL⟩
 exact h.turn hkw hss hs2 hr hiv2 (hk4.mono fun k _ ho => .inr ho) hm4 ((baseBlk_own h he hx hk).kp hk4 h.ne) (by rw [hsame]) (by rw [hsame]; exact h.ok)
theorem baseAdd_got {LL : List (List ByteArray)} {n : Nat} (h : BaseAt S w bb r E) (he : findE E s = some e) (hf : namedC s = true /\ e.ar = ss.length /\ textsC ss = true /\ e.LL = LL /\ ¬ (262144 ≤ totalC (cntE E) /\ isIn cmpRow LL ss = false)) (hx : Ext w w2) (hk : Kp e.own w2 w3) (hss : ∀ k, S k -> S' k) (hsn : ∀ k, S' k -> S k \/ w2.heap.size ≤ k)
 (hr : RowsAt S' w3 e.b iv' e.ar (rowsAddL e.ar LL ss)) (hiv : ∀ k, iv'.ownBlock = some k -> e.iv.ownBlock = some k \/ w2.heap.size ≤ k) (h0 : rowsAddR e.ar LL ss = if 65536 ≤ LL.length /\ isIn cmpRow LL ss = false then (false, 4) else (!isIn cmpRow LL ss, 0)) (hi : isIn cmpRow LL ss = false) (hn4 : ¬ (65536 ≤ LL.length /\ isIn cmpRow LL ss = false))
 (hk4 : Kp (fun k => k = r) w3 w4) (hm4 : MapIs w4 r (putM (entM E) s (.pointer (some ⟨e.b, 0, none⟩)))) (en : totalC (cntE E) = n) : RetF (OwnB bb r E) w (BaseAdded S w bb r E s ss) (.returned (.tuple #[.bool true, .int .i64 0])) (w4.setCell ⟨bb, 1, none⟩ (.int .i64 ((n : Int) + 1))) := by
 obtain ⟨f1, f2, f3, f4, f5⟩ := hf
 obtain ⟨g1, g2⟩ := findE_rows he
 have hL : rowsAddL e.ar LL ss = addS cmpRow LL ss := by unfold rowsAddL; rw [h0, if_neg hn4]; rfl
 rw [hL] at hr
 have hR : addR (cntE E) s ss = (true, 0) := by
  rw [addR_rest f1 (ar_some g1 f2) f3 (by rw [g2, f4]; exact f5), g2, f4, if_neg hn4, hi]; rfl
 have hnd := h.ok.nodup
 rw [show putM (entM E) s (.pointer (some ⟨e.b, 0, none⟩)) = entM E from entM_put he (by rw [entM_names]; exact hnd)] at hm4
 obtain ⟨pre, post, rfl⟩ := findE_split he
 have hem : e ∈ pre ++ e :: post := List.mem_append_right _ List.mem_cons_self
 have hkw : Kp e.own w w3 := (Ext.kp hx).trans hk
 have hz := hx.size
 have hs2 : ∀ k, S' k -> S k \/ w.heap.size ≤ k := fun k hk' => (hsn k hk').imp id fun q => Nat.le_trans hz q
 have hiv2 : ∀ k, iv'.ownBlock = some k -> e.iv.ownBlock = some k \/ w.heap.size ≤ k := fun k hk' => (hiv k hk').imp id fun q => Nat.le_trans hz q
 have hset := cntE_set he hnd iv' (addS cmpRow LL ss)
 have hC : addC (cntE (pre ++ e :: post)) s ss = cntE (pre ++ { e with iv := iv', LL := addS cmpRow LL ss } :: post) := by
  unfold addC
  rw [if_pos (by rw [hR]), g2, f4, <- f2]
  exact hset
 have htot : n + 1 = totalC (cntE (pre ++ { e with iv := iv', LL := addS cmpRow LL ss } :: post)) := by
  have h1 := total_set hnd (s := s) (v := (e.ar, addS cmpRow LL ss))
  rw [hset, g2, f4] at h1
  have h2 := addS_len (c := cmpRow) LL ss
  rw [hi] at h2
  simp only [Bool.false_eq_true, if_false] at h2
  have h3 : (e.ar, addS cmpRow LL ss).2.length = LL.length + 1 := h2
  omega
 have kf : Kp (fun k => k = bb \/ k = r) w3 (w4.setCell ⟨bb, 1, none⟩ (.int .i64 ((n : Int) + 1))) := (hk4.mono fun k _ ho => .inr ho).trans (Kp.setCell (F := fun k => k = bb \/ k = r) (Kp.refl w4) (fun _ => .inl rfl) _)
 have hb5 : Blk (w4.setCell ⟨bb, 1, none⟩ (.int .i64 ((n : Int) + 1))) bb [.map (some r), .int .i64 ((n + 1 : Nat) : Int)] 129 := by
  have h1 := ((baseBlk_own h he hx hk).kp hk4 h.ne).set 1 (.int .i64 ((n : Int) + 1))
  exact h1
 have hm5 := hm4.kp (Kp.setCell (F := fun k => k = bb) (Kp.refl w4) (p := ⟨bb, 1, none⟩) (fun _ => rfl) (.int .i64 ((n : Int) + 1))) (fun e2 => h.ne e2.symm)
 refine RetF.mk ((hkw.mono fun k _ ho => .inr (.inr ⟨e, hem, ho⟩)).trans (kf.mono fun k _ ho => ho.elim .inl fun h => .inr (.inl h))) ⟨by rw [hR]; rfl, S', pre ++ { e with iv := iv', LL := addS cmpRow LL ss } :: post, hss, hs2, ?_, hC.symm, own_turn hiv2 _⟩
 exact h.turn hkw hss hs2 hr hiv2 kf hm5 hb5 htot (by rw [<- hC]; exact ok_add h.ok s ss)
theorem baseAdd_new {n : Nat} {b : Nat} (h : BaseAt S w bb r E) (he : findE E s = none) (hf : namedC s = true /\ ss.length ≤ 64 /\ textsC ss = true /\ ¬ 262144 ≤ totalC (cntE E)) (hx : Ext w w3) (hss : ∀ k, S k -> S' k) (hsn : ∀ k, S' k -> S k \/ w.heap.size ≤ k)
 (hr : RowsAt S' w3 b iv' ss.length [ss]) (hb : w.heap.size ≤ b) (hiv : ∀ k, iv'.ownBlock = some k -> w.heap.size ≤ k)
 (hk4 : Kp (fun k => k = r) w3 w4) (hm4 : MapIs w4 r (putM (entM E) s (.pointer (some ⟨b, 0, none⟩)))) (en : totalC (cntE E) = n) : RetF (OwnB bb r E) w (BaseAdded S w bb r E s ss) (.returned (.tuple #[.bool true, .int .i64 0])) (w4.setCell ⟨bb, 1, none⟩ (.int .i64 ((n : Int) + 1))) := by
 obtain ⟨f1, f2, f3, f4⟩ := hf
 obtain ⟨g1, g2⟩ := findE_none he
 have hR : addR (cntE E) s ss = (true, 0) := by
  rw [addR_rest f1 (ar_none g1 f2) f3 (fun k => f4 k.1), g2, if_neg (by simp)]; rfl
 have hone : addS cmpRow [] ss = [ss] := by simp [addS, isIn, below]
 have hpush := cntE_push he b iv' ss.length [ss]
 have hC : addC (cntE E) s ss = cntE (E ++ [{ name := s, b := b, iv := iv', ar := ss.length, LL := [ss] }]) := by
  unfold addC
  rw [if_pos (by rw [hR]), g2, hone]
  exact hpush
 have htot : n + 1 = totalC (cntE (E ++ [{ name := s, b := b, iv := iv', ar := ss.length, LL := [ss] }])) := by
  rw [<- en]
  simp [totalC, cntE, Ent.cnt]
 rw [entM_push he b iv' ss.length [ss]] at hm4
 have kf : Kp (fun k => k = bb \/ k = r) w3 (w4.setCell ⟨bb, 1, none⟩ (.int .i64 ((n : Int) + 1))) := (hk4.mono fun k _ ho => .inr ho).trans (Kp.setCell (F := fun k => k = bb \/ k = r) (Kp.refl w4) (fun _ => .inl rfl) _)
 have hb5 : Blk (w4.setCell ⟨bb, 1, none⟩ (.int .i64 ((n : Int) + 1))) bb [.map (some r), .int .i64 ((n + 1 : Nat) : Int)] 129 := ((h.blk.ext hx).kp hk4 h.ne).set 1 (.int .i64 ((n : Int) + 1))
 have hm5 := hm4.kp (Kp.setCell (F := fun k => k = bb) (Kp.refl w4) (p := ⟨bb, 1, none⟩) (fun _ => rfl) (.int .i64 ((n : Int) + 1))) (fun e2 => h.ne e2.symm)
 have ho : ∀ k, Owns b iv' k -> w.heap.size ≤ k := fun k ho => by
  rcases ho with rfl | ho
  ·exact hb
  ·exact hiv k ho
 refine RetF.mk ((Ext.kp hx).trans (kf.mono fun k _ ho => ho.elim .inl fun h => .inr (.inl h))) ⟨by rw [hR]; rfl, S', E ++ [{ name := s, b := b, iv := iv', ar := ss.length, LL := [ss] }], hss, hsn, ?_, hC.symm, ?_⟩
 ·exact h.push (e := { name := s, b := b, iv := iv', ar := ss.length, LL := [ss] }) hx hss hsn hr ho kf hb5 hm5 htot (by rw [<- hC]; exact ok_add h.ok s ss)
 ·rintro k (h1 | h1 | ⟨f, hf, ho2⟩)
  ·exact .inl (.inl h1)
  ·exact .inl (.inr (.inl h1))
  ·rcases List.mem_append.1 hf with hf | hf
   ·exact .inl (.inr (.inr ⟨f, hf, ho2⟩))
   ·obtain rfl := List.mem_singleton.1 hf
    exact .inr (ho k ho2)
end
end Go.Proofs.YtinnmeiphbdogaaGreat

/- tuple.Base: Add, walked. -/
namespace Go.Proofs.YtinnmeiphbdogaaGreat
open Go.RowKit
set_option linter.unusedVariables false
set_option maxRecDepth 100000 in
set_option maxHeartbeats 4000000 in
theorem baseAdd_any {S : Nat -> Prop} {w : World} {bb r : Nat} {E : List Ent} (h : BaseAt S w bb r E) (s : ByteArray) {ao : Option Addr} {k cap : Nat} {ss : List ByteArray} (hx : RowIn w (ao, k, cap) ss) (ho : RowOff (ao, k, cap) (OwnB bb r E)) :
 Calls Tryz.prog 42 #[.pointer (some ⟨bb, 0, none⟩), .string s, .slice ao k cap] w (RetF (OwnB bb r E) w (BaseAdded S w bb r E s ss)) := by
 have hkn : k = ss.length := hx.1.1
 have hcs : CellsAt w ao (strs ss) := hx.1.2
 have hkl : k ≤ 8796093021952 := by rw [hkn]; exact hx.2.1
 have c0 : w.cell? ⟨bb, 0, none⟩ = some (.map (some r)) := by rw [h.blk.cell']; rfl
 have hlk := run_lookup_str (P := Tryz.prog) Tryz.underlying127 Tryz.underlying9 (z := .pointer none) (by kernel_rfl) h.map s
 rw [entM_get] at hlk
 have hnm := named_any s w
 rw [show decide (1 ≤ s.size /\ s.size ≤ 4096) = namedC s from rfl] at hnm
 have HN := Lib.hid hnm; clear hnm
 have HT := Lib.hid (fun w1 (hw : Ext w w1) => texts_any ss ao k cap w1 hkn (hcs.ext hw) (by omega))
 obtain ⟨n, en⟩ : ∃ n, totalC (cntE E) = n := ⟨_, rfl⟩
 have EN := Lib.hid en
 have hnl : n ≤ 262144 := by rw [<- en]; exact h.ok.few
 have c1 : w.cell? ⟨bb, 1, none⟩ = some (.int .i64 n) := by rw [h.blk.cell', en]; rfl
 have HC1 := Lib.hid (fun w1 (hw : Ext w w1) => (hw.cell c1 id : w1.cell? ⟨bb, 1, none⟩ = some (.int .i64 n)))
 have H := Lib.hid h
 have HX := Lib.hid (And.intro hx ho)
 have HKN := Lib.hid hkn
 clear h hx ho hcs hkn en c1
 cases hn : namedC s with
 | false =>
  rw [hn] at HN
  have HNM := Lib.hid hn
  clear hn hlk c0
  go_enter Tryz.func42, Tryz.ntmps42
  go_wp2_with fail
  refine HN.out.mono ?_
  rintro e w' ⟨rfl, rfl⟩
  go_wp2
  go_ret2
  exact RetF.mk (Kp.refl _) (BaseAdded.same H.out (Kp.refl _) (addR_name ss HNM.out) (by decide) rfl)
 | true =>
  rw [hn] at HN
  have HNM := Lib.hid hn
  clear hn
  cases he : findE E s with
  | none =>
   rw [he] at hlk
   have hlk' : ∀ w', w' = w -> (Instr.lookup 127 (.map (some r)) (.string s) false).run Tryz.prog w' = .ok (.pointer none) w' := fun w' e => by rw [e]; exact hlk
   replace hlk := hlk' w rfl
   clear hlk'
   have HE := Lib.hid he
   clear he
   by_cases hl : 64 < k
   ·have HNB := Lib.hid (newRows_bad (k : Int) w (.inr (by omega)))
    go_enter Tryz.func42, Tryz.ntmps42
    go_wp2_with fail
    refine HN.out.mono ?_
    rintro e w' ⟨rfl, rfl⟩
    go_wp2_with fail
    refine HNB.out.mono ?_
    rintro e w' ⟨rfl, rfl⟩
    go_wp2
    go_ret2
    exact RetF.mk (Kp.refl _) (BaseAdded.same H.out (Kp.refl _) (addR_long HNM.out (findE_none HE.out).1 (by rw [<- HKN.out]; exact hl)) (by decide) rfl)
   have hk64 : k ≤ 64 := by omega
   have HNR := Lib.hid (newRows_any S w k hk64 H.out.inS)
   have HL := Lib.hid (show ss.length ≤ 64 by rw [<- HKN.out]; exact hk64)
   clear hl
   cases ht : textsC ss with
   | false =>
    rw [ht] at HT
    have HTX := Lib.hid ht
    clear ht
    go_enter Tryz.func42, Tryz.ntmps42
    go_wp2_with fail
    refine HN.out.mono ?_
    rintro e w' ⟨rfl, rfl⟩
    go_wp2_with fail
    refine HNR.out.mono ?_
    rintro e w1 ⟨v, rfl, hk1, rfl, hrows⟩
    have d2 : w1.cell? ⟨w.heap.size, 2, none⟩ = some (.int .i64 k) := by rw [hrows.blk.cell']; rfl
    have HK1 := Lib.hid hk1
    clear hk1 hrows
    go_wp2_with fail
    refine (HT.out w1 HK1.out).mono ?_
    rintro e w2 ⟨v, rfl, hk2, rfl⟩
    have HK2 := Lib.hid (HK1.out.trans hk2)
    clear hk2
    go_wp2
    go_ret2
    exact RetF.mk (Ext.kp HK2.out) (BaseAdded.same H.out HK2.out (addR_text HNM.out (ar_none (findE_none HE.out).1 HL.out) HTX.out) (by decide) rfl)
   | true =>
    rw [ht] at HT
    have HTX := Lib.hid ht
    clear ht
    have HAdd := Lib.hid (fun w1 (hw : Ext w w1) (hr : RowsAt S w1 w.heap.size (.slice none 0 0) k []) => rowsAdd_any hr List.Pairwise.nil (ao := ao) (n := k) (cap := cap) (ss := ss) ⟨⟨HKN.out, HX.out.1.1.2.ext hw⟩, HX.out.1.2.1, fun a e hne => Nat.lt_of_lt_of_le (HX.out.1.2.2 a e hne) hw.size⟩
     (fun a e hne ho => by
      have := HX.out.1.2.2 a e hne
      rcases ho with ho | ho
      ·omega
      ·cases ho) (by simp))
    by_cases hm : 262144 ≤ n
    ·have q2 : decide ((262144 : Int) ≤ (n : Int)) = true := by rw [decide_eq_true_iff]; omega
     have HM := Lib.hid hm
     have HHas := Lib.hid (fun w1 (hw : Ext w w1) (hr : RowsAt S w1 w.heap.size (.slice none 0 0) k []) => rowsHas_any hr List.Pairwise.nil (x := (ao, k, cap)) (ss := ss) ⟨⟨HKN.out, HX.out.1.1.2.ext hw⟩, HX.out.1.2.1, fun a e hne => Nat.lt_of_lt_of_le (HX.out.1.2.2 a e hne) hw.size⟩
      (fun a e hne ho => by
       have := HX.out.1.2.2 a e hne
       rcases ho with ho | ho
       ·omega
       ·cases ho))
     clear hm
     go_enter Tryz.func42, Tryz.ntmps42
     go_wp2_with fail
     refine HN.out.mono ?_
     rintro e w' ⟨rfl, rfl⟩
     go_wp2_with fail
     refine HNR.out.mono ?_
     rintro e w1 ⟨v, rfl, hk1, rfl, hrows⟩
     have d2 : w1.cell? ⟨w.heap.size, 2, none⟩ = some (.int .i64 k) := by rw [hrows.blk.cell']; rfl
     have HK1 := Lib.hid (And.intro hk1 hrows)
     clear hk1 hrows
     go_wp2_with fail
     refine (HT.out w1 HK1.out.1).mono ?_
     rintro e w2 ⟨v, rfl, hk2, rfl⟩
     have HK2 := Lib.hid (HK1.out.1.trans hk2)
     have HR2 := Lib.hid (HK1.out.2.ext hk2)
     have c1' := HC1.out w2 HK2.out
     clear hk2 d2
     go_wp2_with fail
     refine (HHas.out w2 HK2.out HR2.out).mono ?_
     rintro e w3 ⟨v, rfl, hk3, rfl⟩
     have HK3 := Lib.hid (HK2.out.trans hk3)
     clear hk3 c1'
     have hni : isIn cmpRow ([] : List (List ByteArray)) ss = false := rfl
     go_wp2
     go_ret2
     exact RetF.mk (Ext.kp HK3.out) (BaseAdded.same H.out HK3.out (addR_many HNM.out (ar_none (findE_none HE.out).1 HL.out) HTX.out (by rw [EN.out]; exact HM.out) (by rw [(findE_none HE.out).2]; rfl)) (by decide) rfl)
    ·have q2 : decide ((262144 : Int) ≤ (n : Int)) = false := by rw [decide_eq_false_iff_not]; omega
     have HM := Lib.hid hm
     clear hm
     go_enter Tryz.func42, Tryz.ntmps42
     go_wp2_with fail
     refine HN.out.mono ?_
     rintro e w' ⟨rfl, rfl⟩
     go_wp2_with fail
     refine HNR.out.mono ?_
     rintro e w1 ⟨v, rfl, hk1, rfl, hrows⟩
     have d2 : w1.cell? ⟨w.heap.size, 2, none⟩ = some (.int .i64 k) := by rw [hrows.blk.cell']; rfl
     have HK1 := Lib.hid (And.intro hk1 hrows)
     clear hk1 hrows
     go_wp2_with fail
     refine (HT.out w1 HK1.out.1).mono ?_
     rintro e w2 ⟨v, rfl, hk2, rfl⟩
     have HK2 := Lib.hid (HK1.out.1.trans hk2)
     have HR2 := Lib.hid (HK1.out.2.ext hk2)
     have c1' := HC1.out w2 HK2.out
     clear hk2 d2
     go_wp2_with fail
     refine (HAdd.out w2 HK2.out HR2.out).mono ?_
     rintro e w3 ⟨v, rfl, hk3, hv, S', iv', hss, hsn, hrows3, hiv⟩
     have e0 : rowsAddR k [] ss = (true, 0) := by
      unfold rowsAddR; rw [if_neg (by rw [HKN.out]; simp), if_neg (by rw [HTX.out]; simp), if_neg (by simp)]; simp [isIn]
     have e1 : rowsAddL k [] ss = [ss] := by
      unfold rowsAddL; rw [e0]; simp [addS, isIn, below]
     rw [e0] at hv
     rw [e1] at hrows3
     subst hv
     have hz := HK2.out.size
     have kk3 : Kp (fun g => g = w.heap.size) w2 w3 := hk3.mono fun g _ h => by
      rcases h with h | h
      ·exact h
      ·cases h
     have hex3 : Ext w w3 := HK2.out.trans' kk3 (fun i hi e => by omega)
     rw [HKN.out] at hrows3
     have HR3 := Lib.hid (And.intro hex3 (And.intro hss (And.intro (fun q (hq : S' q) => (hsn q hq).imp id fun u => Nat.le_trans hz u) (And.intro hrows3 (fun q (hq : iv'.ownBlock = some q) => show w.heap.size ≤ q by
      rcases hiv q hq with u | u
      ·cases u
      ·exact Nat.le_trans hz u)))))
     have HB3 := Lib.hid (And.intro (H.out.blk.ext hex3) (H.out.map.ext hex3))
     clear hk3 kk3 hex3 hrows3 hss hsn hiv e0 e1 c1' hlk c0 hz
     go_wp2_with fail
     refine (basePut_any HB3.out.1 HB3.out.2 s (some ⟨w.heap.size, 0, none⟩)).mono ?_
     rintro e w4 ⟨v, rfl, hk4, hm4⟩
     have HM4 := Lib.hid (And.intro hk4 hm4)
     have hb4 : Blk w4 bb [.map (some r), .int .i64 (totalC (cntE E) : Nat)] 129 := HB3.out.1.kp hk4 H.out.ne
     have c4 : w4.cell? ⟨bb, 1, none⟩ = some (.int .i64 n) := by rw [hb4.cell', EN.out]; rfl
     have f4 := hb4.free 1
     clear hk4 hm4 hb4
     go_wp2
     go_ret2
     exact baseAdd_new H.out HE.out ⟨HNM.out, HL.out, HTX.out, by rw [EN.out]; exact HM.out⟩ HR3.out.1 HR3.out.2.1 HR3.out.2.2.1 HR3.out.2.2.2.1 (Nat.le_refl _) HR3.out.2.2.2.2 HM4.out.1 HM4.out.2 EN.out
  | some e0 =>
   rw [he] at hlk
   have HE := Lib.hid he
   obtain ⟨hem, hes⟩ := findE_some he
   obtain ⟨b0, eb0⟩ : ∃ b0, e0.b = b0 := ⟨_, rfl⟩
   obtain ⟨ar, ear⟩ : ∃ ar, e0.ar = ar := ⟨_, rfl⟩
   obtain ⟨LL, eLL⟩ : ∃ LL, e0.LL = LL := ⟨_, rfl⟩
   have hlk' : (Instr.lookup 127 (.map (some r)) (.string s) false).run Tryz.prog w = .ok (.pointer (some ⟨b0, 0, none⟩)) w := by rw [<- eb0]; exact hlk
   have hra := H.out.rows e0 hem
   have d2 : w.cell? ⟨b0, 2, none⟩ = some (.int .i64 ar) := by rw [<- eb0, hra.blk.cell', ear]; rfl
   have HEM := Lib.hid (And.intro hem (And.intro eb0 (And.intro ear eLL)))
   have hoff : RowOff (ao, k, cap) (Owns e0.b e0.iv) := fun a e hne hown => HX.out.2 a e hne (.inr (.inr ⟨e0, hem, hown⟩))
   have HOff := Lib.hid hoff
   have HHas := Lib.hid (fun w1 (hw : Ext w w1) => rowsHas_any ((H.out.rows e0 hem).ext hw) (H.out.strict hem) (x := (ao, k, cap)) (ss := ss) ⟨⟨HKN.out, HX.out.1.1.2.ext hw⟩, HX.out.1.2.1, fun a e hne => Nat.lt_of_lt_of_le (HX.out.1.2.2 a e hne) hw.size⟩ hoff)
   have HA := Lib.hid (fun w1 (hw : Ext w w1) => rowsAdd_any ((H.out.rows e0 hem).ext hw) (H.out.strict hem) (ao := ao) (n := k) (cap := cap) (ss := ss) ⟨⟨HKN.out, HX.out.1.1.2.ext hw⟩, HX.out.1.2.1, fun a e hne => Nat.lt_of_lt_of_le (HX.out.1.2.2 a e hne) hw.size⟩ hoff (by have := H.out.few hem; omega))
   clear he hem hes hra hoff hlk
   rw [HEM.out.2.1, HEM.out.2.2.2] at HHas
   rw [HEM.out.2.1, HEM.out.2.2.1, HEM.out.2.2.2] at HA
   clear eb0 ear eLL
   by_cases ha : ar = k
   ·have HAr := Lib.hid ha
    have q1 : ((ar : Int) != (k : Int)) = false := by simp [ha]
    clear ha
    have hnil : Ext w w := Kp.refl w
    cases ht : textsC ss with
    | false =>
     rw [ht] at HT
     have HTX := Lib.hid ht
     clear ht
     go_enter Tryz.func42, Tryz.ntmps42
     go_wp2_with fail
     refine HN.out.mono ?_
     rintro e w' ⟨rfl, rfl⟩
     go_wp2_with fail
     refine (HT.out w hnil).mono ?_
     rintro e w2 ⟨v, rfl, hk2, rfl⟩
     have HK2 := Lib.hid hk2
     clear hk2
     go_wp2
     go_ret2
     exact RetF.mk (Ext.kp HK2.out) (BaseAdded.same H.out HK2.out (addR_text HNM.out (ar_some (findE_rows HE.out).1 (by rw [HEM.out.2.2.1, HAr.out]; exact HKN.out)) HTX.out) (by decide) rfl)
    | true =>
     rw [ht] at HT
     have HTX := Lib.hid ht
     clear ht
     have hR0 : rowsAddR ar LL ss = if 65536 ≤ LL.length /\ isIn cmpRow LL ss = false then (false, 4) else (!isIn cmpRow LL ss, 0) := by
      unfold rowsAddR
      rw [if_neg (by rw [HAr.out, HKN.out]; simp), if_neg (by rw [HTX.out]; simp)]
     have HR0 := Lib.hid hR0
     clear hR0
     by_cases hm : 262144 ≤ n
     ·have q2 : decide ((262144 : Int) ≤ (n : Int)) = true := by rw [decide_eq_true_iff]; omega
      have HM := Lib.hid hm
      clear hm
      cases hi : isIn cmpRow LL ss with
      | false =>
       have HI := Lib.hid hi
       rw [hi] at HHas
       clear hi
       go_enter Tryz.func42, Tryz.ntmps42
       go_wp2_with fail
       refine HN.out.mono ?_
       rintro e w' ⟨rfl, rfl⟩
       go_wp2_with fail
       refine (HT.out w hnil).mono ?_
       rintro e w2 ⟨v, rfl, hk2, rfl⟩
       have HK2 := Lib.hid hk2
       have c1' := HC1.out w2 hk2
       clear hk2
       go_wp2_with fail
       refine (HHas.out w2 HK2.out).mono ?_
       rintro e w3 ⟨v, rfl, hk3, rfl⟩
       have HK3 := Lib.hid (HK2.out.trans hk3)
       clear hk3 c1'
       go_wp2
       go_ret2
       exact RetF.mk (Ext.kp HK3.out) (BaseAdded.same H.out HK3.out (addR_many HNM.out (ar_some (findE_rows HE.out).1 (by rw [HEM.out.2.2.1, HAr.out]; exact HKN.out)) HTX.out (by rw [EN.out]; exact HM.out) (by rw [(findE_rows HE.out).2, HEM.out.2.2.2]; exact HI.out)) (by decide) rfl)
      | true =>
       have HI0 := Lib.hid hi
       rw [hi] at HHas
       clear hi
       have HF := Lib.hid (show (namedC s = true /\ e0.ar = ss.length /\ textsC ss = true /\ e0.LL = LL /\ ¬ (262144 ≤ totalC (cntE E) /\ isIn cmpRow LL ss = false)) /\ True from ⟨⟨HNM.out, by rw [HEM.out.2.2.1, HAr.out]; exact HKN.out, HTX.out, HEM.out.2.2.2, fun q => by rw [HI0.out] at q; cases q.2⟩, trivial⟩)
       go_enter Tryz.func42, Tryz.ntmps42
       go_wp2_with fail
       refine HN.out.mono ?_
       rintro e w' ⟨rfl, rfl⟩
       go_wp2_with fail
       refine (HT.out w hnil).mono ?_
       rintro e w2 ⟨v, rfl, hk2, rfl⟩
       have HK2 := Lib.hid hk2
       have c1' := HC1.out w2 hk2
       clear hk2
       go_wp2_with fail
       refine (HHas.out w2 HK2.out).mono ?_
       rintro e w2b ⟨v, rfl, hk3, rfl⟩
       have HK2b := Lib.hid (HK2.out.trans hk3)
       clear hk3 c1'
       go_wp2_with fail
       refine (HA.out w2b HK2b.out).mono ?_
       rintro e w3 ⟨v, rfl, hk3, hv, S', iv', hss, hsn, hrows3, hiv⟩
       rw [<- HEM.out.2.1] at hk3 hrows3
       rw [<- HEM.out.2.2.1] at hrows3
       have HX3 := Lib.hid (And.intro hk3 (And.intro hss (And.intro hsn (And.intro hrows3 hiv))))
       rw [HR0.out] at hv
       subst hv
       clear hk3 hss hsn hrows3 hiv
       by_cases h4 : 65536 ≤ LL.length /\ isIn cmpRow LL ss = false
       ·have e4 : (if 65536 ≤ LL.length /\ isIn cmpRow LL ss = false then (false, 4) else (!isIn cmpRow LL ss, 0)) = (false, 4) := if_pos h4
        have H4 := Lib.hid (And.intro h4 e4)
        rw [e4]
        clear h4 e4
        go_wp2
        go_ret2
        exact baseAdd_full H.out HE.out HF.out.1 HK2b.out HX3.out.1 HX3.out.2.1 HX3.out.2.2.1 HX3.out.2.2.2.1 HX3.out.2.2.2.2 (by rw [HEM.out.2.2.1]; exact HR0.out) H4.out.1
       ·have e4 : (if 65536 ≤ LL.length /\ isIn cmpRow LL ss = false then (false, 4) else (!isIn cmpRow LL ss, 0)) = (!isIn cmpRow LL ss, 0) := if_neg h4
        have H4 := Lib.hid (And.intro h4 e4)
        rw [e4]
        clear h4 e4
        have hm3 := baseMap_own H.out HE.out HK2b.out HX3.out.1
        have hb3 := baseBlk_own H.out HE.out HK2b.out HX3.out.1
        have HB3 := Lib.hid (And.intro hb3 hm3)
        have c31 : w3.cell? ⟨bb, 1, none⟩ = some (.int .i64 n) := by rw [HB3.out.1.cell', EN.out]; rfl
        clear hm3 hb3 c31
        cases hi : isIn cmpRow LL ss with
        | true =>
         have HI := Lib.hid hi
         clear hi
         go_wp2_with fail
         refine (basePut_any HB3.out.1 HB3.out.2 s (some ⟨b0, 0, none⟩)).mono ?_
         rintro e w4 ⟨v, rfl, hk4, hm4⟩
         rw [<- HEM.out.2.1] at hm4
         have HM4 := Lib.hid (And.intro hk4 hm4)
         clear hk4 hm4
         go_wp2
         go_ret2
         exact baseAdd_had H.out HE.out HF.out.1 HK2b.out HX3.out.1 HX3.out.2.1 HX3.out.2.2.1 HX3.out.2.2.2.1 HX3.out.2.2.2.2 (by rw [HEM.out.2.2.1]; exact HR0.out) HI.out HM4.out.1 HM4.out.2
        | false =>
         have HI := Lib.hid hi
         clear hi
         go_wp2_with fail
         refine (basePut_any HB3.out.1 HB3.out.2 s (some ⟨b0, 0, none⟩)).mono ?_
         rintro e w4 ⟨v, rfl, hk4, hm4⟩
         rw [<- HEM.out.2.1] at hm4
         have HM4 := Lib.hid (And.intro hk4 hm4)
         have hb4 : Blk w4 bb [.map (some r), .int .i64 (totalC (cntE E) : Nat)] 129 := HB3.out.1.kp hk4 H.out.ne
         have c4 : w4.cell? ⟨bb, 1, none⟩ = some (.int .i64 n) := by rw [hb4.cell', EN.out]; rfl
         have f4 := hb4.free 1
         clear hk4 hm4 hb4
         go_wp2
         go_ret2
         exact baseAdd_got H.out HE.out HF.out.1 HK2b.out HX3.out.1 HX3.out.2.1 HX3.out.2.2.1 HX3.out.2.2.2.1 HX3.out.2.2.2.2 (by rw [HEM.out.2.2.1]; exact HR0.out) HI.out H4.out.1 HM4.out.1 HM4.out.2 EN.out
     ·have q2 : decide ((262144 : Int) ≤ (n : Int)) = false := by rw [decide_eq_false_iff_not]; omega
      have HM := Lib.hid hm
      clear hm
      have HF := Lib.hid (show (namedC s = true /\ e0.ar = ss.length /\ textsC ss = true /\ e0.LL = LL /\ ¬ (262144 ≤ totalC (cntE E) /\ isIn cmpRow LL ss = false)) /\ True from ⟨⟨HNM.out, by rw [HEM.out.2.2.1, HAr.out]; exact HKN.out, HTX.out, HEM.out.2.2.2, fun q => HM.out (by rw [<- EN.out]; exact q.1)⟩, trivial⟩)
      go_enter Tryz.func42, Tryz.ntmps42
      go_wp2_with fail
      refine HN.out.mono ?_
      rintro e w' ⟨rfl, rfl⟩
      go_wp2_with fail
      refine (HT.out w hnil).mono ?_
      rintro e w2 ⟨v, rfl, hk2, rfl⟩
      have HK2 := Lib.hid hk2
      have c1' := HC1.out w2 hk2
      clear hk2
      go_wp2_with fail
      refine (HA.out w2 HK2.out).mono ?_
      rintro e w3 ⟨v, rfl, hk3, hv, S', iv', hss, hsn, hrows3, hiv⟩
      rw [<- HEM.out.2.1] at hk3 hrows3
      rw [<- HEM.out.2.2.1] at hrows3
      have HX3 := Lib.hid (And.intro hk3 (And.intro hss (And.intro hsn (And.intro hrows3 hiv))))
      rw [HR0.out] at hv
      subst hv
      clear hk3 hss hsn hrows3 hiv
      by_cases h4 : 65536 ≤ LL.length /\ isIn cmpRow LL ss = false
      ·have e4 : (if 65536 ≤ LL.length /\ isIn cmpRow LL ss = false then (false, 4) else (!isIn cmpRow LL ss, 0)) = (false, 4) := if_pos h4
       have H4 := Lib.hid (And.intro h4 e4)
       rw [e4]
       clear h4 e4
       go_wp2
       go_ret2
       exact baseAdd_full H.out HE.out HF.out.1 HK2.out HX3.out.1 HX3.out.2.1 HX3.out.2.2.1 HX3.out.2.2.2.1 HX3.out.2.2.2.2 (by rw [HEM.out.2.2.1]; exact HR0.out) H4.out.1
      ·have e4 : (if 65536 ≤ LL.length /\ isIn cmpRow LL ss = false then (false, 4) else (!isIn cmpRow LL ss, 0)) = (!isIn cmpRow LL ss, 0) := if_neg h4
       have H4 := Lib.hid (And.intro h4 e4)
       rw [e4]
       clear h4 e4
       have hm3 := baseMap_own H.out HE.out HK2.out HX3.out.1
       have hb3 := baseBlk_own H.out HE.out HK2.out HX3.out.1
       have HB3 := Lib.hid (And.intro hb3 hm3)
       have c31 : w3.cell? ⟨bb, 1, none⟩ = some (.int .i64 n) := by rw [HB3.out.1.cell', EN.out]; rfl
       clear hm3 hb3 c31
       cases hi : isIn cmpRow LL ss with
       | true =>
        have HI := Lib.hid hi
        clear hi
        go_wp2_with fail
        refine (basePut_any HB3.out.1 HB3.out.2 s (some ⟨b0, 0, none⟩)).mono ?_
        rintro e w4 ⟨v, rfl, hk4, hm4⟩
        rw [<- HEM.out.2.1] at hm4
        have HM4 := Lib.hid (And.intro hk4 hm4)
        clear hk4 hm4
        go_wp2
        go_ret2
        exact baseAdd_had H.out HE.out HF.out.1 HK2.out HX3.out.1 HX3.out.2.1 HX3.out.2.2.1 HX3.out.2.2.2.1 HX3.out.2.2.2.2 (by rw [HEM.out.2.2.1]; exact HR0.out) HI.out HM4.out.1 HM4.out.2
       | false =>
        have HI := Lib.hid hi
        clear hi
        go_wp2_with fail
        refine (basePut_any HB3.out.1 HB3.out.2 s (some ⟨b0, 0, none⟩)).mono ?_
        rintro e w4 ⟨v, rfl, hk4, hm4⟩
        rw [<- HEM.out.2.1] at hm4
        have HM4 := Lib.hid (And.intro hk4 hm4)
        have hb4 : Blk w4 bb [.map (some r), .int .i64 (totalC (cntE E) : Nat)] 129 := HB3.out.1.kp hk4 H.out.ne
        have c4 : w4.cell? ⟨bb, 1, none⟩ = some (.int .i64 n) := by rw [hb4.cell', EN.out]; rfl
        have f4 := hb4.free 1
        clear hk4 hm4 hb4
        go_wp2
        go_ret2
        exact baseAdd_got H.out HE.out HF.out.1 HK2.out HX3.out.1 HX3.out.2.1 HX3.out.2.2.1 HX3.out.2.2.2.1 HX3.out.2.2.2.2 (by rw [HEM.out.2.2.1]; exact HR0.out) HI.out H4.out.1 HM4.out.1 HM4.out.2 EN.out
   ·have HAr := Lib.hid ha
    have q1 : ((ar : Int) != (k : Int)) = true := by rw [bne_iff_ne]; omega
    clear ha
    go_enter Tryz.func42, Tryz.ntmps42
    go_wp2_with fail
    refine HN.out.mono ?_
    rintro e w' ⟨rfl, rfl⟩
    go_wp2
    go_ret2
    exact RetF.mk (Kp.refl _) (BaseAdded.same H.out (Kp.refl _) (addR_arity HNM.out (findE_rows HE.out).1 (by show e0.ar ≠ ss.length; rw [HEM.out.2.2.1, <- HKN.out]; exact HAr.out)) (by decide) rfl)
end Go.Proofs.YtinnmeiphbdogaaGreat

/- tuple.Base: Declare, at every base. -/
namespace Go.Proofs.YtinnmeiphbdogaaGreat
open Go.RowKit
set_option linter.unusedVariables false
section
variable {S S' : Nat -> Prop} {w w1 w2 w3 w4 : World} {bb r : Nat} {E : List Ent} {s : ByteArray} {e : Ent}
def BaseDecled (S : Nat -> Prop) (w : World) (bb r : Nat) (E : List Ent) (s : ByteArray) (a : Int) (w' : World) (v : Value) : Prop :=
 v = .int .i64 ((declR (cntE E) s a : Nat) : Int) /\ ∃ E', BaseAt S w' bb r E' /\ cntE E' = declC (cntE E) s a /\ ∀ k, OwnB bb r E' k -> OwnB bb r E k \/ w.heap.size ≤ k
theorem BaseDecled.same {a : Int} (h : BaseAt S w bb r E) (hk : Ext w w1) {n : Nat} (hR : declR (cntE E) s a = n) (hn : declC (cntE E) s a = cntE E) {v : Value} (hv : v = .int .i64 (n : Nat)) : BaseDecled S w bb r E s a w1 v :=
 ⟨by rw [hv, hR], E, h.ext hk, hn.symm, fun _ h => .inl h⟩
theorem declR_name {C : List CntZ} (a : Int) (h : namedC s = false) : declR C s a = 32 := if_pos h
theorem declR_bad {C : List CntZ} {a : Int} (h : namedC s = true) (ha : a < 0 \/ 64 < a) : declR C s a = 2 := by
 unfold declR
 rw [if_neg (by rw [h]; simp), if_pos ha]
theorem declR_none {C : List CntZ} {a : Int} (h : namedC s = true) (ha : ¬ (a < 0 \/ 64 < a)) (hg : getC C s = none) : declR C s a = 0 := by
 unfold declR
 rw [if_neg (by rw [h]; simp), if_neg ha, hg]
theorem declR_some {C : List CntZ} {a : Int} {v : Nat × Rows2} (h : namedC s = true) (ha : ¬ (a < 0 \/ 64 < a)) (hg : getC C s = some v) : declR C s a = if (v.1 : Int) = a then 0 else 30 := by
 unfold declR
 rw [if_neg (by rw [h]; simp), if_neg ha, hg]
theorem declC_not {C : List CntZ} {a : Int} (h : declR C s a ≠ 0) : declC C s a = C := if_neg fun k => h k.1
theorem declC_some {C : List CntZ} {a : Int} {v : Nat × Rows2} (hg : getC C s = some v) : declC C s a = C := if_neg fun k => by rw [hg] at k; cases k.2
theorem baseDecl_new {k b : Nat} (h : BaseAt S w bb r E) (he : findE E s = none) (hn : namedC s = true) (hk : k ≤ 64) (hx : Ext w w3) (hr : RowsAt S w3 b (.slice none 0 0) k []) (hb : w.heap.size ≤ b)
 (hk4 : Kp (fun k => k = r) w3 w4) (hm4 : MapIs w4 r (putM (entM E) s (.pointer (some ⟨b, 0, none⟩)))) : RetF (OwnB bb r E) w (BaseDecled S w bb r E s (k : Int)) (.returned (.int .i64 0)) w4 := by
 obtain ⟨g1, g2⟩ := findE_none he
 have hR : declR (cntE E) s (k : Int) = 0 := declR_none hn (by omega) g1
 have hC : declC (cntE E) s (k : Int) = cntE (E ++ [{ name := s, b := b, iv := .slice none 0 0, ar := k, LL := [] }]) := by
  unfold declC
  rw [if_pos ⟨hR, g1⟩]
  simp [cntE, Ent.cnt]
 rw [entM_push he b (.slice none 0 0) k []] at hm4
 have ho : ∀ q, Owns b (.slice none 0 0) q -> w.heap.size ≤ q := fun q ho => by
  rcases ho with rfl | ho
  ·exact hb
  ·cases ho
 have htot : totalC (cntE E) = totalC (cntE (E ++ [{ name := s, b := b, iv := .slice none 0 0, ar := k, LL := [] }])) := by simp [totalC, cntE, Ent.cnt]
 refine RetF.mk ((Ext.kp hx).trans (hk4.mono fun k _ ho => .inr (.inl ho))) ⟨by rw [hR]; rfl, E ++ [{ name := s, b := b, iv := .slice none 0 0, ar := k, LL := [] }], ?_, hC.symm, ?_⟩
 ·exact h.push (e := { name := s, b := b, iv := .slice none 0 0, ar := k, LL := [] }) hx (fun _ x => x) (fun _ x => .inl x) hr ho (hk4.mono fun k _ ho => .inr ho) ((h.blk.ext hx).kp hk4 h.ne) hm4 htot (by rw [<- hC]; exact ok_decl h.ok s _)
 ·rintro q (h1 | h1 | ⟨f, hf, ho2⟩)
  ·exact .inl (.inl h1)
  ·exact .inl (.inr (.inl h1))
  ·rcases List.mem_append.1 hf with hf | hf
   ·exact .inl (.inr (.inr ⟨f, hf, ho2⟩))
   ·obtain rfl := List.mem_singleton.1 hf
    exact .inr (ho q ho2)
set_option maxRecDepth 100000 in
set_option maxHeartbeats 4000000 in
theorem baseDecl_any (h : BaseAt S w bb r E) (s : ByteArray) (a : Int) :
 Calls Tryz.prog 107 #[.pointer (some ⟨bb, 0, none⟩), .string s, .int .i64 a] w (RetF (OwnB bb r E) w (BaseDecled S w bb r E s a)) := by
 have c0 : w.cell? ⟨bb, 0, none⟩ = some (.map (some r)) := by rw [h.blk.cell']; rfl
 have hnm := named_any s w
 rw [show decide (1 ≤ s.size /\ s.size ≤ 4096) = namedC s from rfl] at hnm
 have HN := Lib.hid hnm; clear hnm
 have H := Lib.hid h
 have HLk := Lib.hid (fun w1 (hw : Ext w w1) => run_lookup_str (P := Tryz.prog) Tryz.underlying127 Tryz.underlying9 (z := .pointer none) (by kernel_rfl) (h.map.ext hw) s)
 rw [entM_get] at HLk
 clear h
 cases hn : namedC s with
 | false =>
  rw [hn] at HN
  have HNM := Lib.hid hn
  clear hn c0
  go_enter Tryz.func107, Tryz.ntmps107
  go_wp2_with fail
  refine HN.out.mono ?_
  rintro e w' ⟨rfl, rfl⟩
  go_wp2
  go_ret
  exact RetF.mk (Kp.refl _) (BaseDecled.same H.out (Kp.refl _) (declR_name a HNM.out) (declC_not (by rw [declR_name a HNM.out]; decide)) rfl)
 | true =>
  rw [hn] at HN
  have HNM := Lib.hid hn
  clear hn
  by_cases ha : a < 0 \/ 64 < a
  ·have HNB := Lib.hid (newRows_bad a w ha)
   have HAB := Lib.hid ha
   obtain ⟨p, hp⟩ : ∃ p : Option Addr, ((findE E s).map Ent.ptr).getD (.pointer none) = .pointer p := by
    cases findE E s with
    | none => exact ⟨none, rfl⟩
    | some e => exact ⟨some ⟨e.b, 0, none⟩, rfl⟩
   have hlk := HLk.out w (Kp.refl w)
   rw [hp] at hlk
   clear ha hp
   go_enter Tryz.func107, Tryz.ntmps107
   go_wp2_with fail
   refine HN.out.mono ?_
   rintro e w' ⟨rfl, rfl⟩
   go_wp2_with fail
   refine HNB.out.mono ?_
   rintro e w' ⟨rfl, rfl⟩
   go_wp2
   go_ret
   have e2 := declR_bad (s := s) (C := cntE E) HNM.out HAB.out
   exact RetF.mk (Kp.refl _) (BaseDecled.same H.out (Kp.refl _) e2 (declC_not (by rw [e2]; decide)) rfl)
  ·obtain ⟨k, rfl⟩ := Int.eq_ofNat_of_zero_le (show 0 ≤ a by omega)
   have hk64 : k ≤ 64 := by omega
   have HNR := Lib.hid (newRows_any S w k hk64 H.out.inS)
   have HAN := Lib.hid ha
   clear ha
   cases he : findE E s with
   | none =>
    rw [he] at HLk
    have HE := Lib.hid he
    clear he
    go_enter Tryz.func107, Tryz.ntmps107
    go_wp2_with fail
    refine HN.out.mono ?_
    rintro e w' ⟨rfl, rfl⟩
    go_wp2_with fail
    refine HNR.out.mono ?_
    rintro e w1 ⟨v, rfl, hk1, rfl, hrows⟩
    have hlk : (Instr.lookup 127 (.map (some r)) (.string s) false).run Tryz.prog w1 = .ok (.pointer none) w1 := HLk.out w1 hk1
    have c1 := hk1.cell c0 id
    have HK1 := Lib.hid (And.intro hk1 hrows)
    clear hk1 hrows
    go_wp2_with fail
    refine (basePut_any (H.out.blk.ext HK1.out.1) (H.out.map.ext HK1.out.1) s (some ⟨w.heap.size, 0, none⟩)).mono ?_
    rintro e w4 ⟨v, rfl, hk4, hm4⟩
    have HM4 := Lib.hid (And.intro hk4 hm4)
    clear hk4 hm4
    go_wp2
    go_ret
    exact baseDecl_new H.out HE.out HNM.out hk64 HK1.out.1 HK1.out.2 (Nat.le_refl _) HM4.out.1 HM4.out.2
   | some e0 =>
    rw [he] at HLk
    have HE := Lib.hid he
    obtain ⟨hem, hes⟩ := findE_some he
    obtain ⟨b0, eb0⟩ : ∃ b0, e0.b = b0 := ⟨_, rfl⟩
    obtain ⟨ar, ear⟩ : ∃ ar, e0.ar = ar := ⟨_, rfl⟩
    have d2 : w.cell? ⟨b0, 2, none⟩ = some (.int .i64 ar) := by rw [<- eb0, (H.out.rows e0 hem).blk.cell', ear]; rfl
    have HEM := Lib.hid (And.intro eb0 ear)
    have hg : getC (cntE E) s = some (ar, e0.LL) := by rw [<- ear]; exact (findE_rows he).1
    have hR := declR_some (C := cntE E) HNM.out HAN.out hg
    have HR := Lib.hid (And.intro hR (declC_some (C := cntE E) (a := (k : Int)) hg))
    clear he hem hes eb0 ear hg hR
    by_cases hq : ar = k
    ·have q1 : ((ar : Int) != (k : Int)) = false := by simp [hq]
     have HQ := Lib.hid hq
     clear hq
     go_enter Tryz.func107, Tryz.ntmps107
     go_wp2_with fail
     refine HN.out.mono ?_
     rintro e w' ⟨rfl, rfl⟩
     go_wp2_with fail
     refine HNR.out.mono ?_
     rintro e w1 ⟨v, rfl, hk1, rfl, hrows⟩
     have hlk : (Instr.lookup 127 (.map (some r)) (.string s) false).run Tryz.prog w1 = .ok (.pointer (some ⟨b0, 0, none⟩)) w1 := by rw [<- HEM.out.1]; exact HLk.out w1 hk1
     have c1 := hk1.cell c0 id
     have d21 := hk1.cell d2 id
     have HK1 := Lib.hid hk1
     clear hk1 hrows
     go_wp2
     go_ret
     exact RetF.mk (Ext.kp HK1.out) (BaseDecled.same H.out HK1.out (by rw [HR.out.1, if_pos (by rw [HQ.out])]) HR.out.2 rfl)
    ·have q1 : ((ar : Int) != (k : Int)) = true := by rw [bne_iff_ne]; omega
     have HQ := Lib.hid hq
     clear hq
     go_enter Tryz.func107, Tryz.ntmps107
     go_wp2_with fail
     refine HN.out.mono ?_
     rintro e w' ⟨rfl, rfl⟩
     go_wp2_with fail
     refine HNR.out.mono ?_
     rintro e w1 ⟨v, rfl, hk1, rfl, hrows⟩
     have hlk : (Instr.lookup 127 (.map (some r)) (.string s) false).run Tryz.prog w1 = .ok (.pointer (some ⟨b0, 0, none⟩)) w1 := by rw [<- HEM.out.1]; exact HLk.out w1 hk1
     have c1 := hk1.cell c0 id
     have d21 := hk1.cell d2 id
     have HK1 := Lib.hid hk1
     clear hk1 hrows
     go_wp2
     go_ret
     exact RetF.mk (Ext.kp HK1.out) (BaseDecled.same H.out HK1.out (by rw [HR.out.1, if_neg (fun q => HQ.out (by omega))]) HR.out.2 rfl)
end
end Go.Proofs.YtinnmeiphbdogaaGreat

/- tuple.Base: FromRelations. -/
namespace Go.Proofs.YtinnmeiphbdogaaGreat
open Go.RowKit
set_option linter.unusedVariables false
def RelsIn (S : Nat -> Prop) (w : World) (ao : Option Addr) (L : List RelZ) : Prop := ∀ (i : Nat) (q : RelZ), L[i]? = some q -> ∃ b off ra rcap, ao = some ⟨b, off, none⟩ /\ S b /\ w.cell? ⟨b, off + i * 3, none⟩ = some (.string q.1) /\ w.cell? ⟨b, off + i * 3 + 1, none⟩ = some (.int .i64 q.2.1) /\ w.cell? ⟨b, off + i * 3 + 2, none⟩ = some (.slice ra q.2.2.1.length rcap) /\ q.2.2.1.length ≤ rcap /\ rcap ≤ maxLen /\ RowsIn S w ra q.2.2.1
section
variable {S S' : Nat -> Prop} {w w' : World} {ao : Option Addr} {L : List RelZ}
end
theorem from_bad {C : List CntZ} {q : RelZ} {L : List RelZ} (h : declR C q.1 q.2.1 ≠ 0) : fromC C (q :: L) = (C, declR C q.1 q.2.1) := if_neg h
theorem from_err {C : List CntZ} {q : RelZ} {L : List RelZ} (h : declR C q.1 q.2.1 = 0) (h2 : (addAll (declC C q.1 q.2.1) q.1 q.2.2.1).2 ≠ 0) : fromC C (q :: L) = addAll (declC C q.1 q.2.1) q.1 q.2.2.1 := by
 show (if declR C q.1 q.2.1 = 0 then _ else _) = _
 rw [if_pos h, if_neg h2]
theorem from_go {C : List CntZ} {q : RelZ} {L : List RelZ} (h : declR C q.1 q.2.1 = 0) (h2 : (addAll (declC C q.1 q.2.1) q.1 q.2.2.1).2 = 0) : fromC C (q :: L) = fromC (addAll (declC C q.1 q.2.1) q.1 q.2.2.1).1 L := by
 show (if declR C q.1 q.2.1 = 0 then _ else _) = _
 rw [if_pos h, if_pos h2]
theorem addAll_go {C : List CntZ} {s : ByteArray} {x : List ByteArray} {rs : Rows2} (h : (addR C s x).2 = 0) : addAll C s (x :: rs) = addAll (addC C s x) s rs := if_pos h
theorem addAll_bad {C : List CntZ} {s : ByteArray} {x : List ByteArray} {rs : Rows2} (h : (addR C s x).2 ≠ 0) : addAll C s (x :: rs) = (C, (addR C s x).2) := if_neg h
def FromV (w : World) (L : List RelZ) (w' : World) (v : Value) : Prop :=
 ((fromC [] L).2 = 0 -> ∃ bb r S E, v = .tuple #[.pointer (some ⟨bb, 0, none⟩), .int .i64 0] /\ BaseAt S w' bb r E /\ cntE E = (fromC [] L).1 /\ (∀ k, S k -> w.heap.size ≤ k) /\ ∀ k, OwnB bb r E k -> w.heap.size ≤ k) /\
 ((fromC [] L).2 ≠ 0 -> v = .tuple #[.pointer none, .int .i64 (((fromC [] L).2 : Nat) : Int)])
structure MyBase (w0 : World) (S : Nat -> Prop) (w : World) (bb r : Nat) (E : List Ent) : Prop where
 base : BaseAt S w bb r E
 ext : Ext w0 w
 pool : ∀ k, S k -> w0.heap.size ≤ k
 own : ∀ k, OwnB bb r E k -> w0.heap.size ≤ k
def FromTo (w0 : World) (bb r : Nat) (L : List RelZ) (n : Nat) (iv : Value) (w : World) : Prop := ∃ i : Nat, i ≤ n /\ iv = .int .i64 i /\ Hid (∃ S E, MyBase w0 S w bb r E /\ fromC (cntE E) (L.drop i) = fromC [] L)
def FromIn (w0 : World) (bb r : Nat) (q : RelZ) (R : List CntZ × Nat) (g : Nat) (cs : List Value) (m : Nat) (jv : Value) (w : World) : Prop := ∃ j : Nat, j ≤ m /\ jv = .int .i64 j /\ Hid (∃ S E, MyBase w0 S w bb r E /\ addAll (cntE E) q.1 (q.2.2.1.drop j) = R /\ Blk w g cs 116 /\ ¬ OwnB bb r E g)
theorem drop_at {α : Type} {xs : List α} {i : Nat} {x : α} (h : xs[i]? = some x) : xs.drop i = x :: xs.drop (i + 1) := by
 obtain ⟨hi, e⟩ := List.getElem?_eq_some_iff.1 h
 rw [List.drop_eq_getElem_cons hi, e]
theorem cells_lt {w : World} {xa : Option Addr} {ss : List ByteArray} (h : CellsAt w xa (strs ss)) (hne : ss ≠ []) : ∀ a, xa = some a -> a.block < w.heap.size := fun a e => by
 cases ss with
 | nil => exact absurd rfl hne
 | cons s ss =>
  obtain ⟨b, off, e1, hc⟩ := h 0 (.string s) rfl
  rw [e] at e1; cases e1
  exact World.block_lt_of_cell? _ _ hc
set_option maxRecDepth 100000 in
set_option maxHeartbeats 4000000 in
theorem from_any (L : List RelZ) (ao : Option Addr) (n cap : Nat) (w : World) (S0 : Nat -> Prop) (hn : n = L.length) (hL : RelsIn S0 w ao L) (hl : n ≤ 4194304) (hr : ∀ q ∈ L, q.2.2.1.length ≤ 1048576) :
 Calls Tryz.prog 59 #[.slice ao n cap] w (RetN w (FromV w L)) := by
 have HN := Lib.hid hn
 have HL := Lib.hid hL
 have HR := Lib.hid hr
 clear hn hL hr
 go_enter Tryz.func59, Tryz.ntmps59
 go_wp2_with fail
 refine (newBase_any w).mono ?_
 rintro e w1 ⟨v, rfl, hk1, rfl, hB, hm⟩
 obtain ⟨bb, ebb⟩ : ∃ bb, w.heap.size + 1 = bb := ⟨_, rfl⟩
 rw [ebb] at hB ⊢
 obtain ⟨r, er⟩ : ∃ r, w.heap.size = r := ⟨_, rfl⟩
 rw [er] at hB hm
 have HM0 := Lib.hid (show MyBase w (fun _ => False) w1 bb r [] from
  {base := BaseAt.new (fun _ => False) (fun _ x => x.elim) hk1 (by omega) (by omega) (by omega) hB hm
   ext := hk1, pool := fun _ x => x.elim
   own := fun k hk => by
    rcases hk with rfl | rfl | ⟨e, he, _⟩
    ·omega
    ·omega
    ·simp at he })
 clear hB hm hk1 ebb er
 go_wp2
 go_loopw [15] (fun iv wr => FromTo w bb r L n iv wr) (fun iv _ => n - (intOf iv).toNat)
 case atStart => exact ⟨0, Nat.zero_le _, rfl, _, [], HM0.out, rfl⟩
 case round =>
  clear HM0
  obtain ⟨i, hi, rfl, hin⟩ := hrel
  obtain ⟨S, E, hM, hF⟩ := hin.out
  have HM := Lib.hid hM
  have HF := Lib.hid hF
  clear hin hM hF
  by_cases hlt : i < n
  ·obtain ⟨q, hq⟩ : ∃ q, L[i]? = some q := ⟨_, List.getElem?_eq_getElem (by rw [<- HN.out]; exact hlt)⟩
   obtain ⟨b, off, ra, rcap, eao, hSb, c0, c1, c2, hrl, hrm, hrows⟩ := HL.out i q hq
   subst eao
   replace c0 := HM.out.ext.cell c0 id
   replace c1 := HM.out.ext.cell c1 id
   replace c2 := HM.out.ext.cell c2 id
   obtain ⟨s, es⟩ : ∃ s, q.1 = s := ⟨_, rfl⟩
   obtain ⟨a, ea⟩ : ∃ a, q.2.1 = a := ⟨_, rfl⟩
   obtain ⟨m, em⟩ : ∃ m, q.2.2.1.length = m := ⟨_, rfl⟩
   rw [es] at c0
   rw [ea] at c1
   rw [em] at c2 hrl
   have hm1 : m ≤ 1048576 := by rw [<- em]; exact HR.out q (List.mem_of_getElem? hq)
   have HQ := Lib.hid (And.intro hq (And.intro es (And.intro ea em)))
   have HRows := Lib.hid hrows
   clear hq es ea em hrows hSb
   obtain ⟨gx, egx⟩ : ∃ g, wr.heap.size = g := ⟨_, rfl⟩
   obtain ⟨wx, ewx⟩ : ∃ wx, wr.alloc (.cells #[.string s, .int .i64 a, .slice ra m rcap] 116) = wx := ⟨_, rfl⟩
   have HBx := Lib.hid (show Blk wx gx [.string s, .int .i64 a, .slice ra m rcap] 116 by rw [<- ewx, <- egx]; exact Blk.new wr _ _)
   have HXx := Lib.hid (show Ext wr wx by rw [<- ewx]; exact (Kp.refl wr).alloc _)
   have HGx := Lib.hid (show ∀ k, OwnB bb r E k -> k < gx from fun k hk => by rw [<- egx]; exact HM.out.base.ownLt k hk)
   have EGX := Lib.hid egx
   have x0 : wx.cell? ⟨wr.heap.size, 0, none⟩ = some (.string s) := by rw [egx, HBx.out.cell']; rfl
   have x1 : wx.cell? ⟨wr.heap.size, 1, none⟩ = some (.int .i64 a) := by rw [egx, HBx.out.cell']; rfl
   clear egx
   go_wp2_with fail
   rw [EGX.out]
   refine (baseDecl_any (HM.out.base.ext HXx.out) s a).mono ?_
   rintro e w2 ⟨v, rfl, hk2, rfl, E1, hB1, hC1, ho1⟩
   have hgx : gx < wx.heap.size := HBx.out.lt
   have hbx2 : Blk w2 gx [.string s, .int .i64 a, .slice ra m rcap] 116 := HBx.out.kp hk2 fun ho => by have := HGx.out gx ho; omega
   have hM1 : MyBase w S w2 bb r E1 :=
    {base := hB1
     ext := (HM.out.ext.trans HXx.out).trans' hk2 fun k hk ho => by have := HM.out.own k ho; omega
     pool := HM.out.pool
     own := fun k hk => by
      rcases ho1 k hk with h1 | h1
      ·exact HM.out.own k h1
      ·have := (HM.out.ext.trans HXx.out).size; omega }
   have hng : ¬ OwnB bb r E1 gx := fun ho => by
    rcases ho1 gx ho with h1 | h1
    ·have := HGx.out gx h1; omega
    ·omega
   have HM1 := Lib.hid (And.intro hM1 (And.intro hC1 (And.intro hbx2 hng)))
   clear hk2 hB1 hC1 ho1 hgx hbx2 hM1 hng ewx x0 x1 c0 c1 c2
   obtain ⟨d, ed⟩ : ∃ d, declR (cntE E) s a = d := ⟨_, rfl⟩
   rw [ed]
   have ED := Lib.hid ed
   clear ed
   have y2 : w2.cell? ⟨gx, 2, none⟩ = some (.slice ra m rcap) := by rw [HM1.out.2.2.1.cell']; rfl
   by_cases hd : d = 0
   ·have q1 : ((d : Int) != 0) = false := by simp [hd]
    have HD := Lib.hid hd
    clear hd
    have hdr : (L.drop i) = q :: L.drop (i + 1) := drop_at HQ.out.1
    have HDr := Lib.hid hdr
    clear hdr
    go_wp2
    clear q1
    generalize hw5 : w2 = w5 at *; clear hw5
    go_loopw [31] (fun jv wk => FromIn w bb r q (addAll (declC (cntE E) s a) s q.2.2.1) gx [.string s, .int .i64 a, .slice ra m rcap] m jv wk) (fun jv _ => m - (intOf jv).toNat)
    case atStart => exact ⟨0, Nat.zero_le _, rfl, S, E1, HM1.out.1, by rw [HM1.out.2.1, HQ.out.2.1]; rfl, HM1.out.2.2.1, HM1.out.2.2.2⟩
    case round =>
     clear HM1 HBx HXx HGx EGX y2
     obtain ⟨j, hj, rfl, hin⟩ := hrel
     obtain ⟨S1, E2, hM2, hA2, hbx, hng⟩ := hin.out
     have HM2 := Lib.hid (And.intro hM2 (And.intro hA2 (And.intro hbx hng)))
     clear hin hM2 hA2 hbx hng
     by_cases hlt2 : j < m
     ·obtain ⟨ss, hss⟩ : ∃ ss, q.2.2.1[j]? = some ss := ⟨_, List.getElem?_eq_getElem (by rw [HQ.out.2.2.2]; exact hlt2)⟩
      obtain ⟨g, o, xa, xcap, era, d0, d1, d2, d3⟩ := HRows.out.get hss
      subst era
      replace d0 := HM2.out.1.ext.cell d0 id
      obtain ⟨k, ek⟩ : ∃ k, ss.length = k := ⟨_, rfl⟩
      rw [ek] at d0
      have HSS := Lib.hid (And.intro hss ek)
      have HRow := Lib.hid (And.intro d1 (And.intro d2 d3))
      have y0 : wr.cell? ⟨gx, 0, none⟩ = some (.string s) := by rw [HM2.out.2.2.1.cell']; rfl
      clear hss ek d1 d2 d3
      go_wp2_with fail
      refine (baseAdd_any HM2.out.1.base s (ao := xa) (k := k) (cap := xcap) (ss := ss) ⟨⟨HSS.out.2.symm, HRow.out.1.ext HM2.out.1.ext⟩, HRow.out.2.1, fun a e hne => Nat.lt_of_lt_of_le (cells_lt HRow.out.1 (fun h => hne (by show k = 0; rw [<- HSS.out.2, h]; rfl)) a e) HM2.out.1.ext.size⟩ (fun a e hne ho => by
       have h1 := HM2.out.1.own _ ho
       have h2 := cells_lt HRow.out.1 (fun h => hne (by show k = 0; rw [<- HSS.out.2, h]; rfl)) a e
       omega)).mono ?_
      rintro e w3 ⟨v, rfl, hk3, rfl, S3, E3, hs1, hs2, hB3, hC3, ho3⟩
      have hgx : gx < wr.heap.size := HM2.out.2.2.1.lt
      have hM3 : MyBase w S3 w3 bb r E3 :=
       {base := hB3
        ext := HM2.out.1.ext.trans' hk3 fun k hk ho => by have := HM2.out.1.own k ho; omega
        pool := fun k hk => by
         rcases hs2 k hk with h1 | h1
         ·exact HM2.out.1.pool k h1
         ·have := HM2.out.1.ext.size; omega
        own := fun k hk => by
         rcases ho3 k hk with h1 | h1
         ·exact HM2.out.1.own k h1
         ·have := HM2.out.1.ext.size; omega }
      have hb3 : Blk w3 gx [.string s, .int .i64 a, .slice (some ⟨g, o, none⟩) m rcap] 116 := HM2.out.2.2.1.kp hk3 HM2.out.2.2.2
      have hng : ¬ OwnB bb r E3 gx := fun ho => by
       rcases ho3 gx ho with h1 | h1
       ·exact HM2.out.2.2.2 h1
       ·omega
      have HM3 := Lib.hid (And.intro hM3 (And.intro hC3 (And.intro hb3 hng)))
      clear hk3 hB3 hC3 ho3 hgx hM3 hng hb3 hs1 hs2 y0 d0
      obtain ⟨x1, ex1⟩ : ∃ x, (addR (cntE E2) s ss).1 = x := ⟨_, rfl⟩
      obtain ⟨x2, ex2⟩ : ∃ x, (addR (cntE E2) s ss).2 = x := ⟨_, rfl⟩
      rw [ex1, ex2]
      have EX := Lib.hid ex2
      clear ex1 ex2
      have hdj : q.2.2.1.drop j = ss :: q.2.2.1.drop (j + 1) := drop_at HSS.out.1
      have HDj := Lib.hid hdj
      clear hdj
      by_cases hx : x2 = 0
      ·have q1 : ((x2 : Int) != 0) = false := by simp [hx]
       have HX := Lib.hid hx
       clear hx
       go_wp2
       go_roundw
       case rel =>
        refine ⟨j + 1, by omega, by first | rfl | (congr 1; done) | (congr 1; omega), S3, E3, HM3.out.1, ?_, HM3.out.2.2.1, HM3.out.2.2.2⟩
        rw [HM3.out.2.1, <- HM2.out.2.1, HDj.out, HQ.out.2.1]
        exact (addAll_go (by rw [EX.out]; exact HX.out)).symm
       case measure => simp [intOf]; omega
      ·have q1 : ((x2 : Int) != 0) = true := by simp; omega
       have HX := Lib.hid hx
       clear hx
       go_wp2
       go_ret2
       have hall := HM2.out.2.1
       rw [HDj.out, HQ.out.2.1, addAll_bad (by rw [EX.out]; exact HX.out), EX.out] at hall
       have hfr : fromC [] L = (cntE E2, x2) := by
        rw [<- HF.out, HDr.out, from_err (by rw [HQ.out.2.1, HQ.out.2.2.1, ED.out]; exact HD.out) (by rw [HQ.out.2.1, HQ.out.2.2.1, <- hall]; exact HX.out), HQ.out.2.1, HQ.out.2.2.1, <- hall]
       exact RetN.mk HM3.out.1.ext ⟨fun h0 => by rw [hfr] at h0; exact absurd h0 HX.out, fun _ => by rw [hfr]; rfl⟩
     ·obtain rfl : j = m := by omega
      have hall := HM2.out.2.1
      rw [List.drop_of_length_le (by rw [HQ.out.2.2.2]; exact Nat.le_refl _)] at hall
      have hall' : addAll (declC (cntE E) s a) s q.2.2.1 = (cntE E2, 0) := hall.symm
      have HAll := Lib.hid hall'
      clear hall hall'
      go_wp2
      go_roundw
      case rel =>
       refine ⟨i + 1, by omega, by first | rfl | (congr 1; done) | (congr 1; omega), S1, E2, HM2.out.1, ?_⟩
       rw [<- HF.out, HDr.out, from_go (by rw [HQ.out.2.1, HQ.out.2.2.1, ED.out]; exact HD.out) (by rw [HQ.out.2.1, HQ.out.2.2.1, HAll.out]), HQ.out.2.1, HQ.out.2.2.1, HAll.out]
      case measure => simp [intOf]; omega
   ·have q1 : ((d : Int) != 0) = true := by simp; omega
    have HD := Lib.hid hd
    clear hd
    go_wp2
    go_ret2
    have hfr : fromC [] L = (cntE E, d) := by
     rw [<- HF.out, drop_at HQ.out.1, from_bad (by rw [HQ.out.2.1, HQ.out.2.2.1, ED.out]; exact HD.out), HQ.out.2.1, HQ.out.2.2.1, ED.out]
    exact RetN.mk HM1.out.1.ext ⟨fun h0 => by rw [hfr] at h0; exact absurd h0 HD.out, fun _ => by rw [hfr]; rfl⟩
  ·obtain rfl : i = n := by omega
   have hfr : fromC [] L = (cntE E, 0) := by
    rw [<- HF.out, List.drop_of_length_le (by rw [<- HN.out]; exact Nat.le_refl _)]; rfl
   have HFr := Lib.hid hfr
   clear hfr
   go_wp2
   go_ret2
   exact RetN.mk HM.out.ext ⟨fun _ => ⟨bb, r, S, E, rfl, HM.out.base, by rw [HFr.out], HM.out.pool, HM.out.own⟩, fun h0 => absurd (by rw [HFr.out]) h0⟩
end Go.Proofs.YtinnmeiphbdogaaGreat

/- The law of joins: the chapter's base; rules that are laid out; each over that base. -/
namespace Go.Proofs.YtinnmeiphbdogaaGreat
open Go.RowKit Go.Shelf
set_option linter.unusedVariables false
attribute [local go_sem] Oper.semAt_some
def rowsJ (C : List CntZ) (ls : List LitZ) (j : Nat) : Rows2 := match ls[j]? with | some l => rowsC C (predOf l) | none => []
def bindsOf (r : RuleZ) (C : List CntZ) : Rows2 := if checkR r = 0 then bindL r (rowsJ C r.2.1) else []
theorem optLL_find (E : List Ent) (s : ByteArray) : optLL (findE E s) = rowsC (cntE E) s := by
 unfold rowsC
 rw [cntE_get]
 cases findE E s <;> rfl
theorem rows_one (ls : List LitZ) (E : List Ent) : rowsR (oneE ls E) ls = rowsJ (cntE E) ls := by
 funext j
 unfold rowsR oneE rowsJ
 by_cases hj : j < ls.length
 ·rw [if_pos hj, List.getElem?_eq_getElem hj, optLL_find]; rfl
 ·rw [if_neg hj, List.getElem?_eq_none (by omega)]; rfl
theorem bindsOf_is (r : RuleZ) (E : List Ent) : BindsOf r (rowsR (oneE r.2.1 E) r.2.1) (bindsOf r (cntE E)) := by
 rw [rows_one]
 unfold bindsOf
 exact ⟨fun hc => by rw [if_pos hc]; exact bindL_is hc _, fun hc => by rw [if_neg hc]⟩
abbrev TT : Nat -> Prop := fun _ => True
def fitB (ts : List TermZ) : Bool := ts.all fun t => (Lit.int .i64 t.1).wf && decide (t.2.1.size ≤ 4096)
theorem fitB_term {t : TermZ} (h : ((Lit.int .i64 t.1).wf && decide (t.2.1.size ≤ 4096)) = true) : TermFit t := by
 rw [Bool.and_eq_true, decide_eq_true_eq] at h
 exact ⟨h.1, by unfold maxLen; omega⟩
theorem fitB_all {ts : List TermZ} (h : fitB ts = true) : ∀ t ∈ ts, TermFit t := fun t ht => fitB_term (List.all_eq_true.1 h t ht)
def litFitB (ls : List LitZ) : Bool := ls.all fun l => (Lit.int .i64 l.1).wf && (decide ((predOf l).size ≤ 4096) && (fitB (termsOf l) && ((Lit.int .i64 (opOf l)).wf && fitB [leftOf l, rightOf l])))
theorem litFitB_all {ls : List LitZ} (h : litFitB ls = true) : ∀ l ∈ ls, LitAll l := fun l hl => by
 have h1 := List.all_eq_true.1 h l hl
 simp only [Bool.and_eq_true, decide_eq_true_eq] at h1
 obtain ⟨a, b, c, d, e⟩ := h1
 have e2 := fitB_all e
 exact ⟨a, by unfold maxLen; omega, fitB_all c, d, e2 _ (by simp), e2 _ (by simp)⟩
theorem terms_new (w : World) (ts : List TermZ) (h : fitB ts = true) : TermsAt (w.alloc (.cells (tcells ts).toArray 38)) TT (some ⟨w.heap.size, 0, none⟩) ts :=
 elems_of (s := shTerm) (f := termC) (rest := []) (fun x => rfl) (fun i x hi => term_mk (fitB_all h x (List.mem_of_getElem? hi))) trivial (by rw [List.append_nil]; exact Blk.new w (tcells ts) 38)
theorem lits_nil (w : World) (a : Option Addr) : LitsAt w TT a [] := fun i x hx => by simp at hx
theorem lits_new (w : World) (ls : List LitZ) (vs : List (Option Addr × Nat)) (hv : vs.length = ls.length) (h : litFitB ls = true) (ht : ∀ x ∈ ls.zip vs, TermsAt w TT x.2.1 (termsOf x.1) /\ (termsOf x.1).length ≤ x.2.2 /\ x.2.2 ≤ maxLen) : LitsAt (w.alloc (.cells ((ls.zip vs).flatMap litC).toArray 40)) TT (some ⟨w.heap.size, 0, none⟩) ls :=
 lits_cells (rest := []) hv (litFitB_all h) (fun x hx => ⟨(ht x hx).1.ext ((Kp.refl w).alloc _), (ht x hx).2⟩) trivial (by rw [List.append_nil]; exact Blk.new w ((ls.zip vs).flatMap litC) 40)
theorem lits_flat {w : World} {G : Nat -> Prop} {ao : Option Addr} {ls : List LitZ} (h : LitsAt w G ao ls) : ∃ vs : List (Option Addr × Nat), vs.length = ls.length /\ CellsAt w ao ((ls.zip vs).flatMap litC) /\ ∀ x ∈ ls.zip vs, LitIn w G x.1 x.2.1 x.2.2 := by
 have hex : ∀ i : Fin ls.length, ∃ p : Option Addr × Nat, LitIn w G ls[i] p.1 p.2 /\ ∀ c u, (litC (ls[i], p))[c]? = some u -> ∃ b off, ao = some ⟨b, off, none⟩ /\ w.cell? ⟨b, off + i.1 * 8 + c, none⟩ = some u := fun i => by
  obtain ⟨b, off, a, cap, e, -, -, hl, c0, c1, c2, c3, c4, c5, c6, c7⟩ := lit_at h (List.getElem?_eq_getElem i.2)
  refine ⟨(a, cap), hl, fun c u hu => ⟨b, off, e, ?_⟩⟩
  match c, hu with
  | 0, hu => cases hu; exact c0
  | 1, hu => cases hu; exact c1
  | 2, hu => cases hu; exact c2
  | 3, hu => cases hu; exact c3
  | 4, hu => cases hu; exact c4
  | 5, hu => cases hu; exact c5
  | 6, hu => cases hu; exact c6
  | 7, hu => cases hu; exact c7
  | k + 8, hu => cases hu
 let f : Fin ls.length -> Option Addr × Nat := fun i => Classical.choose (hex i)
 have hf : ∀ i, _ := fun i => Classical.choose_spec (hex i)
 have hz : ∀ (i : Nat) x, (ls.zip (List.ofFn f))[i]? = some x -> ∃ hi : i < ls.length, x = (ls[i], f ⟨i, hi⟩) := fun i x hx => by
  obtain ⟨l, p⟩ := x
  rw [List.getElem?_zip_eq_some] at hx
  have hi := (List.getElem?_eq_some_iff.1 hx.1).1
  refine ⟨hi, ?_⟩
  have h1 := hx.1
  have h2 := hx.2
  rw [List.getElem?_eq_getElem hi] at h1
  rw [List.getElem?_ofFn, dif_pos hi] at h2
  cases h1; cases h2; rfl
 refine ⟨List.ofFn f, List.length_ofFn, fun i u hu => ?_, fun x hx => ?_⟩
 ·have hl := (List.getElem?_eq_some_iff.1 hu).1
  rw [flat_len litC 8 litC_len, List.length_zip, List.length_ofFn, Nat.min_self] at hl
  have hq := Nat.div_add_mod i 8
  have hm := Nat.mod_lt i (show 8 > 0 by decide)
  have hi : i / 8 < ls.length := Nat.div_lt_of_lt_mul (by omega)
  have hzi : (ls.zip (List.ofFn f))[i / 8]? = some (ls[i / 8], f ⟨i / 8, hi⟩) := by
   rw [List.getElem?_zip_eq_some]
   exact ⟨List.getElem?_eq_getElem hi, by rw [List.getElem?_ofFn, dif_pos hi]⟩
  have hg := flat_get litC 8 litC_len _ (i / 8) _ (i % 8) hzi hm
  rw [show i / 8 * 8 + i % 8 = i by omega, hu] at hg
  obtain ⟨b, off, e, hc⟩ := (hf ⟨i / 8, hi⟩).2 (i % 8) u hg.symm
  refine ⟨b, off, e, ?_⟩
  rw [<- hc]
  congr 2
  show off + i = off + i / 8 * 8 + i % 8
  omega
 ·obtain ⟨i, hi⟩ := List.mem_iff_getElem?.1 hx
  obtain ⟨hil, rfl⟩ := hz i x hi
  exact (hf ⟨i, hil⟩).1
def sA : ByteArray := ⟨#[97]⟩
def sB : ByteArray := ⟨#[98]⟩
def sC : ByteArray := ⟨#[99]⟩
def givenL : List RelZ := [(⟨#[101]⟩, 2, [[sA, sB], [sB, sC], [sB, sB], [sC, sA]], ()), (⟨#[110]⟩, 1, [[sB]], ()), (⟨#[122]⟩, 0, [[]], ())]
def awC : List CntZ := [(⟨#[101]⟩, 2, [[sA, sB], [sB, sB], [sB, sC], [sC, sA]]), (⟨#[110]⟩, 1, [[sB]]), (⟨#[122]⟩, 0, [[]])]
theorem given_is : fromC [] givenL = (awC, 0) := by kernel_rfl
def rowPs (l : List (Nat × List ByteArray)) : List RowP := l.map fun x => ((some ⟨x.1, 0, none⟩, x.2.length, x.2.length), x.2)
theorem rowsIn_of {w : World} {g : Nat} {l : List (Nat × List ByteArray)} {LL : Rows2} (hl : LL = l.map Prod.snd) (hB : Blk w g (rowVs (rowPs l)) 34) (hr : ∀ x ∈ l, Blk w x.1 (strs x.2) 9 /\ x.2.length ≤ 64) : RowsIn TT w (some ⟨g, 0, none⟩) LL := by
 refine ⟨rowPs l, by rw [hl]; unfold rowPs; rw [List.map_map]; rfl, CellsAt.pre (rest := []) (by rw [List.append_nil]; exact hB), fun _ _ => trivial, fun p hp => ?_⟩
 obtain ⟨x, hx, rfl⟩ := List.mem_map.1 hp
 obtain ⟨h1, h2⟩ := hr x hx
 exact ⟨⟨rfl, CellsAt.pre (rest := []) (by rw [List.append_nil]; exact h1)⟩, by show x.2.length ≤ _; omega, fun _ _ => trivial⟩
set_option maxRecDepth 100000 in
set_option maxHeartbeats 4000000 in
theorem given_any (w : World) : Calls Tryz.prog 26 #[] w (RetN w fun w' v => ∃ bb E S, v = .pointer (some ⟨bb, 0, none⟩) /\ BaseV S w' v E /\ cntE E = awC) := by
 obtain ⟨w1, e1⟩ : ∃ x, w.alloc (.cells #[.string ⟨#[97]⟩, .string ⟨#[98]⟩] 9) = x := ⟨_, rfl⟩
 have B1 := Lib.hid (show Blk w1 w.heap.size [.string ⟨#[97]⟩, .string ⟨#[98]⟩] 9 from by rw [<- e1]; exact Blk.new w _ _)
 have Y1 := Lib.hid (show Ext w w1 from by rw [<- e1]; exact (Kp.refl w).alloc _)
 obtain ⟨w2, e2⟩ : ∃ x, w1.alloc (.cells #[.string ⟨#[98]⟩, .string ⟨#[99]⟩] 9) = x := ⟨_, rfl⟩
 have B2 := Lib.hid (show Blk w2 w1.heap.size [.string ⟨#[98]⟩, .string ⟨#[99]⟩] 9 from by rw [<- e2]; exact Blk.new w1 _ _)
 have Y2 := Lib.hid (show Ext w1 w2 from by rw [<- e2]; exact (Kp.refl w1).alloc _)
 obtain ⟨w3, e3⟩ : ∃ x, w2.alloc (.cells #[.string ⟨#[98]⟩, .string ⟨#[98]⟩] 9) = x := ⟨_, rfl⟩
 have B3 := Lib.hid (show Blk w3 w2.heap.size [.string ⟨#[98]⟩, .string ⟨#[98]⟩] 9 from by rw [<- e3]; exact Blk.new w2 _ _)
 have Y3 := Lib.hid (show Ext w2 w3 from by rw [<- e3]; exact (Kp.refl w2).alloc _)
 obtain ⟨w4, e4⟩ : ∃ x, w3.alloc (.cells #[.string ⟨#[99]⟩, .string ⟨#[97]⟩] 9) = x := ⟨_, rfl⟩
 have B4 := Lib.hid (show Blk w4 w3.heap.size [.string ⟨#[99]⟩, .string ⟨#[97]⟩] 9 from by rw [<- e4]; exact Blk.new w3 _ _)
 have Y4 := Lib.hid (show Ext w3 w4 from by rw [<- e4]; exact (Kp.refl w3).alloc _)
 obtain ⟨w5, e5⟩ : ∃ x, w4.alloc (.cells #[.slice (some ⟨w.heap.size, 0, none⟩) 2 2, .slice (some ⟨w1.heap.size, 0, none⟩) 2 2, .slice (some ⟨w2.heap.size, 0, none⟩) 2 2, .slice (some ⟨w3.heap.size, 0, none⟩) 2 2] 34) = x := ⟨_, rfl⟩
 have B5 := Lib.hid (show Blk w5 w4.heap.size [.slice (some ⟨w.heap.size, 0, none⟩) 2 2, .slice (some ⟨w1.heap.size, 0, none⟩) 2 2, .slice (some ⟨w2.heap.size, 0, none⟩) 2 2, .slice (some ⟨w3.heap.size, 0, none⟩) 2 2] 34 from by rw [<- e5]; exact Blk.new w4 _ _)
 have Y5 := Lib.hid (show Ext w4 w5 from by rw [<- e5]; exact (Kp.refl w4).alloc _)
 obtain ⟨w6, e6⟩ : ∃ x, w5.alloc (.cells #[.string ⟨#[98]⟩] 9) = x := ⟨_, rfl⟩
 have B6 := Lib.hid (show Blk w6 w5.heap.size [.string ⟨#[98]⟩] 9 from by rw [<- e6]; exact Blk.new w5 _ _)
 have Y6 := Lib.hid (show Ext w5 w6 from by rw [<- e6]; exact (Kp.refl w5).alloc _)
 obtain ⟨w7, e7⟩ : ∃ x, w6.alloc (.cells #[.slice (some ⟨w5.heap.size, 0, none⟩) 1 1] 34) = x := ⟨_, rfl⟩
 have B7 := Lib.hid (show Blk w7 w6.heap.size [.slice (some ⟨w5.heap.size, 0, none⟩) 1 1] 34 from by rw [<- e7]; exact Blk.new w6 _ _)
 have Y7 := Lib.hid (show Ext w6 w7 from by rw [<- e7]; exact (Kp.refl w6).alloc _)
 obtain ⟨w8, e8⟩ : ∃ x, w7.alloc (.cells #[] 9) = x := ⟨_, rfl⟩
 have B8 := Lib.hid (show Blk w8 w7.heap.size [] 9 from by rw [<- e8]; exact Blk.new w7 _ _)
 have Y8 := Lib.hid (show Ext w7 w8 from by rw [<- e8]; exact (Kp.refl w7).alloc _)
 obtain ⟨w9, e9⟩ : ∃ x, w8.alloc (.cells #[.slice (some ⟨w7.heap.size, 0, none⟩) 0 0] 34) = x := ⟨_, rfl⟩
 have B9 := Lib.hid (show Blk w9 w8.heap.size [.slice (some ⟨w7.heap.size, 0, none⟩) 0 0] 34 from by rw [<- e9]; exact Blk.new w8 _ _)
 have Y9 := Lib.hid (show Ext w8 w9 from by rw [<- e9]; exact (Kp.refl w8).alloc _)
 obtain ⟨w10, e10⟩ : ∃ x, w9.alloc (.cells #[.string ⟨#[101]⟩, .int .i64 2, .slice (some ⟨w4.heap.size, 0, none⟩) 4 4, .string ⟨#[110]⟩, .int .i64 1, .slice (some ⟨w6.heap.size, 0, none⟩) 1 1, .string ⟨#[122]⟩, .int .i64 0, .slice (some ⟨w8.heap.size, 0, none⟩) 1 1] 116) = x := ⟨_, rfl⟩
 have B10 := Lib.hid (show Blk w10 w9.heap.size [.string ⟨#[101]⟩, .int .i64 2, .slice (some ⟨w4.heap.size, 0, none⟩) 4 4, .string ⟨#[110]⟩, .int .i64 1, .slice (some ⟨w6.heap.size, 0, none⟩) 1 1, .string ⟨#[122]⟩, .int .i64 0, .slice (some ⟨w8.heap.size, 0, none⟩) 1 1] 116 from by rw [<- e10]; exact Blk.new w9 _ _)
 have Y10 := Lib.hid (show Ext w9 w10 from by rw [<- e10]; exact (Kp.refl w9).alloc _)
 have HE := Lib.hid (rowsIn_of (w := w5) (g := w4.heap.size) (l := [(w.heap.size, [sA, sB]), (w1.heap.size, [sB, sC]), (w2.heap.size, [sB, sB]), (w3.heap.size, [sC, sA])]) (LL := [[sA, sB], [sB, sC], [sB, sB], [sC, sA]]) rfl B5.out (fun x hx => by
  simp only [List.mem_cons, List.not_mem_nil, or_false] at hx
  rcases hx with rfl | rfl | rfl | rfl
  ·exact ⟨B1.out.ext (Y2.out.trans (Y3.out.trans (Y4.out.trans Y5.out))), by simp⟩
  ·exact ⟨B2.out.ext (Y3.out.trans (Y4.out.trans Y5.out)), by simp⟩
  ·exact ⟨B3.out.ext (Y4.out.trans Y5.out), by simp⟩
  ·exact ⟨B4.out.ext Y5.out, by simp⟩))
 have HN := Lib.hid (rowsIn_of (w := w7) (g := w6.heap.size) (l := [(w5.heap.size, [sB])]) (LL := [[sB]]) rfl B7.out (fun x hx => by
  simp only [List.mem_cons, List.not_mem_nil, or_false] at hx
  subst hx
  exact ⟨B6.out.ext Y7.out, by simp⟩))
 have HZ := Lib.hid (rowsIn_of (w := w9) (g := w8.heap.size) (l := [(w7.heap.size, [])]) (LL := [[]]) rfl B9.out (fun x hx => by
  simp only [List.mem_cons, List.not_mem_nil, or_false] at hx
  subst hx
  exact ⟨B8.out.ext Y9.out, by simp⟩))
 have X5to10 := Lib.hid (Y6.out.trans (Y7.out.trans (Y8.out.trans (Y9.out.trans Y10.out))))
 have X7to10 := Lib.hid (Y8.out.trans (Y9.out.trans Y10.out))
 have X9to10 := Lib.hid Y10.out
 have X10 := Lib.hid (Y1.out.trans (Y2.out.trans (Y3.out.trans (Y4.out.trans (Y5.out.trans (Y6.out.trans (Y7.out.trans (Y8.out.trans (Y9.out.trans Y10.out)))))))))
 clear B1 Y1 B2 Y2 B3 Y3 B4 Y4 B5 Y5 B6 Y6 B7 Y7 B8 Y8 B9 Y9 Y10
 have hL : RelsIn TT w10 (some ⟨w9.heap.size, 0, none⟩) givenL := fun i q hq => by
  match i, hq with
  | 0, hq => cases hq; exact ⟨w9.heap.size, 0, some ⟨w4.heap.size, 0, none⟩, 4, rfl, trivial, by rw [B10.out.cell']; rfl, by rw [B10.out.cell']; rfl, by rw [B10.out.cell']; rfl, by decide, by decide, HE.out.ext (X5to10.out)⟩
  | 1, hq => cases hq; exact ⟨w9.heap.size, 0, some ⟨w6.heap.size, 0, none⟩, 1, rfl, trivial, by rw [B10.out.cell']; rfl, by rw [B10.out.cell']; rfl, by rw [B10.out.cell']; rfl, by decide, by decide, HN.out.ext (X7to10.out)⟩
  | 2, hq => cases hq; exact ⟨w9.heap.size, 0, some ⟨w8.heap.size, 0, none⟩, 1, rfl, trivial, by rw [B10.out.cell']; rfl, by rw [B10.out.cell']; rfl, by rw [B10.out.cell']; rfl, by decide, by decide, HZ.out.ext (X9to10.out)⟩
  | n + 3, hq => cases hq
 have HFr := Lib.hid (from_any givenL (some ⟨w9.heap.size, 0, none⟩) 3 3 w10 TT rfl hL (by decide) (by decide))
 clear hL
 go_enter Tryz.func26, Tryz.ntmps26
 go_wp2_with fail
 refine HFr.out.mono ?_
 rintro e w11 ⟨v, rfl, hk11, hv⟩
 obtain ⟨bb, r, S, E, rfl, hb, hC, -, -⟩ := hv.1 (by rw [given_is])
 have H11 := Lib.hid (show Ext w w11 /\ BaseAt S w11 bb r E /\ cntE E = awC from ⟨X10.out.trans hk11, hb, by rw [hC, given_is]⟩)
 clear hv hb hC hk11
 go_wp2
 go_ret
 exact RetN.mk H11.out.1 ⟨bb, E, S, rfl, .full bb r E H11.out.2.1, H11.out.2.2⟩
theorem each_known {S : Nat -> Prop} {w : World} {p : ByteArray} {hs : List TermZ} {ls : List LitZ} {ha ba : Option Addr} {hn hcap n bcap : Nat} {o : Option Addr} {E : List Ent} (hhn : hn = hs.length) (hh : TermsAt w TT ha hs) (hhl : hn ≤ 1048576) (hbn : n = ls.length) (h : LitsAt w TT ba ls) (hf : Fit ls) (hnv : (namesB ls).length ≤ 1048576) (hn16 : n ≤ 1048576)
 (hB : BaseV S w (.pointer o) E) (hC : cntE E = awC) (M : List ByteArray) (m : Nat) (hM : (bindsOf ((p, hs, ()), ls, ()) awC).map joinS = M) (hm : M.length = m) (hm2 : m ≤ 1048576) :
 Calls Tryz.prog 18 #[ruleV p ha hn hcap ba n bcap, .pointer o] w (RetN w fun w' v => ∃ ao cap, v = .slice ao m cap /\ CellsAt w' ao (strs M)) := by
 have hl : (bindsOf ((p, hs, ()), ls, ()) (cntE E)).length = m := by rw [hC, <- hm, <- hM, List.length_map]
 have h1 := each14_any (hcap := hcap) (bcap := bcap) (p := p) (L := bindsOf ((p, hs, ()), ls, ()) (cntE E)) hhn hh hhl hbn h hf hnv hn16 hB (bindsOf_is ((p, hs, ()), ls, ()) E) (by omega)
 refine h1.mono ?_
 rintro e w' ⟨v, rfl, hk, hr⟩
 rw [hl, hC, hM] at hr
 obtain ⟨ao, cap, ev, hc, _⟩ := hr.shape
 exact RetN.mk hk ⟨ao, cap, ev, hc⟩
theorem same_known (M : List ByteArray) (ao bo : Option Addr) (n acap bcap : Nat) (w : World) (hn : M.length = n) (ha : CellsAt w ao (strs M)) (hb : CellsAt w bo (strs M)) (hl : n ≤ 1048576) :
 Calls Tryz.prog 17 #[.slice ao n acap, .slice bo n bcap] w (RetN w fun w' v => v = .bool true) := by
 refine (same14_any M M ao bo n n acap bcap w hn.symm hn.symm ha hb (by omega)).mono ?_
 rintro e w' ⟨v, rfl, hk, rfl⟩
 exact RetN.mk hk (by rw [decide_eq_true rfl])
end Go.Proofs.YtinnmeiphbdogaaGreat

/- The law of joins: path: the chapter's rule, with further literals. -/
namespace Go.Proofs.YtinnmeiphbdogaaGreat
open Go.RowKit Go.Shelf
set_option linter.unusedVariables false
attribute [local go_sem] Oper.semAt_some
def fewB (ls : List LitZ) : Bool := decide ((namesB ls).length ≤ 1048576)
theorem few_of {ls : List LitZ} (h : fewB ls = true) : (namesB ls).length ≤ 1048576 := of_decide_eq_true h
def fitLB (ls : List LitZ) : Bool := decide (ls.length ≤ 64) && ls.all fun l => decide ((termsOf l).length ≤ 64)
theorem fit_of {ls : List LitZ} (h : fitLB ls = true) : Fit ls := by
 unfold fitLB at h
 rw [Bool.and_eq_true, decide_eq_true_eq] at h
 exact ⟨by omega, fun l hl => by have := of_decide_eq_true (List.all_eq_true.1 h.2 l hl); omega⟩
def pathHs : List TermZ := [((1 : Int), (⟨#[88]⟩ : ByteArray), ()), ((1 : Int), (⟨#[89]⟩ : ByteArray), ())]
def pathLs : List LitZ := [(((1) : Int), ((⟨#[101]⟩ : ByteArray), [((1 : Int), (⟨#[89]⟩ : ByteArray), ()), ((1 : Int), (⟨#[90]⟩ : ByteArray), ())], ()), (0 : Int), ((0 : Int), (⟨#[]⟩ : ByteArray), ()), ((0 : Int), (⟨#[]⟩ : ByteArray), ()), ()), (((1) : Int), ((⟨#[101]⟩ : ByteArray), [((1 : Int), (⟨#[90]⟩ : ByteArray), ()), ((1 : Int), (⟨#[88]⟩ : ByteArray), ())], ()), (0 : Int), ((0 : Int), (⟨#[]⟩ : ByteArray), ()), ((0 : Int), (⟨#[]⟩ : ByteArray), ()), ())]
theorem terms_pool {w : World} {G : Nat -> Prop} {g o : Nat} {ts : List TermZ} (h : TermsAt w TT (some ⟨g, o, none⟩) ts) (hG : G g) : TermsAt w G (some ⟨g, o, none⟩) ts := fun i x hx => by
 obtain ⟨b, off, es, e, _, hb, ha, hc⟩ := h i x hx
 cases e
 refine ⟨g, o, es, rfl, hG, hb, ?_, hc⟩
 have hf := term_fit ha
 rw [term_cells ha]
 exact term_mk hf
theorem terms_old {w : World} {G : Nat -> Prop} {a : Option Addr} {ts : List TermZ} (h : TermsAt w G a ts) : TermsAt w (fun k => k < w.heap.size) a ts := fun i x hx => by
 obtain ⟨b, off, es, e, _, hb, ha, hc⟩ := h i x hx
 refine ⟨b, off, es, e, hb, hb, ?_, hc⟩
 have hf := term_fit ha
 rw [term_cells ha]
 exact term_mk hf
theorem terms_lt {w : World} {G : Nat -> Prop} {g o : Nat} {ts : List TermZ} (h : TermsAt w G (some ⟨g, o, none⟩) ts) (hne : ts ≠ []) : g < w.heap.size := by
 cases ts with
 | nil => exact absurd rfl hne
 | cons t ts =>
  obtain ⟨b, off, es, e, _, hb, _⟩ := h 0 t rfl
  cases e; exact hb
set_option maxRecDepth 100000 in
set_option maxHeartbeats 4000000 in
theorem path_any {ls : List LitZ} {ma : Option Addr} {mn mc : Nat} {w : World} (hn : mn = ls.length) (h : LitsAt w TT ma ls) (hl : mn ≤ 65536) :
 Calls Tryz.prog 27 #[.slice ma mn mc] w (RetN w fun w' u => ∃ ha hc ba bc, u = ruleV ⟨#[116]⟩ ha 2 hc ba (2 + mn) bc /\ TermsAt w' TT ha pathHs /\ LitsAt w' TT ba (pathLs ++ ls)) := by
 obtain ⟨vs, hvs, hcs, hin⟩ := lits_flat h
 have HV := Lib.hid (And.intro hvs (And.intro hcs (And.intro hin (And.intro hn (lits_all h)))))
 clear hvs hcs hin h hn
 obtain ⟨w1, ew1⟩ : ∃ x, w.alloc (.cells #[.string ⟨#[]⟩, .slice none 0 0, .slice none 0 0] 27) = x := ⟨_, rfl⟩
 have Xw1 := Lib.hid (show Ext w w1 from by rw [<- ew1]; exact (Kp.refl w).alloc _)
 have HR := Lib.hid (show Blk w1 w.heap.size [.string ⟨#[]⟩, .slice none 0 0, .slice none 0 0] 27 from by rw [<- ew1]; exact Blk.new w _ _)
 go_enter Tryz.func27, Tryz.ntmps27
 go_wp2_with fail
 refine (v14_any ⟨#[89]⟩ w1).mono ?_
 rintro e w2 ⟨vw2, rfl, hkw2, rfl⟩
 have Xw2 := Lib.hid (show Ext w1 w2 from hkw2)
 clear hkw2
 go_wp2_with fail
 refine (v14_any ⟨#[90]⟩ w2).mono ?_
 rintro e w3 ⟨vw3, rfl, hkw3, rfl⟩
 have Xw3 := Lib.hid (show Ext w2 w3 from hkw3)
 clear hkw3
 obtain ⟨w4, ew4⟩ : ∃ x, w3.alloc (.cells #[.int .i64 1, .string ⟨#[89]⟩, .int .i64 1, .string ⟨#[90]⟩] 38) = x := ⟨_, rfl⟩
 have Xw4 := Lib.hid (show Ext w3 w4 from by rw [<- ew4]; exact (Kp.refl w3).alloc _)
 have T1 := Lib.hid (show TermsAt w4 TT (some ⟨w3.heap.size, 0, none⟩) [((1 : Int), (⟨#[89]⟩ : ByteArray), ()), ((1 : Int), (⟨#[90]⟩ : ByteArray), ())] from by rw [<- ew4]; exact terms_new w3 [((1 : Int), (⟨#[89]⟩ : ByteArray), ()), ((1 : Int), (⟨#[90]⟩ : ByteArray), ())] (by kernel_rfl))
 go_wp2_with fail
 clear ew4
 refine (pos14_any ⟨#[101]⟩ (some ⟨w3.heap.size, 0, none⟩) 2 2 w4).mono ?_
 rintro e w5 ⟨vw5, rfl, hkw5, rfl⟩
 have Xw5 := Lib.hid (show Ext w4 w5 from hkw5)
 clear hkw5
 go_wp2_with fail
 refine (v14_any ⟨#[90]⟩ w5).mono ?_
 rintro e w6 ⟨vw6, rfl, hkw6, rfl⟩
 have Xw6 := Lib.hid (show Ext w5 w6 from hkw6)
 clear hkw6
 go_wp2_with fail
 refine (v14_any ⟨#[88]⟩ w6).mono ?_
 rintro e w7 ⟨vw7, rfl, hkw7, rfl⟩
 have Xw7 := Lib.hid (show Ext w6 w7 from hkw7)
 clear hkw7
 obtain ⟨w8, ew8⟩ : ∃ x, w7.alloc (.cells #[.int .i64 1, .string ⟨#[90]⟩, .int .i64 1, .string ⟨#[88]⟩] 38) = x := ⟨_, rfl⟩
 have Xw8 := Lib.hid (show Ext w7 w8 from by rw [<- ew8]; exact (Kp.refl w7).alloc _)
 have T2 := Lib.hid (show TermsAt w8 TT (some ⟨w7.heap.size, 0, none⟩) [((1 : Int), (⟨#[90]⟩ : ByteArray), ()), ((1 : Int), (⟨#[88]⟩ : ByteArray), ())] from by rw [<- ew8]; exact terms_new w7 [((1 : Int), (⟨#[90]⟩ : ByteArray), ()), ((1 : Int), (⟨#[88]⟩ : ByteArray), ())] (by kernel_rfl))
 go_wp2_with fail
 clear ew8
 refine (pos14_any ⟨#[101]⟩ (some ⟨w7.heap.size, 0, none⟩) 2 2 w8).mono ?_
 rintro e w9 ⟨vw9, rfl, hkw9, rfl⟩
 have Xw9 := Lib.hid (show Ext w8 w9 from hkw9)
 clear hkw9
 obtain ⟨w10, ew10⟩ : ∃ x, w9.alloc (.cells #[.int .i64 1, .string ⟨#[101]⟩, .slice (some ⟨w3.heap.size, 0, none⟩) 2 2, .int .i64 0, .int .i64 0, .string ⟨#[]⟩, .int .i64 0, .string ⟨#[]⟩, .int .i64 1, .string ⟨#[101]⟩, .slice (some ⟨w7.heap.size, 0, none⟩) 2 2, .int .i64 0, .int .i64 0, .string ⟨#[]⟩, .int .i64 0, .string ⟨#[]⟩] 40) = x := ⟨_, rfl⟩
 have Xw10 := Lib.hid (show Ext w9 w10 from by rw [<- ew10]; exact (Kp.refl w9).alloc _)
 have HB := Lib.hid (show Blk w10 w9.heap.size [.int .i64 1, .string ⟨#[101]⟩, .slice (some ⟨w3.heap.size, 0, none⟩) 2 2, .int .i64 0, .int .i64 0, .string ⟨#[]⟩, .int .i64 0, .string ⟨#[]⟩, .int .i64 1, .string ⟨#[101]⟩, .slice (some ⟨w7.heap.size, 0, none⟩) 2 2, .int .i64 0, .int .i64 0, .string ⟨#[]⟩, .int .i64 0, .string ⟨#[]⟩] 40 from by rw [<- ew10]; exact Blk.new w9 _ _)
 go_wp2_with fail
 refine (v14_any ⟨#[88]⟩ w10).mono ?_
 rintro e w11 ⟨vw11, rfl, hkw11, rfl⟩
 have Xw11 := Lib.hid (show Ext w10 w11 from hkw11)
 clear hkw11
 go_wp2_with fail
 refine (v14_any ⟨#[89]⟩ w11).mono ?_
 rintro e w12 ⟨vw12, rfl, hkw12, rfl⟩
 have Xw12 := Lib.hid (show Ext w11 w12 from hkw12)
 clear hkw12
 obtain ⟨w13, ew13⟩ : ∃ x, w12.alloc (.cells #[.int .i64 1, .string ⟨#[88]⟩, .int .i64 1, .string ⟨#[89]⟩] 38) = x := ⟨_, rfl⟩
 have Xw13 := Lib.hid (show Ext w12 w13 from by rw [<- ew13]; exact (Kp.refl w12).alloc _)
 have T3 := Lib.hid (show TermsAt w13 TT (some ⟨w12.heap.size, 0, none⟩) [((1 : Int), (⟨#[88]⟩ : ByteArray), ()), ((1 : Int), (⟨#[89]⟩ : ByteArray), ())] from by rw [<- ew13]; exact terms_new w12 [((1 : Int), (⟨#[88]⟩ : ByteArray), ()), ((1 : Int), (⟨#[89]⟩ : ByteArray), ())] (by kernel_rfl))
 have hgL : w9.heap.size < w10.heap.size := HB.out.lt
 have hg0 : w.heap.size < w1.heap.size := HR.out.lt
 have hg1 : w.heap.size < w9.heap.size := by have h2 := (Xw2.out.trans (Xw3.out.trans (Xw4.out.trans (Xw5.out.trans (Xw6.out.trans (Xw7.out.trans (Xw8.out.trans Xw9.out))))))).size; omega
 have HX := Lib.hid (show Ext w w13 /\ Row w13 40 8 (.slice (some ⟨w9.heap.size, 0, none⟩) 2 2) 2 ((pathLs.zip [((some ⟨w3.heap.size, 0, none⟩ : Option Addr), 2), ((some ⟨w7.heap.size, 0, none⟩ : Option Addr), 2)]).flatMap litC) (New w) /\ Blk w13 w.heap.size [.string ⟨#[]⟩, .slice none 0 0, .slice none 0 0] 27 /\ w.heap.size < w9.heap.size from
  ⟨(Xw1.out.trans (Xw2.out.trans (Xw3.out.trans (Xw4.out.trans (Xw5.out.trans (Xw6.out.trans (Xw7.out.trans (Xw8.out.trans (Xw9.out.trans (Xw10.out.trans (Xw11.out.trans (Xw12.out.trans Xw13.out)))))))))))), ⟨rfl, .inr ⟨_, 2, [], rfl, Nat.le_of_lt hg1, by rw [List.append_nil]; exact HB.out.ext (Xw11.out.trans (Xw12.out.trans Xw13.out)), rfl, Nat.le_refl _, by decide⟩⟩, HR.out.ext (Xw2.out.trans (Xw3.out.trans (Xw4.out.trans (Xw5.out.trans (Xw6.out.trans (Xw7.out.trans (Xw8.out.trans (Xw9.out.trans (Xw10.out.trans (Xw11.out.trans (Xw12.out.trans Xw13.out))))))))))), hg1⟩)
 have HP0 := Lib.hid (terms_pool (G := (fun k => k ≠ w9.heap.size /\ k ≠ w.heap.size)) (T1.out.ext (Xw5.out.trans (Xw6.out.trans (Xw7.out.trans (Xw8.out.trans (Xw9.out.trans (Xw10.out.trans (Xw11.out.trans (Xw12.out.trans Xw13.out))))))))) ⟨by have h1 := terms_lt T1.out (by simp); have h2 := (Xw5.out.trans (Xw6.out.trans (Xw7.out.trans (Xw8.out.trans Xw9.out)))).size; omega, by have h3 := (Xw2.out.trans Xw3.out).size; omega⟩)
 have HP1 := Lib.hid (terms_pool (G := (fun k => k ≠ w9.heap.size /\ k ≠ w.heap.size)) (T2.out.ext (Xw9.out.trans (Xw10.out.trans (Xw11.out.trans (Xw12.out.trans Xw13.out))))) ⟨by have h1 := terms_lt T2.out (by simp); have h2 := Xw9.out.size; omega, by have h3 := (Xw2.out.trans (Xw3.out.trans (Xw4.out.trans (Xw5.out.trans (Xw6.out.trans Xw7.out))))).size; omega⟩)
 have HPh := Lib.hid (terms_pool (G := (fun k => k ≠ w9.heap.size /\ k ≠ w.heap.size)) (T3.out.ext (Kp.refl w13)) ⟨by have h2 := (Xw11.out.trans Xw12.out).size; omega, by have h2 := (Xw11.out.trans Xw12.out).size; omega⟩)
 clear HB HR hgL hg0 hg1 Xw1 Xw2 Xw3 Xw4 Xw5 Xw6 Xw7 Xw8 Xw9 Xw10 Xw11 Xw12 Xw13 T1 T2 T3
 go_wp2_with (first | (at_builtin; refine Halted.out ?_))
 clear ew13 ew10
 refine Halted.mk (wp_appN (m := mn) (n := 2) elem_lit rfl _ _ rfl HX.out.1 rfl HX.out.2.1 rfl (HV.out.2.1.ext HX.out.1) (by rw [flat_len litC 8 litC_len, List.length_zip, HV.out.1, Nat.min_self, HV.out.2.2.2.1]) (fun u hu => by obtain ⟨x, _, hx⟩ := List.mem_flatMap.1 hu; exact litC_one x u hx) (by omega) (by unfold maxLen; omega) ?_)
 intro vA wA hrA hkA hkB _
 have hRA : Blk wA w.heap.size [.string ⟨#[]⟩, .slice none 0 0, .slice none 0 0] 27 := HX.out.2.2.1.kp hkB fun hg => by
  obtain ⟨cs, hb⟩ := rowBlk HX.out.2.1 hg
  exact typ_lrC (blk_ne hb HX.out.2.2.1)
 have hoff : ∀ k, (fun k => k ≠ w9.heap.size /\ k ≠ w.heap.size) k -> ¬ (Value.slice (some ⟨w9.heap.size, 0, none⟩) 2 2).ownBlock = some k := fun k hk e => by cases e; exact hk.1 rfl
 obtain ⟨h1, ⟨_, h0⟩ | ⟨gb, cap2, rest, rfl, hM, hBB, hlen, hnc, hcm⟩⟩ := hrA
 ·omega
 ·have HF := Lib.hid (show Ext w wA /\ Blk wA w.heap.size [.string ⟨#[]⟩, .slice none 0 0, .slice none 0 0] 27 /\ TermsAt wA (fun k => k ≠ w9.heap.size /\ k ≠ w.heap.size) (some ⟨w12.heap.size, 0, none⟩) pathHs /\ Blk wA gb (((pathLs ++ ls).zip ([((some ⟨w3.heap.size, 0, none⟩ : Option Addr), 2), ((some ⟨w7.heap.size, 0, none⟩ : Option Addr), 2)] ++ vs)).flatMap litC ++ rest) 40 /\ (∀ x ∈ (pathLs ++ ls).zip ([((some ⟨w3.heap.size, 0, none⟩ : Option Addr), 2), ((some ⟨w7.heap.size, 0, none⟩ : Option Addr), 2)] ++ vs), TermsAt wA (fun k => k ≠ w9.heap.size /\ k ≠ w.heap.size) x.2.1 (termsOf x.1) /\ (termsOf x.1).length ≤ x.2.2 /\ x.2.2 ≤ maxLen) from by
   refine ⟨hkA, hRA, HPh.out.kp hkB hoff, ?_, fun x hx => ?_⟩
   ·rw [List.zip_append (by rfl), List.flatMap_append]; exact hBB
   ·rw [List.zip_append (by rfl)] at hx
    rcases List.mem_append.1 hx with hx | hx
    ·have hx' : x ∈ [((((1) : Int), ((⟨#[101]⟩ : ByteArray), [((1 : Int), (⟨#[89]⟩ : ByteArray), ()), ((1 : Int), (⟨#[90]⟩ : ByteArray), ())], ()), (0 : Int), ((0 : Int), (⟨#[]⟩ : ByteArray), ()), ((0 : Int), (⟨#[]⟩ : ByteArray), ()), ()), ((some ⟨w3.heap.size, 0, none⟩ : Option Addr), 2)), ((((1) : Int), ((⟨#[101]⟩ : ByteArray), [((1 : Int), (⟨#[90]⟩ : ByteArray), ()), ((1 : Int), (⟨#[88]⟩ : ByteArray), ())], ()), (0 : Int), ((0 : Int), (⟨#[]⟩ : ByteArray), ()), ((0 : Int), (⟨#[]⟩ : ByteArray), ()), ()), ((some ⟨w7.heap.size, 0, none⟩ : Option Addr), 2))] := hx
     simp only [List.mem_cons, List.not_mem_nil, or_false] at hx'
     rcases hx' with rfl | rfl
     ·exact ⟨HP0.out.kp hkB hoff, Nat.le_refl _, (by decide : 2 ≤ maxLen)⟩
     ·exact ⟨HP1.out.kp hkB hoff, Nat.le_refl _, (by decide : 2 ≤ maxLen)⟩
    ·have hi := HV.out.2.2.1 x hx
     exact ⟨((terms_old hi.terms).mono fun k hk => ⟨by have := HX.out.2.2.2; omega, by omega⟩).ext hkA, hi.len, hi.cap⟩)
  have p0 : wA.cell? ⟨w.heap.size, 0, none⟩ = some (.string ⟨#[]⟩) := by rw [hRA.cell']; rfl
  have p1 : wA.cell? ⟨w.heap.size, 1, none⟩ = some (.slice none 0 0) := by rw [hRA.cell']; rfl
  have p2 : wA.cell? ⟨w.heap.size, 2, none⟩ = some (.slice none 0 0) := by rw [hRA.cell']; rfl
  clear h1 hM hBB hlen hnc hcm hkA hkB hRA hoff
  go_wp2_with fail
  refine (rule14_any (some ⟨w12.heap.size, 0, none⟩) (some ⟨gb, 0, none⟩) 2 2 (2 + mn) cap2 wA).mono ?_
  rintro e wB ⟨vB, rfl, hkC, rfl⟩
  have HRB := Lib.hid (HF.out.2.1.ext hkC)
  have XB := Lib.hid hkC
  have c0 : wB.cell? ⟨w.heap.size, 0, none⟩ = some (.string ⟨#[]⟩) := by rw [HRB.out.cell']; rfl
  have c1 : wB.cell? ⟨w.heap.size, 1, none⟩ = some (.slice none 0 0) := by rw [HRB.out.cell']; rfl
  have c2 : wB.cell? ⟨w.heap.size, 2, none⟩ = some (.slice none 0 0) := by rw [HRB.out.cell']; rfl
  have f0 := HRB.out.free 0
  have f1 := HRB.out.free 1
  have f2 := HRB.out.free 2
  clear hkC p0 p1 p2
  go_wp2
  obtain ⟨Z, eZ⟩ : ∃ x, (((wB.setCell ⟨w.heap.size, 0, none⟩ (.string ⟨#[116]⟩)).setCell ⟨w.heap.size, 1, none⟩ (.slice (some ⟨w12.heap.size, 0, none⟩) 2 2)).setCell ⟨w.heap.size, 2, none⟩ (.slice (some ⟨gb, 0, none⟩) (2 + mn) cap2)) = x := ⟨_, rfl⟩
  have hBZ : Blk Z w.heap.size [.string ⟨#[116]⟩, .slice (some ⟨w12.heap.size, 0, none⟩) 2 2, .slice (some ⟨gb, 0, none⟩) (2 + mn) cap2] 27 := by
   rw [<- eZ]; exact ((HRB.out.set 0 _).set 1 _).set 2 _
  have kZ : Kp (fun k => k = w.heap.size) wB Z := by
   rw [<- eZ]
   exact Kp.setCell (F := fun k => k = w.heap.size) (p := ⟨w.heap.size, 2, none⟩) (Kp.setCell (F := fun k => k = w.heap.size) (p := ⟨w.heap.size, 1, none⟩) (Kp.setCell (F := fun k => k = w.heap.size) (p := ⟨w.heap.size, 0, none⟩) (Kp.refl wB) (fun _ => rfl) _) (fun _ => rfl) _) (fun _ => rfl) _
  have d0 : Z.cell? ⟨w.heap.size, 0, none⟩ = some (.string ⟨#[116]⟩) := by rw [hBZ.cell']; rfl
  have d1 : Z.cell? ⟨w.heap.size, 1, none⟩ = some (.slice (some ⟨w12.heap.size, 0, none⟩) 2 2) := by rw [hBZ.cell']; rfl
  have d2 : Z.cell? ⟨w.heap.size, 2, none⟩ = some (.slice (some ⟨gb, 0, none⟩) (2 + mn) cap2) := by rw [hBZ.cell']; rfl
  rw [eZ]
  have hno : ∀ k, (fun k => k ≠ w9.heap.size /\ k ≠ w.heap.size) k -> ¬ k = w.heap.size := fun k hk => hk.2
  have hgb : ¬ gb = w.heap.size := fun e => by
   have hb := HF.out.2.2.2.1
   rw [e] at hb
   exact typ_lrC (blk_ne hb HF.out.2.1)
  refine bodyPost_ret (v := ruleV ⟨#[116]⟩ (some ⟨w12.heap.size, 0, none⟩) 2 2 (some ⟨gb, 0, none⟩) (2 + mn) cap2) (by simp [results, Tryz.results27, go_sem, d0, d1, d2]) rfl ?_
  refine RetN.mk ((HF.out.1.trans XB.out).trans' kZ fun i hi e => by have e' : i = w.heap.size := e; omega) ⟨_, _, _, _, rfl, ((HF.out.2.2.1.ext XB.out).kp kZ hno).mono fun _ _ => trivial, ?_⟩
  refine lits_cells (vs := [((some ⟨w3.heap.size, 0, none⟩ : Option Addr), 2), ((some ⟨w7.heap.size, 0, none⟩ : Option Addr), 2)] ++ vs) (rest := rest) (e := 40) (by rw [List.length_append, List.length_append, HV.out.1]; rfl) (fun l hl => ?_) (fun x hx => ?_) trivial ((HF.out.2.2.2.1.ext XB.out).kp kZ hgb)
  ·rcases List.mem_append.1 hl with hl | hl
   ·exact litFitB_all (ls := pathLs) (by kernel_rfl) l hl
   ·exact HV.out.2.2.2.2 l hl
  ·obtain ⟨q1, q2, q3⟩ := HF.out.2.2.2.2 x hx
   exact ⟨((q1.ext XB.out).kp kZ hno).mono fun _ _ => trivial, q2, q3⟩
end Go.Proofs.YtinnmeiphbdogaaGreat
