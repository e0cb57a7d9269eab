/- Texts joined for a claim (AllWalk, Over, Each, HeadWalk, FactsAux, FactsPlain, FactsRound, Facts, AggInv, AggRest, AggRound, AggTail). -/
import Derived.Test.YtikgpedgmnbcaaaGreatDoorAw7
set_option linter.unusedVariables false
set_option linter.unusedSimpArgs false
set_option maxRecDepth 100000
namespace Go.Proofs.YtikgpedgmnbcaaaGreatDoor
section
open Go.RowKit Go.Shelf
theorem aB7 {C : WCtx} (hC : C.Ok) {l n : Nat} (hY : C.Yields l n) : ∀ (m v : Nat), v + m = C.M.N.length -> C.From v
 | 0, v, h => oZ hC hY (by omega) fun h2 => by omega
 | m + 1, v, h => oZ hC hY (by omega) fun _ => aB7 hC hY m (v + 1) (by omega)
def aGh (J Jx : (Nat -> Prop) -> List XB -> World -> Prop) (Lall : aC) (e : Ending) (W' : World) : Prop :=
 (∃ v, e = .returned v) /\ ∃ T W1, Kp T W1 W' /\ ((∃ xs : List XB, xs.map Prod.snd = Lall /\ J T xs W1) \/ (∃ pre : List XB, pre.map Prod.snd <+: Lall /\ Jx T pre W1))
structure AllAt (M : MatchZ) (W : World) (wb mb rb : Nat) (yv : Value) (m : Nat) (cv : Value) (cb : Nat -> Nat) (w : World) : Prop where
 box : Blk w wb [.pointer (some ⟨mb, 0, none⟩), cv, .slice (some ⟨rb, 0, none⟩) M.N.length M.N.length, yv] 286
 row : Blk w rb (strs (List.replicate M.N.length ⟨#[]⟩)) 9
 curs : Row w 288 1 cv m (vN cb m) (fun g => W.heap.size ≤ g)
 cur : ∀ (j : Nat) t, j < m -> M.Ts[j]? = some t -> CurS w (cb j) t.tb [] (.slice none 0 0) /\ W.heap.size ≤ cb j
 inj : ∀ i j, i < m -> j < m -> cb i = cb j -> i = j
 kp : Ext W w
theorem AllAt.push {M : MatchZ} {W w w3 w4 : World} {wb mb rb m cb3 : Nat} {yv cv lv : Value} {cb : Nat -> Nat} {t : TrieZ} {e3 : Array Value} (h : AllAt M W wb mb rb yv m cv cb w) (hlo : W.heap.size ≤ wb) (ht : M.Ts[m]? = some t) (h3 : Ext w w3) (hn : w.heap.size ≤ cb3) (hc : CurAt w3 cb3 t.tb [] (.slice none 0 0) (fun k => w.heap.size ≤ k))
 (hr : Row w4 288 1 lv (m + 1) (vN cb m ++ [.pointer (some ⟨cb3, 0, none⟩)]) (fun g => cv.ownBlock = some g \/ (w3.alloc (.cells e3 288)).heap.size ≤ g)) (hk : Kp (fun g => cv.ownBlock = some g) (w3.alloc (.cells e3 288)) w4) :
 AllAt M W wb mb rb yv (m + 1) lv (cH cb m cb3) (w4.setCell ⟨wb, 1, none⟩ lv) := by
 obtain ⟨t1, t2, t3, t4, t5, t6, t7, t8, t9⟩ := aFt
 have x4 : Ext w (w3.alloc (.cells e3 288)) := h3.alloc _
 have own : ∀ g, cv.ownBlock = some g -> ∃ cs, Blk w g cs 288 := fun g hg => aQ h.curs hg
 have kx : Kp (fun g => cv.ownBlock = some g) w w4 := (Ext.kp x4).trans hk
 have ks : Kp (fun k => k = wb) w4 (w4.setCell ⟨wb, 1, none⟩ lv) := kSa
 have hsz := h3.size
 have hsW := h.kp.size
 have hbx : Blk w4 wb [.pointer (some ⟨mb, 0, none⟩), cv, .slice (some ⟨rb, 0, none⟩) M.N.length M.N.length, yv] 286 := h.box.kp kx fun hg => by
  obtain ⟨cs, hb⟩ := own _ hg
  exact t9 (aK h.box hb)
 have hrb : Blk w4 rb (strs (List.replicate M.N.length ⟨#[]⟩)) 9 := h.row.kp kx fun hg => by
  obtain ⟨cs, hb⟩ := own _ hg
  exact t8 (aK hb h.row)
 have notB : ∀ (c : Nat) (tb : Nat), CurAt w4 c tb [] (.slice none 0 0) (fun k => (Value.slice none 0 0).ownBlock = some k) -> ∀ k, gV c (.slice none 0 0) k -> ¬ k = wb := fun c tb hc k hk e => by
  rw [e] at hk
  exact hc.notB hbx t1 t2 hk
 have e1 : vN (cH cb m cb3) (m + 1) = vN cb m ++ [.pointer (some ⟨cb3, 0, none⟩)] := by
  unfold vN
  rw [List.range_succ, List.map_append, List.map_singleton, upd_same]
  congr 1
  refine List.map_congr_left fun j hj => ?_
  rw [aH _ _ (by have := List.mem_range.1 hj; omega)]
 refine ⟨hbx.set 1 lv, hrb.kp ks fun e => t7 (aK hbx (by rw [<- e]; exact hrb)), ?_, fun j u hj hu => ?_, fun i j hi hj he => ?_, ?_⟩
 ·rw [e1]
  refine (hr.kp' ks fun g hg _ e => ?_).mono fun g hg => ?_
  ·obtain ⟨cs, hb⟩ := aQ hr hg
   have e' : g = wb := e
   rw [e'] at hb
   exact t9 (aK hbx hb)
  ·rcases hg with hg | hg
   ·exact h.curs.block g hg
   ·rw [aI] at hg; omega
 ·by_cases e : j = m
  ·subst e
   rw [ht] at hu; cases hu
   rw [upd_same]
   have hc4 : CurS w4 cb3 t.tb [] (.slice none 0 0) := ((hc.ext ((Kp.refl w3).alloc _)).kp hk fun k hk1 hk2 => by
    rcases hk1 with rfl | hk1
    ·obtain ⟨cs, hb⟩ := own _ hk2
     have := hb.lt
     omega
    ·cases hk1).own
   exact ⟨hc4.kp ks (notB _ _ hc4), by omega⟩
  ·rw [aH _ _ e]
   obtain ⟨h1, h2⟩ := h.cur j u (by omega) hu
   have hc4 : CurS w4 (cb j) u.tb [] (.slice none 0 0) := h1.kp kx fun k hk1 hk2 => by
    obtain ⟨cs, hb⟩ := own _ hk2
    exact h1.notB hb t5 t6 hk1
   exact ⟨hc4.kp ks (notB _ _ hc4), h2⟩
 ·have old : ∀ j, j < m -> j < M.Ts.length -> cb j < w.heap.size := fun j hj hjT => (h.cur j _ hj (qG hjT)).1.box.lt
  have hmT := (List.getElem?_eq_some_iff.1 ht).1
  by_cases e : i = m
  ·by_cases e2 : j = m
   ·omega
   ·rw [e, upd_same, aH _ _ e2] at he
    have := old j (by omega) (by omega)
    omega
  ·by_cases e2 : j = m
   ·rw [e2, upd_same, aH _ _ e] at he
    have := old i (by omega) (by omega)
    omega
   ·rw [aH _ _ e, aH _ _ e2] at he
    exact h.inj i j (by omega) (by omega) he
 ·refine (h.kp.trans' kx fun i hi hg => ?_).trans' ks fun i hi hg => ?_
  ·have := h.curs.block i hg
   omega
  ·have e : i = wb := hg
   omega
theorem AllAt.walk {M : MatchZ} {W w : World} {wb mb rb : Nat} {yv cv : Value} {cb : Nat -> Nat} (h : AllAt M W wb mb rb yv M.Ts.length cv cb w) (hlo : W.heap.size ≤ wb) (hlr : W.heap.size ≤ rb) : WalkAt w wb mb M yv cv rb (List.replicate M.N.length ⟨#[]⟩) cb (fun _ => .slice none 0 0) (fun _ => []) /\ ∀ k, aIf wb rb M.Ts.length cv cb (fun _ => .slice none 0 0) k -> W.heap.size ≤ k := by
 refine ⟨⟨h.box, h.row, List.length_replicate, h.curs.ownB, fun j t ht => (h.cur j t (List.getElem?_eq_some_iff.1 ht).1 ht).1, fun i j hi hj hne => ⟨fun e => hne (h.inj i j hi hj e), fun k hk => by cases hk⟩⟩, fun k hk => ?_⟩
 rcases hk with rfl | rfl | hk | ⟨j, hj, hk | hk⟩
 ·exact hlo
 ·exact hlr
 ·exact h.curs.block k hk
 ·rw [hk]; exact (h.cur j _ hj (qG hj)).2
 ·cases hk
def AllR (M : MatchZ) (W : World) (wb mb rb : Nat) (yv : Value) (iv : Value) (w : World) : Prop := ∃ (m : Nat) (cv : Value) (cb : Nat -> Nat), m ≤ M.Ts.length /\ iv = .int .i64 m /\ Hid (AllAt M W wb mb rb yv m cv cb w)
set_option maxHeartbeats 4000000 in
theorem aLd {Z : Nat -> Prop} {M : MatchZ} {A : MAddr} {mb : Nat} {w0 W : World} {J Jx : (Nat -> Prop) -> List XB -> World -> Prop} {Lall : aC} {l n : Nat} (hZ : ∀ k, Z k -> k < W.heap.size) (hW : Kp (fun k => ¬ Z k) w0 W) (hmat : ∀ W', Kp (fun k => ¬ Z k) w0 W' -> MatchAt W' mb M A) (hM : MatchOk M) (hL : AllB (lP M) [] Lall)
 (hY : ∀ T T' pre x W1 W2, J T pre W1 -> Kp T W1 W2 -> (∀ k, T' k -> sJ T W1 W2 k) -> GvRow W1 T' W2 x -> (pre ++ [x]).map Prod.snd <+: Lall -> YieldAt Fence.wide n Tryz.prog l (encX x) W2 fun e W' =>
  (e = .returned (.bool true) /\ J T' (pre ++ [x]) W' /\ Kp (fun k => ¬ fT Z T' k) W2 W') \/ (e = .returned (.bool false) /\ Jx T' (pre ++ [x]) W' /\ Kp (fun k => ¬ fT Z T' k) W2 W')) (hJ : J (fun _ => False) [] W) :
 Calls Tryz.prog 198 #[.pointer (some ⟨mb, 0, none⟩), .func (.yield l) #[] #[]] W (aGh J Jx Lall) := by
 have hm := hmat W hW
 have c0 := hm.c0
 have c1 := hm.c1
 have hfew := hm.few
 obtain ⟨nv, env⟩ : ∃ x, M.N.length = x := ⟨_, rfl⟩
 obtain ⟨nT, enT⟩ : ∃ x, M.Ts.length = x := ⟨_, rfl⟩
 rw [env] at c0 hfew
 rw [enT] at c1 hfew
 have hnv := hfew.1
 have hnT := hfew.2.1
 clear hfew
 have HP := qH hm.ptrs
 have HT := qH hm.tries
 clear hm
 obtain ⟨w1, e1⟩ : ∃ x, W.alloc (.cells (List.replicate (nv * 1) (.string ⟨#[]⟩)).toArray 9) = x := ⟨_, rfl⟩
 obtain ⟨rb, erb⟩ : ∃ x, W.heap.size = x := ⟨_, rfl⟩
 have hmk := iU (P := Tryz.prog) dM (c := .string ⟨#[]⟩) rfl nv (by omega) (by unfold maxLen; omega) W
 rw [e1, erb] at hmk
 have hx1 : Ext W w1 := by rw [<- e1]; exact (Kp.refl W).alloc _
 have hB1 : Blk w1 rb (strs (List.replicate nv ⟨#[]⟩)) 9 := by
  have h1 := Blk.new W (List.replicate (nv * 1) (.string ⟨#[]⟩)) 9
  have h2 : List.replicate (nv * 1) (Value.string ⟨#[]⟩) = strs (List.replicate nv ⟨#[]⟩) := by unfold strs; rw [List.map_replicate, Nat.mul_one]
  rw [<- e1, <- erb, <- h2]; exact h1
 obtain ⟨w2, e2⟩ : ∃ x, w1.alloc (.cells #[.pointer (some ⟨mb, 0, none⟩), .slice none 0 0, .slice (some ⟨rb, 0, none⟩) nv nv, .func (.yield l) #[] #[]] 286) = x := ⟨_, rfl⟩
 obtain ⟨wb, ewb⟩ : ∃ x, w1.heap.size = x := ⟨_, rfl⟩
 have hx2 : Ext w1 w2 := by rw [<- e2]; exact (Kp.refl w1).alloc _
 have hB2 : Blk w2 wb [.pointer (some ⟨mb, 0, none⟩), .slice none 0 0, .slice (some ⟨rb, 0, none⟩) nv nv, .func (.yield l) #[] #[]] 286 := by rw [<- e2, <- ewb]; exact Blk.new w1 _ _
 have hA := qH (show AllAt M W wb mb rb (.func (.yield l) #[] #[]) 0 (.slice none 0 0) (fun _ => 0) w2 from ⟨by rw [env]; exact hB2, by rw [env]; exact hB1.ext hx2, Row.nil _ _ _ _, fun j t hj => by omega, fun i j hi => by omega, hx1.trans hx2⟩)
 have c0' := hx1.cell c0 id
 have c1' := (hx1.trans hx2).cell c1 id
 have hlo : W.heap.size ≤ wb := by rw [<- ewb]; exact hx1.size
 have HLo := qH hlo
 clear hB1 hB2 hlo
 go_enter Tryz.func198, Tryz.ntmps198
 go_wp2
 clear e1 e2 ewb hmk
 go_loopw [22] (fun iv wr => AllR M W wb mb rb (.func (.yield l) #[] #[]) iv wr) (fun iv _ => nT - (intOf iv).toNat)
 case atStart => exact ⟨0, _, _, Nat.zero_le _, rfl, hA⟩
 case round =>
  obtain ⟨m, cv, cb, hm, rfl, hA2⟩ := hrel
  rw [enT] at hm
  obtain ⟨ca, cc, ecv, hcc, hccap⟩ := hA2.out.curs.shape
  subst ecv
  by_cases hlt : m < nT
  ·obtain ⟨t, ht⟩ : ∃ t, M.Ts[m]? = some t := ⟨_, qG (by rw [enT]; exact hlt)⟩
   obtain ⟨tb0, to0, eta, t0⟩ := (HP.out.ext hA2.out.kp) m (kP t) (by rw [List.getElem?_map, ht]; rfl)
   rw [eta]
   unfold kP at t0
   have HWk := qH (fun W' (hW' : Ext wr W') => aIj (((HT.out t (List.mem_of_getElem? ht)).ext hA2.out.kp).ext hW'))
   have HJ := qH (show ∀ w', Ext wr w' -> (fun w' : World => w'.cell? ⟨wb, 1, none⟩ = some (.slice ca m cc)) w' from fun w' hw' => by
    show w'.cell? ⟨wb, 1, none⟩ = some (.slice ca m cc)
    rw [(hA2.out.box.ext hw').cell']; rfl)
   have HTt := qH ht
   have HNo := qH (show (Value.slice ca m cc).ownBlock ≠ some wb from fun h => by
    obtain ⟨cs, hb⟩ := aQ hA2.out.curs h
    exact aFt.2.2.2.2.2.2.2.2 (aK hA2.out.box hb))
   have b1 := HJ.out wr (Kp.refl _)
   clear ht hcc eta
   go_wp2
   refine bB (fun w' : World => w'.cell? ⟨wb, 1, none⟩ = some (.slice ca m cc)) [8, 9, 10, 11] (by kernel_rfl) (HJ.out _ (Kp.refl wr).drew) (fun hHeld => ?_)
   refine dF 0 ?_; try simp only [Act.put,sI,sZ,sS]
   refine dF 1 ?_; try simp only [Act.put,sI,sZ,sS]
   refine dF 2 ?_; try simp only [Act.put,sI,sZ,sS]
   refine dF 3 ?_; try simp only [Act.put,sI,sZ,sS]
   refine dI 4 ?_; try simp only [Act.put,sI,sZ,sS]
   refine dF 5 ?_; try simp only [Act.put,sI,sZ,sS]
   refine aF (i := 6) ?_
   refine aG (i := 6) rfl (fun K hK => ?_)
   go_simp
   (refine (HWk.out _ (Kp.refl wr).drew).mono ?_; rintro e w3 ⟨v3, rfl, hk3, cb3, rfl, hn3, hcur3⟩; have X1 := qH (And.intro (show Ext wr w3 from ((Kp.refl wr).drew).trans hk3) (And.intro (show wr.heap.size ≤ cb3 from hn3) hcur3)); clear hk3 hn3 hcur3)
   go_wp2_with fail
   refine hK.out _ _ ?_ (fun hHeld => ?_)
   ·(try dsimp only); (exact HJ.out _ X1.out.1)
   clear hK K; (try simp only [Act.put,sI,sZ,sS])
   refine aF (i := 7) ?_
   refine aG (i := 7) rfl (fun K hK => ?_)
   go_simp
   refine hK.out _ _ ?_ (fun hHeld => ?_)
   ·(try dsimp only); (exact HJ.out _ (X1.out.1.alloc _))
   clear hK K; (try simp only [Act.put,sI,sZ,sS])
   refine aF (i := 8) ?_
   refine aJ (i := 8) rfl (by kernel_rfl) (fun K hK => ?_)
   refine iE (m := 1) (n := m) xX rfl _ _ rfl rfl ((hA2.out.curs.ext X1.out.1).alloc _) rfl (CellsAt.one w3 _ _) (by rfl) (by simp; rfl) (by omega) (by unfold maxLen; omega) ?_; intro v4 w4 hr4 hk4; obtain ⟨la4, lcap4, elv4, _, _⟩ := hr4.shape; subst elv4; have HB4 := qH (show Blk w4 wb [.pointer (some ⟨mb, 0, none⟩), .slice ca m cc, .slice (some ⟨rb, 0, none⟩) M.N.length M.N.length, .func (.yield l) #[] #[]] 286 from ((hA2.out.box.ext X1.out.1).alloc _).kp hk4 (fun h2 => HNo.out h2)); have X2 := qH (And.intro hr4 hk4); have y1 : w4.cell? ⟨wb, 1, none⟩ = some (.slice ca m cc) := (by rw [HB4.out.cell']; rfl); have yf := HB4.out.free 1; clear hr4 hk4
   refine hK.out _ _ ?_
   clear hK K; (try simp only [Act.put,sI,sZ,sS])
   refine aF (i := 9) ?_
   refine aJ (i := 9) rfl (by kernel_rfl) (fun K hK => ?_)
   go_simp
   refine hK.out _ _ ?_
   clear hK K; (try simp only [Act.put,sI,sZ,sS])
   refine aF (i := 10) ?_
   refine aJ (i := 10) rfl (by kernel_rfl) (fun K hK => ?_)
   go_simp
   refine hK.out _ _ ?_
   clear hK K; (try simp only [Act.put,sI,sZ,sS])
   refine aF (i := 11) ?_
   refine aJ (i := 11) rfl (by kernel_rfl) (fun K hK => ?_)
   go_simp
   refine hK.out _ _ ?_
   clear hK K; (try simp only [Act.put,sI,sZ,sS])
   refine aN (by kernel_rfl) ?_ _
   clear hHeld
   have HP2 := qH (AllAt.push hA2.out HLo.out HTt.out X1.out.1 X1.out.2.1 X1.out.2.2 X2.out.1 X2.out.2)
   obtain ⟨w5, e5⟩ : ∃ x, w4.setCell ⟨wb, 1, none⟩ (.slice la4 (m + 1) lcap4) = x := ⟨_, rfl⟩
   rw [e5] at HP2 ⊢
   clear e5 y1 yf
   go_wp2
   go_roundw
   case rel => exact ⟨m + 1, _, _, by rw [enT]; omega, by first | rfl | (congr 1; done) | (congr 1; omega), HP2⟩
   case measure => simp [intOf]; omega
  ·obtain rfl : m = nT := by omega
   have hA3 := hA2.out
   rw [<- enT] at hA3
   obtain ⟨hwalk, hnew⟩ := hA3.walk HLo.out (by rw [erb]; exact Nat.le_refl _)
   obtain ⟨C, eC⟩ : ∃ C : WCtx, C = ⟨Z, W.heap.size, M, A, wb, mb, rb, .func (.yield l) #[] #[], .slice ca M.Ts.length cc, cb, J, Jx, Lall, w0⟩ := ⟨_, rfl⟩
   have hCok : C.Ok := by subst eC; exact ⟨hZ, hmat, hM⟩
   have hCY : C.Yields l n := by subst eC; exact ⟨rfl, hY⟩
   have hAt : C.At (fun _ => .slice none 0 0) (List.replicate M.N.length ⟨#[]⟩) (fun _ => []) wr := by subst eC; exact ⟨hwalk, hnew, hW.trans' hA2.out.kp fun i _ hi => hi.elim⟩
   have hFr := aB7 hCok hCY M.N.length 0 (by subst eC; exact Nat.zero_add _) [] (fun _ => False) (fun _ => .slice none 0 0) _ (fun _ => []) [] Lall wr rfl hAt (by rw [List.take_zero]) (fun j t ht => by
    rw [aH3]; exact PathOk.nil) (fun k hk => by omega) (by subst eC; exact hL) ⟨[], by subst eC; simp⟩ ⟨fun _ => False, W, by subst eC; exact hJ, hA2.out.kp, fun k hk => by
     rcases hk with hk | hk
     ·refine .inr ?_
      have := hAt.new k hk
      subst eC; exact this
     ·exact hk.elim⟩ ⟨fun k hk => hk.elim, fun k _ hk => hk, fun k hk => hk.elim⟩
   have HFr := qH (show Calls Tryz.prog 215 #[.pointer (some ⟨wb, 0, none⟩), .int .i64 0] wr (aGh J Jx Lall) from by
    have e1 : C.wb = wb := by subst eC; rfl
    rw [e1] at hFr
    refine hFr.mono ?_
    rintro e w' ⟨b, ov', R', rfl, hk, -, -, -, hE⟩
    refine ⟨⟨_, rfl⟩, ?_⟩
    subst eC
    rcases hE with ⟨-, xs, h1, T, W1, h2, h3, -⟩ | ⟨-, pre', h1, T, W1, h2, h3, -⟩
    ·exact ⟨T, W1, h3, .inl ⟨xs, h1, h2⟩⟩
    ·exact ⟨T, W1, h3, .inr ⟨pre', h1, h2⟩⟩)
   clear hA3 hwalk hnew hFr hAt hCY hCok eC C hm hlt hcc
   go_wp2_with fail
   refine HFr.out.mono ?_
   rintro e w9 ⟨⟨v9, rfl⟩, h9⟩
   have H9 := qH h9
   clear h9
   go_wp2
   go_end0
   exact ⟨⟨_, rfl⟩, H9.out⟩
end
section
open Go.RowKit Go.Shelf
attribute [local go_sem] Oper.semAt_some
def jT (r : bM) (R : Nat -> aC) (L : aC) : Prop := (aP r = 0 -> IsBinds r.2.1 R L) /\ (aP r ≠ 0 -> L = [])
theorem zG (tb : Nat) (w : World) : (binOp .neq 257 (.pointer (some ⟨tb, 0, none⟩)) (.pointer none)).run Tryz.prog w = .ok (.bool true) w := by kernel_rfl
theorem zH (w : World) : (binOp .neq 257 (.pointer none) (.pointer none)).run Tryz.prog w = .ok (.bool false) w := by kernel_rfl
set_option maxHeartbeats 2000000 in
theorem aGw {w0 w1 w : World} {r : bM} {Es : Nat -> List Ent} {v : Value} {xb : Nat} {L : aC} (hM : aFo w0 w1 r Es v) (hx : Ext w1 w) (hB : Blk w xb [v] 257) (hxb : w0.heap.size ≤ xb) (hL : jT r (cE Es r.2.1) L) (n : Nat) :
 vW Fence.wide n Tryz.prog 197 #[.pointer (some ⟨xb, 0, none⟩)] encX (fun k => w0.heap.size ≤ k /\ k < w.heap.size) GvRow (fun xs => xs.map Prod.snd = L) (fun pre => pre.map Prod.snd <+: L) w := by
 intro l J Jx W hW hY hJ
 refine callsIn_wide.2 ?_
 have hxl := hB.lt
 have c0 : W.cell? ⟨xb, 0, none⟩ = some v := hW.cell (by rw [hB.cell']; rfl) fun h => h ⟨hxb, hxl⟩
 rcases hM with ⟨rfl, hno⟩ | ⟨mb, Ts, tests, A, rfl, hc, hIs, hF⟩
 ·have hL0 : L = [] := by
   by_cases hc : aP r = 0
   ·rcases hno with hno | hno
    ·exact absurd hc hno
    ·cases L with
     | nil => rfl
     | cons V L => exact absurd (((hL.1 hc).iff V).1 (List.mem_cons_self ..)) (hno V)
   ·exact hL.2 hc
  have HE := qH (And.intro hL0 hJ)
  have hmn := zH W
  clear hno hL hL0 hJ hY hW hB
  go_enter Tryz.func197, Tryz.ntmps197
  go_wp2
  go_end0
  exact ⟨⟨_, rfl⟩, fun _ => False, W, Kp.refl _, .inl ⟨[], by rw [HE.out.1]; rfl, HE.out.2⟩⟩
 ·have hok := aEm hc hIs
  have hsol : AllB (lP ⟨aA r.2.1, Ts, tests⟩) [] L := by
   have e : lP ⟨aA r.2.1, Ts, tests⟩ = cG r.2.1 (cE Es r.2.1) := funext fun V => propext (hok.2 V)
   rw [e]; exact hL.1 hc
  have HA := qH (aLd (Z := fun k => w0.heap.size ≤ k /\ k < w.heap.size) (w0 := w) (W := W) (n := n - 1) (A := A) (fun k hk => Nat.lt_of_lt_of_le hk.2 hW.size) hW (fun W' hW' => hF W' ((Ext.kp hx).trans' hW' (F := fun k => ¬ (w0.heap.size ≤ k /\ k < w1.heap.size)) fun i hi h => fun h2 => h ⟨h2.1, Nat.lt_of_lt_of_le h2.2 hx.size⟩)) hok.1 hsol hY hJ)
  have hms := zG mb W
  clear hok hsol hL hJ hY hW hB hF hIs
  go_enter Tryz.func197, Tryz.ntmps197
  go_wp2_with fail
  refine HA.out.mono ?_
  rintro e w9 ⟨⟨v9, rfl⟩, h9⟩
  have H9 := qH h9
  clear h9
  go_wp2
  go_end0
  exact ⟨⟨_, rfl⟩, H9.out⟩
def aFq (w0 w : World) (L : aC) (v : Value) : Prop := ∃ xb lo, w0.heap.size ≤ lo /\ v = .func (.func 197) #[] #[.pointer (some ⟨xb, 0, none⟩)] /\
 ∀ n, vW Fence.wide n Tryz.prog 197 #[.pointer (some ⟨xb, 0, none⟩)] encX (fun k => lo ≤ k /\ k < w.heap.size) GvRow (fun xs => xs.map Prod.snd = L) (fun pre => pre.map Prod.snd <+: L) w
set_option maxHeartbeats 2000000 in
theorem aI2 {w : World} {p : ByteArray} {hs : List aE} {ls : List aM} {ha ba bsa : Option Addr} {hn hcap n bcap nb bsc : Nat} {G : Nat -> Prop} {bvs : List Value} {Es : Nat -> List Ent} {L : aC} (hhn : hn = hs.length) (hh : aU w G ha hs) (hhl : hn ≤ 1048576) (hbn : n = ls.length) (h : cD w G ba ls) (hf : Fit ls) (hnv : (aA ls).length ≤ 1048576) (hn16 : n ≤ 1048576)
 (hnb : nb = bvs.length) (hbs : CellsAt w bsa bvs) (hB : ∀ j, ∃ S, BaseV S w (bvs.getD j (.pointer none)) (Es j)) (hL : jT ((p, hs, ()), ls, ()) (cE Es ls) L) :
 Calls Tryz.prog 160 #[dL p ha hn hcap ba n bcap, .slice bsa nb bsc] w (RetN w fun w' v => aFq w w' L v) := by
 have HMt := qH (fun W (hW : Ext w W) => aG5 (w := W) (p := p) (hs := hs) (ls := ls) (ha := ha) (ba := ba) (bsa := bsa) (hn := hn) (hcap := hcap) (n := n) (bcap := bcap) (nb := nb) (bsc := bsc) (G := G) (bvs := bvs) (Es := Es) hhn (hh.ext hW) hhl hbn (h.ext hW) hf hnv hn16 hnb (hbs.ext hW) (fun j => by
  obtain ⟨S, hb⟩ := hB j
  exact ⟨S, hb.ext hW⟩))
 have HL := qH hL
 obtain ⟨gb, egb⟩ : ∃ g, w.heap.size = g := ⟨_, rfl⟩
 obtain ⟨w1, e1⟩ : ∃ x, w.alloc (.cells #[.string p, .slice ha hn hcap, .slice ba n bcap] 43) = x := ⟨_, rfl⟩
 have x1 : Ext w w1 := by rw [<- e1]; exact (Kp.refl w).alloc _
 have hB1 : Blk w1 gb [.string p, .slice ha hn hcap, .slice ba n bcap] 43 := by rw [<- e1, <- egb]; exact Blk.new w _ _
 have H1 := qH x1
 have r0 := hB1.c0
 have r1 := hB1.c1
 have r2 := hB1.c2
 clear hhn hh hbn h hf hnb hbs hB hL x1 hB1
 go_enter Tryz.func160, Tryz.ntmps160
 go_wp2_with fail
 clear e1 egb
 refine (HMt.out w1 H1.out).mono ?_
 rintro e w2 ⟨v2, rfl, hk2, hM⟩
 obtain ⟨o, rfl⟩ : ∃ o, v2 = .pointer o := by
  rcases hM with ⟨e, _⟩ | ⟨mb, _, _, _, e, _⟩
  ·exact ⟨_, e⟩
  ·exact ⟨_, e⟩
 have HM := qH (And.intro hk2 hM)
 clear hk2 hM r0 r1 r2
 go_wp2
 go_ret
 have hx3 : Ext w2 (w2.alloc (.cells #[.pointer o] 257)) := (Kp.refl w2).alloc _
 exact RetN.mk (H1.out.trans (HM.out.1.trans hx3)) ⟨w2.heap.size, w1.heap.size, H1.out.size, rfl, fun n => aGw HM.out.2 hx3 (Blk.new w2 [.pointer o] 257) HM.out.1.size HL.out n⟩
theorem rA : cM Tryz.prog 226 45 1 8 (.pointer none) := ⟨by kernel_rfl, by kernel_rfl, rfl, by decide⟩
theorem aKz (n : Nat) (hn : n ≤ 1048576) (w : World) : Calls Tryz.prog 199 #[.int .u64 (1 : Nat), .int .u64 (n : Nat)] w fun e w' => e = .returned (.tuple #[.int .u64 0, .int .u64 (n : Nat)]) /\ w' = w := by
 refine (Tryz.bits_Mul 1 n (by omega) (by omega) w).mono ?_
 rintro e w' ⟨rfl, rfl⟩
 have h1 : 1 * n / 18446744073709551616 = 0 := Nat.div_eq_of_lt (by omega)
 have h2 : 1 * n % 18446744073709551616 = n := by rw [Nat.one_mul]; exact Nat.mod_eq_of_lt (by omega)
 rw [h1, h2]
 exact ⟨rfl, rfl⟩
def aKg (w0 : World) (g n : Nat) (bv : Value) (kv : Value) (W : World) : Prop := ∃ k : Nat, k ≤ n /\ (n = 0 \/ 0 < k) /\ kv = .int .i64 k /\ Hid (Ext w0 W) /\ Hid (Blk W g (List.replicate k bv ++ List.replicate (n - k) (.pointer none)) 45)
set_option maxHeartbeats 2000000 in
theorem aD3 {w : World} {o : Option Addr} {xa : Option Addr} {xc n : Nat} (hx : CellsAt w xa [.pointer o]) (hn : n ≤ 1048576) :
 Calls Tryz.prog 161 #[.slice xa 1 xc, .int .i64 n] w (RetN w fun w' v => ∃ ao cap, v = .slice ao n cap /\ CellsAt w' ao (List.replicate n (.pointer o))) := by
 have HX := qH hx
 have hm := aKz n hn w
 have HMu := qH hm
 have hmk := iU (P := Tryz.prog) rA (c := .pointer none) rfl n (by omega) (by unfold maxLen; omega) w
 rw [Nat.mul_one] at hmk
 obtain ⟨g, eg⟩ : ∃ x, w.heap.size = x := ⟨_, rfl⟩
 obtain ⟨w1, e1⟩ : ∃ x, w.alloc (.cells (Array.replicate n (.pointer none)) 45) = x := ⟨_, rfl⟩
 have hB1 : Blk w1 g (List.replicate n (.pointer none)) 45 := by
  have h := Blk.new w (List.replicate n (.pointer none)) 45
  rw [List.toArray_replicate, e1, eg] at h
  exact h
 have x1 : Ext w w1 := by rw [<- e1]; exact (Kp.refl w).alloc _
 obtain ⟨w2, hrun, hk2, hB2⟩ := jX (P := Tryz.prog) rA hB1 (off := 0) (dp := some ⟨g, 0, none⟩) (dLen := n) (dCap := n) (sp := xa) (sLen := 1) (sCap := xc) (cs := List.replicate (Nat.min 1 n) (.pointer o)) (by simp) (fun _ => rfl) (fun j u hu => by
  have hj := (List.getElem?_eq_some_iff.1 hu).1
  rw [List.length_replicate] at hj
  have hj1 : j < 1 := Nat.lt_of_lt_of_le hj (Nat.min_le_left _ _)
  rw [List.getElem?_replicate, if_pos hj] at hu
  obtain rfl : j = 0 := by omega
  exact (hx.ext x1) 0 u (by cases hu; rfl)) (by simp [List.length_replicate]; exact Nat.min_le_right _ _) (fun u hu => by rw [List.eq_of_mem_replicate hu]; rfl)
 have n0 : ¬ (n : Int) < 0 := by omega
 have n1 : ¬ (9223372036854775807 : Int) < (n : Int) := by omega
 have hlen : (List.replicate (Nat.min 1 n) (Value.pointer o)).length = Nat.min 1 n := List.length_replicate
 obtain ⟨k0, ek0⟩ : ∃ k, Nat.min 1 n = k := ⟨_, rfl⟩
 rw [ek0] at hrun hB2 hlen
 rw [hlen] at hrun
 have hk0 : k0 ≤ n /\ (n = 0 \/ 0 < k0) /\ (n = 0 -> k0 = 0) /\ (0 < n -> k0 = 1) := by rw [<- ek0]; simp only [Nat.min_def]; split <;> omega
 have hB2' : Blk w2 g (List.replicate k0 (.pointer o) ++ List.replicate (n - k0) (.pointer none)) 45 := by
  have e : splice (List.replicate n (Value.pointer none)) 0 (List.replicate k0 (Value.pointer o)) = List.replicate k0 (.pointer o) ++ List.replicate (n - k0) (.pointer none) := by
   unfold splice
   simp
  rw [e] at hB2; exact hB2
 have HP := qH (show aKg w g n (.pointer o) (.int .i64 k0) w2 from ⟨k0, hk0.1, hk0.2.1, rfl, qH (x1.trans' hk2 fun i hi e => by have e' : i = g := e; omega), qH hB2'⟩)
 have hg : goInt (k0 : Nat) = .int .i64 (k0 : Nat) := rfl
 rw [hg] at hrun
 have HEG := qH eg
 clear hx hB1 x1 hk2 hB2 hB2' hm hlen ek0 hk0 hg
 go_enter Tryz.func161, Tryz.ntmps161
 go_wp2_with fail
 refine HMu.out.mono ?_
 rintro e w' ⟨rfl, rfl⟩
 go_wp2
 go_loopw [8] (fun kv wk => aKg w' g n (.pointer o) kv wk) (fun kv _ => n - (intOf kv).toNat)
 case atStart => exact HP.out
 case round =>
  clear HP hrun
  obtain ⟨k, hk, hk0, rfl, hex, hb⟩ := hrel
  by_cases hlt : k < n
  ·have hkp : 0 < k := by omega
   obtain ⟨j, ej⟩ : ∃ j, Nat.min k (n - k) = j := ⟨_, rfl⟩
   have hj1 : j ≤ k := by rw [<- ej]; exact Nat.min_le_left _ _
   have hj2 : j ≤ n - k := by rw [<- ej]; exact Nat.min_le_right _ _
   have hj3 : 0 < j := by rw [<- ej]; simp only [Nat.min_def]; split <;> omega
   obtain ⟨W2, hrun2, hk3, hB3⟩ := jX (P := Tryz.prog) rA (hb.out.drew) (off := k) (dp := some ⟨g, k, none⟩) (dLen := n - k) (dCap := n - k) (sp := some ⟨g, 0, none⟩) (sLen := k) (sCap := n) (cs := List.replicate j (.pointer o)) (by rw [List.length_replicate, ej]) (fun _ => rfl) (fun i u hu => by
    have hi := (List.getElem?_eq_some_iff.1 hu).1
    rw [List.length_replicate] at hi
    rw [List.getElem?_replicate, if_pos hi] at hu
    refine ⟨g, 0, rfl, ?_⟩
    rw [hb.out.drew.cell', Nat.zero_add, List.getElem?_append_left (by rw [List.length_replicate]; omega), List.getElem?_replicate, if_pos (by omega)]
    exact hu) (by simp; omega) (fun u hu => by rw [List.eq_of_mem_replicate hu]; rfl)
   rw [List.length_replicate] at hrun2
   have hg : goInt (j : Nat) = .int .i64 (j : Nat) := rfl
   rw [hg] at hrun2
   have HNX := qH (show aKg w' g n (.pointer o) (.int .i64 ((k : Int) + (j : Int))) W2 from by
    refine ⟨k + j, by omega, .inr (by omega), by congr 1, qH (hex.out.trans' ((Ext.kp (Kp.refl wr).drew).trans hk3) fun i hi e => ?_), qH ?_⟩
    ·have e' : i = g := e
     have := HEG.out
     omega
    ·have e : splice (List.replicate k (.pointer o) ++ List.replicate (n - k) (Value.pointer none)) k (List.replicate j (.pointer o)) = List.replicate (k + j) (.pointer o) ++ List.replicate (n - (k + j)) (.pointer none) := by
      unfold splice
      rw [List.take_append_of_le_length (by simp), List.take_of_length_le (by simp), List.length_replicate, List.drop_append, List.drop_of_length_le (by simp), List.length_replicate, List.drop_replicate, List.nil_append, <- List.append_assoc, List.replicate_append_replicate]
      congr 2
      omega
     rw [e] at hB3
     exact hB3)
   have k1 : (k : Int) < (n : Int) := by omega
   have k2 : (k : Int) ≤ (n : Int) := by omega
   have k3 : ¬ n = k := by omega
   have rk : (n : Int) - k = ((n - k : Nat) : Int) := by omega
   have HJ := qH (And.intro hj1 (And.intro hj2 hj3))
   clear hex hb hk3 hB3 hg hk0 hk ej
   go_wp2
   refine bB (fun _ : World => True) [] (by kernel_rfl) trivial (fun hHeld => ?_)
   refine dF 0 ?_; try simp only [Act.put,sI,sZ,sS]
   refine dF 1 ?_; try simp only [Act.put,sI,sZ,sS]
   refine dF 2 ?_; try simp only [Act.put,sI,sZ,sS]
   refine dI 3 ?_; try simp only [Act.put,sI,sZ,sS]
   refine dF 4 ?_; try simp only [Act.put,sI,sZ,sS]
   refine dF 5 ?_; try simp only [Act.put,sI,sZ,sS]
   refine dI 6 ?_; try simp only [Act.put,sI,sZ,sS]
   refine aF (i := 7) ?_
   refine aG (i := 7) rfl (fun K hK => ?_)
   go_simp
   refine hK.out _ _ ?_ (fun hHeld => ?_)
   ·(try dsimp only); (first | done | trivial)
   clear hK K; (try simp only [Act.put,sI,sZ,sS])
   refine dF 8 ?_; try simp only [Act.put,sI,sZ,sS]
   refine dF 9 ?_; try simp only [Act.put,sI,sZ,sS]
   refine aN (by kernel_rfl) ?_ _
   clear hHeld
   have hw : IntKind.i64.wrap ((k : Int) + (j : Int)) = (k : Int) + (j : Int) := IntWalk.i64_in _ (by have := HJ.out; omega)
   go_wp2
   try rw [hw]
   go_roundw
   case rel => exact HNX.out
   case measure => have := HJ.out; simp [intOf]; omega
  ·obtain rfl : n = k := by omega
   have hB2 := hb.out
   rw [Nat.sub_self, List.replicate_zero, List.append_nil] at hB2
   have HR := qH (show Ext w' wr /\ CellsAt wr (some ⟨g, 0, none⟩) (List.replicate n (.pointer o)) from ⟨hex.out, CellsAt.pre (rest := []) (by rw [List.append_nil]; exact hB2)⟩)
   clear hex hb hB2 hk0 hk hlt
   go_wp2
   go_ret
   exact RetN.mk HR.out.1 ⟨_, _, rfl, HR.out.2⟩
def wE (ls : List aM) (E : List Ent) (j : Nat) : List Ent := if j < ls.length then E else []
set_option maxHeartbeats 2000000 in
theorem aCo {S : Nat -> Prop} {w : World} {p : ByteArray} {hs : List aE} {ls : List aM} {ha ba : Option Addr} {hn hcap n bcap : Nat} {G : Nat -> Prop} {o : Option Addr} {E : List Ent} {L : aC} (hhn : hn = hs.length) (hh : aU w G ha hs) (hhl : hn ≤ 1048576) (hbn : n = ls.length) (h : cD w G ba ls) (hf : Fit ls) (hnv : (aA ls).length ≤ 1048576) (hn16 : n ≤ 1048576)
 (hB : BaseV S w (.pointer o) E) (hL : jT ((p, hs, ()), ls, ()) (cE (wE ls E) ls) L) :
 Calls Tryz.prog 112 #[dL p ha hn hcap ba n bcap, .pointer o] w (RetN w fun w' v => aFq w w' L v) := by
 have HOv := qH (fun W (hW : Ext w W) (bsa : Option Addr) (bsc : Nat) (hbs : CellsAt W bsa (List.replicate n (.pointer o))) => aI2 (w := W) (p := p) (hs := hs) (ls := ls) (ha := ha) (ba := ba) (bsa := bsa) (hn := hn) (hcap := hcap) (n := n) (bcap := bcap) (nb := n) (bsc := bsc) (G := G) (bvs := List.replicate n (.pointer o)) (Es := wE ls E) (L := L) hhn (hh.ext hW) hhl hbn (h.ext hW) hf hnv hn16 (by rw [List.length_replicate]) hbs (fun j => by
  unfold wE
  by_cases hj : j < n
  ·rw [List.getD_eq_getElem?_getD, List.getElem?_replicate, if_pos hj, if_pos (by omega)]
   exact ⟨S, hB.ext hW⟩
  ·rw [List.getD_eq_getElem?_getD, List.getElem?_replicate, if_neg hj, if_neg (by omega)]
   exact ⟨fun _ => False, BaseV.nil⟩) hL)
 have HN := qH hn16
 obtain ⟨gb, egb⟩ : ∃ g, w.heap.size = g := ⟨_, rfl⟩
 obtain ⟨w1, e1⟩ : ∃ x, w.alloc (.cells #[.string p, .slice ha hn hcap, .slice ba n bcap] 43) = x := ⟨_, rfl⟩
 have x1 : Ext w w1 := by rw [<- e1]; exact (Kp.refl w).alloc _
 have hB1 : Blk w1 gb [.string p, .slice ha hn hcap, .slice ba n bcap] 43 := by rw [<- e1, <- egb]; exact Blk.new w _ _
 have H1 := qH x1
 have HJ := qH (show ∀ w', Ext w1 w' -> (fun w' : World => w'.cell? ⟨gb, 0, none⟩ = some (.string p) /\ w'.cell? ⟨gb, 1, none⟩ = some (.slice ha hn hcap) /\ w'.cell? ⟨gb, 2, none⟩ = some (.slice ba n bcap)) w' from fun w' hw' => ⟨by rw [(hB1.ext hw').cell']; rfl, by rw [(hB1.ext hw').cell']; rfl, by rw [(hB1.ext hw').cell']; rfl⟩)
 clear hhn hh hhl hbn h hf hnv hB hL x1 hB1
 go_enter Tryz.func112, Tryz.ntmps112
 go_wp2
 clear e1 egb
 refine bB (fun w' : World => w'.cell? ⟨gb, 0, none⟩ = some (.string p) /\ w'.cell? ⟨gb, 1, none⟩ = some (.slice ha hn hcap) /\ w'.cell? ⟨gb, 2, none⟩ = some (.slice ba n bcap)) [7, 8] (by kernel_rfl) (HJ.out _ (Kp.refl w1).drew) (fun hHeld => ?_)
 refine dI 0 ?_; try simp only [Act.put,sI,sZ,sS]
 refine dF 1 ?_; try simp only [Act.put,sI,sZ,sS]
 refine dF 3 ?_; try simp only [Act.put,sI,sZ,sS]
 refine dI 4 ?_; try simp only [Act.put,sI,sZ,sS]
 refine dI 5 ?_; try simp only [Act.put,sI,sZ,sS]
 refine aF (i := 2) ?_
 refine aG (i := 2) rfl (fun K hK => ?_)
 go_simp
 refine hK.out _ _ ?_ (fun hHeld => ?_)
 ·(try dsimp only); (exact HJ.out _ (((Kp.refl w1).drew).alloc _))
 clear hK K; (try simp only [Act.put,sI,sZ,sS])
 refine aF (i := 6) ?_
 refine aG (i := 6) rfl (fun K hK => ?_)
 go_simp
 (refine (aD3 (o := o) (CellsAt.one w1.drew (.pointer o) 45) HN.out).mono ?_; rintro e w4 ⟨v4, rfl, hk4, ao, cap, rfl, hcs⟩; have X1 := qH (And.intro (show Ext w1 w4 from (((Kp.refl w1).drew).alloc _).trans hk4) hcs); clear hk4 hcs)
 go_wp2_with fail
 refine hK.out _ _ ?_ (fun hHeld => ?_)
 ·(try dsimp only); (exact HJ.out _ X1.out.1)
 clear hK K; (try simp only [Act.put,sI,sZ,sS])
 refine aF (i := 7) ?_
 refine aJ (i := 7) rfl (by kernel_rfl) (fun K hK => ?_)
 go_simp
 (refine (HOv.out w4 (H1.out.trans X1.out.1) ao cap X1.out.2).mono ?_; rintro e w5 ⟨v5, rfl, hk5, hbd⟩; have X2 := qH (And.intro hk5 hbd); clear hk5 hbd)
 go_wp2_with fail
 refine hK.out _ _ ?_
 clear hK K; (try simp only [Act.put,sI,sZ,sS])
 refine aF (i := 8) ?_
 refine aJ (i := 8) rfl (by kernel_rfl) (fun K hK => ?_)
 go_simp
 refine hK.out _ _ ?_
 clear hK K; (try simp only [Act.put,sI,sZ,sS])
 refine aN (by kernel_rfl) ?_ _
 clear hHeld
 go_wp2
 go_ret
 have hx4 : Ext w w4 := H1.out.trans X1.out.1
 obtain ⟨xb, lo, hlo, ev, hseq⟩ := X2.out.2
 exact RetN.mk (hx4.trans X2.out.1) ⟨xb, lo, Nat.le_trans hx4.size hlo, ev, hseq⟩
def aLj (w0 : World) (N V : List ByteArray) (hs : List aE) (n : Nat) (ov jv : Value) (W : World) : Prop :=
 ∃ i : Nat, i ≤ n /\ jv = .int .i64 i /\ Hid (Ext w0 W) /\ Hid (Row W 9 1 ov (aY N V (hs.take i)).length (strs (aY N V (hs.take i))) (New w0))
theorem oT (N V : List ByteArray) {hs : List aE} {i : Nat} {t : aE} (h : hs[i]? = some t) : aY N V (hs.take (i + 1)) = aY N V (hs.take i) ++ (if t.1 = 3 then [t.2.1] else if t.1 = 1 then [lS N V t] else []) := by
 unfold aY
 rw [List.take_add_one, h, List.filterMap_append]
 congr 1
 show List.filterMap _ [t] = _
 by_cases h1 : t.1 = 3
 ·simp [h1]
 ·by_cases h2 : t.1 = 1
  ·simp [h2]
  ·simp [h1, h2]
theorem qT (N V : List ByteArray) (hs : List aE) : (aY N V hs).length ≤ hs.length := List.length_filterMap_le _ _
def tG (r : bM) (V : List ByteArray) (w w' : World) (v : Value) : Prop :=
 (aP r = 0 /\ V.length = (aA r.2.1).length /\ ∃ ao cap, v = .tuple #[.slice ao (aY (aA r.2.1) V r.1.2.1).length cap, .int .i64 0] /\ CellsAt w' ao (strs (aY (aA r.2.1) V r.1.2.1)) /\ (aY (aA r.2.1) V r.1.2.1).length ≤ cap /\ (∀ a, ao = some a -> w.heap.size ≤ a.block) /\ cap = (aY (aA r.2.1) V r.1.2.1).length /\ OwnSl w w' (.slice ao (aY (aA r.2.1) V r.1.2.1).length cap) (aY (aA r.2.1) V r.1.2.1)) \/
 (¬ (aP r = 0 /\ V.length = (aA r.2.1).length) /\ v = .tuple #[.slice none 0 0, .int .i64 2])
set_option maxHeartbeats 4000000 in
theorem xI {w : World} {p : ByteArray} {hs : List aE} {ls : List aM} {ha ba va : Option Addr} {hn hcap n bcap nb vc : Nat} {G : Nat -> Prop} {V : List ByteArray} (hhn : hn = hs.length) (hh : aU w G ha hs) (hhl : hn ≤ 1048576) (hbn : n = ls.length) (h : cD w G ba ls) (hf : Fit ls) (hnv : (aA ls).length ≤ 1048576) (hV : nb = V.length) (hVc : CellsAt w va (strs V)) (hvb : nb ≤ 1048576) :
 Calls Tryz.prog 113 #[dL p ha hn hcap ba n bcap, .slice va nb vc] w (RetN w fun w' v => tG ((p, hs, ()), ls, ()) V w w' v) := by
 have HCh := qH (fun W (hW : Ext w W) => iL p hs ls ha hn hcap ba n bcap W G hhn (hh.ext hW) (by omega) hbn (h.ext hW) hf)
 have HVa := qH (fun W (hW : Ext w W) => tK p ha hn hcap ls ba n bcap W G hbn (h.ext hW) hf)
 have HT := qH (And.intro hhn hh)
 have HVc := qH (And.intro hV hVc)
 obtain ⟨cR, ecR⟩ : ∃ c, aP ((p, hs, ()), ls, ()) = c := ⟨_, rfl⟩
 rw [ecR] at HCh
 have HC := qH ecR
 obtain ⟨gb, egb⟩ : ∃ g, w.heap.size = g := ⟨_, rfl⟩
 obtain ⟨w1, e1⟩ : ∃ x, w.alloc (.cells #[.string p, .slice ha hn hcap, .slice ba n bcap] 43) = x := ⟨_, rfl⟩
 have x1 : Ext w w1 := by rw [<- e1]; exact (Kp.refl w).alloc _
 have hB1 : Blk w1 gb [.string p, .slice ha hn hcap, .slice ba n bcap] 43 := by rw [<- e1, <- egb]; exact Blk.new w _ _
 have H1 := qH (And.intro x1 hB1)
 have r0 := hB1.c0
 have r1 := hB1.c1
 have r2 := hB1.c2
 clear hh hbn h hf hV hVc ecR x1 hB1 hhn
 go_enter Tryz.func113, Tryz.ntmps113
 go_wp2_with fail
 clear e1 egb
 refine (HVa.out w1 H1.out.1).mono ?_
 rintro e w2 ⟨v2, rfl, hk2, na, nc, rfl, hnc, hna⟩
 obtain ⟨nv, env⟩ : ∃ k, (aA ls).length = k := ⟨_, rfl⟩
 rw [env] at hnv ⊢
 have HEv := qH env
 have H2 := qH (And.intro (H1.out.1.trans hk2) (And.intro (H1.out.2.ext hk2) (And.intro hna env)))
 have q0 : w2.cell? ⟨gb, 0, none⟩ = some (.string p) := hk2.cell r0 id
 have q1 : w2.cell? ⟨gb, 1, none⟩ = some (.slice ha hn hcap) := hk2.cell r1 id
 have q2 : w2.cell? ⟨gb, 2, none⟩ = some (.slice ba n bcap) := hk2.cell r2 id
 clear hk2 r0 r1 r2 hnc hna env
 go_wp2_with fail
 refine (HCh.out w2 H2.out.1).mono ?_
 rintro e w3 ⟨v3, rfl, hk3, rfl⟩
 have H3 := qH (And.intro (H2.out.1.trans hk3) (And.intro (H2.out.2.1.ext hk3) (H2.out.2.2.1.ext hk3)))
 clear hk3 q0 q1 q2
 by_cases hc : cR = 0
 ·subst hc
  by_cases hl : nb = nv
  ·subst hl
   have u1 := H3.out.2.1.c1
   go_wp2
   clear u1
   go_loopw [7, 26] (fun ov jv wk => aLj w3 (aA ls) V hs hn ov jv wk) (fun _ jv _ => hn - (intOf jv).toNat)
   case atStart => exact ⟨0, Nat.zero_le _, rfl, qH (Kp.refl _), qH (Row.nil _ _ _ _)⟩
   case round =>
    obtain ⟨i, hi, rfl, hex, hro⟩ := hrel
    obtain ⟨oa, oc, eov, hoc, hle⟩ := hro.out.shape
    subst eov
    by_cases hlt : i < hn
    ·obtain ⟨t, ht⟩ : ∃ t, hs[i]? = some t := ⟨_, qG (by rw [<- HT.out.1]; exact hlt)⟩
     obtain ⟨b, off, eha, f0, f1, -, -⟩ := dU (HT.out.2.ext (H3.out.1.trans hex.out)) ht
     subst eha
     obtain ⟨kt, st, ⟨⟩⟩ := t
     simp only at f0 f1
     have HTt := qH ht
     obtain ⟨bx, ebx⟩ : ∃ x, wr.heap.size = x := ⟨_, rfl⟩
     obtain ⟨W1, eW1⟩ : ∃ x, wr.alloc (.cells #[.int .i64 kt, .string st] 58) = x := ⟨_, rfl⟩
     have hBx : Blk W1 bx [.int .i64 kt, .string st] 58 := by rw [<- eW1, <- ebx]; exact Blk.new wr _ _
     have x1 : Ext wr W1 := by rw [<- eW1]; exact (Kp.refl wr).alloc _
     have g0 := hBx.c0
     have g1 := hBx.c1
     have HX := qH (And.intro (hex.out.trans x1) (hro.out.ext x1))
     have hfew := qT (aA ls) V (hs.take i)
     rw [List.length_take] at hfew
     clear hBx x1 ht hoc hle hex hro hi
     by_cases h3 : kt = 3
     ·subst h3
      have HS := qH (oT (aA ls) V HTt.out)
      rw [if_pos rfl] at HS
      go_wp2_with (first | (at_builtin; refine Halted.out ?_))
      refine Halted.mk (dK dM rfl _ _ rfl (HX.out.1.alloc _) rfl (HX.out.2.alloc _) rfl (CellsAt.one W1 (.string st) 9) rfl (by simp; rfl) (by omega) (by unfold maxLen; omega) ?_)
      intro v6 w6 hr6 hk6 hk6b _
      obtain ⟨la, lcap, elv, _, _⟩ := hr6.shape
      subst elv
      have HF := qH (show Ext w3 w6 /\ Row w6 9 1 (.slice la ((aY (aA ls) V (hs.take i)).length + 1) lcap) (aY (aA ls) V (hs.take (i + 1))).length (strs (aY (aA ls) V (hs.take (i + 1)))) (New w3) from by
       refine ⟨hk6, ?_⟩
       rw [HS.out, List.length_append, List.length_singleton]
       have e : strs (aY (aA ls) V (hs.take i) ++ [st]) = strs (aY (aA ls) V (hs.take i)) ++ [.string st] := by simp [strs]
       rw [e]; exact hr6)
      clear hr6 hk6 hk6b
      go_wp2
      go_roundw
      case rel => exact ⟨i + 1, by omega, by first | rfl | (congr 1; done) | (congr 1; omega), qH HF.out.1, qH HF.out.2⟩
      case measure => simp [intOf]; omega
     ·have b3 : (kt == 3) = false := by simp [h3]
      by_cases h1 : kt = 1
      ·subst h1
       have hin : st ∈ aA ls := by
        rcases wW (r := ((p, hs, ()), ls, ())) HC.out _ (List.mem_of_getElem? HTt.out) with h | h | h
        ·exact h.2
        ·cases h
        ·exact absurd (show (4 : Int) ≤ 1 from h) (by decide)
       obtain ⟨q, eq⟩ : ∃ q, (aA ls).findIdx (fun s => decide (s = st)) = q := ⟨_, rfl⟩
       have hqn : q < (aA ls).length := by
        have := (List.getElem?_eq_some_iff.1 (aEs hin)).1
        rw [eq] at this; exact this
       have hqb : q < V.length := by rw [<- HVc.out.1, <- HEv.out]; exact hqn
       obtain ⟨x, hx⟩ : ∃ x, V[q]? = some x := ⟨_, qG hqb⟩
       obtain ⟨vb, vo, eva, vc0⟩ := (HVc.out.2.ext (H3.out.1.trans HX.out.1)) q (.string x) (by simp [strs, hx])
       subst eva
       have HS := qH (oT (aA ls) V HTt.out)
       rw [if_neg h3, if_pos rfl, show lS (aA ls) V ((1 : Int), st, ()) = x from by
        unfold lS
        rw [if_pos rfl]
        show aZ V ((aA ls).findIdx fun s => decide (s = st)) = x
        rw [eq]; exact bC hx] at HS
       have HIx := qH (show ∀ W, Ext w3 W -> Calls Tryz.prog 114 #[.slice na nb nc, .string st] W (RetN W fun w' v => v = .int .i64 (q : Nat)) from fun W hW => by
        have h := fB (aA ls) st na nb nc W HEv.out.symm (H3.out.2.2.ext hW) (by omega)
        have e : bI (fun s => decide (s = st)) (aA ls) = (q : Nat) := by
         unfold bI
         rw [if_pos (List.any_eq_true.2 ⟨st, hin, decide_eq_true rfl⟩), eq]
        rw [e] at h; exact h)
       have hqn2 : (q : Int) < (nb : Int) := by have := HVc.out.1; omega
       clear hin eq hqn hqb hx h3
       go_wp2_with fail
       refine (HIx.out W1 HX.out.1).mono ?_
       rintro e w5 ⟨v5, rfl, hk5, rfl⟩
       have v0 := hk5.cell vc0 id
       have HX5 := qH (And.intro (HX.out.1.trans hk5) (HX.out.2.ext hk5))
       clear hk5 vc0 eW1 g0 g1
       go_wp2_with (first | (at_builtin; refine Halted.out ?_))
       refine Halted.mk (dK dM rfl _ _ rfl (HX5.out.1.alloc _) rfl (HX5.out.2.alloc _) rfl (CellsAt.one w5 (.string x) 9) rfl (by simp; rfl) (by omega) (by unfold maxLen; omega) ?_)
       intro v6 w6 hr6 hk6 hk6b _
       obtain ⟨la, lcap, elv, _, _⟩ := hr6.shape
       subst elv
       have HF := qH (show Ext w3 w6 /\ Row w6 9 1 (.slice la ((aY (aA ls) V (hs.take i)).length + 1) lcap) (aY (aA ls) V (hs.take (i + 1))).length (strs (aY (aA ls) V (hs.take (i + 1)))) (New w3) from by
        refine ⟨hk6, ?_⟩
        rw [HS.out, List.length_append, List.length_singleton]
        have e : strs (aY (aA ls) V (hs.take i) ++ [x]) = strs (aY (aA ls) V (hs.take i)) ++ [.string x] := by simp [strs]
        rw [e]; exact hr6)
       clear hr6 hk6 hk6b
       go_wp2
       go_roundw
       case rel => exact ⟨i + 1, by omega, by first | rfl | (congr 1; done) | (congr 1; omega), qH HF.out.1, qH HF.out.2⟩
       case measure => simp [intOf]; omega
      ·have b1 : (kt == 1) = false := by simp [h1]
       have HS := qH (oT (aA ls) V HTt.out)
       rw [if_neg h3, if_neg h1, List.append_nil] at HS
       clear h3 h1
       go_wp2
       go_roundw
       case rel => exact ⟨i + 1, by omega, by first | rfl | (congr 1; done) | (congr 1; omega), qH HX.out.1, qH (by rw [HS.out]; exact HX.out.2)⟩
       case measure => simp [intOf]; omega
    ·obtain rfl : hn = i := by omega
     have hall : hs.take hn = hs := List.take_of_length_le (by rw [<- HT.out.1]; exact Nat.le_refl _)
     have hro2 := hro.out
     rw [hall] at hro2 hoc hle ⊢
     have HCl := qH (rC oa (aY (aA ls) V hs).length oc wr hle)
     have HR := qH (show Ext w wr /\ CellsAt wr oa (strs (aY (aA ls) V hs)) /\ (∀ a, oa = some a -> w.heap.size ≤ a.block) /\ OwnSl w wr (.slice oa (aY (aA ls) V hs).length oc) (aY (aA ls) V hs) from ⟨H3.out.1.trans hex.out, hoc, fun a e => by
      subst e
      have h1 : w3.heap.size ≤ a.block := hro2.block a.block rfl
      have h2 := H3.out.1.size
      omega, hro2.own'.old H3.out.1.size⟩)
     clear hex hro hro2 hoc hle hi hlt hall
     go_wp2_with fail
     refine HCl.out.mono ?_
     rintro e w5 ⟨v5, rfl, hk5, rfl⟩
     go_wp2
     go_ret2
     exact RetN.mk (HR.out.1.trans hk5) (.inl ⟨HC.out, by rw [<- HVc.out.1]; exact HEv.out.symm, _, _, rfl, HR.out.2.1.ext hk5, Nat.le_refl _, HR.out.2.2.1, rfl, (HR.out.2.2.2.ext hk5).clip⟩)
  ·have hnl : ((nb : Int) == (nv : Int)) = false := by simp; omega
   have HNl := qH (show ¬ (aP ((p, hs, ()), ls, ()) = 0 /\ V.length = (aA ls).length) from fun h => hl (by rw [HVc.out.1, <- HEv.out]; exact h.2))
   clear hl
   go_wp2
   go_ret2
   exact RetN.mk H3.out.1 (.inr ⟨HNl.out, rfl⟩)
 ·have hc' : ((cR : Int) == 0) = false := by simp; omega
  have HN := qH hc
  clear hc
  go_wp2
  go_ret2
  exact RetN.mk H3.out.1 (.inr ⟨fun h => HN.out (by rw [<- HC.out]; exact h.1), rfl⟩)
theorem aKa (k : Int) (s : ByteArray) (w : World) : Calls Tryz.prog 111 #[.agg #[.int .i64 k, .string s]] w (RetN w fun w' v => v = .bool (decide (4 ≤ k))) := by
 obtain ⟨gb, egb⟩ : ∃ g, w.heap.size = g := ⟨_, rfl⟩
 obtain ⟨w1, e1⟩ : ∃ x, w.alloc (.cells #[.int .i64 k, .string s] 58) = x := ⟨_, rfl⟩
 have hB1 : Blk w1 gb [.int .i64 k, .string s] 58 := by rw [<- e1, <- egb]; exact Blk.new w _ _
 have H1 := qH (show Ext w w1 from by rw [<- e1]; exact (Kp.refl w).alloc _)
 have b0 := hB1.c0
 clear hB1
 go_enter Tryz.func111, Tryz.ntmps111
 go_wp2
 go_ret
 exact RetN.mk H1.out rfl
theorem aLe {w : World} {G : Nat -> Prop} {hs : List aE} {ha : Option Addr} {hn hcap : Nat} (hhn : hn = hs.length) (hh : aU w G ha hs) (hl : hn ≤ 1048576) :
 Calls Tryz.prog 110 #[.slice ha hn hcap, .func (Fn.func 111) #[] #[]] w (RetN w fun w' v => v = .bool (hs.any fun t => decide (4 ≤ t.1))) :=
 oJ hs ha hn hcap 111 #[] #[] (fun t => decide (4 ≤ t.1)) w G hhn hh ⟨enters_of Tryz.func111 (by kernel_rfl) rfl, fun W hW k s => aKa k s W⟩ (by omega)
end
section
def aT (m : Nat) : aC -> aC -> Nat × aC
 | acc, [] => (0, acc)
 | acc, x :: xs => if (aL m acc x).2 ≠ 0 then ((aL m acc x).2, acc) else aT m (aX m acc x) xs
theorem dE (m : Nat) (acc : aC) (x : List ByteArray) (xs : aC) : aT m acc (x :: xs) = if (aL m acc x).2 ≠ 0 then ((aL m acc x).2, acc) else aT m (aX m acc x) xs := rfl
theorem mI (m : Nat) (ys : aC) : ∀ (xs acc : aC), (aT m acc xs).1 = 0 -> aT m acc (xs ++ ys) = aT m (aT m acc xs).2 ys
 | [], acc, _ => rfl
 | x :: xs, acc, h => by
  rw [List.cons_append, dE, dE m acc x xs]
  rw [dE] at h
  by_cases h1 : (aL m acc x).2 ≠ 0
  ·rw [if_pos h1] at h; exact absurd h h1
  ·rw [if_neg h1] at h
   rw [if_neg h1, if_neg h1]
   exact mI m ys xs _ h
theorem mH {m : Nat} {xs acc : aC} {x : List ByteArray} (h : (aT m acc xs).1 = 0) (hx : (aL m (aT m acc xs).2 x).2 ≠ 0) : aT m acc (xs ++ [x]) = ((aL m (aT m acc xs).2 x).2, (aT m acc xs).2) := by
 rw [mI m [x] xs acc h, dE, if_pos hx]
theorem lB {m : Nat} {xs acc : aC} {x : List ByteArray} (h : (aT m acc xs).1 = 0) (hx : (aL m (aT m acc xs).2 x).2 = 0) : aT m acc (xs ++ [x]) = (0, aX m (aT m acc xs).2 x) := by
 rw [mI m [x] xs acc h, dE, if_neg (fun e => e hx)]; rfl
theorem pK (m : Nat) (xs ys acc : aC) (h : (aT m acc xs).1 ≠ 0) : aT m acc (xs ++ ys) = aT m acc xs := by
 induction xs generalizing acc with
 | nil => exact absurd rfl h
 | cons x xs ih =>
  show aT m acc (x :: (xs ++ ys)) = _
  unfold aT at h ⊢
  by_cases h1 : (aL m acc x).2 ≠ 0
  ·rw [if_pos h1, if_pos h1]
  ·rw [if_neg h1, if_neg h1]
   rw [if_neg h1] at h
   exact ih _ h
theorem aKd {m : Nat} {LL : aC} (x : List ByteArray) (h : LL.length ≤ 65536) : (aX m LL x).length ≤ 65536 := by
 unfold aX
 by_cases h0 : (aL m LL x).2 = 0
 ·rw [if_pos h0, nI]
  by_cases hi : bA aD LL x = true
  ·rw [if_pos hi]; exact h
  ·by_cases h5 : 65536 ≤ LL.length
   ·exfalso
    unfold aL at h0
    have hi' : bA aD LL x = false := by simpa using hi
    rw [if_pos (show 65536 ≤ LL.length /\ bA aD LL x = false from ⟨h5, hi'⟩)] at h0
    split at h0
    ·cases h0
    ·split at h0
     ·cases h0
     ·cases h0
   ·rw [if_neg hi]; omega
 ·rw [if_neg h0]; exact h
theorem gI (m : Nat) : ∀ (xs acc : aC), acc.length ≤ 65536 -> (aT m acc xs).2.length ≤ 65536
 | [], acc, h => h
 | x :: xs, acc, h => by
  rw [dE]
  by_cases h1 : (aL m acc x).2 ≠ 0
  ·rw [if_pos h1]; exact h
  ·rw [if_neg h1]; exact gI m xs _ (aKd x h)
theorem aDb {m : Nat} {LL : aC} (x : List ByteArray) (h : Strict aD LL) : Strict aD (aX m LL x) := by
 unfold aX
 split
 ·exact h.add cZ x
 ·exact h
theorem dR (m : Nat) : ∀ (xs acc : aC), Strict aD acc -> Strict aD (aT m acc xs).2
 | [], acc, h => h
 | x :: xs, acc, h => by
  rw [dE]
  by_cases h1 : (aL m acc x).2 ≠ 0
  ·rw [if_pos h1]; exact h
  ·rw [if_neg h1]; exact dR m xs _ (aDb x h)
end
section
open Go.RowKit Go.Shelf
attribute [local go_sem] Oper.semAt_some
noncomputable def xS : Code := ((Tryz.f65.body.bind cC).getD .skip)
theorem lit53 (t : Array Value) (h : t.size = 53) : ∃ u : Nat -> Value, (∀ i, t.getD i undef = u i) /\ t = #[u 0, u 1, u 2, u 3, u 4, u 5, u 6, u 7, u 8, u 9, u 10, u 11, u 12, u 13, u 14, u 15, u 16, u 17, u 18, u 19, u 20, u 21, u 22, u 23, u 24, u 25, u 26, u 27, u 28, u 29, u 30, u 31, u 32, u 33, u 34, u 35, u 36, u 37, u 38, u 39, u 40, u 41, u 42, u 43, u 44, u 45, u 46, u 47, u 48, u 49, u 50, u 51, u 52] := by
 refine ⟨fun i => t.toList.getD i undef, fun i => by simp [Array.getD_eq_getD_getElem?, List.getD_eq_getElem?_getD], ?_⟩
 apply Array.ext'
 have := kG t.toList 53 (by simpa using h)
 exact this
set_option maxHeartbeats 4000000 in
theorem aCi {S : Nat -> Prop} {X : World} {gb r4 r5 b7 rb l m : Nat} {p : ByteArray} {hs : List aE} {ls : List aM} {ha ba xa : Option Addr} {hn hcap n bcap xc : Nat} {V : List ByteArray} {iv : Value} {RL : aC} {t : Array Value} {Qn Qr : World -> Prop}
 (hG : Blk X gb [.string p, .slice ha hn hcap, .slice ba n bcap] 43) (h4 : Blk X r4 [.pointer none] 73) (h5 : Blk X r5 [.int .i64 0] 46) (h7 : Blk X b7 [.pointer (some ⟨rb, 0, none⟩)] 73) (h47 : r4 ≠ b7)
 (hHd : ∀ W, Ext X W -> Calls Tryz.prog 113 #[dL p ha hn hcap ba n bcap, .slice xa V.length xc] W (RetN W fun w' v => tG ((p, hs, ()), ls, ()) V W w' v)) (hc : aP ((p, hs, ()), ls, ()) = 0) (hVl : V.length = (aA ls).length) (hh16 : hs.length ≤ 1048576)
 (hR : RowsAt S X rb iv m RL) (hst : Strict aD RL) (hRl : RL.length ≤ 65536)
 (hz : t.size = 53) (t2 : t.getD 2 undef = .pointer (some ⟨gb, 0, none⟩)) (t4 : t.getD 4 undef = .pointer (some ⟨r4, 0, none⟩)) (t5 : t.getD 5 undef = .pointer (some ⟨r5, 0, none⟩)) (t7 : t.getD 7 undef = .pointer (some ⟨b7, 0, none⟩)) (t9 : t.getD 9 undef = .slice xa V.length xc)
 (hQn : (aL m RL (aY (aA ls) V hs)).2 = 0 -> ∀ X', Kp (bN rb iv) X X' -> (∃ S' iv', RowsAt S' X' rb iv' m (aX m RL (aY (aA ls) V hs)) /\ (∀ k, S' k -> S k \/ X.heap.size ≤ k) /\ ∀ k, iv'.ownBlock = some k -> iv.ownBlock = some k \/ X.heap.size ≤ k) -> Qn X')
 (hQr : (aL m RL (aY (aA ls) V hs)).2 ≠ 0 -> ∀ X', Kp (fun k => bN rb iv k \/ k = r4 \/ k = r5) X X' -> Blk X' r4 [.pointer none] 73 -> Blk X' r5 [.int .i64 ((aL m RL (aY (aA ls) V hs)).2 : Nat)] 46 -> Qr X') :
 xS.wpIn (Fence.wide.inRound l) 2 Tryz.prog (gM Qn Qr) { tmps := t, defers := [] } X := by
 obtain ⟨u, hu, rfl⟩ := lit53 t hz
 have e2 := (hu 2).symm.trans t2
 have e4 := (hu 4).symm.trans t4
 have e5 := (hu 5).symm.trans t5
 have e7 := (hu 7).symm.trans t7
 have e9 := (hu 9).symm.trans t9
 rw [e2, e4, e5, e7, e9]
 clear hz t2 t4 t5 t7 t9 e2 e4 e5 e7 e9 hu
 have HQ := qH (And.intro hQn hQr)
 have HB := qH (And.intro h4 (And.intro h5 h7))
 have HH := qH (hHd X (Kp.refl X))
 have HC := qH (And.intro hc (And.intro hVl hh16))
 have HR := qH (And.intro hR (And.intro hst (And.intro hRl h47)))
 have g0 := hG.c0
 have g1 := hG.c1
 have g2 := hG.c2
 clear hQn hQr h4 h5 h7 hHd hc hVl hh16 hR hst hRl hG h47
 obtain ⟨nV, enV⟩ : ∃ k, V.length = k := ⟨_, rfl⟩
 rw [enV] at HH ⊢
 conv => arg 4; whnf
 gi_wp2
 refine And.intro trivial ?_
 refine (CallsIn.inRound l (callsIn_wide.2 HH.out)).mono ?_
 rintro e W1 ⟨v1, rfl, hk1, hO⟩
 obtain ⟨ao, cap, rfl, hcs, hcap, hnew⟩ : ∃ ao cap, v1 = .tuple #[.slice ao (aY (aA ls) V hs).length cap, .int .i64 0] /\ CellsAt W1 ao (strs (aY (aA ls) V hs)) /\ (aY (aA ls) V hs).length ≤ cap /\ ∀ a, ao = some a -> X.heap.size ≤ a.block := by
  rcases hO with ⟨-, -, ao, cap, e, h1, h2, h3⟩ | ⟨hno, -⟩
  ·exact ⟨ao, cap, e, h1, h2, h3.1⟩
  ·exact absurd ⟨HC.out.1, HC.out.2.1⟩ hno
 obtain ⟨RW, eRW⟩ : ∃ RW, aY (aA ls) V hs = RW := ⟨_, rfl⟩
 have hfew := qT (aA ls) V hs
 rw [eRW] at hcs hcap HQ hfew ⊢
 obtain ⟨rn, ern⟩ : ∃ rn, RW.length = rn := ⟨_, rfl⟩
 have hAdd := nR (z := False) ((HR.out.1.ext hk1).q) HR.out.2.1 (ao := ao) (n := rn) (cap := cap) (ss := RW) ⟨⟨ern.symm, hcs⟩, by have := HC.out.2.2; omega, fun a e hne => by
  have e' : ao = some a := e
  subst e'
  have hpos : 0 < RW.length := by rw [ern]; exact Nat.pos_of_ne_zero hne
  obtain ⟨b', o', e2, c'⟩ := hcs 0 (.string RW[0]) (by simp [strs, qG hpos])
  cases e2
  exact World.block_lt_of_cell? _ _ c'⟩ (fun a e _ ho => by
  have e' : ao = some a := e
  have h1 := hnew a e'
  have h2 : a.block < X.heap.size := RowsQ.ownLt (z := False) HR.out.1.q _ ho
  omega) (by have := HR.out.2.2.1; omega)
 have HAdd := qH hAdd
 obtain ⟨er, eer⟩ : ∃ er, (aL m RL RW).2 = er := ⟨_, rfl⟩
 have b7c := (HB.out.2.2.ext hk1).c0
 have HK := qH (And.intro hk1 eer)
 rw [ern]
 clear hcs hcap hnew hAdd hO hk1 g0 g1 g2
 gi_wp2
 refine And.intro trivial ?_
 refine (CallsIn.inRound l (callsIn_wide.2 HAdd.out)).mono ?_
 rintro e W2 ⟨v2, rfl, hk2, ev2, S', iv', -, q2, q3, q4⟩
 subst ev2
 rw [eer]
 obtain ⟨fr, efr⟩ : ∃ x, (aL m RL RW).1 = x := ⟨_, rfl⟩
 rw [efr]
 have kX : Kp (bN rb iv) X W2 := (Ext.kp HK.out.1).trans hk2
 have hown : ∀ k, bN rb iv k -> (∃ cs, Blk X k cs 138) \/ ∃ cs, Blk X k cs 66 := fun k hk => by
  obtain ⟨con, zs, hcon, hs2, hl⟩ := HR.out.1
  rcases hk with e | e
  ·rw [e]; exact .inl ⟨_, hs2.blk⟩
  ·exact .inr (aQ hs2.row e)
 have hn4 : ¬ bN rb iv r4 := fun h => by
  rcases hown r4 h with ⟨cs, hb⟩ | ⟨cs, hb⟩
  ·exact absurd (aK hb HB.out.1) (by decide)
  ·exact absurd (aK hb HB.out.1) (by decide)
 have hn5 : ¬ bN rb iv r5 := fun h => by
  rcases hown r5 h with ⟨cs, hb⟩ | ⟨cs, hb⟩
  ·exact absurd (aK hb HB.out.2.1) (by decide)
  ·exact absurd (aK hb HB.out.2.1) (by decide)
 have h4 := HB.out.1.kp kX hn4
 have h5 := HB.out.2.1.kp kX hn5
 by_cases h0 : er = 0
 ·subst h0
  have hszX := HK.out.1.size
  have HFin := qH (HQ.out.1 HK.out.2 W2 kX ⟨S', iv', by
   rcases q3 with q3 | q3
   ·exact q3
   ·exact q3.1.elim, fun k hk => (q2 k hk).imp id (fun h => Nat.le_trans hszX h), fun k hk => (q4 k hk).imp id (fun h => Nat.le_trans hszX h)⟩)
  clear q2 q3 q4 hk2 kX hown hn4 hn5 h4 h5
  gi_wp2
  exact HFin.out
 ·have he0 : ((er : Int) == 0) = false := by simp; omega
  have HE := qH (And.intro h0 (And.intro kX (And.intro h4 h5)))
  have c4 := h4.c0
  have c5 := h5.c0
  have f4 := h4.free 0
  have f5 := h5.free 0
  have h45 : r4 ≠ r5 := fun e => absurd (aK (e ▸ h4) h5) (by decide)
  have H45 := qH h45
  clear q2 q3 q4 hk2 kX hown hn4 hn5 h4 h5 h0
  gi_wp2
  have k34 : Kp (fun k => k = r4 \/ k = r5) W2 ((W2.setCell ⟨r4, 0, none⟩ (.pointer none)).setCell ⟨r5, 0, none⟩ (.int .i64 (er : Nat))) := Kp.setCell (F := fun k => k = r4 \/ k = r5) (p := ⟨r5, 0, none⟩) (Kp.setCell (F := fun k => k = r4 \/ k = r5) (p := ⟨r4, 0, none⟩) (Kp.refl W2) (fun _ => .inl rfl) _) (fun _ => .inr rfl) _
  refine HQ.out.2 (by rw [HK.out.2]; exact HE.out.1) _ ((HE.out.2.1.mono fun k _ h => Or.inl h).trans (k34.mono fun k _ h => Or.inr h)) ((HE.out.2.2.1.set 0 (.pointer none)).other H45.out _) ?_
  rw [HK.out.2]
  exact (HE.out.2.2.2.other (fun e => H45.out e.symm) _).set 0 _
theorem qY {w W : World} {P : World -> Value -> Prop} {tmps : Array Value} {ds : List Deferred} {lo g4 g5 : Nat} {a b : Value} (hm : Marks lo W ds) (hk : Ext w W) (hlo : w.heap.size ≤ lo) (h4 : tmps.getD 4 undef = .pointer (some ⟨g4, 0, none⟩)) (h5 : tmps.getD 5 undef = .pointer (some ⟨g5, 0, none⟩)) (hB4 : Blk W g4 [a] 73) (hB5 : Blk W g5 [b] 46)
 (hP : ∀ w', Ext w w' -> Kp (fun k => lo ≤ k /\ ¬ dN W k) W w' -> P w' (.tuple #[a, b])) :
 bodyPostM Fence.wide 4 Tryz.prog Tryz.f65 (RetN w P) .ret { tmps := tmps, defers := ds } W := by
 refine fJ hm fun w' e1 e2 e3 e4 e5 e6 => ?_
 have kx : Kp (fun k => lo ≤ k /\ ¬ dN W k) W w' := ⟨e1, e2, e3, by omega, fun k hk hf => by
  by_cases h : lo ≤ k
  ·by_cases h2 : ∃ o : Obj, W.heap[k]? = some o /\ o.isCells = true
   ·obtain ⟨o, h2, h3⟩ := h2
    rw [h2]; exact e6 k o h2 h3
   ·exact absurd ⟨h, h2⟩ hf
  ·exact e5 k (by omega)⟩
 have hx : Ext w w' := hk.trans' kx fun i hi h => absurd h.1 (by omega)
 refine ⟨.tuple #[a, b], ?_, RetN.mk hx (hP w' hx kx)⟩
 have hB42 : Blk w' g4 [a] 73 := hB4.kp kx fun h => h.2 ⟨_, hB4, rfl⟩
 have hB52 : Blk w' g5 [b] 46 := hB5.kp kx fun h => h.2 ⟨_, hB5, rfl⟩
 have c0 := hB42.c0
 have c1 := hB52.c0
 have h4' : tmps[4]?.getD undef = .pointer (some ⟨g4, 0, none⟩) := by simpa using h4
 have h5' : tmps[5]?.getD undef = .pointer (some ⟨g5, 0, none⟩) := by simpa using h5
 simp [results, Tryz.f65, go_sem, h4', h5', c0, c1]
theorem aJs {r : bM} (h : aP r = 0) : r.1.2.1.length ≤ 64 := by
 unfold aP at h
 split at h
 ·rename_i hp
  unfold eE iX at hp
  rw [Bool.and_eq_true, Bool.and_eq_true] at hp
  exact of_decide_eq_true hp.1.2
 ·cases h
def FactsOut (r : bM) (nb : Bool) (L : aC) (w w' : World) (v : Value) : Prop :=
 (aP r ≠ 0 /\ v = .tuple #[.pointer none, .int .i64 (aP r : Nat)]) \/
 (aP r = 0 /\ (r.1.2.1.any fun t => decide (4 ≤ t.1)) = true /\ v = .tuple #[.pointer none, .int .i64 2]) \/
 (aP r = 0 /\ (r.1.2.1.any fun t => decide (4 ≤ t.1)) = false /\ nb = true /\ v = .tuple #[.pointer none, .int .i64 1]) \/
 (aP r = 0 /\ (r.1.2.1.any fun t => decide (4 ≤ t.1)) = false /\ nb = false /\ ∃ e A, aT r.1.2.1.length [] (L.map fun V => aY (aA r.2.1) V r.1.2.1) = (e, A) /\
  ((e ≠ 0 /\ v = .tuple #[.pointer none, .int .i64 (e : Nat)]) \/ (e = 0 /\ ∃ rb iv S, v = .tuple #[.pointer (some ⟨rb, 0, none⟩), .int .i64 0] /\ RowsAt S w' rb iv r.1.2.1.length A /\ w.heap.size ≤ rb /\ (∀ k, S k -> w.heap.size ≤ k) /\ ∀ k, iv.ownBlock = some k -> w.heap.size ≤ k)))
structure FactsAt (w X : World) (gb b7 rb : Nat) (cs : List Value) : Prop where
 rule : Blk X gb cs 43
 r4 : Blk X (gb + 1) [.pointer none] 73
 r5 : Blk X (gb + 1 + 1) [.int .i64 0] 46
 rows : Blk X b7 [.pointer (some ⟨rb, 0, none⟩)] 73
 ext : Ext w X
 lt : gb + 1 + 1 < b7
def eU (ls : List aM) (hs : List aE) (pre : List XB) : aC := pre.map fun x => aY (aA ls) x.2 hs
def FactsI (w8 : World) (rb m : Nat) (ls : List aM) (hs : List aE) (T : Nat -> Prop) (pre : List XB) (W : World) : Prop :=
 Kp (fun k => k = rb) w8 W /\ (∀ k, T k -> w8.heap.size ≤ k) /\ (aT m [] (eU ls hs pre)).1 = 0 /\
 ∃ (S : Nat -> Prop) (iv : Value), RowsAt S W rb iv m (aT m [] (eU ls hs pre)).2 /\ (∀ k, S k -> w8.heap.size ≤ k /\ dN W k /\ ¬ T k) /\ ∀ k, iv.ownBlock = some k -> w8.heap.size ≤ k /\ ¬ T k
def FactsX (w8 : World) (rb r4 r5 m : Nat) (ls : List aM) (hs : List aE) (c : Code) (T : Nat -> Prop) (pre : List XB) (W : World) : Prop :=
 c = .ret /\ Kp (fun k => k = rb \/ k = r4 \/ k = r5) w8 W /\ (∀ k, T k -> w8.heap.size ≤ k) /\ Blk W r4 [.pointer none] 73 /\ Blk W r5 [.int .i64 ((aT m [] (eU ls hs pre)).1 : Nat)] 46 /\ (aT m [] (eU ls hs pre)).1 ≠ 0
theorem FactsI.step {w8 W1 W : World} {rb m : Nat} {ls : List aM} {hs : List aE} {T T' : Nat -> Prop} {pre : List XB} (h : FactsI w8 rb m ls hs T pre W1) (hrb : rb < w8.heap.size) (hk : Kp T W1 W) (hT : ∀ k, T' k -> sJ T W1 W k) : FactsI w8 rb m ls hs T' pre W := by
 obtain ⟨h1, h2, h3, S, iv, h4, h5, h6⟩ := h
 have hs1 := h1.size
 have hso : ∀ k, iv.ownBlock = some k -> k < W1.heap.size := fun k hk => RowsQ.ownLt (z := False) h4.q k (.inr hk)
 refine ⟨h1.trans' hk fun i hi hf => absurd (h2 i hf) (by omega), fun k hk' => ?_, h3, S, iv, h4.move hk (fun k hf ho => ?_) (fun k hf hs => (h5 k hs).2.2 hf) (fun k h => h) (fun k h => Nat.lt_of_lt_of_le (h4.inS k h) hk.size) h4.notS, fun k hs => ⟨(h5 k hs).1, ?_, fun ht => ?_⟩, fun k ho => ⟨(h6 k ho).1, fun ht => ?_⟩⟩
 ·rcases hT k hk' with h | h
  ·exact h2 k h
  ·omega
 ·rcases ho with ho | ho
  ·have := h2 k hf; omega
  ·exact (h6 k ho).2 hf
 ·obtain ⟨o, ho, hc⟩ := (h5 k hs).2.1
  exact ⟨o, (hk.block k (lt_of_block ho) fun hf => (h5 k hs).2.2 hf).trans ho, hc⟩
 ·rcases hT k ht with h | h
  ·exact (h5 k hs).2.2 h
  ·have := h4.inS k hs; omega
 ·rcases hT k ht with h | h
  ·exact (h6 k ho).2 h
  ·have := hso k ho; omega
theorem FactsI.put {w8 W : World} {rb m : Nat} {ls : List aM} {hs : List aE} {T : Nat -> Prop} {pre : List XB} (h : FactsI w8 rb m ls hs T pre W) (hrb : rb < w8.heap.size) {l : Nat} {o o' : Obj} (hl : w8.heap.size ≤ l) (ho : W.heap[l]? = some o) (hc : o.isCells = false) : FactsI w8 rb m ls hs T pre (W.putObj l o') := by
 obtain ⟨h1, h2, h3, S, iv, h4, h5, h6⟩ := h
 have hk : Kp (fun k => k = l) W (W.putObj l o') := Kp.putF (F := fun k => k = l) rfl _
 have nc : ∀ k, dN W k -> ¬ k = l := fun k hk e => by
  obtain ⟨o2, h, h'⟩ := hk
  rw [e, ho] at h; cases h; rw [hc] at h'; cases h'
 refine ⟨h1.trans' hk fun i hi hf => by have e : i = l := hf; omega, h2, h3, S, iv, h4.move hk (fun k hf ho => nc k (h4.cellOwn k ho) hf) (fun k hf hs => nc k (h5 k hs).2.1 hf) (fun k h => h) (fun k h => Nat.lt_of_lt_of_le (h4.inS k h) hk.size) h4.notS, fun k hs => ⟨(h5 k hs).1, ?_, (h5 k hs).2.2⟩, h6⟩
 obtain ⟨o2, ho2, hc2⟩ := (h5 k hs).2.1
 exact ⟨o2, (hk.block k (lt_of_block ho2) fun hf => nc k (h5 k hs).2.1 hf).trans ho2, hc2⟩
theorem FactsX.put {w8 W : World} {rb r4 r5 m : Nat} {ls : List aM} {hs : List aE} {c : Code} {T : Nat -> Prop} {pre : List XB} (h : FactsX w8 rb r4 r5 m ls hs c T pre W) (h4 : r4 < w8.heap.size) (h5 : r5 < w8.heap.size) {l : Nat} {o' : Obj} (hl : w8.heap.size ≤ l) : FactsX w8 rb r4 r5 m ls hs c T pre (W.putObj l o') := by
 obtain ⟨q1, q2, q3, q4, q5, q6⟩ := h
 have hk : Kp (fun k => k = l) W (W.putObj l o') := Kp.putF (F := fun k => k = l) rfl _
 exact ⟨q1, q2.trans' hk fun i hi hf => by have e : i = l := hf; omega, q3, q4.kp hk fun e => by have e' : r4 = l := e; omega, q5.kp hk fun e => by have e' : r5 = l := e; omega, q6⟩
theorem FactsX.step {w8 W1 W : World} {rb r4 r5 m : Nat} {ls : List aM} {hs : List aE} {c : Code} {T : Nat -> Prop} {pre : List XB} (h : FactsX w8 rb r4 r5 m ls hs c T pre W1) (h4 : r4 < w8.heap.size) (h5 : r5 < w8.heap.size) (hk : Kp T W1 W) : FactsX w8 rb r4 r5 m ls hs c T pre W := by
 obtain ⟨q1, q2, q3, q4, q5, q6⟩ := h
 exact ⟨q1, q2.trans' hk fun i hi hf => absurd (q3 i hf) (by omega), q3, q4.kp hk fun e => by have := q3 _ e; omega, q5.kp hk fun e => by have := q3 _ e; omega, q6⟩
theorem GvRow.put (T : Nat -> Prop) (W1 W2 : World) (x : XB) (l : Nat) (r o : Obj) (h : GvRow W1 T W2 x) (hr : W2.heap[l]? = some r) (hc : r.isCells = false) : GvRow (W1.putObj l o) T (W2.putObj l o) x := by
 refine ⟨h.1, ?_⟩
 rcases h.2 with h2 | ⟨g, rest, h1, h2, h3, h4⟩
 ·exact .inl h2
 ·refine .inr ⟨g, rest, h1, h2.kp (F := fun k => k = l) (Kp.putF (F := fun k => k = l) rfl _) (fun e => ?_), by rw [size_put]; exact h3, h4⟩
  have e' : g = l := e
  unfold Blk at h2
  rw [e', hr] at h2
  cases h2; cases hc
theorem GvRow.cells {W1 W2 : World} {T : Nat -> Prop} {xa : Option Addr} {xn xc : Nat} {V : List ByteArray} (h : GvRow W1 T W2 ((xa, xn, xc), V)) : (xn = V.length /\ xc = V.length) /\ CellsAt W2 xa (strs V) := by
 obtain ⟨h1, h2⟩ := h
 have h1' : (xn, xc) = (V.length, V.length) := h1
 refine ⟨⟨congrArg Prod.fst h1', congrArg Prod.snd h1'⟩, ?_⟩
 rcases h2 with ⟨e, e2⟩ | ⟨g, rest, e, hb, _⟩
 ·have e2' : V = [] := e2
  rw [e2']; exact CellsAt.nil _ _
 ·have e' : xa = some ⟨g, 0, none⟩ := e
  rw [e']; exact CellsAt.pre hb
theorem FactsI.start {w8 : World} {rb m : Nat} {ls : List aM} {hs : List aE} (h : RowsAt (fun _ => False) w8 rb (.slice none 0 0) m []) : FactsI w8 rb m ls hs (fun _ => False) [] w8 :=
 ⟨Kp.refl _, fun k h => h.elim, rfl, fun _ => False, _, h, fun k h => h.elim, fun k h => by cases h⟩
theorem aHj {w X : World} {gb b7 rb m : Nat} {cs : List Value} {S : Nat -> Prop} {iv : Value} {LL : aC} (h : FactsAt w X gb b7 rb cs) (hR : RowsAt S X rb iv m LL) : gb ≠ rb /\ gb + 1 ≠ rb /\ gb + 1 + 1 ≠ rb /\ b7 ≠ rb := by
 have hb := hR.blk
 refine ⟨fun e => ?_, fun e => ?_, fun e => ?_, fun e => ?_⟩
 ·exact absurd (aK (e ▸ h.rule) hb) (by decide)
 ·exact absurd (aK (e ▸ h.r4) hb) (by decide)
 ·exact absurd (aK (e ▸ h.r5) hb) (by decide)
 ·exact absurd (aK (e ▸ h.rows) hb) (by decide)
theorem FactsAt.kp {w X Y : World} {gb b7 rb : Nat} {cs : List Value} (h : FactsAt w X gb b7 rb cs) (ho : gb ≠ rb /\ gb + 1 ≠ rb /\ gb + 1 + 1 ≠ rb /\ b7 ≠ rb) (hk : Kp (fun k => k = rb) X Y) (hlo : w.heap.size ≤ rb) : FactsAt w Y gb b7 rb cs :=
 ⟨h.rule.kp hk ho.1, h.r4.kp hk ho.2.1, h.r5.kp hk ho.2.2.1, h.rows.kp hk ho.2.2.2, h.ext.trans' hk fun i hi e => by have e' : i = rb := e; omega, h.lt⟩
set_option maxHeartbeats 4000000 in
theorem aHk {S : Nat -> Prop} {w : World} {p : ByteArray} {hs : List aE} {ls : List aM} {ha ba : Option Addr} {hn hcap n bcap : Nat} {G : Nat -> Prop} {o : Option Addr} {E : List Ent} {L : aC} (hhn : hn = hs.length) (hh : aU w G ha hs) (hhl : hn ≤ 1048576) (hbn : n = ls.length) (h : cD w G ba ls) (hf : Fit ls) (hnv : (aA ls).length ≤ 1048576) (hn16 : n ≤ 1048576)
 (hB : BaseV S w (.pointer o) E) (hL : jT ((p, hs, ()), ls, ()) (cE (wE ls E) ls) L) :
 Calls Tryz.prog 65 #[dL p ha hn hcap ba n bcap, .pointer o] w (RetN w fun w' v => FactsOut ((p, hs, ()), ls, ()) o.isNone L w w' v) := by
 have HCh := qH (fun W (hW : Ext w W) => iL p hs ls ha hn hcap ba n bcap W G hhn (hh.ext hW) (by omega) hbn (h.ext hW) hf)
 have HAg := qH (fun W (hW : Ext w W) => aLe (hcap := hcap) hhn (hh.ext hW) (by omega))
 have HEa := qH (fun W (hW : Ext w W) => aCo (hcap := hcap) (bcap := bcap) (p := p) hhn (hh.ext hW) (by omega) hbn (h.ext hW) hf hnv hn16 (hB.ext hW) hL)
 have HHd := qH (fun W (hW : Ext w W) (V : List ByteArray) (va : Option Addr) (nb vc : Nat) (hV : nb = V.length) (hc : CellsAt W va (strs V)) (hb : nb ≤ 1048576) => xI (hcap := hcap) (bcap := bcap) (p := p) (vc := vc) hhn (hh.ext hW) hhl hbn (h.ext hW) hf hnv hV hc hb)
 have HN := qH (And.intro hhn (And.intro hhl (And.intro hL hnv)))
 obtain ⟨cR, ecR⟩ : ∃ c, aP ((p, hs, ()), ls, ()) = c := ⟨_, rfl⟩
 rw [ecR] at HCh
 have HC := qH ecR
 obtain ⟨gb, egb⟩ : ∃ g, w.heap.size = g := ⟨_, rfl⟩
 obtain ⟨w1, e1⟩ : ∃ x, w.alloc (.cells #[.string p, .slice ha hn hcap, .slice ba n bcap] 43) = x := ⟨_, rfl⟩
 obtain ⟨w2, e2⟩ : ∃ x, w1.alloc (.cells #[.pointer none] 73) = x := ⟨_, rfl⟩
 obtain ⟨w3, e3⟩ : ∃ x, w2.alloc (.cells #[.int .i64 0] 46) = x := ⟨_, rfl⟩
 have s1 : w1.heap.size = gb + 1 := by rw [<- e1, aI, egb]
 have s2 : w2.heap.size = gb + 1 + 1 := by rw [<- e2, aI, s1]
 have x1 : Ext w w1 := by rw [<- e1]; exact (Kp.refl w).alloc _
 have x2 : Ext w1 w2 := by rw [<- e2]; exact (Kp.refl w1).alloc _
 have x3 : Ext w2 w3 := by rw [<- e3]; exact (Kp.refl w2).alloc _
 have H3 := qH (show Blk w3 gb [.string p, .slice ha hn hcap, .slice ba n bcap] 43 /\ Blk w3 (gb + 1) [.pointer none] 73 /\ Blk w3 (gb + 1 + 1) [.int .i64 0] 46 /\ Ext w w3 from
  ⟨Blk.ext (by have h := Blk.new w [.string p, .slice ha hn hcap, .slice ba n bcap] 43; rw [egb] at h; rw [<- e1]; exact h) (x2.trans x3), Blk.ext (by have h := Blk.new w1 [.pointer none] 73; rw [s1] at h; rw [<- e2]; exact h) x3, by have h := Blk.new w2 [.int .i64 0] 46; rw [s2] at h; rw [<- e3]; exact h, x1.trans (x2.trans x3)⟩)
 have r0 := H3.out.1.c0
 have r1 := H3.out.1.c1
 have r2 := H3.out.1.c2
 have HG := qH egb
 clear hhn hh hhl hbn h hf hnv hn16 hB hL ecR x1 x2 x3
 refine callsIn_wide.1 (callsIn_of_wp_marks (n := 4) Tryz.func65 rfl trivial ?_ rfl)
 refine wpIn_wide.2 ?_
 obtain ⟨Q, eQ⟩ : ∃ Q, Q = bodyPostM Fence.wide 4 Tryz.prog Tryz.f65 (RetN w fun w' v => FactsOut ((p, hs, ()), ls, ()) o.isNone L w w' v) := ⟨_, rfl⟩
 rw [<- eQ]
 have EQ := qH eQ; clear eQ
 simp only [Tryz.ntmps65, List.size_toArray, List.length_cons, List.length_nil, Nat.reduceAdd, Nat.reduceSub, Array.replicate_succ, Array.replicate_zero, List.push_toArray, List.append_toArray, List.nil_append, List.cons_append]
 go_wp2_with fail
 clear e1 e2 e3 egb s1 s2
 refine (HCh.out w3 H3.out.2.2.2).mono ?_
 rintro e w4 ⟨v4, rfl, hk4, rfl⟩
 have H4 := qH (show Blk w4 gb [.string p, .slice ha hn hcap, .slice ba n bcap] 43 /\ Blk w4 (gb + 1) [.pointer none] 73 /\ Blk w4 (gb + 1 + 1) [.int .i64 0] 46 /\ Ext w w4 from ⟨H3.out.1.ext hk4, H3.out.2.1.ext hk4, H3.out.2.2.1.ext hk4, H3.out.2.2.2.trans hk4⟩)
 have c4 := H4.out.2.1.c0
 have c5 := H4.out.2.2.1.c0
 have f4 := H4.out.2.1.free 0
 have f5 := H4.out.2.2.1.free 0
 have r1' := H4.out.1.c1
 clear hk4 r0 r1 r2
 have HEX := qH (show ∀ (W : World) (tmps : Array Value) (c : Int), Blk W (gb + 1) [.pointer none] 73 -> Blk W (gb + 1 + 1) [.int .i64 0] 46 -> Ext w W -> tmps.getD 4 undef = .pointer (some ⟨gb + 1, 0, none⟩) -> tmps.getD 5 undef = .pointer (some ⟨gb + 1 + 1, 0, none⟩) -> (∀ w', FactsOut ((p, hs, ()), ls, ()) o.isNone L w w' (.tuple #[.pointer none, .int .i64 c])) -> Q .ret { tmps := tmps, defers := [] } ((W.setCell ⟨gb + 1, 0, none⟩ (.pointer none)).setCell ⟨gb + 1 + 1, 0, none⟩ (.int .i64 c)) from fun W tmps c hb4 hb5 hx h4 h5 hF => by
  have k1 : Kp (fun k => k = gb + 1 \/ k = gb + 1 + 1) W ((W.setCell ⟨gb + 1, 0, none⟩ (.pointer none)).setCell ⟨gb + 1 + 1, 0, none⟩ (.int .i64 c)) := Kp.setCell (F := fun k => k = gb + 1 \/ k = gb + 1 + 1) (p := ⟨gb + 1 + 1, 0, none⟩) (Kp.setCell (F := fun k => k = gb + 1 \/ k = gb + 1 + 1) (p := ⟨gb + 1, 0, none⟩) (Kp.refl W) (fun _ => .inl rfl) _) (fun _ => .inr rfl) _
  have hne : gb + 1 ≠ gb + 1 + 1 := by omega
  rw [EQ.out]
  exact qY (lo := W.heap.size) (Marks.nil _ _) (hx.trans' k1 fun i hi e => by have := HG.out; omega) hx.size h4 h5 ((hb4.set 0 (.pointer none)).other hne _) ((hb5.other hne.symm _).set 0 _) (fun w' _ _ => hF w'))
 by_cases hc : cR = 0
 ·subst hc
  go_wp2_with fail
  refine (HAg.out w4 H4.out.2.2.2).mono ?_
  rintro e w5 ⟨v5, rfl, hk5, rfl⟩
  have H5 := qH (show Blk w5 gb [.string p, .slice ha hn hcap, .slice ba n bcap] 43 /\ Blk w5 (gb + 1) [.pointer none] 73 /\ Blk w5 (gb + 1 + 1) [.int .i64 0] 46 /\ Ext w w5 from ⟨H4.out.1.ext hk5, H4.out.2.1.ext hk5, H4.out.2.2.1.ext hk5, H4.out.2.2.2.trans hk5⟩)
  have c45 := H5.out.2.1.c0
  have c55 := H5.out.2.2.1.c0
  have f45 := H5.out.2.1.free 0
  have f55 := H5.out.2.2.1.free 0
  have r15 := H5.out.1.c1
  clear hk5 c4 c5 f4 f5 r1'
  obtain ⟨ag, eag⟩ : ∃ x, (hs.any fun t => decide (4 ≤ t.1)) = x := ⟨_, rfl⟩
  rw [eag]
  have HA := qH eag
  clear eag
  cases ag
  ·cases o with
   | none =>
    have hnn : (binOp .eql 45 (.pointer none) (.pointer none)).run Tryz.prog w5 = .ok (.bool true) w5 := by kernel_rfl
    go_wp2_with fail
    exact HEX.out w5 _ 1 H5.out.2.1 H5.out.2.2.1 H5.out.2.2.2 rfl rfl fun w' => .inr (.inr (.inl ⟨HC.out, HA.out, rfl, rfl⟩))
   | some ob =>
    have h64 : hn ≤ 64 := by rw [HN.out.1]; exact aJs HC.out
    have HNR := qH (gK (fun _ => False) w5 hn h64 (fun k h => h.elim))
    go_wp2_with fail
    refine HNR.out.mono ?_
    rintro e w6 ⟨v6, rfl, hk6, rfl, hr6⟩
    obtain ⟨rb, erb⟩ : ∃ x, w5.heap.size = x := ⟨_, rfl⟩
    rw [erb] at hr6 ⊢
    have H6 := qH (show Blk w6 gb [.string p, .slice ha hn hcap, .slice ba n bcap] 43 /\ Blk w6 (gb + 1) [.pointer none] 73 /\ Blk w6 (gb + 1 + 1) [.int .i64 0] 46 /\ Ext w w6 /\ RowsAt (fun _ => False) w6 rb (.slice none 0 0) hn [] /\ w.heap.size ≤ rb from
     ⟨H5.out.1.ext hk6, H5.out.2.1.ext hk6, H5.out.2.2.1.ext hk6, H5.out.2.2.2.trans hk6, hr6, by rw [<- erb]; exact H5.out.2.2.2.size⟩)
    have g0 : ∀ o, (w6.alloc o).cell? ⟨gb, 0, none⟩ = some (.string p) := fun o => by rw [(H6.out.1.alloc o).cell']; rfl
    have g1 : ∀ o, (w6.alloc o).cell? ⟨gb, 1, none⟩ = some (.slice ha hn hcap) := fun o => by rw [(H6.out.1.alloc o).cell']; rfl
    have g2 : ∀ o, (w6.alloc o).cell? ⟨gb, 2, none⟩ = some (.slice ba n bcap) := fun o => by rw [(H6.out.1.alloc o).cell']; rfl
    clear hk6 hr6 erb c45 c55 f45 f55 r15
    go_wp2_with fail
    obtain ⟨b7, eb7⟩ : ∃ x, w6.heap.size = x := ⟨_, rfl⟩
    obtain ⟨w7, ew7⟩ : ∃ x, w6.alloc (.cells #[.pointer (some ⟨rb, 0, none⟩)] 73) = x := ⟨_, rfl⟩
    have x67 : Ext w6 w7 := by rw [<- ew7]; exact (Kp.refl w6).alloc _
    have hB7 : Blk w7 b7 [.pointer (some ⟨rb, 0, none⟩)] 73 := by rw [<- ew7, <- eb7]; exact Blk.new w6 _ _
    try rw [ew7]
    try rw [eb7]
    refine (HEa.out w7 (H6.out.2.2.2.1.trans x67)).mono ?_
    rintro e w8 ⟨v8, rfl, hk8, xb, lo, hlo, rfl, hseq⟩
    have HS := qH (show vW Fence.wide 3 Tryz.prog 197 #[.pointer (some ⟨xb, 0, none⟩)] (fun x : XB => #[.slice x.1.1 x.1.2.1 x.1.2.2]) (fun k => lo ≤ k /\ k < w8.heap.size) GvRow (fun xs => xs.map Prod.snd = L) (fun pre => pre.map Prod.snd <+: L) w8 from hseq 3)
    have H8 := qH (show FactsAt w w8 gb b7 rb [.string p, .slice ha hn hcap, .slice ba n bcap] from
     ⟨(H6.out.1.ext x67).ext hk8, (H6.out.2.1.ext x67).ext hk8, (H6.out.2.2.1.ext x67).ext hk8, hB7.ext hk8, (H6.out.2.2.2.1.trans x67).trans hk8, by have := H6.out.2.2.1.lt; rw [<- eb7]; omega⟩)
    have HR8 := qH (show RowsAt (fun _ => False) w8 rb (.slice none 0 0) hn [] from (H6.out.2.2.2.2.1.ext x67).ext hk8)
    have HLo := qH (show b7 < lo /\ w.heap.size ≤ rb /\ rb < lo /\ lo ≤ w8.heap.size + lo from ⟨Nat.lt_of_lt_of_le hB7.lt hlo, H6.out.2.2.2.2.2, Nat.lt_of_lt_of_le (Nat.lt_of_lt_of_le H6.out.2.2.2.2.1.blk.lt x67.size) hlo, by omega⟩)
    clear hseq hk8 x67 hB7 ew7 eb7 hlo H6 g0 g1 g2
    go_wp2_with fail
    have hrb8 : rb < w8.heap.size := HR8.out.blk.lt
    have hTy := aHj H8.out HR8.out
    refine' wpIn_wide.1 (oC (F := Fence.wide) (n := 4) (w0 := w8) rfl (by omega) (gf := 197) (lb := #[.pointer (some ⟨xb, 0, none⟩)]) rfl trivial (enters_of Tryz.func197 (by kernel_rfl) rfl)
     HS.out (Kp.refl _) (fun k h => h.2) (fun _ => rfl) GvRow.put (FactsI w8 rb hn ls hs) (FactsX w8 rb (gb + 1) (gb + 1 + 1) hn ls hs)
     (fun T s W l o o' h _ hl ho hc => h.put hrb8 hl ho hc) (fun c T s W l o o' h _ hl ho hc => h.put H8.out.r4.lt H8.out.r5.lt hl)
     (fun W o h => h.step hrb8 ((Kp.refl W).alloc o) (fun k hk => hk.elim)) (FactsI.start HR8.out) _ ?assign ?body ?done ?stop)
    case assign =>
     intro l x W K hK
     gi_wp2
     exact hK
    case body =>
     rintro l T T' pre ⟨⟨xa, xn, xc⟩, V⟩ W1 W hI hT hk hsub hgv hpre
     have hI2 := hI.step hrb8 hk hsub
     have hTlt : ∀ k, T' k -> k < W.heap.size := fun k hk' => by
      rcases hsub k hk' with h | h
      ·exact Nat.lt_of_lt_of_le (hT k h) hk.size
      ·exact h.2
     obtain ⟨kX, hTge, hr0, S, iv, hR, hS, hown⟩ := hI2
     have hA := H8.out.kp hTy kX HLo.out.2.1
     obtain ⟨hx1, hxc⟩ := hgv.cells
     have hxn : xn = V.length := hx1.1
     have hxc2 : xc = V.length := hx1.2
     subst hxn hxc2
     have hmem : V ∈ L := by
      have h := hpre.subset
      exact h (by rw [List.map_append]; exact List.mem_append_right _ (List.mem_singleton.2 rfl))
     have hVl : V.length = (aA ls).length := (((HN.out.2.2.1.1 HC.out).iff V).1 hmem).1
     have hsn : eU ls hs (pre ++ [((xa, V.length, V.length), V)]) = eU ls hs pre ++ [aY (aA ls) V hs] := by unfold eU; rw [List.map_append]; rfl
     have hsz8 := kX.size
     refine wpIn_mono (Q := gM (fun X' => KeepsFrom w8.heap.size W X' /\ Kp (fun k => ¬ fT (fun k => lo ≤ k /\ k < w8.heap.size) T' k) W X' /\ FactsI w8 rb hn ls hs T' (pre ++ [((xa, V.length, V.length), V)]) X') (fun X' => KeepsFrom w8.heap.size W X' /\ Kp (fun k => ¬ fT (fun k => lo ≤ k /\ k < w8.heap.size) T' k) W X' /\ FactsX w8 rb (gb + 1) (gb + 1 + 1) hn ls hs .ret T' (pre ++ [((xa, V.length, V.length), V)]) X')) ?_ ?_
     ·show Code.wpIn _ _ _ xS _ _ _
      refine aCi (S := S) (iv := iv) (RL := (aT hn [] (eU ls hs pre)).2) (V := V) (xa := xa) (xc := V.length) (m := hn) (b7 := b7) (rb := rb) (r4 := gb + 1) (r5 := gb + 1 + 1) (gb := gb) hA.rule hA.r4 hA.r5 hA.rows (by have := H8.out.lt; omega) (fun W' hW' => HHd.out W' (hA.ext.trans hW') V xa V.length V.length rfl (hxc.ext hW') (by rw [hVl]; exact HN.out.2.2.2)) HC.out hVl (by rw [<- HN.out.1]; exact HN.out.2.1) hR (dR hn _ [] List.Pairwise.nil) (gI hn _ [] (Nat.zero_le _)) rfl rfl rfl rfl rfl rfl ?_ ?_
      ·rintro h0 X' hk' ⟨S', iv', q1, q2, q3⟩
       have hno : ∀ k, bN rb iv k -> ¬ T' k /\ (k = rb \/ w8.heap.size ≤ k) := fun k ho => by
        rcases ho with ho | ho
        ·exact ⟨fun ht => by have := hTge k ht; omega, .inl ho⟩
        ·exact ⟨(hown k ho).2, .inr (hown k ho).1⟩
       refine ⟨⟨hk'.size, fun k o hB hk2 ho => (hk'.block k (lt_of_block hk2) fun f => ?_).trans hk2⟩, hk'.mono fun k hk2 ho hz => ?_, ?_⟩
       ·obtain ⟨o', h1, h2⟩ := hR.cellOwn k f
        rw [hk2] at h1; cases h1; rw [ho] at h2; cases h2
       ·rcases hz with hz | hz
        ·exact (hno k ho).1 hz
        ·rcases (hno k ho).2 with h | h
         ·have := HLo.out.2.2.1; have := hz.1; omega
         ·have := hz.2; omega
       ·refine ⟨kX.trans' hk' fun k hk2 ho => ?_, hTge, ?_, fun k => S' k /\ dN X' k, iv', ?_, fun k hk2 => ⟨?_, hk2.2, fun ht => ?_⟩, fun k hk2 => ⟨?_, fun ht => ?_⟩⟩
        ·rcases (hno k ho).2 with h | h
         ·exact h
         ·omega
        ·rw [hsn, lB hr0 h0]
        ·rw [hsn, lB hr0 h0]; exact q1.tight
        ·rcases q2 k hk2.1 with h | h
         ·exact (hS k h).1
         ·omega
        ·rcases q2 k hk2.1 with h | h
         ·exact (hS k h).2.2 ht
         ·have := hTlt k ht; omega
        ·rcases q3 k hk2 with h | h
         ·exact (hown k h).1
         ·omega
        ·rcases q3 k hk2 with h | h
         ·exact (hown k h).2 ht
         ·have := hTlt k ht; omega
      ·intro h0 X' hk' hb4 hb5
       have g4 := H8.out.r4.lt
       have g5 := H8.out.r5.lt
       have glt := H8.out.lt
       have hno : ∀ k, (bN rb iv k \/ k = gb + 1 \/ k = gb + 1 + 1) -> ¬ T' k /\ (k = rb \/ k = gb + 1 \/ k = gb + 1 + 1 \/ w8.heap.size ≤ k) := fun k ho => by
        rcases ho with (ho | ho) | ho | ho
        ·exact ⟨fun ht => by have := hTge k ht; omega, .inl ho⟩
        ·exact ⟨(hown k ho).2, .inr (.inr (.inr (hown k ho).1))⟩
        ·exact ⟨fun ht => by have := hTge k ht; omega, .inr (.inl ho)⟩
        ·exact ⟨fun ht => by have := hTge k ht; omega, .inr (.inr (.inl ho))⟩
       refine ⟨⟨hk'.size, fun k o hB hk2 ho => (hk'.block k (lt_of_block hk2) fun f => ?_).trans hk2⟩, hk'.mono fun k hk2 ho hz => ?_, rfl, ?_, hTge, hb4, ?_, ?_⟩
       ·have hc : dN W k := by
         rcases f with f | f | f
         ·exact hR.cellOwn k f
         ·exact ⟨_, by rw [f]; exact hA.r4, rfl⟩
         ·exact ⟨_, by rw [f]; exact hA.r5, rfl⟩
        obtain ⟨o', h1, h2⟩ := hc
        rw [hk2] at h1; cases h1; rw [ho] at h2; cases h2
       ·rcases hz with hz | hz
        ·exact (hno k ho).1 hz
        ·have h1 := HLo.out.1
         have h2 := HLo.out.2.2.1
         have h3 := hz.1
         have h4 := hz.2
         rcases (hno k ho).2 with h | h | h | h <;> omega
       ·exact (kX.mono fun k _ h => Or.inl h).trans' hk' fun k hk2 ho => by
         rcases (hno k ho).2 with h | h | h | h
         ·exact .inl h
         ·exact .inr (.inl h)
         ·exact .inr (.inr h)
         ·omega
       ·rw [hsn, mH hr0 h0]; exact hb5
       ·rw [hsn, mH hr0 h0]; exact h0
     ·intro e a W' h
      cases e <;> first | exact h | exact h.elim
    case done =>
     rintro D T xs W1 W hD hxs hI hT hk hd
     have hI2 := hI.step (T' := fun _ => False) hrb8 hk (fun k hk' => hk'.elim)
     obtain ⟨kX, hTge, hr0, S, iv, hR, hS, hown⟩ := hI2
     have hA := H8.out.kp hTy kX HLo.out.2.1
     have hxs' : eU ls hs xs = L.map fun V => aY (aA ls) V hs := by
      have h : xs.map Prod.snd = L := hxs
      rw [<- h, List.map_map]; rfl
     have hm1 : Marks w8.heap.size W [{ target := .collected D, args := #[] }] := Marks.push (Marks.nil w8.heap.size w8) (fun k o h ho => (kX.block k (lt_of_block h) (fun e => by
      have e' : k = rb := e
      obtain ⟨o', h1, h2⟩ := HR8.out.cellOwn rb (.inl rfl)
      rw [e', h1] at h; cases h; rw [h2] at ho; cases ho)).trans h) hD hD hd
     have v7 := hA.rows.c0
     have v4 := hA.r4.c0
     have v5 := hA.r5.c0
     have z4 := hA.r4.free 0
     have z5 := hA.r5.free 0
     have HZ := qH (And.intro hA (And.intro hxs' (And.intro hm1 (And.intro hr0 (And.intro hR (And.intro hS (And.intro hown kX)))))))
     clear hA hxs' hm1 hr0 hR hS hown kX hTge hI hT hk hd hD hxs
     go_wp2_with fail
     obtain ⟨hA, hxs', hm1, hr0, hR, hS, hown, kX⟩ := HZ.out
     have hg4 : gb + 1 < w8.heap.size := H8.out.r4.lt
     have hg5 : gb + 1 + 1 < w8.heap.size := H8.out.r5.lt
     have ks : Kp (fun k => k = gb + 1 \/ k = gb + 1 + 1) W ((W.setCell ⟨gb + 1, 0, none⟩ (.pointer (some ⟨rb, 0, none⟩))).setCell ⟨gb + 1 + 1, 0, none⟩ (.int .i64 0)) := Kp.setCell (F := fun k => k = gb + 1 \/ k = gb + 1 + 1) (p := ⟨gb + 1 + 1, 0, none⟩) (Kp.setCell (F := fun k => k = gb + 1 \/ k = gb + 1 + 1) (p := ⟨gb + 1, 0, none⟩) (Kp.refl W) (fun _ => .inl rfl) _) (fun _ => .inr rfl) _
     have hne : gb + 1 ≠ gb + 1 + 1 := by omega
     have hb4 := (hA.r4.set 0 (.pointer (some ⟨rb, 0, none⟩))).other (p := ⟨gb + 1 + 1, 0, none⟩) hne (.int .i64 0)
     have hb5 := (hA.r5.other (p := ⟨gb + 1, 0, none⟩) hne.symm (.pointer (some ⟨rb, 0, none⟩))).set 0 (.int .i64 0)
     generalize ((W.setCell ⟨gb + 1, 0, none⟩ (.pointer (some ⟨rb, 0, none⟩))).setCell ⟨gb + 1 + 1, 0, none⟩ (.int .i64 0)) = W2 at ks hb4 hb5 ⊢
     have hglo := HG.out
     have hoff : ∀ k, bN rb iv k -> ¬ (k = gb + 1 \/ k = gb + 1 + 1) := fun k ho h => by
      rcases ho with ho | ho
      ·rcases h with h | h
       ·exact hTy.2.1 (by rw [<- h, <- ho])
       ·exact hTy.2.2.1 (by rw [<- h, <- ho])
      ·have := hown k ho; omega
     have hR2 : RowsAt S W2 rb iv hn (aT hn [] (eU ls hs xs)).2 := hR.move ks (fun k hf ho => hoff k ho hf) (fun k hf hs' => by have := (hS k hs').1; omega) (fun k h => h) (fun k h => Nat.lt_of_lt_of_le (hR.inS k h) ks.size) hR.notS
     have hS2 : ∀ k, S k -> w8.heap.size ≤ k /\ dN W2 k := fun k hs' => ⟨(hS k hs').1, by
      obtain ⟨o, ho, hc⟩ := (hS k hs').2.1
      exact ⟨o, (ks.block k (lt_of_block ho) fun hf => by have := (hS k hs').1; omega).trans ho, hc⟩⟩
     have hx8 := H8.out.ext.size
     rw [EQ.out]
     refine qY (lo := w8.heap.size) (hm1.kp ks fun k hf => by omega) (hA.ext.trans' ks fun i hi hf => by omega) hx8 rfl rfl hb4 hb5 fun w' hx' kx => .inr (.inr (.inr ⟨HC.out, HA.out, rfl, 0, (aT hn [] (eU ls hs xs)).2, ?_, .inr ⟨rfl, rb, iv, S, rfl, ?_, HLo.out.2.1, fun k hs' => by have := (hS k hs').1; omega, fun k ho => by have := hown k ho; omega⟩⟩))
     ·rw [<- hxs', <- HN.out.1, <- hr0]
     ·rw [<- HN.out.1]
      exact hR2.move kx (fun k hf ho => hf.2 (hR2.cellOwn k ho)) (fun k hf hs' => hf.2 (hS2 k hs').2) (fun k h => h) (fun k h => Nat.lt_of_lt_of_le (hR2.inS k h) kx.size) hR2.notS
    case stop =>
     rintro D c T pre W1 W hD hpre hX hT hk hd
     have hX2 := hX.step H8.out.r4.lt H8.out.r5.lt hk
     obtain ⟨rfl, kX, hTge, hb4, hb5, hne⟩ := hX2
     have hTy4 : rb ≠ gb + 1 + 1 /\ rb ≠ gb + 1 := ⟨fun e => hTy.2.2.1 e.symm, fun e => hTy.2.1 e.symm⟩
     have hm1 : Marks w8.heap.size W [{ target := .collected D, args := #[] }] := Marks.push (Marks.nil w8.heap.size w8) (fun k o h ho => (kX.block k (lt_of_block h) (fun e => by
      have hcb : dN w8 k := by
       rcases e with e | e | e
       ·rw [e]; exact HR8.out.cellOwn rb (.inl rfl)
       ·rw [e]; exact ⟨_, H8.out.r4, rfl⟩
       ·rw [e]; exact ⟨_, H8.out.r5, rfl⟩
      obtain ⟨o', h1, h2⟩ := hcb
      rw [h1] at h; cases h; rw [h2] at ho; cases ho)).trans h) hD hD hd
     have hxp : aT hn [] (L.map fun V => aY (aA ls) V hs) = aT hn [] (eU ls hs pre) := by
      obtain ⟨rest, er⟩ : pre.map Prod.snd <+: L := hpre
      have e1 : (L.map fun V => aY (aA ls) V hs) = eU ls hs pre ++ rest.map fun V => aY (aA ls) V hs := by
       rw [<- er, List.map_append, List.map_map]; rfl
      rw [e1, pK hn _ _ _ hne]
     have HZ := qH (And.intro kX (And.intro hb4 (And.intro hb5 (And.intro hne (And.intro hm1 hxp)))))
     clear kX hb4 hb5 hne hm1 hxp hX hk hd hD hpre hTge hT
     refine wpIn_wide.2 ?_
     go_wp2_with fail
     obtain ⟨kX, hb4, hb5, hne, hm1, hxp⟩ := HZ.out
     have hx8 := H8.out.ext.size
     have hglo := HG.out
     rw [EQ.out]
     have hlor := HLo.out.2.1
     refine qY (lo := w8.heap.size) hm1 (H8.out.ext.trans' kX fun i hi hf => by rcases hf with hf | hf | hf <;> omega) hx8 rfl rfl hb4 hb5 fun w' hx' kx => .inr (.inr (.inr ⟨HC.out, HA.out, rfl, (aT hn [] (eU ls hs pre)).1, (aT hn [] (eU ls hs pre)).2, ?_, .inl ⟨hne, rfl⟩⟩))
     rw [<- HN.out.1]; exact hxp
  ·go_wp2_with fail
   exact HEX.out w5 _ 2 H5.out.2.1 H5.out.2.2.1 H5.out.2.2.2 rfl rfl fun w' => .inr (.inl ⟨HC.out, HA.out, rfl⟩)
 ·have hc' : ((cR : Int) == 0) = false := by simp; omega
  have HNc := qH hc
  clear hc
  go_wp2_with fail
  exact HEX.out w4 _ cR H4.out.2.1 H4.out.2.2.1 H4.out.2.2.2 rfl rfl fun w' => .inl ⟨by rw [HC.out]; exact HNc.out, by rw [HC.out]⟩
end
section
open Go.RowKit Go.Shelf
def OwnF (W : World) (lo hi : Nat) (a : Option Addr) (ss : List ByteArray) : Prop := (a = none /\ ss = []) \/ ∃ g rest, a = some ⟨g, 0, none⟩ /\ Blk W g (strs ss ++ rest) 9 /\ lo ≤ g /\ g < hi
theorem OwnSl.f {w0 w : World} {a : Option Addr} {n cap : Nat} {ss : List ByteArray} (h : OwnSl w0 w (.slice a n cap) ss) : OwnF w w0.heap.size w.heap.size a ss := by
 obtain ⟨a', cap', e, h | ⟨g, rest, h1, h2, h3, h4, h5, h6⟩⟩ := h
 ·cases e; exact .inl ⟨h.1, h.2.1⟩
 ·cases e; exact .inr ⟨g, rest, h1, h2, h6, h2.lt⟩
def mN (bs : Nat -> GrpB) (n : Nat) : List Value := (List.range n).map fun i => fM (bs i).g
structure GrpsAt (W : World) (lo : Nat) (T : Nat -> Prop) (bl mr : Nat) (k at_ : Int) (gs : List fP) (lv : Value) (bs : Nat -> GrpB) (ra : Nat -> Option Addr) : Prop where
 box : Blk W bl [lv] 120
 row : Row W 123 1 lv gs.length (mN bs gs.length) (fun g => lo ≤ g /\ ¬ T g)
 map : MapIs W mr (pT gs)
 grp : ∀ i g, gs[i]? = some g -> GroupAt W (bs i) k at_ (.slice (ra i) g.1.length g.1.length) g.2
 rows : ∀ i g, gs[i]? = some g -> (ra i = none /\ g.1 = []) \/ ∃ q rest, ra i = some ⟨q, 0, none⟩ /\ Blk W q (strs g.1 ++ rest) 9 /\ lo ≤ q /\ ¬ T q /\ ∀ j, j < gs.length -> ¬ (bs j).own q
 own : ∀ i, i < gs.length -> ∀ q, (bs i).own q -> lo ≤ q /\ ¬ T q
 apart : ∀ i j, i < gs.length -> j < gs.length -> i ≠ j -> ∀ q, (bs i).own q -> ¬ (bs j).own q
 old : bl < lo /\ mr < lo
section
variable {W W' : World} {lo bl mr : Nat} {T T' F : Nat -> Prop} {k at_ : Int} {gs : List fP} {lv : Value} {bs : Nat -> GrpB} {ra : Nat -> Option Addr}
def GrpsAt.Foot (lo bl mr : Nat) (lv : Value) (gs : List fP) (bs : Nat -> GrpB) (ra : Nat -> Option Addr) (q : Nat) : Prop := q = bl \/ q = mr \/ lv.ownBlock = some q \/ (∃ i, i < gs.length /\ (bs i).own q) \/ ∃ i, i < gs.length /\ ra i = some ⟨q, 0, none⟩
theorem GrpsAt.lt (h : GrpsAt W lo T bl mr k at_ gs lv bs ra) {q : Nat} (hq : GrpsAt.Foot lo bl mr lv gs bs ra q) : q < W.heap.size /\ (q = bl \/ q = mr \/ (lo ≤ q /\ ¬ T q)) := by
 rcases hq with rfl | rfl | hq | ⟨i, hi, hq⟩ | ⟨i, hi, hq⟩
 ·exact ⟨h.box.lt, .inl rfl⟩
 ·exact ⟨h.map.lt, .inr (.inl rfl)⟩
 ·obtain ⟨cs, hb⟩ := aQ h.row hq
  exact ⟨hb.lt, .inr (.inr (h.row.block q hq))⟩
 ·exact ⟨((h.grp i _ (qG hi)).lt q hq).1, .inr (.inr (h.own i hi q hq))⟩
 ·rcases h.rows i _ (qG hi) with ⟨e, _⟩ | ⟨q', rest, e, hb, h1, h2, _⟩
  ·rw [e] at hq; cases hq
  ·rw [e] at hq; cases hq; exact ⟨hb.lt, .inr (.inr ⟨h1, h2⟩)⟩
theorem GrpsAt.kp (h : GrpsAt W lo T bl mr k at_ gs lv bs ra) (hk : Kp F W W') (hF : ∀ q, GrpsAt.Foot lo bl mr lv gs bs ra q -> ¬ F q) (hT : ∀ q, q < W.heap.size -> T' q -> T q) : GrpsAt W' lo T' bl mr k at_ gs lv bs ra := by
 refine ⟨h.box.kp hk (hF _ (.inl rfl)), ?_, h.map.kp hk (hF _ (.inr (.inl rfl))), fun i g hg => ?_, fun i g hg => ?_, fun i hi q hq => ?_, h.apart, h.old⟩
 ·have h5 := h.row.kp' hk fun g hg _ => hF g (.inr (.inr (.inl hg)))
  obtain ⟨q1, q2 | ⟨g, cap, rest, a, hM, c, d⟩⟩ := h.row
  ·exact ⟨q1, .inl q2⟩
  ·obtain ⟨r1, ⟨r2, _⟩ | ⟨g', cap', rest', a', hM', c', d'⟩⟩ := h5
   ·rw [a] at r2; cases r2
   ·have hgg : g' = g := by rw [a] at a'; cases a'; rfl
    exact ⟨r1, .inr ⟨g', cap', rest', a', ⟨hM'.1, fun ht => hM'.2 (hT _ (by rw [hgg]; exact c.lt) ht)⟩, c', d'⟩⟩
 ·have hi := (List.getElem?_eq_some_iff.1 hg).1
  exact (h.grp i g hg).kp hk fun q hq => hF q (.inr (.inr (.inr (.inl ⟨i, hi, hq⟩))))
 ·have hi := (List.getElem?_eq_some_iff.1 hg).1
  rcases h.rows i g hg with h1 | ⟨q, rest, e, hb, h1, h2, h3⟩
  ·exact .inl h1
  ·exact .inr ⟨q, rest, e, hb.kp hk (hF q (.inr (.inr (.inr (.inr ⟨i, hi, e⟩))))), h1, fun ht => h2 (hT q hb.lt ht), h3⟩
 ·have h1 := h.own i hi q hq
  exact ⟨h1.1, fun ht => h1.2 (hT q ((h.grp i _ (qG hi)).lt q hq).1 ht)⟩
theorem GrpsAt.ext (h : GrpsAt W lo T bl mr k at_ gs lv bs ra) (hk : Ext W W') : GrpsAt W' lo T bl mr k at_ gs lv bs ra := h.kp hk (fun _ _ => id) fun _ _ h => h
theorem GrpsAt.take (h : GrpsAt W lo T bl mr k at_ gs lv bs ra) {i : Nat} {hd : List ByteArray} {B B' : aC} (hi : gs[i]? = some (hd, B)) (hk : Kp (fun q => q = (bs i).nb \/ q = (bs i).bb \/ q = (bs i).tot) W W') (hg9 : GroupAt W' (bs i) k at_ (.slice (ra i) hd.length hd.length) B') : GrpsAt W' lo T bl mr k at_ (gs.set i (hd, B')) lv bs ra := by
 have hil := (List.getElem?_eq_some_iff.1 hi).1
 have hown : ∀ q, (q = (bs i).nb \/ q = (bs i).bb \/ q = (bs i).tot) -> (bs i).own q := fun q hq => by
  rcases hq with e | e | e
  ·exact .inr (.inl e)
  ·exact .inr (.inr (.inl e))
  ·exact .inr (.inr (.inr (.inr (.inl e))))
 have hno : ∀ q cs (e : TypeId), Blk W q cs e -> e ≠ 2 -> e ≠ 9 -> e ≠ 98 -> ¬ (q = (bs i).nb \/ q = (bs i).bb \/ q = (bs i).tot) := fun q cs e hb n1 n2 n3 hq => by
  have hG := h.grp i _ hi
  rcases hq with rfl | rfl | rfl
  ·exact n1 (aK hb hG.cnt)
  ·exact n2 (aK hb hG.best)
  ·exact n3 (aK hb hG.tot)
 have hlo : ∀ q, (q = (bs i).nb \/ q = (bs i).bb \/ q = (bs i).tot) -> lo ≤ q := fun q hq => (h.own i hil q (hown q hq)).1
 have hfst : ∀ j g, (gs.set i (hd, B'))[j]? = some g -> ∃ g0, gs[j]? = some g0 /\ g0.1 = g.1 /\ (j ≠ i -> g0 = g) /\ (j = i -> g = (hd, B')) := fun j g hg => by
  rw [List.getElem?_set] at hg
  by_cases e : i = j
  ·subst e
   rw [if_pos rfl, if_pos hil] at hg
   cases hg
   exact ⟨_, hi, rfl, fun x => absurd rfl x, fun _ => rfl⟩
  ·rw [if_neg e] at hg
   exact ⟨g, hg, rfl, fun _ => rfl, fun x => absurd x.symm e⟩
 have hkm : pT (gs.set i (hd, B')) = pT gs := by
  unfold pT
  rw [List.map_set]
  congr 1
  have h3 : (gs.map (·.1))[i]? = some hd := by rw [List.getElem?_map, hi]; rfl
  obtain ⟨hl3, e3⟩ := List.getElem?_eq_some_iff.1 h3
  have h4 := List.set_getElem_self hl3
  rw [e3] at h4
  exact h4
 refine ⟨h.box.kp hk fun e => by have := hlo _ e; have := h.old.1; omega, ?_, ?_, fun j g hg => ?_, fun j g hg => ?_, fun j hj q hq => h.own j (by simpa using hj) q hq, fun a b ha hb => h.apart a b (by simpa using ha) (by simpa using hb), h.old⟩
 ·rw [List.length_set]
  exact h.row.kp' hk fun q hq _ => by
   obtain ⟨cs, hb⟩ := aQ h.row hq
   exact hno q _ _ hb (by decide) (by decide) (by decide)
 ·rw [hkm]
  exact h.map.kp hk fun e => by have := hlo _ e; have := h.old.2; omega
 ·obtain ⟨g0, h1, h2, h3, h4⟩ := hfst j g hg
  by_cases e : j = i
  ·rw [h4 e, e]; exact hg9
  ·have hjl := (List.getElem?_eq_some_iff.1 h1).1
   rw [<- h3 e]
   exact (h.grp j g0 h1).kp hk fun q hq hf => h.apart j i hjl hil e q hq (hown q hf)
 ·obtain ⟨g0, h1, h2, h3, h4⟩ := hfst j g hg
  rw [<- h2, List.length_set]
  rcases h.rows j g0 h1 with h5 | ⟨q, rest, e, hb, h6, h7, h8⟩
  ·exact .inl h5
  ·exact .inr ⟨q, rest, e, hb.kp hk (fun hf => h8 i hil (hown q hf)), h6, h7, h8⟩
theorem GrpsAt.push {X : World} {lv' : Value} {hd : List ByteArray} {b : GrpB} {ra' : Option Addr} (h : GrpsAt X lo T bl mr k at_ gs lv bs ra) (hk : Kp (fun q => q = bl \/ q = mr \/ lv.ownBlock = some q) X W') (hm : MapIs W' mr (pT (gs ++ [(hd, [])]))) (hb : Blk W' bl [lv'] 120)
 (hr : Row W' 123 1 lv' (gs.length + 1) (mN bs gs.length ++ [fM b.g]) (fun g => lv.ownBlock = some g \/ X.heap.size ≤ g)) (hG : GroupAt W' b k at_ (.slice ra' hd.length hd.length) []) (hown : ∀ q, b.own q -> X.heap.size ≤ q)
 (hrow : (ra' = none /\ hd = []) \/ ∃ q rest, ra' = some ⟨q, 0, none⟩ /\ Blk W' q (strs hd ++ rest) 9 /\ lo ≤ q /\ ¬ T q /\ q < X.heap.size /\ ∀ j, j < gs.length -> ¬ (bs j).own q) (hTlt : ∀ q, T q -> q < X.heap.size) (hlo : lo ≤ X.heap.size) :
 GrpsAt W' lo T bl mr k at_ (gs ++ [(hd, [])]) lv' (cH bs gs.length b) (cH ra gs.length ra') := by
 have hnc : ∀ q cs (e : TypeId), Blk X q cs e -> lo ≤ q -> e ≠ 123 -> ¬ (q = bl \/ q = mr \/ lv.ownBlock = some q) := fun q cs e hb2 hl hne hq => by
  rcases hq with rfl | rfl | hq
  ·have := h.old.1; omega
  ·have := h.old.2; omega
  ·obtain ⟨cs2, hb3⟩ := aQ h.row hq
   exact hne (aK hb2 hb3)
 have hkeep : ∀ i g, gs[i]? = some g -> GroupAt W' (bs i) k at_ (.slice (ra i) g.1.length g.1.length) g.2 := fun i g hg => by
  have hi := (List.getElem?_eq_some_iff.1 hg).1
  have hG0 := h.grp i g hg
  refine hG0.kp hk fun q hq => ?_
  have h1 := (h.own i hi q hq).1
  rcases hq with rfl | rfl | rfl | rfl | rfl | rfl | rfl
  ·exact hnc _ _ _ hG0.blk h1 (by decide)
  ·exact hnc _ _ _ hG0.cnt h1 (by decide)
  ·exact hnc _ _ _ hG0.best h1 (by decide)
  ·exact hnc _ _ _ hG0.tbox h1 (by decide)
  ·exact hnc _ _ _ hG0.tot h1 (by decide)
  ·exact hnc _ _ _ hG0.kind h1 (by decide)
  ·exact hnc _ _ _ hG0.plc h1 (by decide)
 have ub : ∀ i, i < gs.length -> cH bs gs.length b i = bs i := fun i hi => if_neg (by omega)
 have ur : ∀ i, i < gs.length -> cH ra gs.length ra' i = ra i := fun i hi => if_neg (by omega)
 have hget : ∀ i g, (gs ++ [(hd, ([] : aC))])[i]? = some g -> (i < gs.length /\ gs[i]? = some g) \/ (i = gs.length /\ g = (hd, [])) := fun i g hg => by
  have hl := (List.getElem?_eq_some_iff.1 hg).1
  rw [List.length_append, List.length_singleton] at hl
  by_cases e : i < gs.length
  ·rw [List.getElem?_append_left e] at hg; exact .inl ⟨e, hg⟩
  ·have e2 : i = gs.length := by omega
   subst e2
   rw [List.getElem?_append_right (Nat.le_refl _), Nat.sub_self] at hg
   cases hg; exact .inr ⟨rfl, rfl⟩
 refine ⟨hb, ?_, hm, fun i g hg => ?_, fun i g hg => ?_, fun i hi q hq => ?_, fun i j hi hj hne q hq => ?_, h.old⟩
 ·rw [List.length_append, List.length_singleton]
  have e : mN (cH bs gs.length b) (gs.length + 1) = mN bs gs.length ++ [fM b.g] := by
   unfold mN
   rw [List.range_succ, List.map_append, List.map_singleton, upd_same]
   congr 1
   exact List.map_congr_left fun i hi => by rw [ub i (List.mem_range.1 hi)]
  rw [e]
  refine hr.mono fun g hg => ?_
  rcases hg with hg | hg
  ·exact h.row.block g hg
  ·exact ⟨by omega, fun ht => by have := hTlt g ht; omega⟩
 ·rcases hget i g hg with ⟨hi, hg2⟩ | ⟨rfl, rfl⟩
  ·rw [ub i hi, ur i hi]; exact hkeep i g hg2
  ·rw [upd_same, upd_same]; exact hG
 ·rw [List.length_append, List.length_singleton]
  rcases hget i g hg with ⟨hi, hg2⟩ | ⟨rfl, rfl⟩
  ·rw [ur i hi]
   rcases h.rows i g hg2 with h5 | ⟨q, rest, e, hb2, h6, h7, h8⟩
   ·exact .inl h5
   ·refine .inr ⟨q, rest, e, hb2.kp hk (hnc q _ _ hb2 h6 (by decide)), h6, h7, fun j hj => ?_⟩
    by_cases ej : j = gs.length
    ·subst ej; rw [upd_same]; exact fun ho => by have := hown q ho; have := hb2.lt; omega
    ·rw [ub j (by omega)]; exact h8 j (by omega)
  ·rw [upd_same]
   rcases hrow with h5 | ⟨q, rest, e, hb2, h6, h7, h8, h9⟩
   ·exact .inl h5
   ·refine .inr ⟨q, rest, e, hb2, h6, h7, fun j hj => ?_⟩
    by_cases ej : j = gs.length
    ·subst ej; rw [upd_same]; exact fun ho => by have := hown q ho; omega
    ·rw [ub j (by omega)]; exact h9 j (by omega)
 ·rw [List.length_append, List.length_singleton] at hi
  by_cases e : i = gs.length
  ·subst e
   rw [upd_same] at hq
   have := hown q hq
   exact ⟨by omega, fun ht => by have := hTlt q ht; omega⟩
  ·rw [ub i (by omega)] at hq; exact h.own i (by omega) q hq
 ·rw [List.length_append, List.length_singleton] at hi hj
  have hlt : ∀ j, j < gs.length -> ∀ q, (bs j).own q -> q < X.heap.size := fun j hj q hq => ((h.grp j _ (qG hj)).lt q hq).1
  by_cases ei : i = gs.length
  ·subst ei
   rw [upd_same] at hq
   rw [ub j (by omega)]
   exact fun ho => by have := hown q hq; have := hlt j (by omega) q ho; omega
  ·rw [ub i (by omega)] at hq
   by_cases ej : j = gs.length
   ·subst ej; rw [upd_same]
    exact fun ho => by have := hown q ho; have := hlt i (by omega) q hq; omega
   ·rw [ub j (by omega)]; exact h.apart i j (by omega) (by omega) hne q hq
theorem GrpsAt.step (h : GrpsAt W lo T bl mr k at_ gs lv bs ra) (hge : ∀ q, T q -> lo ≤ q) (hk : Kp T W W') (hT : ∀ q, T' q -> sJ T W W' q) : GrpsAt W' lo T' bl mr k at_ gs lv bs ra :=
 h.kp hk (fun q hq ht => by
  rcases (h.lt hq).2 with rfl | rfl | h2
  ·have := hge _ ht; have := h.old.1; omega
  ·have := hge _ ht; have := h.old.2; omega
  ·exact h2.2 ht) fun q hq ht => by
  rcases hT q ht with h3 | h3
  ·exact h3
  ·omega
theorem GrpsAt.put (h : GrpsAt W lo T bl mr k at_ gs lv bs ra) {l : Nat} {o o' : Obj} (hl : lo ≤ l) (ho : W.heap[l]? = some o) (hc : o.isCells = false) : GrpsAt (W.putObj l o') lo T bl mr k at_ gs lv bs ra := by
 have hk : Kp (fun q => q = l) W (W.putObj l o') := Kp.putF (F := fun q => q = l) rfl _
 have hnc : ∀ q cs (e : TypeId), Blk W q cs e -> ¬ q = l := fun q cs e hb hq => by
  unfold Blk at hb
  rw [hq, ho] at hb; cases hb; cases hc
 refine h.kp hk (fun q hq => ?_) fun _ _ h => h
 rcases hq with rfl | rfl | hq | ⟨i, hi, hq⟩ | ⟨i, hi, hq⟩
 ·exact hnc _ _ _ h.box
 ·intro e; have := h.old.2; omega
 ·obtain ⟨cs, hb⟩ := aQ h.row hq
  exact hnc _ _ _ hb
 ·obtain ⟨o2, h1, h2⟩ := ((h.grp i _ (qG hi)).lt q hq).2
  intro e; rw [e, ho] at h1; cases h1; rw [hc] at h2; cases h2
 ·rcases h.rows i _ (qG hi) with ⟨e, _⟩ | ⟨q', rest, e, hb, _⟩
  ·rw [e] at hq; cases hq
  ·rw [e] at hq; cases hq; exact hnc _ _ _ hb
end
end
section
open Go.RowKit Go.Shelf
attribute [local go_sem] Oper.semAt_some
def zO : Nat -> Code -> Code
 | 0, c => c
 | n + 1, .seq _ b => zO n b
 | _ + 1, c => c
def aKp : Code -> Code
 | .block _ c => c
 | c => c
noncomputable def oW : Code := ((Tryz.f66.body.bind cC).getD .skip)
noncomputable def oV : Code := zO 4 (aKp oW)
theorem aJd (t : Array Value) (h : t.size = 83) : ∃ u : Nat -> Value, (∀ i, t.getD i undef = u i) /\ t = #[u 0, u 1, u 2, u 3, u 4, u 5, u 6, u 7, u 8, u 9, u 10, u 11, u 12, u 13, u 14, u 15, u 16, u 17, u 18, u 19, u 20, u 21, u 22, u 23, u 24, u 25, u 26, u 27, u 28, u 29, u 30, u 31, u 32, u 33, u 34, u 35, u 36, u 37, u 38, u 39, u 40, u 41, u 42, u 43, u 44, u 45, u 46, u 47, u 48, u 49, u 50, u 51, u 52, u 53, u 54, u 55, u 56, u 57, u 58, u 59, u 60, u 61, u 62, u 63, u 64, u 65, u 66, u 67, u 68, u 69, u 70, u 71, u 72, u 73, u 74, u 75, u 76, u 77, u 78, u 79, u 80, u 81, u 82] := by
 refine ⟨fun i => t.toList.getD i undef, fun i => by simp [Array.getD_eq_getD_getElem?, List.getD_eq_getElem?_getD], ?_⟩
 apply Array.ext'
 have := kG t.toList 83 (by simpa using h)
 exact this
def qW (f0 : Nat) (e : Nat) : Nat := if e = 0 then f0 else e
set_option maxHeartbeats 4000000 in
theorem aB1 {X : World} {lo bl mr bf f0 kx n vc l : Nat} {T : Nat -> Prop} {k at_ : Int} {gs : List fP} {lv : Value} {bs : Nat -> GrpB} {ra : Nat -> Option Addr} {hd : List ByteArray} {B : aC} {V : List ByteArray} {va : Option Addr} {t : Array Value} {Q : Exit -> Act -> World -> Prop}
 (hI : GrpsAt X lo T bl mr k at_ gs lv bs ra) (hg : gs[kx]? = some (hd, B)) (hbf : Blk X bf [.int .i64 (f0 : Nat)] 46) (hbl : bf < lo) (hk : 4 ≤ k /\ k ≤ 7) (hn : n = V.length) (hV : CellsAt X va (strs V)) (hat : k ≠ 4 -> 0 ≤ at_ /\ at_ < n) (hN : NumW X) (hVs : ∀ s ∈ V, s.size ≤ 1048576) (hB : B.length ≤ 1048576)
 (hz : t.size = 83) (t10 : t.getD 10 undef = .pointer (some ⟨bl, 0, none⟩)) (t13 : t.getD 13 undef = .pointer (some ⟨bf, 0, none⟩)) (t14 : t.getD 14 undef = .slice va n vc) (t17 : t.getD 17 undef = .int .i64 (kx : Nat))
 (hQ : ∀ a X', GrpsAt X' lo T bl mr k at_ (gs.set kx (hd, B ++ [V])) lv bs ra -> Blk X' bf [.int .i64 (qW f0 (takeA k at_.toNat V) : Nat)] 46 -> Kp (fun q => q = bf \/ (bs kx).own q) X X' -> Q .normal a X') :
 oV.wpIn (Fence.wide.inRound l) 2 Tryz.prog Q { tmps := t, defers := [] } X := by
 obtain ⟨u, hu, rfl⟩ := aJd t hz
 have e10 := (hu 10).symm.trans t10
 have e13 := (hu 13).symm.trans t13
 have e14 := (hu 14).symm.trans t14
 have e17 := (hu 17).symm.trans t17
 rw [e10, e13, e14, e17]
 clear hz t10 t13 t14 t17 e10 e13 e14 e17 hu
 have hkl := (List.getElem?_eq_some_iff.1 hg).1
 have hG := hI.grp kx _ hg
 have HT := qH (aC9 (vc := vc) hk hG hn hV hat hN hVs hB)
 obtain ⟨la, lc, elv, _, _⟩ := hI.row.shape
 subst elv
 obtain ⟨lg, ela, c1⟩ : ∃ g, la = some ⟨g, 0, none⟩ /\ X.cell? ⟨g, kx, none⟩ = some (fM (bs kx).g) := by
  obtain ⟨h1, ⟨e, h0⟩ | ⟨g, cap, rest, e, hM, hb, hl, hc, hm⟩⟩ := hI.row
  ·omega
  ·cases e
   refine ⟨g, rfl, ?_⟩
   rw [hb.cell', List.getElem?_append_left (by unfold mN; simpa using hkl)]
   unfold mN
   simp [hkl]
 subst ela
 have c0 := hI.box.c0
 have c2 := hG.blk.c1
 have hent := aIq k
 obtain ⟨tf, etf⟩ : ∃ x, kT k = x := ⟨_, rfl⟩
 obtain ⟨tc, etc⟩ : ∃ x, nN k (bs kx) = x := ⟨_, rfl⟩
 rw [etf, etc] at HT
 rw [etf] at hent
 unfold wR at c2
 rw [etf, etc] at c2
 unfold fM at c1
 obtain ⟨gl, egl⟩ : ∃ x, gs.length = x := ⟨_, rfl⟩
 rw [egl] at c0 hkl
 obtain ⟨bg, ebg⟩ : ∃ x, (bs kx).g = x := ⟨_, rfl⟩
 rw [ebg] at c1 c2
 have i1 : (kx : Int) < (gl : Int) := by omega
 have HQ := qH hQ
 have HI := qH (And.intro hI (And.intro hg (And.intro hbf hbl)))
 obtain ⟨tk, etk⟩ : ∃ x, takeA k at_.toNat V = x := ⟨_, rfl⟩
 rw [etk] at HT HQ
 clear hQ hI hg hbf hbl hk hn hV hat hN hVs hB hG etf etc egl ebg etk
 conv => arg 4; whnf
 gi_wp2
 refine And.intro trivial ?_
 refine (CallsIn.inRound l (callsIn_wide.2 HT.out)).mono ?_
 rintro e W1 ⟨v1, rfl, hk1, rfl, hG1⟩
 have hown : ∀ q, (q = (bs kx).nb \/ q = (bs kx).bb \/ q = (bs kx).tot) -> (bs kx).own q := fun q hq => by
  rcases hq with e | e | e
  ·exact .inr (.inl e)
  ·exact .inr (.inr (.inl e))
  ·exact .inr (.inr (.inr (.inr (.inl e))))
 have hkl2 := (List.getElem?_eq_some_iff.1 HI.out.2.1).1
 have hb1 : Blk W1 bf [.int .i64 (f0 : Nat)] 46 := HI.out.2.2.1.kp hk1 fun hf => by
  have h1 := (HI.out.1.own kx hkl2 bf (hown bf hf)).1
  have := HI.out.2.2.2
  omega
 have H1 := qH (And.intro hk1 (And.intro (HI.out.1.take HI.out.2.1 hk1 hG1) hb1))
 have hpre : Kp (fun q => q = bf \/ (bs kx).own q) X W1 := hk1.mono fun q _ hq => .inr (hown q hq)
 have HP := qH hpre
 have d0 : W1.cell? ⟨bf, 0, none⟩ = some (.int .i64 (f0 : Nat)) := by rw [hb1.cell']; rfl
 have d1 := hb1.free 0
 clear hk1 hG1 hown hkl2 hb1 hpre c0 c1 c2
 by_cases htk : tk = 0
 ·have h0 : ((tk : Int) != 0) = false := by simp; omega
  have HF := qH (show qW f0 tk = f0 from if_pos htk)
  clear htk
  gi_wp2
  exact HQ.out _ W1 H1.out.2.1 (by rw [HF.out]; exact H1.out.2.2) HP.out
 ·have h0 : ((tk : Int) != 0) = true := by simp; omega
  have HF := qH (show qW f0 tk = tk from if_neg htk)
  clear htk
  gi_wp2
  have ks : Kp (fun q => q = bf) W1 (W1.setCell ⟨bf, 0, none⟩ (.int .i64 (tk : Nat))) := kSa
  refine HQ.out _ _ (H1.out.2.1.kp ks (fun q hq e => ?_) fun _ _ h => h) (by rw [HF.out]; exact H1.out.2.2.set 0 _) (HP.out.trans (ks.mono fun q _ e => .inl e))
  have e' : q = bf := e
  subst e'
  rcases (H1.out.2.1.lt hq).2 with h2 | h2 | h2
  ·have h3 := H1.out.2.1.box
   rw [<- h2] at h3
   exact absurd (aK h3 H1.out.2.2) (by decide)
  ·obtain ⟨es, c, h4, _⟩ := H1.out.2.1.map
   have h5 := H1.out.2.2
   unfold Blk at h5
   rw [h2, h4] at h5
   cases h5
  ·have := HI.out.2.2.2; omega
theorem aJ1 : cM Tryz.prog 120 123 1 8 (.pointer none) := ⟨by kernel_rfl, by kernel_rfl, rfl, by decide⟩
theorem aHs {P : Program} {t e : TypeId} {k bytes : Nat} {z : Value} (E : cM P t e k bytes z) {l : List Oper} {a : Act} {w : World} {Q : Exit -> Act -> World -> Prop} {o : Oper} {K : Act -> World -> Prop} {El : Prop} (hgd : o.guard = none) (s x : Operand)
 (ho : o.op = .call { callee := .builtin .append, args := #[s, x], argTypes := #[t, t] }) {M : Nat -> Prop}
 {v : Value} {n : Nat} {xs : List Value} (hs : a.eval s = v) (hr : Row w e k v n xs M)
 {ao : Option Addr} {m c : Nat} {news : List Value} (hx : a.eval x = .slice ao m c) (hsrc : CellsAt w ao news) (hl : news.length = m * k) (h1 : ∀ u ∈ news, u.oneCell' = true)
 (hb : (n + m) * bytes ≤ 140737488355328) (h63 : n + m ≤ maxLen)
 (h : ∀ v' w', Row w' e k v' (n + m) (xs ++ news) (fun g => v.ownBlock = some g \/ w.heap.size ≤ g) -> Kp (fun g => v.ownBlock = some g) w w' -> K (a.put o.dst v') w') :
 if Region.wanted o (yielded l.toArray a.tmps) = true then Oper.wp P o a w K Q else El := by
 obtain ⟨v', w', hrun, h2, h3, h4⟩ := pI (P := P) E o.type hr hl hsrc h1 hb h63 (c := c)
 exact aCp hgd s x ho hs hx hrun (h v' w' h2 h3)
theorem aJl {gs : List fP} {h : List ByteArray} (hk : fK gs h = none) : lC (pT gs) (oA h) (.int .i64 (gs.length : Nat)) = pT (gs ++ [(h, [])]) := by
 rw [aJk hk [], gN [] hk]
 unfold pT
 rw [List.map_append, List.map_append]
 rfl
theorem aEv {W4 W6 W7 : World} {bl tb8 a9 gn gl lc : Nat} {la : Option Addr} {k at_ : Int} {s8 : ByteArray} {xs : List Value} {M : Nat -> Prop} (hx : Ext W4 W6) (hB : Blk W4 bl [.slice la gn lc] 120) (h8 : Blk W4 tb8 [.int .i64 k, .string s8] 58) (h9 : Blk W4 a9 [.int .i64 at_] 3) (hR : Row W6 123 1 (.slice la gl lc) gl xs M) (e : gn = gl) (hk : Kp (fun g => (Value.slice la gl lc).ownBlock = some g) W6 W7) :
 (W7.cell? ⟨bl, 0, none⟩ = some (.slice la gl lc) /\ W7.cell? ⟨tb8, 0, none⟩ = some (.int .i64 k) /\ W7.cell? ⟨a9, 0, none⟩ = some (.int .i64 at_)) /\ Blk W7 bl [.slice la gl lc] 120 := by
 subst e
 have hno : ∀ q cs (e : TypeId), Blk W6 q cs e -> e ≠ 123 -> ¬ (Value.slice la gn lc).ownBlock = some q := fun q cs e hb n1 hq => by
  obtain ⟨cs2, hb2⟩ := aQ hR hq
  exact n1 (aK hb hb2)
 have b1 := (hB.ext hx).kp hk (hno _ _ _ (hB.ext hx) (by decide))
 have b2 := (h8.ext hx).kp hk (hno _ _ _ (h8.ext hx) (by decide))
 have b3 := (h9.ext hx).kp hk (hno _ _ _ (h9.ext hx) (by decide))
 exact ⟨⟨by rw [b1.cell']; rfl, by rw [b2.cell']; rfl, by rw [b3.cell']; rfl⟩, b1⟩
set_option maxHeartbeats 16000000 in
theorem zM {w0 X : World} {lo bl mr bf bn ob tb8 a9 gb0 f0 m n l : Nat} {T : Nat -> Prop} {k at_ : Int} {gs : List fP} {lv : Value} {bs : Nat -> GrpB} {ra : Nat -> Option Addr} {s8 p : ByteArray} {hs : List aE} {ls : List aM} {ha ba xa : Option Addr} {hn hcap ln bcap : Nat} {V : List ByteArray} {t : Array Value} {Qn : World -> Prop}
 (hI : GrpsAt X lo T bl mr k at_ gs lv bs ra) (hG0 : Blk X gb0 [.string p, .slice ha hn hcap, .slice ba ln bcap] 43) (h8 : Blk X tb8 [.int .i64 k, .string s8] 58) (h9 : Blk X a9 [.int .i64 at_] 3) (h11 : Blk X ob [.map (some mr)] 184) (h12 : Blk X bn [.int .i64 (m : Nat)] 3) (hbf : Blk X bf [.int .i64 (f0 : Nat)] 46)
 (hold : bf < lo /\ bn < lo /\ ob < lo /\ tb8 < lo /\ a9 < lo /\ gb0 < lo /\ bn ≠ a9 /\ lo ≤ X.heap.size) (hbase : w0.heap.size ≤ bl /\ w0.heap.size ≤ mr /\ w0.heap.size ≤ bn /\ w0.heap.size ≤ bf /\ w0.heap.size ≤ lo) (hw0 : Ext w0 X) (hm : m < 1048576) (hgl : gs.length ≤ m) (hgB : ∀ g ∈ gs, g.2.length ≤ m)
 (hTlt : ∀ q, T q -> q < X.heap.size) (hk : 4 ≤ k /\ k ≤ 7) (hnV : n = V.length) (hx : (xa = none /\ V = []) \/ ∃ g rest, xa = some ⟨g, 0, none⟩ /\ Blk X g (strs V ++ rest) 9 /\ lo ≤ g /\ ∀ j, j < gs.length -> ¬ (bs j).own g) (hat : k ≠ 4 -> 0 ≤ at_ /\ at_ < n) (hN : NumW w0) (hVs : ∀ s ∈ V, s.size ≤ 1048576) (hVn : n ≤ 1048576)
 (hHd : ∀ W, Ext w0 W -> CellsAt W xa (strs V) -> Calls Tryz.prog 113 #[dL p ha hn hcap ba ln bcap, .slice xa n n] W (RetN W fun w' v => tG ((p, hs, ()), ls, ()) V W w' v)) (hc : aP ((p, hs, ()), ls, ()) = 0) (hVl : V.length = (aA ls).length) (hh16 : hs.length ≤ 1048576) (hhs : ∀ s ∈ aY (aA ls) V hs, s.size ≤ 1048576)
 (hz : t.size = 83) (t3 : t.getD 3 undef = .pointer (some ⟨gb0, 0, none⟩)) (t8 : t.getD 8 undef = .pointer (some ⟨tb8, 0, none⟩)) (t9 : t.getD 9 undef = .pointer (some ⟨a9, 0, none⟩)) (t10 : t.getD 10 undef = .pointer (some ⟨bl, 0, none⟩)) (t11 : t.getD 11 undef = .pointer (some ⟨ob, 0, none⟩)) (t12 : t.getD 12 undef = .pointer (some ⟨bn, 0, none⟩)) (t13 : t.getD 13 undef = .pointer (some ⟨bf, 0, none⟩)) (t14 : t.getD 14 undef = .slice xa n n)
 (hQ : ∀ X' lv' bs' ra', GrpsAt X' lo T bl mr k at_ (cX gs (aY (aA ls) V hs) V) lv' bs' ra' -> Blk X' bn [.int .i64 (m + 1 : Nat)] 3 -> Blk X' bf [.int .i64 (qW f0 (takeA k at_.toNat V) : Nat)] 46 -> Kp (fun q => q = bl \/ q = mr \/ q = bn \/ q = bf \/ lv.ownBlock = some q \/ ∃ i, i < gs.length /\ (bs i).own q) X X' -> Qn X') :
 oW.wpIn (Fence.wide.inRound l) 2 Tryz.prog (gM Qn fun _ => False) { tmps := t, defers := [] } X := by
 obtain ⟨u, hu, rfl⟩ := aJd t hz
 have e3 := (hu 3).symm.trans t3
 have e8 := (hu 8).symm.trans t8
 have e9 := (hu 9).symm.trans t9
 have e10 := (hu 10).symm.trans t10
 have e11 := (hu 11).symm.trans t11
 have e12 := (hu 12).symm.trans t12
 have e13 := (hu 13).symm.trans t13
 have e14 := (hu 14).symm.trans t14
 rw [e3, e8, e9, e10, e11, e12, e13, e14]
 clear hz t3 t8 t9 t10 t11 t12 t13 t14 e3 e8 e9 e10 e11 e12 e13 e14 hu
 obtain ⟨la, lc, elv, _, _⟩ := hI.row.shape
 subst elv
 -- the first store
 obtain ⟨X1, eX1⟩ : ∃ x, X.setCell ⟨bn, 0, none⟩ (.int .i64 ((m : Int) + 1)) = x := ⟨_, rfl⟩
 have kn : Kp (fun q => q = bn) X X1 := by rw [<- eX1]; exact kSa
 have h12' : Blk X1 bn [.int .i64 ((m : Int) + 1)] 3 := by rw [<- eX1]; exact h12.set 0 _
 have hfoot : ∀ q, GrpsAt.Foot lo bl mr (.slice la gs.length lc) gs bs ra q -> q ≠ bn := fun q hq e => by
  subst e
  rcases (hI.lt hq).2 with h2 | h2 | h2
  ·have h3 := hI.box
   rw [<- h2] at h3
   exact absurd (aK h3 h12) (by decide)
  ·obtain ⟨es, c, h4, _⟩ := hI.map
   unfold Blk at h12
   rw [h2, h4] at h12
   cases h12
  ·have := hold.2.1; omega
 have hI1 := hI.kp (T' := T) kn hfoot fun _ _ h => h
 have hw1 : Ext w0 X1 := hw0.trans' kn fun i hi e => by have e' : i = bn := e; have := hbase.2.2.1; omega
 have hne : ∀ q cs (e : TypeId), Blk X q cs e -> e ≠ 3 -> q ≠ bn := fun q cs e hb n1 hq => by subst hq; exact n1 (aK hb h12)
 have hG1 := hG0.kp kn (hne _ _ _ hG0 (by decide))
 have h81 := h8.kp kn (hne _ _ _ h8 (by decide))
 have h91 := h9.kp kn (fun e => hold.2.2.2.2.2.2.1 e.symm)
 have h111 := h11.kp kn (hne _ _ _ h11 (by decide))
 have hf1 := hbf.kp kn (hne _ _ _ hbf (by decide))
 have hx1 : (xa = none /\ V = []) \/ ∃ g rest, xa = some ⟨g, 0, none⟩ /\ Blk X1 g (strs V ++ rest) 9 /\ lo ≤ g /\ ∀ j, j < gs.length -> ¬ (bs j).own g := by
  rcases hx with h | ⟨g, rest, q1, q2, q3, q4⟩
  ·exact .inl h
  ·exact .inr ⟨g, rest, q1, q2.kp kn (hne _ _ _ q2 (by decide)), q3, q4⟩
 have hxc1 : CellsAt X1 xa (strs V) := by
  rcases hx1 with ⟨e1, e2⟩ | ⟨g, rest, q1, q2, _⟩
  ·rw [e2]; exact CellsAt.nil _ _
  ·rw [q1]; exact CellsAt.pre q2
 have HHd := qH (hHd X1 hw1 hxc1)
 have HS1 := qH (show GrpsAt X1 lo T bl mr k at_ gs (.slice la gs.length lc) bs ra /\ Ext w0 X1 /\ Blk X1 tb8 [.int .i64 k, .string s8] 58 /\ Blk X1 a9 [.int .i64 at_] 3 /\ Blk X1 ob [.map (some mr)] 184 /\ Blk X1 bn [.int .i64 ((m : Int) + 1)] 3 /\ Blk X1 bf [.int .i64 (f0 : Nat)] 46 /\ X1.heap.size = X.heap.size from ⟨hI1, hw1, h81, h91, h111, h12', hf1, by rw [<- eX1]; simp [World.setCell]⟩)
 have HX1 := qH hx1
 have HC := qH (And.intro hc (And.intro hVl (And.intro hh16 hhs)))
 have HO := qH (And.intro hold (And.intro hbase (And.intro hgl hgB)))
 have HV := qH (And.intro hk (And.intro hnV (And.intro hat (And.intro hN (And.intro hVs hVn)))))
 have HTl := qH hTlt
 have HKn := qH kn
 have HQ := qH hQ
 have c12 : X.cell? ⟨bn, 0, none⟩ = some (.int .i64 (m : Nat)) := by rw [h12.cell']; rfl
 have f12 := h12.free 0
 have d12 : X1.cell? ⟨bn, 0, none⟩ = some (.int .i64 ((m : Int) + 1)) := by rw [h12'.cell']; rfl
 have g0 := hG1.c0
 have g1 := hG1.c1
 have g2 := hG1.c2
 have e1 : IntKind.i64.wrap ((m : Int) + 1) = (m : Int) + 1 := IntWalk.i64_in _ (by omega)
 have i1 : ¬ (1048576 : Int) < (m : Int) + 1 := by omega
 clear hI hG0 h8 h9 h11 h12 hbf hold hbase hw0 hgl hgB hTlt hk hnV hx hat hN hVs hVn hHd hc hVl hh16 hhs hQ kn h12' hfoot hI1 hw1 hne hG1 h81 h91 h111 hf1 hx1 hxc1
 conv => arg 4; whnf
 show Code.wpIn _ _ _ (Code.block 1 (Code.seq _ (Code.seq _ (Code.seq _ (Code.seq _ oV))))) _ _ _
 gi_wp2
 refine And.intro trivial ?_
 refine (CallsIn.inRound l (callsIn_wide.2 HHd.out)).mono ?_
 rintro e W1 ⟨v1, rfl, hk1, hO⟩
 obtain ⟨H, eH⟩ : ∃ H, aY (aA ls) V hs = H := ⟨_, rfl⟩
 have hfew := qT (aA ls) V hs
 obtain ⟨ao, rfl, hcs, hsl⟩ : ∃ ao, v1 = .tuple #[.slice ao H.length H.length, .int .i64 0] /\ CellsAt W1 ao (strs H) /\ OwnF W1 X1.heap.size W1.heap.size ao H := by
  rcases hO with ⟨-, -, ao, cap, e, h1, h2, h3, h4, h5⟩ | ⟨hno, -⟩
  ·rw [eH] at e h1 h4 h5
   rw [h4] at e h5
   exact ⟨ao, e, h1, h5.f⟩
  ·exact absurd ⟨HC.out.1, HC.out.2.1⟩ hno
 rw [eH] at HC HQ hfew
 obtain ⟨rn, ern⟩ : ∃ rn, H.length = rn := ⟨_, rfl⟩
 rw [ern]
 have hm1 : ∀ W, Ext X1 W -> MapIs W mr (pT gs) := fun W hW => HS1.out.1.map.ext hW
 have hrn : rn ≤ 1048576 := by have := HC.out.2.2.1; omega
 have HKey := qH (fun w' (hw : Ext W1 w') => aFj (c := rn) ern.symm (hcs.ext hw) (HV.out.2.2.2.1.ext ((HS1.out.2.1.trans hk1).trans hw)) HC.out.2.2.2 hrn)
 obtain ⟨kv, ekv⟩ : ∃ x, (fK gs H).getD 0 = x := ⟨_, rfl⟩
 obtain ⟨kb, ekb⟩ : ∃ x, (fK gs H).isSome = x := ⟨_, rfl⟩
 have HLk := qH (show ∀ w', Ext W1 w' -> (Instr.lookup 184 (.map (some mr)) (.string (oA H)) true).run Tryz.prog w' = .ok (.tuple #[.int .i64 (kv : Nat), .bool kb]) w' from fun w' hw => by
  have h := pH (P := Tryz.prog) Tryz.underlying184 Tryz.underlying9 (z := .int .i64 0) (by kernel_rfl) (hm1 w' (hk1.trans hw)) (oA H)
  rw [aBr] at h
  rw [h, <- ekv, <- ekb]
  cases fK gs H <;> rfl)
 have HJ := qH (show ∀ w', Ext W1 w' -> (fun w' : World => w'.cell? ⟨ob, 0, none⟩ = some (.map (some mr))) w' from fun w' hw => by show w'.cell? _ = _; rw [(HS1.out.2.2.2.2.1.ext (hk1.trans hw)).cell']; rfl)
 have H1 := qH (And.intro hk1 (And.intro hsl (And.intro ern (And.intro eH (And.intro ekv ekb)))))
 obtain ⟨gl, egl⟩ : ∃ x, gs.length = x := ⟨_, rfl⟩
 have HGl := qH egl
 have HFin := qH (show ∀ (Y : World) (gs' : List fP) (lv' : Value) (bs' : Nat -> GrpB) (ra' : Nat -> Option Addr) (kx : Nat) (B : aC) (t : Array Value) (Q' : Exit -> Act -> World -> Prop), GrpsAt Y lo T bl mr k at_ gs' lv' bs' ra' -> gs'[kx]? = some (H, B) -> B.length ≤ 1048576 -> gs'.set kx (H, B ++ [V]) = cX gs H V -> (∀ q, (bs' kx).own q -> q < X.heap.size -> ∃ i, i < gs.length /\ (bs i).own q) -> Kp (fun q => q = bl \/ q = mr \/ (Value.slice la gs.length lc).ownBlock = some q) X1 Y -> t.size = 83 -> t.getD 10 undef = .pointer (some ⟨bl, 0, none⟩) -> t.getD 13 undef = .pointer (some ⟨bf, 0, none⟩) -> t.getD 14 undef = .slice xa n n -> t.getD 17 undef = .int .i64 (kx : Nat) -> (∀ a X', Qn X' -> Q' .normal a X') -> oV.wpIn (Fence.wide.inRound l) 2 Tryz.prog Q' { tmps := t, defers := [] } Y from fun Y gs' lv' bs' ra' kx B t Q' hI' hg' hB hset hown hY hz t10 t13 t14 t17 hQ' => by
  obtain ⟨hI1, hw1, h81, h91, h111, h12, hf1, hsz⟩ := HS1.out
  obtain ⟨⟨o1, o2, o3, o4, o5, o6, o7, o8⟩, ⟨b1, b2, b3, b4, b5⟩, hgl, hgB⟩ := HO.out
  obtain ⟨hk, hnV, hat, hN, hVs, hVn⟩ := HV.out
  have hne : ∀ q cs (e : TypeId), Blk X1 q cs e -> e ≠ 120 -> e ≠ 123 -> ¬ (q = bl \/ q = mr \/ (Value.slice la gs.length lc).ownBlock = some q) := fun q cs e hb n1 n2 hq => by
   rcases hq with rfl | rfl | hq
   ·exact n1 (aK hb hI1.box)
   ·obtain ⟨es, c, h4, _⟩ := hI1.map
    unfold Blk at hb
    rw [h4] at hb
    cases hb
   ·obtain ⟨cs2, hb2⟩ := aQ hI1.row hq
    exact n2 (aK hb hb2)
  have hkl := (List.getElem?_eq_some_iff.1 hg').1
  have hwY : Ext w0 Y := hw1.trans' hY fun i hi hf => by
   rcases hf with e | e | e
   ·omega
   ·omega
   ·have := (hI1.row.block i e).1; omega
  refine aB1 hI' hg' (hf1.kp hY (hne _ _ _ hf1 (by decide) (by decide))) o1 hk hnV ?_ hat (hN.ext hwY) hVs hB hz t10 t13 t14 t17 fun a X' q1 q2 q3 => hQ' a X' ?_
  ·rcases HX1.out with ⟨e1, e2⟩ | ⟨g, rest, r1, r2, _⟩
   ·rw [e2]; exact CellsAt.nil _ _
   ·rw [r1]; exact CellsAt.pre (r2.kp hY (hne _ _ _ r2 (by decide) (by decide)))
  ·rw [hset] at q1
   refine HQ.out X' _ _ _ q1 ?_ q2 ?_
   ·have h1 := h12.kp hY (hne _ _ _ h12 (by decide) (by decide))
    exact h1.kp q3 fun hf => by
     rcases hf with e | e
     ·exact absurd (aK (e ▸ h12) hf1) (by decide)
     ·have := (hI'.own kx hkl bn e).1; omega
   ·refine ((HKn.out.mono fun q _ e => .inr (.inr (.inl e))).trans (hY.mono fun q _ e => ?_)).trans' q3 fun i hi hf => ?_
    ·rcases e with e | e | e
     ·exact .inl e
     ·exact .inr (.inl e)
     ·exact .inr (.inr (.inr (.inr (.inl e))))
    ·rcases hf with e | e
     ·exact .inr (.inr (.inr (.inl e)))
     ·exact .inr (.inr (.inr (.inr (.inr (hown i e hi))))))
 clear hO hcs hsl hk1 hfew hm1 hrn g0 g1 g2 c12 f12 d12 e1 i1 ern eH ekv ekb egl
 gi_wp2
 refine bY (fun w' : World => w'.cell? ⟨ob, 0, none⟩ = some (.map (some mr))) [] (by kernel_rfl) (HJ.out _ (Kp.refl W1).drew) (fun hHeld => ?_)
 refine dI 0 ?_; try simp only [Act.put,sI,sZ,sS]
 refine dF 1 ?_; try simp only [Act.put,sI,sZ,sS]
 refine aF (i := 2) ?_
 refine aG (i := 2) rfl (fun K hK => ?_)
 go_simp
 (refine (HKey.out _ (Kp.refl W1).drew).mono ?_; rintro e w2 ⟨v2, rfl, hk2, rfl⟩; have X2 := qH (show Ext W1 w2 from ((Kp.refl W1).drew).trans hk2); clear hk2)
 go_wp2_with fail
 refine hK.out _ _ ?_ (fun hHeld => ?_)
 ·(try dsimp only); (exact HJ.out _ X2.out)
 clear hK K; (try simp only [Act.put,sI,sZ,sS])
 refine aF (i := 3) ?_
 refine aG (i := 3) rfl (fun K hK => ?_)
 (have hlk := HLk.out _ X2.out)
 go_simp
 refine hK.out _ _ ?_ (fun hHeld => ?_)
 ·(try dsimp only); (exact HJ.out _ X2.out)
 clear hK K; (try simp only [Act.put,sI,sZ,sS])
 refine dF 4 ?_; try simp only [Act.put,sI,sZ,sS]
 refine dF 5 ?_; try simp only [Act.put,sI,sZ,sS]
 refine dF 6 ?_; try simp only [Act.put,sI,sZ,sS]
 refine dF 7 ?_; try simp only [Act.put,sI,sZ,sS]
 refine dF 8 ?_; try simp only [Act.put,sI,sZ,sS]
 refine aN (by kernel_rfl) ?_ _
 clear hHeld hlk
 cases kb
 ·have HNo := qH (show fK gs H = none from by
   have h := H1.out.2.2.2.2.2
   cases hk : fK gs H with
   | none => rfl
   | some x => rw [hk] at h; cases h)
  have hbX : Ext X1 w2 := H1.out.1.trans X2.out
  have c10 := (HS1.out.1.box.ext hbX).c0
  rw [HGl.out] at c10
  have HJ2 := qH (show ∀ w', Ext w2 w' -> (fun w' : World => w'.cell? ⟨ob, 0, none⟩ = some (.map (some mr))) w' from fun w' hw => HJ.out w' (X2.out.trans hw))
  clear hbX
  gi_wp2
  clear c10
  refine bY (fun w' : World => w'.cell? ⟨ob, 0, none⟩ = some (.map (some mr))) [4] (by kernel_rfl) (HJ2.out _ (Kp.refl w2).drew) (fun hHeld => ?_)
  refine dI 0 ?_; try simp only [Act.put,sI,sZ,sS]
  refine dF 1 ?_; try simp only [Act.put,sI,sZ,sS]
  refine dF 3 ?_; try simp only [Act.put,sI,sZ,sS]
  refine aF (i := 2) ?_
  refine aG (i := 2) rfl (fun K hK => ?_)
  go_simp
  (refine (HKey.out _ (X2.out.trans (Kp.refl w2).drew)).mono ?_; rintro e w3 ⟨v3, rfl, hk3, rfl⟩; have X3 := qH (show Ext w2 w3 from ((Kp.refl w2).drew).trans hk3); clear hk3)
  go_wp2_with fail
  refine hK.out _ _ ?_ (fun hHeld => ?_)
  ·(try dsimp only); (exact HJ2.out _ X3.out)
  clear hK K; (try simp only [Act.put,sI,sZ,sS])
  refine aF (i := 4) ?_
  refine aJ (i := 4) rfl (by kernel_rfl) (fun K hK => ?_)
  (obtain ⟨w4, hu, hm4, hk4⟩ := mG (P := Tryz.prog) Tryz.underlying184 Tryz.underlying9 (HS1.out.1.map.ext (H1.out.1.trans (X2.out.trans X3.out))) (oA H) (.int .i64 (gl : Nat)))
  go_simp
  refine hK.out _ _ ?_
  clear hK K; (try simp only [Act.put,sI,sZ,sS])
  refine aN (by kernel_rfl) ?_ _
  have hx3 : Ext X1 w3 := H1.out.1.trans (X2.out.trans X3.out)
  have hI3 := HS1.out.1.ext hx3
  have hnm : ∀ q cs (e : TypeId), Blk w3 q cs e -> ¬ q = mr := fun q cs e hb hq => by
   obtain ⟨es, c, h4, _⟩ := hI3.map
   unfold Blk at hb
   rw [hq, h4] at hb
   cases hb
  have hB4 : Blk w4 bl [.slice la gs.length lc] 120 := hI3.box.kp hk4 (hnm _ _ _ hI3.box)
  have hR4 : Row w4 123 1 (.slice la gs.length lc) gs.length (mN bs gs.length) (fun g => lo ≤ g /\ ¬ T g) := hI3.row.kp' hk4 fun g hg _ => by
   obtain ⟨cs, hb⟩ := aQ hI3.row hg
   exact hnm _ _ _ hb
  have h84 := (HS1.out.2.2.1.ext hx3).kp hk4 (hnm _ _ _ (HS1.out.2.2.1.ext hx3))
  have h94 := (HS1.out.2.2.2.1.ext hx3).kp hk4 (hnm _ _ _ (HS1.out.2.2.2.1.ext hx3))
  have HJ3 := qH (show ∀ w', Ext w4 w' -> (fun w' : World => w'.cell? ⟨bl, 0, none⟩ = some (.slice la gl lc) /\ w'.cell? ⟨tb8, 0, none⟩ = some (.int .i64 k) /\ w'.cell? ⟨a9, 0, none⟩ = some (.int .i64 at_)) w' from fun w' hw => ⟨by rw [(hB4.ext hw).cell', <- HGl.out]; rfl, by rw [(h84.ext hw).cell']; rfl, by rw [(h94.ext hw).cell']; rfl⟩)
  have HRow := qH (show ∀ w', Ext w4 w' -> Row w' 123 1 (.slice la gl lc) gl (mN bs gl) (fun g => lo ≤ g /\ ¬ T g) from fun w' hw => by rw [<- HGl.out]; exact hR4.ext hw)
  have hgl2 : gl ≤ 1048576 := by have h1 := HO.out.2.2.1; rw [HGl.out] at h1; omega
  have HG4 := qH (And.intro hk4 (And.intro hm4 (And.intro hB4 (And.intro h84 (And.intro h94 (And.intro hx3 hR4))))))
  clear hu hm4 hk4 hx3 hI3 hnm hB4 hR4 h84 h94 hHeld
  gi_wp2
  refine bY (fun w' : World => w'.cell? ⟨bl, 0, none⟩ = some (.slice la gl lc) /\ w'.cell? ⟨tb8, 0, none⟩ = some (.int .i64 k) /\ w'.cell? ⟨a9, 0, none⟩ = some (.int .i64 at_)) [8] (by kernel_rfl) (HJ3.out _ (Kp.refl w4).drew) (fun hHeld => ?_)
  refine dI 0 ?_; try simp only [Act.put,sI,sZ,sS]
  refine dF 1 ?_; try simp only [Act.put,sI,sZ,sS]
  refine dF 2 ?_; try simp only [Act.put,sI,sZ,sS]
  refine dI 3 ?_; try simp only [Act.put,sI,sZ,sS]
  refine dI 4 ?_; try simp only [Act.put,sI,sZ,sS]
  refine aF (i := 5) ?_
  refine aG (i := 5) rfl (fun K hK => ?_)
  go_simp
  (refine (aH2 (w := w4.drew) HV.out.1).mono ?_; rintro e w5 ⟨v5, rfl, hk5, b, rfl, hG5, hb5⟩; have X5 := qH (And.intro (show Ext w4 w5 from ((Kp.refl w4).drew).trans hk5) (And.intro hG5 hb5)); clear hk5 hG5 hb5)
  go_wp2_with fail
  refine hK.out _ _ ?_ (fun hHeld => ?_)
  ·(try dsimp only); (exact HJ3.out _ X5.out.1)
  clear hK K; (try simp only [Act.put,sI,sZ,sS])
  refine aF (i := 6) ?_
  refine aG (i := 6) rfl (fun K hK => ?_)
  go_simp
  refine hK.out _ _ ?_ (fun hHeld => ?_)
  ·(try dsimp only); (exact HJ3.out _ (X5.out.1.alloc _))
  clear hK K; (try simp only [Act.put,sI,sZ,sS])
  refine aF (i := 7) ?_
  refine aG (i := 7) rfl (fun K hK => ?_)
  refine aHs (v := .slice la gl lc) aJ1 rfl _ _ rfl rfl (HRow.out _ (X5.out.1.alloc _)) rfl (CellsAt.new w5 [fM b.g] 123) (by rfl) (by simp [fM, Value.oneCell']) (by omega) (by unfold maxLen; omega) ?_; intro v7 w7 hr7 hk7; obtain ⟨va7, vc7, ev7, _, _⟩ := hr7.shape; subst ev7; have HB7 := qH (aEv (X5.out.1.alloc _) HG4.out.2.2.1 HG4.out.2.2.2.1 HG4.out.2.2.2.2.1 (HRow.out _ (X5.out.1.alloc _)) HGl.out hk7); have HR7 := qH (And.intro hr7 hk7); clear hr7 hk7
  refine hK.out _ _ ?_ (fun hHeld => ?_)
  ·(try dsimp only); (exact HB7.out.1)
  clear hK K; (try simp only [Act.put,sI,sZ,sS])
  refine aF (i := 8) ?_
  refine aJ (i := 8) rfl (by kernel_rfl) (fun K hK => ?_)
  (have hc8 := HB7.out.1.1; have hf8 := HB7.out.2.free 0)
  go_simp
  refine hK.out _ _ ?_
  clear hK K; (try simp only [Act.put,sI,sZ,sS])
  refine aN (by kernel_rfl) ?_ _
  clear hHeld hc8 hf8
  gi_wp2
  have egl := HGl.out
  subst egl
  obtain ⟨hk4, hm4, hB4, h84, h94, hx3, hR4⟩ := HG4.out
  obtain ⟨x5, hG5, hb5⟩ := X5.out
  obtain ⟨hr7, hk7⟩ := HR7.out
  have hB7 := HB7.out.2
  have hI3 := HS1.out.1.ext hx3
  have ern := H1.out.2.2.1
  subst ern
  obtain ⟨W9, e9⟩ : ∃ x, w7.setCell ⟨bl, 0, none⟩ (.slice va7 (gs.length + 1) vc7) = x := ⟨_, rfl⟩
  have k9 : Kp (fun q => q = bl) w7 W9 := by rw [<- e9]; exact kSa
  have hb9 : Blk W9 bl [.slice va7 (gs.length + 1) vc7] 120 := by rw [<- e9]; exact hB7.set 0 _
  rw [e9]
  have kA : Ext w4 (w5.alloc (.cells #[.pointer (some ⟨b.g, 0, none⟩)] 123)) := x5.alloc _
  have s4 := hk4.size
  have s5 := kA.size
  have sd : w4.drew.heap.size = w4.heap.size := rfl
  have sX := hx3.size
  have sX1 := HS1.out.2.2.2.2.2.2.2
  have hlo := HO.out.1.2.2.2.2.2.2.2
  have hold := hI3.old
  have hown : ∀ q, b.own q -> w4.heap.size ≤ q := fun q hq => hb5 q hq
  have hO4 : ∀ q, (Value.slice la gs.length lc).ownBlock = some q -> lo ≤ q /\ q < w4.heap.size := fun q hq => by
   obtain ⟨cs, hb⟩ := aQ hR4 hq
   exact ⟨(hR4.block q hq).1, hb.lt⟩
  have kall : Kp (fun q => q = bl \/ q = mr \/ (Value.slice la gs.length lc).ownBlock = some q) w3 W9 :=
   (hk4.mono fun q _ e => .inr (.inl e)).trans ((Ext.kp kA).trans ((hk7.mono fun q _ e => .inr (.inr e)).trans (k9.mono fun q _ e => .inl e)))
  have hmb : mr ≠ bl := fun e => by
   obtain ⟨es, c, h4, _⟩ := hm4
   unfold Blk at hB4
   rw [<- e, h4] at hB4
   cases hB4
  have hp := GrpsAt.push (W' := W9) (lv' := .slice va7 (gs.length + 1) vc7) (hd := H) (b := b) (ra' := ao) hI3 kall
   (by
    have h := hm4
    rw [aJl HNo.out] at h
    exact ((h.ext kA).kp hk7 fun e => by have h1 := (hO4 _ e).1; omega).kp k9 hmb)
   hb9
   ((hr7.kp' k9 fun g hg _ e => by
     obtain ⟨cs, hb⟩ := aQ hr7 hg
     have e' : g = bl := e
     exact absurd (aK (e' ▸ hb) hB7) (by decide)).mono fun g hg => hg.imp id fun h => by omega)
   (((hG5.ext ((Kp.refl _).alloc _)).kp hk7 fun q hq e => by
     have h1 := hown q hq
     have h2 := (hO4 q e).2
     omega).kp k9 fun q hq e => by
      have h1 := hown q hq
      have e' : q = bl := e
      omega)
   (fun q hq => by have := hown q hq; omega)
   (by
    rcases H1.out.2.1 with h | ⟨g, rest, e, hb, h1, h2⟩
    ·exact .inl h
    ·have hbw := hb.ext (X2.out.trans X3.out)
     have hown1 : ∀ q, (Value.slice la gs.length lc).ownBlock = some q -> q < X1.heap.size := fun q hq => by
      obtain ⟨cs, hb⟩ := aQ HS1.out.1.row hq
      exact hb.lt
     refine .inr ⟨g, rest, e, hbw.kp kall fun hf => ?_, by omega, fun ht => ?_, hbw.lt, fun j hj ho => ?_⟩
     ·rcases hf with hf | hf | hf
      ·omega
      ·omega
      ·have := hown1 g hf; omega
     ·have := HTl.out g ht; omega
     ·have := ((HS1.out.1.grp j _ (qG hj)).lt g ho).1; omega)
   (fun q hq => by have := HTl.out q hq; omega) (by omega)
  refine HFin.out W9 _ _ _ _ gs.length [] _ _ hp (by simp) (Nat.zero_le _) ?_ (fun q hq hlt => ?_) ((Ext.kp hx3).trans kall) rfl rfl rfl rfl rfl ?_
  ·rw [gN V HNo.out]
   simp
  ·rw [upd_same] at hq
   have := hown q hq
   omega
  ·exact fun a X' h => h
 ·obtain ⟨hka, B, hB1, hB2, hB3⟩ : fK gs H = some kv /\ ∃ B, gs[kv]? = some (H, B) /\ cX gs H V = gs.set kv (H, B ++ [V]) /\ B.length ≤ 1048576 := by
   have h := H1.out.2.2.2.2.2
   have h2 := H1.out.2.2.2.2.1
   cases hk : fK gs H with
   | none => rw [hk] at h; cases h
   | some x =>
    rw [hk] at h2
    have e : x = kv := h2
    subst e
    obtain ⟨B, q1, q2⟩ := mV V hk
    have q3 := HO.out.2.2.2 _ (List.mem_of_getElem? q1)
    have q4 : B.length ≤ m := q3
    exact ⟨rfl, B, q1, q2, by omega⟩
  have HB := qH (And.intro hB1 (And.intro hB2 hB3))
  clear hka hB1 hB2 hB3
  gi_wp2
  refine HFin.out _ gs _ bs ra kv B _ _ (HS1.out.1.ext (H1.out.1.trans X2.out)) HB.out.1 HB.out.2.2 HB.out.2.1.symm (fun q hq _ => ⟨kv, (List.getElem?_eq_some_iff.1 HB.out.1).1, hq⟩) (Ext.kp (H1.out.1.trans X2.out)) rfl rfl rfl rfl rfl ?_
  exact fun a X' h => h
theorem aEx {w W : World} {P : World -> Value -> Prop} {tmps : Array Value} {ds : List Deferred} {lo g6 g7 : Nat} {a b : Value} (hm : Marks lo W ds) (hk : Ext w W) (hlo : w.heap.size ≤ lo) (h6 : tmps.getD 6 undef = .pointer (some ⟨g6, 0, none⟩)) (h7 : tmps.getD 7 undef = .pointer (some ⟨g7, 0, none⟩)) (hB6 : Blk W g6 [a] 120) (hB7 : Blk W g7 [b] 46)
 (hP : ∀ w', Ext w w' -> Kp (fun k => lo ≤ k /\ ¬ dN W k) W w' -> P w' (.tuple #[a, b])) :
 bodyPostM Fence.wide 4 Tryz.prog Tryz.f66 (RetN w P) .ret { tmps := tmps, defers := ds } W := by
 refine fJ hm fun w' e1 e2 e3 e4 e5 e6 => ?_
 have kx : Kp (fun k => lo ≤ k /\ ¬ dN W k) W w' := ⟨e1, e2, e3, by omega, fun k hk hf => by
  by_cases h : lo ≤ k
  ·by_cases h2 : ∃ o : Obj, W.heap[k]? = some o /\ o.isCells = true
   ·obtain ⟨o, h2, h3⟩ := h2
    rw [h2]; exact e6 k o h2 h3
   ·exact absurd ⟨h, h2⟩ hf
  ·exact e5 k (by omega)⟩
 have hx : Ext w w' := hk.trans' kx fun i hi h => absurd h.1 (by omega)
 refine ⟨.tuple #[a, b], ?_, RetN.mk hx (hP w' hx kx)⟩
 have hB62 : Blk w' g6 [a] 120 := hB6.kp kx fun h => h.2 ⟨_, hB6, rfl⟩
 have hB72 : Blk w' g7 [b] 46 := hB7.kp kx fun h => h.2 ⟨_, hB7, rfl⟩
 have c0 := hB62.c0
 have c1 := hB72.c0
 have h6' : tmps[6]?.getD undef = .pointer (some ⟨g6, 0, none⟩) := by simpa using h6
 have h7' : tmps[7]?.getD undef = .pointer (some ⟨g7, 0, none⟩) := by simpa using h7
 simp [results, Tryz.f66, go_sem, h6', h7', c0, c1]
def iD (k : Int) (at_ : Nat) (L : aC) : Nat := L.foldl (fun f V => qW f (takeA k at_ V)) 0
theorem aCb (k : Int) (at_ : Nat) (L : aC) (V : List ByteArray) : iD k at_ (L ++ [V]) = qW (iD k at_ L) (takeA k at_ V) := by unfold iD; rw [List.foldl_append]; rfl
theorem aBy {m : Nat} : ∀ {gs : List fP} (h V : List ByteArray), (∀ g ∈ gs, g.2.length ≤ m) -> ∀ g ∈ cX gs h V, g.2.length ≤ m + 1
 | [], h, V, hm, g, hg => by
  rw [List.mem_singleton.1 hg]; simp
 | x :: gs, h, V, hm, g, hg => by
  unfold cX at hg
  have hx := hm x (List.mem_cons_self ..)
  split at hg
  ·rcases List.mem_cons.1 hg with e | e
   ·rw [e]; simpa using hx
   ·have := hm g (List.mem_cons_of_mem _ e); omega
  ·rcases List.mem_cons.1 hg with e | e
   ·rw [e]; omega
   ·exact aBy h V (fun g hg => hm g (List.mem_cons_of_mem _ hg)) g e
theorem aB3 (N : List ByteArray) (hs : List aE) (L : aC) : ∀ g ∈ bQ N hs L, g.2.length ≤ L.length := by
 have key : ∀ (L : aC) (gs : List fP) (m : Nat), (∀ g ∈ gs, g.2.length ≤ m) -> ∀ g ∈ L.foldl (fun gs V => cX gs (aY N V hs) V) gs, g.2.length ≤ m + L.length := fun L => by
  induction L with
  | nil => intro gs m h; exact h
  | cons V L ih =>
   intro gs m h g hg
   have h2 := ih _ (m + 1) (aBy (aY N V hs) V h) g hg
   rw [List.length_cons]; omega
 have := key L [] 0 (fun g hg => by cases hg)
 simpa [bQ] using this
def iM (N : List ByteArray) (hs : List aE) (k at_ : Int) (L : aC) (w w' : World) (v : Value) : Prop :=
 ∃ lo bl mr lv bs ra, v = .tuple #[lv, .int .i64 (iD k at_.toNat L : Nat)] /\ GrpsAt w' lo (fun _ => False) bl mr k at_ (bQ N hs L) lv bs ra /\ w.heap.size ≤ lo /\ w.heap.size ≤ bl /\ w.heap.size ≤ mr
structure GrpsB (w X : World) (gb a9 ob mr : Nat) (cs : List Value) (k at_ : Int) (s8 : ByteArray) : Prop where
 rule : Blk X gb cs 43
 r6 : Blk X (gb + 1) [.slice none 0 0] 120
 r7 : Blk X (gb + 1 + 1) [.int .i64 0] 46
 term : Blk X (gb + 1 + 1 + 1) [.int .i64 k, .string s8] 58
 plc : Blk X a9 [.int .i64 at_] 3
 ofb : Blk X ob [.map (some mr)] 184
 ext : Ext w X
theorem GrpsB.kp {F : Nat -> Prop} {w X Y : World} {gb a9 ob mr : Nat} {cs : List Value} {k at_ : Int} {s8 : ByteArray} (h : GrpsB w X gb a9 ob mr cs k at_ s8) (hk : Kp F X Y) (hF : ∀ q, F q -> w.heap.size ≤ q /\ q ≠ gb /\ q ≠ gb + 1 /\ q ≠ gb + 1 + 1 /\ q ≠ gb + 1 + 1 + 1 /\ q ≠ a9 /\ q ≠ ob) : GrpsB w Y gb a9 ob mr cs k at_ s8 :=
 ⟨h.rule.kp hk fun f => (hF _ f).2.1 rfl, h.r6.kp hk fun f => (hF _ f).2.2.1 rfl, h.r7.kp hk fun f => (hF _ f).2.2.2.1 rfl, h.term.kp hk fun f => (hF _ f).2.2.2.2.1 rfl, h.plc.kp hk fun f => (hF _ f).2.2.2.2.2.1 rfl, h.ofb.kp hk fun f => (hF _ f).2.2.2.2.2.2 rfl, h.ext.trans' hk fun i hi f => absurd hi (Nat.not_lt.2 (hF i f).1)⟩
def Loc4 (bl mr bn bf : Nat) : Nat -> Prop := fun q => q = bl \/ q = mr \/ q = bn \/ q = bf
def GrpsI (w8 : World) (bl mr bn bf : Nat) (k at_ : Int) (N : List ByteArray) (hs : List aE) (T : Nat -> Prop) (pre : List XB) (W : World) : Prop :=
 Kp (Loc4 bl mr bn bf) w8 W /\ (∀ q, T q -> w8.heap.size ≤ q) /\ Blk W bn [.int .i64 (pre.length : Nat)] 3 /\ Blk W bf [.int .i64 (iD k at_.toNat (pre.map Prod.snd) : Nat)] 46 /\ ∃ lv bs ra, GrpsAt W w8.heap.size T bl mr k at_ (bQ N hs (pre.map Prod.snd)) lv bs ra
section
variable {w8 W1 W : World} {bl mr bn bf : Nat} {k at_ : Int} {N : List ByteArray} {hs : List aE} {T T' : Nat -> Prop} {pre : List XB}
theorem GrpsI.step (h : GrpsI w8 bl mr bn bf k at_ N hs T pre W1) (hl : bn < w8.heap.size /\ bf < w8.heap.size) (hk : Kp T W1 W) (hT : ∀ q, T' q -> sJ T W1 W q) : GrpsI w8 bl mr bn bf k at_ N hs T' pre W := by
 obtain ⟨h1, h2, h3, h4, lv, bs, ra, h5⟩ := h
 refine ⟨h1.trans' hk fun i hi hf => absurd (h2 i hf) (by omega), fun q hq => ?_, h3.kp hk fun f => absurd (h2 _ f) (by omega), h4.kp hk fun f => absurd (h2 _ f) (by omega), lv, bs, ra, h5.step h2 hk hT⟩
 have := h1.size
 rcases hT q hq with h | h
 ·exact h2 q h
 ·omega
theorem GrpsI.put (h : GrpsI w8 bl mr bn bf k at_ N hs T pre W) {l : Nat} {o o' : Obj} (hl : w8.heap.size ≤ l) (hb : bn < w8.heap.size /\ bf < w8.heap.size) (ho : W.heap[l]? = some o) (hc : o.isCells = false) : GrpsI w8 bl mr bn bf k at_ N hs T pre (W.putObj l o') := by
 obtain ⟨h1, h2, h3, h4, lv, bs, ra, h5⟩ := h
 have hk : Kp (fun q => q = l) W (W.putObj l o') := Kp.putF (F := fun q => q = l) rfl _
 exact ⟨h1.trans' hk fun i hi hf => by have e : i = l := hf; omega, h2, h3.kp hk (fun e => by have e' : bn = l := e; omega), h4.kp hk (fun e => by have e' : bf = l := e; omega), lv, bs, ra, h5.put hl ho hc⟩
theorem GrpsI.start (h1 : Blk w8 bl [.slice none 0 0] 120) (h2 : MapIs w8 mr []) (h3 : Blk w8 bn [.int .i64 0] 3) (h4 : Blk w8 bf [.int .i64 0] 46) : GrpsI w8 bl mr bn bf k at_ N hs (fun _ => False) [] w8 :=
 ⟨Kp.refl _, fun q h => h.elim, h3, h4, .slice none 0 0, fun _ => ⟨0, 0, 0, 0, 0, 0, 0⟩, fun _ => none, ⟨h1, Row.nil _ _ _ _, h2, fun i g h => by simp [bQ] at h, fun i g h => by simp [bQ] at h, fun i h => by simp [bQ] at h, fun i j h => by simp [bQ] at h, h1.lt, h2.lt⟩⟩
end
noncomputable def oU : Code := zO 3 (Tryz.f66.body.getD .skip)
set_option maxHeartbeats 16000000 in
theorem aBz {w W4 : World} {gb a9 : Nat} {p : ByteArray} {hs : List aE} {ls : List aM} {ha ba : Option Addr} {hn hcap n bcap : Nat} {o : Option Addr} {L : aC} {k at_ : Int} {s8 : ByteArray} {t : Array Value}
 (hb0 : Blk W4 gb [.string p, .slice ha hn hcap, .slice ba n bcap] 43) (hb1 : Blk W4 (gb + 1) [.slice none 0 0] 120) (hb2 : Blk W4 (gb + 1 + 1) [.int .i64 0] 46) (hb3 : Blk W4 (gb + 1 + 1 + 1) [.int .i64 k, .string s8] 58) (hb9 : Blk W4 a9 [.int .i64 at_] 3) (hx4 : Ext w W4) (hgb : gb = w.heap.size)
 (hEa : ∀ W, Ext w W -> Calls Tryz.prog 112 #[dL p ha hn hcap ba n bcap, .pointer o] W (RetN W fun w' v => aFq W w' L v))
 (hHd : ∀ W, Ext w W -> ∀ (V : List ByteArray) (va : Option Addr) (nb vc : Nat), nb = V.length -> CellsAt W va (strs V) -> nb ≤ 1048576 -> Calls Tryz.prog 113 #[dL p ha hn hcap ba n bcap, .slice va nb vc] W (RetN W fun w' v => tG ((p, hs, ()), ls, ()) V W w' v))
 (hL : ∀ V ∈ L, V.length = (aA ls).length) (hnv : (aA ls).length ≤ 1048576) (hhl : hs.length ≤ 1048576) (hc : aP ((p, hs, ()), ls, ()) = 0) (hk : 4 ≤ k /\ k ≤ 7) (hat : k ≠ 4 -> 0 ≤ at_ /\ at_ < (aA ls).length) (hN : NumW w) (hLl : L.length ≤ 1048576) (hVs : ∀ V ∈ L, ∀ s ∈ V, s.size ≤ 1048576) (hHs : ∀ V ∈ L, ∀ s ∈ aY (aA ls) V hs, s.size ≤ 1048576)
 (hz : t.size = 83) (t1 : t.getD 1 undef = .pointer o) (t3 : t.getD 3 undef = .pointer (some ⟨gb, 0, none⟩)) (t6 : t.getD 6 undef = .pointer (some ⟨gb + 1, 0, none⟩)) (t7 : t.getD 7 undef = .pointer (some ⟨gb + 1 + 1, 0, none⟩)) (t8 : t.getD 8 undef = .pointer (some ⟨gb + 1 + 1 + 1, 0, none⟩)) (t9 : t.getD 9 undef = .pointer (some ⟨a9, 0, none⟩)) :
 oU.wp Tryz.prog (bodyPostM Fence.wide 4 Tryz.prog Tryz.f66 (RetN w fun w' v => iM (aA ls) hs k at_ L w w' v)) { tmps := t, defers := [] } W4 := by
 obtain ⟨u, hu, rfl⟩ := aJd t hz
 have e1 := (hu 1).symm.trans t1
 have e3 := (hu 3).symm.trans t3
 have e6 := (hu 6).symm.trans t6
 have e7 := (hu 7).symm.trans t7
 have e8 := (hu 8).symm.trans t8
 have e9 := (hu 9).symm.trans t9
 rw [e1, e3, e6, e7, e8, e9]
 clear hz t1 t3 t6 t7 t8 t9 e1 e3 e6 e7 e8 e9 hu
 have HEa := qH hEa
 have HHd := qH hHd
 have HN := qH (And.intro hL (And.intro hnv (And.intro hhl (And.intro hc (And.intro hk (And.intro hat (And.intro hN (And.intro hLl (And.intro hVs hHs)))))))))
 obtain ⟨bl, ebl⟩ : ∃ g, W4.heap.size = g := ⟨_, rfl⟩
 obtain ⟨w5, e5⟩ : ∃ x, W4.alloc (.cells #[.slice none 0 0] 120) = x := ⟨_, rfl⟩
 obtain ⟨w6, e6⟩ : ∃ x, w5.alloc (.map #[] 0) = x := ⟨_, rfl⟩
 obtain ⟨w7, e7⟩ : ∃ x, w6.alloc (.cells #[.map (some (bl + 1))] 184) = x := ⟨_, rfl⟩
 obtain ⟨w8, e8⟩ : ∃ x, w7.alloc (.cells #[.int .i64 0] 3) = x := ⟨_, rfl⟩
 obtain ⟨w9, e9⟩ : ∃ x, w8.alloc (.cells #[.int .i64 0] 46) = x := ⟨_, rfl⟩
 have s5 : w5.heap.size = bl + 1 := by rw [<- e5, aI, ebl]
 have s6 : w6.heap.size = bl + 1 + 1 := by rw [<- e6, World.size_alloc, s5]
 have s7 : w7.heap.size = bl + 1 + 1 + 1 := by rw [<- e7, aI, s6]
 have s8' : w8.heap.size = bl + 1 + 1 + 1 + 1 := by rw [<- e8, aI, s7]
 have x5 : Ext W4 w5 := by rw [<- e5]; exact (Kp.refl W4).alloc _
 have x6 : Ext w5 w6 := by rw [<- e6]; exact (Kp.refl w5).alloc _
 have x7 : Ext w6 w7 := by rw [<- e7]; exact (Kp.refl w6).alloc _
 have x8 : Ext w7 w8 := by rw [<- e8]; exact (Kp.refl w7).alloc _
 have x9 : Ext w8 w9 := by rw [<- e9]; exact (Kp.refl w8).alloc _
 have x49 : Ext W4 w9 := x5.trans (x6.trans (x7.trans (x8.trans x9)))
 have b5 : Blk w9 bl [.slice none 0 0] 120 := Blk.ext (by have h := Blk.new W4 [.slice none 0 0] 120; rw [ebl] at h; rw [<- e5]; exact h) (x6.trans (x7.trans (x8.trans x9)))
 have b6 : MapIs w9 (bl + 1) [] := MapIs.ext (by have h := MapIs.new w5; rw [s5] at h; rw [<- e6]; exact h) (x7.trans (x8.trans x9))
 have b7 : Blk w9 (bl + 1 + 1) [.map (some (bl + 1))] 184 := Blk.ext (by have h := Blk.new w6 [.map (some (bl + 1))] 184; rw [s6] at h; rw [<- e7]; exact h) (x8.trans x9)
 have b8 : Blk w9 (bl + 1 + 1 + 1) [.int .i64 0] 3 := Blk.ext (by have h := Blk.new w7 [.int .i64 0] 3; rw [s7] at h; rw [<- e8]; exact h) x9
 have b9 : Blk w9 (bl + 1 + 1 + 1 + 1) [.int .i64 0] 46 := by have h := Blk.new w8 [.int .i64 0] 46; rw [s8'] at h; rw [<- e9]; exact h
 have H9 := qH (show GrpsB w w9 gb a9 (bl + 1 + 1) (bl + 1) [.string p, .slice ha hn hcap, .slice ba n bcap] k at_ s8 from ⟨hb0.ext x49, hb1.ext x49, hb2.ext x49, hb3.ext x49, hb9.ext x49, b7, hx4.trans x49⟩)
 have HM := qH (And.intro b5 (And.intro b6 (And.intro b8 b9)))
 have HO := qH (show gb + 1 + 1 + 1 < bl /\ a9 < bl /\ gb = w.heap.size from ⟨by rw [<- ebl]; exact hb3.lt, by rw [<- ebl]; exact hb9.lt, hgb⟩)
 have HEq := qH (And.intro ebl (And.intro e5 (And.intro e6 (And.intro e7 (And.intro e8 (And.intro e9 (And.intro s5 (And.intro s6 (And.intro s7 s8')))))))))
 have g0 : (((((W4.alloc (.cells #[.slice none 0 0] 120)).alloc (.map #[] 0)).alloc (.cells #[.map (some (bl + 1))] 184)).alloc (.cells #[.int .i64 0] 3)).alloc (.cells #[.int .i64 0] 46)).cell? ⟨gb, 0, none⟩ = some (.string p) := by rw [e5, e6, e7, e8, e9, H9.out.rule.cell']; rfl
 have g1 : (((((W4.alloc (.cells #[.slice none 0 0] 120)).alloc (.map #[] 0)).alloc (.cells #[.map (some (bl + 1))] 184)).alloc (.cells #[.int .i64 0] 3)).alloc (.cells #[.int .i64 0] 46)).cell? ⟨gb, 1, none⟩ = some (.slice ha hn hcap) := by rw [e5, e6, e7, e8, e9, H9.out.rule.cell']; rfl
 have g2 : (((((W4.alloc (.cells #[.slice none 0 0] 120)).alloc (.map #[] 0)).alloc (.cells #[.map (some (bl + 1))] 184)).alloc (.cells #[.int .i64 0] 3)).alloc (.cells #[.int .i64 0] 46)).cell? ⟨gb, 2, none⟩ = some (.slice ba n bcap) := by rw [e5, e6, e7, e8, e9, H9.out.rule.cell']; rfl
 clear e5 e6 e7 e8 e9 s5 s6 s7 s8'
 clear hEa hHd hL hnv hhl hc hk hat hN hLl hVs hHs x5 x6 x7 x8 x9 x49 b5 b6 b7 b8 b9 hb0 hb1 hb2 hb3 hb9 hx4 hgb
 obtain ⟨Q, eQ⟩ : ∃ Q, Q = bodyPostM Fence.wide 4 Tryz.prog Tryz.f66 (RetN w fun w' v => iM (aA ls) hs k at_ L w w' v) := ⟨_, rfl⟩
 rw [<- eQ]
 have EQ := qH eQ; clear eQ
 have hmm := @run_makeMap Tryz.prog
 conv => arg 2; whnf
 go_wp2_with fail
 obtain ⟨ebl, e5, e6, e7, e8, e9, -⟩ := HEq.out
 rw [e5, e6, e7, e8, e9]
 clear ebl e5 e6 e7 e8 e9 HEq hmm g0 g1 g2
 obtain ⟨ob, eob⟩ : ∃ x, bl + 1 + 1 = x := ⟨_, rfl⟩
 obtain ⟨mr, emr⟩ : ∃ x, bl + 1 = x := ⟨_, rfl⟩
 obtain ⟨bn, ebn⟩ : ∃ x, bl + 1 + 1 + 1 = x := ⟨_, rfl⟩
 obtain ⟨bf, ebf⟩ : ∃ x, bl + 1 + 1 + 1 + 1 = x := ⟨_, rfl⟩
 rw [ebf, ebn, eob, emr]
 rw [eob, emr] at H9
 rw [ebf, ebn, emr] at HM
 have HO2 := qH (show mr = bl + 1 /\ ob = bl + 1 + 1 /\ bn = bl + 1 + 1 + 1 /\ bf = bl + 1 + 1 + 1 + 1 from ⟨emr.symm, eob.symm, ebn.symm, ebf.symm⟩)
 clear eob emr ebn ebf
 refine (HEa.out w9 H9.out.ext).mono ?_
 rintro e w10 ⟨v10, rfl, hk10, xb, lo, hlo, rfl, hseq⟩
 have HS := qH (show vW Fence.wide 3 Tryz.prog 197 #[.pointer (some ⟨xb, 0, none⟩)] (fun x : XB => #[.slice x.1.1 x.1.2.1 x.1.2.2]) (fun k => lo ≤ k /\ k < w10.heap.size) GvRow (fun xs => xs.map Prod.snd = L) (fun pre => pre.map Prod.snd <+: L) w10 from hseq 3)
 have H10 := qH (H9.out.kp (F := fun _ => False) hk10 fun q h => h.elim)
 have HM10 := qH (show Blk w10 bl [.slice none 0 0] 120 /\ MapIs w10 mr [] /\ Blk w10 bn [.int .i64 0] 3 /\ Blk w10 bf [.int .i64 0] 46 from ⟨HM.out.1.ext hk10, HM.out.2.1.ext hk10, HM.out.2.2.1.ext hk10, HM.out.2.2.2.ext hk10⟩)
 have HLo := qH (show bf < lo /\ lo ≤ w10.heap.size + lo from ⟨Nat.lt_of_lt_of_le HM.out.2.2.2.lt hlo, by omega⟩)
 clear hseq hk10 hlo
 go_wp2_with fail
 have hbn10 : bn < w10.heap.size /\ bf < w10.heap.size := ⟨HM10.out.2.2.1.lt, HM10.out.2.2.2.lt⟩
 refine' wpIn_wide.1 (oC (F := Fence.wide) (n := 4) (w0 := w10) rfl (by omega) (gf := 197) (lb := #[.pointer (some ⟨xb, 0, none⟩)]) rfl trivial (enters_of Tryz.func197 (by kernel_rfl) rfl)
  HS.out (Kp.refl _) (fun k h => h.2) (fun _ => rfl) GvRow.put (GrpsI w10 bl mr bn bf k at_ (aA ls) hs) (fun _ _ _ _ => False)
  (fun T s W l o o' h _ hl ho hc => h.put hl hbn10 ho hc) (fun c T s W l o o' h _ hl ho hc => h)
  (fun W o h => h.step hbn10 ((Kp.refl W).alloc o) (fun k hk => hk.elim)) (GrpsI.start HM10.out.1 HM10.out.2.1 HM10.out.2.2.1 HM10.out.2.2.2) _ ?assign ?body ?done ?stop)
 case assign =>
  intro l x W K hK
  gi_wp2
  exact hK
 case stop =>
  rintro D c T pre W1 W hD hpre hX
  exact hX.elim
 case body =>
  rintro l T T' pre ⟨⟨xa, xn, xc⟩, V⟩ W1 W hI hT hk hsub hgv hpre
  have hTlt : ∀ k, T' k -> k < W.heap.size := fun k hk' => by
   rcases hsub k hk' with h | h
   ·exact Nat.lt_of_lt_of_le (hT k h) hk.size
   ·exact h.2
  obtain ⟨kX, hTge, hbn, hbf, lv, bs, ra, hG⟩ := hI
  have hown1 : ∀ i, i < (bQ (aA ls) hs (pre.map Prod.snd)).length -> ∀ q, (bs i).own q -> q < W1.heap.size := fun i hi q hq => ((hG.grp i _ (qG hi)).lt q hq).1
  obtain ⟨kX2, hTge2, hbn2, hbf2, -⟩ := GrpsI.step ⟨kX, hTge, hbn, hbf, lv, bs, ra, hG⟩ hbn10 hk hsub
  have hG2 := hG.step hTge hk hsub
  obtain ⟨o1, o2, o3⟩ := HO.out
  obtain ⟨p1, p2, p3, p4⟩ := HO2.out
  have hA := H10.out.kp kX2 fun q f => by
   rcases f with f | f | f | f <;> omega
  obtain ⟨hx1, hxc⟩ := hgv.cells
  have hxn : xn = V.length := hx1.1
  have hxc2 : xc = V.length := hx1.2
  subst hxn hxc2
  have hpre2 : (pre.map Prod.snd) ++ [V] <+: L := by
   have h := hpre
   rw [List.map_append] at h
   exact h
  have hmem : V ∈ L := hpre2.subset (List.mem_append_right _ (List.mem_singleton.2 rfl))
  have hVl := HN.out.1 V hmem
  have hml : pre.length + 1 ≤ L.length := by
   have := hpre2.length_le
   simpa using this
  have hm16 := HN.out.2.2.2.2.2.2.2.1
  have hsz := kX2.size
  have hgn := vA (aA ls) hs (pre.map Prod.snd)
  have hgB := aB3 (aA ls) hs (pre.map Prod.snd)
  rw [List.length_map] at hgn hgB
  have hVn : V.length ≤ 1048576 := by rw [hVl]; exact HN.out.2.1
  refine wpIn_mono (Q := gM (fun X' => KeepsFrom w10.heap.size W X' /\ Kp (fun k => ¬ fT (fun k => lo ≤ k /\ k < w10.heap.size) T' k) W X' /\ GrpsI w10 bl mr bn bf k at_ (aA ls) hs T' (pre ++ [((xa, V.length, V.length), V)]) X') (fun _ => False)) ?_ ?_
  ·show Code.wpIn _ _ _ oW _ _ _
   refine zM (w0 := w) (hs := hs) (ls := ls) (p := p) (ha := ha) (ba := ba) (hn := hn) (hcap := hcap) (ln := n) (bcap := bcap) (m := pre.length) (n := V.length) (V := V) hG2 hA.rule hA.term hA.plc hA.ofb hbn2 hbf2 (by omega) (by omega) hA.ext (by omega) hgn hgB hTlt HN.out.2.2.2.2.1 rfl ?_ (fun h => by rw [hVl]; exact HN.out.2.2.2.2.2.1 h) HN.out.2.2.2.2.2.2.1 (HN.out.2.2.2.2.2.2.2.2.1 V hmem) hVn (fun W' hW' hcs => HHd.out W' hW' V xa V.length V.length rfl hcs hVn) HN.out.2.2.2.1 hVl HN.out.2.2.1 (HN.out.2.2.2.2.2.2.2.2.2 V hmem) rfl rfl rfl rfl rfl rfl rfl rfl rfl ?_
   ·rcases hgv.2 with h | ⟨g, rest, e, hb, h1, h2⟩
    ·exact .inl h
    ·exact .inr ⟨g, rest, e, hb, by have := kX.size; have : W1.heap.size ≤ g := h1; omega, fun i hi ho => by have := hown1 i hi g ho; have : W1.heap.size ≤ g := h1; omega⟩
   ·intro X' lv' bs' ra' q1 q2 q3 q4
    have hF : ∀ q, (q = bl \/ q = mr \/ q = bn \/ q = bf \/ lv.ownBlock = some q \/ ∃ i, i < (bQ (aA ls) hs (pre.map Prod.snd)).length /\ (bs i).own q) -> ¬ T' q /\ (Loc4 bl mr bn bf q \/ (w10.heap.size ≤ q /\ dN W q)) := fun q hq => by
     rcases hq with e | e | e | e | e | ⟨i, hi, e⟩
     ·exact ⟨fun ht => by have := hTge2 q ht; omega, .inl (.inl e)⟩
     ·exact ⟨fun ht => by have := hTge2 q ht; omega, .inl (.inr (.inl e))⟩
     ·exact ⟨fun ht => by have := hTge2 q ht; omega, .inl (.inr (.inr (.inl e)))⟩
     ·exact ⟨fun ht => by have := hTge2 q ht; omega, .inl (.inr (.inr (.inr e)))⟩
     ·obtain ⟨cs, hb⟩ := aQ hG2.row e
      exact ⟨(hG2.row.block q e).2, .inr ⟨(hG2.row.block q e).1, _, hb, rfl⟩⟩
     ·have h1 := hG2.own i hi q e
      exact ⟨h1.2, .inr ⟨h1.1, ((hG2.grp i _ (qG hi)).lt q e).2⟩⟩
    have hsn : bQ (aA ls) hs ((pre ++ [((xa, V.length, V.length), V)]).map Prod.snd) = cX (bQ (aA ls) hs (pre.map Prod.snd)) (aY (aA ls) V hs) V := by
     rw [List.map_append, List.map_singleton, aB0]
    refine ⟨⟨q4.size, fun q ob2 hB hq ho => (q4.block q (lt_of_block hq) fun f => ?_).trans hq⟩, q4.mono fun q _ f hz => ?_, kX2.trans' q4 fun q hq f => ?_, hTge2, ?_, ?_, lv', bs', ra', ?_⟩
    ·rcases (hF q f).2 with h | ⟨_, ob3, h1, h2⟩
     ·rcases h with h | h | h | h <;> omega
     ·rw [hq] at h1; cases h1; rw [ho] at h2; cases h2
    ·rcases hz with hz | hz
     ·exact (hF q f).1 hz
     ·have h1 := HLo.out.1
      have h2 := hz.1
      have h3 := hz.2
      rcases (hF q f).2 with h | h
      ·rcases h with h | h | h | h <;> omega
      ·omega
    ·rcases (hF q f).2 with h | h
     ·exact h
     ·omega
    ·rw [List.length_append, List.length_singleton]; exact q2
    ·rw [List.map_append, List.map_singleton, aCb]; exact q3
    ·rw [hsn]; exact q1
  ·intro e a W' h
   cases e <;> first | exact h | exact h.elim
 case done =>
  rintro D T xs W1 W hD hxs hI hT hk hd
  obtain ⟨kX, -, hbn, hbf, lv, bs, ra, hG⟩ := hI.step (T' := fun _ => False) hbn10 hk (fun k hk' => hk'.elim)
  have hxs' : xs.map Prod.snd = L := hxs
  rw [hxs'] at hbf hG
  obtain ⟨o1, o2, o3⟩ := HO.out
  obtain ⟨p1, p2, p3, p4⟩ := HO2.out
  have hA := H10.out.kp kX fun q f => by
   rcases f with f | f | f | f <;> omega
  have hm1 : Marks w10.heap.size W [{ target := .collected D, args := #[] }] := ⟨[D], rfl, by simp, fun D' hD' => by rw [List.mem_singleton.1 hD']; exact ⟨hD, hd⟩⟩
  obtain ⟨la, lc, elv, -, -⟩ := hG.row.shape
  subst elv
  obtain ⟨gl, egl⟩ : ∃ x, (bQ (aA ls) hs L).length = x := ⟨_, rfl⟩
  rw [egl] at hG
  obtain ⟨fz, efz⟩ : ∃ x, iD k at_.toNat L = x := ⟨_, rfl⟩
  rw [efz] at hbf
  have HZ := qH (And.intro hA (And.intro hm1 (And.intro kX (And.intro hbf (And.intro hG (And.intro efz egl))))))
  have HJ := qH (show ∀ w', Ext W w' -> (fun w' : World => w'.cell? ⟨bl, 0, none⟩ = some (.slice la gl lc) /\ w'.cell? ⟨bf, 0, none⟩ = some (.int .i64 (fz : Nat))) w' from fun w' hw => ⟨by rw [(hG.box.ext hw).cell']; rfl, by rw [(hbf.ext hw).cell']; rfl⟩)
  have hoff : bl ≠ gb + 1 /\ bf ≠ gb + 1 /\ gb + 1 + 1 ≠ gb + 1 := ⟨by omega, by omega, by omega⟩
  have HK := qH (show (W.drew.setCell ⟨gb + 1, 0, none⟩ (.slice la gl lc)).cell? ⟨bl, 0, none⟩ = some (.slice la gl lc) /\ (W.drew.setCell ⟨gb + 1, 0, none⟩ (.slice la gl lc)).cell? ⟨bf, 0, none⟩ = some (.int .i64 (fz : Nat)) /\ Blk (W.drew.setCell ⟨gb + 1, 0, none⟩ (.slice la gl lc)) (gb + 1 + 1) [.int .i64 0] 46 from
   ⟨by rw [((hG.box.ext (Kp.refl W).drew).other (p := ⟨gb + 1, 0, none⟩) hoff.1 _).cell']; rfl, by rw [((hbf.ext (Kp.refl W).drew).other (p := ⟨gb + 1, 0, none⟩) hoff.2.1 _).cell']; rfl, (hA.r7.ext (Kp.refl W).drew).other (p := ⟨gb + 1, 0, none⟩) hoff.2.2 _⟩)
  have HJ6 := qH (hA.r6.ext (Kp.refl W).drew)
  clear hA hm1 kX hbf hG efz egl hI hT hk hd hD hxs hxs' hbn o1 o2 o3 p1 p2 p3 p4 hbn10 hoff
  go_wp2_with fail
  refine tH ?_
  refine bB (fun w' : World => w'.cell? ⟨bl, 0, none⟩ = some (.slice la gl lc) /\ w'.cell? ⟨bf, 0, none⟩ = some (.int .i64 (fz : Nat))) [3] (by kernel_rfl) (HJ.out _ (Kp.refl W).drew) (fun hHeld => ?_)
  refine dI 0 ?_; try simp only [Act.put,sI,sZ,sS]
  refine dI 1 ?_; try simp only [Act.put,sI,sZ,sS]
  refine aF (i := 2) ?_
  refine aG (i := 2) rfl (fun K hK => ?_)
  (have hc6 : W.cell? ⟨gb + 1, 0, none⟩ = some (.slice none 0 0) := (by rw [HZ.out.1.r6.cell']; rfl); have hf6 := HZ.out.1.r6.free 0)
  go_simp
  refine hK.out _ _ ?_ (fun hHeld => ?_)
  ·(try dsimp only); (exact ⟨HK.out.1, HK.out.2.1⟩)
  clear hK K; (try simp only [Act.put,sI,sZ,sS])
  refine aF (i := 3) ?_
  refine aJ (i := 3) rfl (by kernel_rfl) (fun K hK => ?_)
  (have hc7 : W.cell? ⟨gb + 1 + 1, 0, none⟩ = some (.int .i64 0) := (by rw [HZ.out.1.r7.cell']; rfl); have hf7 := HZ.out.1.r7.free 0)
  go_simp
  refine hK.out _ _ ?_
  clear hK K; (try simp only [Act.put,sI,sZ,sS])
  refine aN (by kernel_rfl) ?_ _
  refine fI ?_
  clear hHeld hc6 hf6 hc7 hf7
  go_wp2_with fail
  obtain ⟨hA, hm1, kX, hbf, hG, efz, egl⟩ := HZ.out
  obtain ⟨o1, o2, o3⟩ := HO.out
  obtain ⟨p1, p2, p3, p4⟩ := HO2.out
  have hne : gb + 1 ≠ gb + 1 + 1 := by omega
  have ks : Kp (fun q => q = gb + 1 \/ q = gb + 1 + 1) W ((W.setCell ⟨gb + 1, 0, none⟩ (.slice la gl lc)).setCell ⟨gb + 1 + 1, 0, none⟩ (.int .i64 (fz : Nat))).drew := (Kp.setCell (F := fun q => q = gb + 1 \/ q = gb + 1 + 1) (p := ⟨gb + 1 + 1, 0, none⟩) (Kp.setCell (F := fun q => q = gb + 1 \/ q = gb + 1 + 1) (p := ⟨gb + 1, 0, none⟩) (Kp.refl W) (fun _ => .inl rfl) _) (fun _ => .inr rfl) _).drew
  have hb6 : Blk ((W.setCell ⟨gb + 1, 0, none⟩ (.slice la gl lc)).setCell ⟨gb + 1 + 1, 0, none⟩ (.int .i64 (fz : Nat))).drew (gb + 1) [.slice la gl lc] 120 := ((hA.r6.set 0 (.slice la gl lc)).other (p := ⟨gb + 1 + 1, 0, none⟩) hne _).ext (Kp.refl _).drew
  have hb7 : Blk ((W.setCell ⟨gb + 1, 0, none⟩ (.slice la gl lc)).setCell ⟨gb + 1 + 1, 0, none⟩ (.int .i64 (fz : Nat))).drew (gb + 1 + 1) [.int .i64 (fz : Nat)] 46 := ((hA.r7.other (p := ⟨gb + 1, 0, none⟩) hne.symm (.slice la gl lc)).set 0 (.int .i64 (fz : Nat))).ext (Kp.refl _).drew
  generalize ((W.setCell ⟨gb + 1, 0, none⟩ (.slice la gl lc)).setCell ⟨gb + 1 + 1, 0, none⟩ (.int .i64 (fz : Nat))).drew = W2 at ks hb6 hb7 ⊢
  have hl10 : gb + 1 + 1 < w10.heap.size := H10.out.r7.lt
  have hs10 := H10.out.ext.size
  have hbl10 := HM10.out.1.lt
  have hmr10 := HM10.out.2.1.lt
  have hG2 : GrpsAt W2 w10.heap.size (fun _ => False) bl mr k at_ (bQ (aA ls) hs L) (.slice la gl lc) bs ra := hG.kp ks (fun q hq f => by
   rcases (hG.lt hq).2 with e | e | e
   ·rcases f with f | f <;> omega
   ·rcases f with f | f <;> omega
   ·rcases f with f | f <;> omega) fun _ _ h => h
  rw [EQ.out]
  refine aEx (lo := w10.heap.size) (hm1.kp ks fun q f => by rcases f with f | f <;> omega) (hA.ext.trans' ks fun i hi f => by rcases f with f | f <;> omega) hs10 rfl rfl hb6 hb7 fun w' hx' kx => ⟨w10.heap.size, bl, mr, .slice la gl lc, bs, ra, by rw [efz], hG2.kp kx (fun q hq f => ?_) (fun _ _ h => h), hs10, by omega, by omega⟩
  rcases (hG2.lt hq).2 with e | e | e
  ·have := f.1; omega
  ·have := f.1; omega
  ·rcases hq with hq | hq | hq | ⟨i, hi, hq⟩ | ⟨i, hi, hq⟩
   ·omega
   ·omega
   ·obtain ⟨cs, hb⟩ := aQ hG2.row hq
    exact f.2 ⟨_, hb, rfl⟩
   ·exact f.2 ((hG2.grp i _ (qG hi)).lt q hq).2
   ·rcases hG2.rows i _ (qG hi) with ⟨e2, _⟩ | ⟨q', rest, e2, hb, _⟩
    ·rw [e2] at hq; cases hq
    ·rw [e2] at hq; cases hq; exact f.2 ⟨_, hb, rfl⟩
end
end Go.Proofs.YtikgpedgmnbcaaaGreatDoor
