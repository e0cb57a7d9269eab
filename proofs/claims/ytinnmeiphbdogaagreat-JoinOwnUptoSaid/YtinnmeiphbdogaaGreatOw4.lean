/- Texts joined for a claim (RowAll, BaseAt, RowWith, BaseV, LaidPlain, TrieAt, CurAt, CurDo, CurSeek, CurOpen, CurOpen0, CurStep, MatchAt, WalkAt, JoinRef, JoinRef2). -/
import Derived.Test.YtinnmeiphbdogaaGreatOw3
import Derived.Deep.RegionWith
import Derived.StillTailTactics
set_option linter.unusedVariables false
set_option linter.unusedSimpArgs false
/- tuple.Rows: All: the rows, each in memory of its own. -/
namespace Go.Proofs.YtinnmeiphbdogaaGreat
open Go.RowKit Go.Shelf
attribute [local go_sem] Oper.semAt_some
def GotRows {α : Type} (f : α -> List ByteArray) (m : Nat) (w0 : World) (b : Nat) (pre : List α) (W : World) : Prop :=
 pre.length ≤ m /\ Kp (fun g => g = b) w0 W /\ ∃ v, Blk W b [v] 69 /\ OwnRows w0.heap.size W v (pre.map f)
theorem OwnRows.grown {lo : Nat} {W W' : World} {v : Value} {LL : List (List ByteArray)} {row : Option Nat} (h : OwnRows lo W v LL) (hg : W.grownBy W' row) (hr : ∀ r, row = some r -> ∃ o : Obj, W.heap[r]? = some o /\ o.isCells = false) : OwnRows lo W' v LL := by
 obtain ⟨ps, h1, h2, h3, h4⟩ := h
 exact ⟨ps, h1, h2.grown hg hr, fun p hp => ⟨(h3 p hp).1.grown hg hr, (h3 p hp).2⟩, h4⟩
theorem OwnRows.kpc {F : Nat -> Prop} {lo : Nat} {w w' : World} {v : Value} {LL : List (List ByteArray)} (h : OwnRows lo w v LL) (hk : Kp F w w') (hF : ∀ g, F g -> ¬ ∃ o : Obj, w.heap[g]? = some o /\ o.isCells = true) : OwnRows lo w' v LL := by
 obtain ⟨ps, h1, h2, h3, h4⟩ := h
 have key : ∀ {e : TypeId} {k n : Nat} {v : Value} {xs : List Value} {M : Nat -> Prop}, Row w e k v n xs M -> Row w' e k v n xs M := fun h => h.kp' hk fun g hg _ hf => by
  obtain ⟨cs, hb, _⟩ := h.has hg
  exact hF g hf ⟨_, hb, rfl⟩
 exact ⟨ps, h1, key h2, fun p hp => ⟨key (h3 p hp).1, (h3 p hp).2⟩, h4⟩
theorem GotRows.own {α : Type} {f : α -> List ByteArray} {m : Nat} {w0 : World} {b B : Nat} (hB : w0.heap.size ≤ B) : OwnFrom B (GotRows f m w0 b) := fun pre W W' row hs hg hr => by
 obtain ⟨h1, h2, v, h3, h4⟩ := hs
 refine ⟨h1, h2.grown hg fun k e hk => ?_, v, h3.grown hg fun r e => (hr r e).2, h4.grown hg fun r e => (hr r e).2⟩
 have := (hr k e).1
 omega
theorem KeepsOthers.of_ext {W W' : World} (h : Ext W W') : KeepsOthers W W' := ⟨h.size, fun k o hk _ => (h.block k (lt_of_block hk) id).trans hk⟩
theorem jH {α : Type} {f : α -> List ByteArray} {m : Nat} {w0 X X1 : World} {B : Nat} {ao : Option Addr} {n cap : Nat} {pre : List α} {x : fR} {ss : List ByteArray} (hm : pre.length ≤ m /\ m ≤ 1048576 * 1048576) (hpk : Kp (fun g => g = B) w0 X) (hBlt : B < w0.heap.size)
 (hB : Blk X B [.slice ao n cap] 69) (hr : OwnRows w0.heap.size X (.slice ao n cap) (pre.map f)) (hk : Ext X X1) (hx : Row X1 9 1 (.slice x.1 x.2.1 x.2.2) ss.length (strs ss) (New X)) (hss : ss.length ≤ 8796093021952) :
 ∃ ao3 n3 cap3 w3, (Builtin.append_ #[69, 69] 69 #[.slice ao n cap, .slice (some ⟨X1.heap.size, 0, none⟩) 1 1]).run Tryz.prog (X1.alloc (.cells #[.slice x.1 x.2.1 x.2.2] 34)) = .ok (.slice ao3 n3 cap3) w3 /\
  w3.cell? ⟨B, 0, none⟩ = some (.slice ao n cap) /\ w3.frozen? ⟨B, 0, none⟩ = false /\ ∀ y, f y = ss -> KeepsOthers X (w3.setCell ⟨B, 0, none⟩ (.slice ao3 n3 cap3)) /\ Kp (fun g => g = B \/ w0.heap.size ≤ g) X (w3.setCell ⟨B, 0, none⟩ (.slice ao3 n3 cap3)) /\
   Kp (fun g => g = B) w0 (w3.setCell ⟨B, 0, none⟩ (.slice ao3 n3 cap3)) /\ ∃ v, Blk (w3.setCell ⟨B, 0, none⟩ (.slice ao3 n3 cap3)) B [v] 69 /\ OwnRows w0.heap.size (w3.setCell ⟨B, 0, none⟩ (.slice ao3 n3 cap3)) v ((pre ++ [y]).map f) := by
 obtain ⟨ps, e1, h2, h3, h4⟩ := hr
 have hlen : ps.length = pre.length := by have := congrArg List.length e1; simpa using this.symm
 obtain ⟨w2, ew2⟩ : ∃ w2, X1.alloc (.cells #[.slice x.1 x.2.1 x.2.2] 34) = w2 := ⟨_, rfl⟩
 have hk2 : Ext X w2 := by rw [<- ew2]; exact hk.alloc _
 have hx2 : Row w2 9 1 (.slice x.1 x.2.1 x.2.2) ss.length (strs ss) (New X) := by rw [<- ew2]; exact hx.alloc _
 have hsrc : CellsAt w2 (some ⟨X1.heap.size, 0, none⟩) [.slice x.1 x.2.1 x.2.2] := by rw [<- ew2]; exact CellsAt.one X1 _ _
 have h2' := h2.ext hk2
 obtain ⟨v3, w3, hrun, hr3, hk3, _⟩ := nR (P := Tryz.prog) gY 69 h2' (m := 1) (c := 1) rfl hsrc (by simp; rfl) (by omega) (by unfold maxLen; omega)
 obtain ⟨ao3, cap3, ev, _, _⟩ := hr3.shape
 subst ev
 have hBne : (Value.slice ao n cap).ownBlock ≠ some B := fun e => by have := h2.block B e; omega
 have hB3 : Blk w3 B [.slice ao n cap] 69 := (hB.ext hk2).kp hk3 hBne
 have hsz0 := hpk.size
 refine ⟨ao3, _, cap3, w3, by rw [ew2]; exact hrun, by rw [hB3.cell']; rfl, hB3.free 0, fun y hy => ?_⟩
 have hko : KeepsOthers w2 w3 := ⟨hk3.size, fun k o hk' ho => (hk3.block k (lt_of_block hk') (fun hg => by
  obtain ⟨cs, hb, _⟩ := h2'.has hg
  unfold Blk at hb
  rw [hb] at hk'; cases hk'; cases ho)).trans hk'⟩
 have kX : Kp (fun g => g = B \/ w0.heap.size ≤ g) X w3 := (Ext.kp hk2).trans (hk3.mono fun g _ hg => .inr (h2.block g hg))
 have k0 : Kp (fun g => g = B) w0 w3 := hpk.trans' kX fun i hi hg => by rcases hg with hg | hg; exact hg; omega
 refine ⟨((KeepsOthers.of_ext hk2).trans hko).trans (KeepsOthers.setCell _ _ _), kX.setCell (fun _ => .inl rfl) _, k0.setCell (fun _ => rfl) _, _, hB3.set 0 _, ?_⟩
 have hown : OwnRows w0.heap.size w3 (.slice ao3 (ps.length + 1) cap3) (ps.map Prod.snd ++ [ss]) :=
  OwnRows.push h2' (fun p hp => ⟨(h3 p hp).1.ext hk2, (h3 p hp).2⟩) h4 (B := X.heap.size) (fun p hp g hg => (h3 p hp).1.lt g hg) hsz0 hx2 hss
   (hr3.mono fun g hg => by rcases hg with hg | hg; exact h2.block g hg; exact Nat.le_trans hsz0 (Nat.le_trans hk2.size hg)) hk3
 rw [List.map_append, List.map_singleton, hy, e1]
 exact hown.kp (Kp.setCell (F := fun g => g = B) (Kp.refl _) (fun _ => rfl) _) fun g hg e => by omega
theorem kQ {F : Fence} {n : Nat} {P : Program} {o : Oper} {a : Act} {w w' : World} {K : Act -> World -> Prop} {Q : Exit -> Act -> World -> Prop} {b : Bool} {p : Prop} [Decidable (b = true)] (s x : Operand) {t : TypeId} {v vx v' : Value}
 (ho : o.op = .call { callee := .builtin .append, args := #[s, x], argTypes := #[t, t] }) (hs : a.eval s = v) (hx : a.eval x = vx) (hb : b = true) (hrun : (Builtin.append_ #[t, t] o.type #[v, vx]).run P w = .ok v' w') (hK : K (a.put o.dst v') w') : if b = true then Oper.wpIn F n P o a w K Q else p := by
 rw [if_pos hb]
 unfold Oper.wpIn
 refine ⟨by simp [Oper.about, ho, resolve, Target.leads, Sem.run_pure], ?_⟩
 rw [Oper.semAt_plain F _ _ (by rw [ho]; intro c hc'; cases hc')]
 simp only [execOp, ho, resolve, invoke, builtin, Sem.run_bind, Sem.run_pure, Result.andThen_ok, List.map_toArray, List.map_cons, List.map_nil, hs, hx, hrun]
 exact hK
theorem aAl {F : Nat -> Prop} {w W : World} {P : World -> Value -> Prop} {tmps : Array Value} {ds : List Deferred} {lo : Nat} (hm : Marks lo W ds) (hk : Kp F w W) (hlo : w.heap.size ≤ lo) {v : Value} (ht : tmps.getD 2 undef = v)
 (hP : ∀ w', Kp (fun k => lo ≤ k /\ ¬ ∃ o : Obj, W.heap[k]? = some o /\ o.isCells = true) W w' -> P w' v) :
 bodyPostM Fence.wide 4 Tryz.prog Tryz.f53 (RetF F w P) .ret { tmps := tmps, defers := ds } W := by
 refine fF hm fun w' e1 e2 e3 e4 e5 e6 => ?_
 have kx : Kp (fun k => lo ≤ k /\ ¬ ∃ o : Obj, W.heap[k]? = some o /\ o.isCells = true) W w' := ⟨e1, e2, e3, by omega, fun k hk hf => by
  by_cases h : lo ≤ k
  ·by_cases h2 : ∃ o : Obj, W.heap[k]? = some o /\ o.isCells = true
   ·obtain ⟨o, h2, h3⟩ := h2
    rw [h2]; exact e6 k o h2 h3
   ·exact absurd ⟨h, h2⟩ hf
  ·exact e5 k (by omega)⟩
 refine ⟨v, ?_, RetF.mk (hk.trans' kx fun i hi h => absurd h.1 (by omega)) (hP w' kx)⟩
 have ht' : tmps[2]?.getD undef = v := by simpa using ht
 simp [results, Tryz.f53, go_sem, ht']
section
variable {z : Prop} {S : Nat -> Prop} {w w' : World} {b : Nat} {iv : Value} {arity : Nat} {LL : List (List ByteArray)}
theorem RowsQ.ownLt (h : RowsQ z S w b iv arity LL) : ∀ k, dW b iv k -> k < w.heap.size := by
 rcases h with ⟨con, zs, hc, hs, hl⟩ | ⟨hz, rfl, rfl, hB, h1, h2⟩
 ·rintro k (rfl | hk)
  ·exact hs.blk.lt
  ·exact hs.row.lt k hk
 ·rintro k (rfl | hk)
  ·exact hB.lt
  ·cases hk
def aJe (w : World) (F : Nat -> Prop) (R : World -> Prop) (LL : List (List ByteArray)) (rv : Value) : Prop :=
 ∀ W, Ext w W -> Calls Tryz.prog 99 #[rv] W (RetF F W fun w' v => R w' /\ ∃ S con, ∃ zs : List fR, PtrSetRow Tryz.prog S w' v zs /\ (∀ k, S k -> k < w.heap.size) /\ zs.map con = LL /\
  ∀ x ∈ zs, ∃ ss, ReadsAs w' x ss /\ ss.length ≤ 8796093021952 /\ (∀ a, x.1 = some a -> x.2.1 ≠ 0 -> S a.block) /\ con x = ss)
set_option maxRecDepth 100000 in
set_option maxHeartbeats 2000000 in
theorem tO {F : Nat -> Prop} {R : World -> Prop} {rv : Value} (hset : aJe w F R LL rv) (hF : ∀ k, F k -> k < w.heap.size) (hR : ∀ {W W' : World}, R W -> Kp (fun g => w.heap.size ≤ g) W W' -> R W') :
 Calls Tryz.prog 53 #[rv] w (RetF F w fun w' v => R w' /\ OwnRows w.heap.size w' v LL) := by
 refine callsIn_wide.1 (callsIn_of_wp_marks (n := 4) Tryz.func53 rfl trivial ?_ rfl)
 refine wpIn_wide.2 ?_
 obtain ⟨Q, eQ⟩ : ∃ Q, Q = bodyPostM Fence.wide 4 Tryz.prog Tryz.f53 (RetF F w fun w' v => R w' /\ OwnRows w.heap.size w' v LL) := ⟨_, rfl⟩
 rw [<- eQ]
 have EQ := qH eQ; clear eQ
 have H := qH hset
 have HR := qH (And.intro hF (@hR)); clear hset hF hR
 simp only [Tryz.ntmps53, List.size_toArray, List.length_cons, List.length_nil, Nat.reduceAdd, Nat.reduceSub, Array.replicate_succ, Array.replicate_zero, List.push_toArray, List.append_toArray, List.nil_append, List.cons_append]
 go_wp2_with fail
 have x0 : Ext w (w.alloc (.cells #[.slice none 0 0] 69)) := (Kp.refl w).alloc _
 have b0 : Blk (w.alloc (.cells #[.slice none 0 0] 69)) w.heap.size [.slice none 0 0] 69 := Blk.new w [_] _
 refine (H.out _ x0).mono ?_
 rintro e w1 ⟨v1, rfl, hk1, hR1, S, con, zs, hp, hSw, hl, hall⟩
 have k01 : Kp F w w1 := (Ext.kp x0).trans hk1
 have b1 := b0.kp hk1 (fun e => by have := HR.out.1 _ e; omega)
 have HK1 := qH (And.intro k01 hR1)
 have hlen := hp.len
 have HS := qH (And.intro hall hl)
 have HE := qH (tI hp)
 have B1 := qH b1
 have hsz1 := b1.lt
 clear hall hp hl b0 b1 hk1 k01 x0 H hR1
 go_wp2_with fail
 refine HE.out.mono ?_
 rintro e w2 ⟨v2, rfl, hk2, hit⟩
 obtain ⟨Bs, hv2, hseq⟩ := hit.sub.stops Fence.wide 3 trivial rfl (by omega)
 subst hv2
 have HQ := qH hseq; clear hseq hit
 have B2 := qH (B1.out.ext hk2)
 have HK2 := qH hk2
 have hsz2 := hk2.size
 have hn0 : zs.attach.length = zs.length := List.length_attach
 have HSW := qH hSw
 clear hk2 HE B1 hSw
 go_wp2_with fail
 refine' wpIn_wide.1 (wpIn_rangeFunc_ownG (F := Fence.wide) (n := 4) (w0 := w2) rfl (by omega) (gf := 171) (lb := #[.pointer (some ⟨Bs, 0, none⟩)]) rfl trivial (enters_of Tryz.func171 (by kernel_rfl) rfl)
  HQ.out SameOn.trans (SameOn.put (fun k h => h.2)) (Kp.refl w2).below (fun _ => rfl) (GotRows (fun x => con x.1) zs.length w2 w.heap.size) (fun _ _ _ => False) (GotRows.own (Nat.le_refl _)) (fun _ _ _ _ _ h _ _ => h) ⟨by simp, Kp.refl _, _, B2.out, OwnRows.nil _ _⟩ _ ?assign ?body ?done ?stop)
 case assign =>
  intro l x W K hK
  gi_wp2
  exact hK
 case body =>
  rintro l pre x X ⟨hpl, hpk, v, hB, hr⟩ hlen'
  obtain ⟨xv, xm⟩ := x
  obtain ⟨ao1, n1, cap1, ev, _⟩ : ∃ ao n cap, v = .slice ao n cap /\ True := by obtain ⟨ao, cap, e, _⟩ := hr.shape; exact ⟨_, _, _, e, trivial⟩
  subst ev
  have HPL := qH (And.intro hpl hlen)
  obtain ⟨ss, hrd, hss, hxS, hcx⟩ := HS.out.1 xv xm
  have hrd2 : ReadsAs X xv ss := ⟨hrd.1, fun i u hu => by
   have hne : xv.2.1 ≠ 0 := by
    have h1 := (List.getElem?_eq_some_iff.1 hu).1
    simp only [strs, List.length_map] at h1
    rw [hrd.1]; omega
   obtain ⟨b, o, e, c⟩ := (hrd.2.ext HK2.out) i u hu
   exact ⟨b, o, e, hpk.cell c fun hf => by have h8 : b < _ := HSW.out _ (hxS _ e hne); omega⟩⟩
  clear hrd hxS
  obtain ⟨ao, n, cap⟩ := xv
  obtain ⟨hn, hcs⟩ := hrd2
  simp only at hn hcs
  have hmix : Tryz.prog.follows .mixedOrders = true := by kernel_rfl
  have HCL := qH (hU (strs ss) ao cap X.drew n (by simp [strs, hn]) (hcs.ext (Kp.refl X).drew) (pH ss) (by omega))
  have hc0 := hB.cell 0 (by simp)
  have hf0 := hB.free 0
  simp only [List.getElem_cons_zero] at hc0
  have HB := qH (And.intro hB hr)
  have HCX := qH (And.intro hcx hn)
  clear hB hr hcx hn hcs
  gi_wp2
  refine wpIn_region_any (by kernel_rfl) ?_
  change wpAnyIn _ _ _ _ _ _ _ _ _ (World.drew _)
  refine wpAnyIn_ready (rs := [0, 1]) (by kernel_rfl) (by simp) (AllReadyIn.cons rfl (fun K hK => ?_) (AllReadyIn.cons rfl (fun K hK => ?_) AllReadyIn.nil))
  ·go_simp
   refine hK _ _ ?_
   clear hK K
   refine wpAnyIn_ready (rs := [1]) (by kernel_rfl) (by simp) (AllReadyIn.cons rfl (fun K hK => ?_) AllReadyIn.nil)
   go_simp
   refine hK _ _ ?_
   clear hK K
   refine wpAnyIn_ready (rs := [2]) (by kernel_rfl) (by simp) (AllReadyIn.cons rfl (fun K hK => ?_) AllReadyIn.nil)
   go_simp
   refine And.intro trivial ?_
   refine (CallsIn.inRound l (callsIn_wide.2 HCL.out)).mono ?_
   rintro e X1 ⟨v1, rfl, hk1, hr1⟩
   obtain ⟨ao2, cap2, ev, _, _⟩ := hr1.shape
   subst ev
   rw [HCX.out.2] at hr1
   obtain ⟨ao3, n3, cap3, w3, hrunA, d1, d2, HFIN⟩ := jH (x := (ao2, ss.length, cap2)) HPL.out hpk (by omega) HB.out.1 HB.out.2 ((Kp.refl X).drew.trans hk1) hr1 hss
   rw [<- HCX.out.2] at hrunA
   have HFI := qH HFIN
   clear HFIN hr1
   have e0 := hk1.cell (w := X.drew) hc0 id
   have e1 := (hk1.alloc (.cells #[.slice ao2 n cap2] 34)).cell (w := X.drew) hc0 id
   change K _ _
   refine hK _ _ ?_
   clear hK K
   refine wpAnyIn_ready (rs := [3]) (by kernel_rfl) (by simp) (AllReadyIn.cons rfl (fun K hK => ?_) AllReadyIn.nil)
   go_simp
   refine hK _ _ ?_
   clear hK K
   refine wpAnyIn_ready (rs := [4]) (by kernel_rfl) (by simp) (AllReadyIn.cons rfl (fun K hK => ?_) AllReadyIn.nil)
   refine kQ (.tmp 9) (.tmp 12) rfl rfl rfl rfl hrunA ?_
   refine hK _ _ ?_
   clear hK K
   refine wpAnyIn_ready (rs := [5]) (by kernel_rfl) (by simp) (AllReadyIn.cons rfl (fun K hK => ?_) AllReadyIn.nil)
   go_simp
   refine hK _ _ ?_
   clear hK K
   refine wpAnyIn_done (by kernel_rfl) ?_ _
   obtain ⟨q1, q2, q3, q4⟩ := HFI.out ⟨(ao, n, cap), xm⟩ HCX.out.1
   refine And.intro (q1.from _) (And.intro (SameOn.of_kp q2 (fun k h => Nat.lt_of_lt_of_le h.2 hpk.size) (fun k h h' => by omega)) ⟨by rw [List.length_append]; simp; omega, q3, q4⟩)
  ·go_simp
   refine hK _ _ ?_
   clear hK K
   refine wpAnyIn_ready (rs := [0, 2]) (by kernel_rfl) (by simp) (AllReadyIn.cons rfl (fun K hK => ?_) (AllReadyIn.cons rfl (fun K hK => ?_) AllReadyIn.nil))
   ·go_simp
    refine hK _ _ ?_
    clear hK K
    refine wpAnyIn_ready (rs := [2]) (by kernel_rfl) (by simp) (AllReadyIn.cons rfl (fun K hK => ?_) AllReadyIn.nil)
    go_simp
    refine And.intro trivial ?_
    refine (CallsIn.inRound l (callsIn_wide.2 HCL.out)).mono ?_
    rintro e X1 ⟨v1, rfl, hk1, hr1⟩
    obtain ⟨ao2, cap2, ev, _, _⟩ := hr1.shape
    subst ev
    rw [HCX.out.2] at hr1
    obtain ⟨ao3, n3, cap3, w3, hrunA, d1, d2, HFIN⟩ := jH (x := (ao2, ss.length, cap2)) HPL.out hpk (by omega) HB.out.1 HB.out.2 ((Kp.refl X).drew.trans hk1) hr1 hss
    rw [<- HCX.out.2] at hrunA
    have HFI := qH HFIN
    clear HFIN hr1
    have e0 := hk1.cell (w := X.drew) hc0 id
    have e1 := (hk1.alloc (.cells #[.slice ao2 n cap2] 34)).cell (w := X.drew) hc0 id
    change K _ _
    refine hK _ _ ?_
    clear hK K
    refine wpAnyIn_ready (rs := [3]) (by kernel_rfl) (by simp) (AllReadyIn.cons rfl (fun K hK => ?_) AllReadyIn.nil)
    go_simp
    refine hK _ _ ?_
    clear hK K
    refine wpAnyIn_ready (rs := [4]) (by kernel_rfl) (by simp) (AllReadyIn.cons rfl (fun K hK => ?_) AllReadyIn.nil)
    refine kQ (.tmp 9) (.tmp 12) rfl rfl rfl rfl hrunA ?_
    refine hK _ _ ?_
    clear hK K
    refine wpAnyIn_ready (rs := [5]) (by kernel_rfl) (by simp) (AllReadyIn.cons rfl (fun K hK => ?_) AllReadyIn.nil)
    go_simp
    refine hK _ _ ?_
    clear hK K
    refine wpAnyIn_done (by kernel_rfl) ?_ _
    obtain ⟨q1, q2, q3, q4⟩ := HFI.out ⟨(ao, n, cap), xm⟩ HCX.out.1
    refine And.intro (q1.from _) (And.intro (SameOn.of_kp q2 (fun k h => Nat.lt_of_lt_of_le h.2 hpk.size) (fun k h h' => by omega)) ⟨by rw [List.length_append]; simp; omega, q3, q4⟩)
   ·go_simp
    refine And.intro trivial ?_
    refine (CallsIn.inRound l (callsIn_wide.2 HCL.out)).mono ?_
    rintro e X1 ⟨v1, rfl, hk1, hr1⟩
    obtain ⟨ao2, cap2, ev, _, _⟩ := hr1.shape
    subst ev
    rw [HCX.out.2] at hr1
    obtain ⟨ao3, n3, cap3, w3, hrunA, d1, d2, HFIN⟩ := jH (x := (ao2, ss.length, cap2)) HPL.out hpk (by omega) HB.out.1 HB.out.2 ((Kp.refl X).drew.trans hk1) hr1 hss
    rw [<- HCX.out.2] at hrunA
    have HFI := qH HFIN
    clear HFIN hr1
    have e0 := hk1.cell (w := X.drew) hc0 id
    have e1 := (hk1.alloc (.cells #[.slice ao2 n cap2] 34)).cell (w := X.drew) hc0 id
    change K _ _
    refine hK _ _ ?_
    clear hK K
    refine wpAnyIn_ready (rs := [0, 3]) (by kernel_rfl) (by simp) (AllReadyIn.cons rfl (fun K hK => ?_) (AllReadyIn.cons rfl (fun K hK => ?_) AllReadyIn.nil))
    ·go_simp
     refine hK _ _ ?_
     clear hK K
     refine wpAnyIn_ready (rs := [3]) (by kernel_rfl) (by simp) (AllReadyIn.cons rfl (fun K hK => ?_) AllReadyIn.nil)
     go_simp
     refine hK _ _ ?_
     clear hK K
     refine wpAnyIn_ready (rs := [4]) (by kernel_rfl) (by simp) (AllReadyIn.cons rfl (fun K hK => ?_) AllReadyIn.nil)
     refine kQ (.tmp 9) (.tmp 12) rfl rfl rfl rfl hrunA ?_
     refine hK _ _ ?_
     clear hK K
     refine wpAnyIn_ready (rs := [5]) (by kernel_rfl) (by simp) (AllReadyIn.cons rfl (fun K hK => ?_) AllReadyIn.nil)
     go_simp
     refine hK _ _ ?_
     clear hK K
     refine wpAnyIn_done (by kernel_rfl) ?_ _
     obtain ⟨q1, q2, q3, q4⟩ := HFI.out ⟨(ao, n, cap), xm⟩ HCX.out.1
     refine And.intro (q1.from _) (And.intro (SameOn.of_kp q2 (fun k h => Nat.lt_of_lt_of_le h.2 hpk.size) (fun k h h' => by omega)) ⟨by rw [List.length_append]; simp; omega, q3, q4⟩)
    ·go_simp
     refine hK _ _ ?_
     clear hK K
     refine wpAnyIn_ready (rs := [0]) (by kernel_rfl) (by simp) (AllReadyIn.cons rfl (fun K hK => ?_) AllReadyIn.nil)
     go_simp
     refine hK _ _ ?_
     clear hK K
     refine wpAnyIn_ready (rs := [4]) (by kernel_rfl) (by simp) (AllReadyIn.cons rfl (fun K hK => ?_) AllReadyIn.nil)
     refine kQ (.tmp 9) (.tmp 12) rfl rfl rfl rfl hrunA ?_
     refine hK _ _ ?_
     clear hK K
     refine wpAnyIn_ready (rs := [5]) (by kernel_rfl) (by simp) (AllReadyIn.cons rfl (fun K hK => ?_) AllReadyIn.nil)
     go_simp
     refine hK _ _ ?_
     clear hK K
     refine wpAnyIn_done (by kernel_rfl) ?_ _
     obtain ⟨q1, q2, q3, q4⟩ := HFI.out ⟨(ao, n, cap), xm⟩ HCX.out.1
     refine And.intro (q1.from _) (And.intro (SameOn.of_kp q2 (fun k h => Nat.lt_of_lt_of_le h.2 hpk.size) (fun k h h' => by omega)) ⟨by rw [List.length_append]; simp; omega, q3, q4⟩)
 case stop =>
  rintro D c pre W _ _ h _
  exact h.elim
 case done =>
  rintro D ys W2 hD hys ⟨hl2, hkd, v, hBd, hrd⟩ hd
  subst hys
  have kw : Kp F w W2 := (HK1.out.1.ext HK2.out).trans' hkd fun k hk e => by omega
  have hra : R W2 := HR.out.2 HK1.out.2 ((Ext.kp HK2.out).trans (hkd.mono fun g _ e => by omega))
  have hown : OwnRows w.heap.size W2 v LL := by
   have e : zs.attach.map (fun x => con x.1) = LL := by
    rw [<- HS.out.2]
    have h : (zs.attach.map fun x : { x // x ∈ zs } => con x.1) = (zs.attach.map Subtype.val).map con := by rw [List.map_map]; rfl
    rw [h, List.attach_map_subtype_val]
   rw [e] at hrd
   exact hrd.mono (by omega)
  have hmk := (Marks.nil w2.heap.size w2).push (w' := W2) (D := D) (fun k o h ho => (hkd.block k (lt_of_block h) (fun e => by
   subst e; have hb := B2.out; unfold Blk at hb; rw [hb] at h; cases h; cases ho)).trans h) hD hD hd
  obtain ⟨ao4, cap4, ev, _⟩ := hown.shape
  subst ev
  have c0 := hBd.cell 0 (by simp)
  simp only [List.getElem_cons_zero] at c0
  have HF := qH (And.intro kw (And.intro hra (And.intro hown hmk)))
  clear kw hra hown hmk hrd hBd hkd hd
  go_wp2
  rw [EQ.out]
  obtain ⟨kw, hra, hown, hmk⟩ := HF.out
  refine aAl hmk kw (by omega) rfl fun w' kx => ⟨HR.out.2 hra (kx.mono fun g _ h => by omega), hown.kpc kx fun g h => h.2⟩
theorem RowsAt.tells (h : RowsAt S w b iv arity LL) : ∃ con, ∃ zs : List fR, PtrSetRow Tryz.prog S w (.pointer (some ⟨b, 0, none⟩)) zs /\ zs.map con = LL /\
 ∀ x ∈ zs, ∃ ss, ReadsAs w x ss /\ ss.length ≤ 8796093021952 /\ (∀ a, x.1 = some a -> x.2.1 ≠ 0 -> S a.block) /\ con x = ss := by
 obtain ⟨con, zs, hc, hs, hl⟩ := h
 refine ⟨con, zs, .inr ⟨_, _, _, _, _, _, _, rfl, hs⟩, hl, fun x hx => ?_⟩
 obtain ⟨ss, h1, h2, h3⟩ := hs.all x hx
 exact ⟨ss, h1, h2, h3, hc x ss h1⟩
theorem aFx (h : RowsQ z S w b iv arity LL) :
 Calls Tryz.prog 53 #[.pointer (some ⟨b, 0, none⟩)] w (RetF (FQ z b) w fun w' v => RowsAt S w' b iv arity LL /\ OwnRows w.heap.size w' v LL) := by
 refine tO (R := fun W => RowsAt S W b iv arity LL) (fun W hW => ?_) (fun k hk => by rw [hk.2]; exact h.lt) (fun {W W'} hr hk => ?_)
 ·refine (iF (h.ext hW)).mono ?_
  rintro e w1 ⟨v, rfl, hk, rfl, h1⟩
  obtain ⟨con, zs, hp, hl, hall⟩ := h1.tells
  exact RetF.mk hk ⟨h1, S, con, zs, hp, h.inS, hl, hall⟩
 ·exact hr.move hk (fun k hg ho => by have := h.ownLt k ho; omega) (fun k hg hS => by have := h.inS k hS; omega) (fun _ h => h) (fun k hS => Nat.lt_of_lt_of_le (hr.inS k hS) hk.size) hr.notS
theorem aAm (w : World) : Calls Tryz.prog 53 #[.pointer none] w (RetN w fun w' v => OwnRows w.heap.size w' v []) := by
 refine (tO (w := w) (F := fun _ => False) (R := fun _ => True) (LL := []) (fun W hW => ?_) (fun k hk => hk.elim) (fun _ _ => trivial)).mono ?_
 ·refine (rJ W).mono ?_
  rintro e w1 ⟨rfl, rfl⟩
  exact RetF.mk (Kp.refl _) ⟨trivial, fun _ => False, fun _ => [], [], .inl ⟨rfl, rfl⟩, fun k hk => hk.elim, rfl, by simp⟩
 ·rintro e w' ⟨v, rfl, hk, _, h⟩
  exact RetN.mk hk h
end
end Go.Proofs.YtinnmeiphbdogaaGreat
/- tuple.Base in memory: a map of names to Rows, each in blocks of its own. -/
namespace Go.Proofs.YtinnmeiphbdogaaGreat
open Go.RowKit
structure Ent where
 name : ByteArray
 b : Nat
 iv : Value
 ar : Nat
 LL : List (List ByteArray)
def Ent.ptr (e : Ent) : Value := .pointer (some ⟨e.b, 0, none⟩)
def Ent.cnt (e : Ent) : bA := (e.name, e.ar, e.LL)
def Ent.own (e : Ent) : Nat -> Prop := dW e.b e.iv
def dJ (E : List Ent) : List (ByteArray × Value) := E.map fun e => (e.name, e.ptr)
def aN (E : List Ent) : List bA := E.map Ent.cnt
def bB (E : List Ent) (s : ByteArray) : Option Ent := E.find? fun e => decide (e.name = s)
theorem kG (E : List Ent) (s : ByteArray) : uQ (dJ E) s = (bB E s).map Ent.ptr := by
 unfold uQ dJ bB
 rw [List.find?_map, Option.map_map]; rfl
theorem nB (E : List Ent) (s : ByteArray) : bK (aN E) s = (bB E s).map fun e => (e.ar, e.LL) := by
 unfold bK aN bB
 rw [List.find?_map, Option.map_map]; rfl
theorem pB (E : List Ent) : (dJ E).map (·.1) = (aN E).map (·.1) := by
 unfold dJ aN
 rw [List.map_map, List.map_map]; rfl
theorem bT {E : List Ent} {s : ByteArray} {e : Ent} (h : bB E s = some e) : e ∈ E /\ e.name = s := ⟨List.mem_of_find?_eq_some h, by have := List.find?_some h; simpa using this⟩
theorem dN {E : List Ent} {s : ByteArray} {e : Ent} (h : bB E s = some e) : bK (aN E) s = some (e.ar, e.LL) /\ bF (aN E) s = e.LL := by
 have h1 : bK (aN E) s = some (e.ar, e.LL) := by rw [nB, h]; rfl
 exact ⟨h1, jR h1⟩
theorem eV {E : List Ent} {s : ByteArray} (h : bB E s = none) : bK (aN E) s = none /\ bF (aN E) s = [] := by
 have h1 : bK (aN E) s = none := by rw [nB, h]; rfl
 exact ⟨h1, jT h1⟩
theorem jW {E : List Ent} {e : Ent} (h : e ∈ E) : e.cnt ∈ aN E := List.mem_map.2 ⟨e, h, rfl⟩
def OwnE (E : List Ent) (k : Nat) : Prop := ∃ e ∈ E, e.own k
def OwnB (bb r : Nat) (E : List Ent) (k : Nat) : Prop := k = bb \/ k = r \/ OwnE E k
structure BaseAt (S : Nat -> Prop) (w : World) (bb r : Nat) (E : List Ent) : Prop where
 blk : Blk w bb [.map (some r), .int .i64 (bG (aN E) : Nat)] 129
 map : MapIs w r (dJ E)
 rows : ∀ e ∈ E, RowsAt S w e.b e.iv e.ar e.LL
 apart : E.Pairwise fun e f => ∀ k, e.own k -> ¬ f.own k
 inS : ∀ k, S k -> k < w.heap.size
 notS : ¬ S bb /\ ¬ S r
 ne : bb ≠ r
 off : ∀ e ∈ E, ∀ k, e.own k -> k ≠ bb /\ k ≠ r
 ok : BaseOk (aN E)
section
variable {S S' : Nat -> Prop} {w w' : World} {bb r : Nat} {E : List Ent}
theorem BaseAt.kp {F : Nat -> Prop} (h : BaseAt S w bb r E) (hk : Kp F w w') (hF : ∀ k, F k -> ¬ OwnB bb r E k) (hS : ∀ k, F k -> ¬ S k) : BaseAt S w' bb r E :=
 {blk := h.blk.kp hk fun hf => hF _ hf (.inl rfl)
  map := h.map.kp hk fun hf => hF _ hf (.inr (.inl rfl))
  rows := fun e he => (h.rows e he).move hk (fun k hf ho => hF k hf (.inr (.inr ⟨e, he, ho⟩))) hS (fun _ x => x) (fun k hk' => Nat.lt_of_lt_of_le (h.inS k hk') hk.size) (h.rows e he).notS
  apart := h.apart
  inS := fun k hk' => Nat.lt_of_lt_of_le (h.inS k hk') hk.size
  notS := h.notS, ne := h.ne, off := h.off, ok := h.ok }
theorem BaseAt.ext (h : BaseAt S w bb r E) (hk : Ext w w') : BaseAt S w' bb r E := h.kp hk (fun _ x => x.elim) (fun _ x => x.elim)
theorem BaseAt.ownLt (h : BaseAt S w bb r E) : ∀ k, OwnB bb r E k -> k < w.heap.size := by
 rintro k (rfl | rfl | ⟨e, he, ho⟩)
 ·exact h.blk.lt
 ·exact h.map.lt
 ·exact (RowsQ.ownLt (z := True) (h.rows e he).q) k ho
theorem BaseAt.notOwn (h : BaseAt S w bb r E) : ∀ k, OwnB bb r E k -> ¬ S k := by
 rintro k (rfl | rfl | ⟨e, he, ho⟩)
 ·exact h.notS.1
 ·exact h.notS.2
 ·exact (h.rows e he).notS k ho
theorem BaseAt.strict (h : BaseAt S w bb r E) {e : Ent} (he : e ∈ E) : Strict aC e.LL := (h.ok.all _ (jW he)).strict
theorem BaseAt.few (h : BaseAt S w bb r E) {e : Ent} (he : e ∈ E) : e.LL.length ≤ 65536 := (h.ok.all _ (jW he)).few
theorem BaseAt.new (S : Nat -> Prop) (hS : ∀ k, S k -> k < w.heap.size) {wb : World} (hx : Ext w wb) {bb r : Nat} (hb : w.heap.size ≤ bb) (hr : w.heap.size ≤ r) (hne : bb ≠ r) (hB : Blk wb bb [.map (some r), .int .i64 0] 129) (hm : MapIs wb r []) : BaseAt S wb bb r [] :=
 {blk := hB, map := hm, rows := fun e he => by simp at he
  apart := List.Pairwise.nil
  inS := fun k hk => Nat.lt_of_lt_of_le (hS k hk) hx.size
  notS := ⟨fun h => by have := hS _ h; omega, fun h => by have := hS _ h; omega⟩
  ne := hne, off := fun e he => by simp at he, ok := tV }
theorem BaseAt.turn {pre post : List Ent} {e : Ent} (h : BaseAt S w bb r (pre ++ e :: post)) {iv' : Value} {LL' : List (List ByteArray)} (hk : Kp e.own w w') (hs : ∀ k, S k -> S' k) (hnew : ∀ k, S' k -> S k \/ w.heap.size ≤ k)
 (hr : RowsAt S' w' e.b iv' e.ar LL') (hiv : ∀ k, iv'.ownBlock = some k -> e.iv.ownBlock = some k \/ w.heap.size ≤ k) {n : Nat} {W : World} (hW : Kp (fun k => k = bb \/ k = r) w' W) (hm : MapIs W r (dJ (pre ++ e :: post))) (hB : Blk W bb [.map (some r), .int .i64 (n : Nat)] 129) (hn : n = bG (aN (pre ++ { e with iv := iv', LL := LL' } :: post))) (hok : BaseOk (aN (pre ++ { e with iv := iv', LL := LL' } :: post))) :
 BaseAt S' W bb r (pre ++ { e with iv := iv', LL := LL' } :: post) := by
 have hin' := hr.inS
 have hown : ∀ f ∈ pre ++ e :: post, ∀ k, f.own k -> k < w.heap.size /\ ¬ S' k := fun f hf k ho => by
  have h1 := h.ownLt k (.inr (.inr ⟨f, hf, ho⟩))
  refine ⟨h1, fun hs' => ?_⟩
  rcases hnew k hs' with h2 | h2
  ·exact (h.rows f hf).notS k ho h2
  ·omega
 have hbb := h.ownLt bb (.inl rfl)
 have hrr := h.ownLt r (.inr (.inl rfl))
 have hem : e ∈ pre ++ e :: post := List.mem_append_right _ List.mem_cons_self
 have hebb : ¬ S' bb := fun hs' => by rcases hnew _ hs' with h2 | h2; exact h.notS.1 h2; omega
 have herr : ¬ S' r := fun hs' => by rcases hnew _ hs' with h2 | h2; exact h.notS.2 h2; omega
 have hiv2 : ∀ k, dW e.b iv' k -> e.own k \/ w.heap.size ≤ k := fun k ho => by
  rcases ho with ho | ho
  ·exact .inl (.inl ho)
  ·rcases hiv k ho with h2 | h2
   ·exact .inl (.inr h2)
   ·exact .inr h2
 have hoff' : ∀ k, dW e.b iv' k -> k ≠ bb /\ k ≠ r := fun k ho => by
  rcases hiv2 k ho with h2 | h2
  ·exact h.off e hem k h2
  ·omega
 obtain ⟨ap1, ap2, ap3⟩ := List.pairwise_append.1 h.apart
 obtain ⟨ap4, ap5⟩ := List.pairwise_cons.1 ap2
 have hother : ∀ f, (f ∈ pre \/ f ∈ post) -> (∀ k, e.own k -> ¬ f.own k) /\ f ∈ pre ++ e :: post := fun f hf => by
  rcases hf with hf | hf
  ·exact ⟨fun k h1 h2 => ap3 f hf e List.mem_cons_self k h2 h1, List.mem_append_left _ hf⟩
  ·exact ⟨fun k h1 h2 => ap4 f hf k h1 h2, List.mem_append_right _ (List.mem_cons_of_mem _ hf)⟩
 have hF : ∀ k, k = bb \/ k = r -> ¬ S' k := fun k e => by
  rcases e with rfl | rfl
  ·exact hebb
  ·exact herr
 have hrows : ∀ f, (f ∈ pre \/ f ∈ post) -> RowsAt S' W f.b f.iv f.ar f.LL := fun f hf => by
  obtain ⟨h1, h2⟩ := hother f hf
  have h3 := (h.rows f h2).move (S' := S') hk h1 (fun k hf => (h.rows e hem).notS k hf) hs (fun k hk' => hin' k hk') (fun k ho => (hown f h2 k ho).2)
  exact h3.move hW (fun k e2 ho => by
   have h4 := h.off f h2 k ho
   rcases e2 with e2 | e2
   ·exact h4.1 e2
   ·exact h4.2 e2) hF (fun _ x => x) (fun k hk' => Nat.lt_of_lt_of_le (hin' k hk') hW.size) h3.notS
 refine { blk := by rw [hn] at hB; exact hB, map := ?_, rows := fun f hf => ?_, apart := ?_, inS := fun k hk' => Nat.lt_of_lt_of_le (hin' k hk') hW.size, notS := ⟨hebb, herr⟩, ne := h.ne, off := fun f hf => ?_, ok := hok }
 ·have h2 : dJ (pre ++ { e with iv := iv', LL := LL' } :: post) = dJ (pre ++ e :: post) := by simp [dJ, Ent.ptr]
  rw [h2]; exact hm
 ·rcases List.mem_append.1 hf with hf | hf
  ·exact hrows f (.inl hf)
  ·rcases List.mem_cons.1 hf with rfl | hf
   ·exact hr.move hW (fun k e2 ho => by
     have h4 := hoff' k ho
     rcases e2 with e2 | e2
     ·exact h4.1 e2
     ·exact h4.2 e2) hF (fun _ x => x) (fun k hk' => Nat.lt_of_lt_of_le (hin' k hk') hW.size) hr.notS
   ·exact hrows f (.inr hf)
 ·refine List.pairwise_append.2 ⟨ap1, List.pairwise_cons.2 ⟨fun f hf k ho hf2 => ?_, ap5⟩, fun f hf g hg k ho hg2 => ?_⟩
  ·rcases hiv2 k ho with h2 | h2
   ·exact ap4 f hf k h2 hf2
   ·have := (hown f (hother f (.inr hf)).2 k hf2).1; omega
  ·rcases List.mem_cons.1 hg with rfl | hg
   ·rcases hiv2 k hg2 with h2 | h2
    ·exact ap3 f hf e List.mem_cons_self k ho h2
    ·have := (hown f (hother f (.inl hf)).2 k ho).1; omega
   ·exact ap3 f hf g (List.mem_cons_of_mem _ hg) k ho hg2
 ·rcases List.mem_append.1 hf with hf | hf
  ·exact h.off f (hother f (.inl hf)).2
  ·rcases List.mem_cons.1 hf with rfl | hf
   ·exact hoff'
   ·exact h.off f (hother f (.inr hf)).2
theorem BaseAt.push (h : BaseAt S w bb r E) {e : Ent} (hx : Ext w w') (hs : ∀ k, S k -> S' k) (hnew : ∀ k, S' k -> S k \/ w.heap.size ≤ k) (hr : RowsAt S' w' e.b e.iv e.ar e.LL) (ho : ∀ k, e.own k -> w.heap.size ≤ k)
 {n : Nat} {W : World} (hW : Kp (fun k => k = bb \/ k = r) w' W) (hB : Blk W bb [.map (some r), .int .i64 (n : Nat)] 129) (hm : MapIs W r (dJ (E ++ [e]))) (hn : n = bG (aN (E ++ [e]))) (hok : BaseOk (aN (E ++ [e]))) : BaseAt S' W bb r (E ++ [e]) := by
 have hbb := h.ownLt bb (.inl rfl)
 have hrr := h.ownLt r (.inr (.inl rfl))
 have hin' := hr.inS
 have hno : ∀ k, OwnB bb r E k -> ¬ S' k := fun k ho hs' => by
  rcases hnew k hs' with h2 | h2
  ·exact h.notOwn k ho h2
  ·have := h.ownLt k ho; omega
 have hF : ∀ k, k = bb \/ k = r -> ¬ S' k := fun k hk => hno k (hk.elim .inl fun h => .inr (.inl h))
 refine { blk := by rw [hn] at hB; exact hB, map := hm, rows := fun f hf => ?_, apart := ?_, inS := fun k hk' => Nat.lt_of_lt_of_le (hin' k hk') hW.size, notS := ⟨hF _ (.inl rfl), hF _ (.inr rfl)⟩, ne := h.ne, off := fun f hf => ?_, ok := hok }
 ·rcases List.mem_append.1 hf with hf | hf
  ·have h3 := (h.rows f hf).move (S' := S') hx (fun _ x => x.elim) (fun _ x => x.elim) hs (fun k hk' => hin' k hk') (fun k ho => hno k (.inr (.inr ⟨f, hf, ho⟩)))
   exact h3.move hW (fun k e2 ho => by
    have h4 := h.off f hf k ho
    rcases e2 with e2 | e2
    ·exact h4.1 e2
    ·exact h4.2 e2) hF (fun _ x => x) (fun k hk' => Nat.lt_of_lt_of_le (hin' k hk') hW.size) h3.notS
  ·obtain rfl := List.mem_singleton.1 hf
   exact hr.move hW (fun k e2 ho2 => by have := ho k ho2; omega) hF (fun _ x => x) (fun k hk' => Nat.lt_of_lt_of_le (hin' k hk') hW.size) hr.notS
 ·refine List.pairwise_append.2 ⟨h.apart, List.pairwise_singleton _ _, fun f hf g hg k h1 h2 => ?_⟩
  obtain rfl := List.mem_singleton.1 hg
  have h3 := h.ownLt k (.inr (.inr ⟨f, hf, h1⟩))
  have h4 := ho k h2
  omega
 ·rcases List.mem_append.1 hf with hf | hf
  ·exact h.off f hf
  ·obtain rfl := List.mem_singleton.1 hf
   intro k hk
   have := ho k hk
   omega
theorem jK {E : List Ent} {s : ByteArray} {e : Ent} (h : bB E s = some e) : ∃ pre post, E = pre ++ e :: post := by
 obtain ⟨_, pre, post, h2, _⟩ := List.find?_eq_some_iff_append.1 h
 exact ⟨pre, post, h2⟩
theorem aB2 {pre post : List Ent} {e : Ent} {s : ByteArray} (h : bB (pre ++ e :: post) s = some e) (hn : ((aN (pre ++ e :: post)).map (·.1)).Nodup) (iv' : Value) (LL' : List (List ByteArray)) : oV (aN (pre ++ e :: post)) s (e.ar, LL') = aN (pre ++ { e with iv := iv', LL := LL' } :: post) := by
 have hs : e.name = s := (bT h).2
 have h1 : (bK (aN (pre ++ e :: post)) s).isSome = true := by rw [nB, h]; rfl
 unfold oV
 rw [if_pos h1]
 have hid : ∀ q : Ent, q.name ≠ s -> (if q.cnt.1 = s then (q.cnt.1, (e.ar, LL')) else q.cnt) = q.cnt := fun q hq => if_neg hq
 unfold aN at hn ⊢
 rw [List.map_append, List.map_cons, List.map_append, List.map_cons] at hn
 obtain ⟨_, hn2, hn3⟩ := List.nodup_append.1 hn
 obtain ⟨hn4, _⟩ := List.nodup_cons.1 hn2
 rw [List.map_append, List.map_append, List.map_cons, List.map_cons, List.map_append, List.map_cons]
 congr 1
 ·rw [List.map_map]
  apply List.map_congr_left
  intro q hq
  refine hid q fun e2 => ?_
  exact hn3 q.name (List.mem_map.2 ⟨q.cnt, List.mem_map.2 ⟨q, hq, rfl⟩, rfl⟩) e.name List.mem_cons_self (by rw [e2, hs])
 ·congr 1
  ·show (if e.name = s then (e.name, (e.ar, LL')) else e.cnt) = _
   rw [if_pos hs]; rfl
  ·rw [List.map_map]
   apply List.map_congr_left
   intro q hq
   refine hid q fun e2 => ?_
   exact hn4 (List.mem_map.2 ⟨q.cnt, List.mem_map.2 ⟨q, hq, rfl⟩, by show q.name = e.name; rw [e2, hs]⟩)
theorem aG6 {E : List Ent} {s : ByteArray} (h : bB E s = none) (b : Nat) (iv : Value) (ar : Nat) (LL : List (List ByteArray)) : oV (aN E) s (ar, LL) = aN (E ++ [{ name := s, b := b, iv := iv, ar := ar, LL := LL }]) := by
 unfold oV
 rw [(eV h).1, if_neg (by simp)]
 unfold aN
 rw [List.map_append]; rfl
theorem aBv {E : List Ent} {s : ByteArray} {e : Ent} (h : bB E s = some e) (hn : ((dJ E).map (·.1)).Nodup) : kU (dJ E) s e.ptr = dJ E := by
 obtain ⟨pre, post, rfl⟩ := jK h
 have hs : e.name = s := (bT h).2
 unfold kU
 rw [kG, h, if_pos (by rfl)]
 unfold dJ at hn ⊢
 rw [List.map_append, List.map_cons, List.map_append, List.map_cons] at hn
 obtain ⟨_, hn2, hn3⟩ := List.nodup_append.1 hn
 obtain ⟨hn4, _⟩ := List.nodup_cons.1 hn2
 rw [List.map_append, List.map_append, List.map_cons, List.map_cons]
 have hid : ∀ q : Ent, q.name ≠ s -> (if (q.name, q.ptr).1 = s then ((q.name, q.ptr).1, e.ptr) else (q.name, q.ptr)) = (q.name, q.ptr) := fun q hq => if_neg hq
 congr 1
 ·rw [List.map_map]
  apply List.map_congr_left
  intro q hq
  refine hid q fun e2 => ?_
  exact hn3 q.name (List.mem_map.2 ⟨(q.name, q.ptr), List.mem_map.2 ⟨q, hq, rfl⟩, rfl⟩) e.name List.mem_cons_self (by rw [e2, hs])
 ·congr 1
  ·exact if_pos hs
  ·rw [List.map_map]
   apply List.map_congr_left
   intro q hq
   refine hid q fun e2 => ?_
   exact hn4 (List.mem_map.2 ⟨(q.name, q.ptr), List.mem_map.2 ⟨q, hq, rfl⟩, by show q.name = e.name; rw [e2, hs]⟩)
theorem xO {E : List Ent} {s : ByteArray} (h : bB E s = none) (b : Nat) (iv : Value) (ar : Nat) (LL : List (List ByteArray)) : kU (dJ E) s (.pointer (some ⟨b, 0, none⟩)) = dJ (E ++ [{ name := s, b := b, iv := iv, ar := ar, LL := LL }]) := by
 unfold kU
 rw [kG, h, if_neg (by simp)]
 unfold dJ
 rw [List.map_append]; rfl
end
end Go.Proofs.YtinnmeiphbdogaaGreat
/- tuple.Rows: Each, Copy, with: Union, Minus, Meet; Same. -/
namespace Go.Proofs.YtinnmeiphbdogaaGreat
open Go.RowKit Go.Shelf
def kJ (lo : Nat) (w : World) (v : Value) (LL : List (List ByteArray)) : Prop :=
 ∃ Bs iv, v = .func (.func 171) #[] #[.pointer (some ⟨Bs, 0, none⟩)] /\ lo ≤ Bs /\ Blk w Bs [iv] 69 /\ OwnRows lo w iv LL /\ LL.length ≤ 1048576 * 1048576
section
variable {z z1 z2 : Prop} {S : Nat -> Prop} {w w' : World} {b b1 b2 : Nat} {iv iv1 iv2 : Value} {arity arity2 : Nat} {LL L1 L2 : List (List ByteArray)}
theorem RowsAt.len (h : RowsAt S w b iv arity LL) : LL.length ≤ 1048576 * 1048576 := by
 obtain ⟨con, zs, hc, hs, hl⟩ := h
 rw [<- hl, List.length_map]; exact hs.len
theorem yL (w : World) : Calls Tryz.prog 175 #[.pointer none] w (RetN w fun w' v => kJ w.heap.size w' v []) := by
 go_enter Tryz.func175, Tryz.ntmps175
 go_wp2_with fail
 refine (aAm w).mono ?_
 rintro e w1 ⟨v, rfl, hk, h1⟩
 obtain ⟨ao, cap, ev, _⟩ := h1.shape
 subst ev
 have HK := qH (And.intro hk h1); clear hk h1
 go_wp2_with fail
 refine (jO _ _ _ w1).mono ?_
 rintro e w2 ⟨v, rfl, hk2, rfl, ew⟩
 subst ew
 go_wp2
 go_ret
 exact RetN.mk (HK.out.1.alloc _) ⟨_, _, rfl, HK.out.1.size, Blk.new w1 [_] _, HK.out.2.ext ((Kp.refl w1).alloc _), by simp⟩
theorem tN (h : RowsQ z S w b iv arity LL) :
 Calls Tryz.prog 175 #[.pointer (some ⟨b, 0, none⟩)] w (RetF (FQ z b) w fun w' v => RowsAt S w' b iv arity LL /\ kJ w.heap.size w' v LL) := by
 have H := qH (aFx h); clear h
 go_enter Tryz.func175, Tryz.ntmps175
 go_wp2_with fail
 refine H.out.mono ?_
 rintro e w1 ⟨v, rfl, hk, h1, h2⟩
 obtain ⟨ao, cap, ev, _⟩ := h2.shape
 subst ev
 have HK := qH (And.intro hk (And.intro h1 h2)); clear hk h1 h2
 go_wp2_with fail
 refine (jO _ _ _ w1).mono ?_
 rintro e w2 ⟨v, rfl, hk2, rfl, ew⟩
 subst ew
 go_wp2
 go_ret
 obtain ⟨hk, h1, h2⟩ := HK.out
 exact RetF.mk (hk.alloc _) ⟨h1.ext ((Kp.refl w1).alloc _), _, _, rfl, hk.size, Blk.new w1 [_] _, h2.ext ((Kp.refl w1).alloc _), h1.len⟩
theorem RowsAt.boxed {w0 : World} {con : fR -> List ByteArray} {zs : List fR} {te : TypeId} (h : SetAtRow Tryz.prog S w b (.func (Fn.func 124) #[] #[]) iv [] te (vX S w0) (fun x y => aC (con x) (con y)) zs) (h0 : Ext w0 w)
 (hc : ∀ x ss, ReadsAs w0 x ss -> con x = ss) (arity : Nat) : RowsAt S (w.alloc (.cells #[.func (Fn.func 124) #[] #[], iv, .int .i64 arity] 135)) w.heap.size iv arity (zs.map con) := by
 have hk : Ext w (w.alloc (.cells #[.func (Fn.func 124) #[] #[], iv, .int .i64 arity] 135)) := (Kp.refl w).alloc _
 obtain ⟨con', hc'⟩ := vD (w.alloc (.cells #[.func (Fn.func 124) #[] #[], iv, .int .i64 arity] 135))
 have e : ∀ x ∈ zs, con' x = con x := fun x hx => by
  obtain ⟨ss, h1, h2, h3⟩ := h.all x hx
  rw [hc x ss h1, hc' x ss ⟨h1.1, h1.2.ext (h0.trans hk)⟩]
 refine ⟨con', zs, hc', ⟨Blk.new w [_, _, _] _, h.row.ext hk, fun e => ?_, fun k hS => ?_, fun k ho hS => ?_, jS hc', fun x hx => ?_, h.len⟩, List.map_congr_left e⟩
 ·have := h.row.lt _ e; omega
 ·have := h.inS k hS; rw [aJ]; omega
 ·rcases ho with rfl | ho
  ·have := h.inS _ hS; omega
  ·exact h.notS k (.inr ho) hS
 ·obtain ⟨ss, h1, h2, h3⟩ := h.all x hx
  exact ⟨ss, ⟨h1.1, h1.2.ext (h0.trans hk)⟩, h2, h3⟩
set_option maxRecDepth 100000 in
set_option maxHeartbeats 1000000 in
theorem aCw (h : RowsQ z S w b iv arity LL) :
 Calls Tryz.prog 91 #[.pointer (some ⟨b, 0, none⟩)] w (RetF (FQ z b) w fun w' v => RowsAt S w' b iv arity LL /\
  ∃ b' iv', v = .pointer (some ⟨b', 0, none⟩) /\ w.heap.size ≤ b' /\ (∀ k, iv'.ownBlock = some k -> w.heap.size ≤ k) /\ RowsAt S w' b' iv' arity LL) := by
 have c2 := h.ar
 have HS := qH (fun W (hW : Ext w W) => iF (h.ext hW))
 clear h
 go_enter Tryz.func91, Tryz.ntmps91
 go_wp2_with fail
 go_region_with
  (first
   | (go_at_call 99; refine (HS.out _ ((Kp.refl w).drew)).mono ?_; rintro e w1 ⟨v1, rfl, hk1, rfl, h1⟩; have d2 := h1.q (z := False) |>.ar; have HK1 := qH (And.intro hk1 h1); obtain ⟨con, zs, hc, hs, hl⟩ := h1; have HC := qH (tJ hs); have HE := qH (And.intro hc hl); clear hk1 hc hs hl)
   | (go_at_call 130; refine HC.out.mono ?_; rintro e w2 ⟨v2, rfl, hk2, b2, iv2, rfl, hb2, hi2, hs2⟩; have e2 := hk2.cell d2 id; obtain ⟨q1, q2⟩ := hs2.cells; obtain ⟨ao2, n2, cap2, ei, _⟩ : ∃ ao n cap, iv2 = .slice ao n cap /\ True := (by obtain ⟨ao, cap, e, _⟩ := hs2.row.shape; exact ⟨_, _, _, e, trivial⟩); subst ei; have HS2 := qH (And.intro hk2 (And.intro hb2 (And.intro hi2 hs2))); clear hk2 hb2 hi2 hs2))
 all_goals
  go_wp2
  go_ret
  obtain ⟨hk1, h1⟩ := HK1.out
  obtain ⟨hk2, hb2, hi2, hs2⟩ := HS2.out
  have hz1 := hk1.size
  have hz2 := hk2.size
  have hz0 : w.heap.size ≤ w1.heap.size := hz1
  refine RetF.mk (((Kp.refl w).drew.trans hk1).ext (hk2.alloc _)) ⟨h1.ext (hk2.alloc _), _, _, rfl, by omega, fun k hk => Nat.le_trans hz0 (hi2 k hk), ?_⟩
  have := RowsAt.boxed hs2 hk2 HE.out.1 arity
  rw [HE.out.2] at this
  exact this
theorem RowsAt.two (h1 : RowsAt S w b1 iv1 arity L1) (h2 : RowsAt S w b2 iv2 arity2 L2) : ∃ con, ∃ zs zs2 : List fR, (∀ x ss, ReadsAs w x ss -> con x = ss) /\
 SetAtRow Tryz.prog S w b1 (.func (Fn.func 124) #[] #[]) iv1 [.int .i64 arity] 135 (vX S w) (fun x y => aC (con x) (con y)) zs /\
 PtrSetRow Tryz.prog S w (.pointer (some ⟨b2, 0, none⟩)) zs2 /\ (∀ x ∈ zs2, vX S w x) /\ zs.map con = L1 /\ zs2.map con = L2 := by
 obtain ⟨con, zs, hc, hs, hl⟩ := h1
 obtain ⟨con2, zs2, hc2, hs2, hl2⟩ := h2
 refine ⟨con, zs, zs2, hc, hs, .inr ⟨_, _, _, _, _, _, _, rfl, hs2⟩, hs2.all, hl, ?_⟩
 rw [<- hl2]
 refine List.map_congr_left fun x hx => ?_
 obtain ⟨ss, q1, q2, q3⟩ := hs2.all x hx
 rw [hc x ss q1, hc2 x ss q1]
end
end Go.Proofs.YtinnmeiphbdogaaGreat
/- A base behind a pointer that may be nil, its map too: what is asked of it by name. -/
namespace Go.Proofs.YtinnmeiphbdogaaGreat
open Go.RowKit
inductive BaseV (S : Nat -> Prop) (w : World) : Value -> List Ent -> Prop
 | nil : BaseV S w (.pointer none) []
 | zero (bb : Nat) : Blk w bb [.map none, .int .i64 0] 129 -> (∀ k, S k -> k < w.heap.size) -> ¬ S bb -> BaseV S w (.pointer (some ⟨bb, 0, none⟩)) []
 | full (bb r : Nat) (E : List Ent) : BaseAt S w bb r E -> BaseV S w (.pointer (some ⟨bb, 0, none⟩)) E
def yP : Option Ent -> Value
 | some e => e.ptr
 | none => .pointer none
def dG : Option Ent -> List (List ByteArray)
 | some e => e.LL
 | none => []
def aJi (S : Nat -> Prop) (w : World) (o : Option Ent) : Prop := ∀ e, o = some e -> RowsAt S w e.b e.iv e.ar e.LL /\ Strict aC e.LL
section
variable {S : Nat -> Prop} {w w' : World} {o : Option Ent} {v : Value} {E : List Ent}
theorem BaseV.opt (h : BaseV S w v E) (s : ByteArray) : aJi S w (bB E s) := fun e he => by
 cases h with
 | nil => cases he
 | zero => cases he
 | full bb r E h =>
  have hm := (bT he).1
  exact ⟨h.rows e hm, h.strict hm⟩
theorem BaseV.ok (h : BaseV S w v E) : BaseOk (aN E) := by
 cases h with
 | nil => exact tV
 | zero => exact tV
 | full bb r E h => exact h.ok
theorem BaseV.ext (h : BaseV S w v E) (hk : Ext w w') : BaseV S w' v E := by
 cases h with
 | nil => exact .nil
 | zero bb hb hi hs => exact .zero bb (hb.ext hk) (fun k hk' => Nat.lt_of_lt_of_le (hi k hk') hk.size) hs
 | full bb r E h => exact .full bb r E (h.ext hk)
theorem sL {P : Program} {t k e : TypeId} (ht : P.underlying t = some (.map k e)) (hk : P.underlying k = some .string) {z : Value} (hz : (zeroValue e).run P w = .ok z w) (s : ByteArray) :
 (Instr.lookup t (.map none) (.string s) false).run P w = .ok z w := by
 have hc := eE (P := P) (w := w) hk s true 9999
 have hf := fC (P := P) (w := w) hk s (es := []) (r := none) rfl
 simp [Instr.lookup, run_underlying ht, hc, hz, hf, Result.andThen]
set_option maxRecDepth 100000 in
theorem aIf (h : BaseV S w v E) (s : ByteArray) : Calls Tryz.prog 108 #[v, .string s] w (Ret (yP (bB E s)) w) := by
 cases h with
 | nil =>
  go_enter Tryz.func108, Tryz.ntmps108
  go_wp2
  go_ret
  exact Ret.mk rfl
 | zero bb hb hi hs =>
  have c0 := hb.cell 0 (by simp)
  have hlk := sL (P := Tryz.prog) (w := w) Tryz.underlying127 Tryz.underlying9 (z := .pointer none) (by kernel_rfl) s
  simp only [List.getElem_cons_zero] at c0
  clear hb hi hs
  go_enter Tryz.func108, Tryz.ntmps108
  go_wp2
  go_ret
  exact Ret.mk rfl
 | full bb r E h =>
  have c0 := h.blk.cell 0 (by simp)
  have hlk := iQ (P := Tryz.prog) Tryz.underlying127 Tryz.underlying9 (z := .pointer none) (by kernel_rfl) h.map s
  rw [kG] at hlk
  have he : ((bB E s).map Ent.ptr).getD (.pointer none) = yP (bB E s) := by cases bB E s <;> rfl
  rw [he] at hlk
  simp only [List.getElem_cons_zero] at c0
  clear h he
  go_enter Tryz.func108, Tryz.ntmps108
  go_wp2
  go_ret
  exact Ret.mk rfl
theorem aC9 (h : aJi S w o) : Calls Tryz.prog 105 #[yP o] w (RetN w fun w' v => v = .int .i64 ((dG o).length : Nat)) := by
 cases o with
 | none =>
  refine (aAg w).mono ?_
  rintro e w' ⟨rfl, rfl⟩
  exact RetN.mk (Kp.refl _) rfl
 | some e =>
  refine (iG (z := False) (h e rfl).1.q).mono ?_
  rintro e w' ⟨v, rfl, hk, rfl, _⟩
  exact RetN.mk (Kp.fq hk) rfl
theorem aAv (h : aJi S w o) : Calls Tryz.prog 175 #[yP o] w (RetN w fun w' v => kJ w.heap.size w' v (dG o)) := by
 cases o with
 | none => exact yL w
 | some e =>
  refine (tN (z := False) (h e rfl).1.q).mono ?_
  rintro e w' ⟨v, rfl, hk, _, h2⟩
  exact RetN.mk (Kp.fq hk) h2
theorem zD (h : BaseV S w v E) (s : ByteArray) :
 Calls Tryz.prog 61 #[v, .string s] w (RetN w fun w' v => v = .int .i64 ((dG (bB E s)).length : Nat)) := by
 have HO := qH (aIf h s)
 have HH := qH (aC9 (h.opt s))
 clear h
 go_enter Tryz.func61, Tryz.ntmps61
 go_wp2_with fail
 refine HO.out.mono ?_
 rintro e w1 ⟨rfl, rfl⟩
 go_wp2_with fail
 refine HH.out.mono ?_
 rintro e w1 ⟨v, rfl, hk, rfl⟩
 go_wp2
 go_ret
 exact RetN.mk hk rfl
theorem zF (h : BaseV S w v E) (s : ByteArray) :
 Calls Tryz.prog 149 #[v, .string s] w (RetN w fun w' v => kJ w.heap.size w' v (dG (bB E s))) := by
 have HO := qH (aIf h s)
 have HH := qH (aAv (h.opt s))
 clear h
 go_enter Tryz.func149, Tryz.ntmps149
 go_wp2_with fail
 refine HO.out.mono ?_
 rintro e w1 ⟨rfl, rfl⟩
 go_wp2_with fail
 refine HH.out.mono ?_
 rintro e w1 ⟨v, rfl, hk, hc⟩
 go_wp2
 go_ret
 exact RetN.mk hk hc
end
end Go.Proofs.YtinnmeiphbdogaaGreat
/- A literal's table: plain. -/
namespace Go.Proofs.YtinnmeiphbdogaaGreat
open Go.RowKit
def dY (N : List ByteArray) (ts : List aG) (i : Nat) : List Nat := (List.range i).filter fun j => ts.any (isV (N.getD j ByteArray.empty))
theorem zQ {N : List ByteArray} {ts : List aG} {i : Nat} {s : ByteArray} (h : N[i]? = some s) : dY N ts (i + 1) = if ts.any (isV s) = true then dY N ts i ++ [i] else dY N ts i := by
 unfold dY
 rw [List.range_succ, List.filter_append, List.filter_cons, List.filter_nil, bC h]
 split
 ·rfl
 ·rw [List.append_nil]
theorem aCm (N : List ByteArray) (ts : List aG) (i : Nat) : (dY N ts i).length ≤ i := by
 unfold dY
 exact Nat.le_trans (List.length_filter_le _ _) (by rw [List.length_range]; exact Nat.le_refl _)
theorem aJy {α β : Type} [DecidableEq β] {l : List α} {m : List β} (f : α -> β) (hn : l.Nodup) (hi : ∀ a ∈ l, ∀ b ∈ l, f a = f b -> a = b) (hm : ∀ a ∈ l, f a ∈ m) : l.length ≤ m.length := by
 induction l generalizing m with
 | nil => exact Nat.zero_le _
 | cons a l ih =>
  obtain ⟨h1, h2⟩ := List.nodup_cons.1 hn
  have h3 := ih (m := m.erase (f a)) h2 (fun x hx y hy => hi x (List.mem_cons_of_mem _ hx) y (List.mem_cons_of_mem _ hy)) fun b hb => by
   have hne : f b ≠ f a := fun e => h1 (by rw [<- hi b (List.mem_cons_of_mem _ hb) a (List.mem_cons_self ..) e]; exact hb)
   exact (List.mem_erase_of_ne hne).2 (hm b (List.mem_cons_of_mem _ hb))
  have h4 := List.length_erase_of_mem (hm a (List.mem_cons_self ..))
  have h5 := List.length_pos_of_mem (hm a (List.mem_cons_self ..))
  rw [List.length_cons]; omega
theorem iC {N : List ByteArray} {ts : List aG} (hN : N.Nodup) : (aL N ts).length ≤ ts.length := by
 have hl : ∀ v ∈ aL N ts, N[v]? = some (bE N v) := fun v hv => by
  have := (cF.1 hv).1
  unfold bE
  rw [List.getD_eq_getElem?_getD, qG this]; rfl
 have h := aJy (l := aL N ts) (m := ts.map fun t => t.2.1) (bE N) ((List.nodup_range).filter _) (fun a ha b hb e => by
  have h1 := hl a ha
  have h2 := hl b hb
  rw [<- e] at h2
  exact (List.getElem?_inj (cF.1 ha).1 hN).1 (h1.trans h2.symm)) fun a ha => by
  obtain ⟨_, i, t, hi, _, h2⟩ := cF.1 ha
  exact List.mem_map.2 ⟨t, List.mem_of_getElem? hi, h2⟩
 rw [List.length_map] at h; exact h
open Classical in
theorem zW (N : List ByteArray) (ts : List aG) (R : aD) (x : List ByteArray) : cD N ts (R ++ [x]) = if x.length = ts.length /\ oN ts x then cM aC (cD N ts R) (fY N ts x) else cD N ts R := by
 unfold cD
 rw [List.filter_append, List.filter_cons, List.filter_nil]
 by_cases h : x.length = ts.length /\ oN ts x
 ·rw [if_pos (by simpa using h), if_pos h, List.map_append, List.map_singleton]
  unfold yU
  rw [List.foldl_append]; rfl
 ·rw [if_neg (by simpa using h), if_neg h, List.append_nil]
theorem aJq (N : List ByteArray) (ts : List aG) : cD N ts [] = [] := by unfold cD; rfl
open Classical in
theorem zX {N : List ByteArray} {ts : List aG} {R : aD} (h : ∀ x ∈ R, x.length ≠ ts.length) : cD N ts R = [] := by
 unfold cD
 have e : (R.filter fun x => decide (x.length = ts.length /\ oN ts x)) = [] := by
  rw [List.filter_eq_nil_iff]
  intro x hx
  simp only [decide_eq_true_eq, not_and]
  exact fun e => absurd e (h x hx)
 rw [e]; rfl
theorem aHl (l : aD) (x : List ByteArray) : (cM aC l x).length ≤ l.length + 1 := by
 unfold cM
 split
 ·omega
 ·rw [List.length_append, List.length_cons, List.length_take, List.length_drop]; omega
theorem xF : ∀ (xs acc : aD), (xs.foldl (cM aC) acc).length ≤ acc.length + xs.length
 | [], acc => Nat.le_refl _
 | x :: xs, acc => by
  have h1 := xF xs (cM aC acc x)
  have h2 := aHl acc x
  rw [List.foldl_cons, List.length_cons]; omega
open Classical in
theorem nO (N : List ByteArray) (ts : List aG) (R : aD) : (cD N ts R).length ≤ R.length := by
 unfold cD yU
 have h1 := xF ((R.filter fun x => decide (x.length = ts.length /\ oN ts x)).map (fY N ts)) []
 have h2 := List.length_filter_le (fun x : List ByteArray => decide (x.length = ts.length /\ oN ts x)) R
 rw [List.length_map] at h1
 simp only [List.length_nil] at h1
 omega
theorem aJ1 {x : List ByteArray} (h : bO x = true) (i : Nat) : (bE x i).size ≤ 4096 := by
 unfold bE
 rw [List.getD_eq_getElem?_getD]
 cases hx : x[i]? with
 | none => exact Nat.zero_le _
 | some s =>
  have := List.all_eq_true.1 h s (List.mem_of_getElem? hx)
  simpa using this
theorem aH5 {N : List ByteArray} {ts : List aG} {x : List ByteArray} (h : bO x = true) : bO (fY N ts x) = true := by
 refine List.all_eq_true.2 fun s hs => ?_
 unfold fY at hs
 obtain ⟨v, _, rfl⟩ := List.mem_map.1 hs
 exact decide_eq_true (aJ1 h _)
theorem aJb {N : List ByteArray} {ts : List aG} {R : aD} {x : List ByteArray} {n : Nat} (hn : n = (aL N ts).length) (hx : bO x = true) (hR : R.length < 65536) : bL n (cD N ts R) (fY N ts x) = cM aC (cD N ts R) (fY N ts x) := by
 have h1 : (fY N ts x).length = n := by unfold fY; rw [List.length_map, hn]
 have h2 := nO N ts R
 have e : (aV n (cD N ts R) (fY N ts x)).2 = 0 := by
  unfold aV
  rw [if_neg (by rw [h1]; simp), if_neg (by rw [aH5 hx]; simp), if_neg (by omega)]
 unfold bL
 rw [if_pos e]
def uR (ts : List aG) (x : List ByteArray) (i : Nat) : Prop := ∀ (j : Nat) (t : aG), j < i -> ts[j]? = some t -> (t.1 = 3 -> bE x j = t.2.1) /\ (t.1 = 1 -> bE x (dZ ts t.2.1) = bE x j)
theorem aDu {ts : List aG} {x : List ByteArray} : uR ts x ts.length ↔ oN ts x := ⟨fun h i t hi => h i t (List.getElem?_eq_some_iff.1 hi).1 hi, fun h j t _ hi => h j t hi⟩
theorem aBn (ts : List aG) (x : List ByteArray) : uR ts x 0 := fun j t h => by omega
theorem mW {ts : List aG} {x : List ByteArray} {i : Nat} {t : aG} (h : uR ts x i) (hi : ts[i]? = some t) (h3 : t.1 = 3 -> bE x i = t.2.1) (h1 : t.1 = 1 -> bE x (dZ ts t.2.1) = bE x i) : uR ts x (i + 1) := fun j u hj hu => by
 rcases Nat.lt_or_eq_of_le (Nat.le_of_lt_succ hj) with h2 | h2
 ·exact h j u h2 hu
 ·subst h2; rw [hi] at hu; cases hu; exact ⟨h3, h1⟩
theorem uV {ts : List aG} {s : ByteArray} (h : ts.any (isV s) = true) : cH (isT 1 s) ts = (dZ ts s : Nat) /\ dZ ts s < ts.length := by
 refine ⟨?_, ?_⟩
 ·unfold cH dZ
  rw [show isT 1 s = isV s from rfl, if_pos h]
 ·unfold dZ
  obtain ⟨t, ht, hq⟩ := List.any_eq_true.1 h
  exact List.findIdx_lt_length_of_exists ⟨t, ht, hq⟩
def fK (w : World) : Nat -> Prop := fun k => ∃ o : Obj, w.heap[k]? = some o /\ o.isCells = true
theorem RowsAt.tight {S : Nat -> Prop} {w : World} {b : Nat} {iv : Value} {arity : Nat} {LL : aD} (h : RowsAt S w b iv arity LL) : RowsAt (fun k => S k /\ fK w k) w b iv arity LL := by
 obtain ⟨con, zs, hc, hs, hl⟩ := h
 refine ⟨con, zs, hc, ⟨hs.blk, hs.row, hs.apart, fun k hk => hs.inS k hk.1, fun k h1 h2 => hs.notS k h1 h2.1, jS hc, fun z hz => ?_, hs.len⟩, hl⟩
 obtain ⟨ss, h1, h2, h3⟩ := hs.all z hz
 refine ⟨ss, h1, h2, fun a e hne => ⟨h3 a e hne, ?_⟩⟩
 have hpos : 0 < ss.length := by rw [<- h1.1]; omega
 obtain ⟨b', o', e', c'⟩ := h1.2 0 (.string ss[0]) (by simp [strs, qG hpos])
 rw [e] at e'
 cases e'
 unfold World.cell? at c'
 unfold fK
 cases ho : w.heap[b']? with
 | none => rw [ho] at c'; simp at c'
 | some o =>
  refine ⟨o, rfl, ?_⟩
  rw [ho] at c'
  cases o <;> first | rfl | (simp at c')
theorem RowsAt.cellOwn {S : Nat -> Prop} {w : World} {b : Nat} {iv : Value} {arity : Nat} {LL : aD} (h : RowsAt S w b iv arity LL) : ∀ k, dW b iv k -> fK w k := by
 obtain ⟨con, zs, hc, hs, hl⟩ := h
 intro k hk
 rcases hk with rfl | hk
 ·exact ⟨_, hs.blk, rfl⟩
 ·obtain ⟨cs, hb, _⟩ := hs.row.has hk
  exact ⟨_, hb, rfl⟩
end Go.Proofs.YtinnmeiphbdogaaGreat
/- Tries in memory: what is read of them. -/
namespace Go.Proofs.YtinnmeiphbdogaaGreat
open Go.RowKit Go.Shelf
structure LevelAt (w : World) (b off i : Nat) (W : aD) (d : Nat) : Prop where
 ex : ∃ ka kc fa fc, w.cell? ⟨b, off + i * 2, none⟩ = some (.slice ka (aQ W d i W.length) kc) /\ w.cell? ⟨b, off + i * 2 + 1, none⟩ = some (.slice fa (aQ W d i W.length + 1) fc) /\ aQ W d i W.length ≤ kc /\
  CellsAt w ka (strs (bM W d i W.length)) /\ CellsAt w fa (ints (bU W d i W.length ++ [(aQ W d (i + 1) W.length : Int)]))
theorem LevelAt.ext {w w' : World} {b off i : Nat} {W : aD} {d : Nat} (h : LevelAt w b off i W d) (hk : Ext w w') : LevelAt w' b off i W d := by
 obtain ⟨ka, kc, fa, fc, h1, h2, h3, h4, h5⟩ := h.ex
 exact ⟨ka, kc, fa, fc, hk.cell h1 id, hk.cell h2 id, h3, h4.ext hk, h5.ext hk⟩
structure TrieAt (w : World) (tb : Nat) (W : aD) (d : Nat) : Prop where
 ex : ∃ la lc, w.cell? ⟨tb, 0, none⟩ = some (.slice la d lc) /\ w.cell? ⟨tb, 1, none⟩ = some (.int .i64 W.length) /\ w.cell? ⟨tb, 2, none⟩ = some (.bool true) /\ ∀ i, i < d -> ∃ b off, la = some ⟨b, off, none⟩ /\ LevelAt w b off i W d
 few : W.length ≤ 1048576
 dep : d ≤ 1048576
theorem TrieAt.ext {w w' : World} {tb : Nat} {W : aD} {d : Nat} (h : TrieAt w tb W d) (hk : Ext w w') : TrieAt w' tb W d := by
 obtain ⟨⟨la, lc, h1, h2, h3, h4⟩, h5, h6⟩ := h
 exact ⟨⟨la, lc, hk.cell h1 id, hk.cell h2 id, hk.cell h3 id, fun i hi => by
  obtain ⟨b, off, e, hl⟩ := h4 i hi
  exact ⟨b, off, e, hl.ext hk⟩⟩, h5, h6⟩
theorem aFk (tb : Nat) (w : World) : (binOp .eql 187 (.pointer (some ⟨tb, 0, none⟩)) (.pointer none)).run Tryz.prog w = .ok (.bool false) w := by kernel_rfl
set_option maxHeartbeats 1000000 in
theorem tW {w : World} {tb : Nat} {W : aD} {d : Nat} (h : TrieAt w tb W d) : Calls Tryz.prog 155 #[.pointer (some ⟨tb, 0, none⟩)] w (RetN w fun w' v => v = .bool false) := by
 have hq := aFk tb
 obtain ⟨⟨la, lc, -, -, h3, -⟩, -, -⟩ := h
 go_enter Tryz.func155, Tryz.ntmps155
 go_wp2
 go_ret
 exact RetN.mk (Kp.refl _) rfl
set_option maxHeartbeats 1000000 in
theorem xR {w : World} {tb : Nat} {W : aD} {d : Nat} (h : TrieAt w tb W d) : Calls Tryz.prog 183 #[.pointer (some ⟨tb, 0, none⟩)] w (RetN w fun w' v => v = .int .i64 d) := by
 have HN := qH (tW h)
 have HT := qH h
 clear h
 go_enter Tryz.func183, Tryz.ntmps183
 go_wp2_with fail
 refine HN.out.mono ?_
 rintro e w1 ⟨v, rfl, hk, rfl⟩
 obtain ⟨⟨la, lc, h1, -, -, -⟩, -, -⟩ := HT.out.ext hk
 have HK := qH hk
 clear hk
 go_wp2
 go_ret
 exact RetN.mk HK.out rfl
set_option maxHeartbeats 1000000 in
theorem len_any {w : World} {tb : Nat} {W : aD} {d : Nat} (h : TrieAt w tb W d) : Calls Tryz.prog 184 #[.pointer (some ⟨tb, 0, none⟩)] w (RetN w fun w' v => v = .int .i64 W.length) := by
 have HN := qH (tW h)
 have HT := qH h
 clear h
 go_enter Tryz.func184, Tryz.ntmps184
 go_wp2_with fail
 refine HN.out.mono ?_
 rintro e w1 ⟨v, rfl, hk, rfl⟩
 obtain ⟨⟨la, lc, -, h2, -, -⟩, -, -⟩ := HT.out.ext hk
 have HK := qH hk
 clear hk
 go_wp2
 go_ret
 exact RetN.mk HK.out rfl
end Go.Proofs.YtinnmeiphbdogaaGreat
/- Cursors in memory. -/
namespace Go.Proofs.YtinnmeiphbdogaaGreat
open Go.RowKit Go.Shelf
def iO (e : Nat × Nat) : List Value := [.int .i64 e.1, .int .i64 e.2]
theorem fO (e : Nat × Nat) : (iO e).length = 2 := rfl
structure CurAt (w : World) (cb tb : Nat) (st : List (Nat × Nat)) (ov : Value) (M : Nat -> Prop) : Prop where
 box : Blk w cb [.pointer (some ⟨tb, 0, none⟩), ov] 218
 row : Row w 249 2 ov st.length (st.flatMap iO) M
theorem CurAt.ext {w w' : World} {cb tb : Nat} {st : List (Nat × Nat)} {ov : Value} {M : Nat -> Prop} (h : CurAt w cb tb st ov M) (hk : Ext w w') : CurAt w' cb tb st ov M := ⟨h.box.ext hk, h.row.ext hk⟩
theorem mZ (cb : Nat) (w : World) : (binOp .eql 188 (.pointer (some ⟨cb, 0, none⟩)) (.pointer none)).run Tryz.prog w = .ok (.bool false) w := by kernel_rfl
theorem tP {w : World} {e : TypeId} {k : Nat} {v : Value} {n : Nat} {xs : List Value} {M : Nat -> Prop} (h : Row w e k v n xs M) : ∃ ao cap, v = .slice ao n cap /\ CellsAt w ao xs /\ n ≤ cap /\ cap ≤ maxLen := by
 obtain ⟨h1, ⟨rfl, rfl⟩ | ⟨g, cap, rest, rfl, b, c, d, e, f⟩⟩ := h
 ·have : xs = [] := List.eq_nil_of_length_eq_zero (by simpa using h1)
  subst this
  exact ⟨none, 0, rfl, CellsAt.nil _ _, Nat.le_refl _, Nat.zero_le _⟩
 ·exact ⟨_, cap, rfl, CellsAt.pre c, e, f⟩
set_option maxHeartbeats 1000000 in
theorem last_any {w : World} {cb tb : Nat} {st : List (Nat × Nat)} {g c m : Nat} {M : Nat -> Prop} (h : CurAt w cb tb st (.slice (some ⟨g, 0, none⟩) (m + 1) c) M) :
 Calls Tryz.prog 185 #[.pointer (some ⟨cb, 0, none⟩)] w (RetN w fun w' v => v = .pointer (some ⟨g, m * 2, none⟩)) := by
 have hq := mZ cb
 have c1 : w.cell? ⟨cb, 1, none⟩ = some (.slice (some ⟨g, 0, none⟩) (m + 1) c) := by rw [h.box.cell']; rfl
 have hmx : m + 1 ≤ maxLen := by
  obtain ⟨a, cc, e, h1, h2, h3⟩ := tP h.row
  rw [Value.slice.injEq] at e
  omega
 have hw : IntKind.i64.wrap (m : Int) = (m : Int) := IntWalk.i64_in _ (by unfold maxLen at hmx; omega)
 have hz : ¬ ((m : Int) + 1) = 0 := by omega
 clear hmx
 clear h
 go_enter Tryz.func185, Tryz.ntmps185
 go_wp2
 go_quiet (fail)
 go_wp2
 go_ret
 exact RetN.mk ((Kp.refl _).drewN _) rfl
set_option maxHeartbeats 1000000 in
theorem last_none {w : World} {cb tb : Nat} {ao : Option Addr} {c : Nat} {M : Nat -> Prop} (h : CurAt w cb tb [] (.slice ao 0 c) M) :
 Calls Tryz.prog 185 #[.pointer (some ⟨cb, 0, none⟩)] w (RetN w fun w' v => v = .pointer none) := by
 have hq := mZ cb
 have c1 : w.cell? ⟨cb, 1, none⟩ = some (.slice ao 0 c) := by rw [h.box.cell']; rfl
 clear h
 go_enter Tryz.func185, Tryz.ntmps185
 go_wp2
 go_ret
 exact RetN.mk (Kp.refl _) rfl
structure CurIn (w : World) (cb tb : Nat) (st : List (Nat × Nat)) (g c m a b : Nat) (M : Nat -> Prop) : Prop where
 at_ : CurAt w cb tb st (.slice (some ⟨g, 0, none⟩) (m + 1) c) M
 last : st[m]? = some (a, b)
theorem CurIn.len {w : World} {cb tb : Nat} {st : List (Nat × Nat)} {g c m a b : Nat} {M : Nat -> Prop} (h : CurIn w cb tb st g c m a b M) : st.length = m + 1 := by
 obtain ⟨ao, cc, e, h1, h2, h3⟩ := tP h.at_.row
 rw [Value.slice.injEq] at e
 omega
theorem CurIn.ext {w w' : World} {cb tb : Nat} {st : List (Nat × Nat)} {g c m a b : Nat} {M : Nat -> Prop} (h : CurIn w cb tb st g c m a b M) (hk : Ext w w') : CurIn w' cb tb st g c m a b M := ⟨h.at_.ext hk, h.last⟩
theorem wI (st : List (Nat × Nat)) {m : Nat} {e : Nat × Nat} (h : st[m]? = some e) : (st.flatMap iO)[m * 2]? = some (.int .i64 e.1) /\ (st.flatMap iO)[m * 2 + 1]? = some (.int .i64 e.2) := by
 induction st generalizing m with
 | nil => simp at h
 | cons x st ih =>
  cases m with
  | zero => cases h; exact ⟨rfl, rfl⟩
  | succ m =>
   have h2 := ih (by simpa using h)
   refine ⟨?_, ?_⟩
   ·rw [List.flatMap_cons, List.getElem?_append_right (by rw [fO]; omega), fO, show (m + 1) * 2 - 2 = m * 2 by omega]; exact h2.1
   ·rw [List.flatMap_cons, List.getElem?_append_right (by rw [fO]; omega), fO, show (m + 1) * 2 + 1 - 2 = m * 2 + 1 by omega]; exact h2.2
theorem CurIn.cells {w : World} {cb tb : Nat} {st : List (Nat × Nat)} {g c m a b : Nat} {M : Nat -> Prop} (h : CurIn w cb tb st g c m a b M) : w.cell? ⟨g, m * 2, none⟩ = some (.int .i64 a) /\ w.cell? ⟨g, m * 2 + 1, none⟩ = some (.int .i64 b) /\ w.frozen? ⟨g, m * 2, none⟩ = false := by
 obtain ⟨h1, h2⟩ := wI st h.last
 obtain ⟨_, ⟨e1, _⟩ | ⟨g', cap, rest, e1, hM, hB, h3⟩⟩ := h.at_.row
 ·cases e1
 ·simp only [Value.slice.injEq, Option.some.injEq, Addr.mk.injEq, and_true] at e1
  obtain ⟨rfl, _⟩ := e1
  have l1 := (List.getElem?_eq_some_iff.1 h1).1
  have l2 := (List.getElem?_eq_some_iff.1 h2).1
  exact ⟨by rw [hB.cell', List.getElem?_append_left l1]; exact h1, by rw [hB.cell', List.getElem?_append_left l2]; exact h2, hB.free _⟩
theorem aJ7 (a b : Nat) : ((a : Int) == (b : Int)) = decide (a = b) := by
 by_cases h : a = b
 ·subst h; simp
 ·rw [decide_eq_false h]
  have : ¬ (a : Int) = b := by omega
  simp [this]
theorem wJ (g o : Nat) (w : World) : (binOp .neq 250 (.pointer (some ⟨g, o, none⟩)) (.pointer none)).run Tryz.prog w = .ok (.bool true) w := by kernel_rfl
theorem kT (g o : Nat) (w : World) : (binOp .eql 250 (.pointer (some ⟨g, o, none⟩)) (.pointer none)).run Tryz.prog w = .ok (.bool false) w := by kernel_rfl
set_option maxHeartbeats 1000000 in
theorem fQ {w : World} {cb tb : Nat} {st : List (Nat × Nat)} {g c m a b : Nat} {M : Nat -> Prop} (h : CurIn w cb tb st g c m a b M) :
 Calls Tryz.prog 181 #[.pointer (some ⟨cb, 0, none⟩)] w (RetN w fun w' v => v = .bool (decide (a = b))) := by
 have HL := qH (last_any h.at_)
 have HC := qH h
 clear h
 go_enter Tryz.func181, Tryz.ntmps181
 go_wp2_with fail
 refine HL.out.mono ?_
 rintro e w1 ⟨v, rfl, hk, rfl⟩
 obtain ⟨z0, z1, -⟩ := (HC.out.ext hk).cells
 have hq := wJ g (m * 2)
 have HK := qH hk
 clear hk
 go_wp2
 go_quiet (fail)
 go_wp2
 go_ret
 exact RetN.mk (HK.out.drewN _) (congrArg Value.bool (aJ7 a b))
theorem lU {m : Nat} (h : m ≤ maxLen) : IntKind.i64.wrap (m : Int) = (m : Int) := IntWalk.i64_in _ (by unfold maxLen at h; omega)
theorem CurIn.small {w : World} {cb tb : Nat} {st : List (Nat × Nat)} {g c m a b : Nat} {M : Nat -> Prop} (h : CurIn w cb tb st g c m a b M) : m ≤ maxLen := by
 obtain ⟨ao, cc, e, h1, h2, h3⟩ := tP h.at_.row
 rw [Value.slice.injEq] at e
 have := h.len
 omega
set_option maxHeartbeats 1000000 in
theorem aJx {w : World} {cb tb : Nat} {st : List (Nat × Nat)} {g c m a b d : Nat} {W : aD} {M : Nat -> Prop} {x : ByteArray} (h : CurIn w cb tb st g c m a b M) (ht : TrieAt w tb W d) (hm : m < d) (hab : a ≠ b) (hx : (bM W d m W.length)[a]? = some x) :
 Calls Tryz.prog 187 #[.pointer (some ⟨cb, 0, none⟩)] w (RetN w fun w' v => v = .string x) := by
 have HL := qH (last_any h.at_)
 have HE := qH (fun (W : World) (hW : Ext w W) => fQ (h.ext hW))
 have HC := qH h
 have HT := qH ht
 have hw := lU h.small
 have hn := (List.getElem?_eq_some_iff.1 hx).1
 rw [eJ] at hn
 have HX := qH hx
 have hd : decide (a = b) = false := decide_eq_false hab
 rw [hd] at HE
 clear h ht hx hab hd
 go_enter Tryz.func187, Tryz.ntmps187
 go_wp2_with fail
 refine HL.out.mono ?_
 rintro e w1 ⟨v, rfl, hk, rfl⟩
 have hq := kT g (m * 2)
 have H1 := qH hk
 clear hk
 go_wp2_with (go_at_call 181; refine Halted.out ?_)
 refine Halted.mk ((HE.out w1 H1.out).mono ?_)
 rintro e w2 ⟨v, rfl, hk, rfl⟩
 have H2 := qH (H1.out.trans hk)
 clear hk H1
 obtain ⟨z0, z1, -⟩ := (HC.out.ext H2.out).cells
 have hb := (HC.out.at_.box.ext H2.out)
 have c0 : w2.cell? ⟨cb, 0, none⟩ = some (.pointer (some ⟨tb, 0, none⟩)) := by rw [hb.cell']; rfl
 have c1 : w2.cell? ⟨cb, 1, none⟩ = some (.slice (some ⟨g, 0, none⟩) (m + 1) c) := by rw [hb.cell']; rfl
 obtain ⟨⟨la, lc, t0, -, -, hlev⟩, -, -⟩ := HT.out.ext H2.out
 obtain ⟨bl, ol, ela, hL⟩ := hlev m hm
 subst ela
 obtain ⟨ka, kc, fa, fc, l0, -, -, hk1, -⟩ := hL.ex
 obtain ⟨kb, ko, eka, k0⟩ := hk1 a (.string x) (by simp [strs, HX.out])
 subst eka
 generalize aQ W d m W.length = nk at *
 clear hL hk1 hlev hb z1
 go_wp2
 go_quiet (fail)
 go_wp2
 go_ret
 exact RetN.mk (H2.out.drewN _) rfl
end Go.Proofs.YtinnmeiphbdogaaGreat
/- Cursors in memory: what turns them. -/
namespace Go.Proofs.YtinnmeiphbdogaaGreat
open Go.RowKit Go.Shelf
theorem aKp {w : World} {e : TypeId} {k : Nat} {g m c n : Nat} {xs : List Value} {M : Nat -> Prop} (h : Row w e k (.slice (some ⟨g, 0, none⟩) m c) n xs M) (i : Nat) (hi : i < xs.length) (v : Value) : Row (w.setCell ⟨g, i, none⟩ v) e k (.slice (some ⟨g, 0, none⟩) m c) n (xs.set i v) M := by
 obtain ⟨h1, ⟨e1, _⟩ | ⟨g', cap, rest, e1, hM, hB, h2, h3⟩⟩ := h
 ·cases e1
 ·cases e1
  refine ⟨by rw [List.length_set]; exact h1, .inr ⟨g, c, rest, rfl, hM, ?_, by simpa using h2, h3⟩⟩
  have := hB.set i v
  rw [List.set_append_left _ _ hi] at this
  exact this
theorem aM {w : World} {g : Nat} {cs cs' : List Value} {e e' : TypeId} (h : Blk w g cs e) (h' : Blk w g cs' e') : e = e' := by
 unfold Blk at h h'
 rw [h] at h'
 cases h'; rfl
theorem qP : 218 ≠ 249 := by decide
theorem CurAt.apart {w : World} {cb tb g n c : Nat} {st : List (Nat × Nat)} {M : Nat -> Prop} (h : CurAt w cb tb st (.slice (some ⟨g, 0, none⟩) n c) M) : cb ≠ g /\ M g /\ g < w.heap.size := by
 obtain ⟨hb, _, ⟨e1, _⟩ | ⟨g', cap, rest, e1, hM, hB, h3⟩⟩ := h
 ·cases e1
 ·simp only [Value.slice.injEq, Option.some.injEq, Addr.mk.injEq, and_true] at e1
  obtain ⟨rfl, _⟩ := e1
  exact ⟨fun e => by subst e; exact qP (aM hb hB), hM, hB.lt⟩
theorem wH : ∀ (st : List (Nat × Nat)) (m a b a' : Nat), st[m]? = some (a, b) -> (st.set m (a', b)).flatMap iO = (st.flatMap iO).set (m * 2) (.int .i64 a')
 | [], m, a, b, a', h => by simp at h
 | x :: st, 0, a, b, a', h => by cases h; rfl
 | x :: st, m + 1, a, b, a', h => by
  rw [List.set_cons_succ, List.flatMap_cons, List.flatMap_cons, wH st m a b a' (by simpa using h), List.set_append_right _ _ (by rw [fO]; omega), fO]
  congr 2
  omega
theorem CurIn.put {w : World} {cb tb : Nat} {st : List (Nat × Nat)} {g c m a b : Nat} {M : Nat -> Prop} (h : CurIn w cb tb st g c m a b M) (a' : Nat) : CurIn (w.setCell ⟨g, m * 2, none⟩ (.int .i64 a')) cb tb (st.set m (a', b)) g c m a' b M := by
 have hap := h.at_.apart
 have hks : Kp (fun k => k = g) w (w.setCell ⟨g, m * 2, none⟩ (.int .i64 a')) := Kp.setCell (F := fun k => k = g) (p := ⟨g, m * 2, none⟩) (Kp.refl w) (fun _ => rfl) _
 have hml : m < st.length := (List.getElem?_eq_some_iff.1 h.last).1
 refine ⟨⟨h.at_.box.kp hks hap.1, ?_⟩, by rw [List.getElem?_set_self hml]⟩
 rw [wH st m a b a' h.last, List.length_set]
 exact aKp h.at_.row (m * 2) (List.getElem?_eq_some_iff.1 (wI st h.last).1).1 _
set_option maxHeartbeats 1000000 in
theorem next_any {w : World} {cb tb : Nat} {st : List (Nat × Nat)} {g c m a b : Nat} {M : Nat -> Prop} (h : CurIn w cb tb st g c m a b M) (hab : a < b) (hb : b ≤ 1048576) :
 Calls Tryz.prog 189 #[.pointer (some ⟨cb, 0, none⟩)] w (RetF (fun k => k = g) w fun w' v => v = .bool (decide (a + 1 ≠ b)) /\ CurIn w' cb tb (st.set m (a + 1, b)) g c m (a + 1) b M) := by
 have HL := qH (last_any h.at_)
 have HE := qH (fun (W : World) (hW : Ext w W) => fQ (h.ext hW))
 have HC := qH h
 have hd : decide (a = b) = false := decide_eq_false (by omega)
 rw [hd] at HE
 clear h hd
 go_enter Tryz.func189, Tryz.ntmps189
 go_wp2_with fail
 refine HL.out.mono ?_
 rintro e w1 ⟨v, rfl, hk, rfl⟩
 have hq := kT g (m * 2)
 have H1 := qH hk
 clear hk
 go_wp2_with (go_at_call 181; refine Halted.out ?_)
 refine Halted.mk ((HE.out w1 H1.out).mono ?_)
 rintro e w2 ⟨v, rfl, hk, rfl⟩
 have H2 := qH (H1.out.trans hk)
 clear hk H1
 obtain ⟨z0, -, f0⟩ := (HC.out.ext H2.out).cells
 obtain ⟨w3, e3⟩ : ∃ x, w2.setCell ⟨g, m * 2, none⟩ (.int .i64 ((a : Int) + 1)) = x := ⟨_, rfl⟩
 have hc3 : CurIn w3 cb tb (st.set m (a + 1, b)) g c m (a + 1) b M := by rw [<- e3]; exact (HC.out.ext H2.out).put (a + 1)
 have H3 := qH (And.intro hc3 (show Kp (fun k => k = g) w w3 from by rw [<- e3]; exact Kp.setCell (F := fun k => k = g) (p := ⟨g, m * 2, none⟩) (Ext.kp H2.out) (fun _ => rfl) _))
 have HE3 := qH (fQ hc3)
 clear hc3
 go_wp2_with fail
 refine HE3.out.mono ?_
 rintro e w4 ⟨v, rfl, hk, rfl⟩
 have H4 := qH (And.intro (H3.out.1.ext hk) (H3.out.2.ext hk))
 clear hk e3 z0 f0
 by_cases he : a + 1 = b
 ·rw [decide_eq_true he]
  have HE5 := qH (show decide (a + 1 ≠ b) = false from decide_eq_false fun h => h he)
  clear he
  go_wp2
  go_ret
  exact RetF.mk H4.out.2 ⟨by rw [HE5.out]; rfl, H4.out.1⟩
 ·rw [decide_eq_false he]
  have HE5 := qH (show decide (a + 1 ≠ b) = true from decide_eq_true he)
  clear he
  go_wp2
  go_ret
  exact RetF.mk H4.out.2 ⟨by rw [HE5.out]; rfl, H4.out.1⟩
theorem CurIn.up {w : World} {cb tb : Nat} {st : List (Nat × Nat)} {g c m a b : Nat} {M : Nat -> Prop} (h : CurIn w cb tb st g c m a b M) : CurAt (w.setCell ⟨cb, 1, none⟩ (.slice (some ⟨g, 0, none⟩) m c)) cb tb (st.take m) (.slice (some ⟨g, 0, none⟩) m c) M := by
 have hap := h.at_.apart
 have hks : Kp (fun k => k = cb) w (w.setCell ⟨cb, 1, none⟩ (.slice (some ⟨g, 0, none⟩) m c)) := Kp.setCell (F := fun k => k = cb) (p := ⟨cb, 1, none⟩) (Kp.refl w) (fun _ => rfl) _
 have hl := h.len
 refine ⟨?_, ?_⟩
 ·have := h.at_.box.set 1 (.slice (some ⟨g, 0, none⟩) m c)
  exact this
 ·have hr : Row w 249 2 (.slice (some ⟨g, 0, none⟩) m c) (st.take m).length ((st.take m).flatMap iO) M := by
   have et : (st.take m).length = m := by rw [List.length_take]; omega
   rw [et]
   obtain ⟨h1, ⟨e1, _⟩ | ⟨g', cap, rest, e1, hM, hB, h2, h3, h4⟩⟩ := h.at_.row
   ·cases e1
   ·simp only [Value.slice.injEq, Option.some.injEq, Addr.mk.injEq, and_true] at e1
    obtain ⟨rfl, e2, rfl⟩ := e1
    have es : st.flatMap iO = (st.take m).flatMap iO ++ (st.drop m).flatMap iO := by rw [<- List.flatMap_append, List.take_append_drop]
    rw [es, List.append_assoc] at hB
    rw [es] at h2
    have hfl : ∀ l : List (Nat × Nat), (l.flatMap iO).length = l.length * 2 := fun l => by
     induction l with
     | nil => rfl
     | cons x l ih => rw [List.flatMap_cons, List.length_append, fO, ih, List.length_cons]; omega
    refine ⟨by rw [hfl, et], .inr ⟨g, c, _, rfl, hM, hB, ?_, by omega, h4⟩⟩
    rw [List.length_append] at h2 ⊢
    rw [List.length_append, <- Nat.add_assoc]
    rw [List.length_append] at h2
    omega
  exact hr.kp' hks fun g' hg _ e => by
   have e3 : some g = some g' := hg
   exact hap.1 (e.symm.trans (Option.some.inj e3).symm)
set_option maxRecDepth 100000 in
set_option maxHeartbeats 1000000 in
theorem aKm {w : World} {cb tb : Nat} {st : List (Nat × Nat)} {g c m a b : Nat} {M : Nat -> Prop} (h : CurIn w cb tb st g c m a b M) :
 Calls Tryz.prog 159 #[.pointer (some ⟨cb, 0, none⟩)] w (RetF (fun k => k = cb) w fun w' v => v = .bool true /\ CurAt w' cb tb (st.take m) (.slice (some ⟨g, 0, none⟩) m c) M) := by
 have HL := qH (last_any h.at_)
 have HC := qH h
 have hw := lU h.small
 obtain ⟨hmc, hcm⟩ : m ≤ c /\ c ≤ maxLen := by
  obtain ⟨ao, cc, e, h1, h2, h3⟩ := tP h.at_.row
  rw [Value.slice.injEq] at e
  have := h.len
  omega
 clear h
 go_enter Tryz.func159, Tryz.ntmps159
 go_wp2_with fail
 refine HL.out.mono ?_
 rintro e w1 ⟨v, rfl, hk, rfl⟩
 have hq := kT g (m * 2)
 have H1 := qH hk
 have hb := HC.out.at_.box.ext hk
 have c1 : w1.cell? ⟨cb, 1, none⟩ = some (.slice (some ⟨g, 0, none⟩) (m + 1) c) := by rw [hb.cell']; rfl
 have f1 := hb.free 1
 clear hb hk
 go_wp2
 go_still_tail 14, (by kernel_rfl)
 go_wp2
 go_ret
 exact RetF.mk ((Kp.setCell (F := fun k => k = cb) (p := ⟨cb, 1, none⟩) (Ext.kp H1.out) (fun _ => rfl) _).drew) ⟨rfl, (HC.out.ext H1.out).up.ext ((Kp.refl _).drew)⟩
set_option maxHeartbeats 1000000 in
theorem walk_any {w : World} {tb : Nat} {W : aD} {d : Nat} (h : TrieAt w tb W d) : Calls Tryz.prog 122 #[.pointer (some ⟨tb, 0, none⟩)] w (RetN w fun w' v => ∃ cb, v = .pointer (some ⟨cb, 0, none⟩) /\ w.heap.size ≤ cb /\ CurAt w' cb tb [] (.slice none 0 0) (fun k => w.heap.size ≤ k)) := by
 have HN := qH (tW h)
 clear h
 go_enter Tryz.func122, Tryz.ntmps122
 go_wp2_with fail
 refine HN.out.mono ?_
 rintro e w1 ⟨v, rfl, hk, rfl⟩
 have HK := qH hk
 clear hk
 go_wp2
 go_ret
 exact RetN.mk (HK.out.alloc _) ⟨_, rfl, HK.out.size, Blk.new w1 _ _, Row.nil _ _ _ _⟩
end Go.Proofs.YtinnmeiphbdogaaGreat
/- The trie's search in a span; Seek. -/
namespace Go.Proofs.YtinnmeiphbdogaaGreat
open Go.RowKit Go.Shelf
def aJk (K : List ByteArray) (t : ByteArray) (a b : Nat) (w0 : World) (lv sv : Value) (w : World) : Prop := ∃ low : Nat, a ≤ low /\ low ≤ b /\ lv = .int .i64 low /\ sv = .int .i64 (low - a + 1 : Nat) /\ Hid (∀ x, a < low -> K[low - 1]? = some x -> aZ x.toList t.toList < 0) /\ Hid (Ext w0 w)
def fW (K : List ByteArray) (t : ByteArray) (a b p : Nat) : Prop := a ≤ p /\ p ≤ b /\ (∀ x, a < p -> K[p - 1]? = some x -> aZ x.toList t.toList < 0) /\ ∀ x, p < b -> K[p]? = some x -> 0 ≤ aZ x.toList t.toList
theorem eM {K : List ByteArray} {low mm j : Nat} (hj : j < mm - low) : ((K.drop low).take (mm - low))[j]? = K[low + j]? := by
 rw [List.getElem?_take_of_lt hj, List.getElem?_drop]
theorem uU {K : List ByteArray} {t : ByteArray} {a b low mm n : Nat} (h1 : a ≤ low) (h2 : low ≤ mm) (h3 : mm ≤ b) (hbe : ∀ x, a < low -> K[low - 1]? = some x -> aZ x.toList t.toList < 0) (hmm : mm = b \/ (low < mm /\ ∃ x, K[mm - 1]? = some x /\ 0 ≤ aZ x.toList t.toList))
 (hn : n ≤ mm - low) (hs1 : ∀ x, 0 < n -> ((K.drop low).take (mm - low))[n - 1]? = some x -> aZ x.toList t.toList < 0) (hs2 : ∀ x, ((K.drop low).take (mm - low))[n]? = some x -> 0 ≤ aZ x.toList t.toList) : fW K t a b (low + n) := by
 refine ⟨by omega, by omega, fun x hx he => ?_, fun x hx he => ?_⟩
 ·by_cases h0 : 0 < n
  ·refine hs1 x h0 ?_
   rw [eM (by omega), show low + (n - 1) = low + n - 1 by omega]; exact he
  ·have : n = 0 := by omega
   subst this
   exact hbe x (by omega) (by rw [Nat.add_zero] at he; exact he)
 ·by_cases hlt : n < mm - low
  ·exact hs2 x (by rw [eM hlt]; exact he)
  ·rcases hmm with h | ⟨h, y, hy, hy2⟩
   ·omega
   ·have h4 := hs1 y (by omega) (by rw [eM (by omega), show low + (n - 1) = mm - 1 by omega]; exact hy)
    omega
set_option maxRecDepth 100000 in
set_option maxHeartbeats 4000000 in
theorem aFr {w : World} {tb : Nat} {W : aD} {d i a b : Nat} (t : ByteArray) (h : TrieAt w tb W d) (hi : i < d) (hab : a < b) (hb : b ≤ aQ W d i W.length) :
 Calls Tryz.prog 204 #[.pointer (some ⟨tb, 0, none⟩), .int .i64 i, .agg #[.int .i64 a, .int .i64 b], .string t] w (RetN w fun w' v => ∃ p : Nat, v = .int .i64 p /\ fW (bM W d i W.length) t a b p) := by
 have hwl := cU W d i W.length
 have hbig : b ≤ 1048576 := by have := h.few; unfold aQ at hb; omega
 obtain ⟨⟨la, lc, t0, -, -, hlev⟩, -, -⟩ := h
 obtain ⟨bl, ol, ela, hL⟩ := hlev i hi
 subst ela
 obtain ⟨ka, kc, fa, fc, l0, -, hkc, hk1, -⟩ := hL.ex
 obtain ⟨nk, enk⟩ : ∃ n, aQ W d i W.length = n := ⟨_, rfl⟩
 have hkl : (bM W d i W.length).length = nk := by rw [eJ, enk]
 rw [enk] at l0 hkc hb
 obtain ⟨K, eK⟩ : ∃ K, bM W d i W.length = K := ⟨_, rfl⟩
 rw [eK] at hk1 hkl ⊢
 have HK := qH (And.intro hk1 hkl)
 clear hk1 hkl eK enk hlev hL hwl
 obtain ⟨kb, ko, eka⟩ : ∃ kb ko, ka = some ⟨kb, ko, none⟩ := by
  obtain ⟨x, hx⟩ : ∃ x, K[0]? = some x := ⟨_, qG (by have := HK.out.2; omega)⟩
  obtain ⟨kb, ko, e, -⟩ := HK.out.1 0 (.string x) (by simp [strs, hx])
  exact ⟨kb, ko, e⟩
 subst eka
 go_enter Tryz.func204, Tryz.ntmps204
 obtain ⟨w1, e1⟩ : ∃ w1, w.alloc (.cells #[.int .i64 a, .int .i64 b] 249) = w1 := ⟨_, rfl⟩
 obtain ⟨g0, eg0⟩ : ∃ g, w.heap.size = g := ⟨_, rfl⟩
 have hB : Blk w1 g0 [.int .i64 a, .int .i64 b] 249 := by rw [<- e1, <- eg0]; exact Blk.new w _ _
 have hx1 : Ext w w1 := by rw [<- e1]; exact (Kp.refl w).alloc _
 have s0 : w1.cell? ⟨g0, 0, none⟩ = some (.int .i64 a) := by rw [hB.cell']; rfl
 have s1 : w1.cell? ⟨g0, 1, none⟩ = some (.int .i64 b) := by rw [hB.cell']; rfl
 have t0' := hx1.cell t0 id
 have l0' := hx1.cell l0 id
 have H1 := qH (And.intro hx1 hB)
 clear hx1 hB t0 l0
 go_wp2
 go_step3
 go_wp2
 go_step3
 go_wp2
 clear e1 eg0 t0' l0'
 go_loopw [10, 11] (fun lv sv wr => aJk K t a b w1 lv sv wr) (fun lv _ _ => b - (intOf lv).toNat)
 case atStart => exact ⟨a, Nat.le_refl _, Nat.le_of_lt hab, rfl, by rw [Nat.sub_self]; rfl, qH fun x hx => by omega, qH (Kp.refl _)⟩
 case round =>
  clear s0 s1
  obtain ⟨low, hlo, hhi, rfl, rfl, hbe, hex⟩ := hrel
  have hb2 := H1.out.2.ext hex.out
  have s1 : wr.cell? ⟨g0, 1, none⟩ = some (.int .i64 b) := by rw [hb2.cell']; rfl
  obtain ⟨st, est⟩ : ∃ st, low - a + 1 = st := ⟨_, rfl⟩
  rw [est]
  have hst1 : 1 ≤ st := by omega
  clear hb2
  by_cases hlt : low + st ≤ b
  ·obtain ⟨x, hx⟩ : ∃ x, K[low + st - 1]? = some x := ⟨_, qG (by have := HK.out.2; omega)⟩
   obtain ⟨kb', ko', eka, k0⟩ := HK.out.1 (low + st - 1) (.string x) (by simp [strs, hx])
   cases eka
   replace k0 := hex.out.cell (H1.out.1.cell k0 id) id
   by_cases hc : Op.bytesLess x.toList t.toList = true
   ·have HX := qH (And.intro hx (eO.2 hc))
    clear hx
    go_wp2
    go_roundw
    case rel => exact ⟨low + st, by omega, hlt, by first | rfl | (congr 1; done) | (congr 1; omega), by first | rfl | (congr 1; done) | (congr 1; omega), qH fun y _ hy => by rw [HX.out.1] at hy; cases hy; exact HX.out.2, hex⟩
    case measure => simp [intOf]; omega
   ·rw [Bool.not_eq_true] at hc
    have HX := qH (And.intro hx (show 0 ≤ aZ x.toList t.toList from Int.not_lt.1 fun h => by rw [eO, hc] at h; cases h))
    clear hx
    have HS := qH (fun (cp : Nat) => mE ((K.drop low).take ((low + st) - low)) t (some ⟨kb, ko + low, none⟩) ((low + st) - low) cp wr (by have := HK.out.2; simp; omega) (fun j u hu => by
     obtain ⟨v, hv, ev⟩ := List.mem_map.1 (List.mem_of_getElem? hu)
     have hu2 := hu
     unfold strs at hu2
     rw [List.getElem?_map] at hu2
     have hj' : j < (low + st) - low := by
      rcases Nat.lt_or_ge j ((low + st) - low) with h | h
      ·exact h
      ·rw [List.getElem?_eq_none (by simp; omega)] at hu2; cases hu2
     rw [eM hj'] at hu2
     obtain ⟨kb', ko', ek, hc2⟩ := HK.out.1 (low + j) u (by unfold strs; rw [List.getElem?_map]; exact hu2)
     cases ek
     exact ⟨kb, ko + low, rfl, by rw [Nat.add_assoc]; exact hex.out.cell (H1.out.1.cell hc2 id) id⟩) (by omega))
    have HB := qH hbe.out
    clear hbe
    go_wp2_with (go_at_call 210; refine Halted.out ?_)
    clear hc k0
    rw [show (low + st - low) = st by omega] at HS
    try rw [show (min ((low : Int) + (st : Int)) (b : Int)).toNat - low = st by omega]
    refine Halted.mk ((HS.out _).mono ?_)
    rintro e w2 ⟨v, rfl, hk2, n, bb, rfl, hn, hs1, hs2⟩
    have HFin := qH (show fW K t a b (low + n) from uU (mm := low + st) hlo (by omega) hlt HB.out (.inr ⟨by omega, x, HX.out.1, HX.out.2⟩) (by omega) (by rw [show (low + st - low) = st by omega]; exact hs1) (by rw [show (low + st - low) = st by omega]; exact hs2))
    have HX2 := qH (H1.out.1.trans (hex.out.trans hk2))
    clear hs1 hs2 hk2
    go_wp2
    go_ret
    exact RetN.mk HX2.out ⟨low + n, rfl, HFin.out⟩
  ·have HB := qH hbe.out
   have HS := qH (fun (cp : Nat) => mE ((K.drop low).take (b - low)) t (some ⟨kb, ko + low, none⟩) (b - low) cp wr (by have := HK.out.2; simp; omega) (fun j u hu => by
    obtain ⟨v, hv, ev⟩ := List.mem_map.1 (List.mem_of_getElem? hu)
    have hu2 := hu
    unfold strs at hu2
    rw [List.getElem?_map] at hu2
    have hj' : j < b - low := by
     rcases Nat.lt_or_ge j (b - low) with h | h
     ·exact h
     ·rw [List.getElem?_eq_none (by simp; omega)] at hu2; cases hu2
    rw [eM hj'] at hu2
    obtain ⟨kb', ko', ek, hc2⟩ := HK.out.1 (low + j) u (by unfold strs; rw [List.getElem?_map]; exact hu2)
    cases ek
    exact ⟨kb, ko + low, rfl, by rw [Nat.add_assoc]; exact hex.out.cell (H1.out.1.cell hc2 id) id⟩) (by omega))
   clear hbe
   by_cases hlk : low < kc
   ·go_wp2_with (go_at_call 210; refine Halted.out ?_)
    try rw [show (min ((low : Int) + (st : Int)) (b : Int)).toNat - low = b - low by omega]
    refine Halted.mk ((HS.out _).mono ?_)
    rintro e w2 ⟨v, rfl, hk2, n, bb, rfl, hn, hs1, hs2⟩
    have HFin := qH (show fW K t a b (low + n) from uU (mm := b) hlo hhi (Nat.le_refl _) HB.out (.inl rfl) hn hs1 hs2)
    have HX2 := qH (H1.out.1.trans (hex.out.trans hk2))
    clear hs1 hs2 hk2
    go_wp2
    go_ret
    exact RetN.mk HX2.out ⟨low + n, rfl, HFin.out⟩
   ·have elb : low = b := by omega
    subst elb
    rw [Nat.sub_self] at HS
    have HS2 := qH (mE [] t (some ⟨kb, ko, none⟩) 0 0 wr rfl (CellsAt.nil _ _) (by omega))
    go_wp2_with (go_at_call 210; refine Halted.out ?_)
    try rw [show (min ((low : Int) + (st : Int)) (low : Int)).toNat - low = 0 by omega]
    refine Halted.mk ((HS2.out).mono ?_)
    rintro e w2 ⟨v, rfl, hk2, n, bb, rfl, hn, hs1, hs2⟩
    have hn0 : n = 0 := by omega
    subst hn0
    have HFin := qH (show fW K t a low (low + 0) from uU (mm := low) hlo (Nat.le_refl _) (Nat.le_refl _) HB.out (.inl rfl) (Nat.zero_le _) (fun x h => by omega) (fun x h => by rw [Nat.sub_self, List.take_zero] at h; simp at h))
    have HX2 := qH (H1.out.1.trans (hex.out.trans hk2))
    clear hs1 hs2 hk2
    go_wp2
    go_ret
    exact RetN.mk HX2.out ⟨low + 0, rfl, HFin.out⟩
set_option maxRecDepth 100000 in
set_option maxHeartbeats 4000000 in
theorem aG4 {w : World} {cb tb : Nat} {st : List (Nat × Nat)} {g c m a b d : Nat} {W : aD} {M : Nat -> Prop} (t : ByteArray) (h : CurIn w cb tb st g c m a b M) (ht : TrieAt w tb W d) (hm : m < d) (hab : a < b) (hb : b ≤ aQ W d m W.length) :
 Calls Tryz.prog 188 #[.pointer (some ⟨cb, 0, none⟩), .string t] w (RetF (fun k => k = g) w fun w' v => ∃ p : Nat, fW (bM W d m W.length) t a b p /\ v = .bool (decide (p ≠ b)) /\ CurIn w' cb tb (st.set m (p, b)) g c m p b M) := by
 have HL := qH (last_any h.at_)
 have HE := qH (fun (W : World) (hW : Ext w W) => fQ (h.ext hW))
 have HSk := qH (fun (W' : World) (hW : Ext w W') => aFr t (ht.ext hW) hm hab hb)
 have HC := qH h
 have hw := lU h.small
 have hd : decide (a = b) = false := decide_eq_false (by omega)
 rw [hd] at HE
 clear h hd ht
 go_enter Tryz.func188, Tryz.ntmps188
 go_wp2_with fail
 refine HL.out.mono ?_
 rintro e w1 ⟨v, rfl, hk, rfl⟩
 have hq := kT g (m * 2)
 have H1 := qH hk
 clear hk
 go_wp2_with (go_at_call 181; refine Halted.out ?_)
 refine Halted.mk ((HE.out w1 H1.out).mono ?_)
 rintro e w2 ⟨v, rfl, hk, rfl⟩
 have H2 := qH (H1.out.trans hk)
 clear hk H1
 have HJ := qH (show ∀ w', Ext w2 w' -> (fun w' : World => w'.cell? ⟨cb, 0, none⟩ = some (.pointer (some ⟨tb, 0, none⟩)) /\ w'.cell? ⟨cb, 1, none⟩ = some (.slice (some ⟨g, 0, none⟩) (m + 1) c) /\ w'.cell? ⟨g, m * 2, none⟩ = some (.int .i64 a) /\ w'.cell? ⟨g, m * 2 + 1, none⟩ = some (.int .i64 b) /\ w'.frozen? ⟨g, m * 2, none⟩ = false) w' from fun w' hw' => by
  have hc := HC.out.ext (H2.out.trans hw')
  obtain ⟨z0, z1, f0⟩ := hc.cells
  exact ⟨by rw [hc.at_.box.cell']; rfl, by rw [hc.at_.box.cell']; rfl, z0, z1, f0⟩)
 go_wp2
 refine aT (fun w' : World => w'.cell? ⟨cb, 0, none⟩ = some (.pointer (some ⟨tb, 0, none⟩)) /\ w'.cell? ⟨cb, 1, none⟩ = some (.slice (some ⟨g, 0, none⟩) (m + 1) c) /\ w'.cell? ⟨g, m * 2, none⟩ = some (.int .i64 a) /\ w'.cell? ⟨g, m * 2 + 1, none⟩ = some (.int .i64 b) /\ w'.frozen? ⟨g, m * 2, none⟩ = false) [18] (by kernel_rfl) (HJ.out _ (Kp.refl w2).drew) (fun hHeld => ?_)
 refine dF 0 ?_; try simp only [Act.put,sI,sZ,sS]
 refine dF 1 ?_; try simp only [Act.put,sI,sZ,sS]
 refine dF 2 ?_; try simp only [Act.put,sI,sZ,sS]
 refine dF 3 ?_; try simp only [Act.put,sI,sZ,sS]
 refine dI 4 ?_; try simp only [Act.put,sI,sZ,sS]
 refine dF 5 ?_; try simp only [Act.put,sI,sZ,sS]
 refine dF 6 ?_; try simp only [Act.put,sI,sZ,sS]
 refine dF 7 ?_; try simp only [Act.put,sI,sZ,sS]
 refine dI 8 ?_; try simp only [Act.put,sI,sZ,sS]
 refine dI 9 ?_; try simp only [Act.put,sI,sZ,sS]
 refine dF 10 ?_; try simp only [Act.put,sI,sZ,sS]
 refine dF 11 ?_; try simp only [Act.put,sI,sZ,sS]
 refine dF 12 ?_; try simp only [Act.put,sI,sZ,sS]
 refine dI 13 ?_; try simp only [Act.put,sI,sZ,sS]
 refine dF 14 ?_; try simp only [Act.put,sI,sZ,sS]
 refine aE (i := 15) ?_
 refine aF (i := 15) rfl (fun K hK => ?_)
 go_simp
 (refine (HSk.out _ (H2.out.trans ((Kp.refl w2).drew))).mono ?_; rintro e w3 ⟨v, rfl, hk3, p, rfl, hp⟩; have X3 := qH (show Ext w2 w3 from ((Kp.refl w2).drew).trans hk3); have HP := qH hp; clear hk3 hp)
 go_wp2_with fail
 refine hK.out _ _ ?_ (fun hHeld => ?_)
 ·(try dsimp only); (exact HJ.out _ X3.out)
 clear hK K; (try simp only [Act.put,sI,sZ,sS])
 refine dF 16 ?_; try simp only [Act.put,sI,sZ,sS]
 refine dF 17 ?_; try simp only [Act.put,sI,sZ,sS]
 refine aE (i := 18) ?_
 refine aI (i := 18) rfl (by kernel_rfl) (fun K hK => ?_)
 go_simp
 refine hK.out _ _ ?_
 clear hK K; (try simp only [Act.put,sI,sZ,sS])
 refine aK (by kernel_rfl) ?_ _
 clear hHeld hw
 obtain ⟨w4, e4⟩ : ∃ x, w3.setCell ⟨g, m * 2, none⟩ (.int .i64 p) = x := ⟨_, rfl⟩
 have hc4 : CurIn w4 cb tb (st.set m (p, b)) g c m p b M := by rw [<- e4]; exact (HC.out.ext (H2.out.trans X3.out)).put p
 have H4 := qH (And.intro hc4 (show Kp (fun k => k = g) w w4 from by rw [<- e4]; exact Kp.setCell (F := fun k => k = g) (p := ⟨g, m * 2, none⟩) (Ext.kp (H2.out.trans X3.out)) (fun _ => rfl) _))
 have HE4 := qH (fQ hc4)
 rw [e4]
 clear hc4 e4
 go_wp2_with fail
 refine HE4.out.mono ?_
 rintro e w5 ⟨v, rfl, hk, rfl⟩
 have H5 := qH (And.intro (H4.out.1.ext hk) (H4.out.2.ext hk))
 clear hk
 by_cases he : p = b
 ·rw [decide_eq_true he]
  have HE5 := qH (show decide (p ≠ b) = false from decide_eq_false fun h => h he)
  clear he
  go_wp2
  go_ret
  exact RetF.mk H5.out.2 ⟨p, HP.out, by rw [HE5.out]; rfl, H5.out.1⟩
 ·rw [decide_eq_false he]
  have HE5 := qH (show decide (p ≠ b) = true from decide_eq_true he)
  clear he
  go_wp2
  go_ret
  exact RetF.mk H5.out.2 ⟨p, HP.out, by rw [HE5.out]; rfl, H5.out.1⟩
end Go.Proofs.YtinnmeiphbdogaaGreat
/- The followers of a place; Open. -/
namespace Go.Proofs.YtinnmeiphbdogaaGreat
open Go.RowKit Go.Shelf
set_option maxHeartbeats 1000000 in
theorem aI9 {w : World} {cb tb : Nat} {st : List (Nat × Nat)} {ao : Option Addr} {n c : Nat} {M : Nat -> Prop} (h : CurAt w cb tb st (.slice ao n c) M) :
 Calls Tryz.prog 182 #[.pointer (some ⟨cb, 0, none⟩)] w (RetN w fun w' v => v = .int .i64 n) := by
 have hq := mZ cb
 have c1 : w.cell? ⟨cb, 1, none⟩ = some (.slice ao n c) := by rw [h.box.cell']; rfl
 clear h
 go_enter Tryz.func182, Tryz.ntmps182
 go_wp2
 go_ret
 exact RetN.mk (Kp.refl _) rfl
set_option maxRecDepth 100000 in
set_option maxHeartbeats 4000000 in
theorem aHb {w : World} {tb : Nat} {W : aD} {d i k f t : Nat} (h : TrieAt w tb W d) (hi : i < d) (hf : (bU W d i W.length ++ [(aQ W d (i + 1) W.length : Int)])[k]? = some ((f : Nat) : Int)) (ht : (bU W d i W.length ++ [(aQ W d (i + 1) W.length : Int)])[k + 1]? = some ((t : Nat) : Int)) :
 Calls Tryz.prog 186 #[.pointer (some ⟨tb, 0, none⟩), .int .i64 i, .int .i64 k] w (RetN w fun w' v => v = .agg #[.int .i64 f, .int .i64 t]) := by
 have hfew := h.few
 obtain ⟨⟨la, lc, t0, -, -, hlev⟩, -, -⟩ := h
 obtain ⟨bl, ol, ela, hL⟩ := hlev i hi
 subst ela
 obtain ⟨ka, kc, fa, fc, -, l1, -, -, hf1⟩ := hL.ex
 have hkl := (List.getElem?_eq_some_iff.1 ht).1
 rw [List.length_append, gB, List.length_singleton] at hkl
 have hwl := cU W d i W.length
 obtain ⟨fb, fo, efa, k0⟩ := hf1 k (.int .i64 f) (by unfold ints; rw [List.getElem?_map, hf]; rfl)
 obtain ⟨fb', fo', efa', k1⟩ := hf1 (k + 1) (.int .i64 t) (by unfold ints; rw [List.getElem?_map, ht]; rfl)
 subst efa
 cases efa'
 obtain ⟨nk, enk⟩ : ∃ n, aQ W d i W.length = n := ⟨_, rfl⟩
 have hnk : nk ≤ 1048576 := by unfold aQ at enk; omega
 rw [enk] at l1 hkl
 have hw : IntKind.i64.wrap ((k : Int) + 1) = (k : Int) + 1 := IntWalk.i64_in _ (by omega)
 have hk1 : k < nk + 1 := by omega
 have hk5 : (k : Int) < (nk : Int) + 1 := by omega
 have hk6 : k < nk := by omega
 have hk7 : k ≤ nk := by omega
 have hk8 : (k : Int) < ((nk + 1 : Nat) : Int) := by omega
 have hk2 : (0 : Int) ≤ (k : Int) + 1 := by omega
 have hk3 : (k : Int) + 1 < ((nk + 1 : Nat) : Int) := by omega
 have hk4 : ((k : Int) + 1).toNat = k + 1 := by omega
 clear hf ht hlev hL hf1 hwl enk hfew
 go_enter Tryz.func186, Tryz.ntmps186
 obtain ⟨w1, e1⟩ : ∃ w1, w.alloc (.cells #[.int .i64 0, .int .i64 0] 249) = w1 := ⟨_, rfl⟩
 obtain ⟨g0, eg0⟩ : ∃ g, w.heap.size = g := ⟨_, rfl⟩
 have hB : Blk w1 g0 [.int .i64 0, .int .i64 0] 249 := by rw [<- e1, <- eg0]; exact Blk.new w _ _
 have hx1 : Ext w w1 := by rw [<- e1]; exact (Kp.refl w).alloc _
 have s0 : w1.cell? ⟨g0, 0, none⟩ = some (.int .i64 0) := by rw [hB.cell']; rfl
 have s1 : w1.cell? ⟨g0, 1, none⟩ = some (.int .i64 0) := by rw [hB.cell']; rfl
 have f0 := hB.free 0
 have f1 := hB.free 1
 replace t0 := hx1.cell t0 id
 replace l1 := hx1.cell l1 id
 replace k0 := hx1.cell k0 id
 replace k1 := hx1.cell k1 id
 have H1 := qH (And.intro hx1 (And.intro hB eg0))
 clear hx1 hB
 go_wp2
 go_still_tail 24, (by kernel_rfl)
 go_wp2
 generalize hw9 : World.setCell (World.setCell _ _ _) _ _ = w9
 have hD : Blk w9 g0 [.int .i64 f, .int .i64 t] 249 := by rw [<- hw9]; exact (H1.out.2.1.set 0 _).set 1 _
 have hk9 : Ext w w9 := by
  rw [<- hw9]
  have h := H1.out.2.2
  exact Kp.setCell (p := ⟨g0, 1, none⟩) (Kp.setCell (p := ⟨g0, 0, none⟩) H1.out.1 (fun h2 => by have h3 : g0 < w.heap.size := h2; omega) _) (fun h2 => by have h3 : g0 < w.heap.size := h2; omega) _
 have r0 : w9.drew.cell? ⟨g0, 0, none⟩ = some (.int .i64 f) := by rw [(hD.ext ((Kp.refl w9).drew)).cell']; rfl
 have r1 : w9.drew.cell? ⟨g0, 1, none⟩ = some (.int .i64 t) := by rw [(hD.ext ((Kp.refl w9).drew)).cell']; rfl
 clear hw9
 refine bodyPost_ret (v := .agg #[.int .i64 f, .int .i64 t]) (by simp [results, Tryz.results186, go_sem, r0, r1]) rfl ?_
 exact RetN.mk hk9.drew rfl
theorem gZ {P : Program} {t e : TypeId} {k bytes : Nat} {z : Value} (E : cO P t e k bytes z) {l : List Oper} {a : Act} {w : World} {Q : Exit -> Act -> World -> Prop} {o : Oper} {K : Act -> World -> Prop} {El : Prop} (hgd : o.guard = none) (s x : Operand)
 (ho : o.op = .call { callee := .builtin .append, args := #[s, x], argTypes := #[t, t] })
 {v : Value} {n : Nat} {xs : List Value} {M : Nat -> Prop} (hs : a.eval s = v) (hr : Row w e k v n xs M)
 {ao : Option Addr} {m c : Nat} {news : List Value} (hx : a.eval x = .slice ao m c) (hsrc : CellsAt w ao news) (hl : news.length = m * k) (h1 : ∀ u ∈ news, u.oneCell' = true)
 (hb : (n + m) * bytes ≤ 140737488355328) (h63 : n + m ≤ maxLen)
 (h : ∀ v' w', Row w' e k v' (n + m) (xs ++ news) (fun g => v.ownBlock = some g \/ w.heap.size ≤ g) -> Kp (fun g => v.ownBlock = some g) w w' -> K (a.put o.dst v') w') :
 if Region.wanted o (yielded l.toArray a.tmps) = true then Oper.wp P o a w K Q else El := by
 obtain ⟨v', w', hrun, h2, h3, h4⟩ := nR (P := P) E o.type hr hl hsrc h1 hb h63 (c := c)
 exact aB0 hgd s x ho hs hx hrun (h v' w' h2 h3)
theorem nS {w : World} {e : TypeId} {k : Nat} {v : Value} {n : Nat} {xs : List Value} {M : Nat -> Prop} (h : Row w e k v n xs M) (hn : 0 < n) : ∃ g c, v = .slice (some ⟨g, 0, none⟩) n c /\ M g := by
 obtain ⟨h1, ⟨e1, h0⟩ | ⟨g', cap, rest, e1, hM, _⟩⟩ := h
 ·omega
 ·exact ⟨g', cap, e1, hM⟩
theorem xP : cO Tryz.prog 216 249 2 16 (.agg #[.int .i64 0, .int .i64 0]) := ⟨by kernel_rfl, by kernel_rfl, rfl, by decide⟩
set_option maxRecDepth 100000 in
set_option maxHeartbeats 4000000 in
theorem open_any {w : World} {cb tb : Nat} {st : List (Nat × Nat)} {g c m a b d f t : Nat} {W : aD} {M : Nat -> Prop} (h : CurIn w cb tb st g c m a b M) (ht : TrieAt w tb W d) (hab : a ≠ b) (hm : m + 1 < d) (hW : 0 < W.length)
 (hf : (bU W d m W.length ++ [(aQ W d (m + 1) W.length : Int)])[a]? = some ((f : Nat) : Int)) (hto : (bU W d m W.length ++ [(aQ W d (m + 1) W.length : Int)])[a + 1]? = some ((t : Nat) : Int)) :
 Calls Tryz.prog 157 #[.pointer (some ⟨cb, 0, none⟩)] w (RetF (fun k => k = cb \/ k = g) w fun w' v => v = .bool true /\ ∃ g' c', CurAt w' cb tb (st ++ [(f, t)]) (.slice (some ⟨g', 0, none⟩) (m + 2) c') (fun k => k = g \/ w.heap.size ≤ k)) := by
 have HE := qH (fun (W : World) (hW : Ext w W) => fQ (h.ext hW))
 have HA := qH (fun (W : World) (hW : Ext w W) => aI9 (h.at_.ext hW))
 have HD := qH (fun (W' : World) (hW : Ext w W') => xR (ht.ext hW))
 have HLn := qH (fun (W' : World) (hW : Ext w W') => len_any (ht.ext hW))
 have hd : decide (a = b) = false := decide_eq_false hab
 rw [hd] at HE
 have hq := mZ cb
 have HJ := qH (show ∀ w', Ext w w' -> (fun w' : World => w'.cell? ⟨cb, 0, none⟩ = some (.pointer (some ⟨tb, 0, none⟩))) w' from fun w' hw' => by
  show w'.cell? ⟨cb, 0, none⟩ = some (.pointer (some ⟨tb, 0, none⟩))
  rw [(h.at_.box.ext hw').cell']; rfl)
 have HC := qH h
 have HL := qH (fun (W : World) (hW : Ext w W) => last_any (h.at_.ext hW))
 have HBl := qH (fun (W' : World) (hW : Ext w W') => aHb (ht.ext hW) (by omega) hf hto)
 have HT := qH ht
 have c0 := HJ.out w (Kp.refl _)
 have hwl := lU h.small
 have e1 : ((m : Int) + 1 == (d : Int)) = false := by
  have : ¬ (m : Int) + 1 = d := by omega
  simp [this]
 obtain ⟨nw, enw⟩ : ∃ n, W.length = n := ⟨_, rfl⟩
 have e2 : ((nw : Int) == 0) = false := by
  have hz : ¬ (nw : Int) = 0 := by omega
  have hz2 : ¬ nw = 0 := by omega
  simp [hz2]
 rw [enw] at HLn
 clear h hd
 go_enter Tryz.func157, Tryz.ntmps157
 go_wp2
 refine aT (fun w' : World => w'.cell? ⟨cb, 0, none⟩ = some (.pointer (some ⟨tb, 0, none⟩))) [] (by kernel_rfl) (HJ.out _ (Kp.refl w).drew) (fun hHeld => ?_)
 refine dF 0 ?_; try simp only [Act.put,sI,sZ,sS]
 refine dF 1 ?_; try simp only [Act.put,sI,sZ,sS]
 refine dF 2 ?_; try simp only [Act.put,sI,sZ,sS]
 (first | (refine dF 3 ?_) | (refine dO 3 ?_)); (try simp only [Act.put,sI,sZ,sS])
 refine aE (i := 4) ?_
 refine aF (i := 4) rfl (fun K hK => ?_)
 go_simp
 (refine (HE.out _ (Kp.refl w).drew).mono ?_; rintro e w1 ⟨v, rfl, hk1, rfl⟩; have X1 := qH (show Ext w w1 from ((Kp.refl w).drew).trans hk1); clear hk1)
 go_wp2_with fail
 refine hK.out _ _ ?_ (fun hHeld => ?_)
 ·(try dsimp only); (exact HJ.out _ X1.out)
 clear hK K; (try simp only [Act.put,sI,sZ,sS])
 refine dF 5 ?_; try simp only [Act.put,sI,sZ,sS]
 refine dF 6 ?_; try simp only [Act.put,sI,sZ,sS]
 (first | (refine dF 7 ?_) | (refine dO 7 ?_)); (try simp only [Act.put,sI,sZ,sS])
 (first | (refine dF 9 ?_) | (refine dO 9 ?_)); (try simp only [Act.put,sI,sZ,sS])
 (first | (refine dF 10 ?_) | (refine dO 10 ?_)); (try simp only [Act.put,sI,sZ,sS])
 (first | (refine dF 11 ?_) | (refine dO 11 ?_)); (try simp only [Act.put,sI,sZ,sS])
 (first | (refine dI 12 ?_) | (refine dO 12 ?_)); (try simp only [Act.put,sI,sZ,sS])
 refine aE (i := 8) ?_
 refine aF (i := 8) rfl (fun K hK => ?_)
 go_simp
 (refine (HA.out _ X1.out).mono ?_; rintro e w2 ⟨v, rfl, hk2, rfl⟩; have X2 := qH (show Ext w w2 from X1.out.trans hk2); clear hk2)
 go_wp2_with fail
 refine hK.out _ _ ?_ (fun hHeld => ?_)
 ·(try dsimp only); (exact HJ.out _ X2.out)
 clear hK K; (try simp only [Act.put,sI,sZ,sS])
 refine aE (i := 13) ?_
 refine aF (i := 13) rfl (fun K hK => ?_)
 go_simp
 (refine (HD.out _ X2.out).mono ?_; rintro e w3 ⟨v, rfl, hk3, rfl⟩; have X3 := qH (show Ext w w3 from X2.out.trans hk3); clear hk3)
 go_wp2_with fail
 refine hK.out _ _ ?_ (fun hHeld => ?_)
 ·(try dsimp only); (exact HJ.out _ X3.out)
 clear hK K; (try simp only [Act.put,sI,sZ,sS])
 (first | (refine dF 14 ?_) | (refine dO 14 ?_)); (try simp only [Act.put,sI,sZ,sS])
 refine dF 15 ?_; try simp only [Act.put,sI,sZ,sS]
 refine dF 16 ?_; try simp only [Act.put,sI,sZ,sS]
 (first | (refine dF 17 ?_) | (refine dO 17 ?_)); (try simp only [Act.put,sI,sZ,sS])
 (first | (refine dF 18 ?_) | (refine dO 18 ?_)); (try simp only [Act.put,sI,sZ,sS])
 (first | (refine dF 19 ?_) | (refine dO 19 ?_)); (try simp only [Act.put,sI,sZ,sS])
 (first | (refine dI 20 ?_) | (refine dO 20 ?_)); (try simp only [Act.put,sI,sZ,sS])
 refine aE (i := 21) ?_
 refine aF (i := 21) rfl (fun K hK => ?_)
 go_simp
 (refine (HLn.out _ X3.out).mono ?_; rintro e w4 ⟨v, rfl, hk4, rfl⟩; have X4 := qH (show Ext w w4 from X3.out.trans hk4); clear hk4)
 go_wp2_with fail
 refine hK.out _ _ ?_ (fun hHeld => ?_)
 ·(try dsimp only); (exact HJ.out _ X4.out)
 clear hK K; (try simp only [Act.put,sI,sZ,sS])
 (first | (refine dF 22 ?_) | (refine dO 22 ?_)); (try simp only [Act.put,sI,sZ,sS])
 refine dF 23 ?_; try simp only [Act.put,sI,sZ,sS]
 refine aK (by kernel_rfl) ?_ _
 clear hHeld c0 e1 e2
 obtain ⟨⟨la, lc, t0, -, -, hlev⟩, -, -⟩ := HT.out.ext X4.out
 obtain ⟨bl, ol, ela, hL⟩ := hlev 0 (by omega)
 subst ela
 obtain ⟨ka, kc, fa, fc, l0, -, -, -, -⟩ := hL.ex
 rw [Nat.zero_mul, Nat.add_zero] at l0
 generalize aQ W d 0 W.length = nk at l0
 have c0 := HJ.out w4 X4.out
 have hd0 : 0 < d := by omega
 clear hL hlev hf hto
 obtain ⟨w5, e5⟩ : ∃ w5, w4.alloc (.cells #[.int .i64 0, .int .i64 0] 249) = w5 := ⟨_, rfl⟩
 obtain ⟨g5, eg5⟩ : ∃ g, w4.heap.size = g := ⟨_, rfl⟩
 have hB5 : Blk w5 g5 [.int .i64 0, .int .i64 0] 249 := by rw [<- e5, <- eg5]; exact Blk.new w4 _ _
 have hx5 : Ext w4 w5 := by rw [<- e5]; exact (Kp.refl w4).alloc _
 have s0 : w5.cell? ⟨g5, 0, none⟩ = some (.int .i64 0) := by rw [hB5.cell']; rfl
 have s1 : w5.cell? ⟨g5, 1, none⟩ = some (.int .i64 0) := by rw [hB5.cell']; rfl
 have f0 := hB5.free 0
 have f1 := hB5.free 1
 obtain ⟨w6, e6⟩ : ∃ x, (w5.setCell ⟨g5, 0, none⟩ (.int .i64 0)).setCell ⟨g5, 1, none⟩ (.int .i64 nk) = x := ⟨_, rfl⟩
 have hB6 : Blk w6 g5 [.int .i64 0, .int .i64 nk] 249 := by rw [<- e6]; exact (hB5.set 0 _).set 1 _
 have hx6 : Ext w w6 := by
  rw [<- e6]
  have h1 := X4.out.size
  exact Kp.setCell (p := ⟨g5, 1, none⟩) (Kp.setCell (p := ⟨g5, 0, none⟩) (X4.out.trans hx5) (fun h2 => by have h3 : g5 < w.heap.size := h2; omega) _) (fun h2 => by have h3 : g5 < w.heap.size := h2; omega) _
 have H6 := qH (And.intro hx6 (And.intro hB6 (show w.heap.size ≤ g5 by have h1 := X4.out.size; omega)))
 clear hB5 hx5 hB6 hx6
 go_wp2_with fail
 refine (HL.out w6 H6.out.1).mono ?_
 rintro e w7 ⟨v, rfl, hk7, rfl⟩
 have H7 := qH (And.intro (H6.out.1.trans hk7) (H6.out.2.1.ext hk7))
 have hq2 := wJ g (m * 2)
 have HJ7 := qH (show ∀ w', Ext w7 w' -> (fun w' : World => w'.cell? ⟨cb, 0, none⟩ = some (.pointer (some ⟨tb, 0, none⟩)) /\ w'.cell? ⟨cb, 1, none⟩ = some (.slice (some ⟨g, 0, none⟩) (m + 1) c) /\ w'.cell? ⟨g, m * 2, none⟩ = some (.int .i64 a)) w' from fun w' hw' => by
  have hc := HC.out.ext (H7.out.1.trans hw')
  obtain ⟨z0, z1, -⟩ := hc.cells
  exact ⟨by rw [hc.at_.box.cell']; rfl, by rw [hc.at_.box.cell']; rfl, z0⟩)
 clear hk7 e5 e6 eg5 s0 s1 f0 f1 c0 t0 l0 hd0
 go_wp2
 refine aT (fun w' : World => w'.cell? ⟨cb, 0, none⟩ = some (.pointer (some ⟨tb, 0, none⟩)) /\ w'.cell? ⟨cb, 1, none⟩ = some (.slice (some ⟨g, 0, none⟩) (m + 1) c) /\ w'.cell? ⟨g, m * 2, none⟩ = some (.int .i64 a)) [15] (by kernel_rfl) (HJ7.out _ (Kp.refl w7).drew) (fun hHeld => ?_)
 refine dF 0 ?_; try simp only [Act.put,sI,sZ,sS]
 refine dF 1 ?_; try simp only [Act.put,sI,sZ,sS]
 refine dF 2 ?_; try simp only [Act.put,sI,sZ,sS]
 refine dI 3 ?_; try simp only [Act.put,sI,sZ,sS]
 refine dF 4 ?_; try simp only [Act.put,sI,sZ,sS]
 refine dF 5 ?_; try simp only [Act.put,sI,sZ,sS]
 refine dF 6 ?_; try simp only [Act.put,sI,sZ,sS]
 refine dI 7 ?_; try simp only [Act.put,sI,sZ,sS]
 refine dI 8 ?_; try simp only [Act.put,sI,sZ,sS]
 refine dF 9 ?_; try simp only [Act.put,sI,sZ,sS]
 refine dF 10 ?_; try simp only [Act.put,sI,sZ,sS]
 refine dF 11 ?_; try simp only [Act.put,sI,sZ,sS]
 refine dF 12 ?_; try simp only [Act.put,sI,sZ,sS]
 refine dI 13 ?_; try simp only [Act.put,sI,sZ,sS]
 refine aE (i := 14) ?_
 refine aF (i := 14) rfl (fun K hK => ?_)
 go_simp
 (refine (HBl.out _ (H7.out.1.trans ((Kp.refl w7).drew))).mono ?_; rintro e w8 ⟨v, rfl, hk8, rfl⟩; have X8 := qH (show Ext w7 w8 from ((Kp.refl w7).drew).trans hk8); have s0 : w8.cell? ⟨g5, 0, none⟩ = some (.int .i64 0) := (by rw [(H7.out.2.ext X8.out).cell']; rfl); have s1 : w8.cell? ⟨g5, 1, none⟩ = some (.int .i64 nk) := (by rw [(H7.out.2.ext X8.out).cell']; rfl); have f0 := (H7.out.2.ext X8.out).free 0; have f1 := (H7.out.2.ext X8.out).free 1; clear hk8)
 go_wp2_with fail
 refine hK.out _ _ ?_ (fun hHeld => ?_)
 ·(try dsimp only); (exact HJ7.out _ X8.out)
 clear hK K; (try simp only [Act.put,sI,sZ,sS])
 refine aE (i := 15) ?_
 refine aI (i := 15) rfl (by kernel_rfl) (fun K hK => ?_)
 go_simp
 refine hK.out _ _ ?_
 clear hK K; (try simp only [Act.put,sI,sZ,sS])
 refine aK (by kernel_rfl) ?_ _
 clear hHeld
 obtain ⟨w9, e9⟩ : ∃ x, (w8.setCell ⟨g5, 0, none⟩ (.int .i64 f)).setCell ⟨g5, 1, none⟩ (.int .i64 t) = x := ⟨_, rfl⟩
 rw [e9]
 have hB9 : Blk w9 g5 [.int .i64 f, .int .i64 t] 249 := by rw [<- e9]; exact ((H7.out.2.ext X8.out).set 0 _).set 1 _
 have hx9 : Ext w w9 := by
  rw [<- e9]
  have h1 := H6.out.2.2
  exact Kp.setCell (p := ⟨g5, 1, none⟩) (Kp.setCell (p := ⟨g5, 0, none⟩) (H7.out.1.trans X8.out) (fun h2 => by have h3 : g5 < w.heap.size := h2; omega) _) (fun h2 => by have h3 : g5 < w.heap.size := h2; omega) _
 have hc9 := HC.out.ext hx9
 have hl9 := hc9.len
 have hr9 := hc9.at_.row
 rw [hl9] at hr9
 have hmx := hc9.small
 have hap := hc9.at_.apart
 have HR9 := qH (And.intro hr9 (And.intro hap (And.intro hx9 (And.intro hl9 hB9))))
 have HJ9 := qH (show ∀ w', Ext w9 w' -> (fun w' : World => w'.cell? ⟨cb, 1, none⟩ = some (.slice (some ⟨g, 0, none⟩) (m + 1) c) /\ w'.cell? ⟨g5, 0, none⟩ = some (.int .i64 f) /\ w'.cell? ⟨g5, 1, none⟩ = some (.int .i64 t)) w' from fun w' hw' => by
  have hc := HC.out.ext (HR9.out.2.2.1.trans hw')
  have hb := HR9.out.2.2.2.2.ext hw'
  exact ⟨by rw [hc.at_.box.cell']; rfl, by rw [hb.cell']; rfl, by rw [hb.cell']; rfl⟩)
 have hcb := hc9.at_.box
 have HCB := qH hcb
 clear hB9 hx9 hc9 hl9 hr9 hap hcb e9 s0 s1 f0 f1
 go_wp2
 refine aT (fun w' : World => w'.cell? ⟨cb, 1, none⟩ = some (.slice (some ⟨g, 0, none⟩) (m + 1) c) /\ w'.cell? ⟨g5, 0, none⟩ = some (.int .i64 f) /\ w'.cell? ⟨g5, 1, none⟩ = some (.int .i64 t)) [7, 8, 9, 10] (by kernel_rfl) (HJ9.out _ (Kp.refl w9).drew) (fun hHeld => ?_)
 refine dF 0 ?_; try simp only [Act.put,sI,sZ,sS]
 refine dF 1 ?_; try simp only [Act.put,sI,sZ,sS]
 refine dF 2 ?_; try simp only [Act.put,sI,sZ,sS]
 refine dF 3 ?_; try simp only [Act.put,sI,sZ,sS]
 refine dI 4 ?_; try simp only [Act.put,sI,sZ,sS]
 refine dI 5 ?_; try simp only [Act.put,sI,sZ,sS]
 refine aE (i := 6) ?_
 refine aF (i := 6) rfl (fun K hK => ?_)
 go_simp
 refine hK.out _ _ ?_ (fun hHeld => ?_)
 ·(try dsimp only); (exact HJ9.out _ (by first | exact ((Kp.refl w9).alloc _).drew | exact (Kp.refl w9).drew.alloc _))
 clear hK K; (try simp only [Act.put,sI,sZ,sS])
 refine aE (i := 7) ?_
 refine aI (i := 7) rfl (by kernel_rfl) (fun K hK => ?_)
 refine gZ (m := 1) (n := m + 1) xP rfl _ _ rfl rfl ((HR9.out.1.alloc _).drew) rfl ((CellsAt.two w9 (.int .i64 f) (.int .i64 t) 249).ext ((Kp.refl _).drew)) (by rfl) (by simp [Value.oneCell']) (by have := HT.out.dep; omega) (by have := HT.out.dep; unfold maxLen; omega) ?_; intro v10 w10 hr10 hk10; obtain ⟨g10, c10, e10, hM10⟩ := nS hr10 (by omega); subst e10; have HB10 := qH (show Blk w10 cb [.pointer (some ⟨tb, 0, none⟩), .slice (some ⟨g, 0, none⟩) (m + 1) c] 218 from ((HCB.out.alloc _).ext ((Kp.refl _).drew)).kp hk10 (fun h2 => HR9.out.2.1.1 (by have h3 : some g = some cb := h2; exact (Option.some.inj h3).symm))); have HR10 := qH (And.intro hr10 hk10); have y1 : w10.cell? ⟨cb, 1, none⟩ = some (.slice (some ⟨g, 0, none⟩) (m + 1) c) := (by rw [HB10.out.cell']; rfl); have yf := HB10.out.free 1; clear hr10 hk10 hM10
 refine hK.out _ _ ?_
 clear hK K; (try simp only [Act.put,sI,sZ,sS])
 refine aE (i := 8) ?_
 refine aI (i := 8) rfl (by kernel_rfl) (fun K hK => ?_)
 go_simp
 refine hK.out _ _ ?_
 clear hK K; (try simp only [Act.put,sI,sZ,sS])
 refine aE (i := 9) ?_
 refine aI (i := 9) rfl (by kernel_rfl) (fun K hK => ?_)
 go_simp
 refine hK.out _ _ ?_
 clear hK K; (try simp only [Act.put,sI,sZ,sS])
 refine aE (i := 10) ?_
 refine aI (i := 10) rfl (by kernel_rfl) (fun K hK => ?_)
 go_simp
 refine hK.out _ _ ?_
 clear hK K; (try simp only [Act.put,sI,sZ,sS])
 refine aK (by kernel_rfl) ?_ _
 clear hHeld y1 yf
 obtain ⟨w11, e11⟩ : ∃ x, w10.setCell ⟨cb, 1, none⟩ (.slice (some ⟨g10, 0, none⟩) (m + 1 + 1) c10) = x := ⟨_, rfl⟩
 rw [e11]
 have hks : Kp (fun k => k = cb) w10 w11 := by rw [<- e11]; exact Kp.setCell (F := fun k => k = cb) (p := ⟨cb, 1, none⟩) (Kp.refl w10) (fun _ => rfl) _
 have hbx : Blk w11 cb [.pointer (some ⟨tb, 0, none⟩), .slice (some ⟨g10, 0, none⟩) (m + 1 + 1) c10] 218 := by rw [<- e11]; exact HB10.out.set 1 _
 have hpool : ∀ k, ((Value.slice (some ⟨g, 0, none⟩) (m + 1) c).ownBlock = some k \/ (w9.alloc (.cells #[.int .i64 f, .int .i64 t] 249)).drew.heap.size ≤ k) -> k = g \/ w.heap.size ≤ k := fun k hk => by
  rcases hk with hk | hk
  ·have h3 : some g = some k := hk
   exact .inl (Option.some.inj h3).symm
  ·refine .inr ?_
   have h4 := HR9.out.2.2.1.size
   have h5 : (w9.alloc (.cells #[.int .i64 f, .int .i64 t] 249)).heap.size ≤ k := hk
   rw [aJ] at h5
   omega
 have hrw : Row w11 249 2 (.slice (some ⟨g10, 0, none⟩) (m + 1 + 1) c10) (st ++ [(f, t)]).length ((st ++ [(f, t)]).flatMap iO) (fun k => k = g \/ w.heap.size ≤ k) := by
  have e1 : (st ++ [(f, t)]).length = m + 1 + 1 := by rw [List.length_append, HR9.out.2.2.2.1]; rfl
  have e2 : (st ++ [(f, t)]).flatMap iO = st.flatMap iO ++ [.int .i64 f, .int .i64 t] := by rw [List.flatMap_append]; rfl
  rw [e1, e2]
  refine (HR10.out.1.mono hpool).kp' hks fun g' hg _ e => ?_
  have h3 : some g10 = some g' := hg
  have h4 := Option.some.inj h3
  obtain ⟨cs, hb⟩ : ∃ cs, Blk w10 g10 cs 249 := by
   obtain ⟨_, ⟨e1, h0⟩ | ⟨g', cap, rest, e1, hM, hB, _⟩⟩ := HR10.out.1
   ·omega
   ·simp only [Value.slice.injEq, Option.some.injEq, Addr.mk.injEq, and_true] at e1
    obtain ⟨rfl, _⟩ := e1
    exact ⟨_, hB⟩
  rw [h4, e] at hb
  exact qP (aM HB10.out hb)
 have hkF : Kp (fun k => k = cb \/ k = g) w w11 := by
  have h1 : Kp (fun k => k = cb \/ k = g) w w10 := (Ext.kp ((HR9.out.2.2.1.alloc (.cells #[.int .i64 f, .int .i64 t] 249)).drew)).trans' HR10.out.2 fun k _ hk => by
   have h3 : some g = some k := hk
   exact .inr (Option.some.inj h3).symm
  exact h1.trans' hks fun k _ hk => .inl hk
 have HFin := qH (And.intro hbx (And.intro hrw hkF))
 clear e11 hks hbx hpool hrw hkF
 go_wp2
 go_ret
 exact RetF.mk HFin.out.2.2 ⟨rfl, g10, c10, HFin.out.1, HFin.out.2.1⟩
end Go.Proofs.YtinnmeiphbdogaaGreat
/- Open of a cursor at the start. -/
namespace Go.Proofs.YtinnmeiphbdogaaGreat
open Go.RowKit Go.Shelf
theorem aP {w : World} {e : TypeId} {k : Nat} {v : Value} {n : Nat} {xs : List Value} {M : Nat -> Prop} (h : Row w e k v n xs M) {g : Nat} (hg : v.ownBlock = some g) : ∃ cs, Blk w g cs e := by
 obtain ⟨_, ⟨e1, _⟩ | ⟨g', cap, rest, e1, hM, hB, _⟩⟩ := h
 ·rw [e1] at hg; cases hg
 ·rw [e1] at hg; cases hg; exact ⟨_, hB⟩
set_option maxHeartbeats 1000000 in
theorem aEh {w : World} {cb tb : Nat} {ao : Option Addr} {c : Nat} {M : Nat -> Prop} (h : CurAt w cb tb [] (.slice ao 0 c) M) :
 Calls Tryz.prog 181 #[.pointer (some ⟨cb, 0, none⟩)] w (RetN w fun w' v => v = .bool false) := by
 have HL := qH (last_none h)
 clear h
 go_enter Tryz.func181, Tryz.ntmps181
 go_wp2_with fail
 refine HL.out.mono ?_
 rintro e w1 ⟨v, rfl, hk, rfl⟩
 have hq : ∀ w : World, (binOp .neq 250 (.pointer none) (.pointer none)).run Tryz.prog w = .ok (.bool false) w := fun _ => by kernel_rfl
 have HK := qH hk
 clear hk
 go_wp2
 go_quiet (fail)
 go_wp2
 go_ret
 exact RetN.mk (HK.out.drewN _) rfl
set_option maxRecDepth 100000 in
set_option maxHeartbeats 4000000 in
theorem aId {w : World} {cb tb : Nat} {ao : Option Addr} {c d : Nat} {W : aD} {M : Nat -> Prop} (h : CurAt w cb tb [] (.slice ao 0 c) M) (ht : TrieAt w tb W d) (hm : 0 < d) (hW : 0 < W.length) :
 Calls Tryz.prog 157 #[.pointer (some ⟨cb, 0, none⟩)] w (RetF (fun k => k = cb \/ (Value.slice ao 0 c).ownBlock = some k) w fun w' v => v = .bool true /\ ∃ g' c', CurAt w' cb tb [(0, aQ W d 0 W.length)] (.slice (some ⟨g', 0, none⟩) 1 c') (fun k => (Value.slice ao 0 c).ownBlock = some k \/ w.heap.size ≤ k)) := by
 have HE := qH (fun (W : World) (hW : Ext w W) => aEh (h.ext hW))
 have HA := qH (fun (W : World) (hW : Ext w W) => aI9 (h.ext hW))
 have HD := qH (fun (W' : World) (hW : Ext w W') => xR (ht.ext hW))
 have HLn := qH (fun (W' : World) (hW : Ext w W') => len_any (ht.ext hW))
 have hq := mZ cb
 have HJ := qH (show ∀ w', Ext w w' -> (fun w' : World => w'.cell? ⟨cb, 0, none⟩ = some (.pointer (some ⟨tb, 0, none⟩))) w' from fun w' hw' => by
  show w'.cell? ⟨cb, 0, none⟩ = some (.pointer (some ⟨tb, 0, none⟩))
  rw [(h.box.ext hw').cell']; rfl)
 have HC := qH h
 have HL := qH (fun (W : World) (hW : Ext w W) => last_none (h.ext hW))
 have HT := qH ht
 have c0 := HJ.out w (Kp.refl _)
 have e1 : ((0 : Int) == (d : Int)) = false := by
  have : ¬ (0 : Int) = d := by omega
  simp [this]
 obtain ⟨nw, enw⟩ : ∃ n, W.length = n := ⟨_, rfl⟩
 have e2 : ((nw : Int) == 0) = false := by
  have hz : ¬ (nw : Int) = 0 := by omega
  have hz2 : ¬ nw = 0 := by omega
  simp [hz2]
 rw [enw] at HLn
 clear h
 go_enter Tryz.func157, Tryz.ntmps157
 go_wp2
 refine aT (fun w' : World => w'.cell? ⟨cb, 0, none⟩ = some (.pointer (some ⟨tb, 0, none⟩))) [] (by kernel_rfl) (HJ.out _ (Kp.refl w).drew) (fun hHeld => ?_)
 refine dF 0 ?_; try simp only [Act.put,sI,sZ,sS]
 refine dF 1 ?_; try simp only [Act.put,sI,sZ,sS]
 refine dF 2 ?_; try simp only [Act.put,sI,sZ,sS]
 (first | (refine dF 3 ?_) | (refine dO 3 ?_)); (try simp only [Act.put,sI,sZ,sS])
 refine aE (i := 4) ?_
 refine aF (i := 4) rfl (fun K hK => ?_)
 go_simp
 (refine (HE.out _ (Kp.refl w).drew).mono ?_; rintro e w1 ⟨v, rfl, hk1, rfl⟩; have X1 := qH (show Ext w w1 from ((Kp.refl w).drew).trans hk1); clear hk1)
 go_wp2_with fail
 refine hK.out _ _ ?_ (fun hHeld => ?_)
 ·(try dsimp only); (exact HJ.out _ X1.out)
 clear hK K; (try simp only [Act.put,sI,sZ,sS])
 refine dF 5 ?_; try simp only [Act.put,sI,sZ,sS]
 refine dF 6 ?_; try simp only [Act.put,sI,sZ,sS]
 (first | (refine dF 7 ?_) | (refine dO 7 ?_)); (try simp only [Act.put,sI,sZ,sS])
 (first | (refine dF 9 ?_) | (refine dO 9 ?_)); (try simp only [Act.put,sI,sZ,sS])
 (first | (refine dF 10 ?_) | (refine dO 10 ?_)); (try simp only [Act.put,sI,sZ,sS])
 (first | (refine dF 11 ?_) | (refine dO 11 ?_)); (try simp only [Act.put,sI,sZ,sS])
 (first | (refine dI 12 ?_) | (refine dO 12 ?_)); (try simp only [Act.put,sI,sZ,sS])
 refine aE (i := 8) ?_
 refine aF (i := 8) rfl (fun K hK => ?_)
 go_simp
 (refine (HA.out _ X1.out).mono ?_; rintro e w2 ⟨v, rfl, hk2, rfl⟩; have X2 := qH (show Ext w w2 from X1.out.trans hk2); clear hk2)
 go_wp2_with fail
 refine hK.out _ _ ?_ (fun hHeld => ?_)
 ·(try dsimp only); (exact HJ.out _ X2.out)
 clear hK K; (try simp only [Act.put,sI,sZ,sS])
 refine aE (i := 13) ?_
 refine aF (i := 13) rfl (fun K hK => ?_)
 go_simp
 (refine (HD.out _ X2.out).mono ?_; rintro e w3 ⟨v, rfl, hk3, rfl⟩; have X3 := qH (show Ext w w3 from X2.out.trans hk3); clear hk3)
 go_wp2_with fail
 refine hK.out _ _ ?_ (fun hHeld => ?_)
 ·(try dsimp only); (exact HJ.out _ X3.out)
 clear hK K; (try simp only [Act.put,sI,sZ,sS])
 (first | (refine dF 14 ?_) | (refine dO 14 ?_)); (try simp only [Act.put,sI,sZ,sS])
 refine dF 15 ?_; try simp only [Act.put,sI,sZ,sS]
 refine dF 16 ?_; try simp only [Act.put,sI,sZ,sS]
 (first | (refine dF 17 ?_) | (refine dO 17 ?_)); (try simp only [Act.put,sI,sZ,sS])
 (first | (refine dF 18 ?_) | (refine dO 18 ?_)); (try simp only [Act.put,sI,sZ,sS])
 (first | (refine dF 19 ?_) | (refine dO 19 ?_)); (try simp only [Act.put,sI,sZ,sS])
 (first | (refine dI 20 ?_) | (refine dO 20 ?_)); (try simp only [Act.put,sI,sZ,sS])
 refine aE (i := 21) ?_
 refine aF (i := 21) rfl (fun K hK => ?_)
 go_simp
 (refine (HLn.out _ X3.out).mono ?_; rintro e w4 ⟨v, rfl, hk4, rfl⟩; have X4 := qH (show Ext w w4 from X3.out.trans hk4); clear hk4)
 go_wp2_with fail
 refine hK.out _ _ ?_ (fun hHeld => ?_)
 ·(try dsimp only); (exact HJ.out _ X4.out)
 clear hK K; (try simp only [Act.put,sI,sZ,sS])
 (first | (refine dF 22 ?_) | (refine dO 22 ?_)); (try simp only [Act.put,sI,sZ,sS])
 refine dF 23 ?_; try simp only [Act.put,sI,sZ,sS]
 refine aK (by kernel_rfl) ?_ _
 clear hHeld c0 e1 e2
 obtain ⟨⟨la, lc, t0, -, -, hlev⟩, -, -⟩ := HT.out.ext X4.out
 obtain ⟨bl, ol, ela, hL⟩ := hlev 0 (by omega)
 subst ela
 obtain ⟨ka, kc, fa, fc, l0, -, -, -, -⟩ := hL.ex
 rw [Nat.zero_mul, Nat.add_zero] at l0
 obtain ⟨nk, enk⟩ : ∃ n, aQ W d 0 W.length = n := ⟨_, rfl⟩
 rw [enk] at l0
 have HNk := qH enk
 clear enk
 have c0 := HJ.out w4 X4.out
 have hd0 : 0 < d := by omega
 clear hL hlev
 obtain ⟨w5, e5⟩ : ∃ w5, w4.alloc (.cells #[.int .i64 0, .int .i64 0] 249) = w5 := ⟨_, rfl⟩
 obtain ⟨g5, eg5⟩ : ∃ g, w4.heap.size = g := ⟨_, rfl⟩
 have hB5 : Blk w5 g5 [.int .i64 0, .int .i64 0] 249 := by rw [<- e5, <- eg5]; exact Blk.new w4 _ _
 have hx5 : Ext w4 w5 := by rw [<- e5]; exact (Kp.refl w4).alloc _
 have s0 : w5.cell? ⟨g5, 0, none⟩ = some (.int .i64 0) := by rw [hB5.cell']; rfl
 have s1 : w5.cell? ⟨g5, 1, none⟩ = some (.int .i64 0) := by rw [hB5.cell']; rfl
 have f0 := hB5.free 0
 have f1 := hB5.free 1
 obtain ⟨w6, e6⟩ : ∃ x, (w5.setCell ⟨g5, 0, none⟩ (.int .i64 0)).setCell ⟨g5, 1, none⟩ (.int .i64 nk) = x := ⟨_, rfl⟩
 have hB6 : Blk w6 g5 [.int .i64 0, .int .i64 nk] 249 := by rw [<- e6]; exact (hB5.set 0 _).set 1 _
 have hx6 : Ext w w6 := by
  rw [<- e6]
  have h1 := X4.out.size
  exact Kp.setCell (p := ⟨g5, 1, none⟩) (Kp.setCell (p := ⟨g5, 0, none⟩) (X4.out.trans hx5) (fun h2 => by have h3 : g5 < w.heap.size := h2; omega) _) (fun h2 => by have h3 : g5 < w.heap.size := h2; omega) _
 have H6 := qH (And.intro hx6 (And.intro hB6 (show w.heap.size ≤ g5 by have h1 := X4.out.size; omega)))
 clear hB5 hx5 hB6 hx6
 go_wp2_with fail
 refine (HL.out w6 H6.out.1).mono ?_
 rintro e w7 ⟨v, rfl, hk7, rfl⟩
 have H7 := qH (And.intro (H6.out.1.trans hk7) (H6.out.2.1.ext hk7))
 have hq2 : ∀ w : World, (binOp .neq 250 (.pointer none) (.pointer none)).run Tryz.prog w = .ok (.bool false) w := fun _ => by kernel_rfl
 clear hk7 e5 e6 eg5 s0 s1 f0 f1 c0 t0 l0 hd0
 obtain ⟨w9, e9⟩ : ∃ x, x = w7 := ⟨_, rfl⟩
 subst e9
 have hB9 := H7.out.2
 have hx9 := H7.out.1
 have hc9 := HC.out.ext hx9
 have hr9 := hc9.row
 have hap : ∀ k, (Value.slice ao 0 c).ownBlock = some k -> k ≠ cb := fun k hk e => by
  subst e
  obtain ⟨cs, hb⟩ := aP hc9.row hk
  exact qP (aM hc9.box hb)
 have HR9 := qH (And.intro hr9 (And.intro hap (And.intro hx9 hB9)))
 have HJ9 := qH (show ∀ w', Ext w9 w' -> (fun w' : World => w'.cell? ⟨cb, 1, none⟩ = some (.slice ao 0 c) /\ w'.cell? ⟨g5, 0, none⟩ = some (.int .i64 0) /\ w'.cell? ⟨g5, 1, none⟩ = some (.int .i64 nk)) w' from fun w' hw' => by
  have hc := HC.out.ext (HR9.out.2.2.1.trans hw')
  have hb := HR9.out.2.2.2.ext hw'
  exact ⟨by rw [hc.box.cell']; rfl, by rw [hb.cell']; rfl, by rw [hb.cell']; rfl⟩)
 have hcb := hc9.box
 have HCB := qH hcb
 clear hB9 hx9 hc9 hr9 hap hcb
 go_wp2
 refine aT (fun w' : World => w'.cell? ⟨cb, 1, none⟩ = some (.slice ao 0 c) /\ w'.cell? ⟨g5, 0, none⟩ = some (.int .i64 0) /\ w'.cell? ⟨g5, 1, none⟩ = some (.int .i64 nk)) [7, 8, 9, 10] (by kernel_rfl) (HJ9.out _ (Kp.refl w9).drew) (fun hHeld => ?_)
 refine dF 0 ?_; try simp only [Act.put,sI,sZ,sS]
 refine dF 1 ?_; try simp only [Act.put,sI,sZ,sS]
 refine dF 2 ?_; try simp only [Act.put,sI,sZ,sS]
 refine dF 3 ?_; try simp only [Act.put,sI,sZ,sS]
 refine dI 4 ?_; try simp only [Act.put,sI,sZ,sS]
 refine dI 5 ?_; try simp only [Act.put,sI,sZ,sS]
 refine aE (i := 6) ?_
 refine aF (i := 6) rfl (fun K hK => ?_)
 go_simp
 refine hK.out _ _ ?_ (fun hHeld => ?_)
 ·(try dsimp only); (exact HJ9.out _ (by first | exact ((Kp.refl w9).alloc _).drew | exact (Kp.refl w9).drew.alloc _))
 clear hK K; (try simp only [Act.put,sI,sZ,sS])
 refine aE (i := 7) ?_
 refine aI (i := 7) rfl (by kernel_rfl) (fun K hK => ?_)
 refine gZ (m := 1) (n := 0) xP rfl _ _ rfl rfl ((HR9.out.1.alloc _).drew) rfl ((CellsAt.two w9 (.int .i64 0) (.int .i64 nk) 249).ext ((Kp.refl _).drew)) (by rfl) (by simp [Value.oneCell']) (by have := HT.out.dep; omega) (by have := HT.out.dep; unfold maxLen; omega) ?_; intro v10 w10 hr10 hk10; obtain ⟨g10, c10, e10, hM10⟩ := nS hr10 (by omega); subst e10; have HB10 := qH (show Blk w10 cb [.pointer (some ⟨tb, 0, none⟩), .slice ao 0 c] 218 from ((HCB.out.alloc _).ext ((Kp.refl _).drew)).kp hk10 (fun h2 => HR9.out.2.1 cb h2 rfl)); have HR10 := qH (And.intro hr10 hk10); have y1 : w10.cell? ⟨cb, 1, none⟩ = some (.slice ao 0 c) := (by rw [HB10.out.cell']; rfl); have yf := HB10.out.free 1; clear hr10 hk10 hM10
 refine hK.out _ _ ?_
 clear hK K; (try simp only [Act.put,sI,sZ,sS])
 refine aE (i := 8) ?_
 refine aI (i := 8) rfl (by kernel_rfl) (fun K hK => ?_)
 go_simp
 refine hK.out _ _ ?_
 clear hK K; (try simp only [Act.put,sI,sZ,sS])
 refine aE (i := 9) ?_
 refine aI (i := 9) rfl (by kernel_rfl) (fun K hK => ?_)
 go_simp
 refine hK.out _ _ ?_
 clear hK K; (try simp only [Act.put,sI,sZ,sS])
 refine aE (i := 10) ?_
 refine aI (i := 10) rfl (by kernel_rfl) (fun K hK => ?_)
 go_simp
 refine hK.out _ _ ?_
 clear hK K; (try simp only [Act.put,sI,sZ,sS])
 refine aK (by kernel_rfl) ?_ _
 clear hHeld y1 yf
 obtain ⟨w11, e11⟩ : ∃ x, w10.setCell ⟨cb, 1, none⟩ (.slice (some ⟨g10, 0, none⟩) (0 + 1) c10) = x := ⟨_, rfl⟩
 rw [e11]
 have hks : Kp (fun k => k = cb) w10 w11 := by rw [<- e11]; exact Kp.setCell (F := fun k => k = cb) (p := ⟨cb, 1, none⟩) (Kp.refl w10) (fun _ => rfl) _
 have hbx : Blk w11 cb [.pointer (some ⟨tb, 0, none⟩), .slice (some ⟨g10, 0, none⟩) (0 + 1) c10] 218 := by rw [<- e11]; exact HB10.out.set 1 _
 have hpool : ∀ k, ((Value.slice ao 0 c).ownBlock = some k \/ (w9.alloc (.cells #[.int .i64 0, .int .i64 nk] 249)).drew.heap.size ≤ k) -> (Value.slice ao 0 c).ownBlock = some k \/ w.heap.size ≤ k := fun k hk => by
  rcases hk with hk | hk
  ·exact .inl hk
  ·refine .inr ?_
   have h4 := HR9.out.2.2.1.size
   have h5 : (w9.alloc (.cells #[.int .i64 0, .int .i64 nk] 249)).heap.size ≤ k := hk
   rw [aJ] at h5
   omega
 have hrw : Row w11 249 2 (.slice (some ⟨g10, 0, none⟩) (0 + 1) c10) [(0, nk)].length ([(0, nk)].flatMap iO) (fun k => (Value.slice ao 0 c).ownBlock = some k \/ w.heap.size ≤ k) := by
  refine Row.kp' (HR10.out.1.mono hpool) hks fun g' hg _ e => ?_
  have h3 : some g10 = some g' := hg
  have h4 := Option.some.inj h3
  obtain ⟨cs, hb⟩ : ∃ cs, Blk w10 g10 cs 249 := by
   obtain ⟨_, ⟨e1, h0⟩ | ⟨g', cap, rest, e1, hM, hB, _⟩⟩ := HR10.out.1
   ·omega
   ·simp only [Value.slice.injEq, Option.some.injEq, Addr.mk.injEq, and_true] at e1
    obtain ⟨rfl, _⟩ := e1
    exact ⟨_, hB⟩
  rw [h4, e] at hb
  exact qP (aM HB10.out hb)
 have hkF : Kp (fun k => k = cb \/ (Value.slice ao 0 c).ownBlock = some k) w w11 := by
  have h1 : Kp (fun k => k = cb \/ (Value.slice ao 0 c).ownBlock = some k) w w10 := (Ext.kp ((HR9.out.2.2.1.alloc (.cells #[.int .i64 0, .int .i64 nk] 249)).drew)).trans' HR10.out.2 fun k _ hk => .inr hk
  exact h1.trans' hks fun k _ hk => .inl hk
 have HFin := qH (And.intro hbx (And.intro hrw hkF))
 clear e11 hks hbx hpool hrw hkF
 go_wp2
 go_ret
 exact RetF.mk HFin.out.2.2 ⟨rfl, g10, c10, HFin.out.1, by rw [HNk.out]; exact HFin.out.2.1⟩
end Go.Proofs.YtinnmeiphbdogaaGreat
/- Cursors, each step as one contract. -/
namespace Go.Proofs.YtinnmeiphbdogaaGreat
open Go.RowKit Go.Shelf
abbrev CurS (w : World) (cb tb : Nat) (st : List (Nat × Nat)) (ov : Value) : Prop := CurAt w cb tb st ov (fun k => ov.ownBlock = some k)
def gJ (cb : Nat) (ov : Value) : Nat -> Prop := fun k => k = cb \/ ov.ownBlock = some k
theorem Row.ownB {w : World} {e : TypeId} {k n : Nat} {v : Value} {xs : List Value} {M : Nat -> Prop} (h : Row w e k v n xs M) : Row w e k v n xs (fun g => v.ownBlock = some g) := by
 obtain ⟨h1, h2 | ⟨g, cap, rest, rfl, b, c⟩⟩ := h
 ·exact ⟨h1, .inl h2⟩
 ·exact ⟨h1, .inr ⟨g, cap, rest, rfl, rfl, c⟩⟩
theorem CurAt.own {w : World} {cb tb : Nat} {st : List (Nat × Nat)} {ov : Value} {M : Nat -> Prop} (h : CurAt w cb tb st ov M) : CurS w cb tb st ov := ⟨h.box, h.row.ownB⟩
theorem CurAt.kp {F : Nat -> Prop} {w w' : World} {cb tb : Nat} {st : List (Nat × Nat)} {ov : Value} {M : Nat -> Prop} (h : CurAt w cb tb st ov M) (hk : Kp F w w') (hf : ∀ k, gJ cb ov k -> ¬ F k) : CurAt w' cb tb st ov M :=
 ⟨h.box.kp hk (hf _ (.inl rfl)), h.row.kp' hk fun g hg _ => hf g (.inr hg)⟩
theorem CurAt.foot {w : World} {cb tb : Nat} {st : List (Nat × Nat)} {ov : Value} {M : Nat -> Prop} (h : CurAt w cb tb st ov M) : ∀ k, gJ cb ov k -> k < w.heap.size := fun k hk => by
 rcases hk with rfl | hk
 ·exact h.box.lt
 ·obtain ⟨cs, hb⟩ := aP h.row hk
  exact hb.lt
theorem CurS.inn {w : World} {cb tb a b : Nat} {st : List (Nat × Nat)} {ov : Value} (h : CurS w cb tb (st ++ [(a, b)]) ov) : ∃ g c, ov = .slice (some ⟨g, 0, none⟩) (st.length + 1) c /\ CurIn w cb tb (st ++ [(a, b)]) g c st.length a b (fun k => ov.ownBlock = some k) := by
 obtain ⟨g, c, e, _⟩ := nS h.row (by simp)
 have el : (st ++ [(a, b)]).length = st.length + 1 := by simp
 rw [el] at e
 subst e
 exact ⟨g, c, rfl, h, by simp⟩
theorem CurIn.outS {w : World} {cb tb g c m a b : Nat} {st : List (Nat × Nat)} {M : Nat -> Prop} (h : CurIn w cb tb st g c m a b M) : CurS w cb tb st (.slice (some ⟨g, 0, none⟩) (m + 1) c) := h.at_.own
section
variable {w : World} {cb tb a b d : Nat} {st : List (Nat × Nat)} {ov : Value} {W : aD}
theorem aIx (h : CurS w cb tb (st ++ [(a, b)]) ov) : Calls Tryz.prog 181 #[.pointer (some ⟨cb, 0, none⟩)] w (RetN w fun w' v => v = .bool (decide (a = b))) := by
 obtain ⟨g, c, rfl, hi⟩ := h.inn
 exact fQ hi
theorem aIp {x : ByteArray} (h : CurS w cb tb (st ++ [(a, b)]) ov) (ht : TrieAt w tb W d) (hm : st.length < d) (hab : a ≠ b) (hx : (bM W d st.length W.length)[a]? = some x) :
 Calls Tryz.prog 187 #[.pointer (some ⟨cb, 0, none⟩)] w (RetN w fun w' v => v = .string x) := by
 obtain ⟨g, c, rfl, hi⟩ := h.inn
 exact aJx hi ht hm hab hx
theorem aAc (st : List (Nat × Nat)) (x y : Nat × Nat) : (st ++ [x]).set st.length y = st ++ [y] := by
 rw [List.set_append_right _ _ (Nat.le_refl _), Nat.sub_self]; rfl
theorem aFs (t : ByteArray) (h : CurS w cb tb (st ++ [(a, b)]) ov) (ht : TrieAt w tb W d) (hm : st.length < d) (hab : a < b) (hb : b ≤ aQ W d st.length W.length) :
 Calls Tryz.prog 188 #[.pointer (some ⟨cb, 0, none⟩), .string t] w (RetF (gJ cb ov) w fun w' v => ∃ p : Nat, fW (bM W d st.length W.length) t a b p /\ v = .bool (decide (p ≠ b)) /\ CurS w' cb tb (st ++ [(p, b)]) ov) := by
 obtain ⟨g, c, rfl, hi⟩ := h.inn
 refine (aG4 t hi ht hm hab hb).mono ?_
 rintro e w' ⟨v, rfl, hk, p, h1, rfl, h2⟩
 rw [aAc] at h2
 exact RetF.mk (hk.mono fun k _ e => .inr (by rw [e]; rfl)) ⟨p, h1, rfl, h2.outS⟩
theorem aF6 (h : CurS w cb tb (st ++ [(a, b)]) ov) (hab : a < b) (hb : b ≤ 1048576) :
 Calls Tryz.prog 189 #[.pointer (some ⟨cb, 0, none⟩)] w (RetF (gJ cb ov) w fun w' v => v = .bool (decide (a + 1 ≠ b)) /\ CurS w' cb tb (st ++ [(a + 1, b)]) ov) := by
 obtain ⟨g, c, rfl, hi⟩ := h.inn
 refine (next_any hi hab hb).mono ?_
 rintro e w' ⟨v, rfl, hk, rfl, h2⟩
 rw [aAc] at h2
 exact RetF.mk (hk.mono fun k _ e => .inr (by rw [e]; rfl)) ⟨rfl, h2.outS⟩
theorem aJp (h : CurS w cb tb (st ++ [(a, b)]) ov) :
 Calls Tryz.prog 159 #[.pointer (some ⟨cb, 0, none⟩)] w (RetF (gJ cb ov) w fun w' v => v = .bool true /\ ∃ ov', ov'.ownBlock = ov.ownBlock /\ CurS w' cb tb st ov') := by
 obtain ⟨g, c, rfl, hi⟩ := h.inn
 refine (aKm hi).mono ?_
 rintro e w' ⟨v, rfl, hk, rfl, h2⟩
 rw [List.take_left] at h2
 exact RetF.mk (hk.mono fun k _ e => .inl e) ⟨rfl, .slice (some ⟨g, 0, none⟩) st.length c, rfl, h2.own⟩
theorem aF3 {q : List ByteArray} (h : CurS w cb tb st ov) (ht : TrieAt w tb W d) (hW : WaysOk W d) (hne : 0 < W.length) (hp : PathOk W d q st) (hq : q.length < d) :
 Calls Tryz.prog 157 #[.pointer (some ⟨cb, 0, none⟩)] w (RetF (gJ cb ov) w fun w' v => v = .bool true /\ ∃ ov' f t, CurS w' cb tb (st ++ [(f, t)]) ov' /\ SpanOf W d q f t /\ f < t /\ ∀ k, ov'.ownBlock = some k -> ov.ownBlock = some k \/ w.heap.size ≤ k) := by
 obtain ⟨f, t, hs, hft, h1 | ⟨m, e, hqm, he, h1, h2⟩⟩ := hp.open hW hne hq
 ·obtain ⟨rfl, rfl, rfl⟩ := h1
  have est : st = [] := List.eq_nil_of_length_eq_zero (by rw [hp.len]; rfl)
  subst est
  obtain ⟨ao, cap, rfl, _⟩ := tP h.row
  refine (aId h ht hq hne).mono ?_
  rintro e w' ⟨v, rfl, hk, rfl, g', c', h2⟩
  refine RetF.mk (hk.mono fun k _ e => e) ⟨rfl, _, 0, _, h2.own, hs, hft, fun k hk' => ?_⟩
  exact h2.row.block k hk'
 ·obtain ⟨a', x, p1, p2, p3, p4, p5⟩ := hp.at_ m e he
  obtain ⟨g, c, e1, hM⟩ := nS h.row (by rw [hp.len]; omega)
  rw [hp.len, hqm] at e1
  subst e1
  refine (open_any (a := e.1) (b := e.2) ⟨h, he⟩ ht (by omega) (by omega) hne h1 h2).mono ?_
  rintro e' w' ⟨v, rfl, hk, rfl, g', c', h3⟩
  refine RetF.mk (hk.mono fun k _ e => by rcases e with e | e; exact .inl e; exact .inr (by rw [e]; rfl)) ⟨rfl, _, f, t, h3.own, hs, hft, fun k hk' => ?_⟩
  rcases h3.row.block k hk' with h4 | h4
  ·exact .inl (by rw [h4]; rfl)
  ·exact .inr h4
end
end Go.Proofs.YtinnmeiphbdogaaGreat
/- The program's tests of a row: passes. -/
namespace Go.Proofs.YtinnmeiphbdogaaGreat
open Go.RowKit Go.Shelf
structure TestZ where
 fn : Nat
 cap : Array Value
 last : Int
 ask : List ByteArray -> Bool
def TestZ.val (t : TestZ) : Value := .func (Fn.func t.fn) #[] t.cap
def lQ (t : TestZ) : List Value := [.int .i64 t.last, t.val]
structure TestOk (w : World) (nv : Nat) (t : TestZ) : Prop where
 ent : ∀ args w, (callFunc t.fn args).run Tryz.prog w = .ok (Next.enter t.fn args) w
 tells : ∀ W, Ext w W -> ∀ (ra : Option Addr) (cp : Nat) (V : List ByteArray), V.length = nv -> CellsAt W ra (strs V) -> Calls Tryz.prog t.fn (#[.slice ra nv cp] ++ t.cap) W (RetN W fun w' v => v = .bool (t.ask V))
theorem TestOk.ext {w w' : World} {nv : Nat} {t : TestZ} (h : TestOk w nv t) (hk : Ext w w') : TestOk w' nv t := ⟨h.ent, fun W hW => h.tells W (hk.trans hW)⟩
theorem aEu {α : Type} (f : α -> List Value) (hf : ∀ x, (f x).length = 2) : ∀ (l : List α) {m : Nat} {x : α}, l[m]? = some x -> ∀ (a b : Value), f x = [a, b] -> (l.flatMap f)[m * 2]? = some a /\ (l.flatMap f)[m * 2 + 1]? = some b
 | [], m, x, h, a, b, _ => by simp at h
 | y :: l, 0, x, h, a, b, e => by
  cases h
  rw [List.flatMap_cons, e]
  exact ⟨rfl, rfl⟩
 | y :: l, m + 1, x, h, a, b, e => by
  obtain ⟨h1, h2⟩ := aEu f hf l (m := m) (x := x) (by simpa using h) a b e
  have hl := hf y
  refine ⟨?_, ?_⟩
  ·rw [List.flatMap_cons, List.getElem?_append_right (by omega), hl, show (m + 1) * 2 - 2 = m * 2 by omega]; exact h1
  ·rw [List.flatMap_cons, List.getElem?_append_right (by omega), hl, show (m + 1) * 2 + 1 - 2 = m * 2 + 1 by omega]; exact h2
theorem aHt {w : World} {ta : Option Addr} {ts : List TestZ} (h : CellsAt w ta (ts.flatMap lQ)) {i : Nat} {t : TestZ} (hi : ts[i]? = some t) : ∃ b off, ta = some ⟨b, off, none⟩ /\ w.cell? ⟨b, off + i * 2, none⟩ = some (.int .i64 t.last) /\ w.cell? ⟨b, off + i * 2 + 1, none⟩ = some t.val := by
 obtain ⟨h1, h2⟩ := aEu lQ (fun _ => rfl) ts hi _ _ rfl
 obtain ⟨b, off, e, c1⟩ := h _ _ h1
 obtain ⟨b', off', e', c2⟩ := h _ _ h2
 rw [e] at e'; cases e'
 exact ⟨b, off, e, c1, by rw [Nat.add_assoc]; exact c2⟩
set_option maxRecDepth 100000 in
set_option maxHeartbeats 1000000 in
theorem aC2 {w : World} {nv bb wb cp : Nat} {ra : Option Addr} {V : List ByteArray} (t : TestZ) (ht : TestOk w nv t) (hb : w.cell? ⟨bb, 0, none⟩ = some (.pointer (some ⟨wb, 0, none⟩))) (hr : w.cell? ⟨wb, 2, none⟩ = some (.slice ra nv cp)) (hc : CellsAt w ra (strs V)) (hV : V.length = nv) :
 Calls Tryz.prog 180 #[.agg #[.int .i64 t.last, t.val], .pointer (some ⟨bb, 0, none⟩)] w (RetN w fun w' v => v = .bool (!t.ask V)) := by
 have HT := qH (fun W (hW : Ext w W) => ht.tells W hW ra cp V hV (hc.ext hW))
 have hent := ht.ent
 obtain ⟨f, cap, last, ask⟩ := t
 unfold TestZ.val at *
 simp only at HT hent
 clear ht hc hV
 obtain ⟨r, er⟩ : ∃ r, ask V = r := ⟨_, rfl⟩
 rw [er] at HT
 simp only [er]
 go_enter Tryz.func180, Tryz.ntmps180
 obtain ⟨w1, e1⟩ : ∃ w1, w.alloc (.cells #[.int .i64 last, .func (Fn.func f) #[] cap] 180) = w1 := ⟨_, rfl⟩
 obtain ⟨g0, eg0⟩ : ∃ g, w.heap.size = g := ⟨_, rfl⟩
 have hB : Blk w1 g0 [.int .i64 last, .func (Fn.func f) #[] cap] 180 := by rw [<- e1, <- eg0]; exact Blk.new w _ _
 have hx : Ext w w1 := by rw [<- e1]; exact (Kp.refl w).alloc _
 have b0 := hx.cell hb id
 have r0 := hx.cell hr id
 have f0 : w1.cell? ⟨g0, 1, none⟩ = some (.func (Fn.func f) #[] cap) := by rw [hB.cell']; rfl
 have HX := qH hx
 clear hx hB hb hr
 go_wp2
 go_still_tail 6, (by kernel_rfl)
 go_wp2_with fail
 refine (HT.out _ (HX.out.drew)).mono ?_
 rintro e w1 ⟨v, rfl, hk, rfl⟩
 have HK := qH (HX.out.drew.trans hk)
 clear hk b0 r0 f0
 go_wp2
 go_ret
 exact RetN.mk HK.out rfl
def NoneP (w0 : World) (V : List ByteArray) (ts : List TestZ) (n : Nat) (iv : Value) (w : World) : Prop := ∃ i : Nat, i ≤ n /\ iv = .int .i64 i /\ Hid (∀ (j : Nat) u, j < i -> ts[j]? = some u -> (!TestZ.ask u V) = false) /\ Hid (Ext w0 w)
theorem aEi {α : Type} {l : List α} {q : α -> Bool} {n : Nat} (hn : n = l.length) (h : ∀ (j : Nat) u, j < n -> l[j]? = some u -> q u = false) : l.any q = false := by
 rw [List.any_eq_false]
 intro t ht
 obtain ⟨j, hj, rfl⟩ := List.mem_iff_getElem.1 ht
 rw [h j _ (by omega) (qG hj)]; decide
theorem aHh {α : Type} {l : List α} {q : α -> Bool} {i : Nat} {u : α} (h : l[i]? = some u) (hq : q u = true) : l.any q = true := List.any_eq_true.2 ⟨u, List.mem_of_getElem? h, hq⟩
set_option maxRecDepth 100000 in
set_option maxHeartbeats 1000000 in
theorem aDq {w : World} {nv bb wb cp n tc : Nat} {ra ta : Option Addr} {V : List ByteArray} (ts : List TestZ) (hn : n = ts.length) (h : CellsAt w ta (ts.flatMap lQ)) (ht : ∀ t ∈ ts, TestOk w nv t) (hb : w.cell? ⟨bb, 0, none⟩ = some (.pointer (some ⟨wb, 0, none⟩))) (hr : w.cell? ⟨wb, 2, none⟩ = some (.slice ra nv cp)) (hc : CellsAt w ra (strs V)) (hV : V.length = nv) (hl : n ≤ 1048576) :
 Calls Tryz.prog 203 #[.slice ta n tc, .func (Fn.func 180) #[] #[.pointer (some ⟨bb, 0, none⟩)]] w (RetN w fun w' v => ∃ z : Int, v = .int .i64 z /\ decide (0 ≤ z) = ts.any fun t => !t.ask V) := by
 have HN := qH hn; have HE := qH h
 have HQ := qH (fun W (hW : Ext w W) t (hm : t ∈ ts) => aC2 t ((ht t hm).ext hW) (hW.cell hb id) (hW.cell hr id) (hc.ext hW) hV)
 clear hn h ht hb hr hc hV
 go_enter Tryz.func203, Tryz.ntmps203
 go_wp2
 go_loopw [8] (fun iv wr => NoneP w V ts n iv wr) (fun iv _ => n - (intOf iv).toNat)
 case atStart => exact ⟨0, Nat.zero_le _, rfl, fun j u h => by omega, Kp.refl w⟩
 case round =>
  obtain ⟨i, hi, rfl, hno, hex⟩ := hrel
  by_cases hlt : i < n
  ·have hlt' : i < ts.length := by rw [<- HN.out]; exact hlt
   obtain ⟨t, ht⟩ : ∃ t, ts[i]? = some t := ⟨_, qG hlt'⟩
   obtain ⟨b, off, eao, hc0, hc1⟩ := aHt (HE.out.ext hex.out) ht
   subst eao
   have HC := qH (HQ.out wr hex.out t (List.mem_of_getElem? ht))
   obtain ⟨r, er⟩ : ∃ r : Bool, (!t.ask V) = r := ⟨_, rfl⟩
   rw [er] at HC
   obtain ⟨la, ela⟩ : ∃ x, t.last = x := ⟨_, rfl⟩
   obtain ⟨tv, etv⟩ : ∃ x, t.val = x := ⟨_, rfl⟩
   rw [ela] at hc0 HC
   rw [etv] at hc1 HC
   have HT := qH (And.intro ht er)
   clear ht hlt' er ela
   unfold TestZ.val at etv
   subst etv
   cases r
   ·go_wp2_with fail
    refine HC.out.mono ?_
    rintro e w1 ⟨v, rfl, hk1, rfl⟩
    have HX := qH (hex.out.trans hk1); clear hk1 hc0 hc1
    go_wp2
    go_roundw
    case rel =>
     refine ⟨i + 1, by omega, by first | rfl | (congr 1; done) | (congr 1; omega), fun j u hj hu => ?_, HX⟩
     by_cases e : j = i
     ·subst e; rw [HT.out.1] at hu; cases hu; exact HT.out.2
     ·exact hno.out j u (by omega) hu
    case measure => simp [intOf]; omega
   ·go_wp2_with fail
    refine HC.out.mono ?_
    rintro e w1 ⟨v, rfl, hk1, rfl⟩
    have HX := qH (hex.out.trans hk1); clear hk1 hc0 hc1
    go_wp2
    go_ret
    exact RetN.mk HX.out ⟨i, rfl, by rw [aHh HT.out.1 HT.out.2]; simp⟩
  ·go_wp2
   go_ret
   exact RetN.mk hex.out ⟨-1, rfl, by rw [aEi HN.out fun j u hj => hno.out j u (by omega)]; decide⟩
set_option maxRecDepth 100000 in
theorem vT {w : World} {nv bb wb cp n tc : Nat} {ra ta : Option Addr} {V : List ByteArray} (ts : List TestZ) (hn : n = ts.length) (h : CellsAt w ta (ts.flatMap lQ)) (ht : ∀ t ∈ ts, TestOk w nv t) (hb : w.cell? ⟨bb, 0, none⟩ = some (.pointer (some ⟨wb, 0, none⟩))) (hr : w.cell? ⟨wb, 2, none⟩ = some (.slice ra nv cp)) (hc : CellsAt w ra (strs V)) (hV : V.length = nv) (hl : n ≤ 1048576) :
 Calls Tryz.prog 179 #[.slice ta n tc, .func (Fn.func 180) #[] #[.pointer (some ⟨bb, 0, none⟩)]] w (RetN w fun w' v => v = .bool (ts.any fun t => !t.ask V)) := by
 have HI := qH (aDq (tc := tc) ts hn h ht hb hr hc hV hl)
 clear hn h ht hb hr hc hV hl
 go_enter Tryz.func179, Tryz.ntmps179
 go_wp2_with fail
 refine HI.out.mono ?_
 rintro e w1 ⟨v, rfl, hk, z, rfl, hz⟩
 go_wp2
 go_ret
 exact RetN.mk hk (congrArg Value.bool (by first | exact hz | simp [<- hz]))
set_option maxRecDepth 100000 in
set_option maxHeartbeats 1000000 in
theorem aC1 {w : World} {nv wb mb k cp n tc sc sb so : Nat} {ra ta : Option Addr} {V : List ByteArray} (ts : List TestZ) (hn : n = ts.length) (h : CellsAt w ta (ts.flatMap lQ)) (ht : ∀ t ∈ ts, TestOk w nv t) (hm : w.cell? ⟨wb, 0, none⟩ = some (.pointer (some ⟨mb, 0, none⟩))) (hs : w.cell? ⟨mb, 3, none⟩ = some (.slice (some ⟨sb, so, none⟩) (nv + 1) sc)) (hk : k ≤ nv) (hk2 : w.cell? ⟨sb, so + k, none⟩ = some (.slice ta n tc)) (hr : w.cell? ⟨wb, 2, none⟩ = some (.slice ra nv cp)) (hc : CellsAt w ra (strs V)) (hV : V.length = nv) (hl : n ≤ 1048576) (hl2 : nv ≤ 1048576) :
 Calls Tryz.prog 156 #[.pointer (some ⟨wb, 0, none⟩), .int .i64 k] w (RetN w fun w' v => v = .bool (!ts.any fun t => !t.ask V)) := by
 go_enter Tryz.func156, Tryz.ntmps156
 obtain ⟨w1, e1⟩ : ∃ w1, w.alloc (.cells #[.pointer (some ⟨wb, 0, none⟩)] 183) = w1 := ⟨_, rfl⟩
 obtain ⟨g0, eg0⟩ : ∃ g, w.heap.size = g := ⟨_, rfl⟩
 have hB : Blk w1 g0 [.pointer (some ⟨wb, 0, none⟩)] 183 := by rw [<- e1, <- eg0]; exact Blk.new w _ _
 have hx : Ext w w1 := by rw [<- e1]; exact (Kp.refl w).alloc _
 have b0 : w1.cell? ⟨g0, 0, none⟩ = some (.pointer (some ⟨wb, 0, none⟩)) := by rw [hB.cell']; rfl
 have m0 := hx.cell hm id
 have s0 := hx.cell hs id
 have k0 := hx.cell hk2 id
 have HC := qH (vT (tc := tc) ts hn (h.ext hx) (fun t hm => (ht t hm).ext hx) b0 (hx.cell hr id) (hc.ext hx) hV hl)
 have HX := qH hx
 clear hx hB hm hs hk2 hr hc hV ht h hn
 go_wp2_with fail
 refine HC.out.mono ?_
 rintro e w2 ⟨v, rfl, hk3, rfl⟩
 have HK := qH (HX.out.trans hk3)
 clear hk3
 go_wp2
 go_ret
 exact RetN.mk HK.out rfl
end Go.Proofs.YtinnmeiphbdogaaGreat
/- A rule's matcher and a walk through it, in memory. -/
namespace Go.Proofs.YtinnmeiphbdogaaGreat
open Go.RowKit Go.Shelf
structure TrieZ where
 tb : Nat
 vs : List Nat
 W : aD
structure MatchZ where
 N : List ByteArray
 Ts : List TrieZ
 tests : Nat -> List TestZ
def noT : TrieZ := ⟨0, [], []⟩
def atL (Ts : List TrieZ) (v : Nat) : List Nat := (List.range Ts.length).filter fun j => (Ts.getD j noT).vs.contains v
theorem sV {Ts : List TrieZ} {v j : Nat} : j ∈ atL Ts v ↔ ∃ t, Ts[j]? = some t /\ v ∈ t.vs := by
 unfold atL
 rw [List.mem_filter, List.mem_range]
 refine ⟨fun ⟨h1, h2⟩ => ⟨Ts[j], qG h1, ?_⟩, fun ⟨t, h1, h2⟩ => ⟨(List.getElem?_eq_some_iff.1 h1).1, ?_⟩⟩
 ·rw [bC (qG h1)] at h2
  exact List.contains_iff_mem.1 h2
 ·rw [bC h1]; exact List.contains_iff_mem.2 h2
theorem xX (Ts : List TrieZ) (v : Nat) : (atL Ts v).Nodup := (List.nodup_range).filter _
def lT (M : MatchZ) (V : List ByteArray) : Prop := V.length = M.N.length /\ (∀ t ∈ M.Ts, t.vs.map (bE V) ∈ t.W) /\ ∀ k ≤ M.N.length, ∀ t ∈ M.tests k, t.ask V = true
structure MatchOk (M : MatchZ) : Prop where
 ways : ∀ t ∈ M.Ts, WaysOk t.W t.vs.length /\ t.vs.Pairwise (· < ·) /\ t.vs ≠ [] /\ (∀ x ∈ t.vs, x < M.N.length) /\ 0 < t.W.length
 all : ∀ v, v < M.N.length -> ∃ t ∈ M.Ts, v ∈ t.vs
 local_ : ∀ k ≤ M.N.length, ∀ t ∈ M.tests k, ∀ V V' : List ByteArray, V.length = M.N.length -> V'.length = M.N.length -> V.take k = V'.take k -> t.ask V = t.ask V'
def kO (t : TrieZ) : Value := .pointer (some ⟨t.tb, 0, none⟩)
structure MAddr where
 na : Option Addr
 nc : Nat
 ta : Option Addr
 tc : Nat
 aa : Option Addr
 ac : Nat
 sa : Option Addr
 sc : Nat
 ia : Nat -> Option Addr
 ic : Nat -> Nat
 ya : Nat -> Option Addr
 yc : Nat -> Nat
structure MatchAt (w : World) (mb : Nat) (M : MatchZ) (A : MAddr) : Prop where
 c0 : w.cell? ⟨mb, 0, none⟩ = some (.slice A.na M.N.length A.nc)
 c1 : w.cell? ⟨mb, 1, none⟩ = some (.slice A.ta M.Ts.length A.tc)
 c2 : w.cell? ⟨mb, 2, none⟩ = some (.slice A.aa M.N.length A.ac)
 c3 : w.cell? ⟨mb, 3, none⟩ = some (.slice A.sa (M.N.length + 1) A.sc)
 ptrs : CellsAt w A.ta (M.Ts.map kO)
 ats : ∀ v, v < M.N.length -> ∃ b o, A.aa = some ⟨b, o, none⟩ /\ w.cell? ⟨b, o + v, none⟩ = some (.slice (A.ia v) (atL M.Ts v).length (A.ic v)) /\ CellsAt w (A.ia v) (ints ((atL M.Ts v).map fun (j : Nat) => (j : Int)))
 slots : ∀ k, k ≤ M.N.length -> ∃ b o, A.sa = some ⟨b, o, none⟩ /\ w.cell? ⟨b, o + k, none⟩ = some (.slice (A.ya k) (M.tests k).length (A.yc k)) /\ CellsAt w (A.ya k) ((M.tests k).flatMap lQ)
 tries : ∀ t ∈ M.Ts, TrieAt w t.tb t.W t.vs.length
 tests : ∀ k, k ≤ M.N.length -> ∀ t ∈ M.tests k, TestOk w M.N.length t
 few : M.N.length ≤ 1048576 /\ M.Ts.length ≤ 1048576 /\ ∀ k, k ≤ M.N.length -> (M.tests k).length ≤ 1048576
def uZ (cb : Nat -> Nat) (n : Nat) : List Value := (List.range n).map fun j => .pointer (some ⟨cb j, 0, none⟩)
structure WalkAt (w : World) (wb mb : Nat) (M : MatchZ) (yv cv : Value) (rb : Nat) (R : List ByteArray) (cb : Nat -> Nat) (ov : Nat -> Value) (st : Nat -> List (Nat × Nat)) : Prop where
 box : Blk w wb [.pointer (some ⟨mb, 0, none⟩), cv, .slice (some ⟨rb, 0, none⟩) M.N.length M.N.length, yv] 186
 rowB : Blk w rb (strs R) 9
 rowL : R.length = M.N.length
 curs : Row w 188 1 cv M.Ts.length (uZ cb M.Ts.length) (fun k => cv.ownBlock = some k)
 cur : ∀ (j : Nat) t, M.Ts[j]? = some t -> CurS w (cb j) t.tb (st j) (ov j)
 apart : ∀ i j, i < M.Ts.length -> j < M.Ts.length -> i ≠ j -> cb i ≠ cb j /\ ∀ k, (ov i).ownBlock = some k -> (ov j).ownBlock ≠ some k
def aHp (wb rb n : Nat) (cv : Value) (cb : Nat -> Nat) (ov : Nat -> Value) : Nat -> Prop := fun k => k = wb \/ k = rb \/ cv.ownBlock = some k \/ ∃ j, j < n /\ gJ (cb j) (ov j) k
def bP {α : Type} (f : Nat -> α) (j : Nat) (x : α) : Nat -> α := fun i => if i = j then x else f i
theorem upd_same {α : Type} (f : Nat -> α) (j : Nat) (x : α) : bP f j x j = x := if_pos rfl
theorem aH {α : Type} (f : Nat -> α) {j i : Nat} (x : α) (h : i ≠ j) : bP f j x i = f i := if_neg h
section
variable {w w' : World} {wb mb rb : Nat} {M : MatchZ} {yv cv : Value} {R : List ByteArray} {cb : Nat -> Nat} {ov : Nat -> Value} {st : Nat -> List (Nat × Nat)}
theorem WalkAt.kp {F : Nat -> Prop} (h : WalkAt w wb mb M yv cv rb R cb ov st) (hk : Kp F w w') (hf : ∀ k, aHp wb rb M.Ts.length cv cb ov k -> ¬ F k) : WalkAt w' wb mb M yv cv rb R cb ov st :=
 ⟨h.box.kp hk (hf _ (.inl rfl)), h.rowB.kp hk (hf _ (.inr (.inl rfl))), h.rowL, h.curs.kp' hk fun g hg _ => hf g (.inr (.inr (.inl hg))), fun j t ht => (h.cur j t ht).kp hk fun k hk' => hf k (.inr (.inr (.inr ⟨j, (List.getElem?_eq_some_iff.1 ht).1, hk'⟩))), h.apart⟩
theorem WalkAt.ext (h : WalkAt w wb mb M yv cv rb R cb ov st) (hk : Ext w w') : WalkAt w' wb mb M yv cv rb R cb ov st := h.kp hk fun _ _ => id
theorem WalkAt.lt (h : WalkAt w wb mb M yv cv rb R cb ov st) : ∀ k, aHp wb rb M.Ts.length cv cb ov k -> k < w.heap.size := fun k hk => by
 rcases hk with rfl | rfl | hk | ⟨j, hj, hk⟩
 ·exact h.box.lt
 ·exact h.rowB.lt
 ·obtain ⟨cs, hb⟩ := aP h.curs hk
  exact hb.lt
 ·exact (h.cur j _ (qG hj)).foot k hk
theorem aEs : 186 ≠ 218 /\ 186 ≠ 249 /\ 9 ≠ 218 /\ 9 ≠ 249 /\ 188 ≠ 218 /\ 188 ≠ 249 /\ 186 ≠ 9 /\ 188 ≠ 9 /\ 186 ≠ 188 := by decide
theorem CurAt.notB {tb : Nat} {c : Nat} {s : List (Nat × Nat)} {o : Value} {M' : Nat -> Prop} (h : CurAt w c tb s o M') {g : Nat} {cs : List Value} {e : TypeId} (hb : Blk w g cs e) (h1 : e ≠ 218) (h2 : e ≠ 249) : ¬ gJ c o g := fun hk => by
 rcases hk with rfl | hk
 ·exact h1 (aM hb h.box)
 ·obtain ⟨cs', hb'⟩ := aP h.row hk
  exact h2 (aM hb hb')
theorem WalkAt.turn (h : WalkAt w wb mb M yv cv rb R cb ov st) {j : Nat} {t : TrieZ} (ht : M.Ts[j]? = some t) (hk : Kp (gJ (cb j) (ov j)) w w') {ov' : Value} {st' : List (Nat × Nat)} (hc : CurS w' (cb j) t.tb st' ov') (ho : ∀ k, ov'.ownBlock = some k -> (ov j).ownBlock = some k \/ w.heap.size ≤ k) :
 WalkAt w' wb mb M yv cv rb R cb (bP ov j ov') (bP st j st') := by
 have hcj := h.cur j t ht
 have hj := (List.getElem?_eq_some_iff.1 ht).1
 obtain ⟨t1, t2, t3, t4, t5, t6, -⟩ := aEs
 have far : ∀ i, i < M.Ts.length -> i ≠ j -> ∀ k, gJ (cb i) (ov i) k -> ¬ gJ (cb j) (ov j) k := fun i hi hne k h1 h2 => by
  obtain ⟨a1, a2⟩ := h.apart i j hi hj hne
  rcases h1 with rfl | h1
  ·rcases h2 with h2 | h2
   ·exact a1 h2
   ·obtain ⟨cs, hb⟩ := aP hcj.row h2
    exact qP (aM (h.cur i _ (qG hi)).box hb)
  ·rcases h2 with rfl | h2
   ·obtain ⟨cs, hb⟩ := aP (h.cur i _ (qG hi)).row h1
    exact qP (aM hcj.box hb)
   ·exact a2 k h1 h2
 refine ⟨h.box.kp hk (hcj.notB h.box t1 t2), h.rowB.kp hk (hcj.notB h.rowB t3 t4), h.rowL, h.curs.kp' hk fun g hg _ => ?_, fun i u hi => ?_, fun i l hi hl hne => ⟨(h.apart i l hi hl hne).1, fun k h1 h2 => ?_⟩⟩
 ·obtain ⟨cs, hb⟩ := aP h.curs hg
  exact hcj.notB hb t5 t6
 ·by_cases e : i = j
  ·subst e
   rw [ht] at hi; cases hi
   rw [upd_same, upd_same]; exact hc
  ·rw [aH _ _ e, aH _ _ e]
   exact (h.cur i u hi).kp hk (far i (List.getElem?_eq_some_iff.1 hi).1 e)
 ·have old : ∀ i, i < M.Ts.length -> ∀ k, (ov i).ownBlock = some k -> k < w.heap.size := fun i hi k hk => (h.cur i _ (qG hi)).foot k (.inr hk)
  by_cases e : i = j
  ·subst e
   rw [upd_same] at h1
   rw [aH _ _ (fun e => hne e.symm)] at h2
   rcases ho k h1 with h3 | h3
   ·exact (h.apart i l hi hl hne).2 k h3 h2
   ·have := old l hl k h2; omega
  ·rw [aH _ _ e] at h1
   by_cases e2 : l = j
   ·subst e2
    rw [upd_same] at h2
    rcases ho k h2 with h3 | h3
    ·exact (h.apart i l hi hl hne).2 k h1 h3
    ·have := old i hi k h1; omega
   ·rw [aH _ _ e2] at h2
    exact (h.apart i l hi hl hne).2 k h1 h2
theorem WalkAt.own_turn {ov' : Value} {j n : Nat} (ho : ∀ k, ov'.ownBlock = some k -> (ov j).ownBlock = some k \/ w.heap.size ≤ k) : ∀ k, aHp wb rb n cv cb (bP ov j ov') k -> aHp wb rb n cv cb ov k \/ w.heap.size ≤ k := fun k hk => by
 rcases hk with hk | hk | hk | ⟨i, hi, hk⟩
 ·exact .inl (.inl hk)
 ·exact .inl (.inr (.inl hk))
 ·exact .inl (.inr (.inr (.inl hk)))
 ·by_cases e : i = j
  ·subst e
   rw [upd_same] at hk
   rcases hk with hk | hk
   ·exact .inl (.inr (.inr (.inr ⟨i, hi, .inl hk⟩)))
   ·rcases ho k hk with h | h
    ·exact .inl (.inr (.inr (.inr ⟨i, hi, .inr h⟩)))
    ·exact .inr h
  ·rw [aH _ _ e] at hk
   exact .inl (.inr (.inr (.inr ⟨i, hi, hk⟩)))
theorem WalkAt.put (h : WalkAt w wb mb M yv cv rb R cb ov st) (v : Nat) (x : ByteArray) : WalkAt (w.setCell ⟨rb, v, none⟩ (.string x)) wb mb M yv cv rb (R.set v x) cb ov st /\ Kp (fun k => k = rb) w (w.setCell ⟨rb, v, none⟩ (.string x)) := by
 have hk : Kp (fun k => k = rb) w (w.setCell ⟨rb, v, none⟩ (.string x)) := Kp.setCell (F := fun k => k = rb) (p := ⟨rb, v, none⟩) (Kp.refl w) (fun _ => rfl) _
 obtain ⟨t1, t2, t3, t4, t5, t6, t7, t8, t9⟩ := aEs
 refine ⟨⟨h.box.kp hk fun e => ?_, ?_, by rw [List.length_set]; exact h.rowL, h.curs.kp' hk fun g hg _ e => ?_, fun j t ht => (h.cur j t ht).kp hk fun k hf e => ?_, h.apart⟩, hk⟩
 ·have h1 := h.box
  rw [e] at h1
  exact t7 (aM h1 h.rowB)
 ·have := h.rowB.set v (.string x)
  have e : (strs R).set v (.string x) = strs (R.set v x) := by unfold strs; rw [List.map_set]
  rw [e] at this; exact this
 ·obtain ⟨cs, hb⟩ := aP h.curs hg
  rw [e] at hb
  exact t8 (aM hb h.rowB)
 ·have e' : k = rb := e
  rw [e'] at hf
  exact (h.cur j t ht).notB h.rowB t3 t4 hf
theorem WalkAt.ptr (h : WalkAt w wb mb M yv cv rb R cb ov st) : ∃ ca cc, cv = .slice ca M.Ts.length cc /\ ∀ j, j < M.Ts.length -> ∃ b o, ca = some ⟨b, o, none⟩ /\ w.cell? ⟨b, o + j, none⟩ = some (.pointer (some ⟨cb j, 0, none⟩)) := by
 obtain ⟨ca, cc, e, hc, _⟩ := h.curs.shape
 refine ⟨ca, cc, e, fun j hj => ?_⟩
 exact hc j _ (by unfold uZ; rw [List.getElem?_map, List.getElem?_range hj]; rfl)
end
end Go.Proofs.YtinnmeiphbdogaaGreat
/- The document's bindings, literal by literal: plain. -/
namespace Go.Proofs.YtinnmeiphbdogaaGreat
def cL (e : cY) (ts : List aG) (R : aD) : aD := yU aC (R.filterMap fun x => (jI e ts x ts.length).map (·.2))
theorem tB {e : cY} {ts : List aG} {R : aD} {q : List ByteArray} : q ∈ cL e ts R ↔ ∃ x ∈ R, ∃ f, jI e ts x ts.length = some f /\ f.2 = q := by
 unfold cL
 rw [aAz, List.mem_filterMap]
 refine ⟨fun ⟨x, hx, h⟩ => ?_, fun ⟨x, hx, f, hf, e⟩ => ⟨x, hx, by rw [hf, <- e]; rfl⟩⟩
 cases hf : jI e ts x ts.length with
 | none => rw [hf] at h; cases h
 | some f => rw [hf] at h; exact ⟨x, hx, f, hf, Option.some.inj h⟩
theorem zS (e : cY) (ts : List aG) (R : aD) : Strict aC (cL e ts R) := Strict.new cX _
section
variable {ls : List aO} {R : Nat -> aD} {i : Nat} {e : cY} {l : aO}
theorem FromOk.each (h : FromOk ls R i e) (hl : ls[i]? = some l) (hk : l.1 = 1) {R' : aD} (hR : ∀ x, x ∈ R' ↔ x ∈ R i /\ x.length = (aA l).length) {q : List ByteArray} (hq : q ∈ cL e (aA l) R') :
 FromOk ls R (i + 1) (aB (ls.take (i + 1)), q) /\ q.take e.2.length = e.2 /\ q.length = (aB (ls.take (i + 1))).length := by
 obtain ⟨x, hx, f, hf, rfl⟩ := tB.1 hq
 obtain ⟨h1, h2⟩ := (hR x).1 hx
 obtain ⟨h3, h4⟩ := h.next hl hk h1 h2 hf
 have e1 : f = (aB (ls.take (i + 1)), f.2) := by rw [<- h3.names]
 rw [<- e1]
 exact ⟨h3, h4.vals, h3.len⟩
theorem FromOk.whole (h : FromOk ls R i e) (hl : ls[i]? = some l) (hk : l.1 = 1) {R' : aD} (hR : ∀ x, x ∈ R' ↔ x ∈ R i /\ x.length = (aA l).length) {V : List ByteArray} (hV : cE ls R V) (hp : V.take e.2.length = e.2) : V.take (aB (ls.take (i + 1))).length ∈ cL e (aA l) R' := by
 obtain ⟨x, hx, hxl, f, hf, hfv⟩ := h.has hl hk hV hp
 obtain ⟨h3, h4⟩ := h.next hl hk hx hxl hf
 have e1 := h3.len
 rw [<- e1, hfv]
 exact tB.2 ⟨x, (hR x).2 ⟨hx, hxl⟩, f, hf, rfl⟩
theorem aHa {V : List ByteArray} (hV : cE ls R V) (i : Nat) : (aB (ls.take i)).length ≤ V.length := by
 have h := congrArg List.length (lB ls i)
 rw [List.length_take] at h
 rw [hV.1]; omega
theorem aH4 (h : FromOk ls R i e) (hl : ls[i]? = some l) (hk : l.1 = 1) {R' : aD} (hR : ∀ x, x ∈ R' ↔ x ∈ R i /\ x.length = (aA l).length) {k : Nat} {q : List ByteArray} (hq : (cL e (aA l) R')[k]? = some q) {L L' : aD}
 (hL : PartQ (cE ls R) e.2 (aB (ls.take (i + 1))).length (fun y => y ∈ (cL e (aA l) R').take k) L) (hL' : AllB (cE ls R) q L') : PartQ (cE ls R) e.2 (aB (ls.take (i + 1))).length (fun y => y ∈ (cL e (aA l) R').take (k + 1)) (L ++ L') := by
 obtain ⟨h1, h2, h3⟩ := h.each hl hk hR (List.mem_of_getElem? hq)
 have hle : e.2.length ≤ (aB (ls.take (i + 1))).length := by
  have := congrArg List.length h2
  rw [List.length_take] at this; omega
 refine (hL.next h3 h2 hle (fun V hV => aHa hV _) hL' fun y hy => ?_).congr fun y => ?_
 ·obtain ⟨j, hj⟩ := List.mem_iff_getElem?.1 hy
  have hjk : j < k := by
   have := (List.getElem?_eq_some_iff.1 hj).1
   rw [List.length_take] at this; omega
  rw [List.getElem?_take_of_lt hjk] at hj
  obtain ⟨l1, e1⟩ := List.getElem?_eq_some_iff.1 hj
  obtain ⟨l2, e2⟩ := List.getElem?_eq_some_iff.1 hq
  have := List.pairwise_iff_getElem.1 (zS e (aA l) R') j k l1 l2 hjk
  rw [e1, e2] at this
  exact this
 ·rw [List.take_add_one, hq, List.mem_append]
  simp
theorem aJt (h : FromOk ls R i e) (hl : ls[i]? = some l) (hk : l.1 = 1) {R' : aD} (hR : ∀ x, x ∈ R' ↔ x ∈ R i /\ x.length = (aA l).length) {L : aD}
 (hL : PartQ (cE ls R) e.2 (aB (ls.take (i + 1))).length (fun y => y ∈ cL e (aA l) R') L) : AllB (cE ls R) e.2 L := hL.all fun V hV hp => h.whole hl hk hR hV hp
end
end Go.Proofs.YtinnmeiphbdogaaGreat
/- The document's bindings: literals that are not positive. Plain. -/
namespace Go.Proofs.YtinnmeiphbdogaaGreat
theorem mO : ∀ (ts : List aG) (a : List ByteArray), (∀ t ∈ ts, t.1 = 1 -> t.2.1 ∈ a) -> namesT a ts = a
 | [], _, _ => rfl
 | t :: ts, a, h => by
  have e : bJ a t = a := by
   unfold bJ
   refine if_neg fun h1 => ?_
   have h2 := cG.2 (h t (List.mem_cons_self ..) h1.1)
   rw [h2] at h1; cases h1.2
  show namesT (bJ a t) ts = a
  rw [e]
  exact mO ts a fun u hu => h u (List.mem_cons_of_mem _ hu)
theorem xI {e : cY} (he : EnvOk e) {ts : List aG} {x : List ByteArray} (hin : ∀ t ∈ ts, t.1 = 1 -> t.2.1 ∈ e.1) : (∃ f, jI e ts x ts.length = some f) ↔ aBp e.1 e.2 ts x := by
 refine ⟨fun ⟨f, hf⟩ => ?_, fun h => ?_⟩
 ·obtain ⟨h1, h2, h3, h4⟩ := lI he hf
  rw [List.take_length, mO ts e.1 hin] at h3
  have hl : f.2.length = e.2.length := by rw [h1.len, h3, he.len]
  have h5 : f.2 = e.2 := by
   have := h2.vals
   rw [<- hl, List.take_length] at this; exact this
  have e1 : f = e := Prod.ext h3 h5
  subst e1
  exact fun i t hi => h4 i t (List.getElem?_eq_some_iff.1 hi).1 hi
 ·obtain ⟨f, hf, _⟩ := rA (x := x) he he (EnvLe.refl e) (Nat.le_refl ts.length) (by rw [List.take_length, mO ts e.1 hin, List.take_length]) h
  exact ⟨f, hf⟩
def aFj (e : cY) (t : aG) : ByteArray := if t.1 = 3 then t.2.1 else (ofE e t.2.1).getD ByteArray.empty
theorem aEr {e : cY} {t : aG} (h : t.1 = 1 /\ t.2.1 ∈ e.1 \/ t.1 = 3) : aFj e t = nZ e.1 e.2 t := by
 unfold aFj nZ
 rcases h with ⟨h1, h2⟩ | h1
 ·rw [if_neg (by omega), if_pos h1]
  unfold ofE
  rw [if_pos (cG.2 h2)]; rfl
 ·rw [if_pos h1, if_neg (by omega)]
theorem mG {r : cN} (h : bD r = 0) {l : aO} (hl : l ∈ r.2.1) (hk : l.1 = 3) : ∀ t, t = leftOf l \/ t = aR l -> t.1 = 1 /\ t.2.1 ∈ aB r.2.1 \/ t.1 = 3 := fun t ht => by
 unfold bD at h
 split at h
 ·rename_i hp
  split at h
  ·rename_i hs
   unfold eU at hp
   unfold oL at hs
   rw [Bool.and_eq_true] at hp hs
   have h1 := List.all_eq_true.1 hp.2 l hl
   have h2 := List.all_eq_true.1 hs.2 l hl
   unfold jY at h1
   rw [if_neg (by omega), if_pos hk, Bool.and_eq_true] at h1
   unfold jD at h2
   rw [if_pos hk, Bool.and_eq_true] at h2
   have h3 : decide (1 ≤ t.1 /\ t.1 ≤ 3) = true := by
    have h4 := h1.2
    unfold kinds at h4
    rw [List.all_eq_true] at h4
    rcases ht with ht | ht
    ·rw [ht]; exact h4 _ (by simp)
    ·rw [ht]; exact h4 _ (by simp)
   have h5 := of_decide_eq_true h3
   have h6 : dX (aB r.2.1) false t = true := by
    rcases ht with ht | ht
    ·rw [ht]; exact h2.1
    ·rw [ht]; exact h2.2
   unfold dX at h6
   split at h6
   ·cases h6
   ·rename_i h7
    rcases of_decide_eq_true h6 with h8 | h8 | h8
    ·exact .inr h8
    ·omega
    ·by_cases h9 : t.1 = 3
     ·exact .inr h9
     ·exact .inl ⟨by omega, cG.1 h8⟩
  ·cases h
 ·cases h
theorem aGg {r : cN} (h : bD r = 0) {l : aO} (hl : l ∈ r.2.1) : l.1 = 1 \/ l.1 = 2 \/ (l.1 = 3 /\ 1 ≤ gK l /\ gK l ≤ 4) := by
 unfold bD at h
 split at h
 ·rename_i hp
  unfold eU at hp
  rw [Bool.and_eq_true] at hp
  have h1 := List.all_eq_true.1 hp.2 l hl
  unfold jY at h1
  split at h1
  ·rename_i h2; omega
  ·split at h1
   ·rename_i h3
    rw [Bool.and_eq_true] at h1
    have := of_decide_eq_true h1.1
    exact .inr (.inr ⟨h3, this⟩)
   ·cases h1
 ·cases h
def uM (e : cY) (R : aD) (l : aO) : Prop :=
 if l.1 = 2 then ∀ x ∈ R, jI e (aA l) x (aA l).length = none
 else pR (gK l) (aFj e (leftOf l)) (aFj e (aR l))
theorem uL {r : cN} (h : bD r = 0) {l : aO} (hl : l ∈ r.2.1) (hk : l.1 ≠ 1) {e : cY} (he : EnvOk e) (hn : e.1 = aB r.2.1) {R R' : aD} (hR : ∀ x, x ∈ R' ↔ x ∈ R /\ x.length = (aA l).length) : uM e R' l ↔ lG (aB r.2.1) e.2 R l := by
 unfold uM lG
 rw [if_neg hk]
 by_cases h2 : l.1 = 2
 ·rw [if_pos h2, if_pos h2]
  have hin : ∀ t ∈ aA l, t.1 = 1 -> t.2.1 ∈ e.1 := by rw [hn]; exact yH h hl (.inr h2)
  refine ⟨fun h3 ⟨x, hx, hxl, hf⟩ => ?_, fun h3 x hx => ?_⟩
  ·rw [<- hn] at hf
   obtain ⟨f, hf'⟩ := (xI he hin).2 hf
   rw [h3 x ((hR x).2 ⟨hx, hxl⟩)] at hf'
   cases hf'
  ·cases hf : jI e (aA l) x (aA l).length with
   | none => rfl
   | some f =>
    have h4 := (xI he hin).1 ⟨f, hf⟩
    obtain ⟨h5, h6⟩ := (hR x).1 hx
    rw [hn] at h4
    exact absurd ⟨x, h5, h6, h4⟩ h3
 ·rw [if_neg h2, if_neg h2]
  have h3 : l.1 = 3 := by
   rcases aGg h hl with h4 | h4 | h4
   ·exact absurd h4 hk
   ·exact absurd h4 h2
   ·exact h4.1
  have hs := mG h hl h3
  rw [<- hn] at hs
  rw [aEr (hs _ (.inl rfl)), aEr (hs _ (.inr rfl)), hn]
end Go.Proofs.YtinnmeiphbdogaaGreat
