/- Proved here: the statement JoinMoreUptoSaid: the law returns true for every input of the bound that the row names and leaves its arguments as they were. No condition of its own. -/
import Derived.Test.YtinnmeiphbdogaaGreatMo9
import Derived.Deep.CondSized
set_option linter.unusedVariables false
set_option linter.unusedSimpArgs false
/- tuple.Base: Copy. -/
namespace Go.Proofs.YtinnmeiphbdogaaGreat
open Go.RowKit Go.Maps
theorem pQ {E : List Ent} (h : ((aE E).map (·.1)).Nodup) : (aE E).Nodup := by
 generalize aE E = C at *
 induction C with
 | nil => exact List.nodup_nil
 | cons p C ih =>
  rw [List.map_cons, List.nodup_cons] at h
  exact List.nodup_cons.2 ⟨fun hp => h.1 (List.mem_map.2 ⟨p, hp, rfl⟩), ih h.2⟩
theorem pK {C D : List aV} (h : C.Perm D) : aS C = aS D := aJb (h.map _)
theorem aFy {C D : List aV} (h : C.Perm D) (hD : BaseOk D) : BaseOk C := ⟨(h.map (·.1)).nodup_iff.2 hD.nodup, fun p hp => hD.all p (h.mem_iff.1 hp), by rw [pK h]; exact hD.few⟩
structure CopyB (S : Nat -> Prop) (lo : Nat) (w : World) (r : Nat) (E : List Ent) : Prop where
 map : MapIs w r (cJ E)
 rows : ∀ e ∈ E, RowsAt S w e.b e.iv e.ar e.LL
 apart : E.Pairwise fun e f => ∀ k, e.own k -> ¬ f.own k
 new : ∀ e ∈ E, ∀ k, e.own k -> lo ≤ k
theorem CopyB.ext {S : Nat -> Prop} {lo : Nat} {w w' : World} {r : Nat} {E : List Ent} (h : CopyB S lo w r E) (hk : Ext w w') : CopyB S lo w' r E := ⟨h.map.ext hk, fun e he => (h.rows e he).ext hk, h.apart, h.new⟩
def aMf (S : Nat -> Prop) (wo w0 : World) (E : List Ent) (mv : Value) (it : Nat) (bb2 r2 : Nat) (m : Int) (w : World) : Prop := ∃ todo cnt, IterE w mv it E todo cnt /\ Hid (Ext wo w /\ w0.heap.size ≤ w.heap.size) /\
 Hid (∃ E2, CopyB S w0.heap.size w r2 E2 /\ Blk w bb2 [.map (some r2), .int .i64 m] 129 /\ (∀ e2 ∈ E2, ∃ e ∈ E, e2.cnt = e.cnt /\ todo e.name = false) /\ (∀ e ∈ E, todo e.name = false -> ∃ e2 ∈ E2, e2.cnt = e.cnt))
theorem yN {m : List (ByteArray × Value)} {s : ByteArray} (h : ∀ p ∈ m, p.1 ≠ s) : aAg m s = none := by
 unfold aAg
 rw [List.find?_eq_none.2 fun p hp => by simpa using h p hp]; rfl
theorem CopyB.snoc {S : Nat -> Prop} {lo : Nat} {w w' : World} {r : Nat} {E : List Ent} {e : Ent} (h : CopyB S lo w r E) (hS : ∀ k, S k -> k < w.heap.size) (hr : r < lo) (hSr : ¬ S r) (hk : Kp (fun k => k = r) w w') (hm : MapIs w' r (jE (cJ E) e.name e.ptr)) (hn : ∀ f ∈ E, f.name ≠ e.name)
 (hE : RowsAt S w e.b e.iv e.ar e.LL) (hlo : ∀ k, e.own k -> lo ≤ k) (hap : ∀ f ∈ E, ∀ k, f.own k -> ¬ e.own k) : CopyB S lo w' r (E ++ [e]) := by
 have hg : aAg (cJ E) e.name = none := yN fun p hp => by
  obtain ⟨f, hf, rfl⟩ := List.mem_map.1 hp
  exact hn f hf
 have hmv : ∀ f : Ent, RowsAt S w f.b f.iv f.ar f.LL -> (∀ k, f.own k -> lo ≤ k) -> RowsAt S w' f.b f.iv f.ar f.LL := fun f hf hl => hf.move hk (fun k e ho => by have := hl k ho; omega) (fun k e hs => hSr (e ▸ hs)) (fun _ x => x) (fun k hk' => Nat.lt_of_lt_of_le (hS k hk') hk.size) hf.notS
 refine ⟨?_, fun f hf => ?_, List.pairwise_append.2 ⟨h.apart, by simp, fun f hf g hg' => ?_⟩, fun f hf => ?_⟩
 ·have e1 : jE (cJ E) e.name e.ptr = cJ (E ++ [e]) := by
   unfold jE
   rw [hg]
   simp [cJ]
  rw [<- e1]; exact hm
 ·rcases List.mem_append.1 hf with hf | hf
  ·exact hmv f (h.rows f hf) (h.new f hf)
  ·rw [List.mem_singleton.1 hf]; exact hmv e hE hlo
 ·rw [List.mem_singleton.1 hg']; exact hap f hf
 ·rcases List.mem_append.1 hf with hf | hf
  ·exact h.new f hf
  ·rw [List.mem_singleton.1 hf]; exact hlo
set_option maxRecDepth 100000 in
set_option maxHeartbeats 4000000 in
theorem xJ {S : Nat -> Prop} {w : World} {bb : Nat} {mv : Value} {E : List Ent} (h : BaseM S w bb mv E) (hl : E.length ≤ 1048576) :
 Calls Tryz.prog 45 #[.pointer (some ⟨bb, 0, none⟩)] w (RetN w fun w' v => ∃ bb2 r2 E2, v = .pointer (some ⟨bb2, 0, none⟩) /\ BaseAt S w' bb2 r2 E2 /\ (aE E2).Perm (aE E) /\ ∀ k, dX bb2 r2 E2 k -> w.heap.size ≤ k) := by
 have c0 := h.blk.cell 0 (by simp)
 have c1 := h.blk.cell 1 (by simp)
 simp only [List.getElem_cons_zero, List.getElem_cons_succ] at c0 c1
 obtain ⟨m, em⟩ : ∃ m : Int, ((aS (aE E) : Nat) : Int) = m := ⟨_, rfl⟩
 rw [em] at c1
 have H := qH (And.intro h (And.intro hl em))
 clear h em hl
 have hmm := @run_makeMap Tryz.prog
 obtain ⟨wA, ewA⟩ : ∃ wA, (w.alloc (.map #[] 0)).alloc (.cells #[.map (some w.heap.size), .int .i64 m] 129) = wA := ⟨_, rfl⟩
 have hxA : Ext w wA := by rw [<- ewA]; exact ((Kp.refl w).alloc _).alloc _
 have hsA : wA.heap.size = w.heap.size + 2 := by rw [<- ewA, aN, aN]
 have hBA : Blk wA (w.heap.size + 1) [.map (some w.heap.size), .int .i64 m] 129 := by
  rw [<- ewA]
  have hB := Blk.new (w.alloc (.map #[] 0)) [.map (some w.heap.size), .int .i64 m] 129
  rw [aN] at hB
  exact hB
 have hMA : MapIs wA w.heap.size [] := by rw [<- ewA]; exact (MapIs.new w).ext ((Kp.refl _).alloc _)
 have hmA := H.out.1.map.ext hxA
 have cA := hxA.cell c0 id
 replace c1 : (w.alloc (.map #[] 0)).cell? ⟨bb, 1, none⟩ = some (.int .i64 m) := ((Kp.refl (F := fun _ => False) w).alloc _).cell c1 id
 have HA := qH (And.intro hxA (And.intro hsA (And.intro hBA hMA)))
 clear hxA hsA hBA hMA
 go_enter Tryz.func45, Tryz.ntmps45
 go_wp2_with (at_range; refine fA rfl _ rfl rfl hmA H.out.1.size (by have := H.out.2.1; unfold maxLen; omega) ?_; intro w0 cnt0 hrg0 hx0 hs0)
 go_frame
 obtain ⟨it, eit⟩ : ∃ it, wA.heap.size = it := ⟨_, rfl⟩
 obtain ⟨bb2, eb2⟩ : ∃ bb2, w.heap.size + 1 = bb2 := ⟨_, rfl⟩
 obtain ⟨r2, er2⟩ : ∃ r2, w.heap.size = r2 := ⟨_, rfl⟩
 have HX0 := qH (show Ext w w0 /\ Blk w0 bb2 [.map (some r2), .int .i64 m] 129 /\ MapIs w0 r2 [] /\ bb2 < w0.heap.size /\ r2 < w0.heap.size /\ it < w0.heap.size /\ bb2 = w.heap.size + 1 /\ r2 = w.heap.size /\ it = w.heap.size + 2 from by
  have := HA.out.2.1
  refine ⟨HA.out.1.trans hx0, ?_, ?_, by omega, by omega, by omega, eb2.symm, er2.symm, by omega⟩
  ·rw [<- eb2, <- er2]; exact HA.out.2.2.1.ext hx0
  ·rw [<- er2]; exact HA.out.2.2.2.ext hx0)
 rw [eit] at hrg0
 try rw [eit]
 try rw [eb2]
 try rw [er2]
 clear hx0 hs0 ewA hmA cA eit eb2 er2
 go_loopw [] (fun wr => aMf S w w0 E mv it bb2 r2 m wr) (fun wr => leftV wr mv it)
 case atStart => exact ⟨_, _, hrg0, qH ⟨HX0.out.1, Nat.le_refl _⟩, qH ⟨[], ⟨HX0.out.2.2.1, fun e he => by simp at he, List.Pairwise.nil, fun e he => by simp at he⟩, HX0.out.2.1, fun e he => by simp at he, fun e he hl => by cases hl⟩⟩
 case round =>
  obtain ⟨todo, cnt, hrg, hex, hin⟩ := hrel
  have HIN := qH (And.intro hex.out hin.out)
  have HRG := qH hrg
  clear hex hin
  go_wp2_with (at_next; refine fV rfl _ rfl rfl hrg ?_ ?_)
  ·intro hl0
   obtain ⟨E2, hP, hB, h1, h2⟩ := HIN.out.2
   have hnd : ((aE E2).map (·.1)).Nodup := by
    obtain ⟨_, _, _, _, hn, _⟩ := hP.map
    rw [jH] at hn; exact hn
   have hperm : (aE E2).Perm (aE E) := (List.perm_ext_iff_of_nodup (pQ hnd) (pQ H.out.1.ok.nodup)).2 fun p => by
    constructor
    ·intro hp
     obtain ⟨e2, he2, rfl⟩ := List.mem_map.1 hp
     obtain ⟨e, he, hc, _⟩ := h1 e2 he2
     rw [hc]; exact cM he
    ·intro hp
     obtain ⟨e, he, rfl⟩ := List.mem_map.1 hp
     obtain ⟨e2, he2, hc⟩ := h2 e he (hl0 e he)
     rw [<- hc]; exact cM he2
   have HFin := qH (show Ext w wr /\ BaseAt S wr bb2 r2 E2 /\ (aE E2).Perm (aE E) /\ ∀ k, dX bb2 r2 E2 k -> w.heap.size ≤ k from by
    obtain ⟨x1, x2, x3, x4, x5, x6, x7, x8, x9⟩ := HX0.out
    have hin := H.out.1.inS
    have hsz := HIN.out.1.1.size
    have hsz0 := x1.size
    refine ⟨HIN.out.1.1, { blk := by rw [pK hperm, H.out.2.2]; exact hB, map := hP.map, rows := hP.rows, apart := hP.apart, inS := fun k hk => by have := hin k hk; omega, notS := ⟨fun hs => by have := hin _ hs; omega, fun hs => by have := hin _ hs; omega⟩, ne := by omega, off := fun e he k ho => by have := hP.new e he k ho; omega, ok := aFy hperm H.out.1.ok }, hperm, ?_⟩
    rintro k (rfl | rfl | ⟨e, he, ho⟩)
    ·omega
    ·omega
    ·have := hP.new e he k ho; omega)
   clear hP hB h1 h2 hnd hperm
   go_wp2
   go_ret
   exact RetN.mk HFin.out.1 ⟨bb2, r2, E2, rfl, HFin.out.2⟩
  ·intro e0 w1 cnt1 he0 hlk hrg1 hlt hg1 hsz hen
   obtain ⟨x, enx⟩ : ∃ x, e0.name = x := ⟨_, rfl⟩
   have hw1 : Ext w w1 := HIN.out.1.1.trans' hg1 fun i hi e => by have := HX0.out; omega
   have hleft : ∀ e ∈ E, (todo e.name && !decide (e.name = e0.name)) = false -> todo e.name = false \/ e = e0 := fun e he h => by
    rw [Bool.and_eq_false_iff] at h
    rcases h with h | h
    ·exact .inl h
    ·right
     have h1 := dQ H.out.1.ok he
     have h2 := dQ H.out.1.ok he0
     rw [show e.name = e0.name by simpa using h, h2] at h1
     injection h1 with h1; exact h1.symm
   obtain ⟨E2, hP, hB, h1, h2⟩ := HIN.out.2
   have hP1 : CopyB S w0.heap.size w1 r2 E2 := by
    have hlt : it < w0.heap.size := HX0.out.2.2.2.2.2.1
    refine ⟨hP.map.kp hg1 (by have := HX0.out; omega), fun e he => (hP.rows e he).move hg1 (fun k e1 ho => by have := hP.new e he k ho; omega) (fun k e1 hs => by have := H.out.1.inS k hs; have := HX0.out; omega) (fun _ x => x) (fun k hk' => by have := H.out.1.inS k hk'; have := hw1.size; omega) (hP.rows e he).notS, hP.apart, hP.new⟩
   have hB1 : Blk w1 bb2 [.map (some r2), .int .i64 m] 129 := hB.kp hg1 (by have := HX0.out; omega)
   have HE := qH (And.intro he0 (And.intro enx (And.intro hleft (And.intro hlk (And.intro h1 h2)))))
   have HW := qH (And.intro hrg1 (And.intro hlt (And.intro hw1 (And.intro hsz (And.intro hP1 hB1)))))
   have hcp := fun w' (hw : Ext w1 w') => uY (z := False) (((H.out.1.ext hw1).rows e0 he0).ext hw).q
   have cb := hB1.cell 0 (by simp)
   simp only [List.getElem_cons_zero] at cb
   obtain ⟨eb, eeb⟩ : ∃ eb, e0.b = eb := ⟨_, rfl⟩
   have ept : e0.ptr = .pointer (some ⟨eb, 0, none⟩) := by rw [<- eeb]; rfl
   rw [eeb] at hcp
   rw [ept] at hen ⊢
   rw [enx] at hen hlk ⊢
   have HC := qH hcp
   clear he0 enx hleft hlk h1 h2 hrg1 hlt hw1 hsz hP hP1 hB hB1 hg1 hcp ept eeb hrg
   go_wp2_with fail
   refine bB (fun w' : World => w'.cell? ⟨bb2, 0, none⟩ = some (.map (some r2))) [7] (by kernel_rfl) cb (fun hHeld => ?_)
   refine dF 0 ?_; try simp only [Act.put,sI,sZ,sS]
   refine dF 1 ?_; try simp only [Act.put,sI,sZ,sS]
   refine dF 2 ?_; try simp only [Act.put,sI,sZ,sS]
   refine dI 3 ?_; try simp only [Act.put,sI,sZ,sS]
   refine dF 4 ?_; try simp only [Act.put,sI,sZ,sS]
   refine dF 5 ?_; try simp only [Act.put,sI,sZ,sS]
   refine aF (i := 6) ?_
   refine aI (i := 6) rfl (fun K hK => ?_)
   go_simp
   (refine (HC.out _ (Kp.refl w1).drew).mono ?_; rintro e w5 ⟨v, rfl, hk3, _, b', iv', rfl, hb', hiv', hr'⟩; have X5 := qH (And.intro (show Ext w1 w5 from (Kp.refl w1).drew.trans (Kp.fq hk3)) (And.intro hb' (And.intro hiv' hr'))); clear hk3 hb' hiv' hr')
   go_wp2_with fail
   refine hK.out _ _ ?_ (fun hHeld => ?_)
   ·(try dsimp only); (exact X5.out.1.cell cb id)
   clear hK K; (try simp only [Act.put,sI,sZ,sS])
   refine aF (i := 7) ?_
   refine aK (i := 7) rfl (by kernel_rfl) (fun K hK => ?_)
   (obtain ⟨w6, hu, hm6, hk6⟩ := dZ (P := Tryz.prog) Tryz.underlying127 Tryz.underlying9 (HW.out.2.2.2.2.1.map.ext X5.out.1) x (.pointer (some ⟨b', 0, none⟩)))
   go_simp
   refine hK.out _ _ ?_
   clear hK K; (try simp only [Act.put,sI,sZ,sS])
   refine aL (by kernel_rfl) ?_ _
   have HFin := qH (show IterE w6 mv it E (fun s => todo s && !decide (s = e0.name)) cnt1 /\ Ext w w6 /\ w0.heap.size ≤ w6.heap.size /\ ∃ E2, CopyB S w0.heap.size w6 r2 E2 /\ Blk w6 bb2 [.map (some r2), .int .i64 m] 129 /\ (∀ e2 ∈ E2, ∃ e ∈ E, e2.cnt = e.cnt /\ (todo e.name && !decide (e.name = e0.name)) = false) /\ (∀ e ∈ E, (todo e.name && !decide (e.name = e0.name)) = false -> ∃ e2 ∈ E2, e2.cnt = e.cnt) from by
    obtain ⟨hrg1, hlt, hw1, hsz, hP1, hB1⟩ := HW.out
    obtain ⟨he0, enx, hleft, hlk, h1, h2⟩ := HE.out
    obtain ⟨hx5, hb', hiv', hr'⟩ := X5.out
    obtain ⟨x1, x2, x3, x4, x5, x6, x7, x8, x9⟩ := HX0.out
    have hin := H.out.1.inS
    have hs0 := x1.size
    have hs1 := hw1.size
    have hs01 := HIN.out.1.2
    have hs5 := hx5.size
    have hs6 := hk6.size
    have hk16 : Kp (fun k => k = r2) w1 w6 := (Ext.kp hx5).trans hk6
    have hrg6 := hrg1.kp hk16 (by omega) (fun r hr e => by have := H.out.1.mapLt r hr; omega)
    have hown : ∀ k, dS b' iv' k -> w1.heap.size ≤ k := fun k ho => by
     rcases ho with ho | ho
     ·rw [ho]; exact hb'
     ·exact hiv' k ho
    have hP6 := (hP1.ext hx5).snoc (e := { name := x, b := b', iv := iv', ar := e0.ar, LL := e0.LL }) (fun k hk => by have := hin k hk; omega) x5 (fun hs => by have := hin _ hs; omega) hk6 hm6 (fun f hf e => by
     obtain ⟨g, hg, hc, hl⟩ := h1 f hf
     have e2 : f.name = g.name := congrArg Prod.fst hc
     rw [<- e2, show f.name = x from e, <- enx, hlk] at hl
     cases hl) hr' (fun k ho => by have := hown k ho; omega) (fun f hf k ho ho2 => by
     have h3 := RowsQ.ownLt (z := True) (hP1.rows f hf).q k ho
     have h4 := hown k ho2
     omega)
    refine ⟨hrg6, hw1.trans' hk16 fun k hk e => by omega, by omega, _, hP6, (hB1.ext hx5).kp hk6 (by omega), fun e2 he2 => ?_, fun e he hl => ?_⟩
    ·rcases List.mem_append.1 he2 with he2 | he2
     ·obtain ⟨e, he, hc, hl⟩ := h1 e2 he2
      exact ⟨e, he, hc, by rw [hl]; rfl⟩
     ·rw [List.mem_singleton.1 he2]
      exact ⟨e0, he0, by show (x, e0.ar, e0.LL) = (e0.name, e0.ar, e0.LL); rw [enx], by simp⟩
    ·rcases hleft e he hl with h | rfl
     ·obtain ⟨e2, he2, hc⟩ := h2 e he h
      exact ⟨e2, List.mem_append_left _ he2, hc⟩
     ·exact ⟨_, List.mem_append_right _ (List.mem_singleton.2 rfl), by show (x, e.ar, e.LL) = (e.name, e.ar, e.LL); rw [enx]⟩)
   clear hu hm6 hk6 hHeld cb hen
   go_wp2
   go_roundw
   case rel => exact ⟨_, _, HFin.out.1, qH ⟨HFin.out.2.1, HFin.out.2.2.1⟩, qH HFin.out.2.2.2⟩
   case measure =>
    rw [HFin.out.1.left_eq, HRG.out.left_eq]
    exact HW.out.2.1
theorem aAo {S : Nat -> Prop} {w : World} {bb r : Nat} {E : List Ent} (h : BaseAt S w bb r E) (hl : E.length ≤ 1048576) :
 Calls Tryz.prog 45 #[.pointer (some ⟨bb, 0, none⟩)] w (RetN w fun w' v => ∃ bb2 r2 E2, v = .pointer (some ⟨bb2, 0, none⟩) /\ BaseAt S w' bb2 r2 E2 /\ (aE E2).Perm (aE E) /\ ∀ k, dX bb2 r2 E2 k -> w.heap.size ≤ k) := xJ h.m hl
end Go.Proofs.YtinnmeiphbdogaaGreat
/- maps.Copy of a base's map into an empty one. -/
namespace Go.Proofs.YtinnmeiphbdogaaGreat
open Go.RowKit Go.Maps
theorem wI {E : List Ent} (h : ((cJ E).map (·.1)).Nodup) : E.Nodup := by
 induction E with
 | nil => exact List.nodup_nil
 | cons p C ih =>
  have h' : (p.name :: (cJ C).map (·.1)).Nodup := h
  rw [List.nodup_cons] at h'
  exact List.nodup_cons.2 ⟨fun hp => h'.1 (List.mem_map.2 ⟨(p.name, p.ptr), List.mem_map.2 ⟨p, hp, rfl⟩, rfl⟩), ih h'.2⟩
def aLo (w0 : World) (E : List Ent) (mv : Value) (it r2 : Nat) (w : World) : Prop := ∃ todo cnt, IterE w mv it E todo cnt /\ Hid (Kp (fun k => k = r2) w0 w) /\
 Hid (∃ E2, MapIs w r2 (cJ E2) /\ ∀ e, e ∈ E2 ↔ e ∈ E /\ todo e.name = false)
set_option maxRecDepth 100000 in
set_option maxHeartbeats 4000000 in
theorem aAf {w : World} {mv : Value} {E : List Ent} {r2 : Nat} (hm : MapV w mv E) (hok : BaseOk (aE E)) (hl : E.length ≤ 1048576) (h2 : MapIs w r2 []) (hne : ∀ r, mv = .map (some r) -> r ≠ r2) :
 Calls Tryz.prog 103 #[.map (some r2), mv] w (RetF (fun k => k = r2) w fun w' v => ∃ E2, MapIs w' r2 (cJ E2) /\ E2.Perm E) := by
 have hks : ∀ e ∈ E, e.name.size ≤ maxLen := fun e he => by
  have h2 : 1 ≤ e.name.size /\ e.name.size ≤ 4096 := of_decide_eq_true (hok.all _ (cM he)).name
  unfold maxLen; omega
 have H := qH (And.intro hok (And.intro h2 hne))
 have hlt := h2.lt
 have HL := qH (And.intro hks (show E.length ≤ maxLen by unfold maxLen; omega))
 clear hok h2 hne hks hl
 go_enter Tryz.func103, Tryz.ntmps103
 go_wp2_with (at_range; refine fA rfl _ rfl rfl hm HL.out.1 HL.out.2 ?_; intro w0 cnt0 hrg0 hx0 hs0)
 go_frame
 obtain ⟨it, eit⟩ : ∃ it, w.heap.size = it := ⟨_, rfl⟩
 have HX0 := qH (And.intro hx0 (And.intro hlt eit))
 rw [eit] at hrg0
 try rw [eit]
 clear hx0 hs0 eit hm hlt
 go_loopw [] (fun wr => aLo w E mv it r2 wr) (fun wr => leftV wr mv it)
 case atStart => exact ⟨_, _, hrg0, qH (Ext.kp HX0.out.1), qH ⟨[], H.out.2.1.ext HX0.out.1, fun e => by simp⟩⟩
 case round =>
  obtain ⟨todo, cnt, hrg, hex, hin⟩ := hrel
  have HIN := qH (And.intro hex.out hin.out)
  have HRG := qH hrg
  clear hex hin
  go_wp2_with (at_next; refine fV rfl _ rfl rfl hrg ?_ ?_)
  ·intro hl0
   obtain ⟨E2, hP, hB⟩ := HIN.out.2
   have hperm : E2.Perm E := (List.perm_ext_iff_of_nodup (wI (by obtain ⟨_, _, _, _, hn, _⟩ := hP; exact hn)) (wI (by rw [jH]; exact H.out.1.nodup))).2 fun e => by
    rw [hB e]
    exact ⟨fun h => h.1, fun h => ⟨h, hl0 e h⟩⟩
   have HFin := qH (And.intro hP hperm)
   clear hP hB hperm
   go_wp2
   go_end0
   exact RetF.mk HIN.out.1 ⟨E2, HFin.out.1, HFin.out.2⟩
  ·intro e0 w1 cnt1 he0 hlk hrg1 hlt hg1 hsz hen
   obtain ⟨E2, hP, hB⟩ := HIN.out.2
   have hit : it ≠ r2 := fun e => by have := HX0.out; omega
   have hP1 := hP.kp hg1 (fun e => hit e.symm)
   obtain ⟨w6, hu, hm6, hk6⟩ := dZ (P := Tryz.prog) Tryz.underlying127 Tryz.underlying9 hP1 e0.name e0.ptr
   have hn : ∀ f ∈ E2, f.name ≠ e0.name := fun f hf e => by
    have := ((hB f).1 hf).2
    rw [e, hlk] at this; cases this
   have hput : jE (cJ E2) e0.name e0.ptr = cJ (E2 ++ [e0]) := by
    unfold jE
    rw [yN fun p hp => by obtain ⟨f, hf, rfl⟩ := List.mem_map.1 hp; exact hn f hf]
    simp [cJ]
   rw [hput] at hm6
   have HFin := qH (show IterE w6 mv it E (fun s => todo s && !decide (s = e0.name)) cnt1 /\ Kp (fun k => k = r2) w w6 /\ MapIs w6 r2 (cJ (E2 ++ [e0])) /\ cnt1 < cnt /\ ∀ e, e ∈ E2 ++ [e0] ↔ e ∈ E /\ (todo e.name && !decide (e.name = e0.name)) = false from by
    refine ⟨hrg1.kp hk6 hit (fun r hr => H.out.2.2 r hr), (HIN.out.1.trans' hg1 fun i hi e => by have := HX0.out; omega).trans hk6, hm6, hlt, fun e => ?_⟩
    rw [List.mem_append, List.mem_singleton, hB e, Bool.and_eq_false_iff]
    constructor
    ·rintro (⟨h1, h2⟩ | rfl)
     ·exact ⟨h1, .inl h2⟩
     ·exact ⟨he0, .inr (by simp)⟩
    ·rintro ⟨h1, h2 | h2⟩
     ·exact .inl ⟨h1, h2⟩
     ·right
      have h3 := dQ H.out.1 h1
      rw [show e.name = e0.name by simpa using h2, dQ H.out.1 he0] at h3
      injection h3 with h3; exact h3.symm)
   obtain ⟨x, ex⟩ : ∃ x, e0.name = x := ⟨_, rfl⟩
   obtain ⟨v0, ev0⟩ : ∃ v0, e0.ptr = v0 := ⟨_, rfl⟩
   rw [ex, ev0] at hen hu ⊢
   clear hrg1 hlt hg1 hsz hP hP1 hm6 hk6 hn hput hB hlk ex ev0 hrg
   go_wp2
   go_roundw
   case rel => exact ⟨_, _, HFin.out.1, qH HFin.out.2.1, qH ⟨_, HFin.out.2.2.1, HFin.out.2.2.2.2⟩⟩
   case measure =>
    rw [HFin.out.1.left_eq, HRG.out.left_eq]
    exact HFin.out.2.2.2.1
end Go.Proofs.YtinnmeiphbdogaaGreat
/- tuple.Rows: Drop, the pool as it was. -/
namespace Go.Proofs.YtinnmeiphbdogaaGreat
open Go.RowKit Go.Shelf
section
variable {z : Prop} {S S' : Nat -> Prop} {w w' : World} {b : Nat} {iv : Value} {arity : Nat} {LL : List (List ByteArray)}
end
end Go.Proofs.YtinnmeiphbdogaaGreat
/- tuple.Base: Drop. -/
namespace Go.Proofs.YtinnmeiphbdogaaGreat
open Go.RowKit
section
variable {S : Nat -> Prop} {w w3 : World} {bb r : Nat} {E : List Ent} {s : ByteArray} {ss : List ByteArray} {e : Ent} {iv' : Value}
end
end Go.Proofs.YtinnmeiphbdogaaGreat
/- tuple.Base: nil ones; one whose map is not made yet. -/
namespace Go.Proofs.YtinnmeiphbdogaaGreat
open Go.RowKit
section
variable {w : World} {bb : Nat}
end
end Go.Proofs.YtinnmeiphbdogaaGreat
/- tuple.Base: Merge: what holds between two rounds of its loops. -/
namespace Go.Proofs.YtinnmeiphbdogaaGreat
open Go.RowKit Go.Maps
def gA (W : List Ent) (f : Ent) : List Ent := if (aY W f.name).isSome then W.map fun g => if g.name = f.name then f else g else W ++ [f]
theorem sE (W : List Ent) (f : Ent) : jE (cJ W) f.name f.ptr = cJ (gA W f) := by
 unfold jE gA
 rw [jI]
 cases hf : aY W f.name with
 | none => simp [cJ]
 | some g =>
  simp only [Option.map_some, Option.isSome_some, if_true]
  unfold cJ
  rw [List.map_map, List.map_map]
  apply List.map_congr_left
  intro x _
  show (if x.name = f.name then (x.name, f.ptr) else (x.name, x.ptr)) = _
  show _ = ((if x.name = f.name then f else x).name, (if x.name = f.name then f else x).ptr)
  split
  ·rename_i h; rw [h]
  ·rfl
theorem kR {W : List Ent} {f g : Ent} : g ∈ gA W f ↔ g = f \/ (g ∈ W /\ g.name ≠ f.name) := by
 unfold gA
 cases hf : aY W f.name with
 | none =>
  simp only [Option.isSome_none, Bool.false_eq_true, if_false, List.mem_append, List.mem_singleton]
  have hn : ∀ g ∈ W, g.name ≠ f.name := fun g hg e => by
   have := List.find?_eq_none.1 hf g hg
   simp [e] at this
  constructor
  ·rintro (h | h)
   ·exact .inr ⟨h, hn g h⟩
   ·exact .inl h
  ·rintro (h | h)
   ·exact .inr h
   ·exact .inl h.1
 | some x =>
  simp only [Option.isSome_some, if_true, List.mem_map]
  obtain ⟨hx, hxn⟩ := bP hf
  constructor
  ·rintro ⟨y, hy, e⟩
   split at e
   ·exact .inl e.symm
   ·rename_i h; subst e; exact .inr ⟨hy, h⟩
  ·rintro (h | h)
   ·exact ⟨x, hx, by rw [if_pos hxn, h]⟩
   ·exact ⟨g, h.1, by rw [if_neg h.2]⟩
theorem aGu {W : List Ent} {f : Ent} (h : (aY W f.name).isSome = true) : gA W f = W.map fun g => if g.name = f.name then f else g := if_pos h
theorem aI6 {W : List Ent} {f1 f2 : Ent} (h : f1.name = f2.name) : gA (gA W f1) f2 = gA W f2 := by
 cases hf : aY W f2.name with
 | none =>
  have hn : ∀ g ∈ W, g.name ≠ f2.name := fun g hg e => by
   have := List.find?_eq_none.1 hf g hg
   simp [e] at this
  have e1 : gA W f1 = W ++ [f1] := by unfold gA; rw [h, hf]; rfl
  have e2 : gA W f2 = W ++ [f2] := by unfold gA; rw [hf]; rfl
  rw [e1, e2]
  have e3 : aY (W ++ [f1]) f2.name = some f1 := by
   unfold aY at hf ⊢
   rw [List.find?_append, hf]
   simp [h]
  unfold gA
  rw [e3]
  simp only [Option.isSome_some, if_true, List.map_append, List.map_cons, List.map_nil, if_pos h]
  congr 1
  conv => rhs; rw [<- List.map_id W]
  apply List.map_congr_left
  intro g hg
  rw [if_neg (hn g hg)]; rfl
 | some x =>
  obtain ⟨hx, hxn⟩ := bP hf
  have e1 : gA W f1 = W.map fun g => if g.name = f1.name then f1 else g := by unfold gA; rw [h, hf]; rfl
  have e2 : gA W f2 = W.map fun g => if g.name = f2.name then f2 else g := by unfold gA; rw [hf]; rfl
  have e3 : (aY (gA W f1) f2.name).isSome = true := by
   rw [Option.isSome_iff_ne_none]
   intro h3
   have := List.find?_eq_none.1 h3 f1 (kR.2 (.inl rfl))
   simp [h] at this
  rw [aGu e3, e1, e2, List.map_map]
  apply List.map_congr_left
  intro g _
  show (if (if g.name = f1.name then f1 else g).name = f2.name then f2 else (if g.name = f1.name then f1 else g)) = if g.name = f2.name then f2 else g
  by_cases hg : g.name = f1.name
  ·rw [if_pos hg, if_pos h, if_pos (hg.trans h)]
  ·rw [if_neg hg]
def apartE (e f : Ent) : Prop := ∀ k, e.own k -> ¬ f.own k
theorem apartE.symm {e f : Ent} (h : apartE e f) : apartE f e := fun k h1 h2 => h k h2 h1
theorem aDt {W : List Ent} {f : Ent} (hn : (W.map Ent.name).Nodup) (h : W.Pairwise apartE) (hf : ∀ g ∈ W, apartE g f) : (gA W f).Pairwise apartE := by
 unfold gA
 split
 ·rw [List.pairwise_map]
  have hn' : W.Pairwise fun a b => a.name ≠ b.name := List.pairwise_map.1 hn
  refine List.Pairwise.imp_of_mem ?_ (h.and hn')
  intro a b ha hb hab
  by_cases h1 : a.name = f.name
  ·rw [if_pos h1, if_neg (fun h2 => hab.2 (h1.trans h2.symm))]
   exact (hf b hb).symm
  ·rw [if_neg h1]
   by_cases h2 : b.name = f.name
   ·rw [if_pos h2]; exact hf a ha
   ·rw [if_neg h2]; exact hab.1
 ·refine List.pairwise_append.2 ⟨h, List.pairwise_singleton _ _, fun a ha b hb => ?_⟩
  rw [List.mem_singleton] at hb
  subst hb
  exact hf a ha
structure MidM (S : Nat -> Prop) (w0 w : World) (r2 : Nat) (E1 E2 : List Ent) (todo : ByteArray -> Bool) (W : List Ent) : Prop where
 map : MapIs w r2 (cJ W)
 rows : ∀ f ∈ W, RowsAt S w f.b f.iv f.ar f.LL
 apart : W.Pairwise apartE
 mem : ∀ f ∈ W, (f ∈ E1 /\ ∀ e ∈ E2, e.name = f.name -> todo f.name = true) \/ (∃ e ∈ E2, todo e.name = false /\ f.cnt = lE (aE E1) e.cnt /\ f.LL.length ≤ 65536 /\ ∀ k, f.own k -> w0.heap.size ≤ k)
 old : ∀ f ∈ E1, (∀ e ∈ E2, e.name = f.name -> todo f.name = true) -> f ∈ W
 new : ∀ e ∈ E2, todo e.name = false -> ∃ f ∈ W, f.cnt = lE (aE E1) e.cnt
section
variable {S : Nat -> Prop} {w0 w w' : World} {r2 : Nat} {E1 E2 W : List Ent} {todo : ByteArray -> Bool}
theorem MidM.names (h : MidM S w0 w r2 E1 E2 todo W) : (W.map Ent.name).Nodup := by
 obtain ⟨_, _, _, _, hn, _⟩ := h.map
 rw [jH] at hn
 unfold aE at hn
 rwa [List.map_map] at hn
theorem MidM.kp {F : Nat -> Prop} (h : MidM S w0 w r2 E1 E2 todo W) (hk : Kp F w w') (hr : ¬ F r2) (hF : ∀ f ∈ W, ∀ k, F k -> ¬ f.own k) (hS : ∀ k, F k -> ¬ S k) (hS2 : ∀ k, S k -> k < w.heap.size) : MidM S w0 w' r2 E1 E2 todo W :=
 ⟨h.map.kp hk hr, fun f hf => (h.rows f hf).move hk (hF f hf) hS (fun _ x => x) (fun k hk' => Nat.lt_of_lt_of_le (hS2 k hk') hk.size) (h.rows f hf).notS, h.apart, h.mem, h.old, h.new⟩
theorem MidM.ownLt (h : MidM S w0 w r2 E1 E2 todo W) {f : Ent} (hf : f ∈ W) : ∀ k, f.own k -> k < w.heap.size := RowsQ.ownLt (z := True) (h.rows f hf).q
theorem MidM.step (h : MidM S w0 w r2 E1 E2 todo W) (hok : BaseOk (aE E2)) {e0 f : Ent} (he0 : e0 ∈ E2) (ht : todo e0.name = true) (hc : f.cnt = lE (aE E1) e0.cnt) (h65 : f.LL.length ≤ 65536) (hlo : ∀ k, f.own k -> w0.heap.size ≤ k) (hap : ∀ k, f.own k -> ∀ g ∈ W, ¬ g.own k)
 (hm : MapIs w' r2 (cJ (gA W f))) (hrows : ∀ g ∈ gA W f, RowsAt S w' g.b g.iv g.ar g.LL) : MidM S w0 w' r2 E1 E2 (fun s => todo s && !decide (s = e0.name)) (gA W f) := by
 have hfn : f.name = e0.name := congrArg Prod.fst hc
 have hleft : ∀ e ∈ E2, (todo e.name && !decide (e.name = e0.name)) = false -> todo e.name = false \/ e = e0 := fun e he h => by
  rw [Bool.and_eq_false_iff] at h
  rcases h with h | h
  ·exact .inl h
  ·right
   have h1 := dQ hok he
   have h2 := dQ hok he0
   rw [show e.name = e0.name by simpa using h, h2] at h1
   injection h1 with h1; exact h1.symm
 refine ⟨hm, hrows, aDt h.names h.apart fun g hg k h1 h2 => hap k h2 g hg h1, fun g hg => ?_, fun g hg hk => ?_, fun e he hl => ?_⟩
 ·rcases kR.1 hg with rfl | ⟨hg, hne⟩
  ·exact .inr ⟨e0, he0, by simp, hc, h65, hlo⟩
  ·rcases h.mem g hg with ⟨h1, h2⟩ | ⟨e, he, h1, h2⟩
   ·refine .inl ⟨h1, fun e he hn => ?_⟩
    rw [h2 e he hn, decide_eq_false (by rw [<- hfn]; exact hne)]; rfl
   ·exact .inr ⟨e, he, by rw [h1]; rfl, h2⟩
 ·refine kR.2 (.inr ⟨h.old g hg fun e he hn => ?_, fun hn => ?_⟩)
  ·have := hk e he hn
   rw [Bool.and_eq_true] at this; exact this.1
  ·have := hk e0 he0 (by rw [hn, hfn])
   rw [hn, hfn] at this
   simp at this
 ·rcases hleft e he hl with h1 | rfl
  ·obtain ⟨g, hg, hgc⟩ := h.new e he h1
   refine ⟨g, kR.2 (.inr ⟨hg, fun hn => ?_⟩), hgc⟩
   have h3 : g.name = e.name := congrArg Prod.fst hgc
   rw [<- h3, hn, hfn, ht] at h1
   cases h1
  ·exact ⟨f, kR.2 (.inl rfl), hc⟩
theorem oL {b ar : Nat} {iv : Value} {LL : List (List ByteArray)} (h : RowsAt S w b iv ar LL) (hk : Kp (fun k => k = r2) w w') (h1 : ¬ dS b iv r2) (h2 : ¬ S r2) : RowsAt S w' b iv ar LL :=
 h.move hk (fun k e ho => h1 (e ▸ ho)) (fun k e hs => h2 (e ▸ hs)) (fun _ x => x) (fun k hk' => Nat.lt_of_lt_of_le (h.inS k hk') hk.size) h.notS
theorem MidM.gap {p : Nat} (h : MidM S w0 w r2 E1 E2 todo W) (h1 : ∀ f ∈ E1, ∀ k, f.own k -> k < p) (h2 : p < w0.heap.size) : ∀ f ∈ W, ¬ f.own p := fun f hf ho => by
 rcases h.mem f hf with ⟨h3, _⟩ | ⟨_, _, _, _, _, h3⟩
 ·have := h1 f h3 p ho; omega
 ·have := h3 p ho; omega
theorem MidM.put (h : MidM S w0 w r2 E1 E2 todo W) (hok : BaseOk (aE E2)) {e0 f : Ent} (he0 : e0 ∈ E2) (ht : todo e0.name = true) (hc : f.cnt = lE (aE E1) e0.cnt) (h65 : f.LL.length ≤ 65536) (hw0 : w0.heap.size ≤ w.heap.size) (hlo : ∀ k, f.own k -> w.heap.size ≤ k)
 (hk : Kp (fun k => k = r2) w w') (hgap : ∀ g ∈ W, ¬ g.own r2) (hSr : ¬ S r2) (hm : MapIs w' r2 (cJ (gA W f))) (hrow : RowsAt S w' f.b f.iv f.ar f.LL) : MidM S w0 w' r2 E1 E2 (fun s => todo s && !decide (s = e0.name)) (gA W f) :=
 h.step hok he0 ht hc h65 (fun k ho => Nat.le_trans hw0 (hlo k ho)) (fun k ho g hg h2 => by have := hlo k ho; have := h.ownLt hg k h2; omega) hm fun g hg => by
  rcases kR.1 hg with rfl | ⟨hg, _⟩
  ·exact hrow
  ·exact oL (h.rows g hg) hk (hgap g hg) hSr
theorem aH8 {e : Ent} (h : aY E1 e.name = none) : lE (aE E1) e.cnt = e.cnt := by
 unfold lE cB
 rw [show e.cnt.1 = e.name from rfl, jJ, h]; rfl
theorem aH7 {e f : Ent} (h : aY E1 e.name = some f) : lE (aE E1) e.cnt = (e.name, e.ar, cG aC (f.LL ++ e.LL)) := by
 unfold lE cB
 rw [show e.cnt.1 = e.name from rfl, jJ, h]; rfl
theorem MidM.perm (h : MidM S w0 w r2 E1 E2 todo W) (h1 : BaseOk (aE E1)) (h2 : BaseOk (aE E2)) (hl : ∀ e ∈ E2, todo e.name = false) : (aE W).Perm (fO (aE E1) (aE E2)) := by
 have hnW : ((aE W).map (·.1)).Nodup := by
  have := h.names
  unfold aE
  rwa [List.map_map]
 have hnM : ((fO (aE E1) (aE E2)).map (·.1)).Nodup := nE h1.nodup h2.nodup
 have hnd : (fO (aE E1) (aE E2)).Nodup := by
  have := List.pairwise_map.1 hnM
  exact this.imp fun h e => h (by rw [e])
 refine (List.perm_ext_iff_of_nodup (pQ hnW) hnd).2 fun p => ?_
 have hkeep : ∀ f : Ent, (∀ e ∈ E2, e.name = f.name -> todo f.name = true) ↔ bD (aE E2) f.name = none := fun f => by
  constructor
  ·intro hk
   rw [iT]
   intro hp
   obtain ⟨q, hq, e⟩ := List.mem_map.1 hp
   obtain ⟨x, hx, rfl⟩ := List.mem_map.1 hq
   have h3 : x.name = f.name := e
   have h4 := hl x hx
   rw [h3, hk x hx h3] at h4
   cases h4
  ·intro hg e he hn
   exact absurd (List.mem_map.2 ⟨e.cnt, cM he, hn⟩) (iT.1 hg)
 unfold fO aFx
 rw [List.mem_append, List.mem_filter, List.mem_map]
 constructor
 ·intro hp
  obtain ⟨f, hf, rfl⟩ := List.mem_map.1 hp
  rcases h.mem f hf with ⟨h3, h4⟩ | ⟨e, he, _, hc, _⟩
  ·left
   refine ⟨cM h3, ?_⟩
   show (bD (aE E2) f.name).isNone = true
   rw [(hkeep f).1 h4]; rfl
  ·exact .inr ⟨e.cnt, cM he, hc.symm⟩
 ·rintro (⟨hp, hq⟩ | ⟨q, hq, e⟩)
  ·obtain ⟨f, hf, rfl⟩ := List.mem_map.1 hp
   refine cM (h.old f hf ((hkeep f).2 ?_))
   have hq' : (bD (aE E2) f.name).isNone = true := hq
   simpa using hq'
  ·obtain ⟨x, hx, rfl⟩ := List.mem_map.1 hq
   obtain ⟨f, hf, hc⟩ := h.new x hx (hl x hx)
   rw [<- e, <- hc]; exact cM hf
theorem MidM.start (hok : BaseOk (aE E1)) {W : List Ent} (hm : MapIs w r2 (cJ W)) (hp : W.Perm E1) (hr : ∀ e ∈ E1, RowsAt S w e.b e.iv e.ar e.LL) (ha : E1.Pairwise apartE) : MidM S w0 w r2 E1 E2 (fun _ => true) W :=
 ⟨hm, fun f hf => hr f (hp.mem_iff.1 hf), (hp.symm.pairwise_iff apartE.symm).1 ha, fun f hf => .inl ⟨hp.mem_iff.1 hf, fun _ _ _ => rfl⟩, fun f hf _ => hp.mem_iff.2 hf, fun e _ h => by cases h⟩
theorem MidM.finish {wW wr : World} {bb : Nat} {m1 : Value} (hM : MidM S w0 wW r2 E1 E2 todo W) (h1 : BaseM S w bb m1 E1) (h2 : BaseOk (aE E2)) (hS : ¬ S bb) (hoff : ∀ e ∈ E1, ∀ k, e.own k -> k ≠ bb) (hperm : (aE W).Perm (fO (aE E1) (aE E2))) (hR : gQ (aE E1) (aE E2) = 0)
 (hx : Ext w wr) (hxW : Ext wW wr) (hr2 : w.heap.size ≤ r2) (hr0 : r2 < w0.heap.size) :
 BaseAt S ((wr.setCell ⟨bb, 0, none⟩ (.map (some r2))).setCell ⟨bb, 1, none⟩ (.int .i64 (aS (aE W) : Nat))) bb r2 W /\ ∀ k, dX bb r2 W k -> k = bb \/ OwnE E1 k \/ w.heap.size ≤ k := by
 have hbl := h1.blk.lt
 have hk : Kp (fun k => k = bb) wr ((wr.setCell ⟨bb, 0, none⟩ (.map (some r2))).setCell ⟨bb, 1, none⟩ (.int .i64 (aS (aE W) : Nat))) :=
  ((Kp.refl wr).setCell (F := fun k => k = bb) (p := ⟨bb, 0, none⟩) (fun _ => rfl) _).setCell (p := ⟨bb, 1, none⟩) (fun _ => rfl) _
 have hB := ((h1.blk.ext hx).set 0 (.map (some r2))).set 1 (.int .i64 (aS (aE W) : Nat))
 have hz := hk.size
 have hzx := hx.size
 have hoffW : ∀ e ∈ W, ∀ k, e.own k -> k ≠ bb /\ k ≠ r2 := fun e he k ho => by
  rcases hM.mem e he with ⟨h3, _⟩ | ⟨_, _, _, _, _, h3⟩
  ·have := RowsQ.ownLt (z := True) (h1.rows e h3).q k ho
   exact ⟨hoff e h3 k ho, by omega⟩
  ·have := h3 k ho
   exact ⟨by omega, by omega⟩
 refine ⟨{ blk := by simpa using hB, map := (hM.map.ext hxW).kp hk (by omega), rows := fun e he => oL ((hM.rows e he).ext hxW) hk (fun ho => (hoffW e he _ ho).1 rfl) hS, apart := hM.apart, inS := fun k hk' => by have := h1.inS k hk'; omega, notS := ⟨hS, fun hs => by have := h1.inS _ hs; omega⟩, ne := by omega, off := hoffW, ok := aFy hperm (aJh h1.ok h2 hR) }, ?_⟩
 rintro k (rfl | rfl | ⟨e, he, ho⟩)
 ·exact .inl rfl
 ·exact .inr (.inr hr2)
 ·rcases hM.mem e he with ⟨h3, _⟩ | ⟨_, _, _, _, _, h3⟩
  ·exact .inr (.inl ⟨e, h3, ho⟩)
  ·have := h3 k ho
   exact .inr (.inr (by omega))
end
def mE (W : List Ent) (todo : ByteArray -> Bool) : Nat := ((W.filter fun f => !todo f.name).map fun f => f.LL.length).sum
theorem xS {todo : ByteArray -> Bool} {e0 : Ent} (ht : todo e0.name = true) : ∀ {W : List Ent}, (W.map Ent.name).Nodup -> e0 ∈ W -> mE W (fun s => todo s && !decide (s = e0.name)) = mE W todo + e0.LL.length
 | [], _, h => by simp at h
 | f :: W, hn, h => by
  rw [List.map_cons, List.nodup_cons] at hn
  have hcons : ∀ t : ByteArray -> Bool, mE (f :: W) t = (if t f.name = true then 0 else f.LL.length) + mE W t := fun t => by
   unfold mE
   rw [List.filter_cons]
   cases t f.name <;> simp
  rw [hcons, hcons]
  by_cases hf : f.name = e0.name
  ·have hfe : f = e0 := by
    rcases List.mem_cons.1 h with h | h
    ·exact h.symm
    ·exact absurd (List.mem_map.2 ⟨e0, h, hf.symm⟩) hn.1
   have hrest : mE W (fun s => todo s && !decide (s = e0.name)) = mE W todo := by
    unfold mE
    congr 2
    apply List.filter_congr
    intro g hg
    have : g.name ≠ e0.name := fun e => hn.1 (List.mem_map.2 ⟨g, hg, by rw [e, hf]⟩)
    simp [this]
   rw [hrest, hfe, ht]
   simp; omega
  ·have hm : e0 ∈ W := by
    rcases List.mem_cons.1 h with h | h
    ·exact absurd (by rw [h]) hf
    ·exact h
   rw [xS ht hn.2 hm]
   simp [hf]; omega
theorem aGk (W : List Ent) : mE W (fun _ => true) = 0 := by
 unfold mE
 rw [List.filter_eq_nil_iff.2 (by simp)]; rfl
theorem aIv {W : List Ent} {todo : ByteArray -> Bool} (h : ∀ e ∈ W, todo e.name = false) : mE W todo = aS (aE W) := by
 unfold mE aS aE
 rw [List.filter_eq_self.2 (fun f hf => by rw [h f hf]; rfl), List.map_map]; rfl
theorem aKy (W : List Ent) (todo : ByteArray -> Bool) : mE W todo ≤ aS (aE W) := by
 induction W with
 | nil => exact Nat.le_refl _
 | cons f W ih =>
  have hcons : mE (f :: W) todo = (if todo f.name = true then 0 else f.LL.length) + mE W todo := by
   unfold mE
   rw [List.filter_cons]
   cases todo f.name <;> simp
  have h2 : aS (aE (f :: W)) = f.LL.length + aS (aE W) := by simp [aS, aE, Ent.cnt]
  rw [hcons, h2]
  split <;> omega
theorem aGg {W : List Ent} (h : ∀ f ∈ W, f.LL.length ≤ 65536) : aS (aE W) ≤ W.length * 65536 := by
 induction W with
 | nil => simp [aS, aE]
 | cons f W ih =>
  have h2 : aS (aE (f :: W)) = f.LL.length + aS (aE W) := by simp [aS, aE, Ent.cnt]
  have := h f (List.mem_cons_self ..)
  have := ih fun g hg => h g (List.mem_cons_of_mem _ hg)
  rw [h2, List.length_cons, Nat.add_mul]
  omega
end Go.Proofs.YtinnmeiphbdogaaGreat
/- tuple.Base: Merge. -/
namespace Go.Proofs.YtinnmeiphbdogaaGreat
open Go.RowKit Go.Maps
def pR (E1 : List Ent) (e : Ent) : Bool := match aY E1 e.name with
 | some f => decide (f.ar ≠ e.ar)
 | none => false
theorem sF (E1 E2 : List Ent) : sG (aE E1) (aE E2) = E2.any (pR E1) := by
 unfold sG
 rw [show aE E2 = E2.map Ent.cnt from rfl, List.any_map]
 congr 1
 funext e
 show (match bD (aE E1) e.name with | some v => decide (v.1 ≠ e.ar) | none => false) = _
 rw [jJ]
 unfold pR
 cases aY E1 e.name <;> rfl
def aKp (w0 : World) (E1 E2 : List Ent) (mv : Value) (it : Nat) (w : World) : Prop := ∃ todo cnt, IterE w mv it E2 todo cnt /\ Hid (Ext w0 w) /\ Hid (∀ e ∈ E2, todo e.name = false -> pR E1 e = false)
def aKo (S : Nat -> Prop) (wo w0 : World) (E1 E2 : List Ent) (mv : Value) (it r2 : Nat) (w : World) : Prop := ∃ todo cnt, IterE w mv it E2 todo cnt /\ Hid (Ext wo w /\ w0.heap.size ≤ w.heap.size) /\ Hid (∃ W, MidM S w0 w r2 E1 E2 todo W)
def aKn (w0 : World) (W : List Ent) (r2 it : Nat) (nv : Value) (w : World) : Prop := ∃ todo cnt, IterE w (.map (some r2)) it W todo cnt /\ nv = .int .i64 (mE W todo : Nat) /\ Hid (Kp (fun k => k = it) w0 w)
def Merged (S : Nat -> Prop) (w : World) (bb : Nat) (E1 E2 : List Ent) (w' : World) (v : Value) : Prop :=
 v = .int .i64 ((gQ (aE E1) (aE E2) : Nat) : Int) /\ (gQ (aE E1) (aE E2) ≠ 0 -> Ext w w') /\ (gQ (aE E1) (aE E2) = 0 -> ∃ r' E', BaseAt S w' bb r' E' /\ (aE E').Perm (fO (aE E1) (aE E2)) /\ ∀ k, dX bb r' E' k -> k = bb \/ OwnE E1 k \/ w.heap.size ≤ k)
set_option maxRecDepth 100000 in
set_option maxHeartbeats 4000000 in
theorem xI {S : Nat -> Prop} {w : World} {bb bo : Nat} {m1 m2 : Value} {E1 E2 : List Ent} (h1 : BaseM S w bb m1 E1) (h2 : BaseM S w bo m2 E2) (hS : ¬ S bb) (hap : E1.Pairwise apartE) (hoff : ∀ e ∈ E1, ∀ k, e.own k -> k ≠ bb) (hl1 : E1.length ≤ 1048576) (hl2 : E2.length ≤ 1048576) :
 Calls Tryz.prog 55 #[.pointer (some ⟨bb, 0, none⟩), .pointer (some ⟨bo, 0, none⟩)] w (RetF (fun k => k = bb) w (Merged S w bb E1 E2)) := by
 have c1 := h1.blk.cell 0 (by simp)
 have c2 := h2.blk.cell 0 (by simp)
 simp only [List.getElem_cons_zero] at c1 c2
 have H := qH (And.intro h1 (And.intro h2 (And.intro hS (And.intro hl1 hl2))))
 have HAp := qH (And.intro hap hoff)
 have hm2 := h2.map
 clear h1 h2 hS hl1 hl2 hap hoff
 go_enter Tryz.func55, Tryz.ntmps55
 go_wp2_with (at_range; refine fA rfl _ rfl rfl hm2 H.out.2.1.size (by have := H.out.2.2.2.2; unfold maxLen; omega) ?_; intro w0 cnt0 hrg0 hx0 hs0)
 go_frame
 obtain ⟨it, eit⟩ : ∃ it, w.heap.size = it := ⟨_, rfl⟩
 have HX0 := qH (And.intro hx0 eit)
 rw [eit] at hrg0
 try rw [eit]
 clear hx0 hs0 eit hm2
 go_loopw [] (fun wr => aKp w E1 E2 m2 it wr) (fun wr => leftV wr m2 it)
 case atStart => exact ⟨_, _, hrg0, qH HX0.out.1, qH fun e he hl => by cases hl⟩
 case round =>
  obtain ⟨todo, cnt, hrg, hex, hin⟩ := hrel
  have HIN := qH (And.intro hex.out hin.out)
  have HRG := qH hrg
  clear hex hin
  go_wp2_with (at_next; refine fV rfl _ rfl rfl hrg ?_ ?_)
  ·intro hl0
   have HAll := qH (fun e he => HIN.out.2 e he (hl0 e he))
   clear hl0 hrg0 hrg
   have hmm := @run_makeMap Tryz.prog
   obtain ⟨r2, er2⟩ : ∃ r2, wr.heap.size = r2 := ⟨_, rfl⟩
   obtain ⟨wB, ewB⟩ : ∃ wB, wr.alloc (.map #[] 0) = wB := ⟨_, rfl⟩
   have hxB : Ext w wB := by rw [<- ewB]; exact HIN.out.1.alloc _
   have hMB : MapIs wB r2 [] := by rw [<- ewB, <- er2]; exact MapIs.new wr
   have hzr := HIN.out.1.size
   have c1B : wB.cell? ⟨bb, 0, none⟩ = some m1 := hxB.cell c1 id
   have hmc := aAf (H.out.1.map.ext hxB) H.out.1.ok H.out.2.2.2.1 hMB (fun r hr => by have := H.out.1.mapLt r hr; omega)
   have HMC := qH hmc
   have HXB := qH (And.intro hxB (show w.heap.size ≤ r2 /\ r2 < wB.heap.size from ⟨by omega, hMB.lt⟩))
   clear hmc hxB hMB hzr
   go_wp2_with fail
   refine HMC.out.mono ?_
   rintro e wC ⟨v, rfl, hkC, EW, hmC, hpC⟩
   clear ewB er2 c1B
   have hxC : Ext w wC := HXB.out.1.trans' hkC fun k hk e => by have := HXB.out.2.1; omega
   have c2C := hxC.cell c2 id
   have c1C := hxC.cell c1 id
   have hmC2 := H.out.2.1.map.ext hxC
   have HC0 := qH (show Ext w wC /\ (∀ w0, MidM S w0 wC r2 E1 E2 (fun _ => true) EW) /\ r2 < wC.heap.size from ⟨hxC, fun w0 => MidM.start H.out.1.ok hmC hpC (fun e he => (H.out.1.rows e he).ext hxC) HAp.out.1, Nat.lt_of_lt_of_le HXB.out.2.2 hkC.size⟩)
   clear hkC hmC hpC hxC HMC hmm HIN HRG
   go_wp2_with (at_range; refine fA rfl _ rfl rfl hmC2 H.out.2.1.size (by have := H.out.2.2.2.2; unfold maxLen; omega) ?_; intro w0 cnt0 hrg0 hx0 hs0)
   go_frame
   obtain ⟨it, eit⟩ : ∃ it, wC.heap.size = it := ⟨_, rfl⟩
   rw [eit] at hrg0
   try rw [eit]
   have HX0 := qH (show Ext w w0 /\ MidM S w0 w0 r2 E1 E2 (fun _ => true) EW /\ w.heap.size ≤ r2 /\ w.heap.size ≤ it /\ r2 < it /\ it < w0.heap.size from ⟨HC0.out.1.trans hx0, (HC0.out.2.1 w0).kp hx0 id (fun _ _ _ x => x.elim) (fun _ x => x.elim) (fun k hk => Nat.lt_of_lt_of_le (H.out.1.inS k hk) HC0.out.1.size), HXB.out.2.1, by have := HC0.out.1.size; omega, by have := HC0.out.2.2; omega, by omega⟩)
   clear hx0 hs0 eit hmC2 c1C c2C HC0 HXB
   go_loopw [] (fun wr => aKo S w w0 E1 E2 m2 it r2 wr) (fun wr => leftV wr m2 it)
   case atStart => exact ⟨_, _, hrg0, qH ⟨HX0.out.1, Nat.le_refl _⟩, qH ⟨_, HX0.out.2.1⟩⟩
   case round =>
    obtain ⟨todo, cnt, hrg, hex, hin⟩ := hrel
    have HIN := qH (And.intro hex.out hin.out)
    have HRG := qH hrg
    clear hex hin
    go_wp2_with (at_next; refine fV rfl _ rfl rfl hrg ?_ ?_)
    ·intro hl0
     obtain ⟨W, hM⟩ := HIN.out.2
     have hperm := hM.perm H.out.1.ok H.out.2.1.ok hl0
     have hnoclash : ¬ sG (aE E1) (aE E2) = true := by
      rw [sF, List.any_eq_true]
      rintro ⟨e, he, h⟩
      rw [HAll.out e he] at h; cases h
     have hno65 : ¬ (aE E2).any (fun p => decide (65536 < (cB (aE E1) p).length)) = true := by
      rw [List.any_eq_true]
      rintro ⟨p, hp, h⟩
      obtain ⟨e, he, rfl⟩ := List.mem_map.1 hp
      obtain ⟨f, hf, hc⟩ := hM.new e he (hl0 e he)
      have h2 : f.LL = cB (aE E1) e.cnt := congrArg (fun p => p.2.2) hc
      rcases hM.mem f hf with ⟨_, h3⟩ | ⟨_, _, _, _, h3, _⟩
      ·have h4 := h3 e he (congrArg Prod.fst hc).symm
       have h5 : f.name = e.name := congrArg Prod.fst hc
       rw [h5, hl0 e he] at h4; cases h4
      ·rw [h2] at h3
       have := of_decide_eq_true h
       omega
     have hR : gQ (aE E1) (aE E2) = if 262144 < aS (aE W) then 4 else 0 := by
      unfold gQ
      rw [if_neg hnoclash, if_neg hno65, pK hperm]
     have hWl : W.length ≤ 2097152 := by
      have h1 := hperm.length_eq
      unfold aE fO aFx at h1
      rw [List.length_map, List.length_append, List.length_map, List.length_map] at h1
      have h2 := List.length_filter_le (fun p : aV => (bD (List.map Ent.cnt E2) p.1).isNone) (List.map Ent.cnt E1)
      rw [List.length_map] at h2
      have := H.out.2.2.2
      omega
     have hWrow : ∀ f ∈ W, f.LL.length ≤ 65536 /\ f.name.size ≤ maxLen := fun f hf => by
      rcases hM.mem f hf with ⟨h3, _⟩ | ⟨e, he, _, hc, h3, _⟩
      ·exact ⟨(H.out.1.ok.all _ (cM h3)).few, H.out.1.size f h3⟩
      ·have h5 : f.name = e.name := congrArg Prod.fst hc
       exact ⟨h3, by rw [h5]; exact H.out.2.1.size e he⟩
     have hWtot := aGg fun f hf => (hWrow f hf).1
     have hmW : MapV wr (.map (some r2)) W := .inr ⟨r2, rfl, hM.map⟩
     have HW := qH (And.intro hM (And.intro hperm (And.intro hR (And.intro hWrow (And.intro hWl hWtot)))))
     generalize hwW : wr = wW at *
     clear hwW
     have HXW := qH HIN.out.1
     have c1W := HIN.out.1.1.cell c1 id
     have f0W := (H.out.1.blk.ext HIN.out.1.1).free 0
     have f1W := (H.out.1.blk.ext HIN.out.1.1).free 1
     clear hl0 hM hperm hnoclash hno65 hR hWrow hWl hWtot hrg hrg0 HIN HRG
     go_wp2_with (at_range; refine fA rfl _ rfl rfl hmW (fun e he => (HW.out.2.2.2.1 e he).2) (by have := HW.out.2.2.2.2.1; unfold maxLen; omega) ?_; intro w3 cnt3 hrg3 hx3 hs3)
     go_frame
     obtain ⟨it3, eit3⟩ : ∃ it3, wW.heap.size = it3 := ⟨_, rfl⟩
     rw [eit3] at hrg3
     try rw [eit3]
     have HX3 := qH (show Ext wW w3 /\ it3 = wW.heap.size from ⟨hx3, eit3.symm⟩)
     clear hx3 hs3 eit3 hmW c1W f0W f1W
     go_loopw [9] (fun nv wq => aKn w3 W r2 it3 nv wq) (fun _ wq => leftV wq (.map (some r2)) it3)
     case atStart => exact ⟨_, _, hrg3, by rw [aGk]; rfl, qH (Kp.refl _)⟩
     case round =>
      obtain ⟨todo3, cnt4, hrg, rfl, hin⟩ := hrel
      have HRG := qH hrg
      have hxq : Ext w wr := (HXW.out.1.trans HX3.out.1).trans' hin.out fun k hk e => by have := HX3.out.2; have := HXW.out.1.size; omega
      have HQ := qH (And.intro hin.out hxq)
      clear hin hxq
      go_wp2_with (at_next; refine fV rfl _ rfl rfl hrg ?_ ?_)
      ·intro hl0
       rw [aIv hl0]
       have hxW : Ext wW wr := HX3.out.1.trans' HQ.out.1 fun k hk e => by have := HX3.out.2; omega
       obtain ⟨T, eT⟩ : ∃ T, aS (aE W) = T := ⟨_, rfl⟩
       have hTb := HW.out.2.2.2.2.2
       have hWl := HW.out.2.2.2.2.1
       rw [eT] at hTb ⊢
       have c1Q := HQ.out.2.cell c1 id
       have f0Q := (H.out.1.blk.ext HQ.out.2).free 0
       have f1Q := (H.out.1.blk.ext HQ.out.2).free 1
       have c2Q : wr.cell? ⟨bb, 1, none⟩ = some (.int .i64 (aS (aE E1) : Nat)) := by rw [(H.out.1.blk.ext HQ.out.2).cell']; rfl
       have HT := qH (And.intro eT hxW)
       clear hl0 hrg hrg3 eT hxW
       by_cases hmany : 262144 < T
       ·have t1 : decide ((T : Int) > 262144) = true := by simp; omega
        have t2 : decide ((262144 : Int) < (T : Int)) = true := by simp; omega
        have hR := HW.out.2.2.1
        rw [HT.out.1, if_pos hmany] at hR
        have HR := qH hR
        clear hR hmany hTb hWl
        go_wp2
        go_ret
        exact RetF.mk (Ext.kp HQ.out.2) ⟨by rw [HR.out]; rfl, fun _ => HQ.out.2, fun h => by rw [HR.out] at h; cases h⟩
       ·have t1 : decide ((T : Int) > 262144) = false := by simp; omega
        have t2 : decide ((262144 : Int) < (T : Int)) = false := by simp; omega
        have hR := HW.out.2.2.1
        rw [HT.out.1, if_neg hmany] at hR
        have HR := qH hR
        clear hR hmany hTb hWl
        go_wp2
        go_ret
        obtain ⟨x1, x2, x3, x4, x5, x6⟩ := HX0.out
        obtain ⟨f1, f2⟩ := HW.out.1.finish H.out.1 H.out.2.1.ok H.out.2.2.1 HAp.out.2 HW.out.2.1 HR.out HQ.out.2 HT.out.2 x3 (by omega)
        rw [HT.out.1] at f1
        refine RetF.mk (((Ext.kp HQ.out.2).setCell (F := fun k => k = bb) (p := ⟨bb, 0, none⟩) (fun _ => rfl) _).setCell (p := ⟨bb, 1, none⟩) (fun _ => rfl) _) ⟨by rw [HR.out]; rfl, fun h => absurd HR.out h, fun _ => ⟨r2, W, f1, HW.out.2.1, f2⟩⟩
      ·intro e0 w1 cnt1 he0 hlk hrg1 hlt hg1 hsz hen
       have hxW : Ext wW w1 := (HX3.out.1.trans' HQ.out.1 fun k hk e => by have := HX3.out.2; omega).trans' hg1 fun k hk e => by have := HX3.out.2; omega
       have hlen := gP (z := False) ((HW.out.1.rows e0 he0).ext hxW).q
       have hst := xS hlk HW.out.1.names he0
       have hle := aKy W (fun s => todo3 s && !decide (s = e0.name))
       have hTb := HW.out.2.2.2.2.2
       have hWl := HW.out.2.2.2.2.1
       obtain ⟨eb, eeb⟩ : ∃ eb, e0.b = eb := ⟨_, rfl⟩
       obtain ⟨ln, eln⟩ : ∃ ln, e0.LL.length = ln := ⟨_, rfl⟩
       obtain ⟨sm, esm⟩ : ∃ sm, mE W todo3 = sm := ⟨_, rfl⟩
       obtain ⟨x, enx⟩ : ∃ x, e0.name = x := ⟨_, rfl⟩
       have ept : e0.ptr = .pointer (some ⟨eb, 0, none⟩) := by rw [<- eeb]; rfl
       rw [eeb] at hlen
       rw [eln, esm] at hst
       rw [hst] at hle
       have hb : sm + ln ≤ 137438953472 := by omega
       have HL := qH hlen
       rw [eln] at HL
       have HS := qH (And.intro hst (And.intro hrg1 (And.intro hlt hg1)))
       rw [ept, enx] at hen
       rw [ept, enx, esm]
       clear hlk hrg1 hlt hg1 hsz hxW hlen hst hle hTb hWl eeb eln esm enx ept hrg hrg3 he0
       go_wp2_with fail
       refine HL.out.mono ?_
       rintro e w2 ⟨v, rfl, hk2, rfl, _⟩
       have HK2 := qH (Kp.fq hk2)
       clear hk2
       go_wp2
       go_roundw
       case rel => exact ⟨_, _, HS.out.2.1.kp HK2.out id (fun _ _ => id), by rw [HS.out.1, Int.natCast_add], qH ((HQ.out.1.trans HS.out.2.2.2).ext HK2.out)⟩
       case measure =>
        rw [(HS.out.2.1.kp HK2.out id (fun _ _ => id)).left_eq, HRG.out.left_eq]
        exact HS.out.2.2.1
    ·intro e0 w1 cnt1 he0 hlk hrg1 hlt hg1 hsz hen
     obtain ⟨W, hM⟩ := HIN.out.2
     have hxr := HX0.out
     have hE1 : ∀ p, w.heap.size ≤ p -> ∀ f ∈ E1, ∀ k, f.own k -> k < p := fun p hp f hf k ho => by have := RowsQ.ownLt (z := True) (H.out.1.rows f hf).q k ho; omega
     have hw1 : Ext w w1 := HIN.out.1.1.trans' hg1 fun i hi e => by omega
     have hz1 : w0.heap.size ≤ w1.heap.size := by have := HIN.out.1.2; omega
     have hSn : ∀ p, w.heap.size ≤ p -> ¬ S p := fun p hp hs => by have := H.out.1.inS p hs; omega
     have hM1 : MidM S w0 w1 r2 E1 E2 todo W := hM.kp hg1 (by omega) (fun f hf k e ho => by subst e; exact hM.gap (hE1 _ (by omega)) hxr.2.2.2.2.2 f hf ho) (fun k e => by subst e; exact hSn _ (by omega)) (fun k hk => Nat.lt_of_lt_of_le (H.out.1.inS k hk) HIN.out.1.1.size)
     have hgap := hM1.gap (p := r2) (hE1 _ (by omega)) (by omega)
     obtain ⟨x, enx⟩ : ∃ x, e0.name = x := ⟨_, rfl⟩
     obtain ⟨eb, eeb⟩ : ∃ eb, e0.b = eb := ⟨_, rfl⟩
     have ept : e0.ptr = .pointer (some ⟨eb, 0, none⟩) := by rw [<- eeb]; rfl
     have hcp := uY (z := False) ((H.out.2.1.ext hw1).rows e0 he0).q
     rw [eeb] at hcp
     have HC := qH hcp
     have HE := qH (And.intro he0 (And.intro enx (And.intro hlk (And.intro hrg1 (And.intro hlt (And.intro hw1 (And.intro hz1 (And.intro hM1 (And.intro hgap (And.intro (hSn r2 (by omega)) (And.intro hE1 eeb)))))))))))
     rw [ept, enx] at hen
     rw [ept, enx]
     clear he0 hlk hrg1 hlt hg1 hsz ept hrg hw1 hz1 hSn hM hM1 hgap hxr hcp eeb enx hE1
     go_wp2_with fail
     refine HC.out.mono ?_
     rintro e w5 ⟨v, rfl, hk5, _, b', iv', rfl, hb', hiv', hr'⟩
     have hx5 : Ext w1 w5 := Kp.fq hk5
     obtain ⟨w6, hu, hm6, hk6⟩ := dZ (P := Tryz.prog) Tryz.underlying127 Tryz.underlying9 (HE.out.2.2.2.2.2.2.2.1.map.ext hx5) x (.pointer (some ⟨b', 0, none⟩))
     have hxr := HX0.out
     have hx6 : Ext w w6 := (HE.out.2.2.2.2.2.1.trans hx5).trans' hk6 fun k hk e => by omega
     have hlook := (H.out.1.map.ext hx6).lookup x _ rfl
     have c1' := hx6.cell c1 id
     have hown : ∀ k, dS b' iv' k -> w1.heap.size ≤ k := fun k ho => by
      rcases ho with ho | ho
      ·rw [ho]; exact hb'
      ·exact hiv' k ho
     have H5 := qH (And.intro hx5 (And.intro hm6 (And.intro hk6 (And.intro hx6 (And.intro hown hr')))))
     clear hk5 hb' hiv' hr' hm6 hk6 hx6 hown hx5 hxr HC
     cases hf : aY E1 x with
     | none =>
      rw [hf] at hlook
      have hlook' : (Instr.lookup 127 m1 (.string x) false).run Tryz.prog w6 = .ok (.pointer none) w6 := hlook
      have HFin := qH (show IterE w6 m2 it E2 (fun s => todo s && !decide (s = e0.name)) cnt1 /\ Ext w w6 /\ w0.heap.size ≤ w6.heap.size /\ ∃ W, MidM S w0 w6 r2 E1 E2 (fun s => todo s && !decide (s = e0.name)) W from by
       obtain ⟨hx5, hm6, hk6, hx6, hown, hr'⟩ := H5.out
       obtain ⟨he0, enx, hlk, hrg1, hlt, hw1, hz1, hM1, hgap, hSr, hE1, eeb⟩ := HE.out
       obtain ⟨x1, x2, x3, x4, x5, x6⟩ := HX0.out
       have hk16 : Kp (fun k => k = r2) w1 w6 := (Ext.kp hx5).trans hk6
       have hrg6 := hrg1.kp hk16 (by omega) (fun r hr e => by have := H.out.2.1.mapLt r hr; omega)
       refine ⟨hrg6, hx6, by have := hk16.size; omega, gA W ⟨x, b', iv', e0.ar, e0.LL⟩, hM1.put H.out.2.1.ok he0 hlk (by rw [aH8 (by rw [enx]; exact hf)]; show (x, e0.ar, e0.LL) = (e0.name, e0.ar, e0.LL); rw [enx]) (H.out.2.1.ok.all _ (cM he0)).few hz1 hown hk16 hgap hSr (by rw [<- sE]; exact hm6) (oL hr' hk6 (fun ho => by have := hown _ ho; omega) hSr)⟩)
      clear hlook hf
      go_wp2
      go_roundw
      case rel => exact ⟨_, _, HFin.out.1, qH ⟨HFin.out.2.1, HFin.out.2.2.1⟩, qH HFin.out.2.2.2⟩
      case measure =>
       rw [HFin.out.1.left_eq, HRG.out.left_eq]
       exact HE.out.2.2.2.2.1
     | some f0 =>
      rw [hf] at hlook
      obtain ⟨hf0, hfn⟩ := bP hf
      obtain ⟨fb, efb⟩ : ∃ fb, f0.b = fb := ⟨_, rfl⟩
      have hlook' : (Instr.lookup 127 m1 (.string x) false).run Tryz.prog w6 = .ok (.pointer (some ⟨fb, 0, none⟩)) w6 := by rw [<- efb]; exact hlook
      have har : f0.ar = e0.ar := by
       have := HAll.out e0 HE.out.1
       unfold pR at this
       rw [HE.out.2.1, hf] at this
       simpa using this
      have hr0 := (H.out.1.rows f0 hf0).ext H5.out.2.2.2.1
      have hr1 := (H.out.2.1.rows e0 HE.out.1).ext H5.out.2.2.2.1
      rw [har] at hr0
      have hun := aBe (z1 := False) (z2 := False) hr0.q hr1.q (fun h => h.elim False.elim False.elim) (by have := (H.out.1.ok.all _ (cM hf0)).few; have := (H.out.2.1.ok.all _ (cM HE.out.1)).few; have h1 : f0.LL.length ≤ 65536 := ‹_›; have h2 : e0.LL.length ≤ 65536 := ‹_›; omega)
      rw [efb, HE.out.2.2.2.2.2.2.2.2.2.2.2] at hun
      have HU := qH hun
      have HF := qH (And.intro hf (And.intro har efb))
      clear hlook hf hf0 hfn efb har hr0 hr1 hun
      go_wp2_with fail
      refine HU.out.mono ?_
      rintro e w7 ⟨v, rfl, hk7, _, _, hq⟩
      have hx7 : Ext w6 w7 := hk7.mono fun _ _ h => h.elim (fun h => h.1) (fun h => h.1)
      have hbo : lE (aE E1) e0.cnt = (x, e0.ar, cG aC (f0.LL ++ e0.LL)) := by rw [aH7 (by rw [HE.out.2.1]; exact HF.out.1), HE.out.2.1]
      unfold fU at hq
      by_cases h65 : 65536 < (cG aC (f0.LL ++ e0.LL)).length
      ·rw [if_pos h65] at hq
       subst hq
       have hR : gQ (aE E1) (aE E2) = 4 := by
        unfold gQ
        rw [if_neg, if_pos]
        ·rw [List.any_eq_true]
         refine ⟨e0.cnt, cM HE.out.1, decide_eq_true ?_⟩
         have h9 : (lE (aE E1) e0.cnt).2.2 = cB (aE E1) e0.cnt := rfl
         rw [<- h9, hbo]; exact h65
        ·rw [sF, List.any_eq_true]
         rintro ⟨e, he, h⟩
         rw [HAll.out e he] at h; cases h
       have HR := qH (And.intro hR (H5.out.2.2.2.1.trans hx7))
       clear hR hx7 hk7 hbo h65 hlook' hu
       go_wp2
       go_ret
       exact RetF.mk (Ext.kp HR.out.2) ⟨by rw [HR.out.1]; rfl, fun _ => HR.out.2, fun h => by rw [HR.out.1] at h; cases h⟩
      ·rw [if_neg h65] at hq
       obtain ⟨b2, iv2, rfl, hb2, hiv2, hr2⟩ := hq
       obtain ⟨w8, hu8, hm8, hk8⟩ := dZ (P := Tryz.prog) Tryz.underlying127 Tryz.underlying9 (H5.out.2.1.ext hx7) x (.pointer (some ⟨b2, 0, none⟩))
       have HFin := qH (show IterE w8 m2 it E2 (fun s => todo s && !decide (s = e0.name)) cnt1 /\ Ext w w8 /\ w0.heap.size ≤ w8.heap.size /\ ∃ W, MidM S w0 w8 r2 E1 E2 (fun s => todo s && !decide (s = e0.name)) W from by
        obtain ⟨hx5, hm6, hk6, hx6, hown, hr'⟩ := H5.out
        obtain ⟨he0, enx, hlk, hrg1, hlt, hw1, hz1, hM1, hgap, hSr, hE1, eeb⟩ := HE.out
        obtain ⟨x1, x2, x3, x4, x5, x6⟩ := HX0.out
        have hk16 : Kp (fun k => k = r2) w1 w6 := (Ext.kp hx5).trans hk6
        have hk18 : Kp (fun k => k = r2) w1 w8 := (hk16.ext hx7).trans hk8
        have hrg8 := hrg1.kp hk18 (by omega) (fun r hr e => by have := H.out.2.1.mapLt r hr; omega)
        have hz6 := hk16.size
        have hown2 : ∀ k, dS b2 iv2 k -> w1.heap.size ≤ k := fun k ho => by
         rcases ho with ho | ho
         ·omega
         ·have := hiv2 k ho; omega
        have hmW : MapIs w8 r2 (cJ (gA W ⟨x, b2, iv2, e0.ar, cG aC (f0.LL ++ e0.LL)⟩)) := by
         have e1 := sE W ⟨x, b', iv', e0.ar, e0.LL⟩
         have e2 := sE (gA W ⟨x, b', iv', e0.ar, e0.LL⟩) ⟨x, b2, iv2, e0.ar, cG aC (f0.LL ++ e0.LL)⟩
         rw [aI6 (W := W) (f1 := ⟨x, b', iv', e0.ar, e0.LL⟩) (f2 := ⟨x, b2, iv2, e0.ar, cG aC (f0.LL ++ e0.LL)⟩) rfl, <- e1] at e2
         rw [<- e2]; exact hm8
        refine ⟨hrg8, (hx6.trans hx7).trans' hk8 fun k hk e => by omega, by have := hk18.size; omega, gA W ⟨x, b2, iv2, e0.ar, cG aC (f0.LL ++ e0.LL)⟩, hM1.put H.out.2.1.ok he0 hlk hbo.symm (by show (cG aC (f0.LL ++ e0.LL)).length ≤ 65536; omega) hz1 hown2 hk18 hgap hSr hmW (oL hr2 hk8 (fun ho => by have := hown2 _ ho; omega) hSr)⟩)
       clear hk7 hx7 hbo h65 hb2 hiv2 hr2 hm8 hk8
       go_wp2
       go_roundw
       case rel => exact ⟨_, _, HFin.out.1, qH ⟨HFin.out.2.1, HFin.out.2.2.1⟩, qH HFin.out.2.2.2⟩
       case measure =>
        rw [HFin.out.1.left_eq, HRG.out.left_eq]
        exact HE.out.2.2.2.2.1
  ·intro e0 w1 cnt1 he0 hlk hrg1 hlt hg1 hsz hen
   have hw1 : Ext w w1 := HIN.out.1.trans' hg1 fun i hi e => by have := HX0.out; omega
   have hlook := (H.out.1.map.ext hw1).lookup e0.name _ rfl
   have c1' := hw1.cell c1 id
   obtain ⟨x, enx⟩ : ∃ x, e0.name = x := ⟨_, rfl⟩
   obtain ⟨eb, eeb⟩ : ∃ eb, e0.b = eb := ⟨_, rfl⟩
   obtain ⟨ar, ear⟩ : ∃ ar, e0.ar = ar := ⟨_, rfl⟩
   have ept : e0.ptr = .pointer (some ⟨eb, 0, none⟩) := by rw [<- eeb]; rfl
   have d0 : w1.cell? ⟨eb, 2, none⟩ = some (.int .i64 ar) := by rw [<- eeb, ((H.out.2.1.rows e0 he0).ext hw1).blk.cell', ear]; rfl
   have hleft : ∀ e ∈ E2, (todo e.name && !decide (e.name = e0.name)) = false -> todo e.name = false \/ e = e0 := fun e he h => by
    rw [Bool.and_eq_false_iff] at h
    rcases h with h | h
    ·exact .inl h
    ·right
     have h1 := dQ H.out.2.1.ok he
     have h2 := dQ H.out.2.1.ok he0
     rw [show e.name = e0.name by simpa using h, h2] at h1
     injection h1 with h1; exact h1.symm
   have HE := qH (And.intro he0 (And.intro enx (And.intro ear (And.intro hrg1 (And.intro hlt (And.intro hw1 hleft))))))
   rw [ept, enx] at hen
   rw [ept, enx]
   rw [enx] at hlook
   clear he0 hleft hrg1 hlt hg1 hsz hlk ept eeb ear enx hrg hw1 hrg0
   cases hf : aY E1 x with
   | none =>
    rw [hf] at hlook
    have hlook' : (Instr.lookup 127 m1 (.string x) false).run Tryz.prog w1 = .ok (.pointer none) w1 := hlook
    have HF := qH hf
    clear hlook hf
    go_wp2
    refine bB (fun w' : World => w'.cell? ⟨eb, 2, none⟩ = some (.int .i64 ar)) [] (by kernel_rfl) d0 (fun hHeld => ?_)
    refine dF 0 ?_; try simp only [Act.put,sI,sZ,sS]
    refine dF 1 ?_; try simp only [Act.put,sI,sZ,sS]
    refine dF 2 ?_; try simp only [Act.put,sI,sZ,sS]
    (first | (refine dF 3 ?_) | (refine dO 3 ?_)); (try simp only [Act.put,sI,sZ,sS])
    (first | (refine dF 4 ?_) | (refine dO 4 ?_)); (try simp only [Act.put,sI,sZ,sS])
    (first | (refine dF 5 ?_) | (refine dO 5 ?_)); (try simp only [Act.put,sI,sZ,sS])
    (first | (refine dI 6 ?_) | (refine dO 6 ?_)); (try simp only [Act.put,sI,sZ,sS])
    (first | (refine dF 7 ?_) | (refine dO 7 ?_)); (try simp only [Act.put,sI,sZ,sS])
    (first | (refine dF 8 ?_) | (refine dO 8 ?_)); (try simp only [Act.put,sI,sZ,sS])
    (first | (refine dF 9 ?_) | (refine dO 9 ?_)); (try simp only [Act.put,sI,sZ,sS])
    (first | (refine dI 10 ?_) | (refine dO 10 ?_)); (try simp only [Act.put,sI,sZ,sS])
    (first | (refine dF 11 ?_) | (refine dO 11 ?_)); (try simp only [Act.put,sI,sZ,sS])
    refine dF 12 ?_; try simp only [Act.put,sI,sZ,sS]
    refine aL (by kernel_rfl) ?_ _
    clear hHeld
    go_wp2
    go_roundw
    case rel => exact ⟨_, _, HE.out.2.2.2.1.kp (Kp.refl w1).drew (F := fun _ => False) id (fun _ _ => id), qH HE.out.2.2.2.2.2.1.drew, qH fun e he hl => by
     rcases HE.out.2.2.2.2.2.2 e he hl with h | rfl
     ·exact HIN.out.2 e he h
     ·unfold pR; rw [HE.out.2.1, HF.out]⟩
    case measure =>
     rw [(HE.out.2.2.2.1.kp (Kp.refl w1).drew (F := fun _ => False) id (fun _ _ => id)).left_eq, HRG.out.left_eq]
     exact HE.out.2.2.2.2.1
   | some f =>
    rw [hf] at hlook
    have hlook' : (Instr.lookup 127 m1 (.string x) false).run Tryz.prog w1 = .ok (.pointer (some ⟨f.b, 0, none⟩)) w1 := hlook
    obtain ⟨fb, efb⟩ : ∃ fb, f.b = fb := ⟨_, rfl⟩
    obtain ⟨fa, efa⟩ : ∃ fa, f.ar = fa := ⟨_, rfl⟩
    have d1 : w1.cell? ⟨fb, 2, none⟩ = some (.int .i64 fa) := by rw [<- efb, ((H.out.1.rows f (bP hf).1).ext HE.out.2.2.2.2.2.1).blk.cell', efa]; rfl
    rw [efb] at hlook'
    have hcl : pR E1 e0 = decide (fa ≠ ar) := by unfold pR; rw [HE.out.2.1, hf, <- efa, HE.out.2.2.1]
    have HF := qH (And.intro hf (And.intro efb (And.intro efa hcl)))
    clear hlook hf efb efa hcl
    have HD := qH (show (fun w' : World => w'.cell? ⟨eb, 2, none⟩ = some (.int .i64 ar) /\ w'.cell? ⟨fb, 2, none⟩ = some (.int .i64 fa)) w1.drew from ⟨d0, d1⟩)
    by_cases hne : fa = ar
    ·have q1 : ((fa : Int) != (ar : Int)) = false := by simp [hne]
     have HNE := qH hne
     clear hne
     go_wp2
     refine bB (fun w' : World => w'.cell? ⟨eb, 2, none⟩ = some (.int .i64 ar) /\ w'.cell? ⟨fb, 2, none⟩ = some (.int .i64 fa)) [] (by kernel_rfl) HD.out (fun hHeld => ?_)
     refine dF 0 ?_; try simp only [Act.put,sI,sZ,sS]
     refine dF 1 ?_; try simp only [Act.put,sI,sZ,sS]
     refine dF 2 ?_; try simp only [Act.put,sI,sZ,sS]
     (first | (refine dF 3 ?_) | (refine dO 3 ?_)); (try simp only [Act.put,sI,sZ,sS])
     (first | (refine dF 4 ?_) | (refine dO 4 ?_)); (try simp only [Act.put,sI,sZ,sS])
     (first | (refine dF 5 ?_) | (refine dO 5 ?_)); (try simp only [Act.put,sI,sZ,sS])
     (first | (refine dI 6 ?_) | (refine dO 6 ?_)); (try simp only [Act.put,sI,sZ,sS])
     (first | (refine dF 7 ?_) | (refine dO 7 ?_)); (try simp only [Act.put,sI,sZ,sS])
     (first | (refine dF 8 ?_) | (refine dO 8 ?_)); (try simp only [Act.put,sI,sZ,sS])
     (first | (refine dF 9 ?_) | (refine dO 9 ?_)); (try simp only [Act.put,sI,sZ,sS])
     (first | (refine dI 10 ?_) | (refine dO 10 ?_)); (try simp only [Act.put,sI,sZ,sS])
     (first | (refine dF 11 ?_) | (refine dO 11 ?_)); (try simp only [Act.put,sI,sZ,sS])
     refine dF 12 ?_; try simp only [Act.put,sI,sZ,sS]
     refine aL (by kernel_rfl) ?_ _
     clear hHeld
     go_wp2
     go_roundw
     case rel => exact ⟨_, _, HE.out.2.2.2.1.kp (Kp.refl w1).drew (F := fun _ => False) id (fun _ _ => id), qH HE.out.2.2.2.2.2.1.drew, qH fun e he hl => by
      rcases HE.out.2.2.2.2.2.2 e he hl with h | rfl
      ·exact HIN.out.2 e he h
      ·rw [HF.out.2.2.2, HNE.out]; simp⟩
     case measure =>
      rw [(HE.out.2.2.2.1.kp (Kp.refl w1).drew (F := fun _ => False) id (fun _ _ => id)).left_eq, HRG.out.left_eq]
      exact HE.out.2.2.2.2.1
    ·have q1 : ((fa : Int) != (ar : Int)) = true := by rw [bne_iff_ne]; omega
     have HNE := qH hne
     clear hne
     go_wp2
     refine bB (fun w' : World => w'.cell? ⟨eb, 2, none⟩ = some (.int .i64 ar) /\ w'.cell? ⟨fb, 2, none⟩ = some (.int .i64 fa)) [] (by kernel_rfl) HD.out (fun hHeld => ?_)
     refine dF 0 ?_; try simp only [Act.put,sI,sZ,sS]
     refine dF 1 ?_; try simp only [Act.put,sI,sZ,sS]
     refine dF 2 ?_; try simp only [Act.put,sI,sZ,sS]
     (first | (refine dF 3 ?_) | (refine dO 3 ?_)); (try simp only [Act.put,sI,sZ,sS])
     (first | (refine dF 4 ?_) | (refine dO 4 ?_)); (try simp only [Act.put,sI,sZ,sS])
     (first | (refine dF 5 ?_) | (refine dO 5 ?_)); (try simp only [Act.put,sI,sZ,sS])
     (first | (refine dI 6 ?_) | (refine dO 6 ?_)); (try simp only [Act.put,sI,sZ,sS])
     (first | (refine dF 7 ?_) | (refine dO 7 ?_)); (try simp only [Act.put,sI,sZ,sS])
     (first | (refine dF 8 ?_) | (refine dO 8 ?_)); (try simp only [Act.put,sI,sZ,sS])
     (first | (refine dF 9 ?_) | (refine dO 9 ?_)); (try simp only [Act.put,sI,sZ,sS])
     (first | (refine dI 10 ?_) | (refine dO 10 ?_)); (try simp only [Act.put,sI,sZ,sS])
     (first | (refine dF 11 ?_) | (refine dO 11 ?_)); (try simp only [Act.put,sI,sZ,sS])
     refine dF 12 ?_; try simp only [Act.put,sI,sZ,sS]
     refine aL (by kernel_rfl) ?_ _
     clear hHeld
     go_wp2
     go_ret
     have hR : gQ (aE E1) (aE E2) = 30 := by
      unfold gQ
      rw [if_pos]
      rw [sF, List.any_eq_true]
      exact ⟨e0, HE.out.1, by rw [HF.out.2.2.2]; exact decide_eq_true HNE.out⟩
     refine RetF.mk (Ext.kp HE.out.2.2.2.2.2.1.drew) ⟨by rw [hR]; rfl, fun _ => HE.out.2.2.2.2.2.1.drew, fun h => by rw [hR] at h; cases h⟩
end Go.Proofs.YtinnmeiphbdogaaGreat
/- The law of joins: JoinMore. -/
namespace Go.Proofs.YtinnmeiphbdogaaGreat
open Go.RowKit Go.Shelf
attribute [local go_sem] Oper.semAt_some
theorem aHp {L : List iJ} (h : (cD [] L).2 = 0) : (cD [] L).1.length ≤ L.length := by
 have ho := aFz (L := L) vG
 obtain ⟨_, _, _, r4⟩ := aCi vG h
 have h1 := yB (U := L.map (·.1)) ho.nodup fun s hs => by
  obtain ⟨v, hv⟩ : ∃ v, bD (cD [] L).1 s = some v := by
   cases hg : bD (cD [] L).1 s with
   | none => exact absurd hs (iT.1 hg)
   | some v => exact ⟨v, rfl⟩
  rcases r4 s v hv with ⟨u, hu⟩ | ⟨r, hr, e⟩
  ·cases hu
  ·exact List.mem_map.2 ⟨r, hr, e⟩
 rwa [List.length_map, List.length_map] at h1
theorem BaseIn.val {w w' : World} {L : List iJ} {v : Value} (h : BaseIn w L w' v) : ∃ o c, v = .tuple #[.pointer o, .bool c] /\ (c = true -> ∃ bb r S E, o = some ⟨bb, 0, none⟩ /\ BaseAt S w' bb r E /\ E.length ≤ L.length /\ (∀ k, S k -> w.heap.size ≤ k) /\ ∀ k, dX bb r E k -> w.heap.size ≤ k) := by
 rcases h with ⟨h0, bb, r, S, E, rfl, h1, h2, h3, h4⟩ | ⟨_, rfl⟩
 ·refine ⟨_, _, rfl, fun _ => ⟨bb, r, S, E, rfl, h1, ?_, h3, h4⟩⟩
  have := aHp h0
  rw [<- h2] at this
  unfold aE at this
  rwa [List.length_map] at this
 ·exact ⟨none, false, rfl, fun h => by cases h⟩
theorem yA {C D : List aV} (hC : (C.map (·.1)).Nodup) (h : C.Perm D) (s : ByteArray) : bD C s = bD D s := by
 have hD : (D.map (·.1)).Nodup := (h.map _).nodup_iff.1 hC
 have key : ∀ v, bD C s = some v ↔ bD D s = some v := fun v => by rw [cV hC, cV hD]; exact h.mem_iff
 cases hc : bD C s with
 | some v => exact ((key v).1 hc).symm
 | none =>
  cases hd : bD D s with
  | none => rfl
  | some v => rw [(key v).2 hd] at hc; cases hc
def aKm (wp w0 : World) (A N : List ByteArray) (m : Nat) (ov iv : Value) (W : World) : Prop := ∃ i : Nat, i ≤ m /\ iv = .int .i64 i /\ Hid (Ext w0 W) /\ Hid (Row W 9 1 ov ((N.take i).foldl (bJ bL) A).length (strs ((N.take i).foldl (bJ bL) A)) (New wp))
theorem vZ (xs : List ByteArray) : ∀ acc : List ByteArray, (xs.foldl (bJ bL) acc).length ≤ acc.length + xs.length := by
 induction xs with
 | nil => intro acc; exact Nat.le_refl _
 | cons x xs ih =>
  intro acc
  have h1 := ih (bJ bL acc x)
  have h2 := oE (c := bL) acc x
  rw [List.foldl_cons, List.length_cons]
  have h3 : (if bC bL acc x = true then 0 else 1) ≤ 1 := by split <;> omega
  omega
def vE (x : Int) (n : Nat) : Nat := (if x.tmod n < 0 then x.tmod n + n else x.tmod n).toNat
theorem aGv (x : Int) (n : Nat) (hn : 0 < n) : ((vE x n : Nat) : Int) = (if x.tmod n < 0 then x.tmod n + n else x.tmod n) /\ vE x n < n := by
 have b1 : x.tmod n < n := Int.tmod_lt_of_pos x (by omega)
 have b2 : -(n : Int) < x.tmod n := by
  have h1 := Int.tmod_eq_emod (a := x) (b := n)
  have h3 := Int.emod_lt_of_pos x (show (0 : Int) < n by omega)
  have h4 := Int.emod_nonneg x (show (n : Int) ≠ 0 by omega)
  have h5 : (n : Int).natAbs = n := by omega
  rw [h5] at h1
  split at h1 <;> omega
 unfold vE
 split <;> omega
set_option maxRecDepth 100000 in
set_option maxHeartbeats 16000000 in
theorem aEc {w : World} {p : ByteArray} {hs : List aH} {ls : List aO} {ha ba la fa : Option Addr} {hn hcap n bcap ln lc fn fc : Nat} {G : Nat -> Prop} {L1 L2 : List iJ} {k : Int} (hhn : hn = hs.length) (hh : bE w G ha hs) (hhl : hn ≤ 1048576) (hbn : n = ls.length) (h : dN w G ba ls) (hf : Fit ls) (hnv : (aB ls).length ≤ 1048576)
 (hln : ln = L1.length) (hL1 : RelsIn TT w la L1) (hll : ln ≤ 1048576) (hr1 : ∀ q ∈ L1, q.2.2.1.length ≤ 1048576) (hfn : fn = L2.length) (hL2 : RelsIn TT w fa L2) (hfl : fn ≤ 1048576) (hr2 : ∀ q ∈ L2, q.2.2.1.length ≤ 1048576) :
 Calls Tryz.prog 9 #[eS p ha hn hcap ba n bcap, .slice la ln lc, .slice fa fn fc, .int .i64 k] w (RetN w fun w' v => v = .bool true) := by
 have hl : n ≤ 1048576 := by have := hf.len; omega
 have HE := qH h; have HF := qH hf; have HN := qH hbn
 have HB1 := qH (fun (W : World) (hW : Ext w W) => wS L1 la ln lc W TT hln (hL1.ext hW) (by omega) hr1)
 have HB2 := qH (fun (W : World) (hW : Ext w W) => wS L2 fa fn fc W TT hfn (hL2.ext hW) (by omega) hr2)
 have HFw := qH (fun (W : World) (hW : Ext w W) (S : Nat -> Prop) (v : Value) (E : List Ent) (hB : BaseV S W v E) => aHt (p := p) (hs := hs) (hn := hn) (hcap := hcap) (bcap := bcap) (ha := ha) hbn (h.ext hW) hf hB)
 have HOv := qH (fun (W : World) (hW : Ext w W) (S1 S2 : Nat -> Prop) (o1 o2 : Option Addr) (E1 E2 : List Ent) (k : Int) (hA : BaseV S1 W (.pointer o1) E1) (hB : BaseV S2 W (.pointer o2) E2) (hLn : (bA ((p, hs, ()), ls, ()) (aE E1) (aE E2) k).length ≤ 20000) => aD4 (p := p) (hcap := hcap) (bcap := bcap) (L := bA ((p, hs, ()), ls, ()) (aE E1) (aE E2) k) hhn (hh.ext hW) hhl hbn (h.ext hW) hf hnv hl hA hB (aC2 ((p, hs, ()), ls, ()) E1 E2 k) (by omega))
 have HL := qH (And.intro hln (And.intro hfn (And.intro hll hfl)))
 obtain ⟨g0, eg0⟩ : ∃ g, w.heap.size = g := ⟨_, rfl⟩
 obtain ⟨w1, e1⟩ : ∃ x, w.alloc (.cells #[.string p, .slice ha hn hcap, .slice ba n bcap] 27) = x := ⟨_, rfl⟩
 have hB1 : Blk w1 g0 [.string p, .slice ha hn hcap, .slice ba n bcap] 27 := by rw [<- e1, <- eg0]; exact Blk.new w _ _
 have hx1 : Ext w w1 := by rw [<- e1]; exact (Kp.refl w).alloc _
 have H1 := qH (And.intro hx1 hB1)
 clear hB1 hx1 hhn hh hbn h hf hnv hln hL1 hll hr1 hfn hL2 hfl hr2
 go_enter Tryz.func9, Tryz.ntmps9
 go_wp2_with fail
 clear e1 eg0
 refine (HB1.out w1 H1.out.1).mono ?_
 rintro e w2 ⟨v2, rfl, hk2, hv2⟩
 obtain ⟨o1, c1, rfl, hc1⟩ := hv2.val
 have H2 := qH (And.intro (H1.out.1.trans hk2) (And.intro (H1.out.2.ext hk2) hc1))
 have hsz1 := H1.out.1.size
 have hsz2 := hk2.size
 clear hv2 hc1 hk2
 go_wp2_with fail
 refine (HB2.out w2 H2.out.1).mono ?_
 rintro e w3 ⟨v3, rfl, hk3, hv3⟩
 obtain ⟨o2, c2, rfl, hc2⟩ := hv3.val
 have H3 := qH (And.intro (H2.out.1.trans hk3) (And.intro (H2.out.2.1.ext hk3) (And.intro hc2 hk3)))
 clear hv3 hc2 hk3
 have HSz := qH (And.intro hsz1 hsz2)
 clear hsz1 hsz2
 cases c1
 ·go_wp2_with fail
  refine (kD w3).mono ?_
  rintro e w4 ⟨v, rfl, hk4, rfl⟩
  have X4 := qH (H3.out.1.trans hk4)
  clear hk4
  go_wp2
  go_ret
  exact RetN.mk X4.out rfl
 cases c2
 ·go_wp2_with fail
  refine (kD w3).mono ?_
  rintro e w4 ⟨v, rfl, hk4, rfl⟩
  have X4 := qH (H3.out.1.trans hk4)
  clear hk4
  go_wp2
  go_ret
  exact RetN.mk X4.out rfl
 go_wp2_with fail
 refine (kD w3).mono ?_
 rintro e w4 ⟨v, rfl, hk4, rfl⟩
 have hb4 := H3.out.2.1.ext hk4
 have r2 : w4.cell? ⟨g0, 2, none⟩ = some (.slice ba n bcap) := by rw [hb4.cell']; rfl
 have H4 := qH (And.intro (H3.out.1.trans hk4) (And.intro hb4 hk4))
 clear hk4 hb4
 by_cases hn0 : n = 0
 ·have hn1 : ((n : Int) == 0) = true := by simp; omega
  clear hn0
  go_wp2_with fail
  refine (kD w4).mono ?_
  rintro e w5 ⟨v, rfl, hk5, rfl⟩
  have X5 := qH (H4.out.1.trans hk5)
  clear hk5
  go_wp2
  go_ret
  exact RetN.mk X5.out rfl
 have hn1 : ((n : Int) == 0) = false := by simp; omega
 obtain ⟨b1, m1, S1, E1, rfl, hA1, hE1, hS1, hO1⟩ := H2.out.2.2 (by first | rfl | trivial)
 obtain ⟨b2, m2, S2, E2, rfl, hA2, hE2, hS2, hO2⟩ := H3.out.2.2.1 (by first | rfl | trivial)
 have hA1' : BaseAt S1 w4 b1 m1 E1 := (hA1.ext H3.out.2.2.2).ext H4.out.2.2
 have hA2' : BaseAt S2 w4 b2 m2 E2 := hA2.ext H4.out.2.2
 have hEl := HL.out
 have HCp := qH (aAo hA1' (by omega))
 have HBB := qH (show BaseAt S1 w4 b1 m1 E1 /\ BaseAt S2 w4 b2 m2 E2 /\ (∀ k, S1 k -> k < w2.heap.size) /\ (∀ k, S2 k -> w2.heap.size ≤ k) /\ (∀ k, dX b2 m2 E2 k -> w2.heap.size ≤ k) /\ E1.length ≤ 1048576 /\ E2.length ≤ 1048576 /\ w2.heap.size ≤ w4.heap.size from ⟨hA1', hA2', hA1.inS, hS2, hO2, by omega, by omega, Nat.le_trans H3.out.2.2.2.size H4.out.2.2.size⟩)
 clear hA1 hE1 hS1 hO1 hA2 hE2 hS2 hO2 hA1' hA2' hEl H2 H3
 go_wp2_with fail
 refine HCp.out.mono ?_
 rintro e w5 ⟨v, rfl, hk5, b3, r3, E3, rfl, hA3, hP3, hO3⟩
 obtain ⟨q1, q2, q3, q4, q5, q6, q7, q8⟩ := HBB.out
 have hA3w : BaseAt (fun k => S1 k \/ S2 k) w5 b3 r3 E3 := hA3.wide (fun k h => .inl h) (fun k h => by
  rcases h with h | h
  ·exact hA3.inS k h
  ·exact Nat.lt_of_lt_of_le (q2.inS k h) hk5.size) (fun k ho h => by
  have h1 := hO3 k ho
  rcases h with h | h
  ·exact hA3.notOwn k ho h
  ·have := q2.inS k h; omega)
 have q2' := q2.ext hk5
 have hA2w : BaseAt (fun k => S1 k \/ S2 k) w5 b2 m2 E2 := q2'.wide (fun k h => .inr h) (fun k h => by
  rcases h with h | h
  ·exact hA3.inS k h
  ·exact q2'.inS k h) (fun k ho h => by
  have h1 := q5 k ho
  rcases h with h | h
  ·have := q3 k h; omega
  ·exact q2'.notOwn k ho h)
 have hE3 : E3.length = E1.length := by have := hP3.length_eq; unfold aE at this; rwa [List.length_map, List.length_map] at this
 have HMg := qH (xI hA3w.m hA2w.m hA3w.notS.1 hA3w.apart (fun e he k hk => (hA3w.off e he k hk).1) (by omega) q7)
 have H5 := qH (show Ext w w5 /\ Blk w5 g0 [.string p, .slice ha hn hcap, .slice ba n bcap] 27 /\ BaseAt S1 w5 b1 m1 E1 /\ BaseAt (fun k => S1 k \/ S2 k) w5 b2 m2 E2 /\ w4.heap.size ≤ b3 /\ (aE E3).Perm (aE E1) /\ BaseOk (aE E3) /\ (∀ k, dX b1 m1 E1 k -> k < w4.heap.size) /\ (∀ k, dX b2 m2 E2 k -> k < w4.heap.size) /\ (∀ k, S1 k \/ S2 k -> k < w4.heap.size) /\ g0 < w4.heap.size from
  ⟨H4.out.1.trans hk5, H4.out.2.1.ext hk5, q1.ext hk5, hA2w, hO3 b3 (.inl rfl), hP3, hA3.ok, q1.ownLt, q2.ownLt, fun k h => by
   rcases h with h | h
   ·exact q1.inS k h
   ·exact q2.inS k h, H4.out.2.1.lt⟩)
 have hsz4 := H4.out.1.size
 clear hk5 hA3 hP3 hO3 q1 q2 q3 q4 q5 q6 q7 q8 hA3w q2' hA2w hE3 r2
 go_wp2_with fail
 refine HMg.out.mono ?_
 rintro e w6 ⟨v, rfl, hk6, rfl, -, hmg⟩
 have hx6 : Ext w w6 := H5.out.1.trans' hk6 fun i hi e => by have := H5.out.2.2.2.2.1; omega
 have hb6 := H5.out.2.1.kp hk6 fun e => by have := H5.out.2.2.2.2.1; have := H5.out.2.2.2.2.2.2.2.2.2.2; omega
 have H6 := qH (show Ext w w6 /\ Blk w6 g0 [.string p, .slice ha hn hcap, .slice ba n bcap] 27 /\ BaseAt S1 w6 b1 m1 E1 /\ BaseAt (fun k => S1 k \/ S2 k) w6 b2 m2 E2 from
  ⟨hx6, hb6, H5.out.2.2.1.kp hk6 (fun k e ho => by have := H5.out.2.2.2.2.2.2.2.1 k ho; have := H5.out.2.2.2.2.1; omega) (fun k e hs => by have := H5.out.2.2.2.2.2.2.2.2.2.1 k (.inl hs); have := H5.out.2.2.2.2.1; omega),
   H5.out.2.2.2.1.kp hk6 (fun k e ho => by have := H5.out.2.2.2.2.2.2.2.2.1 k ho; have := H5.out.2.2.2.2.1; omega) (fun k e hs => by have := H5.out.2.2.2.2.2.2.2.2.2.1 k hs; have := H5.out.2.2.2.2.1; omega)⟩)
 have HMr := qH hmg
 obtain ⟨mr, emr⟩ : ∃ z, gQ (aE E3) (aE E2) = z := ⟨_, rfl⟩
 rw [emr] at HMr ⊢
 clear hk6 hx6 hb6 hmg hsz4
 go_wp2_with fail
 refine (rU mr w6).mono ?_
 rintro e w7 ⟨v, rfl, hk7, rfl⟩
 have hb7 := H6.out.2.1.ext hk7
 have X7 := qH hk7
 clear hk7
 by_cases hmr : mr = 0
 ·subst hmr
  obtain ⟨r4, E4, hA4, hP4, -⟩ := HMr.out (by first | rfl | trivial)
  have hF4 := HFw.out w7 (H6.out.1.trans X7.out) (fun k => S1 k \/ S2 k) (.pointer (some ⟨b3, 0, none⟩)) E4 (.full b3 r4 E4 (hA4.ext X7.out))
  have hP3 := H5.out.2.2.2.2.2.1
  have hok3 := H5.out.2.2.2.2.2.2.1
  have hok1 := H6.out.2.2.1.ok
  have hok2 := H6.out.2.2.2.ok
  have hU : ∀ s x, x ∈ aP (aE E4) s ↔ x ∈ aP (aE E1) s \/ x ∈ aP (aE E2) s := fun s x => by
   have e1 : aP (aE E4) s = aP (fO (aE E3) (aE E2)) s := by unfold aP; rw [yA hA4.ok.nodup hP4 s]
   have e2 : aP (aE E3) s = aP (aE E1) s := by unfold aP; rw [yA hok3.nodup hP3 s]
   rw [e1, aEe hok3 hok2, e2]
  have HU := qH (And.intro hU (And.intro hok1 hok2))
  have HA4 := qH (hA4.ext X7.out)
  have r0 : w7.cell? ⟨g0, 0, none⟩ = some (.string p) := by rw [hb7.cell']; rfl
  have r1 : w7.cell? ⟨g0, 1, none⟩ = some (.slice ha hn hcap) := by rw [hb7.cell']; rfl
  have r2 : w7.cell? ⟨g0, 2, none⟩ = some (.slice ba n bcap) := by rw [hb7.cell']; rfl
  obtain ⟨fb, efb⟩ : ∃ b, xD (aE E4) ls = b := ⟨_, rfl⟩
  rw [efb] at hF4
  have HF4 := qH hF4
  have HFb := qH efb
  have HB7 := qH hb7
  clear hA4 hP4 hF4 hP3 hok3 hok1 hok2 hU efb hb7 HMr HBB HMg HB1 HB2
  go_wp2_with fail
  refine HF4.out.mono ?_
  rintro e w8 ⟨v, rfl, hk8, rfl⟩
  have X8 := qH (H6.out.1.trans (X7.out.trans hk8))
  have HB8 := qH (HB7.out.ext hk8)
  have H8 := qH (show BaseAt S1 w8 b1 m1 E1 /\ BaseAt (fun k => S1 k \/ S2 k) w8 b2 m2 E2 /\ BaseAt (fun k => S1 k \/ S2 k) w8 b3 r4 E4 from ⟨(H6.out.2.2.1.ext X7.out).ext hk8, (H6.out.2.2.2.ext X7.out).ext hk8, HA4.out.ext hk8⟩)
  clear hk8 r0 r1 r2
  cases fb
  ·go_wp2
   go_ret
   exact RetN.mk X8.out rfl
  obtain ⟨hkk, hkn⟩ := aGv k n (by omega)
  have hn00 : (n : Int) ≠ 0 := by omega
  have b1x : k.tmod n < n := Int.tmod_lt_of_pos k (by omega)
  have b2x : -(n : Int) < k.tmod n := by
   have h1 := Int.tmod_eq_emod (a := k) (b := n)
   have h3 := Int.emod_lt_of_pos k (show (0 : Int) < n by omega)
   have h4 := Int.emod_nonneg k hn00
   have h5 : (n : Int).natAbs = n := by omega
   rw [h5] at h1
   split at h1 <;> omega
  have r2 : w8.cell? ⟨g0, 2, none⟩ = some (.slice ba n bcap) := by rw [HB8.out.cell']; rfl
  have e1 : IntKind.i64.wrap (k.tmod n) = k.tmod n := IntWalk.i64_in _ (by omega)
  have HKk := qH (And.intro hkk hkn)
  have r0 : w8.cell? ⟨g0, 0, none⟩ = some (.string p) := by rw [HB8.out.cell']; rfl
  have r1 : w8.cell? ⟨g0, 1, none⟩ = some (.slice ha hn hcap) := by rw [HB8.out.cell']; rfl
  clear hkk hkn
  by_cases hk0 : k.tmod n < 0
  ·have e2 : IntKind.i64.wrap (k.tmod n + n) = k.tmod n + n := IntWalk.i64_in _ (by omega)
   go_wp2_with fail
   obtain ⟨kn, hkn, hkn2⟩ : ∃ kn : Nat, k.tmod n + n = (kn : Int) /\ kn < n := ⟨vE k n, by rw [HKk.out.1, if_pos hk0], HKk.out.2⟩
   rw [hkn]
   have HKn := qH (And.intro hkn hkn2)
   clear hkn e1 e2 b1x b2x hn00 hk0
   obtain ⟨l0, hl0⟩ : ∃ l0, ls[kn]? = some l0 := ⟨_, qG (by rw [<- HN.out]; exact hkn2)⟩
   have hrl1 : ∀ s, (aP (aE E1) s).length ≤ (aP (aE E4) s).length := fun s => jT HU.out.2.1 fun x hx => (HU.out.1 s x).2 (.inl hx)
   have hrl2 : ∀ s, (aP (aE E2) s).length ≤ (aP (aE E4) s).length := fun s => jT HU.out.2.2 fun x hx => (HU.out.1 s x).2 (.inr hx)
   have hfb : xD (aE E4) (((p, hs, ()), ls, ()) : cO).2.1 = true := HFb.out
   have hb11 := iU (C1 := aE E1) (D := aE E1) (C := aE E4) (r := ((p, hs, ()), ls, ())) (k := kn) hfb hrl1 hrl1
   have hb14 := iU (C1 := aE E1) (D := aE E4) (C := aE E4) (r := ((p, hs, ()), ls, ())) (k := kn) hfb hrl1 (fun s => Nat.le_refl _)
   have hb12 := iU (C1 := aE E1) (D := aE E2) (C := aE E4) (r := ((p, hs, ()), ls, ())) (k := kn) hfb hrl1 hrl2
   have HLaw := qH (aB0 (r := ((p, hs, ()), ls, ())) (C1 := aE E1) (C2 := aE E2) (C12 := aE E4) (k := kn) (l := l0) hl0 HU.out.1)
   have HO1 := qH (fun (W : World) (hW : Ext w8 W) => HOv.out W (X8.out.trans hW) S1 S1 (some ⟨b1, 0, none⟩) (some ⟨b1, 0, none⟩) E1 E1 kn (.full b1 m1 E1 (H8.out.1.ext hW)) (.full b1 m1 E1 (H8.out.1.ext hW)) hb11)
   have HO4 := qH (fun (W : World) (hW : Ext w8 W) => HOv.out W (X8.out.trans hW) S1 (fun k => S1 k \/ S2 k) (some ⟨b1, 0, none⟩) (some ⟨b3, 0, none⟩) E1 E4 kn (.full b1 m1 E1 (H8.out.1.ext hW)) (.full b3 r4 E4 (H8.out.2.2.ext hW)) hb14)
   have HO2 := qH (fun (W : World) (hW : Ext w8 W) => HOv.out W (X8.out.trans hW) S1 (fun k => S1 k \/ S2 k) (some ⟨b1, 0, none⟩) (some ⟨b2, 0, none⟩) E1 E2 kn (.full b1 m1 E1 (H8.out.1.ext hW)) (.full b2 m2 E2 (H8.out.2.1.ext hW)) hb12)
   have HLen := qH (show (bU (bA ((p, hs, ()), ls, ()) (aE E1) (aE E1) kn)).length ≤ 20000 /\ (bU (bA ((p, hs, ()), ls, ()) (aE E1) (aE E4) kn)).length ≤ 20000 /\ (bU (bA ((p, hs, ()), ls, ()) (aE E1) (aE E2) kn)).length ≤ 20000 from by
    have key : ∀ L : aD, L.length ≤ 20000 -> (bU L).length ≤ 20000 := fun L hL => by
     have h1 := mZ (c := bL) (L.map cT)
     rw [List.length_map] at h1
     exact Nat.le_trans h1 hL
    exact ⟨key _ hb11, key _ hb14, key _ hb12⟩)
   obtain ⟨tA, etA⟩ : ∃ t, bU (bA ((p, hs, ()), ls, ()) (aE E1) (aE E1) kn) = t := ⟨_, rfl⟩
   obtain ⟨tI, etI⟩ : ∃ t, bU (bA ((p, hs, ()), ls, ()) (aE E1) (aE E4) kn) = t := ⟨_, rfl⟩
   obtain ⟨tN, etN⟩ : ∃ t, bU (bA ((p, hs, ()), ls, ()) (aE E1) (aE E2) kn) = t := ⟨_, rfl⟩
   have HStr := qH (show Strict bL tA /\ Strict bL tI from ⟨by rw [<- etA]; exact dD _, by rw [<- etI]; exact dD _⟩)
   have HC1 := qH (show ∀ W, Ext w8 W -> Calls Tryz.prog 56 #[eS p ha hn hcap ba n bcap, .pointer (some ⟨b1, 0, none⟩), .pointer (some ⟨b1, 0, none⟩), .int .i64 kn] W (RetN W fun w' v => Row w' 9 1 v tA.length (strs tA) (New W)) from fun W hW => by rw [<- etA]; exact HO1.out W hW)
   have HC4 := qH (show ∀ W, Ext w8 W -> Calls Tryz.prog 56 #[eS p ha hn hcap ba n bcap, .pointer (some ⟨b1, 0, none⟩), .pointer (some ⟨b3, 0, none⟩), .int .i64 kn] W (RetN W fun w' v => Row w' 9 1 v tI.length (strs tI) (New W)) from fun W hW => by rw [<- etI]; exact HO4.out W hW)
   have HC2 := qH (show ∀ W, Ext w8 W -> Calls Tryz.prog 56 #[eS p ha hn hcap ba n bcap, .pointer (some ⟨b1, 0, none⟩), .pointer (some ⟨b2, 0, none⟩), .int .i64 kn] W (RetN W fun w' v => Row w' 9 1 v tN.length (strs tN) (New W)) from fun W hW => by rw [<- etN]; exact HO2.out W hW)
   rw [etA, etI, etN] at HLaw HLen
   have HL0 := qH hl0
   clear hrl1 hrl2 hfb hb11 hb14 hb12 HO1 HO4 HO2 etA etI etN hl0 hkn2
   refine (HC1.out w8 (Kp.refl _)).mono ?_
   rintro e w9 ⟨v, rfl, hk9, hr9⟩
   obtain ⟨oA, cA, evA, hcA, _⟩ := hr9.shape
   subst evA
   obtain ⟨nA, enA⟩ : ∃ k, tA.length = k := ⟨_, rfl⟩
   rw [enA] at hr9 HLen ⊢
   have X9 := qH hk9
   have HA9 := qH (And.intro hr9 enA)
   have hb9 := HB8.out.ext hk9
   have r0 : w9.cell? ⟨g0, 0, none⟩ = some (.string p) := by rw [hb9.cell']; rfl
   have r1 : w9.cell? ⟨g0, 1, none⟩ = some (.slice ha hn hcap) := by rw [hb9.cell']; rfl
   have r2 : w9.cell? ⟨g0, 2, none⟩ = some (.slice ba n bcap) := by rw [hb9.cell']; rfl
   clear hk9 hr9 hcA enA hb9
   go_wp2_with fail
   refine (HC4.out w9 X9.out).mono ?_
   rintro e w10 ⟨v, rfl, hk10, hr10⟩
   obtain ⟨oI, cI, evI, hcI, _⟩ := hr10.shape
   subst evI
   obtain ⟨nI, enI⟩ : ∃ k, tI.length = k := ⟨_, rfl⟩
   rw [enI] at hr10 HLen ⊢
   have X10 := qH (X9.out.trans hk10)
   have HA10 := qH (HA9.out.1.ext hk10)
   have HI10 := qH (And.intro hcI enI)
   have hb10 := HB8.out.ext X10.out
   have r0 : w10.cell? ⟨g0, 0, none⟩ = some (.string p) := by rw [hb10.cell']; rfl
   have r1 : w10.cell? ⟨g0, 1, none⟩ = some (.slice ha hn hcap) := by rw [hb10.cell']; rfl
   have r2 : w10.cell? ⟨g0, 2, none⟩ = some (.slice ba n bcap) := by rw [hb10.cell']; rfl
   have hnA := HA9.out.2
   obtain ⟨b, off, a2, cap2, eao, hG, hb, hLi, c0, c1, c2, c3, c4, c5, c6, c7⟩ := nG HE.out HL0.out
   subst eao
   replace c0 := (X8.out.trans X10.out).cell c0 id
   have j1 : (kn : Int) < (n : Int) := by have := HKn.out.2; omega
   obtain ⟨kd, ekd⟩ : ∃ kd, l0.1 = kd := ⟨_, rfl⟩
   rw [ekd] at c0 HLaw
   clear hk10 hr10 hcI enI hb10 hG hb hLi c1 c2 c3 c4 c5 c6 c7 ekd
   by_cases hk2 : kd = 2
   ·subst hk2
    have hSub := pX (acap := cI) (bcap := cA) (w := w10) HI10.out.2.symm hnA.symm HI10.out.1 (by obtain ⟨_, _, e, hc, _⟩ := HA10.out.shape; cases e; exact hc) HStr.out.2 HStr.out.1 (HLaw.out.1 (by first | rfl | trivial)) (by have := HLen.out; omega) (by have := HLen.out; omega)
    have HSub := qH hSub
    clear hSub
    go_wp2_with fail
    refine HSub.out.mono ?_
    rintro e w11 ⟨v, rfl, hk11, rfl⟩
    have X11 := qH (X8.out.trans (X10.out.trans hk11))
    clear hk11
    go_wp2
    go_ret
    exact RetN.mk X11.out rfl
   ·by_cases hk1 : kd = 1
    ·subst hk1
     go_wp2_with fail
     refine (HC2.out w10 X10.out).mono ?_
     rintro e w12 ⟨v, rfl, hk12, hr12⟩
     obtain ⟨oN, cN, evN, hcN, _⟩ := hr12.shape
     subst evN
     obtain ⟨nN, enN⟩ : ∃ k, tN.length = k := ⟨_, rfl⟩
     rw [enN] at hr12 HLen ⊢
     have X12 := qH (X10.out.trans hk12)
     have HA12 := qH (show Row w12 9 1 (.slice oA nA cA) tA.length (strs tA) (New w8) from by rw [HA9.out.2]; exact HA10.out.ext hk12)
     have HI12 := qH (HI10.out.1.ext hk12)
     have HN12 := qH (And.intro hcN enN)
     have HEq := qH (HLaw.out.2.2 (by first | rfl | trivial))
     clear hk12 hr12 hcN enN r0 r1 r2 c0 hk2
     have hNb : nN ≤ 20000 := by have := HLen.out; omega
     go_wp2
     go_loopw [15, 18] (fun ov iv wr => aKm w8 w12 tA tN nN ov iv wr) (fun _ iv _ => nN - (intOf iv).toNat)
     case atStart => exact ⟨0, Nat.zero_le _, rfl, qH (Kp.refl _), qH HA12.out⟩
     case round =>
      obtain ⟨i, hi, rfl, hex, hro⟩ := hrel
      have hAl := HLen.out
      have hfl := vZ (tN.take i) tA
      rw [HA9.out.2, List.length_take] at hfl
      by_cases hlt : i < nN
      ·obtain ⟨x, hx⟩ : ∃ x, tN[i]? = some x := ⟨_, qG (by rw [HN12.out.2]; exact hlt)⟩
       obtain ⟨xb, xo, ex, xc⟩ := (HN12.out.1.ext hex.out) i (.string x) (by simp [strs, hx])
       subst ex
       have HX := qH (show tN.take (i + 1) = tN.take i ++ [x] from by rw [List.take_add_one, hx]; rfl)
       have HP := qH (vD (s := x) (lW (tN.take i) HStr.out.1) hro.out (by omega))
       have i1 : (i : Int) < (nN : Int) := by omega
       clear hx hAl hfl
       go_wp2_with fail
       refine HP.out.mono ?_
       rintro e w13 ⟨v, rfl, hk13, hr13⟩
       have HF := qH (show Ext w12 w13 /\ Row w13 9 1 v ((tN.take (i + 1)).foldl (bJ bL) tA).length (strs ((tN.take (i + 1)).foldl (bJ bL) tA)) (New w8) from ⟨hex.out.trans hk13, by
        rw [HX.out, List.foldl_append]
        exact hr13.mono fun g hg => Nat.le_trans (Nat.le_trans X12.out.size hex.out.size) hg⟩)
       clear hk13 hr13
       go_wp2
       go_roundw
       case rel => exact ⟨i + 1, by omega, by first | rfl | (congr 1; done) | (congr 1; omega), qH HF.out.1, qH HF.out.2⟩
       case measure => simp [intOf]; omega
      ·obtain rfl : nN = i := by omega
       have hall : tN.take nN = tN := List.take_of_length_le (by rw [HN12.out.2]; exact Nat.le_refl _)
       have hro2 := hro.out
       rw [hall, <- HEq.out, HI10.out.2] at hro2
       rw [hall] at hro
       obtain ⟨oZ, cZ, evZ, hcZ, _⟩ := hro2.shape
       subst evZ
       have HSm := qH (jD tI tI oI oZ nI nI cI cZ wr HI10.out.2.symm HI10.out.2.symm (HI12.out.ext hex.out) hcZ (by omega))
       have XF := qH (X8.out.trans (X12.out.trans hex.out))
       clear hro hro2 hcZ hall hex hAl hfl hi hlt
       go_wp2_with fail
       refine HSm.out.mono ?_
       rintro e w14 ⟨v, rfl, hk14, rfl⟩
       have XG := qH (XF.out.trans hk14)
       clear hk14
       go_wp2
       go_ret
       exact RetN.mk XG.out (by first | rfl | (rw [decide_eq_true rfl]; rfl))
    ·have HSm := qH (jD tI tA oI oA nI nA cI cA w10 HI10.out.2.symm hnA.symm HI10.out.1 (by obtain ⟨_, _, e, hc, _⟩ := HA10.out.shape; cases e; exact hc) (by have := HLen.out; omega))
     have HEq := qH (HLaw.out.2.1 hk2 hk1)
     have hk3 : (kd == 2) = false := by simp [hk2]
     have hk4 : (kd == 1) = false := by simp [hk1]
     have hk5 : (kd != 1) = true := by simp [hk1]
     clear hk1 hk2
     go_wp2_with fail
     refine HSm.out.mono ?_
     rintro e w11 ⟨v, rfl, hk11, rfl⟩
     have X11 := qH (X8.out.trans (X10.out.trans hk11))
     clear hk11
     go_wp2
     go_ret
     exact RetN.mk X11.out (by first | (rw [HEq.out, decide_eq_true rfl]; rfl) | simp [HEq.out])
  ·have hk0' : ¬ k.tmod n < 0 := by omega
   go_wp2_with fail
   obtain ⟨kn, hkn, hkn2⟩ : ∃ kn : Nat, k.tmod n = (kn : Int) /\ kn < n := ⟨vE k n, by rw [HKk.out.1, if_neg (Int.not_lt.2 hk0')], HKk.out.2⟩
   rw [hkn]
   have HKn := qH (And.intro hkn hkn2)
   clear hkn e1 b1x b2x hn00 hk0'
   obtain ⟨l0, hl0⟩ : ∃ l0, ls[kn]? = some l0 := ⟨_, qG (by rw [<- HN.out]; exact hkn2)⟩
   have hrl1 : ∀ s, (aP (aE E1) s).length ≤ (aP (aE E4) s).length := fun s => jT HU.out.2.1 fun x hx => (HU.out.1 s x).2 (.inl hx)
   have hrl2 : ∀ s, (aP (aE E2) s).length ≤ (aP (aE E4) s).length := fun s => jT HU.out.2.2 fun x hx => (HU.out.1 s x).2 (.inr hx)
   have hfb : xD (aE E4) (((p, hs, ()), ls, ()) : cO).2.1 = true := HFb.out
   have hb11 := iU (C1 := aE E1) (D := aE E1) (C := aE E4) (r := ((p, hs, ()), ls, ())) (k := kn) hfb hrl1 hrl1
   have hb14 := iU (C1 := aE E1) (D := aE E4) (C := aE E4) (r := ((p, hs, ()), ls, ())) (k := kn) hfb hrl1 (fun s => Nat.le_refl _)
   have hb12 := iU (C1 := aE E1) (D := aE E2) (C := aE E4) (r := ((p, hs, ()), ls, ())) (k := kn) hfb hrl1 hrl2
   have HLaw := qH (aB0 (r := ((p, hs, ()), ls, ())) (C1 := aE E1) (C2 := aE E2) (C12 := aE E4) (k := kn) (l := l0) hl0 HU.out.1)
   have HO1 := qH (fun (W : World) (hW : Ext w8 W) => HOv.out W (X8.out.trans hW) S1 S1 (some ⟨b1, 0, none⟩) (some ⟨b1, 0, none⟩) E1 E1 kn (.full b1 m1 E1 (H8.out.1.ext hW)) (.full b1 m1 E1 (H8.out.1.ext hW)) hb11)
   have HO4 := qH (fun (W : World) (hW : Ext w8 W) => HOv.out W (X8.out.trans hW) S1 (fun k => S1 k \/ S2 k) (some ⟨b1, 0, none⟩) (some ⟨b3, 0, none⟩) E1 E4 kn (.full b1 m1 E1 (H8.out.1.ext hW)) (.full b3 r4 E4 (H8.out.2.2.ext hW)) hb14)
   have HO2 := qH (fun (W : World) (hW : Ext w8 W) => HOv.out W (X8.out.trans hW) S1 (fun k => S1 k \/ S2 k) (some ⟨b1, 0, none⟩) (some ⟨b2, 0, none⟩) E1 E2 kn (.full b1 m1 E1 (H8.out.1.ext hW)) (.full b2 m2 E2 (H8.out.2.1.ext hW)) hb12)
   have HLen := qH (show (bU (bA ((p, hs, ()), ls, ()) (aE E1) (aE E1) kn)).length ≤ 20000 /\ (bU (bA ((p, hs, ()), ls, ()) (aE E1) (aE E4) kn)).length ≤ 20000 /\ (bU (bA ((p, hs, ()), ls, ()) (aE E1) (aE E2) kn)).length ≤ 20000 from by
    have key : ∀ L : aD, L.length ≤ 20000 -> (bU L).length ≤ 20000 := fun L hL => by
     have h1 := mZ (c := bL) (L.map cT)
     rw [List.length_map] at h1
     exact Nat.le_trans h1 hL
    exact ⟨key _ hb11, key _ hb14, key _ hb12⟩)
   obtain ⟨tA, etA⟩ : ∃ t, bU (bA ((p, hs, ()), ls, ()) (aE E1) (aE E1) kn) = t := ⟨_, rfl⟩
   obtain ⟨tI, etI⟩ : ∃ t, bU (bA ((p, hs, ()), ls, ()) (aE E1) (aE E4) kn) = t := ⟨_, rfl⟩
   obtain ⟨tN, etN⟩ : ∃ t, bU (bA ((p, hs, ()), ls, ()) (aE E1) (aE E2) kn) = t := ⟨_, rfl⟩
   have HStr := qH (show Strict bL tA /\ Strict bL tI from ⟨by rw [<- etA]; exact dD _, by rw [<- etI]; exact dD _⟩)
   have HC1 := qH (show ∀ W, Ext w8 W -> Calls Tryz.prog 56 #[eS p ha hn hcap ba n bcap, .pointer (some ⟨b1, 0, none⟩), .pointer (some ⟨b1, 0, none⟩), .int .i64 kn] W (RetN W fun w' v => Row w' 9 1 v tA.length (strs tA) (New W)) from fun W hW => by rw [<- etA]; exact HO1.out W hW)
   have HC4 := qH (show ∀ W, Ext w8 W -> Calls Tryz.prog 56 #[eS p ha hn hcap ba n bcap, .pointer (some ⟨b1, 0, none⟩), .pointer (some ⟨b3, 0, none⟩), .int .i64 kn] W (RetN W fun w' v => Row w' 9 1 v tI.length (strs tI) (New W)) from fun W hW => by rw [<- etI]; exact HO4.out W hW)
   have HC2 := qH (show ∀ W, Ext w8 W -> Calls Tryz.prog 56 #[eS p ha hn hcap ba n bcap, .pointer (some ⟨b1, 0, none⟩), .pointer (some ⟨b2, 0, none⟩), .int .i64 kn] W (RetN W fun w' v => Row w' 9 1 v tN.length (strs tN) (New W)) from fun W hW => by rw [<- etN]; exact HO2.out W hW)
   rw [etA, etI, etN] at HLaw HLen
   have HL0 := qH hl0
   clear hrl1 hrl2 hfb hb11 hb14 hb12 HO1 HO4 HO2 etA etI etN hl0 hkn2
   refine (HC1.out w8 (Kp.refl _)).mono ?_
   rintro e w9 ⟨v, rfl, hk9, hr9⟩
   obtain ⟨oA, cA, evA, hcA, _⟩ := hr9.shape
   subst evA
   obtain ⟨nA, enA⟩ : ∃ k, tA.length = k := ⟨_, rfl⟩
   rw [enA] at hr9 HLen ⊢
   have X9 := qH hk9
   have HA9 := qH (And.intro hr9 enA)
   have hb9 := HB8.out.ext hk9
   have r0 : w9.cell? ⟨g0, 0, none⟩ = some (.string p) := by rw [hb9.cell']; rfl
   have r1 : w9.cell? ⟨g0, 1, none⟩ = some (.slice ha hn hcap) := by rw [hb9.cell']; rfl
   have r2 : w9.cell? ⟨g0, 2, none⟩ = some (.slice ba n bcap) := by rw [hb9.cell']; rfl
   clear hk9 hr9 hcA enA hb9
   go_wp2_with fail
   refine (HC4.out w9 X9.out).mono ?_
   rintro e w10 ⟨v, rfl, hk10, hr10⟩
   obtain ⟨oI, cI, evI, hcI, _⟩ := hr10.shape
   subst evI
   obtain ⟨nI, enI⟩ : ∃ k, tI.length = k := ⟨_, rfl⟩
   rw [enI] at hr10 HLen ⊢
   have X10 := qH (X9.out.trans hk10)
   have HA10 := qH (HA9.out.1.ext hk10)
   have HI10 := qH (And.intro hcI enI)
   have hb10 := HB8.out.ext X10.out
   have r0 : w10.cell? ⟨g0, 0, none⟩ = some (.string p) := by rw [hb10.cell']; rfl
   have r1 : w10.cell? ⟨g0, 1, none⟩ = some (.slice ha hn hcap) := by rw [hb10.cell']; rfl
   have r2 : w10.cell? ⟨g0, 2, none⟩ = some (.slice ba n bcap) := by rw [hb10.cell']; rfl
   have hnA := HA9.out.2
   obtain ⟨b, off, a2, cap2, eao, hG, hb, hLi, c0, c1, c2, c3, c4, c5, c6, c7⟩ := nG HE.out HL0.out
   subst eao
   replace c0 := (X8.out.trans X10.out).cell c0 id
   have j1 : (kn : Int) < (n : Int) := by have := HKn.out.2; omega
   obtain ⟨kd, ekd⟩ : ∃ kd, l0.1 = kd := ⟨_, rfl⟩
   rw [ekd] at c0 HLaw
   clear hk10 hr10 hcI enI hb10 hG hb hLi c1 c2 c3 c4 c5 c6 c7 ekd
   by_cases hk2 : kd = 2
   ·subst hk2
    have hSub := pX (acap := cI) (bcap := cA) (w := w10) HI10.out.2.symm hnA.symm HI10.out.1 (by obtain ⟨_, _, e, hc, _⟩ := HA10.out.shape; cases e; exact hc) HStr.out.2 HStr.out.1 (HLaw.out.1 (by first | rfl | trivial)) (by have := HLen.out; omega) (by have := HLen.out; omega)
    have HSub := qH hSub
    clear hSub
    go_wp2_with fail
    refine HSub.out.mono ?_
    rintro e w11 ⟨v, rfl, hk11, rfl⟩
    have X11 := qH (X8.out.trans (X10.out.trans hk11))
    clear hk11
    go_wp2
    go_ret
    exact RetN.mk X11.out rfl
   ·by_cases hk1 : kd = 1
    ·subst hk1
     go_wp2_with fail
     refine (HC2.out w10 X10.out).mono ?_
     rintro e w12 ⟨v, rfl, hk12, hr12⟩
     obtain ⟨oN, cN, evN, hcN, _⟩ := hr12.shape
     subst evN
     obtain ⟨nN, enN⟩ : ∃ k, tN.length = k := ⟨_, rfl⟩
     rw [enN] at hr12 HLen ⊢
     have X12 := qH (X10.out.trans hk12)
     have HA12 := qH (show Row w12 9 1 (.slice oA nA cA) tA.length (strs tA) (New w8) from by rw [HA9.out.2]; exact HA10.out.ext hk12)
     have HI12 := qH (HI10.out.1.ext hk12)
     have HN12 := qH (And.intro hcN enN)
     have HEq := qH (HLaw.out.2.2 (by first | rfl | trivial))
     clear hk12 hr12 hcN enN r0 r1 r2 c0 hk2
     have hNb : nN ≤ 20000 := by have := HLen.out; omega
     go_wp2
     go_loopw [15, 18] (fun ov iv wr => aKm w8 w12 tA tN nN ov iv wr) (fun _ iv _ => nN - (intOf iv).toNat)
     case atStart => exact ⟨0, Nat.zero_le _, rfl, qH (Kp.refl _), qH HA12.out⟩
     case round =>
      obtain ⟨i, hi, rfl, hex, hro⟩ := hrel
      have hAl := HLen.out
      have hfl := vZ (tN.take i) tA
      rw [HA9.out.2, List.length_take] at hfl
      by_cases hlt : i < nN
      ·obtain ⟨x, hx⟩ : ∃ x, tN[i]? = some x := ⟨_, qG (by rw [HN12.out.2]; exact hlt)⟩
       obtain ⟨xb, xo, ex, xc⟩ := (HN12.out.1.ext hex.out) i (.string x) (by simp [strs, hx])
       subst ex
       have HX := qH (show tN.take (i + 1) = tN.take i ++ [x] from by rw [List.take_add_one, hx]; rfl)
       have HP := qH (vD (s := x) (lW (tN.take i) HStr.out.1) hro.out (by omega))
       have i1 : (i : Int) < (nN : Int) := by omega
       clear hx hAl hfl
       go_wp2_with fail
       refine HP.out.mono ?_
       rintro e w13 ⟨v, rfl, hk13, hr13⟩
       have HF := qH (show Ext w12 w13 /\ Row w13 9 1 v ((tN.take (i + 1)).foldl (bJ bL) tA).length (strs ((tN.take (i + 1)).foldl (bJ bL) tA)) (New w8) from ⟨hex.out.trans hk13, by
        rw [HX.out, List.foldl_append]
        exact hr13.mono fun g hg => Nat.le_trans (Nat.le_trans X12.out.size hex.out.size) hg⟩)
       clear hk13 hr13
       go_wp2
       go_roundw
       case rel => exact ⟨i + 1, by omega, by first | rfl | (congr 1; done) | (congr 1; omega), qH HF.out.1, qH HF.out.2⟩
       case measure => simp [intOf]; omega
      ·obtain rfl : nN = i := by omega
       have hall : tN.take nN = tN := List.take_of_length_le (by rw [HN12.out.2]; exact Nat.le_refl _)
       have hro2 := hro.out
       rw [hall, <- HEq.out, HI10.out.2] at hro2
       rw [hall] at hro
       obtain ⟨oZ, cZ, evZ, hcZ, _⟩ := hro2.shape
       subst evZ
       have HSm := qH (jD tI tI oI oZ nI nI cI cZ wr HI10.out.2.symm HI10.out.2.symm (HI12.out.ext hex.out) hcZ (by omega))
       have XF := qH (X8.out.trans (X12.out.trans hex.out))
       clear hro hro2 hcZ hall hex hAl hfl hi hlt
       go_wp2_with fail
       refine HSm.out.mono ?_
       rintro e w14 ⟨v, rfl, hk14, rfl⟩
       have XG := qH (XF.out.trans hk14)
       clear hk14
       go_wp2
       go_ret
       exact RetN.mk XG.out (by first | rfl | (rw [decide_eq_true rfl]; rfl))
    ·have HSm := qH (jD tI tA oI oA nI nA cI cA w10 HI10.out.2.symm hnA.symm HI10.out.1 (by obtain ⟨_, _, e, hc, _⟩ := HA10.out.shape; cases e; exact hc) (by have := HLen.out; omega))
     have HEq := qH (HLaw.out.2.1 hk2 hk1)
     have hk3 : (kd == 2) = false := by simp [hk2]
     have hk4 : (kd == 1) = false := by simp [hk1]
     have hk5 : (kd != 1) = true := by simp [hk1]
     clear hk1 hk2
     go_wp2_with fail
     refine HSm.out.mono ?_
     rintro e w11 ⟨v, rfl, hk11, rfl⟩
     have X11 := qH (X8.out.trans (X10.out.trans hk11))
     clear hk11
     go_wp2
     go_ret
     exact RetN.mk X11.out (by first | (rw [HEq.out, decide_eq_true rfl]; rfl) | simp [HEq.out])
 ·have hmr1 : ((mr : Int) == 0) = false := by simp; omega
  have hmr2 : ((mr : Int) != 0) = true := by simp; omega
  clear hmr hb7
  go_wp2
  go_ret
  exact RetN.mk (H6.out.1.trans X7.out) rfl
end Go.Proofs.YtinnmeiphbdogaaGreat
/- Relations that came in: how they lie. -/
namespace Go.Proofs.YtinnmeiphbdogaaGreat
open Go.ChangeShapes Go.WideShapes Go.ChangeAt Go.RowKit
noncomputable def shT : Shp Tryz.prog ByteArray := aBa 9 Tryz.underlying9 (by kernel_rfl)
noncomputable def aA9 : Shp Tryz.prog (List ByteArray) := qB 34 shT Tryz.underlying34 (by kernel_rfl) (by decide)
noncomputable def shTss : Shp Tryz.prog (List (List ByteArray)) := qB 69 aA9 Tryz.underlying69 (by kernel_rfl) (by decide)
noncomputable def jR : Shp Tryz.prog iJ := mO 116 (gE shT (gE (aFt 3 .i64 Tryz.underlying3 (by kernel_rfl)) (gE shTss aCr))) (fs := _) Tryz.underlying116 ⟨_, _, rfl, rfl, rfl, _, _, rfl, rfl, rfl, _, _, rfl, rfl, rfl, rfl⟩ (by kernel_rfl)
theorem aB2 {α β : Type} {P : Nat -> α -> β -> Prop} : ∀ (L : List α), (∀ i x, L[i]? = some x -> ∃ y, P i x y) -> ∃ ys : List β, ys.length = L.length /\ ∀ (i : Nat) (x : α) (y : β), L[i]? = some x -> ys[i]? = some y -> P i x y := by
 intro L
 induction L generalizing P with
 | nil => exact fun _ => ⟨[], rfl, fun i x y h => by simp at h⟩
 | cons a L ih =>
  intro h
  obtain ⟨y0, h0⟩ := h 0 a rfl
  obtain ⟨ys, h1, h2⟩ := ih (P := fun i x y => P (i + 1) x y) fun i x hx => h (i + 1) x (by simpa using hx)
  refine ⟨y0 :: ys, by simp [h1], fun i x y hx hy => ?_⟩
  cases i with
  | zero => simp at hx hy; subst hx; subst hy; exact h0
  | succ i => exact h2 i x y (by simpa using hx) (by simpa using hy)
theorem aEw {w : World} {G : Nat -> Prop} {ao : Option Addr} {LL : List (List ByteArray)} (h : ElemsAt aA9 w G ao LL) (hl : ∀ ss ∈ LL, ss.length ≤ 8796093021952) : RowsIn (fun _ => True) w ao LL := by
 have h1 : ∀ (i : Nat) (ss : List ByteArray), LL[i]? = some ss -> ∃ p : Option Addr × Nat × Nat, ∃ b off, ao = some ⟨b, off, none⟩ /\ w.cell? ⟨b, off + i, none⟩ = some (.slice p.1 p.2.1 p.2.2) /\ p.2.1 = ss.length /\ CellsAt w p.1 (strs ss) := fun i ss hi => by
  obtain ⟨b, off, es, e, _, _, ⟨a1, c1, ee, hl, _, hc⟩, hcell⟩ := h i ss hi
  refine ⟨(a1, ss.length, c1), b, off, e, ?_, rfl, aEv (hu := Tryz.underlying9) (hc := by kernel_rfl) hc⟩
  have := hcell 0 (.slice a1 ss.length c1) (by rw [ee]; rfl)
  rw [show aA9.n = 1 from rfl, Nat.mul_one, Nat.add_zero] at this
  exact this
 obtain ⟨qs, hq, hP⟩ := aB2 LL h1
 have hz : ∀ p ∈ qs.zip LL, ReadsAs w p.1 p.2 /\ p.2.length ≤ 8796093021952 /\ ∀ a, p.1.1 = some a -> True := fun p hp => by
  obtain ⟨i, hi, e⟩ := List.getElem_of_mem hp
  have h2 : (qs.zip LL)[i]? = some p := by rw [qG hi, e]
  obtain ⟨h3, h4⟩ := List.getElem?_zip_eq_some.1 h2
  obtain ⟨b, off, _, _, h5, h6⟩ := hP i _ _ h4 h3
  exact ⟨⟨h5, h6⟩, hl _ (List.mem_of_getElem? h4), fun _ _ => trivial⟩
 refine ⟨qs.zip LL, ?_, fun i u hu => ?_, fun _ _ => trivial, hz⟩
 ·rw [List.map_snd_zip (by omega)]
 ·cases hp : (qs.zip LL)[i]? with
  | none => rw [show (fD (qs.zip LL))[i]? = ((qs.zip LL)[i]?).map _ from List.getElem?_map .., hp] at hu; cases hu
  | some p =>
   rw [xX _ _ _ hp] at hu
   cases hu
   obtain ⟨h3, h4⟩ := List.getElem?_zip_eq_some.1 hp
   obtain ⟨b, off, e, hc, _⟩ := hP i _ _ h4 h3
   exact ⟨b, off, e, hc⟩
theorem wJ {w : World} {G : Nat -> Prop} {ao : Option Addr} {L : List iJ} (h : ElemsAt jR w G ao L) (hl : ∀ q ∈ L, ∀ ss ∈ q.2.2.1, ss.length ≤ 8796093021952) : RelsIn (fun _ => True) w ao L := fun i q hq => by
 obtain ⟨b, off, es, e, _, _, hat, hcell⟩ := h i q hq
 obtain ⟨x1, y1, e1, ⟨ex1, _⟩, x2, y2, e2, ⟨ex2, _⟩, x3, y3, e3, ⟨ra, rcap, ex3, r1, r2, r3⟩, e4⟩ := hat
 have e4' : y3 = [] := e4
 have ee : es = [.string q.1, .int .i64 q.2.1, .slice ra q.2.2.1.length rcap] := by
  rw [e1, ex1, e2, ex2, e3, ex3, e4']; rfl
 have hc : ∀ c u, es[c]? = some u -> w.cell? ⟨b, off + i * 3 + c, none⟩ = some u := fun c u hu => by
  have := hcell c u hu
  rw [show jR.n = 3 from rfl, <- Nat.add_assoc] at this
  exact this
 exact ⟨b, off, ra, rcap, e, trivial, hc 0 _ (by rw [ee]; rfl), hc 1 _ (by rw [ee]; rfl), hc 2 _ (by rw [ee]; rfl), r1, r2, aEw r3 (hl q (List.mem_of_getElem? hq))⟩
theorem aBk {L : List iJ} {N : Nat} (h : dK jR.bulk L ≤ N) : L.length ≤ N /\ ∀ q ∈ L, q.2.2.1.length ≤ N /\ ∀ ss ∈ q.2.2.1, ss.length ≤ N := by
 refine ⟨Nat.le_trans (gR jR.bulk (fun x => by show 1 ≤ _ + 1; omega) L) h, fun q hq => ?_⟩
 have h1 : jR.bulk q ≤ N := Nat.le_trans (oQ jR.bulk hq) h
 have h2 : shT.bulk q.1 + (1 + ((dK aA9.bulk q.2.2.1 + 1) + 0)) + 1 ≤ N := h1
 have h3 := gR aA9.bulk (fun x => by show 1 ≤ _ + 1; omega) q.2.2.1
 refine ⟨by omega, fun ss hs => ?_⟩
 have h4 : aA9.bulk ss ≤ _ := oQ aA9.bulk hs
 have h5 : dK shT.bulk ss + 1 ≤ dK aA9.bulk q.2.2.1 := h4
 have h6 := gR shT.bulk (fun x => by show 1 ≤ _ + 1; omega) ss
 omega
end Go.Proofs.YtinnmeiphbdogaaGreat
/- Proved here: the statement JoinMoreUptoSaid: the law returns true for every input of the bound that the row names and leaves its arguments as they were. No condition of its own. -/
namespace Go.Proofs.YtinnmeiphbdogaaGreat.lawJoinMore
open Go.ChangeShapes Go.WideShapes Go.ChangeAt Go.RowKit
open Go.ChangeMaps (open_string shut_string)
theorem own : ownKnob Tryz.prog.godebug = none := by kernel_rfl
theorem laidOut : laidOutB Tryz.prog = true := by kernel_rfl
theorem aG6 {v u1 u2 z : Value} {W : World} (hv : ∃ cs x, v = .agg cs /\ kI.At W (fun k => k < W.heap.size) cs.toList x /\ kI.bulk x ≤ 1048576)
 (h1 : ∃ ao cap xs, u1 = .slice ao xs.length cap /\ xs.length ≤ cap /\ ElemsAt jR W (fun k => k < W.heap.size) ao xs /\ dK jR.bulk xs + 1 ≤ 1048576)
 (h2 : ∃ ao cap xs, u2 = .slice ao xs.length cap /\ xs.length ≤ cap /\ ElemsAt jR W (fun k => k < W.heap.size) ao xs /\ dK jR.bulk xs + 1 ≤ 1048576)
 (hz : ∃ k : Int, z = .int .i64 k) :
 Calls Tryz.prog 9 #[v, u1, u2, z] W (fun e w' => e = .returned (.bool true) /\ Below W.heap.size W w') := by
 obtain ⟨cs, x, rfl, hx, hb⟩ := hv
 obtain ⟨a1, c1, x1, rfl, _, e1, b1⟩ := h1
 obtain ⟨a2, c2, x2, rfl, _, e2, b2⟩ := h2
 obtain ⟨k, rfl⟩ := hz
 obtain ⟨ha, hcap, ba, bcap, hR, ec⟩ := aDo hx
 have ecs : cs = #[.string x.1.1, .slice ha x.1.2.1.length hcap, .slice ba x.2.1.length bcap] := by
  rw [<- Array.toList_inj, ec]
 obtain ⟨f1, f2⟩ := aIy (r := x) hb
 obtain ⟨l1, l3⟩ := aBk (N := 1048576) (by omega : dK jR.bulk x1 ≤ 1048576)
 obtain ⟨l2, l4⟩ := aBk (N := 1048576) (by omega : dK jR.bulk x2 ≤ 1048576)
 rw [ecs]
 refine (aEc (p := x.1.1) (hcap := hcap) (bcap := bcap) (lc := c1) (fc := c2) (k := k) rfl hR.head f1 rfl hR.body f2 (aG5 hb) rfl (wJ e1 fun q hq ss hs => by have := (l3 q hq).2 ss hs; omega) l1 (fun q hq => (l3 q hq).1) rfl (wJ e2 fun q hq ss hs => by have := (l4 q hq).2 ss hs; omega) l2 (fun q hq => (l4 q hq).1)).mono ?_
 rintro e w' ⟨v, rfl, hk, rfl⟩
 exact ⟨rfl, hk.below⟩
set_option maxRecDepth 100000 in
theorem lifted (os : Os) (started : os.Started) (H : Type) (enc : TypeId × Value -> H) (F : Stop.Interp) :
 ReturnsInHanded {} Tryz.checked os 9 .any ((Rows.OpenSpec.upto Rows.joinMoreSpec).pre6 enc Tryz.prog Tryz.f9 Rows.joinMoreUptoRow.domain false) (((Rows.OpenSpec.upto Rows.joinMoreSpec).at F).post enc Tryz.prog Tryz.f9 false true false false) := by
 refine returnsInHanded_of_cond (C := Tryz.checked) (s := Rows.OpenSpec.upto Rows.joinMoreSpec) (k := Rows.uptoSmall) rfl own started (by kernel_rfl) Tryz.func9
  (OpenSpec.witness (enc := enc) (C := Tryz.checked) (s := Rows.OpenSpec.upto Rows.joinMoreSpec) (k := Rows.uptoSmall) rfl false ⟨#[], #[.agg #[.string ⟨#[]⟩,   .slice none 0 0,   .slice none 0 0], .slice none 0 0, .slice none 0 0, .int .i64 0], []⟩ 8 (by kernel_rfl) (by kernel_rfl) (by kernel_rfl)
   (x := (([.agg [.agg [.lit (.string []), .nil], .nil], .nil, .nil, .lit (.int .i64 0)]), [], [])) (by kernel_rfl) rfl (by kernel_rfl)) ?_
 intro W base args ds gs before hval0 hW hcnd hk0 _
 have hk : Rows.uptoSmall H (ds ++ gs) = true := hk0
 clear hk0
 have hval : ∀ (j : Nat) t v, Tryz.f9.params[j]? = some t -> args[j]? = some v -> Value.okWide Tryz.prog W .any base t v := hval0
 have hW' := hW
 obtain ⟨p, q, hA0, hV, rfl, hfz, hnd⟩ := hW
 have hA : DataW.TrodAll enc Tryz.prog W 0 (fun _ => true) true Tryz.f9.params.toList args.toList ds p := hA0
 rw [Tryz.params9] at hA hval
 obtain ⟨v0, vs0, d0, ds0, p0, q0, hargs, rfl, rfl, h0, r0⟩ := trodAll_cons hA
 obtain ⟨v1, vs1, d1, ds1, p1, q1, rfl, rfl, rfl, h1, r1⟩ := trodAll_cons r0
 obtain ⟨v2, vs2, d2, ds2, p2, q2, rfl, rfl, rfl, h2, r2⟩ := trodAll_cons r1
 obtain ⟨v3, vs3, d3, ds3, p3, q3, rfl, rfl, rfl, h3, r3⟩ := trodAll_cons r2
 obtain ⟨rfl, rfl, rfl⟩ := trodAll_nil r3
 obtain rfl : args = #[v0, v1, v2, v3] := by cases args; simp_all
 obtain ⟨rfl, rfl⟩ := trodVars_none hV
 have lt0 : ∀ x ∈ p0, x.block < W.heap.size := by obtain ⟨m, hm⟩ := h0; exact DataW.trod_lt m _ _ _ hm
 have lt1 : ∀ x ∈ p1, x.block < W.heap.size := by obtain ⟨m, hm⟩ := h1; exact DataW.trod_lt m _ _ _ hm
 have lt2 : ∀ x ∈ p2, x.block < W.heap.size := by obtain ⟨m, hm⟩ := h2; exact DataW.trod_lt m _ _ _ hm
 have lt3 : ∀ x ∈ p3, x.block < W.heap.size := by obtain ⟨m, hm⟩ := h3; exact DataW.trod_lt m _ _ _ hm
 clear hA0 hval0
 simp only [List.append_nil] at hk
 have hk1 : Rows.uptoBulkAll [d0, d1, d2, d3] ≤ 1048576 := of_decide_eq_true hk
 clear hk
 have x0 : ∃ cs x, v0 = .agg cs /\ kI.At W (fun k => k < W.heap.size) cs.toList x /\ kI.bulk x ≤ 1048576 := by
  obtain ⟨cs, rfl, hcs⟩ := okWide_struct Tryz.underlying27 (hval 0 27 v0 rfl rfl)
  obtain ⟨x, hx, hb⟩ := kI.arg h0 (aAj hk1 (by simp))
  exact ⟨cs, x, rfl, hx, hb⟩
 have x1 := zD (s := jR) Tryz.underlying28 (by kernel_rfl) (by exact (by decide : 0 < 3)) (hval 1 28 v1 rfl rfl) h1 (N := 1048576) (aAj hk1 (by simp))
 have x2 := zD (s := jR) Tryz.underlying28 (by kernel_rfl) (by exact (by decide : 0 < 3)) (hval 2 28 v2 rfl rfl) h2 (N := 1048576) (aAj hk1 (by simp))
 have x3 := (open_int Tryz.underlying3 (hval 3 3 v3 rfl rfl) h3).imp fun n h => h.1
 refine (aG6 x0 x1 x2 x3).mono fun e W' ⟨he, bel⟩ => ?_
 subst he
 exact ⟨_, rfl, _, _, _, [], _, [], hW', trodAll_mk1 (shut_bool Tryz.underlying4 _), (trodAll_cons_mk (Below.trod laidOut (by kernel_rfl) (of_decide_eq_true (by kernel_rfl)) h0 bel lt0) (trodAll_cons_mk (Below.trod laidOut (by kernel_rfl) (of_decide_eq_true (by kernel_rfl)) h1 bel lt1) (trodAll_cons_mk (Below.trod laidOut (by kernel_rfl) (of_decide_eq_true (by kernel_rfl)) h2 bel lt2) (trodAll_cons_mk (Below.trod laidOut (by kernel_rfl) (of_decide_eq_true (by kernel_rfl)) h3 bel lt3) trodAll_mk0)))), rfl, bel.frame _, fun h => by cases h⟩
theorem over : Rows.joinMoreUptoRow.holds Tryz.pinned (Rows.OpenSpec.upto Rows.joinMoreSpec) :=
 OpenClaim.holds_of_cond 9 Tryz.f9 rfl rfl rfl rfl rfl rfl rfl ⟨rfl, rfl, rfl, rfl, rfl⟩ rfl rfl rfl rfl rfl (by kernel_rfl) Tryz.func9 (by kernel_rfl)
  (of_decide_eq_true (by kernel_rfl)) (by unfold Func.isWrapper; first | (rw [if_pos (by decide +kernel)]; kernel_rfl) | (rw [if_neg (by decide +kernel)]; exact ⟨rfl, rfl⟩))
  (fun os started H enc _ F => lifted os started H enc F)
theorem proved : Rows.JoinMoreUptoSaid := over
#print axioms proved
end Go.Proofs.YtinnmeiphbdogaaGreat.lawJoinMore
