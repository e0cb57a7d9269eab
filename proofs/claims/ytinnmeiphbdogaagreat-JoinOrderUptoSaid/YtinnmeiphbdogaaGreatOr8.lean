/- Texts joined for a claim (Each, JoinHead, HeadWalk, FactsAux, FactsPlain, FactsRound, Facts, JoinSmall, JColl, JEach, JPut, RefEnv, RefVal, JRefHead, JLent, RowSame, BaseAdd, BaseAdd2, BaseDecl, BaseFrom, JGiven, JOver, MergePlain, JMorePlain, JBase, JFew, JOrderPlain). -/
import Derived.Test.YtinnmeiphbdogaaGreatOr7
import Derived.Laws.Concat
set_option linter.unusedVariables false
set_option linter.unusedSimpArgs false
/- join: Each: the bindings of a rule over one base. -/
namespace Go.Proofs.YtinnmeiphbdogaaGreat
open Go.RowKit Go.Shelf
attribute [local go_sem] Oper.semAt_some
theorem rH : dN Tryz.prog 64 29 1 8 (.pointer none) := ⟨by kernel_rfl, by kernel_rfl, rfl, by decide⟩
theorem aJ0 (n : Nat) (hn : n ≤ 1048576) (w : World) : Calls Tryz.prog 131 #[.int .u64 (1 : Nat), .int .u64 (n : Nat)] w fun e w' => e = .returned (.tuple #[.int .u64 0, .int .u64 (n : Nat)]) /\ w' = w := by
 refine (Tryz.bits_Mul 1 n (by omega) (by omega) w).mono ?_
 rintro e w' ⟨rfl, rfl⟩
 have h1 : 1 * n / 18446744073709551616 = 0 := Nat.div_eq_of_lt (by omega)
 have h2 : 1 * n % 18446744073709551616 = n := by rw [Nat.one_mul]; exact Nat.mod_eq_of_lt (by omega)
 rw [h1, h2]
 exact ⟨rfl, rfl⟩
def aJk (w0 : World) (g n : Nat) (bv : Value) (kv : Value) (W : World) : Prop := ∃ k : Nat, k ≤ n /\ (n = 0 \/ 0 < k) /\ kv = .int .i64 k /\ Hid (Ext w0 W) /\ Hid (Blk W g (List.replicate k bv ++ List.replicate (n - k) (.pointer none)) 29)
set_option maxRecDepth 100000 in
set_option maxHeartbeats 2000000 in
theorem aDe {w : World} {o : Option Addr} {xa : Option Addr} {xc n : Nat} (hx : CellsAt w xa [.pointer o]) (hn : n ≤ 1048576) :
 Calls Tryz.prog 92 #[.slice xa 1 xc, .int .i64 n] w (RetN w fun w' v => ∃ ao cap, v = .slice ao n cap /\ CellsAt w' ao (List.replicate n (.pointer o))) := by
 have HX := qH hx
 have hm := aJ0 n hn w
 have HMu := qH hm
 have hmk := jG (P := Tryz.prog) rH (c := .pointer none) rfl n (by omega) (by unfold maxLen; omega) w
 rw [Nat.mul_one] at hmk
 obtain ⟨g, eg⟩ : ∃ x, w.heap.size = x := ⟨_, rfl⟩
 obtain ⟨w1, e1⟩ : ∃ x, w.alloc (.cells (Array.replicate n (.pointer none)) 29) = x := ⟨_, rfl⟩
 have hB1 : Blk w1 g (List.replicate n (.pointer none)) 29 := by
  have h := Blk.new w (List.replicate n (.pointer none)) 29
  rw [List.toArray_replicate, e1, eg] at h
  exact h
 have x1 : Ext w w1 := by rw [<- e1]; exact (Kp.refl w).alloc _
 obtain ⟨w2, hrun, hk2, hB2⟩ := nS (P := Tryz.prog) rH hB1 (off := 0) (dp := some ⟨g, 0, none⟩) (dLen := n) (dCap := n) (sp := xa) (sLen := 1) (sCap := xc) (cs := List.replicate (Nat.min 1 n) (.pointer o)) (by simp) (fun _ => rfl) (fun j u hu => by
  have hj := (List.getElem?_eq_some_iff.1 hu).1
  rw [List.length_replicate] at hj
  have hj1 : j < 1 := Nat.lt_of_lt_of_le hj (Nat.min_le_left _ _)
  rw [List.getElem?_replicate, if_pos hj] at hu
  obtain rfl : j = 0 := by omega
  exact (hx.ext x1) 0 u (by cases hu; rfl)) (by simp [List.length_replicate]; exact Nat.min_le_right _ _) (fun u hu => by rw [List.eq_of_mem_replicate hu]; rfl)
 have n0 : ¬ (n : Int) < 0 := by omega
 have n1 : ¬ (9223372036854775807 : Int) < (n : Int) := by omega
 have hlen : (List.replicate (Nat.min 1 n) (Value.pointer o)).length = Nat.min 1 n := List.length_replicate
 obtain ⟨k0, ek0⟩ : ∃ k, Nat.min 1 n = k := ⟨_, rfl⟩
 rw [ek0] at hrun hB2 hlen
 rw [hlen] at hrun
 have hk0 : k0 ≤ n /\ (n = 0 \/ 0 < k0) /\ (n = 0 -> k0 = 0) /\ (0 < n -> k0 = 1) := by rw [<- ek0]; simp only [Nat.min_def]; split <;> omega
 have hB2' : Blk w2 g (List.replicate k0 (.pointer o) ++ List.replicate (n - k0) (.pointer none)) 29 := by
  have e : splice (List.replicate n (Value.pointer none)) 0 (List.replicate k0 (Value.pointer o)) = List.replicate k0 (.pointer o) ++ List.replicate (n - k0) (.pointer none) := by
   unfold splice
   simp
  rw [e] at hB2; exact hB2
 have HP := qH (show aJk w g n (.pointer o) (.int .i64 k0) w2 from ⟨k0, hk0.1, hk0.2.1, rfl, qH (x1.trans' hk2 fun i hi e => by have e' : i = g := e; omega), qH hB2'⟩)
 have hg : goInt (k0 : Nat) = .int .i64 (k0 : Nat) := rfl
 rw [hg] at hrun
 have HEG := qH eg
 clear hx hB1 x1 hk2 hB2 hB2' hm hlen ek0 hk0 hg
 go_enter Tryz.func92, Tryz.ntmps92
 go_wp2_with fail
 refine HMu.out.mono ?_
 rintro e w' ⟨rfl, rfl⟩
 go_wp2
 go_loopw [8] (fun kv wk => aJk w' g n (.pointer o) kv wk) (fun kv _ => n - (intOf kv).toNat)
 case atStart => exact HP.out
 case round =>
  clear HP hrun
  obtain ⟨k, hk, hk0, rfl, hex, hb⟩ := hrel
  by_cases hlt : k < n
  ·have hkp : 0 < k := by omega
   obtain ⟨j, ej⟩ : ∃ j, Nat.min k (n - k) = j := ⟨_, rfl⟩
   have hj1 : j ≤ k := by rw [<- ej]; exact Nat.min_le_left _ _
   have hj2 : j ≤ n - k := by rw [<- ej]; exact Nat.min_le_right _ _
   have hj3 : 0 < j := by rw [<- ej]; simp only [Nat.min_def]; split <;> omega
   obtain ⟨W2, hrun2, hk3, hB3⟩ := nS (P := Tryz.prog) rH (hb.out.drew) (off := k) (dp := some ⟨g, k, none⟩) (dLen := n - k) (dCap := n - k) (sp := some ⟨g, 0, none⟩) (sLen := k) (sCap := n) (cs := List.replicate j (.pointer o)) (by rw [List.length_replicate, ej]) (fun _ => rfl) (fun i u hu => by
    have hi := (List.getElem?_eq_some_iff.1 hu).1
    rw [List.length_replicate] at hi
    rw [List.getElem?_replicate, if_pos hi] at hu
    refine ⟨g, 0, rfl, ?_⟩
    rw [hb.out.drew.cell', Nat.zero_add, List.getElem?_append_left (by rw [List.length_replicate]; omega), List.getElem?_replicate, if_pos (by omega)]
    exact hu) (by simp; omega) (fun u hu => by rw [List.eq_of_mem_replicate hu]; rfl)
   rw [List.length_replicate] at hrun2
   have hg : goInt (j : Nat) = .int .i64 (j : Nat) := rfl
   rw [hg] at hrun2
   have HNX := qH (show aJk w' g n (.pointer o) (.int .i64 ((k : Int) + (j : Int))) W2 from by
    refine ⟨k + j, by omega, .inr (by omega), by congr 1, qH (hex.out.trans' ((Ext.kp (Kp.refl wr).drew).trans hk3) fun i hi e => ?_), qH ?_⟩
    ·have e' : i = g := e
     have := HEG.out
     omega
    ·have e : splice (List.replicate k (.pointer o) ++ List.replicate (n - k) (Value.pointer none)) k (List.replicate j (.pointer o)) = List.replicate (k + j) (.pointer o) ++ List.replicate (n - (k + j)) (.pointer none) := by
      unfold splice
      rw [List.take_append_of_le_length (by simp), List.take_of_length_le (by simp), List.length_replicate, List.drop_append, List.drop_of_length_le (by simp), List.length_replicate, List.drop_replicate, List.nil_append, <- List.append_assoc, List.replicate_append_replicate]
      congr 2
      omega
     rw [e] at hB3
     exact hB3)
   have k1 : (k : Int) < (n : Int) := by omega
   have k2 : (k : Int) ≤ (n : Int) := by omega
   have k3 : ¬ n = k := by omega
   have rk : (n : Int) - k = ((n - k : Nat) : Int) := by omega
   have HJ := qH (And.intro hj1 (And.intro hj2 hj3))
   clear hex hb hk3 hB3 hg hk0 hk ej
   go_wp2
   refine aW (fun _ : World => True) [] (by kernel_rfl) trivial (fun hHeld => ?_)
   refine dF 0 ?_; try simp only [Act.put,sI,sZ,sS]
   refine dF 1 ?_; try simp only [Act.put,sI,sZ,sS]
   refine dF 2 ?_; try simp only [Act.put,sI,sZ,sS]
   refine dI 3 ?_; try simp only [Act.put,sI,sZ,sS]
   refine dF 4 ?_; try simp only [Act.put,sI,sZ,sS]
   refine dF 5 ?_; try simp only [Act.put,sI,sZ,sS]
   refine dI 6 ?_; try simp only [Act.put,sI,sZ,sS]
   refine aD (i := 7) ?_
   refine aG (i := 7) rfl (fun K hK => ?_)
   go_simp
   refine hK.out _ _ ?_ (fun hHeld => ?_)
   ·(try dsimp only); (first | done | trivial)
   clear hK K; (try simp only [Act.put,sI,sZ,sS])
   refine dF 8 ?_; try simp only [Act.put,sI,sZ,sS]
   refine dF 9 ?_; try simp only [Act.put,sI,sZ,sS]
   refine aM (by kernel_rfl) ?_ _
   clear hHeld
   have hw : IntKind.i64.wrap ((k : Int) + (j : Int)) = (k : Int) + (j : Int) := IntWalk.i64_in _ (by have := HJ.out; omega)
   go_wp2
   try rw [hw]
   go_roundw
   case rel => exact HNX.out
   case measure => have := HJ.out; simp [intOf]; omega
  ·obtain rfl : n = k := by omega
   have hB2 := hb.out
   rw [Nat.sub_self, List.replicate_zero, List.append_nil] at hB2
   have HR := qH (show Ext w' wr /\ CellsAt wr (some ⟨g, 0, none⟩) (List.replicate n (.pointer o)) from ⟨hex.out, CellsAt.pre (rest := []) (by rw [List.append_nil]; exact hB2)⟩)
   clear hex hb hB2 hk0 hk hlt
   go_wp2
   go_ret
   exact RetN.mk HR.out.1 ⟨_, _, rfl, HR.out.2⟩
def wN (ls : List aJ) (E : List Ent) (j : Nat) : List Ent := if j < ls.length then E else []
set_option maxRecDepth 100000 in
set_option maxHeartbeats 2000000 in
theorem aCg {S : Nat -> Prop} {w : World} {p : ByteArray} {hs : List aF} {ls : List aJ} {ha ba : Option Addr} {hn hcap n bcap : Nat} {G : Nat -> Prop} {o : Option Addr} {E : List Ent} {L : aE} (hhn : hn = hs.length) (hh : aQ w G ha hs) (hhl : hn ≤ 1048576) (hbn : n = ls.length) (h : bQ w G ba ls) (hf : Fit ls) (hnv : (aB ls).length ≤ 1048576) (hn16 : n ≤ 1048576)
 (hB : BaseV S w (.pointer o) E) (hL : lW ((p, hs, ()), ls, ()) (bD (wN ls E) ls) L) :
 Calls Tryz.prog 46 #[cP p ha hn hcap ba n bcap, .pointer o] w (RetN w fun w' v => aJr w w' L v) := by
 have HOv := qH (fun W (hW : Ext w W) (bsa : Option Addr) (bsc : Nat) (hbs : CellsAt W bsa (List.replicate n (.pointer o))) => aIk (w := W) (p := p) (hs := hs) (ls := ls) (ha := ha) (ba := ba) (bsa := bsa) (hn := hn) (hcap := hcap) (n := n) (bcap := bcap) (nb := n) (bsc := bsc) (G := G) (bvs := List.replicate n (.pointer o)) (Es := wN ls E) (L := L) hhn (hh.ext hW) hhl hbn (h.ext hW) hf hnv hn16 (by rw [List.length_replicate]) hbs (fun j => by
  unfold wN
  by_cases hj : j < n
  ·rw [List.getD_eq_getElem?_getD, List.getElem?_replicate, if_pos hj, if_pos (by omega)]
   exact ⟨S, hB.ext hW⟩
  ·rw [List.getD_eq_getElem?_getD, List.getElem?_replicate, if_neg hj, if_neg (by omega)]
   exact ⟨fun _ => False, BaseV.nil⟩) hL)
 have HN := qH hn16
 obtain ⟨gb, egb⟩ : ∃ g, w.heap.size = g := ⟨_, rfl⟩
 obtain ⟨w1, e1⟩ : ∃ x, w.alloc (.cells #[.string p, .slice ha hn hcap, .slice ba n bcap] 27) = x := ⟨_, rfl⟩
 have x1 : Ext w w1 := by rw [<- e1]; exact (Kp.refl w).alloc _
 have hB1 : Blk w1 gb [.string p, .slice ha hn hcap, .slice ba n bcap] 27 := by rw [<- e1, <- egb]; exact Blk.new w _ _
 have H1 := qH x1
 have HJ := qH (show ∀ w', Ext w1 w' -> (fun w' : World => w'.cell? ⟨gb, 0, none⟩ = some (.string p) /\ w'.cell? ⟨gb, 1, none⟩ = some (.slice ha hn hcap) /\ w'.cell? ⟨gb, 2, none⟩ = some (.slice ba n bcap)) w' from fun w' hw' => ⟨by rw [(hB1.ext hw').cell']; rfl, by rw [(hB1.ext hw').cell']; rfl, by rw [(hB1.ext hw').cell']; rfl⟩)
 clear hhn hh hhl hbn h hf hnv hB hL x1 hB1
 go_enter Tryz.func46, Tryz.ntmps46
 go_wp2
 clear e1 egb
 refine aW (fun w' : World => w'.cell? ⟨gb, 0, none⟩ = some (.string p) /\ w'.cell? ⟨gb, 1, none⟩ = some (.slice ha hn hcap) /\ w'.cell? ⟨gb, 2, none⟩ = some (.slice ba n bcap)) [7, 8] (by kernel_rfl) (HJ.out _ (Kp.refl w1).drew) (fun hHeld => ?_)
 refine dI 0 ?_; try simp only [Act.put,sI,sZ,sS]
 refine dF 1 ?_; try simp only [Act.put,sI,sZ,sS]
 refine dF 3 ?_; try simp only [Act.put,sI,sZ,sS]
 refine dI 4 ?_; try simp only [Act.put,sI,sZ,sS]
 refine dI 5 ?_; try simp only [Act.put,sI,sZ,sS]
 refine aD (i := 2) ?_
 refine aG (i := 2) rfl (fun K hK => ?_)
 go_simp
 refine hK.out _ _ ?_ (fun hHeld => ?_)
 ·(try dsimp only); (exact HJ.out _ (((Kp.refl w1).drew).alloc _))
 clear hK K; (try simp only [Act.put,sI,sZ,sS])
 refine aD (i := 6) ?_
 refine aG (i := 6) rfl (fun K hK => ?_)
 go_simp
 (refine (aDe (o := o) (CellsAt.one w1.drew (.pointer o) 29) HN.out).mono ?_; rintro e w4 ⟨v4, rfl, hk4, ao, cap, rfl, hcs⟩; have X1 := qH (And.intro (show Ext w1 w4 from (((Kp.refl w1).drew).alloc _).trans hk4) hcs); clear hk4 hcs)
 go_wp2_with fail
 refine hK.out _ _ ?_ (fun hHeld => ?_)
 ·(try dsimp only); (exact HJ.out _ X1.out.1)
 clear hK K; (try simp only [Act.put,sI,sZ,sS])
 refine aD (i := 7) ?_
 refine aI (i := 7) rfl (by kernel_rfl) (fun K hK => ?_)
 go_simp
 (refine (HOv.out w4 (H1.out.trans X1.out.1) ao cap X1.out.2).mono ?_; rintro e w5 ⟨v5, rfl, hk5, hbd⟩; have X2 := qH (And.intro hk5 hbd); clear hk5 hbd)
 go_wp2_with fail
 refine hK.out _ _ ?_
 clear hK K; (try simp only [Act.put,sI,sZ,sS])
 refine aD (i := 8) ?_
 refine aI (i := 8) rfl (by kernel_rfl) (fun K hK => ?_)
 go_simp
 refine hK.out _ _ ?_
 clear hK K; (try simp only [Act.put,sI,sZ,sS])
 refine aM (by kernel_rfl) ?_ _
 clear hHeld
 go_wp2
 go_ret
 have hx4 : Ext w w4 := H1.out.trans X1.out.1
 obtain ⟨xb, lo, hlo, ev, hseq⟩ := X2.out.2
 exact RetN.mk (hx4.trans X2.out.1) ⟨xb, lo, Nat.le_trans hx4.size hlo, ev, hseq⟩
end Go.Proofs.YtinnmeiphbdogaaGreat
/- A rule's head with a binding: plain. -/
namespace Go.Proofs.YtinnmeiphbdogaaGreat
end Go.Proofs.YtinnmeiphbdogaaGreat
/- join: Head: a rule's head with a binding. -/
namespace Go.Proofs.YtinnmeiphbdogaaGreat
open Go.RowKit Go.Shelf
attribute [local go_sem] Oper.semAt_some
end Go.Proofs.YtinnmeiphbdogaaGreat
/- join: Facts: does a head ask for a sum? -/
namespace Go.Proofs.YtinnmeiphbdogaaGreat
open Go.RowKit Go.Shelf
attribute [local go_sem] Oper.semAt_some
end Go.Proofs.YtinnmeiphbdogaaGreat
/- join: Facts: rows that are added one by one: plain. -/
namespace Go.Proofs.YtinnmeiphbdogaaGreat
end Go.Proofs.YtinnmeiphbdogaaGreat
/- join: Facts: a round of its range over the bindings. -/
namespace Go.Proofs.YtinnmeiphbdogaaGreat
open Go.RowKit Go.Shelf
attribute [local go_sem] Oper.semAt_some
end Go.Proofs.YtinnmeiphbdogaaGreat
/- join: Facts. -/
namespace Go.Proofs.YtinnmeiphbdogaaGreat
open Go.RowKit Go.Shelf
attribute [local go_sem] Oper.semAt_some
structure FactsAt (w X : World) (gb b7 rb : Nat) (cs : List Value) : Prop where
 rule : Blk X gb cs 27
 r4 : Blk X (gb + 1) [.pointer none] 88
 r5 : Blk X (gb + 1 + 1) [.int .i64 0] 41
 rows : Blk X b7 [.pointer (some ⟨rb, 0, none⟩)] 88
 ext : Ext w X
 lt : gb + 1 + 1 < b7
theorem GvRow.put (T : Nat -> Prop) (W1 W2 : World) (x : XB) (l : Nat) (r o : Obj) (h : GvRow W1 T W2 x) (hr : W2.heap[l]? = some r) (hc : r.isCells = false) : GvRow (W1.putObj l o) T (W2.putObj l o) x := by
 refine ⟨h.1, ?_⟩
 rcases h.2 with h2 | ⟨g, rest, h1, h2, h3, h4⟩
 ·exact .inl h2
 ·refine .inr ⟨g, rest, h1, h2.kp (F := fun k => k = l) (Kp.putF (F := fun k => k = l) rfl _) (fun e => ?_), by rw [size_put]; exact h3, h4⟩
  have e' : g = l := e
  unfold Blk at h2
  rw [e', hr] at h2
  cases h2; cases hc
theorem GvRow.cells {W1 W2 : World} {T : Nat -> Prop} {xa : Option Addr} {xn xc : Nat} {V : List ByteArray} (h : GvRow W1 T W2 ((xa, xn, xc), V)) : (xn = V.length /\ xc = V.length) /\ CellsAt W2 xa (strs V) := by
 obtain ⟨h1, h2⟩ := h
 have h1' : (xn, xc) = (V.length, V.length) := h1
 refine ⟨⟨congrArg Prod.fst h1', congrArg Prod.snd h1'⟩, ?_⟩
 rcases h2 with ⟨e, e2⟩ | ⟨g, rest, e, hb, _⟩
 ·have e2' : V = [] := e2
  rw [e2']; exact CellsAt.nil _ _
 ·have e' : xa = some ⟨g, 0, none⟩ := e
  rw [e']; exact CellsAt.pre hb
end Go.Proofs.YtinnmeiphbdogaaGreat
/- The constants of bindings are small; a binding as one text: plain. -/
namespace Go.Proofs.YtinnmeiphbdogaaGreat
theorem aD9 {x : List ByteArray} {i : Nat} (h : bP x = true) : (aY x i).size ≤ 4096 := by
 unfold aY
 rw [List.getD_eq_getElem?_getD]
 cases hx : x[i]? with
 | none => show ByteArray.empty.size ≤ 4096; exact Nat.zero_le _
 | some s =>
  unfold bP at h
  exact of_decide_eq_true (List.all_eq_true.1 h s (List.mem_of_getElem? hx))
theorem aEr {ls : List aJ} {R : Nat -> aE} {V : List ByteArray} (hV : bS ls R V) (hR : ∀ j x, x ∈ R j -> bP x = true) : ∀ s ∈ V, s.size ≤ 4096 := fun s hs => by
 obtain ⟨v, hv⟩ := List.mem_iff_getElem?.1 hs
 have hvl := (List.getElem?_eq_some_iff.1 hv).1
 rw [hV.1] at hvl
 obtain ⟨l, hl, h1, hva⟩ := jF hvl
 obtain ⟨j, hj⟩ := List.mem_iff_getElem?.1 hl
 have hh := hV.2 j l hj
 unfold fD at hh
 rw [if_pos h1] at hh
 obtain ⟨x, hx, -, hf⟩ := hh
 obtain ⟨hvn, i, t, hi, ht, he⟩ := cG.1 hva
 obtain ⟨v', hv', e'⟩ := (hf i t hi).2 ht
 have hv0 : (aB ls)[v]? = some (aY (aB ls) v) := by unfold aY; rw [List.getD_eq_getElem?_getD, qG hvn]; rfl
 rw [he] at hv'
 have : v = v' := (List.getElem?_inj hvn (bE ls)).1 (hv0.trans hv'.symm)
 subst this
 rw [hv] at e'
 cases e'
 exact aD9 (hR j x hx)
def gZ (V : List ByteArray) : ByteArray := V.foldl (fun s x => s ++ x ++ ⟨#[59]⟩) ⟨#[]⟩
theorem aD2 (V : List ByteArray) (x : ByteArray) : gZ (V ++ [x]) = gZ V ++ x ++ ⟨#[59]⟩ := by unfold gZ; rw [List.foldl_append]; rfl
theorem vG {V : List ByteArray} {i : Nat} {x : ByteArray} (h : V[i]? = some x) : gZ (V.take (i + 1)) = gZ (V.take i) ++ x ++ ⟨#[59]⟩ := by
 rw [List.take_add_one, h]; exact aD2 _ _
theorem aBz {V : List ByteArray} (h : ∀ s ∈ V, s.size ≤ 4096) (i : Nat) : (gZ (V.take i)).size ≤ i * 4097 := by
 induction i with
 | zero => exact Nat.zero_le _
 | succ i ih =>
  rw [Nat.succ_mul]
  generalize i * 4097 = m at ih ⊢
  cases hx : V[i]? with
  | none =>
   rw [List.take_add_one, hx, Option.toList_none, List.append_nil]
   exact Nat.le_trans ih (Nat.le_add_right _ _)
  | some x =>
   have h2 := h x (List.mem_of_getElem? hx)
   rw [vG hx, ByteArray.size_append, ByteArray.size_append, show (⟨#[59]⟩ : ByteArray).size = 1 from rfl]
   omega
end Go.Proofs.YtinnmeiphbdogaaGreat
/- A list of texts that grows between the rounds of a range over bindings. -/
namespace Go.Proofs.YtinnmeiphbdogaaGreat
open Go.RowKit Go.Shelf
attribute [local go_sem] Oper.semAt_some
def ListI (w8 : World) (b : Nat) (f : List XB -> List ByteArray) (T : Nat -> Prop) (pre : List XB) (W : World) : Prop :=
 Kp (fun k => k = b) w8 W /\ (∀ k, T k -> w8.heap.size ≤ k) /\ ∃ v, Blk W b [v] 34 /\ Row W 9 1 v (f pre).length (strs (f pre)) (fun g => w8.heap.size ≤ g /\ ¬ T g)
section
variable {w8 W1 W : World} {b : Nat} {f : List XB -> List ByteArray} {T T' : Nat -> Prop} {pre : List XB}
theorem ListI.step (h : ListI w8 b f T pre W1) (hb : b < w8.heap.size) (hk : Kp T W1 W) (hT : ∀ k, T' k -> yZ T W1 W k) : ListI w8 b f T' pre W := by
 obtain ⟨h1, h2, v, h3, h4⟩ := h
 have hs1 := h1.size
 refine ⟨h1.trans' hk fun i hi hf => absurd (h2 i hf) (by omega), fun k hk' => ?_, v, h3.kp hk fun hf => by have := h2 b hf; omega, ?_⟩
 ·rcases hT k hk' with h | h
  ·exact h2 k h
  ·omega
 ·have h5 := h4.kp' hk fun g hg hM hf => hM.2 hf
  obtain ⟨q1, q2 | ⟨g, cap, rest, a, hM, c, d⟩⟩ := h4
  ·obtain ⟨q3, q4⟩ := q2
   exact ⟨q1, .inl ⟨q3, q4⟩⟩
  ·obtain ⟨r1, ⟨r2, _⟩ | ⟨g', cap', rest', a', hM', c', d'⟩⟩ := h5
   ·rw [a] at r2; cases r2
   ·have hgg : g' = g := by rw [a] at a'; cases a'; rfl
    refine ⟨r1, .inr ⟨g', cap', rest', a', ⟨hM'.1, fun ht => ?_⟩, c', d'⟩⟩
    rcases hT g' ht with h | h
    ·exact hM'.2 h
    ·have := c.lt; omega
theorem ListI.put (h : ListI w8 b f T pre W) (hb : b < w8.heap.size) {l : Nat} {o o' : Obj} (hl : w8.heap.size ≤ l) (ho : W.heap[l]? = some o) (hc : o.isCells = false) : ListI w8 b f T pre (W.putObj l o') := by
 obtain ⟨h1, h2, v, h3, h4⟩ := h
 have hk : Kp (fun k => k = l) W (W.putObj l o') := Kp.putF (F := fun k => k = l) rfl _
 refine ⟨h1.trans' hk fun i hi hf => by have e : i = l := hf; omega, h2, v, h3.kp hk fun e => by have e' : b = l := e; omega, h4.kp' hk fun g hg _ e => ?_⟩
 obtain ⟨cs, hb'⟩ := aR h4 hg
 have e' : g = l := e
 unfold Blk at hb'
 rw [e', ho] at hb'; cases hb'; cases hc
theorem ListI.start (h : Blk w8 b [.slice none 0 0] 34) (hf : f [] = []) : ListI w8 b f (fun _ => False) [] w8 :=
 ⟨Kp.refl _, fun k h => h.elim, _, h, by rw [hf]; exact Row.nil _ _ _ _⟩
theorem ListI.round {v v' : Value} {X : World} {x : XB} {s : ByteArray} {Z : Nat -> Prop} (h : ListI w8 b f T pre W) (hb : b < w8.heap.size) (hTlt : ∀ k, T k -> k < W.heap.size) (hZ : ∀ k, Z k -> b < k /\ k < w8.heap.size) (hv : Blk W b [v] 34) (hk : Kp (fun k => k = b \/ v.ownBlock = some k) W X) (hB : Blk X b [v'] 34) (hr : Row X 9 1 v' ((f pre).length + 1) (strs (f pre ++ [s])) (fun g => v.ownBlock = some g \/ W.heap.size ≤ g)) (hf : f (pre ++ [x]) = f pre ++ [s]) :
 KeepsFrom w8.heap.size W X /\ Kp (fun k => ¬ gI Z T k) W X /\ ListI w8 b f T (pre ++ [x]) X := by
 obtain ⟨h1, h2, v0, h3, h4⟩ := h
 have e0 : v0 = v := by
  unfold Blk at h3 hv
  rw [h3] at hv; cases hv; rfl
 subst e0
 have hsz := h1.size
 have hno : ∀ k, (k = b \/ v0.ownBlock = some k) -> ¬ T k /\ (k = b \/ w8.heap.size ≤ k) := fun k hk => by
  rcases hk with h | h
  ·exact ⟨fun ht => by have := h2 k ht; omega, .inl h⟩
  ·exact ⟨(h4.block k h).2, .inr (h4.block k h).1⟩
 refine ⟨⟨hk.size, fun k o hB2 hk2 ho => (hk.block k (lt_of_block hk2) fun hf => ?_).trans hk2⟩, hk.mono fun k hk2 hf hz => ?_, h1.trans' hk fun k hk2 hf => ?_, h2, v', hB, ?_⟩
 ·rcases hf with e | e
  ·unfold Blk at h3; rw [e, h3] at hk2; cases hk2; cases ho
  ·obtain ⟨cs, hb'⟩ := aR h4 e
   unfold Blk at hb'; rw [hb'] at hk2; cases hk2; cases ho
 ·rcases hz with hz | hz
  ·exact (hno k hf).1 hz
  ·have := hZ k hz
   rcases (hno k hf).2 with h | h <;> omega
 ·rcases (hno k hf).2 with h | h
  ·exact h
  ·omega
 ·rw [hf, List.length_append, List.length_singleton]
  refine hr.mono fun g hg => ?_
  rcases hg with hg | hg
  ·exact h4.block g hg
  ·exact ⟨by omega, fun ht => by have := hTlt g ht; omega⟩
end
def sJ (pre : List XB) : List ByteArray := pre.map fun x => gZ x.2
noncomputable def aCh : Code := ((Tryz.f18.body.bind cJ).getD .skip)
set_option maxRecDepth 100000 in
theorem lit31 (t : Array Value) (h : t.size = 31) : ∃ u : Nat -> Value, (∀ i, t.getD i undef = u i) /\ t = #[u 0, u 1, u 2, u 3, u 4, u 5, u 6, u 7, u 8, u 9, u 10, u 11, u 12, u 13, u 14, u 15, u 16, u 17, u 18, u 19, u 20, u 21, u 22, u 23, u 24, u 25, u 26, u 27, u 28, u 29, u 30] := by
 refine ⟨fun i => t.toList.getD i undef, fun i => by simp [Array.getD_eq_getD_getElem?, List.getD_eq_getElem?_getD], ?_⟩
 apply Array.ext'
 have := kN t.toList 31 (by simpa using h)
 exact this
def aK2 (X : World) (V : List ByteArray) (n : Nat) (sv iv : Value) (W : World) : Prop := ∃ i : Nat, i ≤ n /\ iv = .int .i64 i /\ sv = .string (gZ (V.take i)) /\ Hid (Ext X W)
set_option maxRecDepth 100000 in
set_option maxHeartbeats 4000000 in
theorem aEj {X : World} {b5 n l : Nat} {xa : Option Addr} {xc : Nat} {V ss : List ByteArray} {v : Value} {M : Nat -> Prop} {t : Array Value} {Qn : World -> Prop}
 (h5 : Blk X b5 [v] 34) (hr : Row X 9 1 v n (strs ss) M) (hn : n ≤ 1048576 * 1048576) (hV : CellsAt X xa (strs V)) (hVl : V.length ≤ 1048576) (hVs : ∀ s ∈ V, s.size ≤ 4096)
 (hz : t.size = 31) (t5 : t.getD 5 undef = .pointer (some ⟨b5, 0, none⟩)) (t6 : t.getD 6 undef = .slice xa V.length xc)
 (hQn : ∀ X', Kp (fun k => k = b5 \/ v.ownBlock = some k) X X' -> (∃ v', Blk X' b5 [v'] 34 /\ Row X' 9 1 v' (n + 1) (strs (ss ++ [gZ V])) (fun g => v.ownBlock = some g \/ X.heap.size ≤ g)) -> Qn X') :
 aCh.wpIn (Fence.wide.inRound l) 2 Tryz.prog (gY Qn fun _ => False) { tmps := t, defers := [] } X := by
 obtain ⟨u, hu, rfl⟩ := lit31 t hz
 have e5 := (hu 5).symm.trans t5
 have e6 := (hu 6).symm.trans t6
 rw [e5, e6]
 clear hz t5 t6 e5 e6 hu
 obtain ⟨oa, oc, ev, _, _⟩ := hr.shape
 subst ev
 have HQ := qH hQn
 have H0 := qH (And.intro h5 hr)
 have HV := qH (And.intro hV hVs)
 obtain ⟨m, em⟩ : ∃ m, V.length = m := ⟨_, rfl⟩
 rw [em] at hVl ⊢
 have HM := qH em
 clear hQn h5 hr hV hVs em
 conv => arg 4; whnf
 gi_wp2
 gi_loopw [7, 8] (fun sv iv wr => aK2 X V m sv iv wr) (fun _ iv _ => m - (intOf iv).toNat)
 case atStart => exact ⟨0, Nat.zero_le _, rfl, rfl, qH (Kp.refl _)⟩
 case round =>
  obtain ⟨i, hi, rfl, rfl, hex⟩ := hrel
  by_cases hlt : i < m
  ·obtain ⟨x, hx⟩ : ∃ x, V[i]? = some x := ⟨_, qG (by rw [HM.out]; exact hlt)⟩
   obtain ⟨xb, xo, exa, xc0⟩ := (HV.out.1.ext hex.out) i (.string x) (by simp [strs, hx])
   subst exa
   have HX := qH (vG hx)
   have hs1 := aBz HV.out.2 i
   have hs2 := HV.out.2 x (List.mem_of_getElem? hx)
   obtain ⟨sa, esa⟩ : ∃ s, gZ (V.take i) = s := ⟨_, rfl⟩
   rw [esa] at HX hs1 ⊢
   have hadd1 : (Op.stringOp .add sa x).run Tryz.prog wr = .ok (.string (sa ++ x)) wr := run_string_add_sum _ _ _ (by omega)
   have hadd2 : (Op.stringOp .add (sa ++ x) ⟨#[59]⟩).run Tryz.prog wr = .ok (.string (sa ++ x ++ ⟨#[59]⟩)) wr := run_string_add_sum _ _ _ (by rw [ByteArray.size_append]; have h3 : (⟨#[59]⟩ : ByteArray).size = 1 := rfl; omega)
   have i1 : (i : Int) < (m : Int) := by omega
   clear hx hs1 hs2 esa
   gi_wp2
   go_roundw
   case rel => exact ⟨i + 1, by omega, by first | rfl | (congr 1; done) | (congr 1; omega), by rw [HX.out], hex⟩
   case measure => simp [intOf]; omega
  ·obtain rfl : i = m := by omega
   have hall : V.take i = V := List.take_of_length_le (by rw [HM.out]; exact Nat.le_refl _)
   rw [hall]
   obtain ⟨s, es⟩ : ∃ s, gZ V = s := ⟨_, rfl⟩
   rw [es] at HQ ⊢
   have b0 : wr.cell? ⟨b5, 0, none⟩ = some (.slice oa n oc) := by rw [(H0.out.1.ext hex.out).cell']; rfl
   gi_wp2_with (first | (gi_at_builtin; refine Halted.out ?_))
   refine Halted.mk (aHz dE rfl _ _ rfl (F := fun k => (Value.slice oa n oc).ownBlock = some k) (w0 := X) (M := fun g => (Value.slice oa n oc).ownBlock = some g \/ X.heap.size ≤ g) ((Ext.kp hex.out).alloc _) (fun g hg hlt2 => by rcases hg with hg | hg; exact hg; omega) (fun g hg => .inr (by have := hex.out.size; have h2 : (wr.alloc _).heap.size ≤ g := hg; rw [aK] at h2; omega)) rfl (((H0.out.2.ext hex.out).alloc _).own.mono fun g hg => .inl hg) rfl (by rfl) (CellsAt.one wr (.string s) 9) (by simp [Value.oneCell']) (by omega) (by unfold maxLen; omega) ?_)
   intro v6 w6 hr6 hk6 hk6b _ _
   have hB6 : Blk w6 b5 [.slice oa n oc] 34 := ((H0.out.1.ext hex.out).alloc _).kp hk6b fun hg => by
    obtain ⟨cs, hb⟩ := aR (H0.out.2.ext hex.out) hg
    exact absurd (aT hb (H0.out.1.ext hex.out)) (by decide)
   have c6 : w6.cell? ⟨b5, 0, none⟩ = some (.slice oa n oc) := by rw [hB6.cell']; rfl
   have f6 := hB6.free 0
   obtain ⟨la, lcap, elv, _, _⟩ := hr6.shape
   subst elv
   have H6 := qH (And.intro hr6 (And.intro hk6 hB6))
   clear hr6 hk6 hk6b hB6 b0
   gi_wp2
   have ks : Kp (fun k => k = b5) w6 (w6.setCell ⟨b5, 0, none⟩ (.slice la (n + 1) lcap)) := Kp.setCell (F := fun k => k = b5) (p := ⟨b5, 0, none⟩) (Kp.refl w6) (fun _ => rfl) _
   refine HQ.out _ ((H6.out.2.1.mono fun k _ h => Or.inr h).trans (ks.mono fun k _ h => Or.inl h)) ⟨_, H6.out.2.2.set 0 _, ?_⟩
   have e : strs (ss ++ [s]) = strs ss ++ [.string s] := by simp [strs]
   rw [e]
   refine H6.out.1.kp' ks fun g hg _ e2 => ?_
   obtain ⟨cs, hb⟩ := aR H6.out.1 hg
   rw [show g = b5 from e2] at hb
   exact absurd (aT hb H6.out.2.2) (by decide)
end Go.Proofs.YtinnmeiphbdogaaGreat
/- The law of joins: each: all bindings of a rule in a base, each as one text. -/
namespace Go.Proofs.YtinnmeiphbdogaaGreat
open Go.RowKit Go.Shelf
attribute [local go_sem] Oper.semAt_some
theorem aEu {S : Nat -> Prop} {w : World} {v : Value} {E : List Ent} (hB : BaseV S w v E) (s : ByteArray) : ∀ x ∈ dQ (bK E s), bP x = true := fun x hx => by
 have hok := hB.ok
 cases he : bK E s with
 | none => rw [he] at hx; simp [dQ] at hx
 | some e =>
  rw [he] at hx
  exact (hok.all _ (List.mem_map.2 ⟨e, (cD he).1, rfl⟩)).txt x hx
theorem sN {r : cK} {Es : Nat -> List Ent} {L : aE} (hL : lW r (bD Es r.2.1) L) (hT : ∀ j x, x ∈ bD Es r.2.1 j -> bP x = true) : ∀ V ∈ L, aS r = 0 /\ V.length = (aB r.2.1).length /\ ∀ s ∈ V, s.size ≤ 4096 := fun V hV => by
 by_cases hc : aS r = 0
 ·have hb := ((hL.1 hc).iff V).1 hV
  exact ⟨hc, hb.1, aEr hb hT⟩
 ·rw [hL.2 hc] at hV; simp at hV
theorem xM {S : Nat -> Prop} {w : World} {v : Value} {E : List Ent} {ls : List aJ} (hB : BaseV S w v E) : ∀ j x, x ∈ bD (wN ls E) ls j -> bP x = true := fun j x hx => by
 unfold bD wN at hx
 split at hx
 ·exact aEu hB _ x hx
 ·simp [bK, dQ] at hx
theorem aI7 {w W : World} {P : World -> Value -> Prop} {tmps : Array Value} {ds : List Deferred} {lo : Nat} {v : Value} (hm : Marks lo W ds) (hk : Ext w W) (hlo : w.heap.size ≤ lo) (h4 : tmps.getD 4 undef = v)
 (hP : ∀ w', Ext w w' -> Kp (fun k => lo ≤ k /\ ¬ iH W k) W w' -> P w' v) :
 bodyPostM Fence.wide 4 Tryz.prog Tryz.f18 (RetN w P) .ret { tmps := tmps, defers := ds } W := by
 refine gE hm fun w' e1 e2 e3 e4 e5 e6 => ?_
 have kx : Kp (fun k => lo ≤ k /\ ¬ iH W k) W w' := ⟨e1, e2, e3, by omega, fun k hk hf => by
  by_cases h : lo ≤ k
  ·by_cases h2 : ∃ o : Obj, W.heap[k]? = some o /\ o.isCells = true
   ·obtain ⟨o, h2, h3⟩ := h2
    rw [h2]; exact e6 k o h2 h3
   ·exact absurd ⟨h, h2⟩ hf
  ·exact e5 k (by omega)⟩
 have hx : Ext w w' := hk.trans' kx fun i hi h => absurd h.1 (by omega)
 refine ⟨v, ?_, RetN.mk hx (hP w' hx kx)⟩
 have h4' : tmps[4]?.getD undef = v := by simpa using h4
 simp [results, Tryz.f18, go_sem, h4']
set_option maxRecDepth 100000 in
set_option maxHeartbeats 4000000 in
theorem pB {S : Nat -> Prop} {w : World} {p : ByteArray} {hs : List aF} {ls : List aJ} {ha ba : Option Addr} {hn hcap n bcap : Nat} {G : Nat -> Prop} {o : Option Addr} {E : List Ent} {L : aE} (hhn : hn = hs.length) (hh : aQ w G ha hs) (hhl : hn ≤ 1048576) (hbn : n = ls.length) (h : bQ w G ba ls) (hf : Fit ls) (hnv : (aB ls).length ≤ 1048576) (hn16 : n ≤ 1048576)
 (hB : BaseV S w (.pointer o) E) (hL : lW ((p, hs, ()), ls, ()) (bD (wN ls E) ls) L) (hLn : L.length ≤ 1048576 * 1048576) :
 Calls Tryz.prog 18 #[cP p ha hn hcap ba n bcap, .pointer o] w (RetN w fun w' v => Row w' 9 1 v L.length (strs (L.map gZ)) (New w)) := by
 have HEa := qH (fun W (hW : Ext w W) => aCg (hcap := hcap) (bcap := bcap) (p := p) hhn (hh.ext hW) hhl hbn (h.ext hW) hf hnv hn16 (hB.ext hW) hL)
 have HK := qH (sN hL (xM hB))
 have HN := qH (And.intro hnv hLn)
 obtain ⟨gb, egb⟩ : ∃ g, w.heap.size = g := ⟨_, rfl⟩
 obtain ⟨w1, e1⟩ : ∃ x, w.alloc (.cells #[.string p, .slice ha hn hcap, .slice ba n bcap] 27) = x := ⟨_, rfl⟩
 obtain ⟨w2, e2⟩ : ∃ x, w1.alloc (.cells #[.slice none 0 0] 34) = x := ⟨_, rfl⟩
 have s1 : w1.heap.size = gb + 1 := by rw [<- e1, aK, egb]
 have x1 : Ext w w1 := by rw [<- e1]; exact (Kp.refl w).alloc _
 have x2 : Ext w1 w2 := by rw [<- e2]; exact (Kp.refl w1).alloc _
 have H2 := qH (show Blk w2 gb [.string p, .slice ha hn hcap, .slice ba n bcap] 27 /\ Blk w2 (gb + 1) [.slice none 0 0] 34 /\ Ext w w2 from
  ⟨Blk.ext (by have h := Blk.new w [.string p, .slice ha hn hcap, .slice ba n bcap] 27; rw [egb] at h; rw [<- e1]; exact h) x2, by have h := Blk.new w1 [.slice none 0 0] 34; rw [s1] at h; rw [<- e2]; exact h, x1.trans x2⟩)
 have r0 : w2.cell? ⟨gb, 0, none⟩ = some (.string p) := by rw [H2.out.1.cell']; rfl
 have r1 : w2.cell? ⟨gb, 1, none⟩ = some (.slice ha hn hcap) := by rw [H2.out.1.cell']; rfl
 have r2 : w2.cell? ⟨gb, 2, none⟩ = some (.slice ba n bcap) := by rw [H2.out.1.cell']; rfl
 have HG := qH egb
 clear hhn hh hhl hbn h hf hnv hn16 hB hL x1 x2 hLn
 refine callsIn_wide.1 (callsIn_of_wp_marks (n := 4) Tryz.func18 rfl trivial ?_ rfl)
 refine wpIn_wide.2 ?_
 obtain ⟨Q, eQ⟩ : ∃ Q, Q = bodyPostM Fence.wide 4 Tryz.prog Tryz.f18 (RetN w fun w' v => Row w' 9 1 v L.length (strs (L.map gZ)) (New w)) := ⟨_, rfl⟩
 rw [<- eQ]
 have EQ := qH eQ; clear eQ
 simp only [Tryz.ntmps18, List.size_toArray, List.length_cons, List.length_nil, Nat.reduceAdd, Nat.reduceSub, Array.replicate_succ, Array.replicate_zero, List.push_toArray, List.append_toArray, List.nil_append, List.cons_append]
 go_wp2_with fail
 clear e1 e2 egb s1
 refine (HEa.out w2 H2.out.2.2).mono ?_
 rintro e w8 ⟨v8, rfl, hk8, xb, lo, hlo, rfl, hseq⟩
 have HS := qH (show wG Fence.wide 3 Tryz.prog 82 #[.pointer (some ⟨xb, 0, none⟩)] (fun x : XB => #[.slice x.1.1 x.1.2.1 x.1.2.2]) (fun k => lo ≤ k /\ k < w8.heap.size) GvRow (fun xs => xs.map Prod.snd = L) (fun pre => pre.map Prod.snd <+: L) w8 from hseq 3)
 have H8 := qH (show Blk w8 (gb + 1) [.slice none 0 0] 34 /\ Ext w w8 /\ gb + 1 < lo from ⟨H2.out.2.1.ext hk8, H2.out.2.2.trans hk8, Nat.lt_of_lt_of_le H2.out.2.1.lt hlo⟩)
 clear hseq hk8 hlo r0 r1 r2
 go_wp2_with fail
 have hb8 : gb + 1 < w8.heap.size := H8.out.1.lt
 refine' wpIn_wide.1 (oG (F := Fence.wide) (n := 4) (w0 := w8) rfl (by omega) (gf := 82) (lb := #[.pointer (some ⟨xb, 0, none⟩)]) rfl trivial (enters_of Tryz.func82 (by kernel_rfl) rfl)
  HS.out (Kp.refl _) (fun k h => h.2) (fun _ => rfl) GvRow.put (ListI w8 (gb + 1) sJ) (fun _ _ _ _ => False)
  (fun T s W l o o' h _ hl ho hc => h.put hb8 hl ho hc) (fun c T s W l o o' h _ hl ho hc => h.elim)
  (fun W o h => h.step hb8 ((Kp.refl W).alloc o) (fun k hk => hk.elim)) (ListI.start H8.out.1 rfl) _ ?assign ?body ?done ?stop)
 case assign =>
  intro l x W K hK
  gi_wp2
  exact hK
 case body =>
  rintro l T T' pre ⟨⟨xa, xn, xc⟩, V⟩ W1 W hI hT hk hsub hgv hpre
  have hI2 := hI.step hb8 hk hsub
  have hTlt : ∀ k, T' k -> k < W.heap.size := fun k hk' => by
   rcases hsub k hk' with h | h
   ·exact Nat.lt_of_lt_of_le (hT k h) hk.size
   ·exact h.2
  obtain ⟨hx1, hxc⟩ := hgv.cells
  have hxn : xn = V.length := hx1.1
  have hxc2 : xc = V.length := hx1.2
  subst hxn hxc2
  have hmem : V ∈ L := hpre.subset (by rw [List.map_append]; exact List.mem_append_right _ (List.mem_singleton.2 rfl))
  have hpl : pre.length < L.length := by
   have h := hpre.length_le
   rw [List.length_map, List.length_append, List.length_singleton] at h
   omega
  obtain ⟨hc0, hVl, hVs⟩ := HK.out V hmem
  have hN1 := HN.out.1
  have hN2 := HN.out.2
  have hVl' : V.length = (aB ls).length := hVl
  obtain ⟨v, hv, hrv⟩ := hI2.2.2
  have hel : (sJ pre).length = pre.length := by unfold sJ; rw [List.length_map]
  rw [hel] at hrv
  refine wpIn_mono (Q := gY (fun X' => KeepsFrom w8.heap.size W X' /\ Kp (fun k => ¬ gI (fun k => lo ≤ k /\ k < w8.heap.size) T' k) W X' /\ ListI w8 (gb + 1) sJ T' (pre ++ [((xa, V.length, V.length), V)]) X') (fun _ => False)) ?_ ?_
  ·show Code.wpIn _ _ _ aCh _ _ _
   refine aEj (v := v) (ss := sJ pre) (V := V) hv hrv (by omega) hxc (by omega) hVs rfl rfl rfl ?_
   rintro X' hk' ⟨v', hv', hr'⟩
   exact hI2.round hb8 hTlt (fun k hk => ⟨by have := H8.out.2.2; have := hk.1; omega, hk.2⟩) hv hk' hv' (by rw [hel]; exact hr') (by unfold sJ; rw [List.map_append]; rfl)
  ·intro e a W' h
   cases e <;> first | exact h | exact h.elim
 case done =>
  rintro D T xs W1 W hD hxs hI hT hk hd
  have hI2 := hI.step (T' := fun _ => False) hb8 hk (fun k hk' => hk'.elim)
  obtain ⟨kX, hTge, v, hv, hrv⟩ := hI2
  have hxs' : sJ xs = L.map gZ := by
   have h : xs.map Prod.snd = L := hxs
   unfold sJ
   rw [<- h, List.map_map]; rfl
  rw [hxs', List.length_map] at hrv
  have hm1 : Marks w8.heap.size W [{ target := .collected D, args := #[] }] := Marks.push (Marks.nil w8.heap.size w8) (fun k o h ho => (kX.block k (lt_of_block h) (fun e => by
   have e' : k = gb + 1 := e
   have h8 := H8.out.1
   unfold Blk at h8
   rw [e', h8] at h; cases h; cases ho)).trans h) hD hD hd
  have v7 : W.cell? ⟨gb + 1, 0, none⟩ = some v := by rw [hv.cell']; rfl
  obtain ⟨la, lc, ev, _, _⟩ := hrv.shape
  subst ev
  have HZ := qH (And.intro hm1 (And.intro hrv kX))
  clear hxs' hm1 hrv kX hTge hI hT hk hd hD hxs hv
  go_wp2_with fail
  obtain ⟨hm1, hrv, kX⟩ := HZ.out
  have hx8 := H8.out.2.1.size
  have hgl := HG.out
  rw [EQ.out]
  refine aI7 (lo := w8.heap.size) hm1 (H8.out.2.1.trans' kX fun i hi hf => by have e : i = gb + 1 := hf; omega) hx8 rfl fun w' hx' kx => ?_
  refine (hrv.kp' kx fun g hg hM hf => ?_).mono fun g hg => Nat.le_trans hx8 hg.1
  obtain ⟨cs, hb⟩ := aR hrv hg
  exact hf.2 ⟨_, hb, rfl⟩
 case stop =>
  rintro D c T pre W1 W hD hpre hX hT hk hd
  exact hX.elim
end Go.Proofs.YtinnmeiphbdogaaGreat
/- The law of joins: put: a text into a rising list. -/
namespace Go.Proofs.YtinnmeiphbdogaaGreat
open Go.RowKit Go.Shelf
attribute [local go_sem] Oper.semAt_some
theorem aFm {x y : ByteArray} : cQ x y < 0 ↔ Op.bytesLess x.toList y.toList = true := eG
theorem zW {x y : ByteArray} : cQ x y = 0 ↔ x = y := by
 unfold cQ bB
 constructor
 ·intro h
  by_cases h1 : Op.bytesLess x.toList y.toList = true
  ·rw [if_pos h1] at h; cases h
  ·by_cases h2 : Op.bytesLess y.toList x.toList = true
   ·rw [if_neg h1, if_pos h2] at h; cases h
   ·have h3 := fN (by simpa using h1) (by simpa using h2)
    rw [ByteArray.toList_eq, ByteArray.toList_eq] at h3
    exact ByteArray.ext (Array.toList_inj.1 h3)
 ·rintro rfl
  rw [dM]; rfl
theorem xC {α : Type} {L : List α} {i j : Nat} {x : α} (h : L[j]? = some x) (hj : j < i) : x ∈ L.take i := by
 rw [List.mem_take_iff_getElem]
 obtain ⟨hl1, hl2⟩ := List.getElem?_eq_some_iff.1 h
 exact ⟨j, by omega, hl2⟩
theorem aHb {α : Type} {L : List α} {i j : Nat} {x : α} (h : L[j]? = some x) (hj : i ≤ j) : x ∈ L.drop i := by
 obtain ⟨hl1, hl2⟩ := List.getElem?_eq_some_iff.1 h
 refine List.mem_drop_iff_getElem.2 ⟨j - i, by omega, ?_⟩
 rw [<- hl2]; congr 1; omega
theorem aFf {L : List ByteArray} (hst : Strict cQ L) {s : ByteArray} {i : Nat} (hi : i ≤ L.length) (hlow : ∀ x ∈ L.take i, cQ x s < 0) (hup : ∀ x, L[i]? = some x -> ¬ cQ x s < 0) :
 (∀ x, L[i]? = some x -> x = s -> bM cQ L s = L.take i ++ L.drop i) /\ ((∀ x, L[i]? = some x -> x ≠ s) -> bM cQ L s = L.take i ++ [s] ++ L.drop i) := by
 have hb : below cQ L s = i := by
  obtain ⟨s1, s2⟩ := hst.split kU s
  have hbl := below_le (c := cQ) L s
  generalize below cQ L s = b at *
  rcases Nat.lt_trichotomy b i with h | h | h
  ·have hx : L[b]? = some L[b] := qG (by omega)
   exact absurd (hlow _ (xC hx h)) (s2 _ (aHb hx (Nat.le_refl _)))
  ·exact h
  ·have hx : L[i]? = some L[i] := qG (by omega)
   exact absurd (s1 _ (xC hx h)) (hup _ hx)
 have ht := hst.there kU s
 rw [hb] at ht
 unfold bM
 constructor
 ·rintro x hx rfl
  rw [if_pos (ht.2 ⟨x, hx, zW.2 rfl⟩), List.take_append_drop]
 ·intro hno
  rw [if_neg (fun h => by
   obtain ⟨y, hy, hz⟩ := ht.1 h
   exact hno y hy (zW.1 hz)), hb, List.append_assoc]
  rfl
def PutS (w0 : World) (L : List ByteArray) (s : ByteArray) (n : Nat) (ov iv : Value) (W : World) : Prop := ∃ i : Nat, i ≤ n /\ iv = .int .i64 i /\ Hid (Ext w0 W) /\ Hid (Row W 9 1 ov i (strs (L.take i)) (New w0)) /\ Hid (∀ x ∈ L.take i, cQ x s < 0)
set_option maxRecDepth 100000 in
set_option maxHeartbeats 4000000 in
theorem aIg {L : List ByteArray} {s : ByteArray} {g n cap : Nat} {M : Nat -> Prop} {w : World} (hst : Strict cQ L) (hR : Row w 9 1 (.slice (some ⟨g, 0, none⟩) n cap) n (strs L) M) (hl : n ≤ 1048576 * 1048576) (hg : g < w.heap.size) :
 Calls Tryz.prog 58 #[.slice (some ⟨g, 0, none⟩) n cap, .string s] w (RetN w fun w' v => Row w' 9 1 v (bM cQ L s).length (strs (bM cQ L s)) (New w)) := by
 have hnl : n = L.length := by have h1 := hR.1; rw [fG] at h1; omega
 obtain ⟨_, _, e0, hcs, hnc⟩ := hR.shape
 cases e0
 have HL := qH (And.intro hst (And.intro hnl hcs))
 have i0 : (n : Int) ≤ (cap : Int) := by omega
 have hcm : cap ≤ maxLen := by
  obtain ⟨_, ⟨e, _⟩ | ⟨g', cap', rest, e, _, _, _, _, h⟩⟩ := hR
  ·cases e
  ·cases e; exact h
 have hcm2 : cap ≤ 9223372036854775807 := hcm
 have HNo := qH (show ¬ New w g from by show ¬ w.heap.size ≤ g; omega)
 clear hst hnl hcs hR hnc hcm hg
 go_enter Tryz.func58, Tryz.ntmps58
 go_wp2
 go_loopw [5, 6] (fun ov iv wr => PutS w L s n ov iv wr) (fun _ iv _ => n - (intOf iv).toNat)
 case atStart => exact ⟨0, Nat.zero_le _, rfl, qH (Kp.refl _), qH (Row.nil _ _ _ _), qH (by simp)⟩
 case round =>
  obtain ⟨i, hi, rfl, hex, hro, hlo⟩ := hrel
  obtain ⟨oa, oc, eov, _, _⟩ := hro.out.shape
  subst eov
  have HTail := qH (show ∀ (q : List ByteArray), q ++ L.drop i = bM cQ L s -> ∀ m, q.length = m -> ∀ v' w', Row w' 9 1 v' (m + (n - i)) (strs q ++ strs (L.drop i)) (New w) -> Row w' 9 1 v' (bM cQ L s).length (strs (bM cQ L s)) (New w) from fun q he m hm v' w' hr => by
   have e1 : strs q ++ strs (L.drop i) = strs (bM cQ L s) := by rw [<- he]; unfold strs; rw [List.map_append]
   have e2 : m + (n - i) = (bM cQ L s).length := by rw [<- he, List.length_append, List.length_drop, <- HL.out.2.1, hm]
   rw [e1, e2] at hr; exact hr)
  have HLen := qH (show (L.take i).length = i from by rw [List.length_take]; have := HL.out.2.1; omega)
  have hdc : CellsAt wr (some ⟨g, i, none⟩) (strs (L.drop i)) := fun j u hu => by
   unfold strs at hu
   rw [List.getElem?_map, List.getElem?_drop] at hu
   obtain ⟨b, off, e, c⟩ := (HL.out.2.2.ext hex.out) (i + j) u (by unfold strs; rw [List.getElem?_map]; exact hu)
   cases e
   exact ⟨g, i, rfl, by rw [Nat.zero_add] at c; exact c⟩
  have HD := qH hdc
  clear hdc
  by_cases hlt : i < n
  ·obtain ⟨x, hx⟩ : ∃ x, L[i]? = some x := ⟨_, qG (by rw [<- HL.out.2.1]; exact hlt)⟩
   obtain ⟨b, off, e, c0⟩ := (HL.out.2.2.ext hex.out) i (.string x) (by simp [strs, hx])
   cases e
   rw [Nat.zero_add] at c0
   have HX := qH hx
   have i1 : (i : Int) < (n : Int) := by omega
   clear hx
   by_cases hxs : Op.bytesLess x.toList s.toList = true
   ·have HS := qH hxs
    go_wp2_with (first | (at_builtin; refine Halted.out ?_))
    refine Halted.mk (dB (m := 1) (n := i) dE rfl _ _ rfl (hex.out.alloc _) rfl (hro.out.alloc _) rfl (CellsAt.one wr (.string x) 9) (by rfl) (by simp [Value.oneCell']) (by omega) (by unfold maxLen; omega) ?_)
    intro v6 w6 hr6 hk6 hk6b _
    obtain ⟨la, lcap, elv, _, _⟩ := hr6.shape
    subst elv
    have HF := qH (show Ext w w6 /\ Row w6 9 1 (.slice la (i + 1) lcap) (i + 1) (strs (L.take (i + 1))) (New w) /\ ∀ y ∈ L.take (i + 1), cQ y s < 0 from by
     have e : strs (L.take (i + 1)) = strs (L.take i) ++ [.string x] := by rw [List.take_add_one, HX.out]; simp [strs]
     refine ⟨hk6, by rw [e]; exact hr6, fun y hy => ?_⟩
     rw [List.take_add_one, HX.out, List.mem_append] at hy
     rcases hy with hy | hy
     ·exact hlo.out y hy
     ·simp at hy; subst hy; exact aFm.2 HS.out)
    clear hr6 hk6 hk6b hxs
    go_wp2
    go_roundw
    case rel => exact ⟨i + 1, by omega, by first | rfl | (congr 1; done) | (congr 1; omega), qH HF.out.1, qH HF.out.2.1, qH HF.out.2.2⟩
    case measure => simp [intOf]; omega
   ·have hxs' : Op.bytesLess x.toList s.toList = false := by simpa using hxs
    have HPl := qH (aFf (s := s) (i := i) HL.out.1 (by rw [<- HL.out.2.1]; exact hi) hlo.out (fun y hy => by rw [HX.out] at hy; cases hy; rw [aFm]; exact hxs))
    clear hxs
    have hni : ((i : Int) == (n : Int)) = false := by simp; omega
    have i2 : (i : Int) ≤ (n : Int) := by omega
    by_cases hes : x = s
    ·subst hes
     have hq := str_eq x
     have hq2 : (x.toList != x.toList) = false := by simp
     have hi2 : i ≤ n := by omega
     go_wp2_with (first | (at_builtin; refine Halted.out ?_))
     refine Halted.mk (dB (m := n - i) (n := i) dE rfl _ _ rfl hex.out rfl hro.out rfl HD.out (by rw [fG, List.length_drop, <- HL.out.2.1, Nat.mul_one]) (kG _) (by omega) (by unfold maxLen; omega) ?_)
     intro v9 w9 hr9 hk9 _ _
     have HF := qH (And.intro hk9 (HTail.out (L.take i) ((HPl.out.1 x HX.out rfl).symm) i HLen.out v9 w9 hr9))
     clear hr9 hk9
     go_wp2
     go_ret
     exact RetN.mk HF.out.1 HF.out.2
    ·have hq := iZ hes
     have hq2 : (x.toList != s.toList) = true := by unfold bne; rw [hq]; rfl
     have HEs := qH hes
     clear hes
     go_wp2_with (first | (at_builtin; refine Halted.out ?_))
     refine Halted.mk (dB (m := 1) (n := i) dE rfl _ _ rfl (hex.out.alloc _) rfl (hro.out.alloc _) rfl (CellsAt.one wr (.string s) 9) (by rfl) (by simp [Value.oneCell']) (by omega) (by unfold maxLen; omega) ?_)
     intro v6 w6 hr6 hk6 hk6b _
     obtain ⟨la, lcap, elv, _, _⟩ := hr6.shape
     subst elv
     have hq6 : Row w6 9 1 (.slice la (i + 1) lcap) (i + 1) (strs (L.take i ++ [s])) (New w) := by
      have e : strs (L.take i ++ [s]) = strs (L.take i) ++ [.string s] := by simp [strs]
      rw [e]; exact hr6
     have hd6 : CellsAt w6 (some ⟨g, i, none⟩) (strs (L.drop i)) := (HD.out.ext ((Kp.refl wr).alloc _)).kp hk6b fun a ea hf => by
      cases ea
      exact HNo.out (hro.out.block g hf)
     have H6 := qH (And.intro hk6 (And.intro hq6 hd6))
     clear hr6 hk6 hk6b hq6 hd6
     go_wp2_with (first | (at_builtin; refine Halted.out ?_))
     refine Halted.mk (dB (m := n - i) (n := i + 1) dE rfl _ _ rfl H6.out.1 rfl H6.out.2.1 rfl H6.out.2.2 (by rw [fG, List.length_drop, <- HL.out.2.1, Nat.mul_one]) (kG _) (by omega) (by unfold maxLen; omega) ?_)
     intro v9 w9 hr9 hk9 _ _
     have HF := qH (And.intro hk9 (HTail.out (L.take i ++ [s]) ((HPl.out.2 (fun y hy => by rw [HX.out] at hy; cases hy; exact HEs.out)).symm) (i + 1) (by rw [List.length_append, HLen.out]; rfl) v9 w9 hr9))
     clear hr9 hk9
     go_wp2
     go_ret
     exact RetN.mk HF.out.1 HF.out.2
  ·obtain rfl : n = i := by omega
   have h0 : L.drop n = [] := List.drop_eq_nil_of_le (by rw [<- HL.out.2.1]; exact Nat.le_refl _)
   have HPl := qH (show bM cQ L s = L.take n ++ [s] from by
    have h := (aFf (s := s) (i := n) HL.out.1 (by rw [<- HL.out.2.1]; exact Nat.le_refl _) hlo.out (fun y hy => by rw [List.getElem?_eq_none (by rw [<- HL.out.2.1]; exact Nat.le_refl _)] at hy; cases hy)).2 (fun y hy => by rw [List.getElem?_eq_none (by rw [<- HL.out.2.1]; exact Nat.le_refl _)] at hy; cases hy)
    rw [h0, List.append_nil] at h; exact h)
   have hni : ((n : Int) == (n : Int)) = true := by simp
   have HF0 := qH (show ∀ v9 w9, Row w9 9 1 v9 (n + 1 + 0) (strs (L.take n ++ [s]) ++ []) (New w) -> Row w9 9 1 v9 (bM cQ L s).length (strs (bM cQ L s)) (New w) from fun v9 w9 hr => by
    rw [List.append_nil, Nat.add_zero] at hr
    rw [HPl.out, List.length_append, HLen.out]; exact hr)
   clear hi hlt h0
   go_wp2_with (first | (at_builtin; refine Halted.out ?_))
   refine Halted.mk (dB (m := 1) (n := n) dE rfl _ _ rfl (hex.out.alloc _) rfl (hro.out.alloc _) rfl (CellsAt.one wr (.string s) 9) (by rfl) (by simp [Value.oneCell']) (by omega) (by unfold maxLen; omega) ?_)
   intro v6 w6 hr6 hk6 hk6b _
   obtain ⟨la, lcap, elv, _, _⟩ := hr6.shape
   subst elv
   have hq6 : Row w6 9 1 (.slice la (n + 1) lcap) (n + 1) (strs (L.take n ++ [s])) (New w) := by
    have e : strs (L.take n ++ [s]) = strs (L.take n) ++ [.string s] := by simp [strs]
    rw [e]; exact hr6
   have H6 := qH (And.intro hk6 hq6)
   clear hr6 hk6 hk6b hq6
   by_cases hcap : cap = n
   ·subst hcap
    go_wp2_with (first | (at_builtin; refine Halted.out ?_))
    refine Halted.mk (dB (m := 0) (n := cap + 1) dE rfl _ _ rfl H6.out.1 rfl H6.out.2 rfl (CellsAt.nil _ _) rfl (by simp) (by omega) (by unfold maxLen; omega) ?_)
    intro v9 w9 hr9 hk9 _ _
    have HF := qH (And.intro hk9 (HF0.out v9 w9 hr9))
    clear hr9 hk9
    go_wp2
    go_ret
    exact RetN.mk HF.out.1 HF.out.2
   ·have hcap2 : n ≠ cap := fun e => hcap e.symm
    have hcap3 : n < cap := by omega
    go_wp2_with (first | (at_builtin; refine Halted.out ?_))
    refine Halted.mk (dB (m := 0) (n := n + 1) dE rfl _ _ rfl H6.out.1 rfl H6.out.2 (by first | rfl | (rw [Nat.sub_self]; rfl) | simp [Act.eval, List.getD_eq_getElem?_getD]) (CellsAt.nil _ _) rfl (by simp) (by omega) (by unfold maxLen; omega) ?_)
    intro v9 w9 hr9 hk9 _ _
    have HF := qH (And.intro hk9 (HF0.out v9 w9 hr9))
    clear hr9 hk9
    go_wp2
    go_ret
    exact RetN.mk HF.out.1 HF.out.2
def aK0 (w0 : World) (ov iv : Value) (W : World) : Prop := ov = .slice none 0 0 /\ iv = .int .i64 0 /\ Hid (Ext w0 W)
set_option maxRecDepth 100000 in
theorem aIf (s : ByteArray) (w : World) : Calls Tryz.prog 58 #[.slice none 0 0, .string s] w (RetN w fun w' v => Row w' 9 1 v (bM cQ [] s).length (strs (bM cQ [] s)) (New w)) := by
 go_enter Tryz.func58, Tryz.ntmps58
 go_wp2
 go_loopw [5, 6] (fun ov iv wr => aK0 w ov iv wr) (fun _ iv _ => (intOf iv).toNat)
 case atStart => exact ⟨rfl, rfl, qH (Kp.refl _)⟩
 case round =>
  obtain ⟨rfl, rfl, hex⟩ := hrel
  go_wp2_with (first | (at_builtin; refine Halted.out ?_))
  refine Halted.mk (dB (m := 1) (n := 0) dE rfl _ _ rfl (hex.out.alloc _) rfl (Row.nil _ _ _ (New w)) rfl (CellsAt.one wr (.string s) 9) (by rfl) (by simp [Value.oneCell']) (by omega) (by unfold maxLen; omega) ?_)
  intro v6 w6 hr6 hk6 hk6b _
  obtain ⟨la, lcap, elv, _, _⟩ := hr6.shape
  subst elv
  have H6 := qH (And.intro hk6 hr6)
  clear hr6 hk6 hk6b
  go_wp2_with (first | (at_builtin; refine Halted.out ?_))
  refine Halted.mk (dB (m := 0) (n := 0 + 1) dE rfl _ _ rfl H6.out.1 rfl H6.out.2 rfl (CellsAt.nil _ _) rfl (by simp) (by omega) (by unfold maxLen; omega) ?_)
  intro v9 w9 hr9 hk9 _ _
  have HF := qH (And.intro hk9 (show Row w9 9 1 v9 1 (strs [s]) (New w) from hr9))
  clear hr9 hk9
  go_wp2
  go_ret
  exact RetN.mk HF.out.1 HF.out.2
theorem aIe {L : List ByteArray} {s : ByteArray} {v : Value} {M : Nat -> Prop} {w : World} (hst : Strict cQ L) (hR : Row w 9 1 v L.length (strs L) M) (hl : L.length ≤ 1048576 * 1048576) :
 Calls Tryz.prog 58 #[v, .string s] w (RetN w fun w' v => Row w' 9 1 v (bM cQ L s).length (strs (bM cQ L s)) (New w)) := by
 obtain ⟨h1, ⟨e, h0⟩ | ⟨g, cap, rest, e, hM, hB, h2⟩⟩ := id hR
 ·subst e
  obtain rfl : L = [] := List.eq_nil_of_length_eq_zero h0
  exact aIf s w
 ·subst e
  exact aIg hst hR hl hB.lt
end Go.Proofs.YtinnmeiphbdogaaGreat
/- The document's Env: a variable's constant. -/
namespace Go.Proofs.YtinnmeiphbdogaaGreat
open Go.RowKit Go.Shelf
end Go.Proofs.YtinnmeiphbdogaaGreat
/- The document's Env: a term's constant. -/
namespace Go.Proofs.YtinnmeiphbdogaaGreat
open Go.RowKit Go.Shelf
end Go.Proofs.YtinnmeiphbdogaaGreat
/- The document's Head; Vars by both, of any rule; the law's same. -/
namespace Go.Proofs.YtinnmeiphbdogaaGreat
open Go.RowKit Go.Shelf
attribute [local go_sem] Oper.semAt_some
def bL (r : cK) : List ByteArray := if aS r = 0 then aB r.2.1 else []
set_option maxRecDepth 100000 in
theorem wV (p : ByteArray) (hs : List aF) (ls : List aJ) (ha : Option Addr) (hn hcap : Nat) (ba : Option Addr) (n bcap : Nat) (w : World) (G : Nat -> Prop) (hhn : hn = hs.length) (hh : aQ w G ha hs) (hhl : hn ≤ 1048576) (hbn : n = ls.length) (h : bQ w G ba ls) (hf : Fit ls) :
 Calls Tryz.prog 13 #[cP p ha hn hcap ba n bcap] w (RetN w fun w' v => ∃ ao cap, v = .slice ao (bL ((p, hs, ()), ls, ())).length cap /\ CellsAt w' ao (strs (bL ((p, hs, ()), ls, ())))) := by
 by_cases hc : aS ((p, hs, ()), ls, ()) = 0
 ·refine (zS p hs ls ha hn hcap ba n bcap w G hhn hh hhl hbn h hf hc).mono ?_
  rintro e w' ⟨v, rfl, hk, ao, cap, rfl, h1, h2⟩
  exact RetN.mk hk ⟨ao, cap, by unfold bL; rw [if_pos hc], by unfold bL; rw [if_pos hc]; exact h2⟩
 ·obtain ⟨cR, ecR⟩ : ∃ c, aS ((p, hs, ()), ls, ()) = c := ⟨_, rfl⟩
  have HF := qH (show bL ((p, hs, ()), ls, ()) = [] from by unfold bL; rw [if_neg hc])
  have h1 := fun (W : World) (hW : Ext w W) => iT p hs ls ha hn hcap ba n bcap W G hhn (hh.ext hW) hhl hbn (h.ext hW) hf
  rw [ecR] at h1 hc
  have HC := qH h1
  have hc' : ((cR : Int) == 0) = false := by simp; omega
  have hc2 : ((cR : Int) != 0) = true := by simp; omega
  clear h1 hhn hh hbn h hf hc ecR
  go_enter Tryz.func13, Tryz.ntmps13
  go_wp2_with fail
  refine (HC.out _ ((Kp.refl _).alloc _)).mono ?_
  rintro e w1 ⟨v, rfl, hk1, rfl⟩
  have X1 := qH (((Kp.refl _).alloc _).trans hk1)
  clear hk1
  go_wp2
  go_ret
  exact RetN.mk X1.out ⟨none, 0, by rw [HF.out]; rfl, by rw [HF.out]; exact CellsAt.nil _ _⟩
def aJj (w0 : World) (ss tt : List ByteArray) (n : Nat) (iv : Value) (w : World) : Prop := ∃ i : Nat, i ≤ n /\ iv = .int .i64 i /\ Hid (Ext w0 w) /\ Hid (ss.take i = tt.take i)
set_option maxRecDepth 100000 in
set_option maxHeartbeats 1000000 in
theorem jC (ss tt : List ByteArray) (ao bo : Option Addr) (n m acap bcap : Nat) (w : World) (hn : n = ss.length) (hm : m = tt.length) (ha : CellsAt w ao (strs ss)) (hb : CellsAt w bo (strs tt)) (hl : n ≤ 4611686018427387904) :
 Calls Tryz.prog 17 #[.slice ao n acap, .slice bo m bcap] w (RetN w fun w' v => v = .bool (decide (ss = tt))) := by
 have HN := qH (And.intro hn hm); have HA := qH ha; have HB := qH hb
 clear hn hm ha hb
 by_cases hnm : n = m
 ·subst hnm
  have q1 : ((n : Int) != (n : Int)) = false := by simp
  go_enter Tryz.func17, Tryz.ntmps17
  go_wp2
  go_loopw [5] (fun iv wr => aJj w ss tt n iv wr) (fun iv _ => n - (intOf iv).toNat)
  case atStart => exact ⟨0, Nat.zero_le _, rfl, qH (Kp.refl w), qH rfl⟩
  case round =>
   obtain ⟨i, hi, rfl, hex, heq⟩ := hrel
   by_cases hlt : i < n
   ·obtain ⟨s, hs⟩ : ∃ s, ss[i]? = some s := ⟨_, qG (by rw [<- HN.out.1]; exact hlt)⟩
    obtain ⟨t, ht⟩ : ∃ t, tt[i]? = some t := ⟨_, qG (by rw [<- HN.out.2]; exact hlt)⟩
    obtain ⟨g1, o1, e1, c0⟩ := HA.out i (.string s) (by simp [strs, hs])
    obtain ⟨g2, o2, e2, d0⟩ := HB.out i (.string t) (by simp [strs, ht])
    subst e1 e2
    replace c0 := hex.out.cell c0 id
    replace d0 := hex.out.cell d0 id
    have HST := qH (And.intro hs ht)
    clear hs ht
    by_cases hst : s = t
    ·subst hst
     have q4 := str_eq s
     go_wp2
     go_quiet (fail)
     go_wp2
     go_roundw
     case rel => exact ⟨i + 1, by omega, by first | rfl | (congr 1; done) | (congr 1; omega), qH (hex.out.drewN _), qH (by rw [List.take_add_one, List.take_add_one, HST.out.1, HST.out.2, heq.out])⟩
     case measure => simp [intOf]; omega
    ·have q4 := iZ hst
     have HD := qH (show decide (ss = tt) = false from decide_eq_false fun e => hst (by have h := HST.out.1; rw [e, HST.out.2] at h; cases h; rfl))
     clear hst
     go_wp2
     go_quiet (fail)
     go_wp2
     go_ret
     exact RetN.mk (hex.out.drewN _) (by rw [HD.out]; rfl)
   ·obtain rfl : n = i := by omega
    have HD := qH (show decide (ss = tt) = true from decide_eq_true (by
     have h := heq.out
     rw [List.take_of_length_le (by rw [<- HN.out.1]; exact Nat.le_refl _), List.take_of_length_le (by rw [<- HN.out.2]; exact Nat.le_refl _)] at h
     exact h))
    go_wp2
    go_ret
    exact RetN.mk hex.out (by rw [HD.out]; rfl)
 ·have q1 : ((n : Int) != (m : Int)) = true := by simp; omega
  have q2 : ((n : Int) == (m : Int)) = false := by simp; omega
  have HD := qH (show decide (ss = tt) = false from decide_eq_false fun e => hnm (by rw [HN.out.1, HN.out.2, e]))
  clear hnm
  go_enter Tryz.func17, Tryz.ntmps17
  go_wp2
  go_ret
  exact RetN.mk (Kp.refl w) (by rw [HD.out]; rfl)
end Go.Proofs.YtinnmeiphbdogaaGreat
/- The law of joins: lent, kept: a rule in memory of its own, with marks behind its lists. -/
namespace Go.Proofs.YtinnmeiphbdogaaGreat
open Go.RowKit
abbrev markK : aF := (-71, ⟨#[]⟩, ())
def aJh (w0 w : World) (a : Option Addr) (n cap : Nat) (ts : List aF) : Prop := ∃ g rest, a = some ⟨g, 0, none⟩ /\ n = ts.length /\ n + 1 ≤ cap /\ cap ≤ maxLen /\ w0.heap.size ≤ g /\ Blk w g (oS (ts ++ [markK]) ++ rest) 38
def markZ : List Value := [.int .i64 (-72), .string ⟨#[]⟩, .slice none 0 0, .int .i64 0, .int .i64 0, .string ⟨#[]⟩, .int .i64 0, .string ⟨#[]⟩]
structure RuleK (w0 w : World) (hs : List aF) (ls : List aJ) (ha : Option Addr) (hn hcap : Nat) (ba : Option Addr) (n bcap : Nat) : Prop where
 head : aJh w0 w ha hn hcap hs
 body : ∃ g rest vs, ba = some ⟨g, 0, none⟩ /\ n = ls.length /\ n + 1 ≤ bcap /\ bcap ≤ maxLen /\ w0.heap.size ≤ g /\ vs.length = ls.length /\ Blk w g ((ls.zip vs).flatMap bU ++ (markZ ++ rest)) 40 /\ ∀ x ∈ ls.zip vs, aJh w0 w x.2.1 (aA x.1).length x.2.2 (aA x.1)
section
variable {w0 w w' : World} {F : Nat -> Prop} {hs : List aF} {ls : List aJ} {ha : Option Addr} {hn hcap : Nat} {ba : Option Addr} {n bcap : Nat}
end
end Go.Proofs.YtinnmeiphbdogaaGreat
/- tuple.Rows: Same; Union, Minus, Meet; NewRows of a bad arity. -/
namespace Go.Proofs.YtinnmeiphbdogaaGreat
open Go.RowKit Go.Shelf
section
variable {z z1 z2 : Prop} {S : Nat -> Prop} {w w' : World} {b b1 b2 : Nat} {iv iv1 iv2 : Value} {arity a1 a2 : Nat} {LL L1 L2 : List (List ByteArray)}
theorem rS (a : Int) (w : World) (ha : a < 0 \/ 64 < a) : Calls Tryz.prog 85 #[.int .i64 a] w (Ret (.tuple #[.pointer none, .int .i64 2]) w) := by
 by_cases h0 : a < 0
 ·have t1 : decide (a < 0) = true := by simp [h0]
  go_enter Tryz.func85, Tryz.ntmps85
  go_wp2
  go_ret2
  exact Ret.mk rfl
 ·have h1 : 64 < a := by omega
  have t1 : decide (a < 0) = false := by simp; omega
  have t2 : decide (a > 64) = true := by simp; omega
  have t3 : decide (64 < a) = true := by simp; omega
  go_enter Tryz.func85, Tryz.ntmps85
  go_wp2
  go_ret2
  exact Ret.mk rfl
end
end Go.Proofs.YtinnmeiphbdogaaGreat
/- tuple.Base: Add, at every base. -/
namespace Go.Proofs.YtinnmeiphbdogaaGreat
open Go.RowKit
theorem aHu {C : List bG} {s : ByteArray} (row : List ByteArray) (h : cI s = false) : fP C s row = (false, 32) := if_pos h
theorem aHv {C : List bG} {s : ByteArray} {row : List ByteArray} (h : cI s = true) (hg : dR C s = none) (hl : 64 < row.length) : fP C s row = (false, 30) := by
 unfold fP
 rw [if_neg (by rw [h]; simp), if_pos (by unfold rJ; rw [hg]; exact decide_eq_false (by omega))]
theorem aE0 {C : List bG} {s : ByteArray} {row : List ByteArray} {v : Nat × aE} (h : cI s = true) (hg : dR C s = some v) (hl : v.1 ≠ row.length) : fP C s row = (false, 30) := by
 unfold fP
 rw [if_neg (by rw [h]; simp), if_pos (by unfold rJ; rw [hg]; exact decide_eq_false hl)]
theorem yX {C : List bG} {s : ByteArray} {row : List ByteArray} (h : cI s = true) (hg : rJ C s row = true) (ht : bP row = false) : fP C s row = (false, 31) := by
 unfold fP
 rw [if_neg (by rw [h]; simp), if_neg (by rw [hg]; simp), if_pos ht]
theorem yY {C : List bG} {s : ByteArray} {row : List ByteArray} (h : cI s = true) (hg : rJ C s row = true) (ht : bP row = true) (hm : 262144 ≤ bH C) (hi : bF aC (bT C s) row = false) : fP C s row = (false, 4) := by
 unfold fP
 rw [if_neg (by rw [h]; simp), if_neg (by rw [hg]; simp), if_neg (by rw [ht]; simp), if_pos ⟨hm, hi⟩]
theorem oD {C : List bG} {s : ByteArray} {row : List ByteArray} (h : cI s = true) (hg : rJ C s row = true) (ht : bP row = true) (hm : ¬ (262144 ≤ bH C /\ bF aC (bT C s) row = false)) :
 fP C s row = if 65536 ≤ (bT C s).length /\ bF aC (bT C s) row = false then (false, 4) else (!bF aC (bT C s) row, 0) := by
 unfold fP
 rw [if_neg (by rw [h]; simp), if_neg (by rw [hg]; simp), if_neg (by rw [ht]; simp), if_neg hm]
theorem qO {C : List bG} {s : ByteArray} {row : List ByteArray} {v : Nat × aE} (hg : dR C s = some v) (h : v.1 = row.length) : rJ C s row = true := by unfold rJ; rw [hg]; exact decide_eq_true h
theorem aAc {C : List bG} {s : ByteArray} {row : List ByteArray} (hg : dR C s = none) (h : row.length ≤ 64) : rJ C s row = true := by unfold rJ; rw [hg]; exact decide_eq_true h
theorem aCx {C : List bG} {s : ByteArray} {row : List ByteArray} (h : (fP C s row).2 ≠ 0) : rL C s row = C := if_neg h
section
variable {S S' : Nat -> Prop} {w w1 w2 w3 w4 : World} {bb r : Nat} {E : List Ent} {s : ByteArray} {ss : List ByteArray} {e : Ent} {iv' : Value}
def BaseAdded (S : Nat -> Prop) (w : World) (bb r : Nat) (E : List Ent) (s : ByteArray) (ss : List ByteArray) (w' : World) (v : Value) : Prop :=
 v = .tuple #[.bool (fP (aO E) s ss).1, .int .i64 ((fP (aO E) s ss).2 : Nat)] /\ ∃ S' E', (∀ k, S k -> S' k) /\ (∀ k, S' k -> S k \/ w.heap.size ≤ k) /\ BaseAt S' w' bb r E' /\ aO E' = rL (aO E) s ss /\ ∀ k, iF bb r E' k -> iF bb r E k \/ w.heap.size ≤ k
theorem BaseAdded.same (h : BaseAt S w bb r E) (hk : Ext w w1) {n : Nat} (hR : fP (aO E) s ss = (false, n)) (hn : n ≠ 0) {v : Value} (hv : v = .tuple #[.bool false, .int .i64 (n : Nat)]) : BaseAdded S w bb r E s ss w1 v :=
 ⟨by rw [hv, hR], S, E, fun _ h => h, fun _ h => .inl h, h.ext hk, (aCx (by rw [hR]; exact hn)).symm, fun _ h => .inl h⟩
theorem uL {pre post : List Ent} (hiv : ∀ k, iv'.ownBlock = some k -> e.iv.ownBlock = some k \/ w.heap.size ≤ k) (LL' : List (List ByteArray)) : ∀ k, iF bb r (pre ++ { e with iv := iv', LL := LL' } :: post) k -> iF bb r (pre ++ e :: post) k \/ w.heap.size ≤ k := by
 rintro k (h | h | ⟨f, hf, ho⟩)
 ·exact .inl (.inl h)
 ·exact .inl (.inr (.inl h))
 ·rcases List.mem_append.1 hf with hf | hf
  ·exact .inl (.inr (.inr ⟨f, List.mem_append_left _ hf, ho⟩))
  ·rcases List.mem_cons.1 hf with rfl | hf
   ·rcases ho with ho | ho
    ·exact .inl (.inr (.inr ⟨e, List.mem_append_right _ List.mem_cons_self, .inl ho⟩))
    ·rcases hiv k ho with h2 | h2
     ·exact .inl (.inr (.inr ⟨e, List.mem_append_right _ List.mem_cons_self, .inr h2⟩))
     ·exact .inr h2
   ·exact .inl (.inr (.inr ⟨f, List.mem_append_right _ (List.mem_cons_of_mem _ hf), ho⟩))
theorem nJ (h : BaseAt S w bb r E) (he : bK E s = some e) (hx : Ext w w2) (hk : Kp e.own w2 w3) : MapIs w3 r (iB E) := (h.map.ext hx).kp hk fun ho => (h.off e (cD he).1 r ho).2 rfl
theorem iD (h : BaseAt S w bb r E) (he : bK E s = some e) (hx : Ext w w2) (hk : Kp e.own w2 w3) : Blk w3 bb [.map (some r), .int .i64 (bH (aO E) : Nat)] 129 := (h.blk.ext hx).kp hk fun ho => (h.off e (cD he).1 bb ho).1 rfl
theorem qM {LL : List (List ByteArray)} (h : BaseAt S w bb r E) (he : bK E s = some e) (hf : cI s = true /\ e.ar = ss.length /\ bP ss = true /\ e.LL = LL /\ ¬ (262144 ≤ bH (aO E) /\ bF aC LL ss = false)) (hx : Ext w w2) (hk : Kp e.own w2 w3) (hss : ∀ k, S k -> S' k) (hsn : ∀ k, S' k -> S k \/ w2.heap.size ≤ k)
 (hr : RowsAt S' w3 e.b iv' e.ar (bJ e.ar LL ss)) (hiv : ∀ k, iv'.ownBlock = some k -> e.iv.ownBlock = some k \/ w2.heap.size ≤ k) (h0 : aX e.ar LL ss = if 65536 ≤ LL.length /\ bF aC LL ss = false then (false, 4) else (!bF aC LL ss, 0)) (h4 : 65536 ≤ LL.length /\ bF aC LL ss = false) :
 RetF (iF bb r E) w (BaseAdded S w bb r E s ss) (.returned (.tuple #[.bool false, .int .i64 4])) w3 := by
 obtain ⟨f1, f2, f3, f4, f5⟩ := hf
 obtain ⟨g1, g2⟩ := eD he
 have hL : bJ e.ar LL ss = LL := by unfold bJ; rw [h0, if_pos h4]; rfl
 rw [hL] at hr
 have hR : fP (aO E) s ss = (false, 4) := by
  rw [oD f1 (qO g1 f2) f3 (by rw [g2, f4]; exact f5), g2, f4, if_pos h4]
 have hC : rL (aO E) s ss = aO E := aCx (by rw [hR]; decide)
 obtain ⟨pre, post, rfl⟩ := jU he
 have hem : e ∈ pre ++ e :: post := List.mem_append_right _ List.mem_cons_self
 have hkw : Kp e.own w w3 := (Ext.kp hx).trans hk
 have hz := hx.size
 have hs2 : ∀ k, S' k -> S k \/ w.heap.size ≤ k := fun k hk' => (hsn k hk').imp id fun q => Nat.le_trans hz q
 have hiv2 : ∀ k, iv'.ownBlock = some k -> e.iv.ownBlock = some k \/ w.heap.size ≤ k := fun k hk' => (hiv k hk').imp id fun q => Nat.le_trans hz q
 have hsame : aO (pre ++ { e with iv := iv', LL := LL } :: post) = aO (pre ++ e :: post) := by
  rw [<- f4]; simp [aO, Ent.cnt]
 refine RetF.mk (hkw.mono fun k _ ho => .inr (.inr ⟨e, hem, ho⟩)) ⟨by rw [hR]; rfl, S', pre ++ { e with iv := iv', LL := LL } :: post, hss, hs2, ?_, by rw [hC, hsame], uL hiv2 LL⟩
 exact h.turn hkw hss hs2 hr hiv2 (Kp.refl _) (nJ h he hx hk) (iD h he hx hk) (by rw [hsame]) (by rw [hsame]; exact h.ok)
theorem sQ {LL : List (List ByteArray)} (h : BaseAt S w bb r E) (he : bK E s = some e) (hf : cI s = true /\ e.ar = ss.length /\ bP ss = true /\ e.LL = LL /\ ¬ (262144 ≤ bH (aO E) /\ bF aC LL ss = false)) (hx : Ext w w2) (hk : Kp e.own w2 w3) (hss : ∀ k, S k -> S' k) (hsn : ∀ k, S' k -> S k \/ w2.heap.size ≤ k)
 (hr : RowsAt S' w3 e.b iv' e.ar (bJ e.ar LL ss)) (hiv : ∀ k, iv'.ownBlock = some k -> e.iv.ownBlock = some k \/ w2.heap.size ≤ k) (h0 : aX e.ar LL ss = if 65536 ≤ LL.length /\ bF aC LL ss = false then (false, 4) else (!bF aC LL ss, 0)) (hi : bF aC LL ss = true)
 (hk4 : Kp (fun k => k = r) w3 w4) (hm4 : MapIs w4 r (oE (iB E) s (.pointer (some ⟨e.b, 0, none⟩)))) : RetF (iF bb r E) w (BaseAdded S w bb r E s ss) (.returned (.tuple #[.bool false, .int .i64 0])) w4 := by
 obtain ⟨f1, f2, f3, f4, f5⟩ := hf
 obtain ⟨g1, g2⟩ := eD he
 have hn4 : ¬ (65536 ≤ LL.length /\ bF aC LL ss = false) := fun k => by rw [hi] at k; cases k.2
 have hadd : bM aC LL ss = LL := by unfold bM; rw [if_pos hi]
 have hL : bJ e.ar LL ss = LL := by unfold bJ; rw [h0, if_neg hn4]; exact hadd
 rw [hL] at hr
 have hR : fP (aO E) s ss = (false, 0) := by
  rw [oD f1 (qO g1 f2) f3 (by rw [g2, f4]; exact f5), g2, f4, if_neg hn4, hi]; rfl
 have hnd := h.ok.nodup
 rw [show oE (iB E) s (.pointer (some ⟨e.b, 0, none⟩)) = iB E from aCe he (by rw [vS]; exact hnd)] at hm4
 obtain ⟨pre, post, rfl⟩ := jU he
 have hem : e ∈ pre ++ e :: post := List.mem_append_right _ List.mem_cons_self
 have hkw : Kp e.own w w3 := (Ext.kp hx).trans hk
 have hz := hx.size
 have hs2 : ∀ k, S' k -> S k \/ w.heap.size ≤ k := fun k hk' => (hsn k hk').imp id fun q => Nat.le_trans hz q
 have hiv2 : ∀ k, iv'.ownBlock = some k -> e.iv.ownBlock = some k \/ w.heap.size ≤ k := fun k hk' => (hiv k hk').imp id fun q => Nat.le_trans hz q
 have hsame : aO (pre ++ { e with iv := iv', LL := LL } :: post) = aO (pre ++ e :: post) := by
  rw [<- f4]; simp [aO, Ent.cnt]
 have hC : rL (aO (pre ++ e :: post)) s ss = aO (pre ++ { e with iv := iv', LL := LL } :: post) := by
  unfold rL
  rw [if_pos (by rw [hR]), g2, f4, hadd, <- f2]
  exact aCk he hnd iv' LL
 refine RetF.mk ((hkw.mono fun k _ ho => .inr (.inr ⟨e, hem, ho⟩)).trans (hk4.mono fun k _ ho => .inr (.inl ho))) ⟨by rw [hR]; rfl, S', pre ++ { e with iv := iv', LL := LL } :: post, hss, hs2, ?_, hC.symm, uL hiv2 LL⟩
 exact h.turn hkw hss hs2 hr hiv2 (hk4.mono fun k _ ho => .inr ho) hm4 ((iD h he hx hk).kp hk4 h.ne) (by rw [hsame]) (by rw [hsame]; exact h.ok)
theorem sR {LL : List (List ByteArray)} {n : Nat} (h : BaseAt S w bb r E) (he : bK E s = some e) (hf : cI s = true /\ e.ar = ss.length /\ bP ss = true /\ e.LL = LL /\ ¬ (262144 ≤ bH (aO E) /\ bF aC LL ss = false)) (hx : Ext w w2) (hk : Kp e.own w2 w3) (hss : ∀ k, S k -> S' k) (hsn : ∀ k, S' k -> S k \/ w2.heap.size ≤ k)
 (hr : RowsAt S' w3 e.b iv' e.ar (bJ e.ar LL ss)) (hiv : ∀ k, iv'.ownBlock = some k -> e.iv.ownBlock = some k \/ w2.heap.size ≤ k) (h0 : aX e.ar LL ss = if 65536 ≤ LL.length /\ bF aC LL ss = false then (false, 4) else (!bF aC LL ss, 0)) (hi : bF aC LL ss = false) (hn4 : ¬ (65536 ≤ LL.length /\ bF aC LL ss = false))
 (hk4 : Kp (fun k => k = r) w3 w4) (hm4 : MapIs w4 r (oE (iB E) s (.pointer (some ⟨e.b, 0, none⟩)))) (en : bH (aO E) = n) : RetF (iF bb r E) w (BaseAdded S w bb r E s ss) (.returned (.tuple #[.bool true, .int .i64 0])) (w4.setCell ⟨bb, 1, none⟩ (.int .i64 ((n : Int) + 1))) := by
 obtain ⟨f1, f2, f3, f4, f5⟩ := hf
 obtain ⟨g1, g2⟩ := eD he
 have hL : bJ e.ar LL ss = bM aC LL ss := by unfold bJ; rw [h0, if_neg hn4]; rfl
 rw [hL] at hr
 have hR : fP (aO E) s ss = (true, 0) := by
  rw [oD f1 (qO g1 f2) f3 (by rw [g2, f4]; exact f5), g2, f4, if_neg hn4, hi]; rfl
 have hnd := h.ok.nodup
 rw [show oE (iB E) s (.pointer (some ⟨e.b, 0, none⟩)) = iB E from aCe he (by rw [vS]; exact hnd)] at hm4
 obtain ⟨pre, post, rfl⟩ := jU he
 have hem : e ∈ pre ++ e :: post := List.mem_append_right _ List.mem_cons_self
 have hkw : Kp e.own w w3 := (Ext.kp hx).trans hk
 have hz := hx.size
 have hs2 : ∀ k, S' k -> S k \/ w.heap.size ≤ k := fun k hk' => (hsn k hk').imp id fun q => Nat.le_trans hz q
 have hiv2 : ∀ k, iv'.ownBlock = some k -> e.iv.ownBlock = some k \/ w.heap.size ≤ k := fun k hk' => (hiv k hk').imp id fun q => Nat.le_trans hz q
 have hset := aCk he hnd iv' (bM aC LL ss)
 have hC : rL (aO (pre ++ e :: post)) s ss = aO (pre ++ { e with iv := iv', LL := bM aC LL ss } :: post) := by
  unfold rL
  rw [if_pos (by rw [hR]), g2, f4, <- f2]
  exact hset
 have htot : n + 1 = bH (aO (pre ++ { e with iv := iv', LL := bM aC LL ss } :: post)) := by
  have h1 := wZ hnd (s := s) (v := (e.ar, bM aC LL ss))
  rw [hset, g2, f4] at h1
  have h2 := qP (c := aC) LL ss
  rw [hi] at h2
  simp only [Bool.false_eq_true, if_false] at h2
  have h3 : (e.ar, bM aC LL ss).2.length = LL.length + 1 := h2
  omega
 have kf : Kp (fun k => k = bb \/ k = r) w3 (w4.setCell ⟨bb, 1, none⟩ (.int .i64 ((n : Int) + 1))) := (hk4.mono fun k _ ho => .inr ho).trans (Kp.setCell (F := fun k => k = bb \/ k = r) (Kp.refl w4) (fun _ => .inl rfl) _)
 have hb5 : Blk (w4.setCell ⟨bb, 1, none⟩ (.int .i64 ((n : Int) + 1))) bb [.map (some r), .int .i64 ((n + 1 : Nat) : Int)] 129 := by
  have h1 := ((iD h he hx hk).kp hk4 h.ne).set 1 (.int .i64 ((n : Int) + 1))
  exact h1
 have hm5 := hm4.kp (Kp.setCell (F := fun k => k = bb) (Kp.refl w4) (p := ⟨bb, 1, none⟩) (fun _ => rfl) (.int .i64 ((n : Int) + 1))) (fun e2 => h.ne e2.symm)
 refine RetF.mk ((hkw.mono fun k _ ho => .inr (.inr ⟨e, hem, ho⟩)).trans (kf.mono fun k _ ho => ho.elim .inl fun h => .inr (.inl h))) ⟨by rw [hR]; rfl, S', pre ++ { e with iv := iv', LL := bM aC LL ss } :: post, hss, hs2, ?_, hC.symm, uL hiv2 _⟩
 exact h.turn hkw hss hs2 hr hiv2 kf hm5 hb5 htot (by rw [<- hC]; exact aIn h.ok s ss)
theorem aCr {n : Nat} {b : Nat} (h : BaseAt S w bb r E) (he : bK E s = none) (hf : cI s = true /\ ss.length ≤ 64 /\ bP ss = true /\ ¬ 262144 ≤ bH (aO E)) (hx : Ext w w3) (hss : ∀ k, S k -> S' k) (hsn : ∀ k, S' k -> S k \/ w.heap.size ≤ k)
 (hr : RowsAt S' w3 b iv' ss.length [ss]) (hb : w.heap.size ≤ b) (hiv : ∀ k, iv'.ownBlock = some k -> w.heap.size ≤ k)
 (hk4 : Kp (fun k => k = r) w3 w4) (hm4 : MapIs w4 r (oE (iB E) s (.pointer (some ⟨b, 0, none⟩)))) (en : bH (aO E) = n) : RetF (iF bb r E) w (BaseAdded S w bb r E s ss) (.returned (.tuple #[.bool true, .int .i64 0])) (w4.setCell ⟨bb, 1, none⟩ (.int .i64 ((n : Int) + 1))) := by
 obtain ⟨f1, f2, f3, f4⟩ := hf
 obtain ⟨g1, g2⟩ := fO he
 have hR : fP (aO E) s ss = (true, 0) := by
  rw [oD f1 (aAc g1 f2) f3 (fun k => f4 k.1), g2, if_neg (by simp)]; rfl
 have hone : bM aC [] ss = [ss] := by simp [bM, bF, below]
 have hpush := aHg he b iv' ss.length [ss]
 have hC : rL (aO E) s ss = aO (E ++ [{ name := s, b := b, iv := iv', ar := ss.length, LL := [ss] }]) := by
  unfold rL
  rw [if_pos (by rw [hR]), g2, hone]
  exact hpush
 have htot : n + 1 = bH (aO (E ++ [{ name := s, b := b, iv := iv', ar := ss.length, LL := [ss] }])) := by
  rw [<- en]
  simp [bH, aO, Ent.cnt]
 rw [yM he b iv' ss.length [ss]] at hm4
 have kf : Kp (fun k => k = bb \/ k = r) w3 (w4.setCell ⟨bb, 1, none⟩ (.int .i64 ((n : Int) + 1))) := (hk4.mono fun k _ ho => .inr ho).trans (Kp.setCell (F := fun k => k = bb \/ k = r) (Kp.refl w4) (fun _ => .inl rfl) _)
 have hb5 : Blk (w4.setCell ⟨bb, 1, none⟩ (.int .i64 ((n : Int) + 1))) bb [.map (some r), .int .i64 ((n + 1 : Nat) : Int)] 129 := ((h.blk.ext hx).kp hk4 h.ne).set 1 (.int .i64 ((n : Int) + 1))
 have hm5 := hm4.kp (Kp.setCell (F := fun k => k = bb) (Kp.refl w4) (p := ⟨bb, 1, none⟩) (fun _ => rfl) (.int .i64 ((n : Int) + 1))) (fun e2 => h.ne e2.symm)
 have ho : ∀ k, fZ b iv' k -> w.heap.size ≤ k := fun k ho => by
  rcases ho with rfl | ho
  ·exact hb
  ·exact hiv k ho
 refine RetF.mk ((Ext.kp hx).trans (kf.mono fun k _ ho => ho.elim .inl fun h => .inr (.inl h))) ⟨by rw [hR]; rfl, S', E ++ [{ name := s, b := b, iv := iv', ar := ss.length, LL := [ss] }], hss, hsn, ?_, hC.symm, ?_⟩
 ·exact h.push (e := { name := s, b := b, iv := iv', ar := ss.length, LL := [ss] }) hx hss hsn hr ho kf hb5 hm5 htot (by rw [<- hC]; exact aIn h.ok s ss)
 ·rintro k (h1 | h1 | ⟨f, hf, ho2⟩)
  ·exact .inl (.inl h1)
  ·exact .inl (.inr (.inl h1))
  ·rcases List.mem_append.1 hf with hf | hf
   ·exact .inl (.inr (.inr ⟨f, hf, ho2⟩))
   ·obtain rfl := List.mem_singleton.1 hf
    exact .inr (ho k ho2)
end
end Go.Proofs.YtinnmeiphbdogaaGreat
/- tuple.Base: Add, walked. -/
namespace Go.Proofs.YtinnmeiphbdogaaGreat
open Go.RowKit
set_option maxRecDepth 100000 in
set_option maxHeartbeats 4000000 in
theorem aCs {S : Nat -> Prop} {w : World} {bb r : Nat} {E : List Ent} (h : BaseAt S w bb r E) (s : ByteArray) {ao : Option Addr} {k cap : Nat} {ss : List ByteArray} (hx : RowIn w (ao, k, cap) ss) (ho : jL (ao, k, cap) (iF bb r E)) :
 Calls Tryz.prog 42 #[.pointer (some ⟨bb, 0, none⟩), .string s, .slice ao k cap] w (RetF (iF bb r E) w (BaseAdded S w bb r E s ss)) := by
 have hkn : k = ss.length := hx.1.1
 have hcs : CellsAt w ao (strs ss) := hx.1.2
 have hkl : k ≤ 8796093021952 := by rw [hkn]; exact hx.2.1
 have c0 : w.cell? ⟨bb, 0, none⟩ = some (.map (some r)) := by rw [h.blk.cell']; rfl
 have hlk := jE (P := Tryz.prog) Tryz.underlying127 Tryz.underlying9 (z := .pointer none) (by kernel_rfl) h.map s
 rw [nC] at hlk
 have hnm := xR s w
 rw [show decide (1 ≤ s.size /\ s.size ≤ 4096) = cI s from rfl] at hnm
 have HN := qH hnm; clear hnm
 have HT := qH (fun w1 (hw : Ext w w1) => qT ss ao k cap w1 hkn (hcs.ext hw) (by omega))
 obtain ⟨n, en⟩ : ∃ n, bH (aO E) = n := ⟨_, rfl⟩
 have EN := qH en
 have hnl : n ≤ 262144 := by rw [<- en]; exact h.ok.few
 have c1 : w.cell? ⟨bb, 1, none⟩ = some (.int .i64 n) := by rw [h.blk.cell', en]; rfl
 have HC1 := qH (fun w1 (hw : Ext w w1) => (hw.cell c1 id : w1.cell? ⟨bb, 1, none⟩ = some (.int .i64 n)))
 have H := qH h
 have HX := qH (And.intro hx ho)
 have HKN := qH hkn
 clear h hx ho hcs hkn en c1
 cases hn : cI s with
 | false =>
  rw [hn] at HN
  have HNM := qH hn
  clear hn hlk c0
  go_enter Tryz.func42, Tryz.ntmps42
  go_wp2_with fail
  refine HN.out.mono ?_
  rintro e w' ⟨rfl, rfl⟩
  go_wp2
  go_ret2
  exact RetF.mk (Kp.refl _) (BaseAdded.same H.out (Kp.refl _) (aHu ss HNM.out) (by decide) rfl)
 | true =>
  rw [hn] at HN
  have HNM := qH hn
  clear hn
  cases he : bK E s with
  | none =>
   rw [he] at hlk
   have hlk' : ∀ w', w' = w -> (Instr.lookup 127 (.map (some r)) (.string s) false).run Tryz.prog w' = .ok (.pointer none) w' := fun w' e => by rw [e]; exact hlk
   replace hlk := hlk' w rfl
   clear hlk'
   have HE := qH he
   clear he
   by_cases hl : 64 < k
   ·have HNB := qH (rS (k : Int) w (.inr (by omega)))
    go_enter Tryz.func42, Tryz.ntmps42
    go_wp2_with fail
    refine HN.out.mono ?_
    rintro e w' ⟨rfl, rfl⟩
    go_wp2_with fail
    refine HNB.out.mono ?_
    rintro e w' ⟨rfl, rfl⟩
    go_wp2
    go_ret2
    exact RetF.mk (Kp.refl _) (BaseAdded.same H.out (Kp.refl _) (aHv HNM.out (fO HE.out).1 (by rw [<- HKN.out]; exact hl)) (by decide) rfl)
   have hk64 : k ≤ 64 := by omega
   have HNR := qH (mR S w k hk64 H.out.inS)
   have HL := qH (show ss.length ≤ 64 by rw [<- HKN.out]; exact hk64)
   clear hl
   cases ht : bP ss with
   | false =>
    rw [ht] at HT
    have HTX := qH ht
    clear ht
    go_enter Tryz.func42, Tryz.ntmps42
    go_wp2_with fail
    refine HN.out.mono ?_
    rintro e w' ⟨rfl, rfl⟩
    go_wp2_with fail
    refine HNR.out.mono ?_
    rintro e w1 ⟨v, rfl, hk1, rfl, hrows⟩
    have d2 : w1.cell? ⟨w.heap.size, 2, none⟩ = some (.int .i64 k) := by rw [hrows.blk.cell']; rfl
    have HK1 := qH hk1
    clear hk1 hrows
    go_wp2_with fail
    refine (HT.out w1 HK1.out).mono ?_
    rintro e w2 ⟨v, rfl, hk2, rfl⟩
    have HK2 := qH (HK1.out.trans hk2)
    clear hk2
    go_wp2
    go_ret2
    exact RetF.mk (Ext.kp HK2.out) (BaseAdded.same H.out HK2.out (yX HNM.out (aAc (fO HE.out).1 HL.out) HTX.out) (by decide) rfl)
   | true =>
    rw [ht] at HT
    have HTX := qH ht
    clear ht
    have HAdd := qH (fun w1 (hw : Ext w w1) (hr : RowsAt S w1 w.heap.size (.slice none 0 0) k []) => mN hr List.Pairwise.nil (ao := ao) (n := k) (cap := cap) (ss := ss) ⟨⟨HKN.out, HX.out.1.1.2.ext hw⟩, HX.out.1.2.1, fun a e hne => Nat.lt_of_lt_of_le (HX.out.1.2.2 a e hne) hw.size⟩
     (fun a e hne ho => by
      have := HX.out.1.2.2 a e hne
      rcases ho with ho | ho
      ·omega
      ·cases ho) (by simp))
    by_cases hm : 262144 ≤ n
    ·have q2 : decide ((262144 : Int) ≤ (n : Int)) = true := by rw [decide_eq_true_iff]; omega
     have HM := qH hm
     have HHas := qH (fun w1 (hw : Ext w w1) (hr : RowsAt S w1 w.heap.size (.slice none 0 0) k []) => mM hr List.Pairwise.nil (x := (ao, k, cap)) (ss := ss) ⟨⟨HKN.out, HX.out.1.1.2.ext hw⟩, HX.out.1.2.1, fun a e hne => Nat.lt_of_lt_of_le (HX.out.1.2.2 a e hne) hw.size⟩
      (fun a e hne ho => by
       have := HX.out.1.2.2 a e hne
       rcases ho with ho | ho
       ·omega
       ·cases ho))
     clear hm
     go_enter Tryz.func42, Tryz.ntmps42
     go_wp2_with fail
     refine HN.out.mono ?_
     rintro e w' ⟨rfl, rfl⟩
     go_wp2_with fail
     refine HNR.out.mono ?_
     rintro e w1 ⟨v, rfl, hk1, rfl, hrows⟩
     have d2 : w1.cell? ⟨w.heap.size, 2, none⟩ = some (.int .i64 k) := by rw [hrows.blk.cell']; rfl
     have HK1 := qH (And.intro hk1 hrows)
     clear hk1 hrows
     go_wp2_with fail
     refine (HT.out w1 HK1.out.1).mono ?_
     rintro e w2 ⟨v, rfl, hk2, rfl⟩
     have HK2 := qH (HK1.out.1.trans hk2)
     have HR2 := qH (HK1.out.2.ext hk2)
     have c1' := HC1.out w2 HK2.out
     clear hk2 d2
     go_wp2_with fail
     refine (HHas.out w2 HK2.out HR2.out).mono ?_
     rintro e w3 ⟨v, rfl, hk3, rfl⟩
     have HK3 := qH (HK2.out.trans hk3)
     clear hk3 c1'
     have hni : bF aC ([] : List (List ByteArray)) ss = false := rfl
     go_wp2
     go_ret2
     exact RetF.mk (Ext.kp HK3.out) (BaseAdded.same H.out HK3.out (yY HNM.out (aAc (fO HE.out).1 HL.out) HTX.out (by rw [EN.out]; exact HM.out) (by rw [(fO HE.out).2]; rfl)) (by decide) rfl)
    ·have q2 : decide ((262144 : Int) ≤ (n : Int)) = false := by rw [decide_eq_false_iff_not]; omega
     have HM := qH hm
     clear hm
     go_enter Tryz.func42, Tryz.ntmps42
     go_wp2_with fail
     refine HN.out.mono ?_
     rintro e w' ⟨rfl, rfl⟩
     go_wp2_with fail
     refine HNR.out.mono ?_
     rintro e w1 ⟨v, rfl, hk1, rfl, hrows⟩
     have d2 : w1.cell? ⟨w.heap.size, 2, none⟩ = some (.int .i64 k) := by rw [hrows.blk.cell']; rfl
     have HK1 := qH (And.intro hk1 hrows)
     clear hk1 hrows
     go_wp2_with fail
     refine (HT.out w1 HK1.out.1).mono ?_
     rintro e w2 ⟨v, rfl, hk2, rfl⟩
     have HK2 := qH (HK1.out.1.trans hk2)
     have HR2 := qH (HK1.out.2.ext hk2)
     have c1' := HC1.out w2 HK2.out
     clear hk2 d2
     go_wp2_with fail
     refine (HAdd.out w2 HK2.out HR2.out).mono ?_
     rintro e w3 ⟨v, rfl, hk3, hv, S', iv', hss, hsn, hrows3, hiv⟩
     have e0 : aX k [] ss = (true, 0) := by
      unfold aX; rw [if_neg (by rw [HKN.out]; simp), if_neg (by rw [HTX.out]; simp), if_neg (by simp)]; simp [bF]
     have e1 : bJ k [] ss = [ss] := by
      unfold bJ; rw [e0]; simp [bM, bF, below]
     rw [e0] at hv
     rw [e1] at hrows3
     subst hv
     have hz := HK2.out.size
     have kk3 : Kp (fun g => g = w.heap.size) w2 w3 := hk3.mono fun g _ h => by
      rcases h with h | h
      ·exact h
      ·cases h
     have hex3 : Ext w w3 := HK2.out.trans' kk3 (fun i hi e => by omega)
     rw [HKN.out] at hrows3
     have HR3 := qH (And.intro hex3 (And.intro hss (And.intro (fun q (hq : S' q) => (hsn q hq).imp id fun u => Nat.le_trans hz u) (And.intro hrows3 (fun q (hq : iv'.ownBlock = some q) => show w.heap.size ≤ q by
      rcases hiv q hq with u | u
      ·cases u
      ·exact Nat.le_trans hz u)))))
     have HB3 := qH (And.intro (H.out.blk.ext hex3) (H.out.map.ext hex3))
     clear hk3 kk3 hex3 hrows3 hss hsn hiv e0 e1 c1' hlk c0 hz
     go_wp2_with fail
     refine (fY HB3.out.1 HB3.out.2 s (some ⟨w.heap.size, 0, none⟩)).mono ?_
     rintro e w4 ⟨v, rfl, hk4, hm4⟩
     have HM4 := qH (And.intro hk4 hm4)
     have hb4 : Blk w4 bb [.map (some r), .int .i64 (bH (aO E) : Nat)] 129 := HB3.out.1.kp hk4 H.out.ne
     have c4 : w4.cell? ⟨bb, 1, none⟩ = some (.int .i64 n) := by rw [hb4.cell', EN.out]; rfl
     have f4 := hb4.free 1
     clear hk4 hm4 hb4
     go_wp2
     go_ret2
     exact aCr H.out HE.out ⟨HNM.out, HL.out, HTX.out, by rw [EN.out]; exact HM.out⟩ HR3.out.1 HR3.out.2.1 HR3.out.2.2.1 HR3.out.2.2.2.1 (Nat.le_refl _) HR3.out.2.2.2.2 HM4.out.1 HM4.out.2 EN.out
  | some e0 =>
   rw [he] at hlk
   have HE := qH he
   obtain ⟨hem, hes⟩ := cD he
   obtain ⟨b0, eb0⟩ : ∃ b0, e0.b = b0 := ⟨_, rfl⟩
   obtain ⟨ar, ear⟩ : ∃ ar, e0.ar = ar := ⟨_, rfl⟩
   obtain ⟨LL, eLL⟩ : ∃ LL, e0.LL = LL := ⟨_, rfl⟩
   have hlk' : (Instr.lookup 127 (.map (some r)) (.string s) false).run Tryz.prog w = .ok (.pointer (some ⟨b0, 0, none⟩)) w := by rw [<- eb0]; exact hlk
   have hra := H.out.rows e0 hem
   have d2 : w.cell? ⟨b0, 2, none⟩ = some (.int .i64 ar) := by rw [<- eb0, hra.blk.cell', ear]; rfl
   have HEM := qH (And.intro hem (And.intro eb0 (And.intro ear eLL)))
   have hoff : jL (ao, k, cap) (fZ e0.b e0.iv) := fun a e hne hown => HX.out.2 a e hne (.inr (.inr ⟨e0, hem, hown⟩))
   have HOff := qH hoff
   have HHas := qH (fun w1 (hw : Ext w w1) => mM ((H.out.rows e0 hem).ext hw) (H.out.strict hem) (x := (ao, k, cap)) (ss := ss) ⟨⟨HKN.out, HX.out.1.1.2.ext hw⟩, HX.out.1.2.1, fun a e hne => Nat.lt_of_lt_of_le (HX.out.1.2.2 a e hne) hw.size⟩ hoff)
   have HA := qH (fun w1 (hw : Ext w w1) => mN ((H.out.rows e0 hem).ext hw) (H.out.strict hem) (ao := ao) (n := k) (cap := cap) (ss := ss) ⟨⟨HKN.out, HX.out.1.1.2.ext hw⟩, HX.out.1.2.1, fun a e hne => Nat.lt_of_lt_of_le (HX.out.1.2.2 a e hne) hw.size⟩ hoff (by have := H.out.few hem; omega))
   clear he hem hes hra hoff hlk
   rw [HEM.out.2.1, HEM.out.2.2.2] at HHas
   rw [HEM.out.2.1, HEM.out.2.2.1, HEM.out.2.2.2] at HA
   clear eb0 ear eLL
   by_cases ha : ar = k
   ·have HAr := qH ha
    have q1 : ((ar : Int) != (k : Int)) = false := by simp [ha]
    clear ha
    have hnil : Ext w w := Kp.refl w
    cases ht : bP ss with
    | false =>
     rw [ht] at HT
     have HTX := qH ht
     clear ht
     go_enter Tryz.func42, Tryz.ntmps42
     go_wp2_with fail
     refine HN.out.mono ?_
     rintro e w' ⟨rfl, rfl⟩
     go_wp2_with fail
     refine (HT.out w hnil).mono ?_
     rintro e w2 ⟨v, rfl, hk2, rfl⟩
     have HK2 := qH hk2
     clear hk2
     go_wp2
     go_ret2
     exact RetF.mk (Ext.kp HK2.out) (BaseAdded.same H.out HK2.out (yX HNM.out (qO (eD HE.out).1 (by rw [HEM.out.2.2.1, HAr.out]; exact HKN.out)) HTX.out) (by decide) rfl)
    | true =>
     rw [ht] at HT
     have HTX := qH ht
     clear ht
     have hR0 : aX ar LL ss = if 65536 ≤ LL.length /\ bF aC LL ss = false then (false, 4) else (!bF aC LL ss, 0) := by
      unfold aX
      rw [if_neg (by rw [HAr.out, HKN.out]; simp), if_neg (by rw [HTX.out]; simp)]
     have HR0 := qH hR0
     clear hR0
     by_cases hm : 262144 ≤ n
     ·have q2 : decide ((262144 : Int) ≤ (n : Int)) = true := by rw [decide_eq_true_iff]; omega
      have HM := qH hm
      clear hm
      cases hi : bF aC LL ss with
      | false =>
       have HI := qH hi
       rw [hi] at HHas
       clear hi
       go_enter Tryz.func42, Tryz.ntmps42
       go_wp2_with fail
       refine HN.out.mono ?_
       rintro e w' ⟨rfl, rfl⟩
       go_wp2_with fail
       refine (HT.out w hnil).mono ?_
       rintro e w2 ⟨v, rfl, hk2, rfl⟩
       have HK2 := qH hk2
       have c1' := HC1.out w2 hk2
       clear hk2
       go_wp2_with fail
       refine (HHas.out w2 HK2.out).mono ?_
       rintro e w3 ⟨v, rfl, hk3, rfl⟩
       have HK3 := qH (HK2.out.trans hk3)
       clear hk3 c1'
       go_wp2
       go_ret2
       exact RetF.mk (Ext.kp HK3.out) (BaseAdded.same H.out HK3.out (yY HNM.out (qO (eD HE.out).1 (by rw [HEM.out.2.2.1, HAr.out]; exact HKN.out)) HTX.out (by rw [EN.out]; exact HM.out) (by rw [(eD HE.out).2, HEM.out.2.2.2]; exact HI.out)) (by decide) rfl)
      | true =>
       have HI0 := qH hi
       rw [hi] at HHas
       clear hi
       have HF := qH (show (cI s = true /\ e0.ar = ss.length /\ bP ss = true /\ e0.LL = LL /\ ¬ (262144 ≤ bH (aO E) /\ bF aC LL ss = false)) /\ True from ⟨⟨HNM.out, by rw [HEM.out.2.2.1, HAr.out]; exact HKN.out, HTX.out, HEM.out.2.2.2, fun q => by rw [HI0.out] at q; cases q.2⟩, trivial⟩)
       go_enter Tryz.func42, Tryz.ntmps42
       go_wp2_with fail
       refine HN.out.mono ?_
       rintro e w' ⟨rfl, rfl⟩
       go_wp2_with fail
       refine (HT.out w hnil).mono ?_
       rintro e w2 ⟨v, rfl, hk2, rfl⟩
       have HK2 := qH hk2
       have c1' := HC1.out w2 hk2
       clear hk2
       go_wp2_with fail
       refine (HHas.out w2 HK2.out).mono ?_
       rintro e w2b ⟨v, rfl, hk3, rfl⟩
       have HK2b := qH (HK2.out.trans hk3)
       clear hk3 c1'
       go_wp2_with fail
       refine (HA.out w2b HK2b.out).mono ?_
       rintro e w3 ⟨v, rfl, hk3, hv, S', iv', hss, hsn, hrows3, hiv⟩
       rw [<- HEM.out.2.1] at hk3 hrows3
       rw [<- HEM.out.2.2.1] at hrows3
       have HX3 := qH (And.intro hk3 (And.intro hss (And.intro hsn (And.intro hrows3 hiv))))
       rw [HR0.out] at hv
       subst hv
       clear hk3 hss hsn hrows3 hiv
       by_cases h4 : 65536 ≤ LL.length /\ bF aC LL ss = false
       ·have e4 : (if 65536 ≤ LL.length /\ bF aC LL ss = false then (false, 4) else (!bF aC LL ss, 0)) = (false, 4) := if_pos h4
        have H4 := qH (And.intro h4 e4)
        rw [e4]
        clear h4 e4
        go_wp2
        go_ret2
        exact qM H.out HE.out HF.out.1 HK2b.out HX3.out.1 HX3.out.2.1 HX3.out.2.2.1 HX3.out.2.2.2.1 HX3.out.2.2.2.2 (by rw [HEM.out.2.2.1]; exact HR0.out) H4.out.1
       ·have e4 : (if 65536 ≤ LL.length /\ bF aC LL ss = false then (false, 4) else (!bF aC LL ss, 0)) = (!bF aC LL ss, 0) := if_neg h4
        have H4 := qH (And.intro h4 e4)
        rw [e4]
        clear h4 e4
        have hm3 := nJ H.out HE.out HK2b.out HX3.out.1
        have hb3 := iD H.out HE.out HK2b.out HX3.out.1
        have HB3 := qH (And.intro hb3 hm3)
        have c31 : w3.cell? ⟨bb, 1, none⟩ = some (.int .i64 n) := by rw [HB3.out.1.cell', EN.out]; rfl
        clear hm3 hb3 c31
        cases hi : bF aC LL ss with
        | true =>
         have HI := qH hi
         clear hi
         go_wp2_with fail
         refine (fY HB3.out.1 HB3.out.2 s (some ⟨b0, 0, none⟩)).mono ?_
         rintro e w4 ⟨v, rfl, hk4, hm4⟩
         rw [<- HEM.out.2.1] at hm4
         have HM4 := qH (And.intro hk4 hm4)
         clear hk4 hm4
         go_wp2
         go_ret2
         exact sQ H.out HE.out HF.out.1 HK2b.out HX3.out.1 HX3.out.2.1 HX3.out.2.2.1 HX3.out.2.2.2.1 HX3.out.2.2.2.2 (by rw [HEM.out.2.2.1]; exact HR0.out) HI.out HM4.out.1 HM4.out.2
        | false =>
         have HI := qH hi
         clear hi
         go_wp2_with fail
         refine (fY HB3.out.1 HB3.out.2 s (some ⟨b0, 0, none⟩)).mono ?_
         rintro e w4 ⟨v, rfl, hk4, hm4⟩
         rw [<- HEM.out.2.1] at hm4
         have HM4 := qH (And.intro hk4 hm4)
         have hb4 : Blk w4 bb [.map (some r), .int .i64 (bH (aO E) : Nat)] 129 := HB3.out.1.kp hk4 H.out.ne
         have c4 : w4.cell? ⟨bb, 1, none⟩ = some (.int .i64 n) := by rw [hb4.cell', EN.out]; rfl
         have f4 := hb4.free 1
         clear hk4 hm4 hb4
         go_wp2
         go_ret2
         exact sR H.out HE.out HF.out.1 HK2b.out HX3.out.1 HX3.out.2.1 HX3.out.2.2.1 HX3.out.2.2.2.1 HX3.out.2.2.2.2 (by rw [HEM.out.2.2.1]; exact HR0.out) HI.out H4.out.1 HM4.out.1 HM4.out.2 EN.out
     ·have q2 : decide ((262144 : Int) ≤ (n : Int)) = false := by rw [decide_eq_false_iff_not]; omega
      have HM := qH hm
      clear hm
      have HF := qH (show (cI s = true /\ e0.ar = ss.length /\ bP ss = true /\ e0.LL = LL /\ ¬ (262144 ≤ bH (aO E) /\ bF aC LL ss = false)) /\ True from ⟨⟨HNM.out, by rw [HEM.out.2.2.1, HAr.out]; exact HKN.out, HTX.out, HEM.out.2.2.2, fun q => HM.out (by rw [<- EN.out]; exact q.1)⟩, trivial⟩)
      go_enter Tryz.func42, Tryz.ntmps42
      go_wp2_with fail
      refine HN.out.mono ?_
      rintro e w' ⟨rfl, rfl⟩
      go_wp2_with fail
      refine (HT.out w hnil).mono ?_
      rintro e w2 ⟨v, rfl, hk2, rfl⟩
      have HK2 := qH hk2
      have c1' := HC1.out w2 hk2
      clear hk2
      go_wp2_with fail
      refine (HA.out w2 HK2.out).mono ?_
      rintro e w3 ⟨v, rfl, hk3, hv, S', iv', hss, hsn, hrows3, hiv⟩
      rw [<- HEM.out.2.1] at hk3 hrows3
      rw [<- HEM.out.2.2.1] at hrows3
      have HX3 := qH (And.intro hk3 (And.intro hss (And.intro hsn (And.intro hrows3 hiv))))
      rw [HR0.out] at hv
      subst hv
      clear hk3 hss hsn hrows3 hiv
      by_cases h4 : 65536 ≤ LL.length /\ bF aC LL ss = false
      ·have e4 : (if 65536 ≤ LL.length /\ bF aC LL ss = false then (false, 4) else (!bF aC LL ss, 0)) = (false, 4) := if_pos h4
       have H4 := qH (And.intro h4 e4)
       rw [e4]
       clear h4 e4
       go_wp2
       go_ret2
       exact qM H.out HE.out HF.out.1 HK2.out HX3.out.1 HX3.out.2.1 HX3.out.2.2.1 HX3.out.2.2.2.1 HX3.out.2.2.2.2 (by rw [HEM.out.2.2.1]; exact HR0.out) H4.out.1
      ·have e4 : (if 65536 ≤ LL.length /\ bF aC LL ss = false then (false, 4) else (!bF aC LL ss, 0)) = (!bF aC LL ss, 0) := if_neg h4
       have H4 := qH (And.intro h4 e4)
       rw [e4]
       clear h4 e4
       have hm3 := nJ H.out HE.out HK2.out HX3.out.1
       have hb3 := iD H.out HE.out HK2.out HX3.out.1
       have HB3 := qH (And.intro hb3 hm3)
       have c31 : w3.cell? ⟨bb, 1, none⟩ = some (.int .i64 n) := by rw [HB3.out.1.cell', EN.out]; rfl
       clear hm3 hb3 c31
       cases hi : bF aC LL ss with
       | true =>
        have HI := qH hi
        clear hi
        go_wp2_with fail
        refine (fY HB3.out.1 HB3.out.2 s (some ⟨b0, 0, none⟩)).mono ?_
        rintro e w4 ⟨v, rfl, hk4, hm4⟩
        rw [<- HEM.out.2.1] at hm4
        have HM4 := qH (And.intro hk4 hm4)
        clear hk4 hm4
        go_wp2
        go_ret2
        exact sQ H.out HE.out HF.out.1 HK2.out HX3.out.1 HX3.out.2.1 HX3.out.2.2.1 HX3.out.2.2.2.1 HX3.out.2.2.2.2 (by rw [HEM.out.2.2.1]; exact HR0.out) HI.out HM4.out.1 HM4.out.2
       | false =>
        have HI := qH hi
        clear hi
        go_wp2_with fail
        refine (fY HB3.out.1 HB3.out.2 s (some ⟨b0, 0, none⟩)).mono ?_
        rintro e w4 ⟨v, rfl, hk4, hm4⟩
        rw [<- HEM.out.2.1] at hm4
        have HM4 := qH (And.intro hk4 hm4)
        have hb4 : Blk w4 bb [.map (some r), .int .i64 (bH (aO E) : Nat)] 129 := HB3.out.1.kp hk4 H.out.ne
        have c4 : w4.cell? ⟨bb, 1, none⟩ = some (.int .i64 n) := by rw [hb4.cell', EN.out]; rfl
        have f4 := hb4.free 1
        clear hk4 hm4 hb4
        go_wp2
        go_ret2
        exact sR H.out HE.out HF.out.1 HK2.out HX3.out.1 HX3.out.2.1 HX3.out.2.2.1 HX3.out.2.2.2.1 HX3.out.2.2.2.2 (by rw [HEM.out.2.2.1]; exact HR0.out) HI.out H4.out.1 HM4.out.1 HM4.out.2 EN.out
   ·have HAr := qH ha
    have q1 : ((ar : Int) != (k : Int)) = true := by rw [bne_iff_ne]; omega
    clear ha
    go_enter Tryz.func42, Tryz.ntmps42
    go_wp2_with fail
    refine HN.out.mono ?_
    rintro e w' ⟨rfl, rfl⟩
    go_wp2
    go_ret2
    exact RetF.mk (Kp.refl _) (BaseAdded.same H.out (Kp.refl _) (aE0 HNM.out (eD HE.out).1 (by show e0.ar ≠ ss.length; rw [HEM.out.2.2.1, <- HKN.out]; exact HAr.out)) (by decide) rfl)
end Go.Proofs.YtinnmeiphbdogaaGreat
/- tuple.Base: Declare, at every base. -/
namespace Go.Proofs.YtinnmeiphbdogaaGreat
open Go.RowKit
section
variable {S S' : Nat -> Prop} {w w1 w2 w3 w4 : World} {bb r : Nat} {E : List Ent} {s : ByteArray} {e : Ent}
def BaseDecled (S : Nat -> Prop) (w : World) (bb r : Nat) (E : List Ent) (s : ByteArray) (a : Int) (w' : World) (v : Value) : Prop :=
 v = .int .i64 ((eY (aO E) s a : Nat) : Int) /\ ∃ E', BaseAt S w' bb r E' /\ aO E' = iC (aO E) s a /\ ∀ k, iF bb r E' k -> iF bb r E k \/ w.heap.size ≤ k
theorem BaseDecled.same {a : Int} (h : BaseAt S w bb r E) (hk : Ext w w1) {n : Nat} (hR : eY (aO E) s a = n) (hn : iC (aO E) s a = aO E) {v : Value} (hv : v = .int .i64 (n : Nat)) : BaseDecled S w bb r E s a w1 v :=
 ⟨by rw [hv, hR], E, h.ext hk, hn.symm, fun _ h => .inl h⟩
theorem vU {C : List bG} (a : Int) (h : cI s = false) : eY C s a = 32 := if_pos h
theorem aHd {C : List bG} {a : Int} (h : cI s = true) (ha : a < 0 \/ 64 < a) : eY C s a = 2 := by
 unfold eY
 rw [if_neg (by rw [h]; simp), if_pos ha]
theorem aEl {C : List bG} {a : Int} (h : cI s = true) (ha : ¬ (a < 0 \/ 64 < a)) (hg : dR C s = none) : eY C s a = 0 := by
 unfold eY
 rw [if_neg (by rw [h]; simp), if_neg ha, hg]
theorem aEk {C : List bG} {a : Int} {v : Nat × aE} (h : cI s = true) (ha : ¬ (a < 0 \/ 64 < a)) (hg : dR C s = some v) : eY C s a = if (v.1 : Int) = a then 0 else 30 := by
 unfold eY
 rw [if_neg (by rw [h]; simp), if_neg ha, hg]
theorem yR {C : List bG} {a : Int} (h : eY C s a ≠ 0) : iC C s a = C := if_neg fun k => h k.1
theorem aEm {C : List bG} {a : Int} {v : Nat × aE} (hg : dR C s = some v) : iC C s a = C := if_neg fun k => by rw [hg] at k; cases k.2
theorem aAa {k b : Nat} (h : BaseAt S w bb r E) (he : bK E s = none) (hn : cI s = true) (hk : k ≤ 64) (hx : Ext w w3) (hr : RowsAt S w3 b (.slice none 0 0) k []) (hb : w.heap.size ≤ b)
 (hk4 : Kp (fun k => k = r) w3 w4) (hm4 : MapIs w4 r (oE (iB E) s (.pointer (some ⟨b, 0, none⟩)))) : RetF (iF bb r E) w (BaseDecled S w bb r E s (k : Int)) (.returned (.int .i64 0)) w4 := by
 obtain ⟨g1, g2⟩ := fO he
 have hR : eY (aO E) s (k : Int) = 0 := aEl hn (by omega) g1
 have hC : iC (aO E) s (k : Int) = aO (E ++ [{ name := s, b := b, iv := .slice none 0 0, ar := k, LL := [] }]) := by
  unfold iC
  rw [if_pos ⟨hR, g1⟩]
  simp [aO, Ent.cnt]
 rw [yM he b (.slice none 0 0) k []] at hm4
 have ho : ∀ q, fZ b (.slice none 0 0) q -> w.heap.size ≤ q := fun q ho => by
  rcases ho with rfl | ho
  ·exact hb
  ·cases ho
 have htot : bH (aO E) = bH (aO (E ++ [{ name := s, b := b, iv := .slice none 0 0, ar := k, LL := [] }])) := by simp [bH, aO, Ent.cnt]
 refine RetF.mk ((Ext.kp hx).trans (hk4.mono fun k _ ho => .inr (.inl ho))) ⟨by rw [hR]; rfl, E ++ [{ name := s, b := b, iv := .slice none 0 0, ar := k, LL := [] }], ?_, hC.symm, ?_⟩
 ·exact h.push (e := { name := s, b := b, iv := .slice none 0 0, ar := k, LL := [] }) hx (fun _ x => x) (fun _ x => .inl x) hr ho (hk4.mono fun k _ ho => .inr ho) ((h.blk.ext hx).kp hk4 h.ne) hm4 htot (by rw [<- hC]; exact aJz h.ok s _)
 ·rintro q (h1 | h1 | ⟨f, hf, ho2⟩)
  ·exact .inl (.inl h1)
  ·exact .inl (.inr (.inl h1))
  ·rcases List.mem_append.1 hf with hf | hf
   ·exact .inl (.inr (.inr ⟨f, hf, ho2⟩))
   ·obtain rfl := List.mem_singleton.1 hf
    exact .inr (ho q ho2)
set_option maxRecDepth 100000 in
set_option maxHeartbeats 4000000 in
theorem aAb (h : BaseAt S w bb r E) (s : ByteArray) (a : Int) :
 Calls Tryz.prog 107 #[.pointer (some ⟨bb, 0, none⟩), .string s, .int .i64 a] w (RetF (iF bb r E) w (BaseDecled S w bb r E s a)) := by
 have c0 : w.cell? ⟨bb, 0, none⟩ = some (.map (some r)) := by rw [h.blk.cell']; rfl
 have hnm := xR s w
 rw [show decide (1 ≤ s.size /\ s.size ≤ 4096) = cI s from rfl] at hnm
 have HN := qH hnm; clear hnm
 have H := qH h
 have HLk := qH (fun w1 (hw : Ext w w1) => jE (P := Tryz.prog) Tryz.underlying127 Tryz.underlying9 (z := .pointer none) (by kernel_rfl) (h.map.ext hw) s)
 rw [nC] at HLk
 clear h
 cases hn : cI s with
 | false =>
  rw [hn] at HN
  have HNM := qH hn
  clear hn c0
  go_enter Tryz.func107, Tryz.ntmps107
  go_wp2_with fail
  refine HN.out.mono ?_
  rintro e w' ⟨rfl, rfl⟩
  go_wp2
  go_ret
  exact RetF.mk (Kp.refl _) (BaseDecled.same H.out (Kp.refl _) (vU a HNM.out) (yR (by rw [vU a HNM.out]; decide)) rfl)
 | true =>
  rw [hn] at HN
  have HNM := qH hn
  clear hn
  by_cases ha : a < 0 \/ 64 < a
  ·have HNB := qH (rS a w ha)
   have HAB := qH ha
   obtain ⟨p, hp⟩ : ∃ p : Option Addr, ((bK E s).map Ent.ptr).getD (.pointer none) = .pointer p := by
    cases bK E s with
    | none => exact ⟨none, rfl⟩
    | some e => exact ⟨some ⟨e.b, 0, none⟩, rfl⟩
   have hlk := HLk.out w (Kp.refl w)
   rw [hp] at hlk
   clear ha hp
   go_enter Tryz.func107, Tryz.ntmps107
   go_wp2_with fail
   refine HN.out.mono ?_
   rintro e w' ⟨rfl, rfl⟩
   go_wp2_with fail
   refine HNB.out.mono ?_
   rintro e w' ⟨rfl, rfl⟩
   go_wp2
   go_ret
   have e2 := aHd (s := s) (C := aO E) HNM.out HAB.out
   exact RetF.mk (Kp.refl _) (BaseDecled.same H.out (Kp.refl _) e2 (yR (by rw [e2]; decide)) rfl)
  ·obtain ⟨k, rfl⟩ := Int.eq_ofNat_of_zero_le (show 0 ≤ a by omega)
   have hk64 : k ≤ 64 := by omega
   have HNR := qH (mR S w k hk64 H.out.inS)
   have HAN := qH ha
   clear ha
   cases he : bK E s with
   | none =>
    rw [he] at HLk
    have HE := qH he
    clear he
    go_enter Tryz.func107, Tryz.ntmps107
    go_wp2_with fail
    refine HN.out.mono ?_
    rintro e w' ⟨rfl, rfl⟩
    go_wp2_with fail
    refine HNR.out.mono ?_
    rintro e w1 ⟨v, rfl, hk1, rfl, hrows⟩
    have hlk : (Instr.lookup 127 (.map (some r)) (.string s) false).run Tryz.prog w1 = .ok (.pointer none) w1 := HLk.out w1 hk1
    have c1 := hk1.cell c0 id
    have HK1 := qH (And.intro hk1 hrows)
    clear hk1 hrows
    go_wp2_with fail
    refine (fY (H.out.blk.ext HK1.out.1) (H.out.map.ext HK1.out.1) s (some ⟨w.heap.size, 0, none⟩)).mono ?_
    rintro e w4 ⟨v, rfl, hk4, hm4⟩
    have HM4 := qH (And.intro hk4 hm4)
    clear hk4 hm4
    go_wp2
    go_ret
    exact aAa H.out HE.out HNM.out hk64 HK1.out.1 HK1.out.2 (Nat.le_refl _) HM4.out.1 HM4.out.2
   | some e0 =>
    rw [he] at HLk
    have HE := qH he
    obtain ⟨hem, hes⟩ := cD he
    obtain ⟨b0, eb0⟩ : ∃ b0, e0.b = b0 := ⟨_, rfl⟩
    obtain ⟨ar, ear⟩ : ∃ ar, e0.ar = ar := ⟨_, rfl⟩
    have d2 : w.cell? ⟨b0, 2, none⟩ = some (.int .i64 ar) := by rw [<- eb0, (H.out.rows e0 hem).blk.cell', ear]; rfl
    have HEM := qH (And.intro eb0 ear)
    have hg : dR (aO E) s = some (ar, e0.LL) := by rw [<- ear]; exact (eD he).1
    have hR := aEk (C := aO E) HNM.out HAN.out hg
    have HR := qH (And.intro hR (aEm (C := aO E) (a := (k : Int)) hg))
    clear he hem hes eb0 ear hg hR
    by_cases hq : ar = k
    ·have q1 : ((ar : Int) != (k : Int)) = false := by simp [hq]
     have HQ := qH hq
     clear hq
     go_enter Tryz.func107, Tryz.ntmps107
     go_wp2_with fail
     refine HN.out.mono ?_
     rintro e w' ⟨rfl, rfl⟩
     go_wp2_with fail
     refine HNR.out.mono ?_
     rintro e w1 ⟨v, rfl, hk1, rfl, hrows⟩
     have hlk : (Instr.lookup 127 (.map (some r)) (.string s) false).run Tryz.prog w1 = .ok (.pointer (some ⟨b0, 0, none⟩)) w1 := by rw [<- HEM.out.1]; exact HLk.out w1 hk1
     have c1 := hk1.cell c0 id
     have d21 := hk1.cell d2 id
     have HK1 := qH hk1
     clear hk1 hrows
     go_wp2
     go_ret
     exact RetF.mk (Ext.kp HK1.out) (BaseDecled.same H.out HK1.out (by rw [HR.out.1, if_pos (by rw [HQ.out])]) HR.out.2 rfl)
    ·have q1 : ((ar : Int) != (k : Int)) = true := by rw [bne_iff_ne]; omega
     have HQ := qH hq
     clear hq
     go_enter Tryz.func107, Tryz.ntmps107
     go_wp2_with fail
     refine HN.out.mono ?_
     rintro e w' ⟨rfl, rfl⟩
     go_wp2_with fail
     refine HNR.out.mono ?_
     rintro e w1 ⟨v, rfl, hk1, rfl, hrows⟩
     have hlk : (Instr.lookup 127 (.map (some r)) (.string s) false).run Tryz.prog w1 = .ok (.pointer (some ⟨b0, 0, none⟩)) w1 := by rw [<- HEM.out.1]; exact HLk.out w1 hk1
     have c1 := hk1.cell c0 id
     have d21 := hk1.cell d2 id
     have HK1 := qH hk1
     clear hk1 hrows
     go_wp2
     go_ret
     exact RetF.mk (Ext.kp HK1.out) (BaseDecled.same H.out HK1.out (by rw [HR.out.1, if_neg (fun q => HQ.out (by omega))]) HR.out.2 rfl)
end
end Go.Proofs.YtinnmeiphbdogaaGreat
/- tuple.Base: FromRelations. -/
namespace Go.Proofs.YtinnmeiphbdogaaGreat
open Go.RowKit
def RelsIn (S : Nat -> Prop) (w : World) (ao : Option Addr) (L : List jN) : Prop := ∀ (i : Nat) (q : jN), L[i]? = some q -> ∃ b off ra rcap, ao = some ⟨b, off, none⟩ /\ S b /\ w.cell? ⟨b, off + i * 3, none⟩ = some (.string q.1) /\ w.cell? ⟨b, off + i * 3 + 1, none⟩ = some (.int .i64 q.2.1) /\ w.cell? ⟨b, off + i * 3 + 2, none⟩ = some (.slice ra q.2.2.1.length rcap) /\ q.2.2.1.length ≤ rcap /\ rcap ≤ maxLen /\ RowsIn S w ra q.2.2.1
section
variable {S S' : Nat -> Prop} {w w' : World} {ao : Option Addr} {L : List jN}
theorem RelsIn.kp {F : Nat -> Prop} (h : RelsIn S w ao L) (hk : Kp F w w') (hF : ∀ k, F k -> ¬ S k) : RelsIn S w' ao L := fun i q hq => by
 obtain ⟨b, off, ra, rcap, e, hb, c0, c1, c2, h1, h2, h3⟩ := h i q hq
 exact ⟨b, off, ra, rcap, e, hb, hk.cell c0 (fun f => hF _ f hb), hk.cell c1 (fun f => hF _ f hb), hk.cell c2 (fun f => hF _ f hb), h1, h2, h3.kp hk hF⟩
theorem RelsIn.ext (h : RelsIn S w ao L) (hk : Ext w w') : RelsIn S w' ao L := h.kp hk fun _ x => x.elim
end
theorem aI1 {C : List bG} {q : jN} {L : List jN} (h : eY C q.1 q.2.1 ≠ 0) : eV C (q :: L) = (C, eY C q.1 q.2.1) := if_neg h
theorem aI0 {C : List bG} {q : jN} {L : List jN} (h : eY C q.1 q.2.1 = 0) (h2 : (gH (iC C q.1 q.2.1) q.1 q.2.2.1).2 ≠ 0) : eV C (q :: L) = gH (iC C q.1 q.2.1) q.1 q.2.2.1 := by
 show (if eY C q.1 q.2.1 = 0 then _ else _) = _
 rw [if_pos h, if_neg h2]
theorem aJ6 {C : List bG} {q : jN} {L : List jN} (h : eY C q.1 q.2.1 = 0) (h2 : (gH (iC C q.1 q.2.1) q.1 q.2.2.1).2 = 0) : eV C (q :: L) = eV (gH (iC C q.1 q.2.1) q.1 q.2.2.1).1 L := by
 show (if eY C q.1 q.2.1 = 0 then _ else _) = _
 rw [if_pos h, if_pos h2]
theorem aHw {C : List bG} {s : ByteArray} {x : List ByteArray} {rs : aE} (h : (fP C s x).2 = 0) : gH C s (x :: rs) = gH (rL C s x) s rs := if_pos h
theorem aE1 {C : List bG} {s : ByteArray} {x : List ByteArray} {rs : aE} (h : (fP C s x).2 ≠ 0) : gH C s (x :: rs) = (C, (fP C s x).2) := if_neg h
def FromV (w : World) (L : List jN) (w' : World) (v : Value) : Prop :=
 ((eV [] L).2 = 0 -> ∃ bb r S E, v = .tuple #[.pointer (some ⟨bb, 0, none⟩), .int .i64 0] /\ BaseAt S w' bb r E /\ aO E = (eV [] L).1 /\ (∀ k, S k -> w.heap.size ≤ k) /\ ∀ k, iF bb r E k -> w.heap.size ≤ k) /\
 ((eV [] L).2 ≠ 0 -> v = .tuple #[.pointer none, .int .i64 (((eV [] L).2 : Nat) : Int)])
structure MyBase (w0 : World) (S : Nat -> Prop) (w : World) (bb r : Nat) (E : List Ent) : Prop where
 base : BaseAt S w bb r E
 ext : Ext w0 w
 pool : ∀ k, S k -> w0.heap.size ≤ k
 own : ∀ k, iF bb r E k -> w0.heap.size ≤ k
def aK5 (w0 : World) (bb r : Nat) (L : List jN) (n : Nat) (iv : Value) (w : World) : Prop := ∃ i : Nat, i ≤ n /\ iv = .int .i64 i /\ Hid (∃ S E, MyBase w0 S w bb r E /\ eV (aO E) (L.drop i) = eV [] L)
def aK6 (w0 : World) (bb r : Nat) (q : jN) (R : List bG × Nat) (g : Nat) (cs : List Value) (m : Nat) (jv : Value) (w : World) : Prop := ∃ j : Nat, j ≤ m /\ jv = .int .i64 j /\ Hid (∃ S E, MyBase w0 S w bb r E /\ gH (aO E) q.1 (q.2.2.1.drop j) = R /\ Blk w g cs 116 /\ ¬ iF bb r E g)
theorem drop_at {α : Type} {xs : List α} {i : Nat} {x : α} (h : xs[i]? = some x) : xs.drop i = x :: xs.drop (i + 1) := by
 obtain ⟨hi, e⟩ := List.getElem?_eq_some_iff.1 h
 rw [List.drop_eq_getElem_cons hi, e]
theorem cells_lt {w : World} {xa : Option Addr} {ss : List ByteArray} (h : CellsAt w xa (strs ss)) (hne : ss ≠ []) : ∀ a, xa = some a -> a.block < w.heap.size := fun a e => by
 cases ss with
 | nil => exact absurd rfl hne
 | cons s ss =>
  obtain ⟨b, off, e1, hc⟩ := h 0 (.string s) rfl
  rw [e] at e1; cases e1
  exact World.block_lt_of_cell? _ _ hc
set_option maxRecDepth 100000 in
set_option maxHeartbeats 4000000 in
theorem aB7 (L : List jN) (ao : Option Addr) (n cap : Nat) (w : World) (S0 : Nat -> Prop) (hn : n = L.length) (hL : RelsIn S0 w ao L) (hl : n ≤ 4194304) (hr : ∀ q ∈ L, q.2.2.1.length ≤ 1048576) :
 Calls Tryz.prog 59 #[.slice ao n cap] w (RetN w (FromV w L)) := by
 have HN := qH hn
 have HL := qH hL
 have HR := qH hr
 clear hn hL hr
 go_enter Tryz.func59, Tryz.ntmps59
 go_wp2_with fail
 refine (aBm w).mono ?_
 rintro e w1 ⟨v, rfl, hk1, rfl, hB, hm⟩
 obtain ⟨bb, ebb⟩ : ∃ bb, w.heap.size + 1 = bb := ⟨_, rfl⟩
 rw [ebb] at hB ⊢
 obtain ⟨r, er⟩ : ∃ r, w.heap.size = r := ⟨_, rfl⟩
 rw [er] at hB hm
 have HM0 := qH (show MyBase w (fun _ => False) w1 bb r [] from
  {base := BaseAt.new (fun _ => False) (fun _ x => x.elim) hk1 (by omega) (by omega) (by omega) hB hm
   ext := hk1, pool := fun _ x => x.elim
   own := fun k hk => by
    rcases hk with rfl | rfl | ⟨e, he, _⟩
    ·omega
    ·omega
    ·simp at he })
 clear hB hm hk1 ebb er
 go_wp2
 go_loopw [15] (fun iv wr => aK5 w bb r L n iv wr) (fun iv _ => n - (intOf iv).toNat)
 case atStart => exact ⟨0, Nat.zero_le _, rfl, _, [], HM0.out, rfl⟩
 case round =>
  clear HM0
  obtain ⟨i, hi, rfl, hin⟩ := hrel
  obtain ⟨S, E, hM, hF⟩ := hin.out
  have HM := qH hM
  have HF := qH hF
  clear hin hM hF
  by_cases hlt : i < n
  ·obtain ⟨q, hq⟩ : ∃ q, L[i]? = some q := ⟨_, qG (by rw [<- HN.out]; exact hlt)⟩
   obtain ⟨b, off, ra, rcap, eao, hSb, c0, c1, c2, hrl, hrm, hrows⟩ := HL.out i q hq
   subst eao
   replace c0 := HM.out.ext.cell c0 id
   replace c1 := HM.out.ext.cell c1 id
   replace c2 := HM.out.ext.cell c2 id
   obtain ⟨s, es⟩ : ∃ s, q.1 = s := ⟨_, rfl⟩
   obtain ⟨a, ea⟩ : ∃ a, q.2.1 = a := ⟨_, rfl⟩
   obtain ⟨m, em⟩ : ∃ m, q.2.2.1.length = m := ⟨_, rfl⟩
   rw [es] at c0
   rw [ea] at c1
   rw [em] at c2 hrl
   have hm1 : m ≤ 1048576 := by rw [<- em]; exact HR.out q (List.mem_of_getElem? hq)
   have HQ := qH (And.intro hq (And.intro es (And.intro ea em)))
   have HRows := qH hrows
   clear hq es ea em hrows hSb
   obtain ⟨gx, egx⟩ : ∃ g, wr.heap.size = g := ⟨_, rfl⟩
   obtain ⟨wx, ewx⟩ : ∃ wx, wr.alloc (.cells #[.string s, .int .i64 a, .slice ra m rcap] 116) = wx := ⟨_, rfl⟩
   have HBx := qH (show Blk wx gx [.string s, .int .i64 a, .slice ra m rcap] 116 by rw [<- ewx, <- egx]; exact Blk.new wr _ _)
   have HXx := qH (show Ext wr wx by rw [<- ewx]; exact (Kp.refl wr).alloc _)
   have HGx := qH (show ∀ k, iF bb r E k -> k < gx from fun k hk => by rw [<- egx]; exact HM.out.base.ownLt k hk)
   have EGX := qH egx
   have x0 : wx.cell? ⟨wr.heap.size, 0, none⟩ = some (.string s) := by rw [egx, HBx.out.cell']; rfl
   have x1 : wx.cell? ⟨wr.heap.size, 1, none⟩ = some (.int .i64 a) := by rw [egx, HBx.out.cell']; rfl
   clear egx
   go_wp2_with fail
   rw [EGX.out]
   refine (aAb (HM.out.base.ext HXx.out) s a).mono ?_
   rintro e w2 ⟨v, rfl, hk2, rfl, E1, hB1, hC1, ho1⟩
   have hgx : gx < wx.heap.size := HBx.out.lt
   have hbx2 : Blk w2 gx [.string s, .int .i64 a, .slice ra m rcap] 116 := HBx.out.kp hk2 fun ho => by have := HGx.out gx ho; omega
   have hM1 : MyBase w S w2 bb r E1 :=
    {base := hB1
     ext := (HM.out.ext.trans HXx.out).trans' hk2 fun k hk ho => by have := HM.out.own k ho; omega
     pool := HM.out.pool
     own := fun k hk => by
      rcases ho1 k hk with h1 | h1
      ·exact HM.out.own k h1
      ·have := (HM.out.ext.trans HXx.out).size; omega }
   have hng : ¬ iF bb r E1 gx := fun ho => by
    rcases ho1 gx ho with h1 | h1
    ·have := HGx.out gx h1; omega
    ·omega
   have HM1 := qH (And.intro hM1 (And.intro hC1 (And.intro hbx2 hng)))
   clear hk2 hB1 hC1 ho1 hgx hbx2 hM1 hng ewx x0 x1 c0 c1 c2
   obtain ⟨d, ed⟩ : ∃ d, eY (aO E) s a = d := ⟨_, rfl⟩
   rw [ed]
   have ED := qH ed
   clear ed
   have y2 : w2.cell? ⟨gx, 2, none⟩ = some (.slice ra m rcap) := by rw [HM1.out.2.2.1.cell']; rfl
   by_cases hd : d = 0
   ·have q1 : ((d : Int) != 0) = false := by simp [hd]
    have HD := qH hd
    clear hd
    have hdr : (L.drop i) = q :: L.drop (i + 1) := drop_at HQ.out.1
    have HDr := qH hdr
    clear hdr
    go_wp2
    clear q1
    generalize hw5 : w2 = w5 at *; clear hw5
    go_loopw [31] (fun jv wk => aK6 w bb r q (gH (iC (aO E) s a) s q.2.2.1) gx [.string s, .int .i64 a, .slice ra m rcap] m jv wk) (fun jv _ => m - (intOf jv).toNat)
    case atStart => exact ⟨0, Nat.zero_le _, rfl, S, E1, HM1.out.1, by rw [HM1.out.2.1, HQ.out.2.1]; rfl, HM1.out.2.2.1, HM1.out.2.2.2⟩
    case round =>
     clear HM1 HBx HXx HGx EGX y2
     obtain ⟨j, hj, rfl, hin⟩ := hrel
     obtain ⟨S1, E2, hM2, hA2, hbx, hng⟩ := hin.out
     have HM2 := qH (And.intro hM2 (And.intro hA2 (And.intro hbx hng)))
     clear hin hM2 hA2 hbx hng
     by_cases hlt2 : j < m
     ·obtain ⟨ss, hss⟩ : ∃ ss, q.2.2.1[j]? = some ss := ⟨_, qG (by rw [HQ.out.2.2.2]; exact hlt2)⟩
      obtain ⟨g, o, xa, xcap, era, d0, d1, d2, d3⟩ := HRows.out.get hss
      subst era
      replace d0 := HM2.out.1.ext.cell d0 id
      obtain ⟨k, ek⟩ : ∃ k, ss.length = k := ⟨_, rfl⟩
      rw [ek] at d0
      have HSS := qH (And.intro hss ek)
      have HRow := qH (And.intro d1 (And.intro d2 d3))
      have y0 : wr.cell? ⟨gx, 0, none⟩ = some (.string s) := by rw [HM2.out.2.2.1.cell']; rfl
      clear hss ek d1 d2 d3
      go_wp2_with fail
      refine (aCs HM2.out.1.base s (ao := xa) (k := k) (cap := xcap) (ss := ss) ⟨⟨HSS.out.2.symm, HRow.out.1.ext HM2.out.1.ext⟩, HRow.out.2.1, fun a e hne => Nat.lt_of_lt_of_le (cells_lt HRow.out.1 (fun h => hne (by show k = 0; rw [<- HSS.out.2, h]; rfl)) a e) HM2.out.1.ext.size⟩ (fun a e hne ho => by
       have h1 := HM2.out.1.own _ ho
       have h2 := cells_lt HRow.out.1 (fun h => hne (by show k = 0; rw [<- HSS.out.2, h]; rfl)) a e
       omega)).mono ?_
      rintro e w3 ⟨v, rfl, hk3, rfl, S3, E3, hs1, hs2, hB3, hC3, ho3⟩
      have hgx : gx < wr.heap.size := HM2.out.2.2.1.lt
      have hM3 : MyBase w S3 w3 bb r E3 :=
       {base := hB3
        ext := HM2.out.1.ext.trans' hk3 fun k hk ho => by have := HM2.out.1.own k ho; omega
        pool := fun k hk => by
         rcases hs2 k hk with h1 | h1
         ·exact HM2.out.1.pool k h1
         ·have := HM2.out.1.ext.size; omega
        own := fun k hk => by
         rcases ho3 k hk with h1 | h1
         ·exact HM2.out.1.own k h1
         ·have := HM2.out.1.ext.size; omega }
      have hb3 : Blk w3 gx [.string s, .int .i64 a, .slice (some ⟨g, o, none⟩) m rcap] 116 := HM2.out.2.2.1.kp hk3 HM2.out.2.2.2
      have hng : ¬ iF bb r E3 gx := fun ho => by
       rcases ho3 gx ho with h1 | h1
       ·exact HM2.out.2.2.2 h1
       ·omega
      have HM3 := qH (And.intro hM3 (And.intro hC3 (And.intro hb3 hng)))
      clear hk3 hB3 hC3 ho3 hgx hM3 hng hb3 hs1 hs2 y0 d0
      obtain ⟨x1, ex1⟩ : ∃ x, (fP (aO E2) s ss).1 = x := ⟨_, rfl⟩
      obtain ⟨x2, ex2⟩ : ∃ x, (fP (aO E2) s ss).2 = x := ⟨_, rfl⟩
      rw [ex1, ex2]
      have EX := qH ex2
      clear ex1 ex2
      have hdj : q.2.2.1.drop j = ss :: q.2.2.1.drop (j + 1) := drop_at HSS.out.1
      have HDj := qH hdj
      clear hdj
      by_cases hx : x2 = 0
      ·have q1 : ((x2 : Int) != 0) = false := by simp [hx]
       have HX := qH hx
       clear hx
       go_wp2
       go_roundw
       case rel =>
        refine ⟨j + 1, by omega, by first | rfl | (congr 1; done) | (congr 1; omega), S3, E3, HM3.out.1, ?_, HM3.out.2.2.1, HM3.out.2.2.2⟩
        rw [HM3.out.2.1, <- HM2.out.2.1, HDj.out, HQ.out.2.1]
        exact (aHw (by rw [EX.out]; exact HX.out)).symm
       case measure => simp [intOf]; omega
      ·have q1 : ((x2 : Int) != 0) = true := by simp; omega
       have HX := qH hx
       clear hx
       go_wp2
       go_ret2
       have hall := HM2.out.2.1
       rw [HDj.out, HQ.out.2.1, aE1 (by rw [EX.out]; exact HX.out), EX.out] at hall
       have hfr : eV [] L = (aO E2, x2) := by
        rw [<- HF.out, HDr.out, aI0 (by rw [HQ.out.2.1, HQ.out.2.2.1, ED.out]; exact HD.out) (by rw [HQ.out.2.1, HQ.out.2.2.1, <- hall]; exact HX.out), HQ.out.2.1, HQ.out.2.2.1, <- hall]
       exact RetN.mk HM3.out.1.ext ⟨fun h0 => by rw [hfr] at h0; exact absurd h0 HX.out, fun _ => by rw [hfr]; rfl⟩
     ·obtain rfl : j = m := by omega
      have hall := HM2.out.2.1
      rw [List.drop_of_length_le (by rw [HQ.out.2.2.2]; exact Nat.le_refl _)] at hall
      have hall' : gH (iC (aO E) s a) s q.2.2.1 = (aO E2, 0) := hall.symm
      have HAll := qH hall'
      clear hall hall'
      go_wp2
      go_roundw
      case rel =>
       refine ⟨i + 1, by omega, by first | rfl | (congr 1; done) | (congr 1; omega), S1, E2, HM2.out.1, ?_⟩
       rw [<- HF.out, HDr.out, aJ6 (by rw [HQ.out.2.1, HQ.out.2.2.1, ED.out]; exact HD.out) (by rw [HQ.out.2.1, HQ.out.2.2.1, HAll.out]), HQ.out.2.1, HQ.out.2.2.1, HAll.out]
      case measure => simp [intOf]; omega
   ·have q1 : ((d : Int) != 0) = true := by simp; omega
    have HD := qH hd
    clear hd
    go_wp2
    go_ret2
    have hfr : eV [] L = (aO E, d) := by
     rw [<- HF.out, drop_at HQ.out.1, aI1 (by rw [HQ.out.2.1, HQ.out.2.2.1, ED.out]; exact HD.out), HQ.out.2.1, HQ.out.2.2.1, ED.out]
    exact RetN.mk HM1.out.1.ext ⟨fun h0 => by rw [hfr] at h0; exact absurd h0 HD.out, fun _ => by rw [hfr]; rfl⟩
  ·obtain rfl : i = n := by omega
   have hfr : eV [] L = (aO E, 0) := by
    rw [<- HF.out, List.drop_of_length_le (by rw [<- HN.out]; exact Nat.le_refl _)]; rfl
   have HFr := qH hfr
   clear hfr
   go_wp2
   go_ret2
   exact RetN.mk HM.out.ext ⟨fun _ => ⟨bb, r, S, E, rfl, HM.out.base, by rw [HFr.out], HM.out.pool, HM.out.own⟩, fun h0 => absurd (by rw [HFr.out]) h0⟩
end Go.Proofs.YtinnmeiphbdogaaGreat
/- The law of joins: the chapter's base; rules that are tC out; each over that base. -/
namespace Go.Proofs.YtinnmeiphbdogaaGreat
open Go.RowKit Go.Shelf
attribute [local go_sem] Oper.semAt_some
def gK (C : List bG) (ls : List aJ) (j : Nat) : aE := match ls[j]? with | some l => bT C (aU l) | none => []
def bV (r : cK) (C : List bG) : aE := if aS r = 0 then aJa r (gK C r.2.1) else []
theorem oW (E : List Ent) (s : ByteArray) : dQ (bK E s) = bT (aO E) s := by
 unfold bT
 rw [qF]
 cases bK E s <;> rfl
theorem aH9 (ls : List aJ) (E : List Ent) : bD (wN ls E) ls = gK (aO E) ls := by
 funext j
 unfold bD wN gK
 by_cases hj : j < ls.length
 ·rw [if_pos hj, qG hj, oW]; rfl
 ·rw [if_neg hj, List.getElem?_eq_none (by omega)]; rfl
theorem lV (r : cK) (E : List Ent) : lW r (bD (wN r.2.1 E) r.2.1) (bV r (aO E)) := by
 rw [aH9]
 unfold bV
 exact ⟨fun hc => by rw [if_pos hc]; exact qL hc _, fun hc => by rw [if_neg hc]⟩
abbrev TT : Nat -> Prop := fun _ => True
def fitB (ts : List aF) : Bool := ts.all fun t => (Lit.int .i64 t.1).wf && decide (t.2.1.size ≤ 4096)
theorem aG5 {t : aF} (h : ((Lit.int .i64 t.1).wf && decide (t.2.1.size ≤ 4096)) = true) : eU t := by
 rw [Bool.and_eq_true, decide_eq_true_eq] at h
 exact ⟨h.1, by unfold maxLen; omega⟩
theorem vP {ts : List aF} (h : fitB ts = true) : ∀ t ∈ ts, eU t := fun t ht => aG5 (List.all_eq_true.1 h t ht)
def aFg (ls : List aJ) : Bool := ls.all fun l => (Lit.int .i64 l.1).wf && (decide ((aU l).size ≤ 4096) && (fitB (aA l) && ((Lit.int .i64 (fC l)).wf && fitB [leftOf l, aL l])))
theorem rZ {ls : List aJ} (h : aFg ls = true) : ∀ l ∈ ls, LitAll l := fun l hl => by
 have h1 := List.all_eq_true.1 h l hl
 simp only [Bool.and_eq_true, decide_eq_true_eq] at h1
 obtain ⟨a, b, c, d, e⟩ := h1
 have e2 := vP e
 exact ⟨a, by unfold maxLen; omega, vP c, d, e2 _ (by simp), e2 _ (by simp)⟩
theorem nN (w : World) (ts : List aF) (h : fitB ts = true) : aQ (w.alloc (.cells (oS ts).toArray 38)) TT (some ⟨w.heap.size, 0, none⟩) ts :=
 aCf (s := bY) (f := tV) (rest := []) (fun x => rfl) (fun i x hi => nO (vP h x (List.mem_of_getElem? hi))) trivial (by rw [List.append_nil]; exact Blk.new w (oS ts) 38)
theorem aFw (w : World) (a : Option Addr) : aQ w TT a [] := fun i x hx => by simp at hx
theorem uX (w : World) (a : Option Addr) : bQ w TT a [] := fun i x hx => by simp at hx
theorem aIq (w : World) (ls : List aJ) (vs : List (Option Addr × Nat)) (hv : vs.length = ls.length) (h : aFg ls = true) (ht : ∀ x ∈ ls.zip vs, aQ w TT x.2.1 (aA x.1) /\ (aA x.1).length ≤ x.2.2 /\ x.2.2 ≤ maxLen) : bQ (w.alloc (.cells ((ls.zip vs).flatMap bU).toArray 40)) TT (some ⟨w.heap.size, 0, none⟩) ls :=
 lP (rest := []) hv (rZ h) (fun x hx => ⟨(ht x hx).1.ext ((Kp.refl w).alloc _), (ht x hx).2⟩) trivial (by rw [List.append_nil]; exact Blk.new w ((ls.zip vs).flatMap bU) 40)
theorem xV {w : World} {G : Nat -> Prop} {ao : Option Addr} {ls : List aJ} (h : bQ w G ao ls) : ∃ vs : List (Option Addr × Nat), vs.length = ls.length /\ CellsAt w ao ((ls.zip vs).flatMap bU) /\ ∀ x ∈ ls.zip vs, LitIn w G x.1 x.2.1 x.2.2 := by
 have hex : ∀ i : Fin ls.length, ∃ p : Option Addr × Nat, LitIn w G ls[i] p.1 p.2 /\ ∀ c u, (bU (ls[i], p))[c]? = some u -> ∃ b off, ao = some ⟨b, off, none⟩ /\ w.cell? ⟨b, off + i.1 * 8 + c, none⟩ = some u := fun i => by
  obtain ⟨b, off, a, cap, e, -, -, hl, c0, c1, c2, c3, c4, c5, c6, c7⟩ := mV h (qG i.2)
  refine ⟨(a, cap), hl, fun c u hu => ⟨b, off, e, ?_⟩⟩
  match c, hu with
  | 0, hu => cases hu; exact c0
  | 1, hu => cases hu; exact c1
  | 2, hu => cases hu; exact c2
  | 3, hu => cases hu; exact c3
  | 4, hu => cases hu; exact c4
  | 5, hu => cases hu; exact c5
  | 6, hu => cases hu; exact c6
  | 7, hu => cases hu; exact c7
  | k + 8, hu => cases hu
 let f : Fin ls.length -> Option Addr × Nat := fun i => Classical.choose (hex i)
 have hf : ∀ i, _ := fun i => Classical.choose_spec (hex i)
 have hz : ∀ (i : Nat) x, (ls.zip (List.ofFn f))[i]? = some x -> ∃ hi : i < ls.length, x = (ls[i], f ⟨i, hi⟩) := fun i x hx => by
  obtain ⟨l, p⟩ := x
  rw [List.getElem?_zip_eq_some] at hx
  have hi := (List.getElem?_eq_some_iff.1 hx.1).1
  refine ⟨hi, ?_⟩
  have h1 := hx.1
  have h2 := hx.2
  rw [qG hi] at h1
  rw [List.getElem?_ofFn, dif_pos hi] at h2
  cases h1; cases h2; rfl
 refine ⟨List.ofFn f, List.length_ofFn, fun i u hu => ?_, fun x hx => ?_⟩
 ·have hl := (List.getElem?_eq_some_iff.1 hu).1
  rw [iA bU 8 dD, List.length_zip, List.length_ofFn, Nat.min_self] at hl
  have hq := Nat.div_add_mod i 8
  have hm := Nat.mod_lt i (show 8 > 0 by decide)
  have hi : i / 8 < ls.length := Nat.div_lt_of_lt_mul (by omega)
  have hzi : (ls.zip (List.ofFn f))[i / 8]? = some (ls[i / 8], f ⟨i / 8, hi⟩) := by
   rw [List.getElem?_zip_eq_some]
   exact ⟨qG hi, by rw [List.getElem?_ofFn, dif_pos hi]⟩
  have hg := flat_get bU 8 dD _ (i / 8) _ (i % 8) hzi hm
  rw [show i / 8 * 8 + i % 8 = i by omega, hu] at hg
  obtain ⟨b, off, e, hc⟩ := (hf ⟨i / 8, hi⟩).2 (i % 8) u hg.symm
  refine ⟨b, off, e, ?_⟩
  rw [<- hc]
  congr 2
  show off + i = off + i / 8 * 8 + i % 8
  omega
 ·obtain ⟨i, hi⟩ := List.mem_iff_getElem?.1 hx
  obtain ⟨hil, rfl⟩ := hz i x hi
  exact (hf ⟨i, hil⟩).1
def sA : ByteArray := ⟨#[97]⟩
def sB : ByteArray := ⟨#[98]⟩
def sC : ByteArray := ⟨#[99]⟩
def aEa : List jN := [(⟨#[101]⟩, 2, [[sA, sB], [sB, sC], [sB, sB], [sC, sA]], ()), (⟨#[110]⟩, 1, [[sB]], ()), (⟨#[122]⟩, 0, [[]], ())]
def awC : List bG := [(⟨#[101]⟩, 2, [[sA, sB], [sB, sB], [sB, sC], [sC, sA]]), (⟨#[110]⟩, 1, [[sB]]), (⟨#[122]⟩, 0, [[]])]
theorem aB5 : eV [] aEa = (awC, 0) := by kernel_rfl
def aIa (l : List (Nat × List ByteArray)) : List gJ := l.map fun x => ((some ⟨x.1, 0, none⟩, x.2.length, x.2.length), x.2)
theorem qX {w : World} {g : Nat} {l : List (Nat × List ByteArray)} {LL : aE} (hl : LL = l.map Prod.snd) (hB : Blk w g (fH (aIa l)) 34) (hr : ∀ x ∈ l, Blk w x.1 (strs x.2) 9 /\ x.2.length ≤ 64) : RowsIn TT w (some ⟨g, 0, none⟩) LL := by
 refine ⟨aIa l, by rw [hl]; unfold aIa; rw [List.map_map]; rfl, CellsAt.pre (rest := []) (by rw [List.append_nil]; exact hB), fun _ _ => trivial, fun p hp => ?_⟩
 obtain ⟨x, hx, rfl⟩ := List.mem_map.1 hp
 obtain ⟨h1, h2⟩ := hr x hx
 exact ⟨⟨rfl, CellsAt.pre (rest := []) (by rw [List.append_nil]; exact h1)⟩, by show x.2.length ≤ _; omega, fun _ _ => trivial⟩
set_option maxRecDepth 100000 in
set_option maxHeartbeats 4000000 in
theorem aG2 (w : World) : Calls Tryz.prog 26 #[] w (RetN w fun w' v => ∃ bb E S, v = .pointer (some ⟨bb, 0, none⟩) /\ BaseV S w' v E /\ aO E = awC) := by
 obtain ⟨w1, e1⟩ : ∃ x, w.alloc (.cells #[.string ⟨#[97]⟩, .string ⟨#[98]⟩] 9) = x := ⟨_, rfl⟩
 have B1 := qH (show Blk w1 w.heap.size [.string ⟨#[97]⟩, .string ⟨#[98]⟩] 9 from by rw [<- e1]; exact Blk.new w _ _)
 have Y1 := qH (show Ext w w1 from by rw [<- e1]; exact (Kp.refl w).alloc _)
 obtain ⟨w2, e2⟩ : ∃ x, w1.alloc (.cells #[.string ⟨#[98]⟩, .string ⟨#[99]⟩] 9) = x := ⟨_, rfl⟩
 have B2 := qH (show Blk w2 w1.heap.size [.string ⟨#[98]⟩, .string ⟨#[99]⟩] 9 from by rw [<- e2]; exact Blk.new w1 _ _)
 have Y2 := qH (show Ext w1 w2 from by rw [<- e2]; exact (Kp.refl w1).alloc _)
 obtain ⟨w3, e3⟩ : ∃ x, w2.alloc (.cells #[.string ⟨#[98]⟩, .string ⟨#[98]⟩] 9) = x := ⟨_, rfl⟩
 have B3 := qH (show Blk w3 w2.heap.size [.string ⟨#[98]⟩, .string ⟨#[98]⟩] 9 from by rw [<- e3]; exact Blk.new w2 _ _)
 have Y3 := qH (show Ext w2 w3 from by rw [<- e3]; exact (Kp.refl w2).alloc _)
 obtain ⟨w4, e4⟩ : ∃ x, w3.alloc (.cells #[.string ⟨#[99]⟩, .string ⟨#[97]⟩] 9) = x := ⟨_, rfl⟩
 have B4 := qH (show Blk w4 w3.heap.size [.string ⟨#[99]⟩, .string ⟨#[97]⟩] 9 from by rw [<- e4]; exact Blk.new w3 _ _)
 have Y4 := qH (show Ext w3 w4 from by rw [<- e4]; exact (Kp.refl w3).alloc _)
 obtain ⟨w5, e5⟩ : ∃ x, w4.alloc (.cells #[.slice (some ⟨w.heap.size, 0, none⟩) 2 2, .slice (some ⟨w1.heap.size, 0, none⟩) 2 2, .slice (some ⟨w2.heap.size, 0, none⟩) 2 2, .slice (some ⟨w3.heap.size, 0, none⟩) 2 2] 34) = x := ⟨_, rfl⟩
 have B5 := qH (show Blk w5 w4.heap.size [.slice (some ⟨w.heap.size, 0, none⟩) 2 2, .slice (some ⟨w1.heap.size, 0, none⟩) 2 2, .slice (some ⟨w2.heap.size, 0, none⟩) 2 2, .slice (some ⟨w3.heap.size, 0, none⟩) 2 2] 34 from by rw [<- e5]; exact Blk.new w4 _ _)
 have Y5 := qH (show Ext w4 w5 from by rw [<- e5]; exact (Kp.refl w4).alloc _)
 obtain ⟨w6, e6⟩ : ∃ x, w5.alloc (.cells #[.string ⟨#[98]⟩] 9) = x := ⟨_, rfl⟩
 have B6 := qH (show Blk w6 w5.heap.size [.string ⟨#[98]⟩] 9 from by rw [<- e6]; exact Blk.new w5 _ _)
 have Y6 := qH (show Ext w5 w6 from by rw [<- e6]; exact (Kp.refl w5).alloc _)
 obtain ⟨w7, e7⟩ : ∃ x, w6.alloc (.cells #[.slice (some ⟨w5.heap.size, 0, none⟩) 1 1] 34) = x := ⟨_, rfl⟩
 have B7 := qH (show Blk w7 w6.heap.size [.slice (some ⟨w5.heap.size, 0, none⟩) 1 1] 34 from by rw [<- e7]; exact Blk.new w6 _ _)
 have Y7 := qH (show Ext w6 w7 from by rw [<- e7]; exact (Kp.refl w6).alloc _)
 obtain ⟨w8, e8⟩ : ∃ x, w7.alloc (.cells #[] 9) = x := ⟨_, rfl⟩
 have B8 := qH (show Blk w8 w7.heap.size [] 9 from by rw [<- e8]; exact Blk.new w7 _ _)
 have Y8 := qH (show Ext w7 w8 from by rw [<- e8]; exact (Kp.refl w7).alloc _)
 obtain ⟨w9, e9⟩ : ∃ x, w8.alloc (.cells #[.slice (some ⟨w7.heap.size, 0, none⟩) 0 0] 34) = x := ⟨_, rfl⟩
 have B9 := qH (show Blk w9 w8.heap.size [.slice (some ⟨w7.heap.size, 0, none⟩) 0 0] 34 from by rw [<- e9]; exact Blk.new w8 _ _)
 have Y9 := qH (show Ext w8 w9 from by rw [<- e9]; exact (Kp.refl w8).alloc _)
 obtain ⟨w10, e10⟩ : ∃ x, w9.alloc (.cells #[.string ⟨#[101]⟩, .int .i64 2, .slice (some ⟨w4.heap.size, 0, none⟩) 4 4, .string ⟨#[110]⟩, .int .i64 1, .slice (some ⟨w6.heap.size, 0, none⟩) 1 1, .string ⟨#[122]⟩, .int .i64 0, .slice (some ⟨w8.heap.size, 0, none⟩) 1 1] 116) = x := ⟨_, rfl⟩
 have B10 := qH (show Blk w10 w9.heap.size [.string ⟨#[101]⟩, .int .i64 2, .slice (some ⟨w4.heap.size, 0, none⟩) 4 4, .string ⟨#[110]⟩, .int .i64 1, .slice (some ⟨w6.heap.size, 0, none⟩) 1 1, .string ⟨#[122]⟩, .int .i64 0, .slice (some ⟨w8.heap.size, 0, none⟩) 1 1] 116 from by rw [<- e10]; exact Blk.new w9 _ _)
 have Y10 := qH (show Ext w9 w10 from by rw [<- e10]; exact (Kp.refl w9).alloc _)
 have HE := qH (qX (w := w5) (g := w4.heap.size) (l := [(w.heap.size, [sA, sB]), (w1.heap.size, [sB, sC]), (w2.heap.size, [sB, sB]), (w3.heap.size, [sC, sA])]) (LL := [[sA, sB], [sB, sC], [sB, sB], [sC, sA]]) rfl B5.out (fun x hx => by
  simp only [List.mem_cons, List.not_mem_nil, or_false] at hx
  rcases hx with rfl | rfl | rfl | rfl
  ·exact ⟨B1.out.ext (Y2.out.trans (Y3.out.trans (Y4.out.trans Y5.out))), by simp⟩
  ·exact ⟨B2.out.ext (Y3.out.trans (Y4.out.trans Y5.out)), by simp⟩
  ·exact ⟨B3.out.ext (Y4.out.trans Y5.out), by simp⟩
  ·exact ⟨B4.out.ext Y5.out, by simp⟩))
 have HN := qH (qX (w := w7) (g := w6.heap.size) (l := [(w5.heap.size, [sB])]) (LL := [[sB]]) rfl B7.out (fun x hx => by
  simp only [List.mem_cons, List.not_mem_nil, or_false] at hx
  subst hx
  exact ⟨B6.out.ext Y7.out, by simp⟩))
 have HZ := qH (qX (w := w9) (g := w8.heap.size) (l := [(w7.heap.size, [])]) (LL := [[]]) rfl B9.out (fun x hx => by
  simp only [List.mem_cons, List.not_mem_nil, or_false] at hx
  subst hx
  exact ⟨B8.out.ext Y9.out, by simp⟩))
 have X5to10 := qH (Y6.out.trans (Y7.out.trans (Y8.out.trans (Y9.out.trans Y10.out))))
 have X7to10 := qH (Y8.out.trans (Y9.out.trans Y10.out))
 have X9to10 := qH Y10.out
 have X10 := qH (Y1.out.trans (Y2.out.trans (Y3.out.trans (Y4.out.trans (Y5.out.trans (Y6.out.trans (Y7.out.trans (Y8.out.trans (Y9.out.trans Y10.out)))))))))
 clear B1 Y1 B2 Y2 B3 Y3 B4 Y4 B5 Y5 B6 Y6 B7 Y7 B8 Y8 B9 Y9 Y10
 have hL : RelsIn TT w10 (some ⟨w9.heap.size, 0, none⟩) aEa := fun i q hq => by
  match i, hq with
  | 0, hq => cases hq; exact ⟨w9.heap.size, 0, some ⟨w4.heap.size, 0, none⟩, 4, rfl, trivial, by rw [B10.out.cell']; rfl, by rw [B10.out.cell']; rfl, by rw [B10.out.cell']; rfl, by decide, by decide, HE.out.ext (X5to10.out)⟩
  | 1, hq => cases hq; exact ⟨w9.heap.size, 0, some ⟨w6.heap.size, 0, none⟩, 1, rfl, trivial, by rw [B10.out.cell']; rfl, by rw [B10.out.cell']; rfl, by rw [B10.out.cell']; rfl, by decide, by decide, HN.out.ext (X7to10.out)⟩
  | 2, hq => cases hq; exact ⟨w9.heap.size, 0, some ⟨w8.heap.size, 0, none⟩, 1, rfl, trivial, by rw [B10.out.cell']; rfl, by rw [B10.out.cell']; rfl, by rw [B10.out.cell']; rfl, by decide, by decide, HZ.out.ext (X9to10.out)⟩
  | n + 3, hq => cases hq
 have HFr := qH (aB7 aEa (some ⟨w9.heap.size, 0, none⟩) 3 3 w10 TT rfl hL (by decide) (by decide))
 clear hL
 go_enter Tryz.func26, Tryz.ntmps26
 go_wp2_with fail
 refine HFr.out.mono ?_
 rintro e w11 ⟨v, rfl, hk11, hv⟩
 obtain ⟨bb, r, S, E, rfl, hb, hC, -, -⟩ := hv.1 (by rw [aB5])
 have H11 := qH (show Ext w w11 /\ BaseAt S w11 bb r E /\ aO E = awC from ⟨X10.out.trans hk11, hb, by rw [hC, aB5]⟩)
 clear hv hb hC hk11
 go_wp2
 go_ret
 exact RetN.mk H11.out.1 ⟨bb, E, S, rfl, .full bb r E H11.out.2.1, H11.out.2.2⟩
theorem vT {S : Nat -> Prop} {w : World} {p : ByteArray} {hs : List aF} {ls : List aJ} {ha ba : Option Addr} {hn hcap n bcap : Nat} {o : Option Addr} {E : List Ent} (hhn : hn = hs.length) (hh : aQ w TT ha hs) (hhl : hn ≤ 1048576) (hbn : n = ls.length) (h : bQ w TT ba ls) (hf : Fit ls) (hnv : (aB ls).length ≤ 1048576) (hn16 : n ≤ 1048576)
 (hB : BaseV S w (.pointer o) E) (hC : aO E = awC) (M : List ByteArray) (m : Nat) (hM : (bV ((p, hs, ()), ls, ()) awC).map gZ = M) (hm : M.length = m) (hm2 : m ≤ 1048576) :
 Calls Tryz.prog 18 #[cP p ha hn hcap ba n bcap, .pointer o] w (RetN w fun w' v => ∃ ao cap, v = .slice ao m cap /\ CellsAt w' ao (strs M)) := by
 have hl : (bV ((p, hs, ()), ls, ()) (aO E)).length = m := by rw [hC, <- hm, <- hM, List.length_map]
 have h1 := pB (hcap := hcap) (bcap := bcap) (p := p) (L := bV ((p, hs, ()), ls, ()) (aO E)) hhn hh hhl hbn h hf hnv hn16 hB (lV ((p, hs, ()), ls, ()) E) (by omega)
 refine h1.mono ?_
 rintro e w' ⟨v, rfl, hk, hr⟩
 rw [hl, hC, hM] at hr
 obtain ⟨ao, cap, ev, hc, _⟩ := hr.shape
 exact RetN.mk hk ⟨ao, cap, ev, hc⟩
theorem uA (M : List ByteArray) (ao bo : Option Addr) (n acap bcap : Nat) (w : World) (hn : M.length = n) (ha : CellsAt w ao (strs M)) (hb : CellsAt w bo (strs M)) (hl : n ≤ 1048576) :
 Calls Tryz.prog 17 #[.slice ao n acap, .slice bo n bcap] w (RetN w fun w' v => v = .bool true) := by
 refine (jC M M ao bo n n acap bcap w hn.symm hn.symm ha hb (by omega)).mono ?_
 rintro e w' ⟨v, rfl, hk, rfl⟩
 exact RetN.mk hk (by rw [decide_eq_true rfl])
end Go.Proofs.YtinnmeiphbdogaaGreat
/- The law of joins: over: the bindings of a rule one of whose literals looks into another base, as texts, rising. -/
namespace Go.Proofs.YtinnmeiphbdogaaGreat
open Go.RowKit Go.Shelf
attribute [local go_sem] Oper.semAt_some
section
variable {w8 W1 W : World} {b : Nat} {f : List XB -> List ByteArray} {T T' : Nat -> Prop} {pre : List XB}
theorem ListI.round2 {v v' : Value} {X : World} {x : XB} {Z : Nat -> Prop} (h : ListI w8 b f T pre W) (hb : b < w8.heap.size) (hTlt : ∀ k, T k -> k < W.heap.size) (hZ : ∀ k, Z k -> b < k /\ k < w8.heap.size) (hv : Blk W b [v] 34) (hk : Kp (fun k => k = b \/ v.ownBlock = some k) W X) (hB : Blk X b [v'] 34) (hr : Row X 9 1 v' (f (pre ++ [x])).length (strs (f (pre ++ [x]))) (fun g => v.ownBlock = some g \/ W.heap.size ≤ g)) :
 KeepsFrom w8.heap.size W X /\ Kp (fun k => ¬ gI Z T k) W X /\ ListI w8 b f T (pre ++ [x]) X := by
 obtain ⟨h1, h2, v0, h3, h4⟩ := h
 have e0 : v0 = v := by
  unfold Blk at h3 hv
  rw [h3] at hv; cases hv; rfl
 subst e0
 have hsz := h1.size
 have hno : ∀ k, (k = b \/ v0.ownBlock = some k) -> ¬ T k /\ (k = b \/ w8.heap.size ≤ k) := fun k hk => by
  rcases hk with h | h
  ·exact ⟨fun ht => by have := h2 k ht; omega, .inl h⟩
  ·exact ⟨(h4.block k h).2, .inr (h4.block k h).1⟩
 refine ⟨⟨hk.size, fun k o hB2 hk2 ho => (hk.block k (lt_of_block hk2) fun hf => ?_).trans hk2⟩, hk.mono fun k hk2 hf hz => ?_, h1.trans' hk fun k hk2 hf => ?_, h2, v', hB, ?_⟩
 ·rcases hf with e | e
  ·unfold Blk at h3; rw [e, h3] at hk2; cases hk2; cases ho
  ·obtain ⟨cs, hb'⟩ := aR h4 e
   unfold Blk at hb'; rw [hb'] at hk2; cases hk2; cases ho
 ·rcases hz with hz | hz
  ·exact (hno k hf).1 hz
  ·have := hZ k hz
   rcases (hno k hf).2 with h | h <;> omega
 ·rcases (hno k hf).2 with h | h
  ·exact h
  ·omega
 ·refine hr.mono fun g hg => ?_
  rcases hg with hg | hg
  ·exact h4.block g hg
  ·exact ⟨by omega, fun ht => by have := hTlt g ht; omega⟩
end
end Go.Proofs.YtinnmeiphbdogaaGreat
/- Bases merged, in plain Lean. No program in sight. -/
namespace Go.Proofs.YtinnmeiphbdogaaGreat
end Go.Proofs.YtinnmeiphbdogaaGreat
/- The law of joins: JoinMore: plain. -/
namespace Go.Proofs.YtinnmeiphbdogaaGreat
theorem aGr {acc : List ByteArray} {y x : ByteArray} : x ∈ bM cQ acc y ↔ x ∈ acc \/ x = y := by
 rw [kM]
 constructor
 ·rintro (h | h)
  ·exact .inl h
  ·exact .inr h.1
 ·rintro (h | rfl)
  ·exact .inl h
  ·by_cases hx : x ∈ acc
   ·exact .inl hx
   ·refine .inr ⟨rfl, ?_⟩
    cases hi : bF cQ acc x with
    | false => rfl
    | true =>
     obtain ⟨z, hz, e⟩ := kR.1 hi
     rw [zW.1 e] at hz
     exact absurd hz hx
theorem xU {xs : List ByteArray} {x : ByteArray} : x ∈ oX cQ xs ↔ x ∈ xs := by
 suffices h : ∀ (xs acc : List ByteArray), x ∈ xs.foldl (bM cQ) acc ↔ x ∈ acc \/ x ∈ xs from (h xs []).trans (by simp)
 intro xs
 induction xs with
 | nil => intro acc; simp
 | cons y xs ih =>
  intro acc
  rw [List.foldl_cons, ih]
  have h1 := aGr (acc := acc) (y := y) (x := x)
  rw [h1, List.mem_cons, or_assoc]
theorem aAr {A B : List ByteArray} (hA : Strict cQ A) (hB : Strict cQ B) (h : ∀ x, x ∈ A ↔ x ∈ B) : A = B := hA.unique kU hB h
end Go.Proofs.YtinnmeiphbdogaaGreat
/- The law of joins: base, few. -/
namespace Go.Proofs.YtinnmeiphbdogaaGreat
open Go.RowKit Go.Shelf
attribute [local go_sem] Oper.semAt_some
def BaseIn (w : World) (L : List jN) (w' : World) (v : Value) : Prop :=
 ((eV [] L).2 = 0 /\ ∃ bb r S E, v = .tuple #[.pointer (some ⟨bb, 0, none⟩), .bool (decide (bH (eV [] L).1 ≤ 60))] /\ BaseAt S w' bb r E /\ aO E = (eV [] L).1 /\ (∀ k, S k -> w.heap.size ≤ k) /\ ∀ k, iF bb r E k -> w.heap.size ≤ k) \/
 ((eV [] L).2 ≠ 0 /\ v = .tuple #[.pointer none, .bool false])
set_option maxRecDepth 100000 in
set_option maxHeartbeats 4000000 in
theorem aEv (L : List jN) (ao : Option Addr) (n cap : Nat) (w : World) (S0 : Nat -> Prop) (hn : n = L.length) (hL : RelsIn S0 w ao L) (hl : n ≤ 4194304) (hr : ∀ q ∈ L, q.2.2.1.length ≤ 1048576) :
 Calls Tryz.prog 10 #[.slice ao n cap] w (RetN w (BaseIn w L)) := by
 have HFr := qH (aB7 L ao n cap w S0 hn hL hl hr)
 clear hn hL hl hr
 go_enter Tryz.func10, Tryz.ntmps10
 go_wp2_with fail
 refine HFr.out.mono ?_
 rintro e w1 ⟨v, rfl, hk1, hv⟩
 by_cases hc : (eV [] L).2 = 0
 ·obtain ⟨bb, r, S, E, rfl, hb, hC, h1, h2⟩ := hv.1 hc
  have H1 := qH (show Ext w w1 /\ BaseAt S w1 bb r E /\ aO E = (eV [] L).1 /\ (∀ k, S k -> w.heap.size ≤ k) /\ ∀ k, iF bb r E k -> w.heap.size ≤ k from ⟨hk1, hb, hC, h1, h2⟩)
  have HC := qH hc
  clear hv hk1 hb hC h1 h2 hc
  go_wp2_with fail
  refine (xN 0 w1).mono ?_
  rintro e w2 ⟨v, rfl, hk2, rfl⟩
  have HLn := qH (aCq (H1.out.2.1.ext hk2).blk)
  have X2 := qH hk2
  clear hk2
  obtain ⟨tc, etc⟩ : ∃ t, bH (aO E) = t := ⟨_, rfl⟩
  rw [etc] at HLn
  have HTc := qH etc
  clear etc
  go_wp2_with fail
  refine HLn.out.mono ?_
  rintro e w3 ⟨rfl, rfl⟩
  have hd : decide ((tc : Int) ≤ 60) = decide (tc ≤ 60) := by rw [decide_eq_decide]; omega
  have HD := qH hd
  clear hd
  go_wp2
  go_ret2
  refine RetN.mk (H1.out.1.trans X2.out) (.inl ⟨HC.out, bb, r, S, E, ?_, H1.out.2.1.ext X2.out, H1.out.2.2.1, H1.out.2.2.2.1, H1.out.2.2.2.2⟩)
  rw [<- H1.out.2.2.1, HTc.out]
  first
   | rfl
   | (rw [<- HD.out]; rfl)
   | simp
 ·have hv2 := hv.2 hc
  subst hv2
  have HC := qH (And.intro hc hk1)
  obtain ⟨z, ez⟩ : ∃ z, (eV [] L).2 = z := ⟨_, rfl⟩
  rw [ez] at hc ⊢
  have hz : ((z : Int) == 0) = false := by simp; omega
  clear hv hk1 hc ez
  go_wp2_with fail
  refine (xN z w1).mono ?_
  rintro e w2 ⟨v, rfl, hk2, rfl⟩
  have X2 := qH hk2
  clear hk2
  go_wp2
  go_ret2
  exact RetN.mk (HC.out.2.trans X2.out) (.inr ⟨HC.out.1, rfl⟩)
def jI (C : List bG) : List aJ -> Nat -> Option Nat
 | [], n => some n
 | l :: ls, n => if l.1 = 1 then (if 20000 < n * (1 + (bT C (aU l)).length) then none else jI C ls (n * (1 + (bT C (aU l)).length))) else jI C ls n
def wP (C : List bG) (ls : List aJ) : Bool := (jI C ls 1).isSome
theorem iR (C : List bG) : ∀ (a b : List aJ) (n : Nat), jI C (a ++ b) n = (jI C a n).bind (jI C b)
 | [], b, n => rfl
 | l :: a, b, n => by
  show jI C (l :: (a ++ b)) n = (jI C (l :: a) n).bind _
  unfold jI
  split
  ·split
   ·rfl
   ·exact iR C a b _
  ·exact iR C a b n
def FewTo (w0 : World) (C : List bG) (ls : List aJ) (n : Nat) (pv iv : Value) (w : World) : Prop := ∃ (i m : Nat), i ≤ n /\ iv = .int .i64 i /\ pv = .int .i64 m /\ m ≤ 20000 /\ Hid (Ext w0 w) /\ Hid (jI C (ls.take i) 1 = some m)
set_option maxRecDepth 100000 in
set_option maxHeartbeats 4000000 in
theorem yL {S : Nat -> Prop} {w : World} {p : ByteArray} {hs : List aF} {ls : List aJ} {ha ba : Option Addr} {hn hcap n bcap : Nat} {G : Nat -> Prop} {v : Value} {E : List Ent} (hbn : n = ls.length) (h : bQ w G ba ls) (hf : Fit ls) (hB : BaseV S w v E) :
 Calls Tryz.prog 11 #[cP p ha hn hcap ba n bcap, v] w (RetN w fun w' u => u = .bool (wP (aO E) ls)) := by
 have HN := qH hbn; have HE := qH h; have HF := qH hf; have hl : n ≤ 1048576 := by have := hf.len; omega
 have HSz := qH (fun W (hW : Ext w W) (s : ByteArray) => zY (hB.ext hW) s)
 have hok := hB.ok
 have HSm := qH (show ∀ s, (bT (aO E) s).length ≤ 65536 from fun s => by
  unfold bT
  cases hg : dR (aO E) s with
  | none => exact Nat.zero_le _
  | some x => exact (hok.all (s, x) ((kS hok.nodup).1 hg)).few)
 clear hbn h hf hB hok
 obtain ⟨g0, eg0⟩ : ∃ g, w.heap.size = g := ⟨_, rfl⟩
 obtain ⟨w1, e1⟩ : ∃ x, w.alloc (.cells #[.string p, .slice ha hn hcap, .slice ba n bcap] 27) = x := ⟨_, rfl⟩
 have hB1 : Blk w1 g0 [.string p, .slice ha hn hcap, .slice ba n bcap] 27 := by rw [<- e1, <- eg0]; exact Blk.new w _ _
 have hx1 : Ext w w1 := by rw [<- e1]; exact (Kp.refl w).alloc _
 have H1 := qH (And.intro hx1 hB1)
 clear hB1 hx1
 go_enter Tryz.func11, Tryz.ntmps11
 go_wp2
 clear e1 eg0
 go_loopw [5, 6] (fun pv iv wr => FewTo w1 (aO E) ls n pv iv wr) (fun _ iv _ => n - (intOf iv).toNat)
 case atStart => exact ⟨0, 1, Nat.zero_le _, rfl, rfl, by decide, qH (Kp.refl _), qH rfl⟩
 case round =>
  obtain ⟨i, m, hi, rfl, rfl, hm, hex, hfe⟩ := hrel
  have XR := qH (H1.out.1.trans hex.out)
  have b2 : wr.cell? ⟨g0, 2, none⟩ = some (.slice ba n bcap) := by rw [(H1.out.2.ext hex.out).cell']; rfl
  by_cases hlt : i < n
  ·have hltl : i < ls.length := by rw [<- HN.out]; exact hlt
   obtain ⟨l, hli⟩ : ∃ l, ls[i]? = some l := ⟨_, qG hltl⟩
   obtain ⟨b, off, a2, cap2, eao, hG, hb, hL, c0, c1, c2, c3, c4, c5, c6, c7⟩ := mV HE.out hli
   subst eao
   replace c0 := XR.out.cell c0 id
   replace c1 := XR.out.cell c1 id
   replace c2 := XR.out.cell c2 id
   replace c3 := XR.out.cell c3 id
   replace c4 := XR.out.cell c4 id
   replace c5 := XR.out.cell c5 id
   replace c6 := XR.out.cell c6 id
   replace c7 := XR.out.cell c7 id
   obtain ⟨mm, emm⟩ : ∃ mm, mm = (aA l).length := ⟨_, rfl⟩
   rw [<- emm] at c2
   have hmm : mm ≤ 1048576 := by rw [emm]; exact HF.out.terms l (List.mem_of_getElem? hli)
   obtain ⟨k, ek⟩ : ∃ k, k = l.1 := ⟨_, rfl⟩
   rw [<- ek] at c0
   clear hltl hG hb
   obtain ⟨pl, epl⟩ : ∃ pl, aU l = pl := ⟨_, rfl⟩
   rw [epl] at c1
   have HT := qH (show ls.take (i + 1) = ls.take i ++ [l] from by rw [List.take_add_one, hli]; rfl)
   have HL := qH (And.intro hli (And.intro ek epl))
   clear hli ek epl emm hL hmm
   by_cases hk1 : k = 1
   ·subst hk1
    obtain ⟨z, ez⟩ : ∃ z, (dQ (bK E pl)).length = z := ⟨_, rfl⟩
    have hz16 : z ≤ 65536 := by rw [<- ez, oW]; exact HSm.out pl
    have hSz := HSz.out wr XR.out pl
    rw [ez] at hSz
    have HS := qH hSz
    have HZ := qH (show (bT (aO E) pl).length = z from by rw [<- oW]; exact ez)
    clear ez hSz
    go_wp2_with fail
    refine HS.out.mono ?_
    rintro e w2 ⟨v2, rfl, hk2, rfl⟩
    have X2 := qH (hex.out.trans hk2)
    have hmz : m * (1 + z) ≤ 20000 * 65537 := Nat.mul_le_mul hm (by omega)
    have hw1 : IntKind.i64.wrap ((1 : Int) + (z : Int)) = (1 : Int) + (z : Int) := IntWalk.i64_in _ (by omega)
    obtain ⟨q, eq⟩ : ∃ q, m * (1 + z) = q := ⟨_, rfl⟩
    have hqi : (m : Int) * (1 + (z : Int)) = (q : Int) := by rw [<- eq]; push_cast; rfl
    rw [eq] at hmz
    have hw2 : IntKind.i64.wrap ((m : Int) * (1 + (z : Int))) = (q : Int) := by rw [hqi]; exact IntWalk.i64_in _ (by omega)
    have HQ := qH eq
    clear hk2 eq hqi c0 c1 c2 c3 c4 c5 c6 c7 b2
    by_cases hq : 20000 < q
    ·have HFa := qH (show wP (aO E) ls = false from by
      have e1 : ls = ls.take (i + 1) ++ ls.drop (i + 1) := (List.take_append_drop _ _).symm
      have e2 : jI (aO E) (ls.take (i + 1)) 1 = none := by
       rw [HT.out, iR, hfe.out]
       show jI (aO E) [l] m = none
       unfold jI
       rw [if_pos HL.out.2.1.symm, HL.out.2.2, HZ.out, HQ.out, if_pos hq]
      unfold wP
      rw [e1, iR, e2]; rfl)
     have hq2 : (20000 : Int) < (q : Int) := by omega
     clear hq hz16 hmz
     go_wp2
     go_ret
     exact RetN.mk (H1.out.1.trans X2.out) (by rw [HFa.out]; rfl)
    ·have HFa := qH (show jI (aO E) (ls.take (i + 1)) 1 = some q from by
      rw [HT.out, iR, hfe.out]
      show jI (aO E) [l] m = some q
      unfold jI
      rw [if_pos HL.out.2.1.symm, HL.out.2.2, HZ.out, HQ.out, if_neg hq]
      rfl)
     have hq2 : ¬ (20000 : Int) < (q : Int) := by omega
     have hq3 : q ≤ 20000 := by omega
     clear hq hz16 hmz hm
     go_wp2
     go_roundw
     case rel => exact ⟨i + 1, q, by omega, by first | rfl | (congr 1; done) | (congr 1; omega), rfl, hq3, X2, HFa⟩
     case measure => simp [intOf]; omega
   ·have hk2 : (k == 1) = false := by simp [hk1]
    have HFa := qH (show jI (aO E) (ls.take (i + 1)) 1 = some m from by
     rw [HT.out, iR, hfe.out]
     show jI (aO E) [l] m = some m
     unfold jI
     rw [if_neg (fun e => hk1 (HL.out.2.1.trans e))]
     rfl)
    clear hk1
    go_wp2
    go_roundw
    case rel => exact ⟨i + 1, m, by omega, by first | rfl | (congr 1; done) | (congr 1; omega), rfl, hm, hex, HFa⟩
    case measure => simp [intOf]; omega
  ·obtain rfl : n = i := by omega
   have HFa := qH (show wP (aO E) ls = true from by
    have h := hfe.out
    rw [List.take_of_length_le (by rw [<- HN.out]; exact Nat.le_refl _)] at h
    unfold wP; rw [h]; rfl)
   go_wp2
   go_ret
   exact RetN.mk XR.out (by rw [HFa.out]; rfl)
end Go.Proofs.YtinnmeiphbdogaaGreat
/- The law of joins: few rows, few bindings: plain. -/
namespace Go.Proofs.YtinnmeiphbdogaaGreat
def uI (R : Nat -> aE) : List aJ -> Nat -> Nat
 | [], _ => 1
 | l :: rest, i => if l.1 = 1 then (1 + (R i).length) * uI R rest (i + 1) else uI R rest (i + 1)
theorem sG {α β : Type} {f : α -> List β} {m : Nat} : ∀ {L : List α}, (∀ x, (f x).length ≤ m) -> (L.flatMap f).length ≤ L.length * m
 | [], h => Nat.zero_le _
 | x :: L, h => by
  rw [List.flatMap_cons, List.length_append, List.length_cons, Nat.succ_mul]
  have h1 := sG (L := L) h
  have h2 := h x
  omega
theorem aC6 (e : dJ) (ts : List aF) (R : aE) : (cW e ts R).length ≤ R.length := by
 unfold cW
 refine Nat.le_trans (uP _) ?_
 exact List.length_filterMap_le _ _
theorem mO (all : List aJ) (R : Nat -> aE) : ∀ (rest : List aJ) (i : Nat) (e : dJ), (gS all R rest i e).length ≤ uI R rest i
 | [], i, e => by
  unfold gS uI
  split
  ·exact Nat.le_refl _
  ·exact Nat.zero_le _
 | l :: rest, i, e => by
  unfold gS uI
  split
  ·refine Nat.le_trans (sG fun q => mO all R rest (i + 1) _) (Nat.mul_le_mul_right _ ?_)
   have h1 := aC6 e (aA l) (jP (aA l) (R i))
   have h2 : (jP (aA l) (R i)).length ≤ (R i).length := List.length_filter_le _ _
   omega
  ·exact mO all R rest (i + 1) e
theorem zT {C : List bG} : ∀ {ls : List aJ} {n m : Nat}, n ≤ 20000 -> jI C ls n = some m -> m ≤ 20000
 | [], n, m, h, e => by cases e; exact h
 | l :: ls, n, m, h, e => by
  unfold jI at e
  split at e
  ·split at e
   ·cases e
   ·rename_i hq
    exact zT (Nat.not_lt.1 hq) e
  ·exact zT h e
end Go.Proofs.YtinnmeiphbdogaaGreat
/- The law of joins: JoinOrder: plain. -/
namespace Go.Proofs.YtinnmeiphbdogaaGreat
def Val (N V : List ByteArray) (s x : ByteArray) : Prop := ∃ v : Nat, N[v]? = some s /\ V[v]? = some x
structure SameV (N V N' V' : List ByteArray) : Prop where
 val : ∀ s x, Val N V s x ↔ Val N' V' s x
 mem : ∀ s, s ∈ N ↔ s ∈ N'
def fB (N : List ByteArray) (s : ByteArray) : Nat := N.findIdx fun u => decide (u = s)
theorem aBa {N : List ByteArray} {s : ByteArray} (h : s ∈ N) : N[fB N s]? = some s := by
 have hl : fB N s < N.length := List.findIdx_lt_length_of_exists ⟨s, h, decide_eq_true rfl⟩
 have h2 := List.findIdx_getElem (w := hl)
 rw [qG hl]
 exact congrArg some (of_decide_eq_true h2)
theorem aF8 {N : List ByteArray} {s : ByteArray} (h : ¬ s ∈ N) : fB N s = N.length :=
 List.findIdx_eq_length_of_false fun x hx => decide_eq_false fun e => h (e ▸ hx)
theorem wW {N V : List ByteArray} (hN : N.Nodup) {s x : ByteArray} (h : Val N V s x) : aY V (fB N s) = x := by
 obtain ⟨v, h1, h2⟩ := h
 have h3 := aBa (List.mem_of_getElem? h1)
 have hv : v < N.length := (List.getElem?_eq_some_iff.1 h1).1
 have : v = fB N s := (List.getElem?_inj hv hN).1 (h1.trans h3.symm)
 rw [<- this]
 unfold aY
 rw [List.getD_eq_getElem?_getD, h2]; rfl
theorem aH2 {N V : List ByteArray} (hV : V.length = N.length) {s : ByteArray} (h : s ∈ N) : Val N V s (aY V (fB N s)) := by
 have h3 := aBa h
 refine ⟨fB N s, h3, ?_⟩
 have hv := (List.getElem?_eq_some_iff.1 h3).1
 unfold aY
 rw [List.getD_eq_getElem?_getD, qG (by omega)]; rfl
theorem aFl {N V : List ByteArray} (hV : V.length = N.length) {s : ByteArray} (h : ¬ s ∈ N) : aY V (fB N s) = ByteArray.empty := by
 rw [aF8 h]
 unfold aY
 rw [List.getD_eq_getElem?_getD, List.getElem?_eq_none (by omega)]; rfl
theorem wX {N V N' V' : List ByteArray} (hN : N.Nodup) (hN' : N'.Nodup) (hV : V.length = N.length) (hV' : V'.length = N'.length) (h : SameV N V N' V') (t : aF) : kF N V t = kF N' V' t := by
 unfold kF
 by_cases h1 : t.1 = 1
 ·rw [if_pos h1, if_pos h1]
  show aY V (fB N t.2.1) = aY V' (fB N' t.2.1)
  by_cases hs : t.2.1 ∈ N
  ·exact (wW hN' ((h.val _ _).1 (aH2 hV hs))).symm
  ·rw [aFl hV hs, aFl hV' fun h2 => hs ((h.mem _).2 h2)]
 ·rw [if_neg h1, if_neg h1]
theorem yJ {N V N' V' : List ByteArray} (h : SameV N V N' V') (ts : List aF) (x : List ByteArray) : pA N V ts x ↔ pA N' V' ts x :=
 forall_congr' fun i => forall_congr' fun t => forall_congr' fun hi => and_congr_right fun _ => forall_congr' fun h1 => h.val _ _
theorem aD6 {N V N' V' : List ByteArray} (hN : N.Nodup) (hN' : N'.Nodup) (hV : V.length = N.length) (hV' : V'.length = N'.length) (h : SameV N V N' V') (R : aE) (l : aJ) : fD N V R l ↔ fD N' V' R l := by
 unfold fD
 split
 ·exact exists_congr fun x => and_congr_right fun _ => and_congr_right fun _ => yJ h _ x
 ·split
  ·exact not_congr (exists_congr fun x => and_congr_right fun _ => and_congr_right fun _ => yJ h _ x)
  ·rw [wX hN hN' hV hV' h, wX hN hN' hV hV' h]
def xT (N V N' : List ByteArray) : List ByteArray := N'.map fun s => aY V (fB N s)
theorem aGq {N V N' : List ByteArray} (hN : N.Nodup) (hV : V.length = N.length) (h : ∀ s, s ∈ N ↔ s ∈ N') : SameV N V N' (xT N V N') := by
 refine ⟨fun s x => ⟨fun hv => ?_, fun ⟨v, h1, h2⟩ => ?_⟩, h⟩
 ·have hs : s ∈ N := by obtain ⟨v, h1, _⟩ := hv; exact List.mem_of_getElem? h1
  obtain ⟨v, h1⟩ := List.mem_iff_getElem?.1 ((h s).1 hs)
  refine ⟨v, h1, ?_⟩
  unfold xT
  rw [List.getElem?_map, h1, Option.map_some, wW hN hv]
 ·unfold xT at h2
  rw [List.getElem?_map, h1, Option.map_some] at h2
  cases h2
  exact aH2 hV ((h s).2 (List.mem_of_getElem? h1))
def mQ (nm : ByteArray) (s : ByteArray) (p : ByteArray × ByteArray) : ByteArray := if p.1 = nm then s ++ p.2 ++ ⟨#[59]⟩ else s
def gD (N V : List ByteArray) (s nm : ByteArray) : ByteArray := (N.zip V).foldl (mQ nm) s
def fS (N V names : List ByteArray) : ByteArray := names.foldl (gD N V) ⟨#[]⟩
theorem tT {n v : ByteArray} {N V : List ByteArray} {s x : ByteArray} : Val (n :: N) (v :: V) s x ↔ n = s /\ v = x \/ Val N V s x := by
 constructor
 ·rintro ⟨k, h1, h2⟩
  cases k with
  | zero => simp at h1 h2; exact .inl ⟨h1, h2⟩
  | succ k => exact .inr ⟨k, by simpa using h1, by simpa using h2⟩
 ·rintro (⟨rfl, rfl⟩ | ⟨k, h1, h2⟩)
  ·exact ⟨0, rfl, rfl⟩
  ·exact ⟨k + 1, by simpa using h1, by simpa using h2⟩
theorem kL : ∀ (N V : List ByteArray) (s nm : ByteArray), (∀ x, ¬ Val N V nm x) -> gD N V s nm = s
 | [], V, s, nm, h => rfl
 | n :: N, [], s, nm, h => rfl
 | n :: N, v :: V, s, nm, h => by
  have h1 : ¬ n = nm := fun e => h v (tT.2 (.inl ⟨e, rfl⟩))
  show (N.zip V).foldl (mQ nm) (mQ nm s (n, v)) = s
  have e : mQ nm s (n, v) = s := if_neg h1
  rw [e]
  exact kL N V s nm fun x hx => h x (tT.2 (.inr hx))
theorem nY : ∀ (N V : List ByteArray) (s nm x : ByteArray), N.Nodup -> Val N V nm x -> gD N V s nm = s ++ x ++ ⟨#[59]⟩
 | [], V, s, nm, x, _, h => by obtain ⟨k, h1, _⟩ := h; simp at h1
 | n :: N, [], s, nm, x, _, h => by obtain ⟨k, _, h1⟩ := h; simp at h1
 | n :: N, v :: V, s, nm, x, hn, h => by
  rw [List.nodup_cons] at hn
  show (N.zip V).foldl (mQ nm) (mQ nm s (n, v)) = _
  rcases tT.1 h with ⟨rfl, rfl⟩ | h
  ·have e : mQ n s (n, v) = s ++ v ++ ⟨#[59]⟩ := if_pos rfl
   rw [e]
   exact kL N V _ n fun y hy => hn.1 (by obtain ⟨k, h1, _⟩ := hy; exact List.mem_of_getElem? h1)
  ·have e : mQ nm s (n, v) = s := if_neg fun e => by
    have e' : n = nm := e
    obtain ⟨k, h1, _⟩ := h
    rw [<- e'] at h1
    exact hn.1 (List.mem_of_getElem? h1)
   rw [e]
   exact nY N V s nm x hn.2 h
theorem aGb {N V N' V' : List ByteArray} (hN : N.Nodup) (hN' : N'.Nodup) (h : SameV N V N' V') (s nm : ByteArray) : gD N V s nm = gD N' V' s nm := by
 by_cases hx : ∃ x, Val N V nm x
 ·obtain ⟨x, hx⟩ := hx
  rw [nY N V s nm x hN hx, nY N' V' s nm x hN' ((h.val _ _).1 hx)]
 ·rw [kL N V s nm fun x h2 => hx ⟨x, h2⟩, kL N' V' s nm fun x h2 => hx ⟨x, (h.val _ _).2 h2⟩]
theorem aDi {N V N' V' : List ByteArray} (hN : N.Nodup) (hN' : N'.Nodup) (h : SameV N V N' V') (names : List ByteArray) : fS N V names = fS N' V' names := by
 unfold fS
 have e : gD N V = gD N' V' := funext fun s => funext fun nm => aGb hN hN' h s nm
 rw [e]
theorem xP {ls : List aJ} {s : ByteArray} : s ∈ aB ls ↔ ∃ l ∈ ls, l.1 = 1 /\ ∃ t ∈ aA l, t.1 = 1 /\ t.2.1 = s := by
 constructor
 ·intro h
  obtain ⟨v, hv⟩ := List.mem_iff_getElem?.1 h
  have hvl := (List.getElem?_eq_some_iff.1 hv).1
  obtain ⟨l, hl, h1, hva⟩ := jF hvl
  obtain ⟨_, i, t, hi, ht, he⟩ := cG.1 hva
  refine ⟨l, hl, h1, t, List.mem_of_getElem? hi, ht, ?_⟩
  rw [he]
  unfold aY
  rw [List.getD_eq_getElem?_getD, hv]; rfl
 ·rintro ⟨l, hl, h1, t, ht, h2, rfl⟩
  exact uW hl h1 ht h2
theorem sP {ls : List aJ} {C : List bG} {V : List ByteArray} : bS ls (gK C ls) V ↔ V.length = (aB ls).length /\ ∀ l ∈ ls, fD (aB ls) V (bT C (aU l)) l := by
 unfold bS
 refine and_congr_right fun _ => ⟨fun h l hl => ?_, fun h i l hi => ?_⟩
 ·obtain ⟨i, hi⟩ := List.mem_iff_getElem?.1 hl
  have h1 := h i l hi
  unfold gK at h1
  rw [hi] at h1; exact h1
 ·unfold gK
  rw [hi]
  exact h l (List.mem_of_getElem? hi)
section
variable {r r' : cK} {C : List bG}
theorem mS {ls ls' : List aJ} (hm : ∀ l, l ∈ ls' ↔ l ∈ ls) (s : ByteArray) : s ∈ aB ls ↔ s ∈ aB ls' := by
 rw [xP, xP]
 exact exists_congr fun l => and_congr_left fun _ => (hm l).symm
theorem aD8 {N N' : List ByteArray} (h : ∀ s, s ∈ N ↔ s ∈ N') (s : ByteArray) : jM N s = jM N' s := by
 rw [Bool.eq_iff_iff, bW, bW]; exact h s
theorem aCu {α : Type} {L L' : List α} (h : ∀ x, x ∈ L' ↔ x ∈ L) (p : α -> Bool) : L'.all p = L.all p := by
 rw [Bool.eq_iff_iff, List.all_eq_true, List.all_eq_true]
 exact ⟨fun k x hx => k x ((h x).2 hx), fun k x hx => k x ((h x).1 hx)⟩
theorem vZ (h : r'.1 = r.1) (hm : ∀ l, l ∈ r'.2.1 ↔ l ∈ r.2.1) : aS r' = aS r := by
 have hN := mS hm
 have e1 : cZ r' = cZ r := by unfold cZ; rw [h, aCu hm]
 have e2 : ∀ b, cA (aB r'.2.1) b = cA (aB r.2.1) b := fun b => funext fun t => by unfold cA; rw [aD8 hN]
 have e3 : dL (aB r'.2.1) = dL (aB r.2.1) := funext fun l => by unfold dL; rw [e2, e2]
 have e4 : jD r' = jD r := by unfold jD; rw [h, e2, e3, aCu hm]
 unfold aS
 rw [e1, e4]
theorem sO (hc : aS r = 0) {V : List ByteArray} : V ∈ bV r C ↔ bS r.2.1 (gK C r.2.1) V := by
 unfold bV
 rw [if_pos hc]
 exact (qL hc _).iff V
def dT (r : cK) (C : List bG) (names : List ByteArray) : List ByteArray := oX cQ ((bV r C).map fun V => fS (bL r) V names)
theorem oQ (hc : aS r = 0) : bL r = aB r.2.1 := by unfold bL; rw [if_pos hc]
theorem xL (hc : aS r = 0) (hc' : aS r' = 0) (hm : ∀ l, l ∈ r'.2.1 ↔ l ∈ r.2.1) (names : List ByteArray) {V : List ByteArray} (hV : V ∈ bV r C) : ∃ V' ∈ bV r' C, fS (bL r') V' names = fS (bL r) V names := by
 rw [sO hc, sP] at hV
 have hN := bE r.2.1
 have hN' := bE r'.2.1
 have hsm := aGq (N := aB r.2.1) (V := V) (N' := aB r'.2.1) hN hV.1 (mS hm)
 have hl : (xT (aB r.2.1) V (aB r'.2.1)).length = (aB r'.2.1).length := by unfold xT; rw [List.length_map]
 refine ⟨xT (aB r.2.1) V (aB r'.2.1), ?_, ?_⟩
 ·rw [sO hc', sP]
  exact ⟨hl, fun l hl2 => (aD6 hN hN' hV.1 hl hsm _ l).1 (hV.2 l ((hm l).1 hl2))⟩
 ·rw [oQ hc, oQ hc']
  exact (aDi hN hN' hsm names).symm
theorem aBf (h : r'.1 = r.1) (hm : ∀ l, l ∈ r'.2.1 ↔ l ∈ r.2.1) (names : List ByteArray) : dT r' C names = dT r C names := by
 have he := vZ h hm
 by_cases hc : aS r = 0
 ·have hc' : aS r' = 0 := he.trans hc
  refine aAr (Strict.new kU _) (Strict.new kU _) fun s => ?_
  unfold dT
  rw [xU, xU, List.mem_map, List.mem_map]
  constructor
  ·rintro ⟨V, hV, rfl⟩
   exact xL hc' hc (fun l => (hm l).symm) names hV
  ·rintro ⟨V, hV, rfl⟩
   exact xL hc hc' hm names hV
 ·have hc' : ¬ aS r' = 0 := fun e => hc (he.symm.trans e)
  unfold dT bV
  rw [if_neg hc, if_neg hc']; rfl
end
def dV (C : List bG) : List aJ -> Nat
 | [] => 1
 | l :: rest => if l.1 = 1 then (1 + (bT C (aU l)).length) * dV C rest else dV C rest
theorem gC (C : List bG) : ∀ a b : List aJ, dV C (a ++ b) = dV C a * dV C b
 | [], b => by show _ = 1 * _; rw [Nat.one_mul]; rfl
 | l :: a, b => by
  show (if l.1 = 1 then _ * dV C (a ++ b) else dV C (a ++ b)) = (if l.1 = 1 then _ * dV C a else dV C a) * dV C b
  rw [gC C a b]
  split
  ·rw [Nat.mul_assoc]
  ·rfl
theorem aDh (C : List bG) (a b : List aJ) : dV C (b ++ a) = dV C (a ++ b) := by rw [gC, gC, Nat.mul_comm]
theorem xI (C : List bG) : ∀ a : List aJ, dV C a.reverse = dV C a
 | [] => rfl
 | l :: a => by
  rw [List.reverse_cons, gC, xI C a, Nat.mul_comm, <- gC]; rfl
theorem uH {R : Nat -> aE} {C : List bG} : ∀ {rest : List aJ} {i : Nat}, (∀ (j : Nat) (l : aJ), rest[j]? = some l -> (R (i + j)).length ≤ (bT C (aU l)).length) -> uI R rest i ≤ dV C rest
 | [], i, h => Nat.le_refl _
 | l :: rest, i, h => by
  have ht : ∀ (j : Nat) (l' : aJ), rest[j]? = some l' -> (R (i + 1 + j)).length ≤ (bT C (aU l')).length := fun j l' hj => by
   have := h (j + 1) l' (by simpa using hj)
   rw [show i + (j + 1) = i + 1 + j by omega] at this; exact this
  have h0 := h 0 l rfl
  rw [Nat.add_zero] at h0
  unfold uI dV
  split
  ·exact Nat.mul_le_mul (by omega) (uH ht)
  ·exact uH ht
theorem kV (r : cK) (C : List bG) : (bV r C).length ≤ dV C r.2.1 := by
 unfold bV
 split
 ·refine Nat.le_trans (mO r.2.1 (gK C r.2.1) r.2.1 0 ([], [])) (uH fun j l hj => ?_)
  rw [Nat.zero_add]
  unfold gK
  rw [hj]; exact Nat.le_refl _
 ·exact Nat.zero_le _
theorem rG {C : List bG} : ∀ {ls : List aJ} {n m : Nat}, jI C ls n = some m -> n * dV C ls ≤ m
 | [], n, m, e => by cases e; show n * 1 ≤ n; omega
 | l :: ls, n, m, e => by
  unfold jI at e
  unfold dV
  split at e
  ·rename_i h1
   rw [if_pos h1]
   split at e
   ·cases e
   ·have h2 := rG e
    rw [Nat.mul_assoc] at h2; exact h2
  ·rename_i h1
   rw [if_neg h1]
   exact rG e
theorem qA {C : List bG} {ls : List aJ} (h : wP C ls = true) : dV C ls ≤ 20000 := by
 unfold wP at h
 obtain ⟨m, hm⟩ := Option.isSome_iff_exists.1 h
 have h1 := rG hm
 have h2 := zT (by decide) hm
 omega
end Go.Proofs.YtinnmeiphbdogaaGreat
