/- Texts joined for a claim (Each, JoinHead, HeadWalk, FactsAux, FactsPlain, FactsRound, Facts, JOwnA, JoinSmall, JColl, JOwnR, JOwnM, JOwnI, JOwnF, JOwnG, JOwnS, RefEnv, RefVal, JRefHead, JOwnT, JEach, JPut, JLent, RowSame). -/
import Derived.Test.YtinnmeiphbdogaaGreatOw7
import Derived.Laws.Concat
import Derived.Laws.IdiomStrings
set_option linter.unusedVariables false
set_option linter.unusedSimpArgs false
/- join: Each: the bindings of a rule over one base. -/
namespace Go.Proofs.YtinnmeiphbdogaaGreat
open Go.RowKit Go.Shelf
attribute [local go_sem] Oper.semAt_some
theorem rD : cO Tryz.prog 64 29 1 8 (.pointer none) := ⟨by kernel_rfl, by kernel_rfl, rfl, by decide⟩
theorem mul_any (n : Nat) (hn : n ≤ 1048576) (w : World) : Calls Tryz.prog 131 #[.int .u64 (1 : Nat), .int .u64 (n : Nat)] w fun e w' => e = .returned (.tuple #[.int .u64 0, .int .u64 (n : Nat)]) /\ w' = w := by
 refine (Tryz.bits_Mul 1 n (by omega) (by omega) w).mono ?_
 rintro e w' ⟨rfl, rfl⟩
 have h1 : 1 * n / 18446744073709551616 = 0 := Nat.div_eq_of_lt (by omega)
 have h2 : 1 * n % 18446744073709551616 = n := by rw [Nat.one_mul]; exact Nat.mod_eq_of_lt (by omega)
 rw [h1, h2]
 exact ⟨rfl, rfl⟩
def aJh (w0 : World) (g n : Nat) (bv : Value) (kv : Value) (W : World) : Prop := ∃ k : Nat, k ≤ n /\ (n = 0 \/ 0 < k) /\ kv = .int .i64 k /\ Hid (Ext w0 W) /\ Hid (Blk W g (List.replicate k bv ++ List.replicate (n - k) (.pointer none)) 29)
set_option maxRecDepth 100000 in
set_option maxHeartbeats 2000000 in
theorem aCy {w : World} {o : Option Addr} {xa : Option Addr} {xc n : Nat} (hx : CellsAt w xa [.pointer o]) (hn : n ≤ 1048576) :
 Calls Tryz.prog 92 #[.slice xa 1 xc, .int .i64 n] w (RetN w fun w' v => ∃ ao cap, v = .slice ao n cap /\ CellsAt w' ao (List.replicate n (.pointer o))) := by
 have HX := qH hx
 have hm := mul_any n hn w
 have HMu := qH hm
 have hmk := iU (P := Tryz.prog) rD (c := .pointer none) rfl n (by omega) (by unfold maxLen; omega) w
 rw [Nat.mul_one] at hmk
 obtain ⟨g, eg⟩ : ∃ x, w.heap.size = x := ⟨_, rfl⟩
 obtain ⟨w1, e1⟩ : ∃ x, w.alloc (.cells (Array.replicate n (.pointer none)) 29) = x := ⟨_, rfl⟩
 have hB1 : Blk w1 g (List.replicate n (.pointer none)) 29 := by
  have h := Blk.new w (List.replicate n (.pointer none)) 29
  rw [List.toArray_replicate, e1, eg] at h
  exact h
 have x1 : Ext w w1 := by rw [<- e1]; exact (Kp.refl w).alloc _
 obtain ⟨w2, hrun, hk2, hB2⟩ := nQ (P := Tryz.prog) rD hB1 (off := 0) (dp := some ⟨g, 0, none⟩) (dLen := n) (dCap := n) (sp := xa) (sLen := 1) (sCap := xc) (cs := List.replicate (Nat.min 1 n) (.pointer o)) (by simp) (fun _ => rfl) (fun j u hu => by
  have hj := (List.getElem?_eq_some_iff.1 hu).1
  rw [List.length_replicate] at hj
  have hj1 : j < 1 := Nat.lt_of_lt_of_le hj (Nat.min_le_left _ _)
  rw [List.getElem?_replicate, if_pos hj] at hu
  obtain rfl : j = 0 := by omega
  exact (hx.ext x1) 0 u (by cases hu; rfl)) (by simp [List.length_replicate]; exact Nat.min_le_right _ _) (fun u hu => by rw [List.eq_of_mem_replicate hu]; rfl)
 have n0 : ¬ (n : Int) < 0 := by omega
 have n1 : ¬ (9223372036854775807 : Int) < (n : Int) := by omega
 have hlen : (List.replicate (Nat.min 1 n) (Value.pointer o)).length = Nat.min 1 n := List.length_replicate
 obtain ⟨k0, ek0⟩ : ∃ k, Nat.min 1 n = k := ⟨_, rfl⟩
 rw [ek0] at hrun hB2 hlen
 rw [hlen] at hrun
 have hk0 : k0 ≤ n /\ (n = 0 \/ 0 < k0) /\ (n = 0 -> k0 = 0) /\ (0 < n -> k0 = 1) := by rw [<- ek0]; simp only [Nat.min_def]; split <;> omega
 have hB2' : Blk w2 g (List.replicate k0 (.pointer o) ++ List.replicate (n - k0) (.pointer none)) 29 := by
  have e : splice (List.replicate n (Value.pointer none)) 0 (List.replicate k0 (Value.pointer o)) = List.replicate k0 (.pointer o) ++ List.replicate (n - k0) (.pointer none) := by
   unfold splice
   simp
  rw [e] at hB2; exact hB2
 have HP := qH (show aJh w g n (.pointer o) (.int .i64 k0) w2 from ⟨k0, hk0.1, hk0.2.1, rfl, qH (x1.trans' hk2 fun i hi e => by have e' : i = g := e; omega), qH hB2'⟩)
 have hg : goInt (k0 : Nat) = .int .i64 (k0 : Nat) := rfl
 rw [hg] at hrun
 have HEG := qH eg
 clear hx hB1 x1 hk2 hB2 hB2' hm hlen ek0 hk0 hg
 go_enter Tryz.func92, Tryz.ntmps92
 go_wp2_with fail
 refine HMu.out.mono ?_
 rintro e w' ⟨rfl, rfl⟩
 go_wp2
 go_loopw [8] (fun kv wk => aJh w' g n (.pointer o) kv wk) (fun kv _ => n - (intOf kv).toNat)
 case atStart => exact HP.out
 case round =>
  clear HP hrun
  obtain ⟨k, hk, hk0, rfl, hex, hb⟩ := hrel
  by_cases hlt : k < n
  ·have hkp : 0 < k := by omega
   obtain ⟨j, ej⟩ : ∃ j, Nat.min k (n - k) = j := ⟨_, rfl⟩
   have hj1 : j ≤ k := by rw [<- ej]; exact Nat.min_le_left _ _
   have hj2 : j ≤ n - k := by rw [<- ej]; exact Nat.min_le_right _ _
   have hj3 : 0 < j := by rw [<- ej]; simp only [Nat.min_def]; split <;> omega
   obtain ⟨W2, hrun2, hk3, hB3⟩ := nQ (P := Tryz.prog) rD (hb.out.drew) (off := k) (dp := some ⟨g, k, none⟩) (dLen := n - k) (dCap := n - k) (sp := some ⟨g, 0, none⟩) (sLen := k) (sCap := n) (cs := List.replicate j (.pointer o)) (by rw [List.length_replicate, ej]) (fun _ => rfl) (fun i u hu => by
    have hi := (List.getElem?_eq_some_iff.1 hu).1
    rw [List.length_replicate] at hi
    rw [List.getElem?_replicate, if_pos hi] at hu
    refine ⟨g, 0, rfl, ?_⟩
    rw [hb.out.drew.cell', Nat.zero_add, List.getElem?_append_left (by rw [List.length_replicate]; omega), List.getElem?_replicate, if_pos (by omega)]
    exact hu) (by simp; omega) (fun u hu => by rw [List.eq_of_mem_replicate hu]; rfl)
   rw [List.length_replicate] at hrun2
   have hg : goInt (j : Nat) = .int .i64 (j : Nat) := rfl
   rw [hg] at hrun2
   have HNX := qH (show aJh w' g n (.pointer o) (.int .i64 ((k : Int) + (j : Int))) W2 from by
    refine ⟨k + j, by omega, .inr (by omega), by congr 1, qH (hex.out.trans' ((Ext.kp (Kp.refl wr).drew).trans hk3) fun i hi e => ?_), qH ?_⟩
    ·have e' : i = g := e
     have := HEG.out
     omega
    ·have e : splice (List.replicate k (.pointer o) ++ List.replicate (n - k) (Value.pointer none)) k (List.replicate j (.pointer o)) = List.replicate (k + j) (.pointer o) ++ List.replicate (n - (k + j)) (.pointer none) := by
      unfold splice
      rw [List.take_append_of_le_length (by simp), List.take_of_length_le (by simp), List.length_replicate, List.drop_append, List.drop_of_length_le (by simp), List.length_replicate, List.drop_replicate, List.nil_append, <- List.append_assoc, List.replicate_append_replicate]
      congr 2
      omega
     rw [e] at hB3
     exact hB3)
   have k1 : (k : Int) < (n : Int) := by omega
   have k2 : (k : Int) ≤ (n : Int) := by omega
   have k3 : ¬ n = k := by omega
   have rk : (n : Int) - k = ((n - k : Nat) : Int) := by omega
   have HJ := qH (And.intro hj1 (And.intro hj2 hj3))
   clear hex hb hk3 hB3 hg hk0 hk ej
   go_wp2
   refine aT (fun _ : World => True) [] (by kernel_rfl) trivial (fun hHeld => ?_)
   refine dF 0 ?_; try simp only [Act.put,sI,sZ,sS]
   refine dF 1 ?_; try simp only [Act.put,sI,sZ,sS]
   refine dF 2 ?_; try simp only [Act.put,sI,sZ,sS]
   refine dI 3 ?_; try simp only [Act.put,sI,sZ,sS]
   refine dF 4 ?_; try simp only [Act.put,sI,sZ,sS]
   refine dF 5 ?_; try simp only [Act.put,sI,sZ,sS]
   refine dI 6 ?_; try simp only [Act.put,sI,sZ,sS]
   refine aE (i := 7) ?_
   refine aF (i := 7) rfl (fun K hK => ?_)
   go_simp
   refine hK.out _ _ ?_ (fun hHeld => ?_)
   ·(try dsimp only); (first | done | trivial)
   clear hK K; (try simp only [Act.put,sI,sZ,sS])
   refine dF 8 ?_; try simp only [Act.put,sI,sZ,sS]
   refine dF 9 ?_; try simp only [Act.put,sI,sZ,sS]
   refine aK (by kernel_rfl) ?_ _
   clear hHeld
   have hw : IntKind.i64.wrap ((k : Int) + (j : Int)) = (k : Int) + (j : Int) := IntWalk.i64_in _ (by have := HJ.out; omega)
   go_wp2
   try rw [hw]
   go_roundw
   case rel => exact HNX.out
   case measure => have := HJ.out; simp [intOf]; omega
  ·obtain rfl : n = k := by omega
   have hB2 := hb.out
   rw [Nat.sub_self, List.replicate_zero, List.append_nil] at hB2
   have HR := qH (show Ext w' wr /\ CellsAt wr (some ⟨g, 0, none⟩) (List.replicate n (.pointer o)) from ⟨hex.out, CellsAt.pre (rest := []) (by rw [List.append_nil]; exact hB2)⟩)
   clear hex hb hB2 hk0 hk hlt
   go_wp2
   go_ret
   exact RetN.mk HR.out.1 ⟨_, _, rfl, HR.out.2⟩
def vP (ls : List aO) (E : List Ent) (j : Nat) : List Ent := if j < ls.length then E else []
set_option maxRecDepth 100000 in
set_option maxHeartbeats 2000000 in
theorem aBx {S : Nat -> Prop} {w : World} {p : ByteArray} {hs : List aG} {ls : List aO} {ha ba : Option Addr} {hn hcap n bcap : Nat} {G : Nat -> Prop} {o : Option Addr} {E : List Ent} {L : aD} (hhn : hn = hs.length) (hh : aW w G ha hs) (hhl : hn ≤ 1048576) (hbn : n = ls.length) (h : cK w G ba ls) (hf : Fit ls) (hnv : (aB ls).length ≤ 1048576) (hn16 : n ≤ 1048576)
 (hB : BaseV S w (.pointer o) E) (hL : lP ((p, hs, ()), ls, ()) (bI (vP ls E) ls) L) :
 Calls Tryz.prog 46 #[eF p ha hn hcap ba n bcap, .pointer o] w (RetN w fun w' v => aJn w w' L v) := by
 have HOv := qH (fun W (hW : Ext w W) (bsa : Option Addr) (bsc : Nat) (hbs : CellsAt W bsa (List.replicate n (.pointer o))) => aIc (w := W) (p := p) (hs := hs) (ls := ls) (ha := ha) (ba := ba) (bsa := bsa) (hn := hn) (hcap := hcap) (n := n) (bcap := bcap) (nb := n) (bsc := bsc) (G := G) (bvs := List.replicate n (.pointer o)) (Es := vP ls E) (L := L) hhn (hh.ext hW) hhl hbn (h.ext hW) hf hnv hn16 (by rw [List.length_replicate]) hbs (fun j => by
  unfold vP
  by_cases hj : j < n
  ·rw [List.getD_eq_getElem?_getD, List.getElem?_replicate, if_pos hj, if_pos (by omega)]
   exact ⟨S, hB.ext hW⟩
  ·rw [List.getD_eq_getElem?_getD, List.getElem?_replicate, if_neg hj, if_neg (by omega)]
   exact ⟨fun _ => False, BaseV.nil⟩) hL)
 have HN := qH hn16
 obtain ⟨gb, egb⟩ : ∃ g, w.heap.size = g := ⟨_, rfl⟩
 obtain ⟨w1, e1⟩ : ∃ x, w.alloc (.cells #[.string p, .slice ha hn hcap, .slice ba n bcap] 27) = x := ⟨_, rfl⟩
 have x1 : Ext w w1 := by rw [<- e1]; exact (Kp.refl w).alloc _
 have hB1 : Blk w1 gb [.string p, .slice ha hn hcap, .slice ba n bcap] 27 := by rw [<- e1, <- egb]; exact Blk.new w _ _
 have H1 := qH x1
 have HJ := qH (show ∀ w', Ext w1 w' -> (fun w' : World => w'.cell? ⟨gb, 0, none⟩ = some (.string p) /\ w'.cell? ⟨gb, 1, none⟩ = some (.slice ha hn hcap) /\ w'.cell? ⟨gb, 2, none⟩ = some (.slice ba n bcap)) w' from fun w' hw' => ⟨by rw [(hB1.ext hw').cell']; rfl, by rw [(hB1.ext hw').cell']; rfl, by rw [(hB1.ext hw').cell']; rfl⟩)
 clear hhn hh hhl hbn h hf hnv hB hL x1 hB1
 go_enter Tryz.func46, Tryz.ntmps46
 go_wp2
 clear e1 egb
 refine aT (fun w' : World => w'.cell? ⟨gb, 0, none⟩ = some (.string p) /\ w'.cell? ⟨gb, 1, none⟩ = some (.slice ha hn hcap) /\ w'.cell? ⟨gb, 2, none⟩ = some (.slice ba n bcap)) [7, 8] (by kernel_rfl) (HJ.out _ (Kp.refl w1).drew) (fun hHeld => ?_)
 refine dI 0 ?_; try simp only [Act.put,sI,sZ,sS]
 refine dF 1 ?_; try simp only [Act.put,sI,sZ,sS]
 refine dF 3 ?_; try simp only [Act.put,sI,sZ,sS]
 refine dI 4 ?_; try simp only [Act.put,sI,sZ,sS]
 refine dI 5 ?_; try simp only [Act.put,sI,sZ,sS]
 refine aE (i := 2) ?_
 refine aF (i := 2) rfl (fun K hK => ?_)
 go_simp
 refine hK.out _ _ ?_ (fun hHeld => ?_)
 ·(try dsimp only); (exact HJ.out _ (((Kp.refl w1).drew).alloc _))
 clear hK K; (try simp only [Act.put,sI,sZ,sS])
 refine aE (i := 6) ?_
 refine aF (i := 6) rfl (fun K hK => ?_)
 go_simp
 (refine (aCy (o := o) (CellsAt.one w1.drew (.pointer o) 29) HN.out).mono ?_; rintro e w4 ⟨v4, rfl, hk4, ao, cap, rfl, hcs⟩; have X1 := qH (And.intro (show Ext w1 w4 from (((Kp.refl w1).drew).alloc _).trans hk4) hcs); clear hk4 hcs)
 go_wp2_with fail
 refine hK.out _ _ ?_ (fun hHeld => ?_)
 ·(try dsimp only); (exact HJ.out _ X1.out.1)
 clear hK K; (try simp only [Act.put,sI,sZ,sS])
 refine aE (i := 7) ?_
 refine aI (i := 7) rfl (by kernel_rfl) (fun K hK => ?_)
 go_simp
 (refine (HOv.out w4 (H1.out.trans X1.out.1) ao cap X1.out.2).mono ?_; rintro e w5 ⟨v5, rfl, hk5, hbd⟩; have X2 := qH (And.intro hk5 hbd); clear hk5 hbd)
 go_wp2_with fail
 refine hK.out _ _ ?_
 clear hK K; (try simp only [Act.put,sI,sZ,sS])
 refine aE (i := 8) ?_
 refine aI (i := 8) rfl (by kernel_rfl) (fun K hK => ?_)
 go_simp
 refine hK.out _ _ ?_
 clear hK K; (try simp only [Act.put,sI,sZ,sS])
 refine aK (by kernel_rfl) ?_ _
 clear hHeld
 go_wp2
 go_ret
 have hx4 : Ext w w4 := H1.out.trans X1.out.1
 obtain ⟨xb, lo, hlo, ev, hseq⟩ := X2.out.2
 exact RetN.mk (hx4.trans X2.out.1) ⟨xb, lo, Nat.le_trans hx4.size hlo, ev, hseq⟩
end Go.Proofs.YtinnmeiphbdogaaGreat
/- A rule's head with a binding: plain. -/
namespace Go.Proofs.YtinnmeiphbdogaaGreat
def bS (N V : List ByteArray) (hs : List aG) : List ByteArray := hs.filterMap fun t => if t.1 = 3 then some t.2.1 else if t.1 = 1 then some (nZ N V t) else none
theorem aFu {r : cN} (h : bD r = 0) : ∀ t ∈ r.1.2.1, t.1 = 1 /\ t.2.1 ∈ aB r.2.1 \/ t.1 = 3 \/ 4 ≤ t.1 := fun t ht => by
 unfold bD at h
 split at h
 ·rename_i hp
  split at h
  ·rename_i hs
   unfold eU lH at hp
   unfold oL at hs
   rw [Bool.and_eq_true, Bool.and_eq_true, Bool.and_eq_true] at hp
   rw [Bool.and_eq_true] at hs
   have h1 := List.all_eq_true.1 hs.1 t ht
   have h2 := hp.1.1.1
   unfold kinds at h2
   have h3 := of_decide_eq_true (List.all_eq_true.1 h2 t ht)
   unfold dX at h1
   split at h1
   ·cases h1
   ·rename_i h4
    rcases of_decide_eq_true h1 with h5 | h5 | h5
    ·exact .inr (.inl h5)
    ·exact .inr (.inr (by omega))
    ·by_cases h6 : t.1 = 1
     ·exact .inl ⟨h6, cG.1 h5⟩
     ·by_cases h7 : t.1 = 3
      ·exact .inr (.inl h7)
      ·exact .inr (.inr (by omega))
  ·cases h
 ·cases h
end Go.Proofs.YtinnmeiphbdogaaGreat
/- join: Head: a rule's head with a binding. -/
namespace Go.Proofs.YtinnmeiphbdogaaGreat
open Go.RowKit Go.Shelf
attribute [local go_sem] Oper.semAt_some
def aKd (w0 : World) (N V : List ByteArray) (hs : List aG) (n : Nat) (ov jv : Value) (W : World) : Prop :=
 ∃ i : Nat, i ≤ n /\ jv = .int .i64 i /\ Hid (Ext w0 W) /\ Hid (Row W 9 1 ov (bS N V (hs.take i)).length (strs (bS N V (hs.take i))) (New w0))
theorem pA (N V : List ByteArray) {hs : List aG} {i : Nat} {t : aG} (h : hs[i]? = some t) : bS N V (hs.take (i + 1)) = bS N V (hs.take i) ++ (if t.1 = 3 then [t.2.1] else if t.1 = 1 then [nZ N V t] else []) := by
 unfold bS
 rw [List.take_add_one, h, List.filterMap_append]
 congr 1
 show List.filterMap _ [t] = _
 by_cases h1 : t.1 = 3
 ·simp [h1]
 ·by_cases h2 : t.1 = 1
  ·simp [h2]
  ·simp [h1, h2]
theorem xB (N V : List ByteArray) (hs : List aG) : (bS N V hs).length ≤ hs.length := List.length_filterMap_le _ _
def sX (r : cN) (V : List ByteArray) (w w' : World) (v : Value) : Prop :=
 (bD r = 0 /\ V.length = (aB r.2.1).length /\ ∃ ao cap, v = .tuple #[.slice ao (bS (aB r.2.1) V r.1.2.1).length cap, .int .i64 0] /\ CellsAt w' ao (strs (bS (aB r.2.1) V r.1.2.1)) /\ (bS (aB r.2.1) V r.1.2.1).length ≤ cap /\ (∀ a, ao = some a -> w.heap.size ≤ a.block) /\ cap = (bS (aB r.2.1) V r.1.2.1).length /\ OwnSl w w' (.slice ao (bS (aB r.2.1) V r.1.2.1).length cap) (bS (aB r.2.1) V r.1.2.1)) \/
 (¬ (bD r = 0 /\ V.length = (aB r.2.1).length) /\ v = .tuple #[.slice none 0 0, .int .i64 2])
set_option maxRecDepth 100000 in
set_option maxHeartbeats 4000000 in
theorem aGp {w : World} {p : ByteArray} {hs : List aG} {ls : List aO} {ha ba va : Option Addr} {hn hcap n bcap nb vc : Nat} {G : Nat -> Prop} {V : List ByteArray} (hhn : hn = hs.length) (hh : aW w G ha hs) (hhl : hn ≤ 1048576) (hbn : n = ls.length) (h : cK w G ba ls) (hf : Fit ls) (hnv : (aB ls).length ≤ 1048576) (hV : nb = V.length) (hVc : CellsAt w va (strs V)) (hvb : nb ≤ 1048576) :
 Calls Tryz.prog 25 #[eF p ha hn hcap ba n bcap, .slice va nb vc] w (RetN w fun w' v => sX ((p, hs, ()), ls, ()) V w w' v) := by
 have HCh := qH (fun W (hW : Ext w W) => check_any p hs ls ha hn hcap ba n bcap W G hhn (hh.ext hW) (by omega) hbn (h.ext hW) hf)
 have HVa := qH (fun W (hW : Ext w W) => tA p ha hn hcap ls ba n bcap W G hbn (h.ext hW) hf)
 have HT := qH (And.intro hhn hh)
 have HVc := qH (And.intro hV hVc)
 obtain ⟨cR, ecR⟩ : ∃ c, bD ((p, hs, ()), ls, ()) = c := ⟨_, rfl⟩
 rw [ecR] at HCh
 have HC := qH ecR
 obtain ⟨gb, egb⟩ : ∃ g, w.heap.size = g := ⟨_, rfl⟩
 obtain ⟨w1, e1⟩ : ∃ x, w.alloc (.cells #[.string p, .slice ha hn hcap, .slice ba n bcap] 27) = x := ⟨_, rfl⟩
 have x1 : Ext w w1 := by rw [<- e1]; exact (Kp.refl w).alloc _
 have hB1 : Blk w1 gb [.string p, .slice ha hn hcap, .slice ba n bcap] 27 := by rw [<- e1, <- egb]; exact Blk.new w _ _
 have H1 := qH (And.intro x1 hB1)
 have r0 : w1.cell? ⟨gb, 0, none⟩ = some (.string p) := by rw [hB1.cell']; rfl
 have r1 : w1.cell? ⟨gb, 1, none⟩ = some (.slice ha hn hcap) := by rw [hB1.cell']; rfl
 have r2 : w1.cell? ⟨gb, 2, none⟩ = some (.slice ba n bcap) := by rw [hB1.cell']; rfl
 clear hh hbn h hf hV hVc ecR x1 hB1 hhn
 go_enter Tryz.func25, Tryz.ntmps25
 go_wp2_with fail
 clear e1 egb
 refine (HVa.out w1 H1.out.1).mono ?_
 rintro e w2 ⟨v2, rfl, hk2, na, nc, rfl, hnc, hna⟩
 obtain ⟨nv, env⟩ : ∃ k, (aB ls).length = k := ⟨_, rfl⟩
 rw [env] at hnv ⊢
 have HEv := qH env
 have H2 := qH (And.intro (H1.out.1.trans hk2) (And.intro (H1.out.2.ext hk2) (And.intro hna env)))
 have q0 : w2.cell? ⟨gb, 0, none⟩ = some (.string p) := hk2.cell r0 id
 have q1 : w2.cell? ⟨gb, 1, none⟩ = some (.slice ha hn hcap) := hk2.cell r1 id
 have q2 : w2.cell? ⟨gb, 2, none⟩ = some (.slice ba n bcap) := hk2.cell r2 id
 clear hk2 r0 r1 r2 hnc hna env
 go_wp2_with fail
 refine (HCh.out w2 H2.out.1).mono ?_
 rintro e w3 ⟨v3, rfl, hk3, rfl⟩
 have H3 := qH (And.intro (H2.out.1.trans hk3) (And.intro (H2.out.2.1.ext hk3) (H2.out.2.2.1.ext hk3)))
 clear hk3 q0 q1 q2
 by_cases hc : cR = 0
 ·subst hc
  by_cases hl : nb = nv
  ·subst hl
   have u1 : w3.cell? ⟨gb, 1, none⟩ = some (.slice ha hn hcap) := by rw [H3.out.2.1.cell']; rfl
   go_wp2
   clear u1
   go_loopw [7, 26] (fun ov jv wk => aKd w3 (aB ls) V hs hn ov jv wk) (fun _ jv _ => hn - (intOf jv).toNat)
   case atStart => exact ⟨0, Nat.zero_le _, rfl, qH (Kp.refl _), qH (Row.nil _ _ _ _)⟩
   case round =>
    obtain ⟨i, hi, rfl, hex, hro⟩ := hrel
    obtain ⟨oa, oc, eov, hoc, hle⟩ := hro.out.shape
    subst eov
    by_cases hlt : i < hn
    ·obtain ⟨t, ht⟩ : ∃ t, hs[i]? = some t := ⟨_, qG (by rw [<- HT.out.1]; exact hlt)⟩
     obtain ⟨b, off, eha, f0, f1, -, -⟩ := gW (HT.out.2.ext (H3.out.1.trans hex.out)) ht
     subst eha
     obtain ⟨kt, st, ⟨⟩⟩ := t
     simp only at f0 f1
     have HTt := qH ht
     obtain ⟨bx, ebx⟩ : ∃ x, wr.heap.size = x := ⟨_, rfl⟩
     obtain ⟨W1, eW1⟩ : ∃ x, wr.alloc (.cells #[.int .i64 kt, .string st] 38) = x := ⟨_, rfl⟩
     have hBx : Blk W1 bx [.int .i64 kt, .string st] 38 := by rw [<- eW1, <- ebx]; exact Blk.new wr _ _
     have x1 : Ext wr W1 := by rw [<- eW1]; exact (Kp.refl wr).alloc _
     have g0 : W1.cell? ⟨bx, 0, none⟩ = some (.int .i64 kt) := by rw [hBx.cell']; rfl
     have g1 : W1.cell? ⟨bx, 1, none⟩ = some (.string st) := by rw [hBx.cell']; rfl
     have HX := qH (And.intro (hex.out.trans x1) (hro.out.ext x1))
     have hfew := xB (aB ls) V (hs.take i)
     rw [List.length_take] at hfew
     clear hBx x1 ht hoc hle hex hro hi
     by_cases h3 : kt = 3
     ·subst h3
      have HS := qH (pA (aB ls) V HTt.out)
      rw [if_pos rfl] at HS
      go_wp2_with (first | (at_builtin; refine Halted.out ?_))
      refine Halted.mk (gV fU rfl _ _ rfl (HX.out.1.alloc _) rfl (HX.out.2.alloc _) rfl (CellsAt.one W1 (.string st) 9) rfl (by simp; rfl) (by omega) (by unfold maxLen; omega) ?_)
      intro v6 w6 hr6 hk6 hk6b _
      obtain ⟨la, lcap, elv, _, _⟩ := hr6.shape
      subst elv
      have HF := qH (show Ext w3 w6 /\ Row w6 9 1 (.slice la ((bS (aB ls) V (hs.take i)).length + 1) lcap) (bS (aB ls) V (hs.take (i + 1))).length (strs (bS (aB ls) V (hs.take (i + 1)))) (New w3) from by
       refine ⟨hk6, ?_⟩
       rw [HS.out, List.length_append, List.length_singleton]
       have e : strs (bS (aB ls) V (hs.take i) ++ [st]) = strs (bS (aB ls) V (hs.take i)) ++ [.string st] := by simp [strs]
       rw [e]; exact hr6)
      clear hr6 hk6 hk6b
      go_wp2
      go_roundw
      case rel => exact ⟨i + 1, by omega, by first | rfl | (congr 1; done) | (congr 1; omega), qH HF.out.1, qH HF.out.2⟩
      case measure => simp [intOf]; omega
     ·have b3 : (kt == 3) = false := by simp [h3]
      by_cases h1 : kt = 1
      ·subst h1
       have hin : st ∈ aB ls := by
        rcases aFu (r := ((p, hs, ()), ls, ())) HC.out _ (List.mem_of_getElem? HTt.out) with h | h | h
        ·exact h.2
        ·cases h
        ·exact absurd (show (4 : Int) ≤ 1 from h) (by decide)
       obtain ⟨q, eq⟩ : ∃ q, (aB ls).findIdx (fun s => decide (s = st)) = q := ⟨_, rfl⟩
       have hqn : q < (aB ls).length := by
        have := (List.getElem?_eq_some_iff.1 (aDr hin)).1
        rw [eq] at this; exact this
       have hqb : q < V.length := by rw [<- HVc.out.1, <- HEv.out]; exact hqn
       obtain ⟨x, hx⟩ : ∃ x, V[q]? = some x := ⟨_, qG hqb⟩
       obtain ⟨vb, vo, eva, vc0⟩ := (HVc.out.2.ext (H3.out.1.trans HX.out.1)) q (.string x) (by simp [strs, hx])
       subst eva
       have HS := qH (pA (aB ls) V HTt.out)
       rw [if_neg h3, if_pos rfl, show nZ (aB ls) V ((1 : Int), st, ()) = x from by
        unfold nZ
        rw [if_pos rfl]
        show bE V ((aB ls).findIdx fun s => decide (s = st)) = x
        rw [eq]; exact bC hx] at HS
       have HIx := qH (show ∀ W, Ext w3 W -> Calls Tryz.prog 75 #[.slice na nb nc, .string st] W (RetN W fun w' v => v = .int .i64 (q : Nat)) from fun W hW => by
        have h := mV (aB ls) st na nb nc W HEv.out.symm (H3.out.2.2.ext hW) (by omega)
        have e : cH (fun s => decide (s = st)) (aB ls) = (q : Nat) := by
         unfold cH
         rw [if_pos (List.any_eq_true.2 ⟨st, hin, decide_eq_true rfl⟩), eq]
        rw [e] at h; exact h)
       have hqn2 : (q : Int) < (nb : Int) := by have := HVc.out.1; omega
       clear hin eq hqn hqb hx h3
       go_wp2_with fail
       refine (HIx.out W1 HX.out.1).mono ?_
       rintro e w5 ⟨v5, rfl, hk5, rfl⟩
       have v0 := hk5.cell vc0 id
       have HX5 := qH (And.intro (HX.out.1.trans hk5) (HX.out.2.ext hk5))
       clear hk5 vc0 eW1 g0 g1
       go_wp2_with (first | (at_builtin; refine Halted.out ?_))
       refine Halted.mk (gV fU rfl _ _ rfl (HX5.out.1.alloc _) rfl (HX5.out.2.alloc _) rfl (CellsAt.one w5 (.string x) 9) rfl (by simp; rfl) (by omega) (by unfold maxLen; omega) ?_)
       intro v6 w6 hr6 hk6 hk6b _
       obtain ⟨la, lcap, elv, _, _⟩ := hr6.shape
       subst elv
       have HF := qH (show Ext w3 w6 /\ Row w6 9 1 (.slice la ((bS (aB ls) V (hs.take i)).length + 1) lcap) (bS (aB ls) V (hs.take (i + 1))).length (strs (bS (aB ls) V (hs.take (i + 1)))) (New w3) from by
        refine ⟨hk6, ?_⟩
        rw [HS.out, List.length_append, List.length_singleton]
        have e : strs (bS (aB ls) V (hs.take i) ++ [x]) = strs (bS (aB ls) V (hs.take i)) ++ [.string x] := by simp [strs]
        rw [e]; exact hr6)
       clear hr6 hk6 hk6b
       go_wp2
       go_roundw
       case rel => exact ⟨i + 1, by omega, by first | rfl | (congr 1; done) | (congr 1; omega), qH HF.out.1, qH HF.out.2⟩
       case measure => simp [intOf]; omega
      ·have b1 : (kt == 1) = false := by simp [h1]
       have HS := qH (pA (aB ls) V HTt.out)
       rw [if_neg h3, if_neg h1, List.append_nil] at HS
       clear h3 h1
       go_wp2
       go_roundw
       case rel => exact ⟨i + 1, by omega, by first | rfl | (congr 1; done) | (congr 1; omega), qH HX.out.1, qH (by rw [HS.out]; exact HX.out.2)⟩
       case measure => simp [intOf]; omega
    ·obtain rfl : hn = i := by omega
     have hall : hs.take hn = hs := List.take_of_length_le (by rw [<- HT.out.1]; exact Nat.le_refl _)
     have hro2 := hro.out
     rw [hall] at hro2 hoc hle ⊢
     have HCl := qH (rE oa (bS (aB ls) V hs).length oc wr hle)
     have HR := qH (show Ext w wr /\ CellsAt wr oa (strs (bS (aB ls) V hs)) /\ (∀ a, oa = some a -> w.heap.size ≤ a.block) /\ OwnSl w wr (.slice oa (bS (aB ls) V hs).length oc) (bS (aB ls) V hs) from ⟨H3.out.1.trans hex.out, hoc, fun a e => by
      subst e
      have h1 : w3.heap.size ≤ a.block := hro2.block a.block rfl
      have h2 := H3.out.1.size
      omega, hro2.own'.old H3.out.1.size⟩)
     clear hex hro hro2 hoc hle hi hlt hall
     go_wp2_with fail
     refine HCl.out.mono ?_
     rintro e w5 ⟨v5, rfl, hk5, rfl⟩
     go_wp2
     go_ret2
     exact RetN.mk (HR.out.1.trans hk5) (.inl ⟨HC.out, by rw [<- HVc.out.1]; exact HEv.out.symm, _, _, rfl, HR.out.2.1.ext hk5, Nat.le_refl _, HR.out.2.2.1, rfl, (HR.out.2.2.2.ext hk5).clip⟩)
  ·have hnl : ((nb : Int) == (nv : Int)) = false := by simp; omega
   have HNl := qH (show ¬ (bD ((p, hs, ()), ls, ()) = 0 /\ V.length = (aB ls).length) from fun h => hl (by rw [HVc.out.1, <- HEv.out]; exact h.2))
   clear hl
   go_wp2
   go_ret2
   exact RetN.mk H3.out.1 (.inr ⟨HNl.out, rfl⟩)
 ·have hc' : ((cR : Int) == 0) = false := by simp; omega
  have HN := qH hc
  clear hc
  go_wp2
  go_ret2
  exact RetN.mk H3.out.1 (.inr ⟨fun h => HN.out (by rw [<- HC.out]; exact h.1), rfl⟩)
end Go.Proofs.YtinnmeiphbdogaaGreat
/- join: Facts: does a head ask for a sum? -/
namespace Go.Proofs.YtinnmeiphbdogaaGreat
open Go.RowKit Go.Shelf
attribute [local go_sem] Oper.semAt_some
end Go.Proofs.YtinnmeiphbdogaaGreat
/- join: Facts: rows that are added one by one: plain. -/
namespace Go.Proofs.YtinnmeiphbdogaaGreat
end Go.Proofs.YtinnmeiphbdogaaGreat
/- join: Facts: a round of its range over the bindings. -/
namespace Go.Proofs.YtinnmeiphbdogaaGreat
open Go.RowKit Go.Shelf
attribute [local go_sem] Oper.semAt_some
end Go.Proofs.YtinnmeiphbdogaaGreat
/- join: Facts. -/
namespace Go.Proofs.YtinnmeiphbdogaaGreat
open Go.RowKit Go.Shelf
attribute [local go_sem] Oper.semAt_some
structure FactsAt (w X : World) (gb b7 rb : Nat) (cs : List Value) : Prop where
 rule : Blk X gb cs 27
 r4 : Blk X (gb + 1) [.pointer none] 88
 r5 : Blk X (gb + 1 + 1) [.int .i64 0] 41
 rows : Blk X b7 [.pointer (some ⟨rb, 0, none⟩)] 88
 ext : Ext w X
 lt : gb + 1 + 1 < b7
theorem GvRow.put (T : Nat -> Prop) (W1 W2 : World) (x : XB) (l : Nat) (r o : Obj) (h : GvRow W1 T W2 x) (hr : W2.heap[l]? = some r) (hc : r.isCells = false) : GvRow (W1.putObj l o) T (W2.putObj l o) x := by
 refine ⟨h.1, ?_⟩
 rcases h.2 with h2 | ⟨g, rest, h1, h2, h3, h4⟩
 ·exact .inl h2
 ·refine .inr ⟨g, rest, h1, h2.kp (F := fun k => k = l) (Kp.putF (F := fun k => k = l) rfl _) (fun e => ?_), by rw [size_put]; exact h3, h4⟩
  have e' : g = l := e
  unfold Blk at h2
  rw [e', hr] at h2
  cases h2; cases hc
theorem GvRow.cells {W1 W2 : World} {T : Nat -> Prop} {xa : Option Addr} {xn xc : Nat} {V : List ByteArray} (h : GvRow W1 T W2 ((xa, xn, xc), V)) : (xn = V.length /\ xc = V.length) /\ CellsAt W2 xa (strs V) := by
 obtain ⟨h1, h2⟩ := h
 have h1' : (xn, xc) = (V.length, V.length) := h1
 refine ⟨⟨congrArg Prod.fst h1', congrArg Prod.snd h1'⟩, ?_⟩
 rcases h2 with ⟨e, e2⟩ | ⟨g, rest, e, hb, _⟩
 ·have e2' : V = [] := e2
  rw [e2']; exact CellsAt.nil _ _
 ·have e' : xa = some ⟨g, 0, none⟩ := e
  rw [e']; exact CellsAt.pre hb
end Go.Proofs.YtinnmeiphbdogaaGreat
/- Appending to a slice with nothing to spare makes new memory. Lists of texts, each in a block of its own. -/
namespace Go.Proofs.YtinnmeiphbdogaaGreat
open Go.RowKit Go.Shelf
theorem CellsAt.three (w : World) (x y z : Value) (e : TypeId) : CellsAt (w.alloc (.cells #[x, y, z] e)) (some ⟨w.heap.size, 0, none⟩) [x, y, z] := by
 have := Blk.new w [x, y, z] e
 exact CellsAt.pre (rest := []) this
theorem aAe {P : Program} {t e : TypeId} {k bytes : Nat} {z : Value} {w : World} (E : cO P t e k bytes z) (ty : TypeId) {ao : Option Addr} {n : Nat} {xs : List Value} (hx : xs.length = n * k) (hc : CellsAt w ao xs) (h0 : ao = none -> n = 0)
 {so : Option Addr} {m c : Nat} {news : List Value} (hl : news.length = m * k) (hs : CellsAt w so news) (hm : 0 < m) (hb : (n + m) * bytes ≤ 140737488355328) (h63 : n + m ≤ maxLen) :
 ∃ v' w', (Builtin.append_ #[t, t] ty #[.slice ao n n, .slice so m c]).run P w = .ok v' w' /\ Row w' e k v' (n + m) (xs ++ news) (New w) /\ Ext w w' := by
 have hne : news ≠ [] := by
  rintro rfl
  have h0 := Nat.mul_pos hm E.2.2.2
  simp only [List.length_nil] at hl; omega
 obtain ⟨b, off, rfl, hlt⟩ := hs.off hne
 have hsrc : ∀ j u, news[j]? = some u -> w.cell? ((⟨b, off, none⟩ : Addr).add j) = some u := fun j u hu => by
  obtain ⟨b', off', he, hc⟩ := hs j u hu
  cases he
  rw [Addr.add_lit]; exact hc
 obtain ⟨ht, hi, hz, hk⟩ := E
 obtain ⟨i, hi, hz1, hz2, hz3⟩ := info_parts hi
 have hsmall : n + m ≤ 9223372036854775807 := h63
 have grown : ∀ old, (w.drew.alloc (.cells (xs.toArray ++ news.toArray ++ Builtin.zeroCells z.cells (grownCap w (n + m) old e - (n + m))) e)).heap[w.heap.size]? =
  some (.cells ((xs ++ news) ++ (Builtin.zeroCells z.cells (grownCap w (n + m) old e - (n + m))).toList).toArray e (0, 0)) := fun old => by
  show (w.heap.push _)[w.heap.size]? = _
  simp
 have lens : ∀ old, ((xs ++ news) ++ (Builtin.zeroCells z.cells (grownCap w (n + m) old e - (n + m))).toList).length = grownCap w (n + m) old e * k := fun old => by
  have hge := grownCap_ge w (n + m) old e
  simp only [List.length_append, Array.length_toList, size_zeroCells, hz, hx, hl, <- Nat.add_mul]
  congr 1; omega
 cases ao with
 | none =>
  have hn0 := h0 rfl
  subst hn0
  have hx0 : xs = [] := List.eq_nil_of_length_eq_zero (by simpa using hx)
  subst hx0
  have hr := run_append_nil (P := P) w t ty e i z ht hi hz1 ⟨b, off, none⟩ m c news (by rw [hz2]; exact hl) hsrc (by omega) (by omega) (by rw [hz3]; simp only [Nat.zero_add] at hb; omega)
  refine ⟨_, _, hr, ?_, ⟨rfl, rfl, rfl, by simp, fun k hk _ => Below.heap_alloc w.drew _ k hk⟩⟩
  have h1 := grown 0
  have h2 := lens 0
  simp only [Nat.zero_add, List.nil_append, Array.empty_append] at h1 h2 ⊢
  exact ⟨hl, .inr ⟨_, _, _, rfl, Nat.le_refl _, h1, h2, grownCap_ge w m 0 e, grownCap_le_maxLen w m 0 e (by omega)⟩⟩
 | some a =>
  have holds : ∀ j u, xs[j]? = some u -> w.cell? (a.add j) = some u := fun j u hu => by
   obtain ⟨b', off', he, hc2⟩ := hc j u hu
   cases he
   rw [Addr.add_lit]; exact hc2
  have hr := run_append_grow (P := P) w t ty e i z ht hi hz1 a n n xs (by rw [hz2]; exact hx) holds ⟨b, off, none⟩ m c news (by rw [hz2]; exact hl) hsrc (by omega) (by omega) (by rw [hz3]; exact growslice_fits (by omega) hb)
  exact ⟨_, _, hr, ⟨by rw [List.length_append, hx, hl, Nat.add_mul], .inr ⟨_, _, _, rfl, Nat.le_refl _, grown n, lens n, grownCap_ge w (n + m) n e, grownCap_le_maxLen w (n + m) n e (by omega)⟩⟩, ⟨rfl, rfl, rfl, by simp, fun k hk _ => Below.heap_alloc w.drew _ k hk⟩⟩
theorem aCh {P : Program} {t e : TypeId} {k bytes : Nat} {z : Value} {w : World} (E : cO P t e k bytes z) {ops : Array Oper} {rest : List Oper} {o : Oper} {a : Act} {Q : Exit -> Act -> World -> Prop} (hgd : o.guard = none) (s x : Operand)
 (ho : o.op = .call { callee := .builtin .append, args := #[s, x], argTypes := #[t, t] })
 {ao : Option Addr} {n : Nat} {xs : List Value} (hs : a.eval s = .slice ao n n) (hc : CellsAt w ao xs) (hx : xs.length = n * k) (h0 : ao = none -> n = 0)
 {so : Option Addr} {m c : Nat} {news : List Value} (hsx : a.eval x = .slice so m c) (hsrc : CellsAt w so news) (hl : news.length = m * k) (hm : 0 < m)
 (hb : (n + m) * bytes ≤ 140737488355328) (h63 : n + m ≤ maxLen)
 (h : ∀ v' w', Row w' e k v' (n + m) (xs ++ news) (New w) -> Ext w w' -> wpList P ops Q rest (a.put o.dst v') w') : wpList P ops Q (o :: rest) a w := by
 refine wpList_plain hgd fun K hK => ?_
 obtain ⟨v', w', hrun, h2, h3⟩ := aAe (P := P) E o.type hx hc h0 hl hsrc hm hb h63 (c := c)
 unfold Oper.wp execOp
 simp only [ho, resolve, invoke, builtin, Sem.run_bind, Sem.run_pure, Result.andThen_ok, List.map_toArray, List.map_cons, List.map_nil, hs, hsx, hrun]
 exact hK _ _ (h v' w' h2 h3)
abbrev SlZ := Option Addr × Nat × Nat
def slV (q : SlZ) : Value := .slice q.1 q.2.1 q.2.2
structure ListsO (W : World) (M : Nat -> Prop) (N : Nat) (vs : Nat -> SlZ) (gb : Nat -> Nat) (C : Nat -> List ByteArray) : Prop where
 len : ∀ i, i < N -> (vs i).2 = ((C i).length, (C i).length)
 blk : ∀ i, i < N -> ((vs i).1 = none /\ C i = []) \/ ((vs i).1 = some ⟨gb i, 0, none⟩ /\ M (gb i) /\ ∃ rest, Blk W (gb i) (strs (C i) ++ rest) 9)
 far : ∀ i j, i < N -> j < N -> i ≠ j -> (vs i).1 ≠ none -> (vs j).1 ≠ none -> gb i ≠ gb j
section
variable {W W' : World} {M F : Nat -> Prop} {N : Nat} {vs : Nat -> SlZ} {gb : Nat -> Nat} {C : Nat -> List ByteArray}
theorem ListsO.nil (W : World) (M : Nat -> Prop) (vs : Nat -> SlZ) (gb : Nat -> Nat) (C : Nat -> List ByteArray) : ListsO W M 0 vs gb C := ⟨fun i h => by omega, fun i h => by omega, fun i j h => by omega⟩
theorem ListsO.kp' (h : ListsO W M N vs gb C) (hk : Kp F W W') (hF : ∀ i, i < N -> (vs i).1 = some ⟨gb i, 0, none⟩ -> ¬ F (gb i)) {M' : Nat -> Prop} (hM : ∀ i, i < N -> (vs i).1 = some ⟨gb i, 0, none⟩ -> M (gb i) -> M' (gb i)) : ListsO W' M' N vs gb C :=
 ⟨h.len, fun i hi => by
  rcases h.blk i hi with h1 | ⟨h1, h2, rest, h3⟩
  ·exact .inl h1
  ·exact .inr ⟨h1, hM i hi h1 h2, rest, h3.kp hk (hF i hi h1)⟩, h.far⟩
theorem ListsO.ext (h : ListsO W M N vs gb C) (hk : Ext W W') : ListsO W' M N vs gb C := h.kp' hk (fun _ _ _ => id) fun _ _ _ => id
theorem ListsO.lt (h : ListsO W M N vs gb C) {i : Nat} (hi : i < N) (ha : (vs i).1 = some ⟨gb i, 0, none⟩) : gb i < W.heap.size /\ M (gb i) /\ fK W (gb i) := by
 rcases h.blk i hi with ⟨h1, _⟩ | ⟨_, h2, rest, h3⟩
 ·rw [h1] at ha; cases ha
 ·exact ⟨h3.lt, h2, _, h3, rfl⟩
theorem ListsO.cells (h : ListsO W M N vs gb C) {i : Nat} (hi : i < N) : CellsAt W (vs i).1 (strs (C i)) := by
 rcases h.blk i hi with ⟨h1, h2⟩ | ⟨h1, _, rest, h3⟩
 ·rw [h2]; exact CellsAt.nil _ _
 ·rw [h1]; exact CellsAt.pre h3
theorem ListsO.none (h : ListsO W M N vs gb C) {i : Nat} (hi : i < N) (hn : (vs i).1 = none) : (C i).length = 0 := by
 rcases h.blk i hi with ⟨h1, h2⟩ | ⟨h1, _⟩
 ·rw [h2]; rfl
 ·rw [hn] at h1; cases h1
theorem ListsO.push (h : ListsO W M N vs gb C) {v : SlZ} {ss : List ByteArray} (hv : v.2 = (ss.length, ss.length)) (hb : (v.1 = Option.none /\ ss = []) \/ ∃ g rest, v.1 = some ⟨g, 0, Option.none⟩ /\ M g /\ Blk W g (strs ss ++ rest) 9 /\ ∀ i, i < N -> (vs i).1 ≠ Option.none -> gb i ≠ g) :
 ListsO W M (N + 1) (bP vs N v) (fun j => if j = N then ((v.1.map (·.block)).getD 0) else gb j) (fun j => if j = N then ss else C j) := by
 refine ⟨fun i hi => ?_, fun i hi => ?_, fun i j hi hj hne h1 h2 => ?_⟩
 ·unfold bP
  by_cases e : i = N
  ·rw [if_pos e, if_pos e]; exact hv
  ·rw [if_neg e, if_neg e]; exact h.len i (by omega)
 ·unfold bP
  by_cases e : i = N
  ·rw [if_pos e, if_pos e, if_pos e]
   rcases hb with hb | ⟨g, rest, b1, b2, b3, _⟩
   ·exact .inl hb
   ·rw [b1]; exact .inr ⟨rfl, b2, rest, b3⟩
  ·rw [if_neg e, if_neg e, if_neg e]; exact h.blk i (by omega)
 ·have key : ∀ i, i < N + 1 -> i ≠ N -> bP vs N v i = vs i := fun i _ e => by unfold bP; rw [if_neg e]
  have kN : bP vs N v N = v := by unfold bP; rw [if_pos rfl]
  by_cases ei : i = N
  ·have ej : j ≠ N := fun e => hne (ei.trans e.symm)
   rw [if_pos ei, if_neg ej]
   rw [ei, kN] at h1
   rw [key j hj ej] at h2
   rcases hb with hb | ⟨g, rest, b1, _, _, b4⟩
   ·exact absurd hb.1 h1
   ·rw [b1]; exact fun e => b4 j (by omega) h2 e.symm
  ·by_cases ej : j = N
   ·rw [if_neg ei, if_pos ej]
    rw [ej, kN] at h2
    rw [key i hi ei] at h1
    rcases hb with hb | ⟨g, rest, b1, _, _, b4⟩
    ·exact absurd hb.1 h2
    ·rw [b1]; exact b4 i (by omega) h1
   ·rw [if_neg ei, if_neg ej]
    rw [key i hi ei] at h1
    rw [key j hj ej] at h2
    exact h.far i j (by omega) (by omega) hne h1 h2
theorem ListsO.put (h : ListsO W M N vs gb C) {i k : Nat} (hi : i < N) (hk : k < (C i).length) (s : ByteArray) :
 (vs i).1 = some ⟨gb i, 0, Option.none⟩ /\ M (gb i) /\ W.frozen? ⟨gb i, k, Option.none⟩ = false /\ ListsO (W.setCell ⟨gb i, k, Option.none⟩ (.string s)) M N vs gb (fun j => if j = i then (C i).set k s else C j) := by
 have hb0 := h.blk i hi
 rcases hb0 with ⟨_, h2⟩ | ⟨h1, h2, rest, h3⟩
 ·rw [h2] at hk; exact absurd hk (by simp)
 refine ⟨h1, h2, h3.free k, ⟨fun j hj => ?_, fun j hj => ?_, h.far⟩⟩
 ·by_cases e : j = i
  ·subst e
   show _ = ((if j = j then (C j).set k s else C j).length, (if j = j then (C j).set k s else C j).length)
   rw [if_pos rfl, List.length_set]; exact h.len j hj
  ·show _ = ((if j = i then (C i).set k s else C j).length, (if j = i then (C i).set k s else C j).length)
   rw [if_neg e]; exact h.len j hj
 ·by_cases e : j = i
  ·subst e
   refine .inr ⟨h1, h2, rest, ?_⟩
   have h4 := h3.set k (.string s)
   rw [List.set_append_left _ _ (by rw [eA]; exact hk)] at h4
   show Blk _ _ (strs (if j = j then (C j).set k s else C j) ++ rest) _
   rw [if_pos rfl]
   unfold strs at h4 ⊢
   rw [List.map_set]
   exact h4
  ·show ((vs j).1 = Option.none /\ (if j = i then (C i).set k s else C j) = []) \/ _
   rw [if_neg e]
   rcases h.blk j hj with h5 | ⟨h5, h6, rest', h7⟩
   ·exact .inl h5
   ·refine .inr ⟨h5, h6, rest', h7.other (fun e2 => ?_) _⟩
    exact h.far j i hj hi e (by rw [h5]; simp) (by rw [h1]; simp) e2
theorem ListsO.push2 (h : ListsO W M N vs gb C) {s s' m : Nat} (hs : ∀ i, i < N -> (vs i).1 ≠ Option.none -> gb i < s) (hss : s ≤ s') (hm : ∀ i, i < N -> (C i).length ≤ m) {a : Option Addr} {ss : List ByteArray} (hb : (a = Option.none /\ ss = []) \/ ∃ g rest, a = some ⟨g, 0, Option.none⟩ /\ M g /\ Blk W g (strs ss ++ rest) 9 /\ s ≤ g /\ g < s') (hl : ss.length ≤ m) :
 ∃ gb' C', ListsO W M (N + 1) (bP vs N (a, ss.length, ss.length)) gb' C' /\ (∀ i, i < N + 1 -> (bP vs N (a, ss.length, ss.length) i).1 ≠ Option.none -> gb' i < s') /\ ∀ i, i < N + 1 -> (C' i).length ≤ m := by
 refine ⟨_, _, h.push (v := (a, ss.length, ss.length)) (ss := ss) rfl ?_, fun i hi hn => ?_, fun i hi => ?_⟩
 ·rcases hb with hb | ⟨g, rest, h1, h2, h3, h4, h5⟩
  ·exact .inl hb
  ·exact .inr ⟨g, rest, h1, h2, h3, fun i hi hn e => by have := hs i hi hn; omega⟩
 ·by_cases e : i = N
  ·subst e
   rw [upd_same] at hn
   rcases hb with hb | ⟨g, rest, h1, h2, h3, h4, h5⟩
   ·exact absurd hb.1 hn
   ·show (if i = i then ((a.map (·.block)).getD 0) else gb i) < s'
    rw [if_pos rfl, h1]; exact h5
  ·have e2 : bP vs N (a, ss.length, ss.length) i = vs i := if_neg e
   rw [e2] at hn
   show (if i = N then ((a.map (·.block)).getD 0) else gb i) < s'
   rw [if_neg e]
   exact Nat.lt_of_lt_of_le (hs i (by omega) hn) hss
 ·show (if i = N then ss else C i).length ≤ m
  by_cases e : i = N
  ·rw [if_pos e]; exact hl
  ·rw [if_neg e]; exact hm i (by omega)
theorem iD (vs : Nat -> SlZ) (N : Nat) (q : SlZ) : ((List.range (N + 1)).map fun j => slV (bP vs N q j)) = ((List.range N).map fun j => slV (vs j)) ++ [slV q] := by
 rw [List.range_succ, List.map_append, List.map_singleton, upd_same]
 congr 1
 refine List.map_congr_left fun j hj => ?_
 have := List.mem_range.1 hj
 unfold bP; rw [if_neg (by omega)]
end
end Go.Proofs.YtinnmeiphbdogaaGreat
/- The constants of bindings are small; a binding as one text: plain. -/
namespace Go.Proofs.YtinnmeiphbdogaaGreat
theorem aDs {x : List ByteArray} {i : Nat} (h : bO x = true) : (bE x i).size ≤ 4096 := by
 unfold bE
 rw [List.getD_eq_getElem?_getD]
 cases hx : x[i]? with
 | none => show ByteArray.empty.size ≤ 4096; exact Nat.zero_le _
 | some s =>
  unfold bO at h
  exact of_decide_eq_true (List.all_eq_true.1 h s (List.mem_of_getElem? hx))
theorem aEc {ls : List aO} {R : Nat -> aD} {V : List ByteArray} (hV : cE ls R V) (hR : ∀ j x, x ∈ R j -> bO x = true) : ∀ s ∈ V, s.size ≤ 4096 := fun s hs => by
 obtain ⟨v, hv⟩ := List.mem_iff_getElem?.1 hs
 have hvl := (List.getElem?_eq_some_iff.1 hv).1
 rw [hV.1] at hvl
 obtain ⟨l, hl, h1, hva⟩ := mN hvl
 obtain ⟨j, hj⟩ := List.mem_iff_getElem?.1 hl
 have hh := hV.2 j l hj
 unfold lG at hh
 rw [if_pos h1] at hh
 obtain ⟨x, hx, -, hf⟩ := hh
 obtain ⟨hvn, i, t, hi, ht, he⟩ := cF.1 hva
 obtain ⟨v', hv', e'⟩ := (hf i t hi).2 ht
 have hv0 : (aB ls)[v]? = some (bE (aB ls) v) := by unfold bE; rw [List.getD_eq_getElem?_getD, qG hvn]; rfl
 rw [he] at hv'
 have : v = v' := (List.getElem?_inj hvn (bQ ls)).1 (hv0.trans hv'.symm)
 subst this
 rw [hv] at e'
 cases e'
 exact aDs (hR j x hx)
def iV (V : List ByteArray) : ByteArray := V.foldl (fun s x => s ++ x ++ ⟨#[59]⟩) ⟨#[]⟩
theorem aDn (V : List ByteArray) (x : ByteArray) : iV (V ++ [x]) = iV V ++ x ++ ⟨#[59]⟩ := by unfold iV; rw [List.foldl_append]; rfl
theorem uJ {V : List ByteArray} {i : Nat} {x : ByteArray} (h : V[i]? = some x) : iV (V.take (i + 1)) = iV (V.take i) ++ x ++ ⟨#[59]⟩ := by
 rw [List.take_add_one, h]; exact aDn _ _
theorem aBa {V : List ByteArray} (h : ∀ s ∈ V, s.size ≤ 4096) (i : Nat) : (iV (V.take i)).size ≤ i * 4097 := by
 induction i with
 | zero => exact Nat.zero_le _
 | succ i ih =>
  rw [Nat.succ_mul]
  generalize i * 4097 = m at ih ⊢
  cases hx : V[i]? with
  | none =>
   rw [List.take_add_one, hx, Option.toList_none, List.append_nil]
   exact Nat.le_trans ih (Nat.le_add_right _ _)
  | some x =>
   have h2 := h x (List.mem_of_getElem? hx)
   rw [uJ hx, ByteArray.size_append, ByteArray.size_append, show (⟨#[59]⟩ : ByteArray).size = 1 from rfl]
   omega
end Go.Proofs.YtinnmeiphbdogaaGreat
/- A list of texts that grows between the rounds of a range over bindings. -/
namespace Go.Proofs.YtinnmeiphbdogaaGreat
open Go.RowKit Go.Shelf
attribute [local go_sem] Oper.semAt_some
def ListI (w8 : World) (b : Nat) (f : List XB -> List ByteArray) (T : Nat -> Prop) (pre : List XB) (W : World) : Prop :=
 Kp (fun k => k = b) w8 W /\ (∀ k, T k -> w8.heap.size ≤ k) /\ ∃ v, Blk W b [v] 34 /\ Row W 9 1 v (f pre).length (strs (f pre)) (fun g => w8.heap.size ≤ g /\ ¬ T g)
section
variable {w8 W1 W : World} {b : Nat} {f : List XB -> List ByteArray} {T T' : Nat -> Prop} {pre : List XB}
theorem ListI.step (h : ListI w8 b f T pre W1) (hb : b < w8.heap.size) (hk : Kp T W1 W) (hT : ∀ k, T' k -> vI T W1 W k) : ListI w8 b f T' pre W := by
 obtain ⟨h1, h2, v, h3, h4⟩ := h
 have hs1 := h1.size
 refine ⟨h1.trans' hk fun i hi hf => absurd (h2 i hf) (by omega), fun k hk' => ?_, v, h3.kp hk fun hf => by have := h2 b hf; omega, ?_⟩
 ·rcases hT k hk' with h | h
  ·exact h2 k h
  ·omega
 ·have h5 := h4.kp' hk fun g hg hM hf => hM.2 hf
  obtain ⟨q1, q2 | ⟨g, cap, rest, a, hM, c, d⟩⟩ := h4
  ·obtain ⟨q3, q4⟩ := q2
   exact ⟨q1, .inl ⟨q3, q4⟩⟩
  ·obtain ⟨r1, ⟨r2, _⟩ | ⟨g', cap', rest', a', hM', c', d'⟩⟩ := h5
   ·rw [a] at r2; cases r2
   ·have hgg : g' = g := by rw [a] at a'; cases a'; rfl
    refine ⟨r1, .inr ⟨g', cap', rest', a', ⟨hM'.1, fun ht => ?_⟩, c', d'⟩⟩
    rcases hT g' ht with h | h
    ·exact hM'.2 h
    ·have := c.lt; omega
theorem ListI.put (h : ListI w8 b f T pre W) (hb : b < w8.heap.size) {l : Nat} {o o' : Obj} (hl : w8.heap.size ≤ l) (ho : W.heap[l]? = some o) (hc : o.isCells = false) : ListI w8 b f T pre (W.putObj l o') := by
 obtain ⟨h1, h2, v, h3, h4⟩ := h
 have hk : Kp (fun k => k = l) W (W.putObj l o') := Kp.putF (F := fun k => k = l) rfl _
 refine ⟨h1.trans' hk fun i hi hf => by have e : i = l := hf; omega, h2, v, h3.kp hk fun e => by have e' : b = l := e; omega, h4.kp' hk fun g hg _ e => ?_⟩
 obtain ⟨cs, hb'⟩ := aP h4 hg
 have e' : g = l := e
 unfold Blk at hb'
 rw [e', ho] at hb'; cases hb'; cases hc
theorem ListI.start (h : Blk w8 b [.slice none 0 0] 34) (hf : f [] = []) : ListI w8 b f (fun _ => False) [] w8 :=
 ⟨Kp.refl _, fun k h => h.elim, _, h, by rw [hf]; exact Row.nil _ _ _ _⟩
theorem ListI.round {v v' : Value} {X : World} {x : XB} {s : ByteArray} {Z : Nat -> Prop} (h : ListI w8 b f T pre W) (hb : b < w8.heap.size) (hTlt : ∀ k, T k -> k < W.heap.size) (hZ : ∀ k, Z k -> b < k /\ k < w8.heap.size) (hv : Blk W b [v] 34) (hk : Kp (fun k => k = b \/ v.ownBlock = some k) W X) (hB : Blk X b [v'] 34) (hr : Row X 9 1 v' ((f pre).length + 1) (strs (f pre ++ [s])) (fun g => v.ownBlock = some g \/ W.heap.size ≤ g)) (hf : f (pre ++ [x]) = f pre ++ [s]) :
 KeepsFrom w8.heap.size W X /\ Kp (fun k => ¬ eS Z T k) W X /\ ListI w8 b f T (pre ++ [x]) X := by
 obtain ⟨h1, h2, v0, h3, h4⟩ := h
 have e0 : v0 = v := by
  unfold Blk at h3 hv
  rw [h3] at hv; cases hv; rfl
 subst e0
 have hsz := h1.size
 have hno : ∀ k, (k = b \/ v0.ownBlock = some k) -> ¬ T k /\ (k = b \/ w8.heap.size ≤ k) := fun k hk => by
  rcases hk with h | h
  ·exact ⟨fun ht => by have := h2 k ht; omega, .inl h⟩
  ·exact ⟨(h4.block k h).2, .inr (h4.block k h).1⟩
 refine ⟨⟨hk.size, fun k o hB2 hk2 ho => (hk.block k (lt_of_block hk2) fun hf => ?_).trans hk2⟩, hk.mono fun k hk2 hf hz => ?_, h1.trans' hk fun k hk2 hf => ?_, h2, v', hB, ?_⟩
 ·rcases hf with e | e
  ·unfold Blk at h3; rw [e, h3] at hk2; cases hk2; cases ho
  ·obtain ⟨cs, hb'⟩ := aP h4 e
   unfold Blk at hb'; rw [hb'] at hk2; cases hk2; cases ho
 ·rcases hz with hz | hz
  ·exact (hno k hf).1 hz
  ·have := hZ k hz
   rcases (hno k hf).2 with h | h <;> omega
 ·rcases (hno k hf).2 with h | h
  ·exact h
  ·omega
 ·rw [hf, List.length_append, List.length_singleton]
  refine hr.mono fun g hg => ?_
  rcases hg with hg | hg
  ·exact h4.block g hg
  ·exact ⟨by omega, fun ht => by have := hTlt g ht; omega⟩
end
def rX (pre : List XB) : List ByteArray := pre.map fun x => iV x.2
noncomputable def aBy : Code := ((Tryz.f18.body.bind cC).getD .skip)
set_option maxRecDepth 100000 in
theorem lit31 (t : Array Value) (h : t.size = 31) : ∃ u : Nat -> Value, (∀ i, t.getD i undef = u i) /\ t = #[u 0, u 1, u 2, u 3, u 4, u 5, u 6, u 7, u 8, u 9, u 10, u 11, u 12, u 13, u 14, u 15, u 16, u 17, u 18, u 19, u 20, u 21, u 22, u 23, u 24, u 25, u 26, u 27, u 28, u 29, u 30] := by
 refine ⟨fun i => t.toList.getD i undef, fun i => by simp [Array.getD_eq_getD_getElem?, List.getD_eq_getElem?_getD], ?_⟩
 apply Array.ext'
 have := nU t.toList 31 (by simpa using h)
 exact this
def aK3 (X : World) (V : List ByteArray) (n : Nat) (sv iv : Value) (W : World) : Prop := ∃ i : Nat, i ≤ n /\ iv = .int .i64 i /\ sv = .string (iV (V.take i)) /\ Hid (Ext X W)
set_option maxRecDepth 100000 in
set_option maxHeartbeats 4000000 in
theorem aD4 {X : World} {b5 n l : Nat} {xa : Option Addr} {xc : Nat} {V ss : List ByteArray} {v : Value} {M : Nat -> Prop} {t : Array Value} {Qn : World -> Prop}
 (h5 : Blk X b5 [v] 34) (hr : Row X 9 1 v n (strs ss) M) (hn : n ≤ 1048576 * 1048576) (hV : CellsAt X xa (strs V)) (hVl : V.length ≤ 1048576) (hVs : ∀ s ∈ V, s.size ≤ 4096)
 (hz : t.size = 31) (t5 : t.getD 5 undef = .pointer (some ⟨b5, 0, none⟩)) (t6 : t.getD 6 undef = .slice xa V.length xc)
 (hQn : ∀ X', Kp (fun k => k = b5 \/ v.ownBlock = some k) X X' -> (∃ v', Blk X' b5 [v'] 34 /\ Row X' 9 1 v' (n + 1) (strs (ss ++ [iV V])) (fun g => v.ownBlock = some g \/ X.heap.size ≤ g)) -> Qn X') :
 aBy.wpIn (Fence.wide.inRound l) 2 Tryz.prog (kC Qn fun _ => False) { tmps := t, defers := [] } X := by
 obtain ⟨u, hu, rfl⟩ := lit31 t hz
 have e5 := (hu 5).symm.trans t5
 have e6 := (hu 6).symm.trans t6
 rw [e5, e6]
 clear hz t5 t6 e5 e6 hu
 obtain ⟨oa, oc, ev, _, _⟩ := hr.shape
 subst ev
 have HQ := qH hQn
 have H0 := qH (And.intro h5 hr)
 have HV := qH (And.intro hV hVs)
 obtain ⟨m, em⟩ : ∃ m, V.length = m := ⟨_, rfl⟩
 rw [em] at hVl ⊢
 have HM := qH em
 clear hQn h5 hr hV hVs em
 conv => arg 4; whnf
 gi_wp2
 gi_loopw [7, 8] (fun sv iv wr => aK3 X V m sv iv wr) (fun _ iv _ => m - (intOf iv).toNat)
 case atStart => exact ⟨0, Nat.zero_le _, rfl, rfl, qH (Kp.refl _)⟩
 case round =>
  obtain ⟨i, hi, rfl, rfl, hex⟩ := hrel
  by_cases hlt : i < m
  ·obtain ⟨x, hx⟩ : ∃ x, V[i]? = some x := ⟨_, qG (by rw [HM.out]; exact hlt)⟩
   obtain ⟨xb, xo, exa, xc0⟩ := (HV.out.1.ext hex.out) i (.string x) (by simp [strs, hx])
   subst exa
   have HX := qH (uJ hx)
   have hs1 := aBa HV.out.2 i
   have hs2 := HV.out.2 x (List.mem_of_getElem? hx)
   obtain ⟨sa, esa⟩ : ∃ s, iV (V.take i) = s := ⟨_, rfl⟩
   rw [esa] at HX hs1 ⊢
   have hadd1 : (Op.stringOp .add sa x).run Tryz.prog wr = .ok (.string (sa ++ x)) wr := run_string_add_sum _ _ _ (by omega)
   have hadd2 : (Op.stringOp .add (sa ++ x) ⟨#[59]⟩).run Tryz.prog wr = .ok (.string (sa ++ x ++ ⟨#[59]⟩)) wr := run_string_add_sum _ _ _ (by rw [ByteArray.size_append]; have h3 : (⟨#[59]⟩ : ByteArray).size = 1 := rfl; omega)
   have i1 : (i : Int) < (m : Int) := by omega
   clear hx hs1 hs2 esa
   gi_wp2
   go_roundw
   case rel => exact ⟨i + 1, by omega, by first | rfl | (congr 1; done) | (congr 1; omega), by rw [HX.out], hex⟩
   case measure => simp [intOf]; omega
  ·obtain rfl : i = m := by omega
   have hall : V.take i = V := List.take_of_length_le (by rw [HM.out]; exact Nat.le_refl _)
   rw [hall]
   obtain ⟨s, es⟩ : ∃ s, iV V = s := ⟨_, rfl⟩
   rw [es] at HQ ⊢
   have b0 : wr.cell? ⟨b5, 0, none⟩ = some (.slice oa n oc) := by rw [(H0.out.1.ext hex.out).cell']; rfl
   gi_wp2_with (first | (gi_at_builtin; refine Halted.out ?_))
   refine Halted.mk (zO fU rfl _ _ rfl (F := fun k => (Value.slice oa n oc).ownBlock = some k) (w0 := X) (M := fun g => (Value.slice oa n oc).ownBlock = some g \/ X.heap.size ≤ g) ((Ext.kp hex.out).alloc _) (fun g hg hlt2 => by rcases hg with hg | hg; exact hg; omega) (fun g hg => .inr (by have := hex.out.size; have h2 : (wr.alloc _).heap.size ≤ g := hg; rw [aJ] at h2; omega)) rfl (((H0.out.2.ext hex.out).alloc _).own.mono fun g hg => .inl hg) rfl (by rfl) (CellsAt.one wr (.string s) 9) (by simp [Value.oneCell']) (by omega) (by unfold maxLen; omega) ?_)
   intro v6 w6 hr6 hk6 hk6b _ _
   have hB6 : Blk w6 b5 [.slice oa n oc] 34 := ((H0.out.1.ext hex.out).alloc _).kp hk6b fun hg => by
    obtain ⟨cs, hb⟩ := aP (H0.out.2.ext hex.out) hg
    exact absurd (aM hb (H0.out.1.ext hex.out)) (by decide)
   have c6 : w6.cell? ⟨b5, 0, none⟩ = some (.slice oa n oc) := by rw [hB6.cell']; rfl
   have f6 := hB6.free 0
   obtain ⟨la, lcap, elv, _, _⟩ := hr6.shape
   subst elv
   have H6 := qH (And.intro hr6 (And.intro hk6 hB6))
   clear hr6 hk6 hk6b hB6 b0
   gi_wp2
   have ks : Kp (fun k => k = b5) w6 (w6.setCell ⟨b5, 0, none⟩ (.slice la (n + 1) lcap)) := Kp.setCell (F := fun k => k = b5) (p := ⟨b5, 0, none⟩) (Kp.refl w6) (fun _ => rfl) _
   refine HQ.out _ ((H6.out.2.1.mono fun k _ h => Or.inr h).trans (ks.mono fun k _ h => Or.inl h)) ⟨_, H6.out.2.2.set 0 _, ?_⟩
   have e : strs (ss ++ [s]) = strs ss ++ [.string s] := by simp [strs]
   rw [e]
   refine H6.out.1.kp' ks fun g hg _ e2 => ?_
   obtain ⟨cs, hb⟩ := aP H6.out.1 hg
   rw [show g = b5 from e2] at hb
   exact absurd (aM hb H6.out.2.2) (by decide)
end Go.Proofs.YtinnmeiphbdogaaGreat
/- The law of joins: JoinOwn: a round of its range over the bindings. -/
namespace Go.Proofs.YtinnmeiphbdogaaGreat
open Go.RowKit Go.Shelf
attribute [local go_sem] Oper.semAt_some
theorem mY : cO Tryz.prog 69 34 1 24 (.slice none 0 0) := ⟨by kernel_rfl, by kernel_rfl, rfl, by decide⟩
def OwnF (W : World) (lo hi : Nat) (a : Option Addr) (ss : List ByteArray) : Prop := (a = none /\ ss = []) \/ ∃ g rest, a = some ⟨g, 0, none⟩ /\ Blk W g (strs ss ++ rest) 9 /\ lo ≤ g /\ g < hi
theorem OwnSl.f {w0 w : World} {a : Option Addr} {n cap : Nat} {ss : List ByteArray} (h : OwnSl w0 w (.slice a n cap) ss) : OwnF w w0.heap.size w.heap.size a ss := by
 obtain ⟨a', cap', e, h | ⟨g, rest, h1, h2, h3, h4, h5, h6⟩⟩ := h
 ·cases e; exact .inl ⟨h.1, h.2.1⟩
 ·cases e; exact .inr ⟨g, rest, h1, h2, h6, h2.lt⟩
theorem OwnF.kp {W W' : World} {F : Nat -> Prop} {lo hi : Nat} {a : Option Addr} {ss : List ByteArray} (h : OwnF W lo hi a ss) (hk : Kp F W W') (hF : ∀ g cs, Blk W g cs 9 -> lo ≤ g -> g < hi -> ¬ F g) : OwnF W' lo hi a ss := by
 rcases h with h | ⟨g, rest, h1, h2, h3, h4⟩
 ·exact .inl h
 ·exact .inr ⟨g, rest, h1, h2.kp hk (hF g _ h2 h3 h4), h3, h4⟩
theorem OwnF.mono {W : World} {lo hi lo' hi' : Nat} {a : Option Addr} {ss : List ByteArray} (h : OwnF W lo hi a ss) (h1 : lo' ≤ lo) (h2 : hi ≤ hi') : OwnF W lo' hi' a ss := by
 rcases h with h | ⟨g, rest, q1, q2, q3, q4⟩
 ·exact .inl h
 ·exact .inr ⟨g, rest, q1, q2, by omega, by omega⟩
noncomputable def aE1 : Code := ((Tryz.f7.body.bind cC).getD .skip)
def aAu (Qn Qx : World -> Prop) : Exit -> Act -> World -> Prop
 | .normal, _, W => Qn W
 | .exit 0, _, W => Qx W
 | _, _, _ => False
set_option maxRecDepth 100000 in
theorem uD (t : Array Value) (h : t.size = 212) : ∃ u : Nat -> Value, (∀ i, t.getD i undef = u i) /\ t = #[u 0, u 1, u 2, u 3, u 4, u 5, u 6, u 7, u 8, u 9, u 10, u 11, u 12, u 13, u 14, u 15, u 16, u 17, u 18, u 19, u 20, u 21, u 22, u 23, u 24, u 25, u 26, u 27, u 28, u 29, u 30, u 31, u 32, u 33, u 34, u 35, u 36, u 37, u 38, u 39, u 40, u 41, u 42, u 43, u 44, u 45, u 46, u 47, u 48, u 49, u 50, u 51, u 52, u 53, u 54, u 55, u 56, u 57, u 58, u 59, u 60, u 61, u 62, u 63, u 64, u 65, u 66, u 67, u 68, u 69, u 70, u 71, u 72, u 73, u 74, u 75, u 76, u 77, u 78, u 79, u 80, u 81, u 82, u 83, u 84, u 85, u 86, u 87, u 88, u 89, u 90, u 91, u 92, u 93, u 94, u 95, u 96, u 97, u 98, u 99, u 100, u 101, u 102, u 103, u 104, u 105, u 106, u 107, u 108, u 109, u 110, u 111, u 112, u 113, u 114, u 115, u 116, u 117, u 118, u 119, u 120, u 121, u 122, u 123, u 124, u 125, u 126, u 127, u 128, u 129, u 130, u 131, u 132, u 133, u 134, u 135, u 136, u 137, u 138, u 139, u 140, u 141, u 142, u 143, u 144, u 145, u 146, u 147, u 148, u 149, u 150, u 151, u 152, u 153, u 154, u 155, u 156, u 157, u 158, u 159, u 160, u 161, u 162, u 163, u 164, u 165, u 166, u 167, u 168, u 169, u 170, u 171, u 172, u 173, u 174, u 175, u 176, u 177, u 178, u 179, u 180, u 181, u 182, u 183, u 184, u 185, u 186, u 187, u 188, u 189, u 190, u 191, u 192, u 193, u 194, u 195, u 196, u 197, u 198, u 199, u 200, u 201, u 202, u 203, u 204, u 205, u 206, u 207, u 208, u 209, u 210, u 211] := by
 refine ⟨fun i => t.toList.getD i undef, fun i => by simp [Array.getD_eq_getD_getElem?, List.getD_eq_getElem?_getD], ?_⟩
 apply Array.ext'
 have := nU t.toList 212 (by simpa using h)
 exact this
set_option maxRecDepth 100000 in
set_option maxHeartbeats 8000000 in
theorem aF0 {X : World} {gb b8 N l : Nat} {p : ByteArray} {hs : List aG} {ls : List aO} {ha ba xa : Option Addr} {hn hcap n bcap : Nat} {V : List ByteArray} {v : Value} {vals : List Value} {M : Nat -> Prop} {t : Array Value} {Qn Qx : World -> Prop}
 (hG : Blk X gb [.string p, .slice ha hn hcap, .slice ba n bcap] 27) (h8 : Blk X b8 [v] 69) (hr : Row X 34 1 v N vals M) (hN : N ≤ 1048576 * 1048576) (hVl : V.length ≤ 1048576)
 (hx : OwnF X 0 X.heap.size xa V)
 (hHd : ∀ W, Ext X W -> Calls Tryz.prog 25 #[eF p ha hn hcap ba n bcap, .slice xa V.length V.length] W (RetN W fun w' v => sX ((p, hs, ()), ls, ()) V W w' v)) (hc : bD ((p, hs, ()), ls, ()) = 0) (hVn : V.length = (aB ls).length)
 (hz : t.size = 212) (t2 : t.getD 2 undef = .pointer (some ⟨gb, 0, none⟩)) (t8 : t.getD 8 undef = .pointer (some ⟨b8, 0, none⟩)) (t9 : t.getD 9 undef = .slice xa V.length V.length)
 (hQ : ∀ X' s1 ya za v', X.heap.size ≤ s1 -> s1 ≤ X'.heap.size -> OwnF X' X.heap.size s1 ya (bS (aB ls) V hs) -> OwnF X' s1 X'.heap.size za (bS (aB ls) V hs) -> Kp (fun k => k = b8 \/ v.ownBlock = some k) X X' -> Blk X' b8 [v'] 69 ->
  Row X' 34 1 v' (N + 3) (vals ++ [.slice xa V.length V.length, .slice ya (bS (aB ls) V hs).length (bS (aB ls) V hs).length, .slice za (bS (aB ls) V hs).length (bS (aB ls) V hs).length]) (fun g => v.ownBlock = some g \/ X.heap.size ≤ g) -> (300 < N + 3 -> Qx X') /\ (¬ 300 < N + 3 -> Qn X')) :
 aE1.wpIn (Fence.wide.inRound l) 2 Tryz.prog (aAu Qn Qx) { tmps := t, defers := [] } X := by
 obtain ⟨u, hu, rfl⟩ := uD t hz
 have e2 := (hu 2).symm.trans t2
 have e8 := (hu 8).symm.trans t8
 have e9 := (hu 9).symm.trans t9
 rw [e2, e8, e9]
 clear hz t2 t8 t9 e2 e8 e9 hu
 obtain ⟨oa, oc, ev, _, _⟩ := hr.shape
 subst ev
 have HQ := qH hQ
 have H0 := qH (And.intro h8 hr)
 have HH := qH hHd
 have HC := qH (And.intro hc hVn)
 have HG := qH hG
 have g0 : X.cell? ⟨gb, 0, none⟩ = some (.string p) := by rw [hG.cell']; rfl
 have g1 : X.cell? ⟨gb, 1, none⟩ = some (.slice ha hn hcap) := by rw [hG.cell']; rfl
 have g2 : X.cell? ⟨gb, 2, none⟩ = some (.slice ba n bcap) := by rw [hG.cell']; rfl
 clear hQ h8 hr hHd hc hVn hG hx
 obtain ⟨nV, enV⟩ : ∃ k, V.length = k := ⟨_, rfl⟩
 rw [enV] at HH HQ hVl ⊢
 have HV := qH enV
 obtain ⟨RW, eRW⟩ : ∃ RW, bS (aB ls) V hs = RW := ⟨_, rfl⟩
 have hres : ∀ {W W1 : World} {v1 : Value}, sX ((p, hs, ()), ls, ()) V W W1 v1 -> ∃ ao, v1 = .tuple #[.slice ao RW.length RW.length, .int .i64 0] /\ OwnF W1 W.heap.size W1.heap.size ao RW := fun {W W1 v1} hO => by
  rcases hO with ⟨-, -, ao, cap, e, h1, h2, h3, h4, h5⟩ | ⟨hno, -⟩
  ·have h4' : cap = RW.length := by rw [<- eRW]; exact h4
   rw [eRW] at h5
   exact ⟨ao, by rw [e, h4']; rw [eRW], h5.f⟩
  ·exact absurd HC.out hno
 have HRes := qH (fun (W W1 : World) (v1 : Value) (h : sX ((p, hs, ()), ls, ()) V W W1 v1) => hres h)
 rw [eRW] at HQ
 obtain ⟨rn, ern⟩ : ∃ rn, RW.length = rn := ⟨_, rfl⟩
 simp only [ern] at HQ HRes
 clear hres enV eRW ern
 conv => arg 4; whnf
 gi_wp2
 refine And.intro trivial ?_
 refine (CallsIn.inRound l (callsIn_wide.2 (HH.out X (Kp.refl X)))).mono ?_
 rintro e W1 ⟨v1, rfl, hk1, hO⟩
 obtain ⟨ya, rfl, hy⟩ := HRes.out _ _ _ hO
 have H1 := qH (And.intro hk1 hy)
 have g0' : W1.cell? ⟨gb, 0, none⟩ = some (.string p) := hk1.cell g0 id
 have g1' : W1.cell? ⟨gb, 1, none⟩ = some (.slice ha hn hcap) := hk1.cell g1 id
 have g2' : W1.cell? ⟨gb, 2, none⟩ = some (.slice ba n bcap) := hk1.cell g2 id
 clear hO hy hk1 g0 g1 g2
 gi_wp2
 refine And.intro trivial ?_
 refine (CallsIn.inRound l (callsIn_wide.2 (HH.out W1 H1.out.1))).mono ?_
 rintro e W2 ⟨v2, rfl, hk2, hO⟩
 obtain ⟨za, rfl, hzz⟩ := HRes.out _ _ _ hO
 have H2 := qH (And.intro hk2 (And.intro hzz (And.intro (H1.out.1.trans hk2) (H1.out.2.kp hk2 (fun _ _ _ _ _ => id)))))
 have b0 : W2.cell? ⟨b8, 0, none⟩ = some (.slice oa N oc) := by rw [(H0.out.1.ext H2.out.2.2.1).cell']; rfl
 clear hO hzz hk2 g0' g1' g2'
 gi_wp2_with (first | (gi_at_builtin; refine Halted.out ?_))
 refine Halted.mk (zO mY rfl _ _ rfl (F := fun k => (Value.slice oa N oc).ownBlock = some k) (w0 := X) (M := fun g => (Value.slice oa N oc).ownBlock = some g \/ X.heap.size ≤ g) ((Ext.kp H2.out.2.2.1).alloc _) (fun g hg hlt2 => by rcases hg with hg | hg; exact hg; omega) (fun g hg => .inr (by have := H2.out.2.2.1.size; have h2 : (W2.alloc _).heap.size ≤ g := hg; rw [aJ] at h2; omega)) rfl (((H0.out.2.ext H2.out.2.2.1).alloc _).own.mono fun g hg => .inl hg) rfl (by rfl) (CellsAt.three W2 (.slice xa nV nV) (.slice ya rn rn) (.slice za rn rn) 34) (by simp [Value.oneCell']) (by omega) (by unfold maxLen; omega) ?_)
 intro v6 w6 hr6 hk6 hk6b _ _
 have hnb : ∀ g cs, Blk W2 g cs 9 -> (Value.slice oa N oc).ownBlock = some g -> False := fun g cs hb hg => by
  obtain ⟨cs', hb'⟩ := aP (H0.out.2.ext H2.out.2.2.1) hg
  exact absurd (aM hb hb') (by decide)
 have hB6 : Blk w6 b8 [.slice oa N oc] 69 := ((H0.out.1.ext H2.out.2.2.1).alloc _).kp hk6b fun hg => by
  obtain ⟨cs, hb⟩ := aP (H0.out.2.ext H2.out.2.2.1) hg
  exact absurd (aM hb (H0.out.1.ext H2.out.2.2.1)) (by decide)
 have kW : Kp (fun k => (Value.slice oa N oc).ownBlock = some k) W2 w6 := ((Kp.refl W2).alloc _).trans hk6b
 have c6 : w6.cell? ⟨b8, 0, none⟩ = some (.slice oa N oc) := by rw [hB6.cell']; rfl
 have f6 := hB6.free 0
 obtain ⟨la, lcap, elv, _, _⟩ := hr6.shape
 subst elv
 have ks : Kp (fun k => k = b8) w6 (w6.setCell ⟨b8, 0, none⟩ (.slice la (N + 3) lcap)) := Kp.setCell (F := fun k => k = b8) (p := ⟨b8, 0, none⟩) (Kp.refl w6) (fun _ => rfl) _
 have h8b : ∀ g cs, Blk W2 g cs 9 -> ¬ g = b8 := fun g cs hb e => by
  rw [e] at hb
  exact absurd (aM hb (H0.out.1.ext H2.out.2.2.1)) (by decide)
 have kA : Kp (fun k => k = b8 \/ (Value.slice oa N oc).ownBlock = some k) W2 (w6.setCell ⟨b8, 0, none⟩ (.slice la (N + 3) lcap)) := (kW.mono fun k _ h => Or.inr h).trans (ks.mono fun k _ h => Or.inl h)
 have hFin := HQ.out (w6.setCell ⟨b8, 0, none⟩ (.slice la (N + 3) lcap)) W1.heap.size ya za (.slice la (N + 3) lcap) H1.out.1.size (Nat.le_trans H2.out.1.size kA.size)
  (H2.out.2.2.2.kp kA fun g cs hb _ _ e => by rcases e with e | e; exact h8b g cs hb e; exact hnb g cs hb e)
  ((H2.out.2.1.mono (Nat.le_refl _) kA.size).kp kA fun g cs hb _ _ e => by rcases e with e | e; exact h8b g cs hb e; exact hnb g cs hb e)
  (((Ext.kp H2.out.2.2.1).trans kA)) (hB6.set 0 _) (by
    refine hr6.kp' ks fun g hg _ e2 => ?_
    obtain ⟨cs, hb⟩ := aP hr6 hg
    rw [show g = b8 from e2] at hb
    exact absurd (aM hb hB6) (by decide))
 have HF := qH hFin
 have r7 : (w6.setCell ⟨b8, 0, none⟩ (.slice la (N + 3) lcap)).cell? ⟨b8, 0, none⟩ = some (.slice la (N + 3) lcap) := by rw [(hB6.set 0 _).cell']; rfl
 clear hr6 hk6 hk6b b0 hnb hB6 kW ks h8b kA hFin
 by_cases h300 : 300 < N + 3
 ·have i3 : (300 : Int) < ((N + 3 : Nat) : Int) := by omega
  have HE := qH (HF.out.1 h300)
  clear h300
  gi_wp2
  exact HE.out
 ·have i3 : ¬ (300 : Int) < ((N + 3 : Nat) : Int) := by omega
  have HE := qH (HF.out.2 h300)
  clear h300
  gi_wp2
  exact HE.out
end Go.Proofs.YtinnmeiphbdogaaGreat
/- The law of joins: JoinOwn: marks: texts made of numbers' bytes. -/
namespace Go.Proofs.YtinnmeiphbdogaaGreat
open Go.RowKit Go.Shelf
attribute [local go_sem] Oper.semAt_some
def cZ (i : Int) : UInt8 := UInt8.ofNat (i % 256).toNat
theorem dE (i : Int) : IntKind.u8.wrap i = ((cZ i).toNat : Int) := by
 have h1 := Int.emod_nonneg i (show (256 : Int) ≠ 0 by decide)
 have h2 := Int.emod_lt_of_pos i (show (0 : Int) < 256 by decide)
 have h3 : ((i % 256).toNat : Int) = i % 256 := Int.toNat_of_nonneg h1
 have h4 : (cZ i).toNat = (i % 256).toNat := by
  unfold cZ
  rw [UInt8.toNat_ofNat']
  exact Nat.mod_eq_of_lt (by omega)
 rw [h4, h3]
 rfl
def iT (i k : Nat) : ByteArray := ⟨#[cZ i, cZ ((i : Int) / 256), cZ k]⟩
def iS (i k : Nat) : ByteArray := ⟨#[cZ i, cZ ((i : Int) / 256), 1, cZ k]⟩
theorem wL {W : World} {i k g : Nat} (c : Nat) (h : Blk W g [.int .u8 (IntKind.u8.wrap i), .int .u8 (IntKind.u8.wrap ((i : Int) / 256)), .int .u8 (IntKind.u8.wrap k)] 5) :
 (convert 82 9 (.slice (some ⟨g, 0, none⟩) 3 c)).run Tryz.prog W = .ok (.string (iT i k)) W := by
 rw [dE, dE, dE] at h
 refine run_convert_bytes_back (P := Tryz.prog) W 82 9 5 ⟨g, 0, none⟩ c [cZ i, cZ ((i : Int) / 256), cZ k] Tryz.underlying82 Tryz.underlying5 Tryz.underlying9 fun j hj => ?_
 rw [Addr.add_lit, h.cell']
 rcases (show j = 0 \/ j = 1 \/ j = 2 by simp at hj; omega) with rfl | rfl | rfl <;> rfl
theorem wK {W : World} {i k g : Nat} (c : Nat) (h : Blk W g [.int .u8 (cZ i).toNat, .int .u8 (cZ ((i : Int) / 256)).toNat, .int .u8 1, .int .u8 (cZ k).toNat] 5) :
 (convert 82 9 (.slice (some ⟨g, 0, none⟩) 4 c)).run Tryz.prog W = .ok (.string (iS i k)) W := by
 refine run_convert_bytes_back (P := Tryz.prog) W 82 9 5 ⟨g, 0, none⟩ c [cZ i, cZ ((i : Int) / 256), 1, cZ k] Tryz.underlying82 Tryz.underlying5 Tryz.underlying9 fun j hj => ?_
 rw [Addr.add_lit, h.cell']
 rcases (show j = 0 \/ j = 1 \/ j = 2 \/ j = 3 by simp at hj; omega) with rfl | rfl | rfl | rfl <;> rfl
def mQ (i : Nat) (ss : List ByteArray) (k : Nat) : List ByteArray := (List.range k).map (iT i) ++ ss.drop k
theorem aGc {i k : Nat} {ss : List ByteArray} (h : k ≤ ss.length) : (mQ i ss k).length = ss.length := by unfold mQ; simp; omega
theorem aDj (i : Nat) (ss : List ByteArray) : mQ i ss 0 = ss := by unfold mQ; simp
theorem aDk {i k : Nat} {ss : List ByteArray} (h : k < ss.length) : (mQ i ss k).set k (iT i k) = mQ i ss (k + 1) := by
 unfold mQ
 rw [List.set_append_right _ _ (by simp), List.length_map, List.length_range, Nat.sub_self, List.drop_eq_getElem_cons h, List.set_cons_zero, List.range_succ, List.map_append, List.append_assoc]
 rfl
def marksOf (i n : Nat) : List ByteArray := (List.range n).map (iT i)
theorem aGd {i : Nat} {ss : List ByteArray} {n : Nat} (h : ss.length = n) : mQ i ss n = marksOf i n := by unfold mQ marksOf; rw [<- h]; simp
def iW (C : Nat -> List ByteArray) (i : Nat) : Nat -> List ByteArray := fun j => if j < i then marksOf j (C j).length else C j
theorem xM (C : Nat -> List ByteArray) (i j : Nat) : (iW C i j).length = (C j).length := by unfold iW marksOf; split <;> simp
theorem aDw (C : Nat -> List ByteArray) : iW C 0 = C := by funext j; unfold iW; rw [if_neg (by omega)]
theorem aDx (C : Nat -> List ByteArray) (i : Nat) : iW C i i = C i := by unfold iW; rw [if_neg (by omega)]
def iR (C : Nat -> List ByteArray) (i k : Nat) : Nat -> List ByteArray := fun j => if j = i then mQ i (C i) k else iW C i j
theorem aC5 (C : Nat -> List ByteArray) (i : Nat) : iR C i 0 = iW C i := by
 funext j; unfold iR
 by_cases e : j = i
 ·subst e; rw [if_pos rfl, aDj, aDx]
 ·rw [if_neg e]
theorem aAs (C : Nat -> List ByteArray) (i k : Nat) : iR C i k i = mQ i (C i) k := if_pos rfl
theorem aC6 {C : Nat -> List ByteArray} {i k : Nat} (h : k < (C i).length) : (fun j => if j = i then (iR C i k i).set k (iT i k) else iR C i k j) = iR C i (k + 1) := by
 funext j
 by_cases e : j = i
 ·subst e
  rw [if_pos rfl, aAs, aDk h, aAs]
 ·rw [if_neg e]; unfold iR; rw [if_neg e, if_neg e]
theorem aFz {C : Nat -> List ByteArray} {i n : Nat} (h : (C i).length = n) : iR C i n = iW C (i + 1) := by
 funext j; unfold iR
 by_cases e : j = i
 ·subst e
  rw [if_pos rfl, aGd h, <- h]
  unfold iW; rw [if_pos (by omega)]
 ·rw [if_neg e]; unfold iW
  by_cases e2 : j < i
  ·rw [if_pos e2, if_pos (by omega)]
  ·rw [if_neg e2, if_neg (by omega)]
theorem wP {C : Nat -> List ByteArray} {i k : Nat} (h : k ≤ (C i).length) (j : Nat) : (iR C i k j).length = (C j).length := by
 unfold iR
 by_cases e : j = i
 ·subst e; rw [if_pos rfl, aGc h]
 ·rw [if_neg e, xM]
end Go.Proofs.YtinnmeiphbdogaaGreat
/- The law of joins: JoinOwn: the list of lists between two rounds of the range, and behind it. -/
namespace Go.Proofs.YtinnmeiphbdogaaGreat
open Go.RowKit Go.Shelf
def gR (vs : Nat -> SlZ) (N : Nat) : List Value := (List.range N).map fun j => slV (vs j)
structure AllJ (w8 : World) (b : Nat) (T : Nat -> Prop) (N : Nat) (W : World) (v : Value) (vs : Nat -> SlZ) (gb : Nat -> Nat) (C : Nat -> List ByteArray) : Prop where
 kp : Kp (fun k => k = b) w8 W
 ge : ∀ k, T k -> w8.heap.size ≤ k
 box : Blk W b [v] 69
 row : Row W 34 1 v N (gR vs N) (fun g => w8.heap.size ≤ g /\ ¬ T g)
 lists : ListsO W (fun g => w8.heap.size ≤ g /\ ¬ T g) N vs gb C
 few : ∀ j, j < N -> (C j).length ≤ 1048576
section
variable {w8 W1 W : World} {b N : Nat} {T T' : Nat -> Prop} {v : Value} {vs : Nat -> SlZ} {gb : Nat -> Nat} {C : Nat -> List ByteArray}
theorem AllJ.step (h : AllJ w8 b T N W1 v vs gb C) (hb : b < w8.heap.size) (hk : Kp T W1 W) (hT : ∀ k, T' k -> vI T W1 W k) : AllJ w8 b T' N W v vs gb C := by
 have hs1 := h.kp.size
 refine ⟨h.kp.trans' hk fun i hi hf => absurd (h.ge i hf) (by omega), fun k hk' => ?_, h.box.kp hk fun hf => by have := h.ge b hf; omega, ?_, h.lists.kp' hk (fun i hi ha hf => (h.lists.lt hi ha).2.1.2 hf) fun i hi ha hM => ⟨hM.1, fun ht => ?_⟩, h.few⟩
 ·rcases hT k hk' with h1 | h1
  ·exact h.ge k h1
  ·omega
 ·have h5 := h.row.kp' hk fun g hg hM hf => hM.2 hf
  obtain ⟨q1, q2 | ⟨g, cap, rest, a, hM, c, d⟩⟩ := h.row
  ·obtain ⟨q3, q4⟩ := q2
   exact ⟨q1, .inl ⟨q3, q4⟩⟩
  ·obtain ⟨r1, ⟨r2, _⟩ | ⟨g', cap', rest', a', hM', c', d'⟩⟩ := h5
   ·rw [a] at r2; cases r2
   ·have hgg : g' = g := by rw [a] at a'; cases a'; rfl
    refine ⟨r1, .inr ⟨g', cap', rest', a', ⟨hM'.1, fun ht => ?_⟩, c', d'⟩⟩
    rcases hT g' ht with h | h
    ·exact hM'.2 h
    ·have := c.lt; omega
 ·rcases hT _ ht with h1 | h1
  ·exact hM.2 h1
  ·have := (h.lists.lt hi ha).1; omega
theorem AllJ.put (h : AllJ w8 b T N W v vs gb C) (hb : b < w8.heap.size) {l : Nat} {o o' : Obj} (hl : w8.heap.size ≤ l) (ho : W.heap[l]? = some o) (hc : o.isCells = false) : AllJ w8 b T N (W.putObj l o') v vs gb C := by
 have hk : Kp (fun k => k = l) W (W.putObj l o') := Kp.putF (F := fun k => k = l) rfl _
 refine ⟨h.kp.trans' hk fun i hi hf => by have e : i = l := hf; omega, h.ge, h.box.kp hk fun e => by have e' : b = l := e; omega, h.row.kp' hk fun g hg _ e => ?_, h.lists.kp' hk (fun i hi ha e => ?_) fun _ _ _ h => h, h.few⟩
 ·obtain ⟨cs, hb'⟩ := aP h.row hg
  have e' : g = l := e
  unfold Blk at hb'
  rw [e', ho] at hb'; cases hb'; cases hc
 ·obtain ⟨o2, h1, h2⟩ := (h.lists.lt hi ha).2.2
  have e' : gb i = l := e
  rw [e', ho] at h1; cases h1; rw [hc] at h2; cases h2
theorem AllJ.start (h : Blk w8 b [.slice none 0 0] 69) : AllJ w8 b (fun _ => False) 0 w8 (.slice none 0 0) (fun _ => (none, 0, 0)) (fun _ => 0) (fun _ => []) :=
 ⟨Kp.refl _, fun k h => h.elim, h, Row.nil _ _ _ _, ListsO.nil _ _ _ _ _, fun j h => by omega⟩
theorem AllJ.round {v' : Value} {X : World} {s0 s1 : Nat} {Z : Nat -> Prop} {xa ya za : Option Addr} {V H : List ByteArray} (h : AllJ w8 b T N W v vs gb C) (hb : b < w8.heap.size) (hTlt : ∀ k, T k -> k < W.heap.size) (hZ : ∀ k, Z k -> b < k /\ k < w8.heap.size)
 (hlt : ∀ i, i < N -> (vs i).1 ≠ none -> gb i < s0) (hs0 : w8.heap.size ≤ s0) (hs0' : s0 ≤ W.heap.size) (hV : V.length ≤ 1048576) (hH : H.length ≤ 1048576)
 (hx : (xa = none /\ V = []) \/ ∃ g rest, xa = some ⟨g, 0, none⟩ /\ Blk W g (strs V ++ rest) 9 /\ s0 ≤ g /\ ¬ T g)
 (h1 : W.heap.size ≤ s1) (h2 : s1 ≤ X.heap.size) (hy : OwnF X W.heap.size s1 ya H) (hz : OwnF X s1 X.heap.size za H) (hk : Kp (fun k => k = b \/ v.ownBlock = some k) W X) (hB : Blk X b [v'] 69)
 (hr : Row X 34 1 v' (N + 3) (gR vs N ++ [.slice xa V.length V.length, .slice ya H.length H.length, .slice za H.length H.length]) (fun g => v.ownBlock = some g \/ W.heap.size ≤ g)) :
 KeepsFrom w8.heap.size W X /\ Kp (fun k => ¬ eS Z T k) W X /\ ∃ vs' gb' C', AllJ w8 b T (N + 3) X v' vs' gb' C' := by
 have hsz := h.kp.size
 have hno : ∀ k, (k = b \/ v.ownBlock = some k) -> ¬ T k /\ (k = b \/ w8.heap.size ≤ k) := fun k hk => by
  rcases hk with h3 | h3
  ·exact ⟨fun ht => by have := h.ge k ht; omega, .inl h3⟩
  ·exact ⟨(h.row.block k h3).2, .inr (h.row.block k h3).1⟩
 have hnt : ∀ g cs, Blk W g cs 9 -> ¬ (g = b \/ v.ownBlock = some g) := fun g cs hg e => by
  rcases e with e | e
  ·rw [e] at hg; exact absurd (aM hg h.box) (by decide)
  ·obtain ⟨cs2, hb2⟩ := aP h.row e
   exact absurd (aM hg hb2) (by decide)
 have hL0 : ListsO X (fun g => w8.heap.size ≤ g /\ ¬ T g) N vs gb C := h.lists.kp' hk (fun i hi ha e => by
  rcases h.lists.blk i hi with ⟨q, _⟩ | ⟨_, _, rest, q⟩
  ·rw [q] at ha; cases ha
  ·exact hnt _ _ q e) fun _ _ _ h => h
 obtain ⟨g1, C1, L1, b1, f1⟩ := hL0.push2 (s' := W.heap.size) (m := 1048576) hlt hs0' h.few (a := xa) (ss := V) (by
  rcases hx with hx | ⟨g, rest, q1, q2, q3, q4⟩
  ·exact .inl hx
  ·exact .inr ⟨g, rest, q1, ⟨by omega, q4⟩, q2.kp hk (hnt g _ q2), q3, q2.lt⟩) hV
 obtain ⟨g2, C2, L2, b2, f2⟩ := L1.push2 (s' := s1) (m := 1048576) b1 h1 f1 (a := ya) (ss := H) (by
  rcases hy with hy | ⟨g, rest, q1, q2, q3, q4⟩
  ·exact .inl hy
  ·exact .inr ⟨g, rest, q1, ⟨by omega, fun ht => by have := hTlt g ht; omega⟩, q2, q3, q4⟩) hH
 obtain ⟨g3, C3, L3, b3, f3⟩ := L2.push2 (s' := X.heap.size) (m := 1048576) b2 h2 f2 (a := za) (ss := H) (by
  rcases hz with hz | ⟨g, rest, q1, q2, q3, q4⟩
  ·exact .inl hz
  ·exact .inr ⟨g, rest, q1, ⟨by omega, fun ht => by have := hTlt g ht; omega⟩, q2, q3, q4⟩) hH
 have ev : ∀ q1 q2 q3 : SlZ, gR (bP (bP (bP vs N q1) (N + 1) q2) (N + 1 + 1) q3) (N + 3) = gR vs N ++ [slV q1, slV q2, slV q3] := fun q1 q2 q3 => by
  unfold gR
  rw [iD, iD, iD]
  simp
 refine ⟨⟨hk.size, fun k o hB2 hk2 ho => (hk.block k (lt_of_block hk2) fun hf => ?_).trans hk2⟩, hk.mono fun k hk2 hf hz => ?_, _, g3, C3, h.kp.trans' hk fun k hk2 hf => ?_, h.ge, hB, ?_, L3, f3⟩
 ·rcases hf with e | e
  ·have h3 := h.box
   unfold Blk at h3; rw [e, h3] at hk2; cases hk2; cases ho
  ·obtain ⟨cs, hb'⟩ := aP h.row e
   unfold Blk at hb'; rw [hb'] at hk2; cases hk2; cases ho
 ·rcases hz with hz | hz
  ·exact (hno k hf).1 hz
  ·have := hZ k hz
   rcases (hno k hf).2 with h | h <;> omega
 ·rcases (hno k hf).2 with h | h
  ·exact h
  ·omega
 ·rw [ev]
  refine hr.mono fun g hg => ?_
  rcases hg with hg | hg
  ·exact h.row.block g hg
  ·exact ⟨by omega, fun ht => by have := hTlt g ht; omega⟩
end
def AllI (w8 : World) (b : Nat) (T : Nat -> Prop) (pre : List XB) (W : World) : Prop := ∃ v vs gb C, AllJ w8 b T (3 * pre.length) W v vs gb C
structure TailS (w5 : World) (m8 : Nat) (ds : List Deferred) (W : World) : Prop where
 ext : Ext w5 W
 marks : Marks m8 W ds
theorem TailS.kp {F : Nat -> Prop} {w5 W W' : World} {m8 : Nat} {ds : List Deferred} (h : TailS w5 m8 ds W) (hk : Kp F W W') (hF : ∀ k, F k -> fK W k /\ w5.heap.size ≤ k) : TailS w5 m8 ds W' := by
 refine ⟨h.ext.trans' hk fun i hi hf => by have := (hF i hf).2; omega, ?_⟩
 obtain ⟨Ds, e, hn, hd⟩ := h.marks
 refine ⟨Ds, e, hn, fun D hD => ⟨(hd D hD).1, (hk.block D (lt_of_block (hd D hD).2) fun hf => ?_).trans (hd D hD).2⟩⟩
 obtain ⟨o, h1, h2⟩ := (hF D hf).1
 rw [(hd D hD).2] at h1; cases h1; cases h2
theorem TailS.more {w5 W W' : World} {m8 : Nat} {ds : List Deferred} (h : TailS w5 m8 ds W) (hk : Ext W W') : TailS w5 m8 ds W' := h.kp hk fun k hf => hf.elim
end Go.Proofs.YtinnmeiphbdogaaGreat
/- The law of joins: JoinOwn: all lists are written over. -/
namespace Go.Proofs.YtinnmeiphbdogaaGreat
open Go.RowKit Go.Shelf
attribute [local go_sem] Oper.semAt_some
def uX : Nat -> Code -> Code
 | 0, c => c
 | n + 1, .seq _ b => uX n b
 | _ + 1, c => c
noncomputable def aE0 : Code := uX 8 (Tryz.f7.body.getD .skip)
noncomputable def yO : Code := uX 9 (Tryz.f7.body.getD .skip)
noncomputable def aC7 : Code := uX 10 (Tryz.f7.body.getD .skip)
structure AllS (W : World) (lo b8 : Nat) (va : Option Addr) (vc N : Nat) (vs : Nat -> SlZ) (gb : Nat -> Nat) (C : Nat -> List ByteArray) : Prop where
 box : Blk W b8 [.slice va N vc] 69
 row : Row W 34 1 (.slice va N vc) N ((List.range N).map fun j => slV (vs j)) (fun k => lo ≤ k)
 lists : ListsO W (fun k => lo ≤ k) N vs gb C
 lt : b8 < lo
section
variable {W W' : World} {F : Nat -> Prop} {lo b8 vc N : Nat} {va : Option Addr} {vs : Nat -> SlZ} {gb : Nat -> Nat} {C : Nat -> List ByteArray}
theorem AllS.ext (h : AllS W lo b8 va vc N vs gb C) (hk : Ext W W') : AllS W' lo b8 va vc N vs gb C := ⟨h.box.ext hk, h.row.ext hk, h.lists.ext hk, h.lt⟩
theorem AllS.kp (h : AllS W lo b8 va vc N vs gb C) (hk : Kp F W W') (hF : ∀ k, F k -> ∃ cs, Blk W k cs 34) (hv : ∀ g, (Value.slice va N vc).ownBlock = some g -> ¬ F g) : AllS W' lo b8 va vc N vs gb C :=
 ⟨h.box.kp hk fun hf => by obtain ⟨cs, hb⟩ := hF _ hf; exact absurd (aM hb h.box) (by decide), h.row.kp' hk fun g hg _ => hv g hg, h.lists.kp' hk (fun i hi ha hf => by
  obtain ⟨cs, hb⟩ := hF _ hf
  rcases h.lists.blk i hi with ⟨q, _⟩ | ⟨_, _, rest, q⟩
  ·rw [q] at ha; cases ha
  ·exact absurd (aM hb q) (by decide)) fun _ _ _ h => h, h.lt⟩
theorem AllS.at (h : AllS W lo b8 va vc N vs gb C) {i : Nat} (hi : i < N) : ∃ g, va = some ⟨g, 0, none⟩ /\ W.cell? ⟨g, i, none⟩ = some (slV (vs i)) := by
 obtain ⟨h1, ⟨e, h0⟩ | ⟨g, cap, rest, e, hM, hB, hl, hc, hm⟩⟩ := h.row
 ·omega
 ·cases e
  refine ⟨g, rfl, ?_⟩
  rw [hB.cell', List.getElem?_append_left (by simpa using hi)]
  simp [hi]
theorem AllS.put (h : AllS W lo b8 va vc N vs gb C) {i k : Nat} (hi : i < N) (hk : k < (C i).length) (s : ByteArray) :
 (vs i).1 = some ⟨gb i, 0, none⟩ /\ lo ≤ gb i /\ W.frozen? ⟨gb i, k, none⟩ = false /\ AllS (W.setCell ⟨gb i, k, none⟩ (.string s)) lo b8 va vc N vs gb (fun j => if j = i then (C i).set k s else C j) := by
 obtain ⟨h1, h2, h3, h4⟩ := h.lists.put hi hk s
 obtain ⟨cs, hb⟩ : ∃ cs, Blk W (gb i) cs 9 := by
  rcases h.lists.blk i hi with ⟨q, _⟩ | ⟨_, _, rest, q⟩
  ·rw [h1] at q; cases q
  ·exact ⟨_, q⟩
 have ks : Kp (fun q => q = gb i) W (W.setCell ⟨gb i, k, none⟩ (.string s)) := Kp.setCell (F := fun q => q = gb i) (p := ⟨gb i, k, none⟩) (Kp.refl W) (fun _ => rfl) _
 refine ⟨h1, h2, h3, h.box.kp ks fun e => ?_, h.row.kp' ks fun g hg _ e => ?_, h4, h.lt⟩
 ·have e' : b8 = gb i := e
  have := h.lt; omega
 ·obtain ⟨cs2, hb2⟩ := aP h.row hg
  rw [show g = gb i from e] at hb2
  exact absurd (aM hb2 hb) (by decide)
theorem AllS.len (h : AllS W lo b8 va vc N vs gb C) {i : Nat} (hi : i < N) : vs i = ((vs i).1, (C i).length, (C i).length) := by
 have := h.lists.len i hi
 rw [<- this]
end
def aK0 (w5 : World) (m8 : Nat) (ds : List Deferred) (lo b8 : Nat) (va : Option Addr) (vc N : Nat) (vs : Nat -> SlZ) (gb : Nat -> Nat) (C : Nat -> List ByteArray) (iv : Value) (W : World) : Prop := ∃ i : Nat, i ≤ N /\ iv = .int .i64 i /\ Hid (AllS W lo b8 va vc N vs gb (iW C i)) /\ Hid (TailS w5 m8 ds W)
def aK1 (w5 : World) (m8 : Nat) (ds : List Deferred) (lo b8 : Nat) (va : Option Addr) (vc N : Nat) (vs : Nat -> SlZ) (gb : Nat -> Nat) (C : Nat -> List ByteArray) (i n : Nat) (kv : Value) (W : World) : Prop := ∃ k : Nat, k ≤ n /\ kv = .int .i64 k /\ Hid (AllS W lo b8 va vc N vs gb (iR C i k)) /\ Hid (TailS w5 m8 ds W)
set_option maxRecDepth 100000 in
set_option maxHeartbeats 16000000 in
theorem aIb {w5 W8 : World} {m8 lo b8 vc N : Nat} {va : Option Addr} {vs : Nat -> SlZ} {gb : Nat -> Nat} {C : Nat -> List ByteArray} {t : Array Value} {ds : List Deferred} {R : Ending -> World -> Prop}
 (hA : AllS W8 lo b8 va vc N vs gb C) (hN : N ≤ 1048576) (hC : ∀ j, j < N -> (C j).length ≤ 1048576) (hlo : w5.heap.size ≤ lo) (hT : TailS w5 m8 ds W8)
 (hz : t.size = 212) (t8 : t.getD 8 undef = .pointer (some ⟨b8, 0, none⟩))
 (hR : ∀ (t' : Array Value) W', AllS W' lo b8 va vc N vs gb (iW C N) -> TailS w5 m8 ds W' -> t'.size = 212 -> t'.getD 5 undef = t.getD 5 undef -> t'.getD 7 undef = t.getD 7 undef -> t'.getD 8 undef = t.getD 8 undef -> t'.getD 14 undef = t.getD 14 undef -> yO.wp Tryz.prog (bodyPostM Fence.wide 4 Tryz.prog Tryz.f7 R) { tmps := t', defers := ds } W') :
 aE0.wp Tryz.prog (bodyPostM Fence.wide 4 Tryz.prog Tryz.f7 R) { tmps := t, defers := ds } W8 := by
 obtain ⟨u, hu, rfl⟩ := uD t hz
 have e8 := (hu 8).symm.trans t8
 have HR := qH hR
 rw [e8] at HR ⊢
 clear hz t8 e8 hR hu
 obtain ⟨Q, eQ⟩ : ∃ Q, Q = bodyPostM Fence.wide 4 Tryz.prog Tryz.f7 R := ⟨_, rfl⟩
 rw [<- eQ] at HR ⊢
 have HC := qH (And.intro hC hlo)
 have HA := qH hA
 have HT := qH hT
 clear hC hlo hA eQ hT
 conv => arg 2; whnf
 show Code.wp _ (Code.seq _ yO) _ _ _
 go_wp2_with fail
 go_loopw [15] (fun iv wr => aK0 w5 m8 ds lo b8 va vc N vs gb C iv wr) (fun iv _ => N - (intOf iv).toNat)
 case atStart => exact ⟨0, Nat.zero_le _, rfl, qH (by rw [aDw]; exact HA.out), HT⟩
 case round =>
  obtain ⟨i, hi, rfl, hA, hT⟩ := hrel
  have b0 : wr.cell? ⟨b8, 0, none⟩ = some (.slice va N vc) := by rw [hA.out.box.cell']; rfl
  by_cases hlt : i < N
  ·have i1 : (i : Int) < (N : Int) := by omega
   obtain ⟨n, en⟩ : ∃ n, (C i).length = n := ⟨_, rfl⟩
   have hn16 : n ≤ 1048576 := by rw [<- en]; exact HC.out.1 i hlt
   have HE := qH en
   clear en
   go_wp2
   clear b0 i1
   go_loopw [16] (fun kv wr => aK1 w5 m8 ds lo b8 va vc N vs gb C i n kv wr) (fun kv _ => n - (intOf kv).toNat)
   case atStart => exact ⟨0, Nat.zero_le _, rfl, qH (by rw [aC5]; exact hA.out), hT⟩
   case round =>
    obtain ⟨k, hk, rfl, hA2, hT2⟩ := hrel
    have hlen : (iR C i k i).length = n := by rw [wP (by rw [HE.out]; exact hk), HE.out]
    have b0 : wr.cell? ⟨b8, 0, none⟩ = some (.slice va N vc) := by rw [hA2.out.box.cell']; rfl
    obtain ⟨g, eva, c1⟩ := hA2.out.at hlt
    subst eva
    rw [hA2.out.len hlt, hlen] at c1
    unfold slV at c1
    have i1 : (i : Int) < (N : Int) := by omega
    by_cases hkl : k < n
    ·have k1 : (k : Int) < (n : Int) := by omega
     obtain ⟨p1, p2, p3, p4⟩ := hA2.out.put hlt (show k < (iR C i k i).length by omega) (iT i k)
     rw [p1] at c1
     have HP := qH (And.intro p1 p2)
     clear p4
     have HJ := qH (show ∀ w', Ext wr w' -> (fun w' : World => w'.cell? ⟨b8, 0, none⟩ = some (.slice (some ⟨g, 0, none⟩) N vc) /\ w'.cell? ⟨g, i, none⟩ = some (.slice (some ⟨gb i, 0, none⟩) n n)) w' from fun w' hw => ⟨by rw [((hA2.out.ext hw).box).cell']; rfl, hw.cell c1 id⟩)
     obtain ⟨cs, hbk⟩ : ∃ cs, Blk wr (gb i) cs 9 /\ k < cs.length := by
      rcases hA2.out.lists.blk i hlt with ⟨q, _⟩ | ⟨_, _, rest, q⟩
      ·rw [p1] at q; cases q
      ·exact ⟨_, q, by rw [List.length_append, eA, hlen]; omega⟩
     have hbk' := qH hbk
     have HFz := qH (show ∀ w', Ext wr w' -> w'.frozen? ⟨gb i, k, none⟩ = false /\ ∃ x, w'.cell? ⟨gb i, k, none⟩ = some x from fun w' hw => ⟨(hbk.1.ext hw).free k, _, by rw [(hbk.1.ext hw).cell']; exact qG hbk.2⟩)
     clear p1 p2 p3 hlen hbk
     go_wp2
     clear b0 c1
     refine kK ?_
     refine aT (fun w' : World => w'.cell? ⟨b8, 0, none⟩ = some (.slice (some ⟨g, 0, none⟩) N vc) /\ w'.cell? ⟨g, i, none⟩ = some (.slice (some ⟨gb i, 0, none⟩) n n)) [15] (by kernel_rfl) (HJ.out _ (Kp.refl wr).drew) (fun hHeld => ?_)
     refine dI 0 ?_; try simp only [Act.put,sI,sZ,sS]
     refine dF 1 ?_; try simp only [Act.put,sI,sZ,sS]
     refine dI 2 ?_; try simp only [Act.put,sI,sZ,sS]
     refine dI 3 ?_; try simp only [Act.put,sI,sZ,sS]
     refine dF 4 ?_; try simp only [Act.put,sI,sZ,sS]
     refine dF 5 ?_; try simp only [Act.put,sI,sZ,sS]
     refine dF 6 ?_; try simp only [Act.put,sI,sZ,sS]
     refine dF 7 ?_; try simp only [Act.put,sI,sZ,sS]
     refine dF 8 ?_; try simp only [Act.put,sI,sZ,sS]
     refine dF 9 ?_; try simp only [Act.put,sI,sZ,sS]
     refine dF 10 ?_; try simp only [Act.put,sI,sZ,sS]
     refine dF 11 ?_; try simp only [Act.put,sI,sZ,sS]
     refine aE (i := 12) ?_
     refine aF (i := 12) rfl (fun K hK => ?_)
     go_simp
     refine hK.out _ _ ?_ (fun hHeld => ?_)
     ·(try dsimp only); (exact HJ.out _ (((Kp.refl wr).drew).alloc _))
     clear hK K; (try simp only [Act.put,sI,sZ,sS])
     refine aE (i := 13) ?_
     refine aF (i := 13) rfl (fun K hK => ?_)
     (have hcv := wL (i := i) (k := k) 3 ((Blk.new wr [.int .u8 (IntKind.u8.wrap i), .int .u8 (IntKind.u8.wrap ((i : Int) / 256)), .int .u8 (IntKind.u8.wrap k)] 5).ext (Kp.refl _).drew))
     go_simp
     refine hK.out _ _ ?_ (fun hHeld => ?_)
     ·(try dsimp only); (exact HJ.out _ (((Kp.refl wr).drew).alloc _))
     clear hK K; (try simp only [Act.put,sI,sZ,sS])
     refine dI 14 ?_; try simp only [Act.put,sI,sZ,sS]
     refine aE (i := 15) ?_
     refine aI (i := 15) rfl (by kernel_rfl) (fun K hK => ?_)
     (have hst := HFz.out _ (((Kp.refl wr).alloc (.cells #[.int .u8 (IntKind.u8.wrap i), .int .u8 (IntKind.u8.wrap ((i : Int) / 256)), .int .u8 (IntKind.u8.wrap k)] 5)).drew); obtain ⟨hst1, x, hst2⟩ := hst)
     go_simp
     refine hK.out _ _ ?_
     clear hK K; (try simp only [Act.put,sI,sZ,sS])
     refine aK (by kernel_rfl) ?_ _
     refine fE ?_
     have hx : Ext wr (wr.alloc (.cells #[.int .u8 (IntKind.u8.wrap i), .int .u8 (IntKind.u8.wrap ((i : Int) / 256)), .int .u8 (IntKind.u8.wrap k)] 5)).drew := ((Kp.refl wr).alloc _).drew
     have hput := (hA2.out.ext hx).put hlt (show k < (iR C i k i).length by rw [wP (by rw [HE.out]; exact hk), HE.out]; exact hkl) (iT i k)
     have h4 := hput.2.2.2
     rw [aC6 (by rw [HE.out]; exact hkl)] at h4
     have hT3 := (hT2.out.more hx).kp (Kp.setCell (F := fun q => q = gb i) (p := ⟨gb i, k, none⟩) (Kp.refl _) (fun _ => rfl) (.string (iT i k))) fun q e => by
      have e' : q = gb i := e
      subst e'
      exact ⟨⟨_, (hbk'.out.1.ext hx), rfl⟩, Nat.le_trans HC.out.2 HP.out.2⟩
     have HG := qH (And.intro h4 hT3)
     clear hHeld hx hput h4 hT3 hcv hst1 hst2
     go_wp2
     go_roundw
     case rel => exact ⟨k + 1, by omega, by first | rfl | (congr 1; done) | (congr 1; omega), qH HG.out.1, qH HG.out.2⟩
     case measure => simp [intOf]; omega
    ·obtain rfl : k = n := by omega
     have HZ := qH (aFz HE.out)
     go_wp2
     go_roundw
     case rel => exact ⟨i + 1, by omega, by first | rfl | (congr 1; done) | (congr 1; omega), qH (by rw [<- HZ.out]; exact hA2.out), hT2⟩
     case measure => simp [intOf]; omega
  ·obtain rfl : i = N := by omega
   go_wp2_with fail
   exact HR.out _ _ hA.out hT.out rfl rfl rfl rfl rfl
end Go.Proofs.YtinnmeiphbdogaaGreat
/- The law of joins: JoinOwn: each list is gone on with. -/
namespace Go.Proofs.YtinnmeiphbdogaaGreat
open Go.RowKit Go.Shelf
attribute [local go_sem] Oper.semAt_some
structure MoreS (W : World) (m : Nat) (N : Nat) (ws : Nat -> SlZ) (D : Nat -> List ByteArray) : Prop where
 row : ∀ j, j < N -> (ws j).2.1 = (D j).length /\ Row W 9 1 (slV (ws j)) (D j).length (strs (D j)) (fun k => m ≤ k)
theorem MoreS.kp {W W' : World} {F : Nat -> Prop} {m N : Nat} {ws : Nat -> SlZ} {D : Nat -> List ByteArray} (h : MoreS W m N ws D) (hk : Kp F W W') (hF : ∀ g cs, Blk W g cs 9 -> ¬ F g) : MoreS W' m N ws D :=
 ⟨fun j hj => ⟨(h.row j hj).1, (h.row j hj).2.kp' hk fun g hg _ => by
  obtain ⟨cs, hb⟩ := aP (h.row j hj).2 hg
  exact hF g _ hb⟩⟩
theorem MoreS.ext {W W' : World} {m N : Nat} {ws : Nat -> SlZ} {D : Nat -> List ByteArray} (h : MoreS W m N ws D) (hk : Ext W W') : MoreS W' m N ws D := h.kp hk fun _ _ _ => id
theorem MoreS.push {W : World} {m N : Nat} {ws : Nat -> SlZ} {D : Nat -> List ByteArray} (h : MoreS W m N ws D) {q : SlZ} (h1 : q.2.1 = (D N).length) (h2 : Row W 9 1 (slV q) (D N).length (strs (D N)) (fun k => m ≤ k)) : MoreS W m (N + 1) (bP ws N q) D :=
 ⟨fun j hj => by
  by_cases e : j = N
  ·subst e; rw [upd_same]; exact ⟨h1, h2⟩
  ·rw [show bP ws N q j = ws j from if_neg e]; exact h.row j (by omega)⟩
def gA (C : Nat -> List ByteArray) : Nat -> List ByteArray := fun j => C j ++ (List.range 9).map (iS j)
def aKy (w5 W8 : World) (m8 : Nat) (ds : List Deferred) (lo b8 : Nat) (va : Option Addr) (vc N : Nat) (vs : Nat -> SlZ) (gb : Nat -> Nat) (C : Nat -> List ByteArray) (iv mv : Value) (W : World) : Prop := ∃ i : Nat, i ≤ N /\ iv = .int .i64 i /\ ∃ ws, Hid (AllS W lo b8 va vc N vs gb C) /\ Hid (TailS w5 m8 ds W) /\ Hid (Row W 34 1 mv i (gR ws i) (New W8)) /\ Hid (MoreS W W8.heap.size i ws (gA C)) /\ Hid (Ext W8 W)
def aKz (X : World) (vi : Option Addr) (Ci : List ByteArray) (i n : Nat) (kv gv : Value) (W : World) : Prop := ∃ k : Nat, k ≤ 9 /\ kv = .int .i64 k /\ ∃ la lc, gv = .slice la (n + k) lc /\ Hid ((k = 0 /\ la = vi /\ lc = n) \/ (0 < k /\ Row W 9 1 gv (n + k) (strs (Ci ++ (List.range k).map (iS i))) (New X))) /\ Hid (Ext X W)
set_option maxRecDepth 100000 in
set_option maxHeartbeats 16000000 in
theorem aIa {w5 W8 : World} {m8 lo b8 vc N : Nat} {va : Option Addr} {vs : Nat -> SlZ} {gb : Nat -> Nat} {C : Nat -> List ByteArray} {t : Array Value} {ds : List Deferred} {R : Ending -> World -> Prop}
 (hA : AllS W8 lo b8 va vc N vs gb C) (hN : N ≤ 1048576) (hC : ∀ j, j < N -> (C j).length ≤ 1048576) (hT : TailS w5 m8 ds W8)
 (hz : t.size = 212) (t8 : t.getD 8 undef = .pointer (some ⟨b8, 0, none⟩)) (t14 : t.getD 14 undef = .slice none 0 0)
 (hR : ∀ (t' : Array Value) W' ws ma mc, AllS W' lo b8 va vc N vs gb C -> TailS w5 m8 ds W' -> Row W' 34 1 (.slice ma N mc) N (gR ws N) (New W8) -> MoreS W' W8.heap.size N ws (gA C) -> t'.size = 212 -> t'.getD 5 undef = t.getD 5 undef -> t'.getD 7 undef = t.getD 7 undef -> t'.getD 8 undef = t.getD 8 undef -> t'.getD 14 undef = .slice ma N mc -> aC7.wp Tryz.prog (bodyPostM Fence.wide 4 Tryz.prog Tryz.f7 R) { tmps := t', defers := ds } W') :
 yO.wp Tryz.prog (bodyPostM Fence.wide 4 Tryz.prog Tryz.f7 R) { tmps := t, defers := ds } W8 := by
 obtain ⟨u, hu, rfl⟩ := uD t hz
 have e8 := (hu 8).symm.trans t8
 have e14 := (hu 14).symm.trans t14
 have HR := qH hR
 rw [e8, e14] at HR ⊢
 clear hz t8 e8 t14 e14 hR hu
 obtain ⟨Q, eQ⟩ : ∃ Q, Q = bodyPostM Fence.wide 4 Tryz.prog Tryz.f7 R := ⟨_, rfl⟩
 rw [<- eQ] at HR ⊢
 have HC := qH hC
 have HA := qH hA
 have HT := qH hT
 clear hC hA eQ hT
 conv => arg 2; whnf
 show Code.wp _ (Code.seq _ aC7) _ _ _
 go_wp2_with fail
 go_loopw [17, 14] (fun iv mv wr => aKy w5 W8 m8 ds lo b8 va vc N vs gb C iv mv wr) (fun iv _ _ => N - (intOf iv).toNat)
 case atStart => exact ⟨0, Nat.zero_le _, rfl, fun _ => (none, 0, 0), HA, HT, qH (Row.nil _ _ _ _), qH ⟨fun j hj => by omega⟩, qH (Kp.refl _)⟩
 case round =>
  obtain ⟨i, hi, rfl, ws, hA, hT, hM, hW, hex⟩ := hrel
  have b0 : wr.cell? ⟨b8, 0, none⟩ = some (.slice va N vc) := by rw [hA.out.box.cell']; rfl
  by_cases hlt : i < N
  ·have i1 : (i : Int) < (N : Int) := by omega
   obtain ⟨g, eva, c1⟩ := hA.out.at hlt
   subst eva
   rw [hA.out.len hlt] at c1
   unfold slV at c1
   have hci := hA.out.lists.cells hlt
   have hno : (vs i).1 = none -> (C i).length = 0 := fun h => hA.out.lists.none hlt h
   have hn16 := HC.out i hlt
   obtain ⟨n, en⟩ : ∃ n, (C i).length = n := ⟨_, rfl⟩
   obtain ⟨vi, evi⟩ : ∃ a, (vs i).1 = a := ⟨_, rfl⟩
   obtain ⟨Ci, eCi⟩ : ∃ l, C i = l := ⟨_, rfl⟩
   simp only [evi, eCi] at c1 hci hno hn16 en
   simp only [en] at c1 hno hn16
   have HE := qH (And.intro en (And.intro evi (And.intro eCi (And.intro hci hno))))
   obtain ⟨ma, mc, emv, _, _⟩ := hM.out.shape
   subst emv
   clear en evi eCi hci hno
   go_wp2
   clear c1 b0
   generalize hwq : wr = wq at *
   clear hwq
   go_loopw [19, 18] (fun kv gv w => aKz wq vi Ci i n kv gv w) (fun kv _ _ => 9 - (intOf kv).toNat)
   case atStart => exact ⟨0, Nat.zero_le _, rfl, vi, n, rfl, qH (.inl ⟨rfl, rfl, rfl⟩), qH (Kp.refl _)⟩
   case round =>
    obtain ⟨k, hk, rfl, la, lc, rfl, hg, hex2⟩ := hrel
    by_cases hk9 : k < 9
    ·have k1 : (k : Int) < 9 := by omega
     have hcv := wK (i := i) (k := k) 4 (Blk.new wr [.int .u8 (cZ i).toNat, .int .u8 (cZ ((i : Int) / 256)).toNat, .int .u8 1, .int .u8 (cZ k).toNat] 5)
     have hc1 := CellsAt.one (wr.alloc (.cells #[.int .u8 (cZ i).toNat, .int .u8 (cZ ((i : Int) / 256)).toNat, .int .u8 1, .int .u8 (cZ k).toNat] 5)) (.string (iS i k)) 9
     rw [aJ] at hc1
     have HC1 := qH hc1
     clear hc1
     have y1 := dE i
     have y2 := dE ((i : Int) / 256)
     have y3 := dE k
     have es : strs (Ci ++ (List.range k).map (iS i)) ++ [.string (iS i k)] = strs (Ci ++ (List.range (k + 1)).map (iS i)) := by
      rw [List.range_succ, List.map_append, <- List.append_assoc]
      unfold strs
      simp
     have HS := qH es
     clear es
     rcases hg.out with ⟨ek, el, ec⟩ | ⟨hk0, hrow⟩
     ·subst el
      replace ec := ec.symm
      subst ec
      have HS0 := qH (show strs Ci ++ [.string (iS i k)] = strs (Ci ++ (List.range (k + 1)).map (iS i)) from by rw [<- HS.out, ek]; simp)
      have hnc : la = none -> n = 0 := fun e => by
       exact HE.out.2.2.2.2 e
      have hcl : CellsAt wr la (strs Ci) := by
       have h := HE.out.2.2.2.1
       exact h.ext hex2.out
      have HL := qH (And.intro hnc (And.intro hcl ek))
      have HZ := qH hex2.out
      clear hg hnc hcl ek
      go_wp2_with (first | (at_builtin; refine Halted.out ?_))
      refine Halted.mk (aCh aBw rfl _ _ rfl (ao := la) (n := n) (xs := strs Ci) (by show Value.slice la (n + k) n = Value.slice la n n; rw [HL.out.2.2]; rfl) ((HL.out.2.1.alloc _).alloc _) (by rw [eA]; have h := HE.out.1; omega) HL.out.1 rfl HC1.out rfl (by omega) (by omega) (by unfold maxLen; omega) ?_)
      intro v6 w6 hr6 hk6
      obtain ⟨xa, xc, exv, _, _⟩ := hr6.shape
      subst exv
      have H6 := qH (And.intro hr6 hk6)
      clear hr6 hk6 hcv y1 y2 y3
      go_wp2
      go_roundw
      case rel =>
       refine ⟨k + 1, by omega, by first | rfl | (congr 1; done) | (congr 1; omega), xa, xc, by rw [HL.out.2.2], qH (.inr ⟨by omega, ?_⟩), qH (HZ.out.trans ((((Kp.refl wr).alloc _).alloc _).trans H6.out.2))⟩
       rw [<- HS0.out, show n + (k + 1) = n + 1 from by rw [HL.out.2.2]]
       exact H6.out.1.mono fun g hg => by
        have h1 := HZ.out.size
        have h2 : ((wr.alloc _).alloc _).heap.size ≤ g := hg
        rw [aJ, aJ] at h2
        show wq.heap.size ≤ g
        omega
      case measure => simp [intOf]; omega
     ·have HZ := qH (And.intro hex2.out (And.intro hrow hk0))
      clear hg hrow hk0
      go_wp2_with (first | (at_builtin; refine Halted.out ?_))
      refine Halted.mk (gV aBw rfl _ _ rfl (F := fun _ => False) (w0 := wq) ((HZ.out.1.alloc _).alloc _) rfl ((HZ.out.2.1.alloc _).alloc _) rfl HC1.out rfl (by simp [Value.oneCell']) (by omega) (by unfold maxLen; omega) ?_)
      intro v6 w6 hr6 hk6 _ _
      obtain ⟨xa, xc, exv, _, _⟩ := hr6.shape
      subst exv
      have H6 := qH (And.intro hr6 hk6)
      clear hr6 hk6 hcv y1 y2 y3
      go_wp2
      go_roundw
      case rel =>
       refine ⟨k + 1, by omega, by first | rfl | (congr 1; done) | (congr 1; omega), xa, xc, rfl, qH (.inr ⟨by omega, ?_⟩), qH H6.out.2⟩
       rw [<- HS.out]
       exact H6.out.1
      case measure => simp [intOf]; omega
    ·obtain rfl : k = 9 := by omega
     obtain ⟨h0, _⟩ | ⟨_, hrow⟩ := hg.out
     ·cases h0
     have HZ := qH (And.intro hrow hex2.out)
     clear hg hrow
     go_wp2_with (first | (at_builtin; refine Halted.out ?_))
     refine Halted.mk (gV mY rfl _ _ rfl (F := fun _ => False) (w0 := W8) ((hex.out.trans HZ.out.2).alloc _) rfl ((hM.out.ext HZ.out.2).alloc _) rfl (CellsAt.one _ (.slice la (n + 9) lc) _) (by rfl) (by simp [Value.oneCell']) (by omega) (by unfold maxLen; omega) ?_)
     intro v6 w6 hr6 hk6 hk6b _
     obtain ⟨xa, xc, exv, _, _⟩ := hr6.shape
     subst exv
     have hx : Ext wq (wr.alloc (.cells #[.slice la (n + 9) lc] 34)) := HZ.out.2.alloc _
     have hnb : ∀ g cs, Blk (wr.alloc (.cells #[.slice la (n + 9) lc] 34)) g cs 9 -> ¬ (Value.slice ma i mc).ownBlock = some g := fun g cs hb e => by
      obtain ⟨cs2, hb2⟩ := aP (hM.out.ext hx) e
      exact absurd (aM hb hb2) (by decide)
     have hcm : ∀ k, (Value.slice ma i mc).ownBlock = some k -> fK (wr.alloc (.cells #[.slice la (n + 9) lc] 34)) k /\ W8.heap.size ≤ k := fun k e => by
      obtain ⟨cs2, hb2⟩ := aP (hM.out.ext hx) e
      exact ⟨⟨_, hb2, rfl⟩, hM.out.block k e⟩
     have hk6c : Kp (fun k => (Value.slice ma i mc).ownBlock = some k) wq w6 := (Ext.kp hx).trans hk6b
     have hcq : ∀ k, (Value.slice ma i mc).ownBlock = some k -> (∃ cs, Blk wq k cs 34) /\ W8.heap.size ≤ k := fun k e => by
      obtain ⟨cs2, hb2⟩ := aP hM.out e
      exact ⟨⟨_, hb2⟩, hM.out.block k e⟩
     have hg8 : g < W8.heap.size := by
      obtain ⟨g', e', c'⟩ := HA.out.at hlt
      cases e'
      exact World.block_lt_of_cell? _ _ c'
     have hA' := hA.out.kp hk6c (fun k hk => (hcq k hk).1) (fun g' hg' hf => by have e : g = g' := Option.some.inj hg'; have h2 := (hcq g' hf).2; omega)
     have hT' := hT.out.kp hk6c fun k hk => ⟨by obtain ⟨cs, hb⟩ := (hcq k hk).1; exact ⟨_, hb, rfl⟩, Nat.le_trans HT.out.ext.size (hcq k hk).2⟩
     have hW' := hW.out.kp hk6c fun g' cs hb hf => by obtain ⟨cs2, hb2⟩ := (hcq _ hf).1; exact absurd (aM hb hb2) (by decide)
     have hrow' : Row w6 9 1 (.slice la (n + 9) lc) (n + 9) (strs (Ci ++ (List.range 9).map (iS i))) (New wq) := (HZ.out.1.alloc _).kp' hk6b fun g' hg' _ hf => by
      obtain ⟨cs, hb⟩ := aP (HZ.out.1.alloc _) hg'
      exact hnb _ _ hb hf
     have eD : gA C i = Ci ++ (List.range 9).map (iS i) := by unfold gA; rw [HE.out.2.2.1]
     have hlD : (gA C i).length = n + 9 := by rw [eD, List.length_append, <- HE.out.2.2.1, List.length_map, List.length_range]; have h := HE.out.1; rw [<- HE.out.2.2.1] at h; omega
     have hP := hW'.push (q := (la, n + 9, lc)) hlD.symm (by
      rw [hlD, eD]
      exact hrow'.mono fun k hk => Nat.le_trans hex.out.size hk)
     have hr6' : Row w6 34 1 (.slice xa (i + 1) xc) (i + 1) (gR (bP ws i (la, n + 9, lc)) (i + 1)) (New W8) := by
      unfold gR
      rw [iD]
      exact hr6
     have HF := qH (And.intro hA' (And.intro hT' (And.intro hr6' (And.intro hP hk6))))
     clear hr6 hk6 hk6b hx hnb hcm hk6c hcq hg8 hA' hT' hW' hrow' eD hlD hP hr6'
     go_wp2
     go_roundw
     case rel => exact ⟨i + 1, by omega, by first | rfl | (congr 1; done) | (congr 1; omega), _, qH HF.out.1, qH HF.out.2.1, qH HF.out.2.2.1, qH HF.out.2.2.2.1, qH HF.out.2.2.2.2⟩
     case measure => simp [intOf]; omega
  ·obtain rfl : i = N := by omega
   obtain ⟨ma, mc, emv, _, _⟩ := hM.out.shape
   subst emv
   go_wp2_with fail
   exact HR.out _ _ ws _ _ hA.out hT.out hM.out hW.out rfl rfl rfl rfl rfl
end Go.Proofs.YtinnmeiphbdogaaGreat
/- The law of joins: JoinOwn: all lists are looked at. -/
namespace Go.Proofs.YtinnmeiphbdogaaGreat
open Go.RowKit Go.Shelf
attribute [local go_sem] Oper.semAt_some
theorem aEy {w W : World} {tmps : Array Value} {ds : List Deferred} {lo : Nat} (hm : Marks lo W ds) (hk : Ext w W) (hlo : w.heap.size ≤ lo) (h4 : tmps.getD 4 undef = .bool true) :
 bodyPostM Fence.wide 4 Tryz.prog Tryz.f7 (RetN w fun _ v => v = .bool true) .ret { tmps := tmps, defers := ds } W := by
 refine fF hm fun w' e1 e2 e3 e4 e5 e6 => ?_
 have kx : Kp (fun k => lo ≤ k /\ ¬ fK W k) W w' := ⟨e1, e2, e3, by omega, fun k hk hf => by
  by_cases h : lo ≤ k
  ·by_cases h2 : ∃ o : Obj, W.heap[k]? = some o /\ o.isCells = true
   ·obtain ⟨o, h2, h3⟩ := h2
    rw [h2]; exact e6 k o h2 h3
   ·exact absurd ⟨h, h2⟩ hf
  ·exact e5 k (by omega)⟩
 have hx : Ext w w' := hk.trans' kx fun i hi h => absurd h.1 (by omega)
 refine ⟨.bool true, ?_, RetN.mk hx rfl⟩
 have h4' : tmps[4]?.getD undef = .bool true := by simpa using h4
 simp [results, Tryz.f7, go_sem, h4']
theorem aJ0 (nn : Nat -> Nat) {i k : Nat} (h : k < nn i) : (gA (fun j => marksOf j (nn j)) i)[k]? = some (iT i k) := by
 unfold gA marksOf
 rw [List.getElem?_append_left (by simpa using h)]
 simp [h]
theorem aJz (nn : Nat -> Nat) {i k : Nat} (h : k < 9) : (gA (fun j => marksOf j (nn j)) i)[nn i + k]? = some (iS i k) := by
 unfold gA marksOf
 rw [List.getElem?_append_right (by simp)]
 simp [h]
theorem xC (nn : Nat -> Nat) (i : Nat) : (gA (fun j => marksOf j (nn j)) i).length = nn i + 9 := by
 unfold gA marksOf; simp
theorem aE4 {W : World} {m N mc : Nat} {ma : Option Addr} {M : Nat -> Prop} {ws : Nat -> SlZ} {D : Nat -> List ByteArray} (hr : Row W 34 1 (.slice ma N mc) N (gR ws N) M) (h : MoreS W m N ws D) {i k : Nat} (hi : i < N) {s : ByteArray} (hk : (D i)[k]? = some s) :
 ∃ b o c g q, ma = some ⟨b, o, none⟩ /\ W.cell? ⟨b, o + i, none⟩ = some (.slice (some ⟨g, q, none⟩) (D i).length c) /\ W.cell? ⟨g, q + k, none⟩ = some (.string s) := by
 obtain ⟨ao, cap, e, hc, _⟩ := hr.shape
 cases e
 obtain ⟨b, o, e2, c2⟩ := hc i (slV (ws i)) (by unfold gR; simp [hi])
 obtain ⟨h1, h2⟩ := h.row i hi
 obtain ⟨ao3, cap3, e3, hc3, _⟩ := h2.shape
 obtain ⟨g, q, e4, c4⟩ := hc3 k (.string s) (by unfold strs; simp [hk])
 refine ⟨b, o, cap3, g, q, e2, ?_, c4⟩
 rw [c2, e3, e4]
def aEm (W8 : World) (N : Nat) (iv : Value) (W : World) : Prop := ∃ i : Nat, i ≤ N /\ iv = .int .i64 i /\ Hid (Ext W8 W)
set_option maxRecDepth 100000 in
set_option maxHeartbeats 16000000 in
theorem aJu {w w5 W8 : World} {m8 lo b8 vc N : Nat} {va : Option Addr} {vs ws : Nat -> SlZ} {gb : Nat -> Nat} {nn : Nat -> Nat} {ma : Option Addr} {mc : Nat} {M : Nat -> Prop} {t : Array Value} {ds : List Deferred} {pb pw : Value}
 (hA : AllS W8 lo b8 va vc N vs gb (fun j => marksOf j (nn j))) (hMr : Row W8 34 1 (.slice ma N mc) N (gR ws N) M) (hM : MoreS W8 m8 N ws (gA fun j => marksOf j (nn j))) (hN : N ≤ 1048576) (hn : ∀ j, j < N -> nn j ≤ 1048576) (hw5 : Ext w w5) (hT : TailS w5 lo ds W8) (hlo : w5.heap.size ≤ lo)
 (hS : ∀ X, Ext W8 X -> Calls Tryz.prog 47 #[pb, pw] X (RetN X fun _ v => v = .bool true))
 (hz : t.size = 212) (t5 : t.getD 5 undef = pb) (t7 : t.getD 7 undef = pw) (t8 : t.getD 8 undef = .pointer (some ⟨b8, 0, none⟩)) (t14 : t.getD 14 undef = .slice ma N mc) :
 aC7.wp Tryz.prog (bodyPostM Fence.wide 4 Tryz.prog Tryz.f7 (RetN w fun _ v => v = .bool true)) { tmps := t, defers := ds } W8 := by
 obtain ⟨u, hu, rfl⟩ := uD t hz
 have e5 := (hu 5).symm.trans t5
 have e7 := (hu 7).symm.trans t7
 have e8 := (hu 8).symm.trans t8
 have e14 := (hu 14).symm.trans t14
 rw [e5, e7, e8, e14]
 clear hz t5 e5 t7 e7 t8 e8 t14 e14 hu
 obtain ⟨Q, eQ⟩ : ∃ Q, Q = bodyPostM Fence.wide 4 Tryz.prog Tryz.f7 (RetN w fun _ v => v = .bool true) := ⟨_, rfl⟩
 rw [<- eQ]
 have EQ := qH eQ
 have HA := qH hA
 have HM := qH (And.intro hMr hM)
 have HT := qH (And.intro hT (And.intro hw5 hlo))
 have HS := qH hS
 have HN := qH hn
 clear hA hMr hM hT hw5 hlo hS hn eQ
 conv => arg 2; whnf
 go_wp2_with fail
 go_loopw [20] (fun iv wr => aEm W8 N iv wr) (fun iv _ => N - (intOf iv).toNat)
 case atStart => exact ⟨0, Nat.zero_le _, rfl, qH (Kp.refl _)⟩
 case round =>
  obtain ⟨i, hi, rfl, hex⟩ := hrel
  have hA := HA.out.ext hex.out
  have b0 : wr.cell? ⟨b8, 0, none⟩ = some (.slice va N vc) := by rw [hA.box.cell']; rfl
  by_cases hlt : i < N
  ·have i1 : (i : Int) < (N : Int) := by omega
   obtain ⟨g, eva, c1⟩ := hA.at hlt
   subst eva
   obtain ⟨n, en⟩ : ∃ n, nn i = n := ⟨_, rfl⟩
   have hn16 : n ≤ 1048576 := by rw [<- en]; exact HN.out i hlt
   have hml : (marksOf i (nn i)).length = n := by unfold marksOf; simp [en]
   rw [hA.len hlt] at c1
   have c1' : wr.cell? ⟨g, i, none⟩ = some (.slice (vs i).1 n n) := by rw [c1]; unfold slV; simp only [hml]
   have HE := qH (And.intro en (And.intro hml hlt))
   have HX := qH hex.out
   clear c1 en hml hA
   go_wp2
   clear b0 c1' i1
   go_loopw [22] (fun kv wr => aEm W8 n kv wr) (fun kv _ => n - (intOf kv).toNat)
   case atStart => exact ⟨0, Nat.zero_le _, rfl, HX⟩
   case round =>
    obtain ⟨k, hk, rfl, hex2⟩ := hrel
    by_cases hkl : k < n
    ·have k1 : (k : Int) < (n : Int) := by omega
     have hA := HA.out.ext hex2.out
     have b0 : wr.cell? ⟨b8, 0, none⟩ = some (.slice (some ⟨g, 0, none⟩) N vc) := by rw [hA.box.cell']; rfl
     obtain ⟨g', eg, c1⟩ := hA.at HE.out.2.2
     cases eg
     rw [hA.len HE.out.2.2] at c1
     obtain ⟨q, o, eq1, c2⟩ := hA.lists.cells HE.out.2.2 k (.string (iT i k)) (by unfold strs marksOf; simp [HE.out.1, hkl])
     have c1' : wr.cell? ⟨g, i, none⟩ = some (.slice (some ⟨q, o, none⟩) n n) := by rw [c1]; unfold slV; simp only [HE.out.2.1, eq1]
     obtain ⟨b, o2, c, gw, qo, ema, c3, c4⟩ := aE4 (HM.out.1.ext hex2.out) (HM.out.2.ext hex2.out) HE.out.2.2 (aJ0 nn (by rw [HE.out.1]; exact hkl))
     rw [xC, HE.out.1] at c3
     subst ema
     have HJ := qH (show ∀ w', Ext wr w' -> (fun w' : World => w'.cell? ⟨b8, 0, none⟩ = some (.slice (some ⟨g, 0, none⟩) N vc) /\ w'.cell? ⟨g, i, none⟩ = some (.slice (some ⟨q, o, none⟩) n n) /\ w'.cell? ⟨q, o + k, none⟩ = some (.string (iT i k)) /\ w'.cell? ⟨b, o2 + i, none⟩ = some (.slice (some ⟨gw, qo, none⟩) (n + 9) c) /\ w'.cell? ⟨gw, qo + k, none⟩ = some (.string (iT i k))) w' from fun w' hw => ⟨hw.cell b0 id, hw.cell c1' id, hw.cell c2 id, hw.cell c3 id, hw.cell c4 id⟩)
     have i1 : (i : Int) < (N : Int) := by have := HE.out.2.2; omega
     have hiN := HE.out.2.2
     have k9 : (k : Int) < (n : Int) + 9 := by omega
     have hss := yF (iT i k)
     clear hA b0 c1 eq1 c2 c1' c3 c4
     go_wp2
     refine kK ?_
     refine aT (fun w' : World => w'.cell? ⟨b8, 0, none⟩ = some (.slice (some ⟨g, 0, none⟩) N vc) /\ w'.cell? ⟨g, i, none⟩ = some (.slice (some ⟨q, o, none⟩) n n) /\ w'.cell? ⟨q, o + k, none⟩ = some (.string (iT i k)) /\ w'.cell? ⟨b, o2 + i, none⟩ = some (.slice (some ⟨gw, qo, none⟩) (n + 9) c) /\ w'.cell? ⟨gw, qo + k, none⟩ = some (.string (iT i k))) [] (by kernel_rfl) (HJ.out _ (Kp.refl wr).drew) (fun hHeld => ?_)
     refine dI 0 ?_; try simp only [Act.put,sI,sZ,sS]
     refine dF 1 ?_; try simp only [Act.put,sI,sZ,sS]
     refine dI 2 ?_; try simp only [Act.put,sI,sZ,sS]
     refine dI 3 ?_; try simp only [Act.put,sI,sZ,sS]
     refine dF 4 ?_; try simp only [Act.put,sI,sZ,sS]
     refine dI 5 ?_; try simp only [Act.put,sI,sZ,sS]
     refine dI 6 ?_; try simp only [Act.put,sI,sZ,sS]
     refine dF 7 ?_; try simp only [Act.put,sI,sZ,sS]
     refine dF 8 ?_; try simp only [Act.put,sI,sZ,sS]
     refine dF 9 ?_; try simp only [Act.put,sI,sZ,sS]
     refine dF 10 ?_; try simp only [Act.put,sI,sZ,sS]
     refine dF 11 ?_; try simp only [Act.put,sI,sZ,sS]
     refine dF 12 ?_; try simp only [Act.put,sI,sZ,sS]
     refine dF 13 ?_; try simp only [Act.put,sI,sZ,sS]
     refine aE (i := 14) ?_
     refine aF (i := 14) rfl (fun K hK => ?_)
     go_simp
     refine hK.out _ _ ?_ (fun hHeld => ?_)
     ·(try dsimp only); (exact HJ.out _ (((Kp.refl wr).drew).alloc _))
     clear hK K; (try simp only [Act.put,sI,sZ,sS])
     refine aE (i := 15) ?_
     refine aF (i := 15) rfl (fun K hK => ?_)
     (have hcv := wL (i := i) (k := k) 3 ((Blk.new wr [.int .u8 (IntKind.u8.wrap i), .int .u8 (IntKind.u8.wrap ((i : Int) / 256)), .int .u8 (IntKind.u8.wrap k)] 5).ext (Kp.refl _).drew))
     go_simp
     refine hK.out _ _ ?_ (fun hHeld => ?_)
     ·(try dsimp only); (exact HJ.out _ (((Kp.refl wr).drew).alloc _))
     clear hK K; (try simp only [Act.put,sI,sZ,sS])
     refine dF 16 ?_; try simp only [Act.put,sI,sZ,sS]
     refine dF 17 ?_; try simp only [Act.put,sI,sZ,sS]
     (first | (refine dF 18 ?_) | (refine dO 18 ?_)); (try simp only [Act.put,sI,sZ,sS])
     (first | (refine dF 19 ?_) | (refine dO 19 ?_)); (try simp only [Act.put,sI,sZ,sS])
     (first | (refine dI 20 ?_) | (refine dO 20 ?_)); (try simp only [Act.put,sI,sZ,sS])
     (first | (refine dI 21 ?_) | (refine dO 21 ?_)); (try simp only [Act.put,sI,sZ,sS])
     (first | (refine dF 22 ?_) | (refine dO 22 ?_)); (try simp only [Act.put,sI,sZ,sS])
     (first | (refine dI 23 ?_) | (refine dO 23 ?_)); (try simp only [Act.put,sI,sZ,sS])
     (first | (refine dI 24 ?_) | (refine dO 24 ?_)); (try simp only [Act.put,sI,sZ,sS])
     (first | (refine dI 25 ?_) | (refine dO 25 ?_)); (try simp only [Act.put,sI,sZ,sS])
     (first | (refine dF 26 ?_) | (refine dO 26 ?_)); (try simp only [Act.put,sI,sZ,sS])
     (first | (refine dI 27 ?_) | (refine dO 27 ?_)); (try simp only [Act.put,sI,sZ,sS])
     (first | (refine dI 28 ?_) | (refine dO 28 ?_)); (try simp only [Act.put,sI,sZ,sS])
     (first | (refine dF 29 ?_) | (refine dO 29 ?_)); (try simp only [Act.put,sI,sZ,sS])
     (first | (refine dI 30 ?_) | (refine dO 30 ?_)); (try simp only [Act.put,sI,sZ,sS])
     (first | (refine dI 31 ?_) | (refine dO 31 ?_)); (try simp only [Act.put,sI,sZ,sS])
     (first | (refine dF 32 ?_) | (refine dO 32 ?_)); (try simp only [Act.put,sI,sZ,sS])
     refine dF 33 ?_; try simp only [Act.put,sI,sZ,sS]
     refine aK (by kernel_rfl) ?_ _
     refine fE ?_
     clear hHeld hcv
     go_wp2
     go_roundw
     case rel => exact ⟨k + 1, by omega, by first | rfl | (congr 1; done) | (congr 1; omega), qH (hex2.out.trans (((Kp.refl wr).alloc _).drew))⟩
     case measure => simp [intOf]; omega
    ·obtain rfl : n = k := by omega
     have HX2 := qH hex2.out
     go_wp2
     go_loopw [23] (fun kv wr => aEm W8 9 kv wr) (fun kv _ => 9 - (intOf kv).toNat)
     case atStart => exact ⟨0, Nat.zero_le _, rfl, HX2⟩
     case round =>
      obtain ⟨m, hm, rfl, hex3⟩ := hrel
      by_cases hm9 : m < 9
      ·have m1 : (m : Int) < 9 := by omega
       obtain ⟨nm, enm⟩ : ∃ x : Nat, n + m = x := ⟨_, rfl⟩
       obtain ⟨b, o2, c, gw, qo, ema, c3, c4⟩ := aE4 (HM.out.1.ext hex3.out) (HM.out.2.ext hex3.out) HE.out.2.2 (aJz nn hm9)
       rw [xC, HE.out.1] at c3
       rw [HE.out.1, enm] at c4
       subst ema
       have HJ := qH (show ∀ w', Ext wr w' -> (fun w' : World => w'.cell? ⟨b, o2 + i, none⟩ = some (.slice (some ⟨gw, qo, none⟩) (n + 9) c) /\ w'.cell? ⟨gw, qo + nm, none⟩ = some (.string (iS i m))) w' from fun w' hw => ⟨hw.cell c3 id, hw.cell c4 id⟩)
       have i1 : (i : Int) < (N : Int) := by have := HE.out.2.2; omega
       have hiN := HE.out.2.2
       have k9 : (nm : Int) < (n : Int) + 9 := by omega
       have e1 : IntKind.i64.wrap ((n : Int) + (m : Int)) = (nm : Int) := by rw [IntWalk.i64_in _ (by omega)]; omega
       have hss := yF (iS i m)
       have y1 := dE i
       have y2 := dE ((i : Int) / 256)
       have y3 := dE m
       have HM9 := qH (And.intro hm9 enm)
       clear c3 c4 enm hm9
       go_wp2
       refine kK ?_
       refine aT (fun w' : World => w'.cell? ⟨b, o2 + i, none⟩ = some (.slice (some ⟨gw, qo, none⟩) (n + 9) c) /\ w'.cell? ⟨gw, qo + nm, none⟩ = some (.string (iS i m))) [] (by kernel_rfl) (HJ.out _ (Kp.refl wr).drew) (fun hHeld => ?_)
       refine dF 0 ?_; try simp only [Act.put,sI,sZ,sS]
       refine dF 1 ?_; try simp only [Act.put,sI,sZ,sS]
       refine dI 2 ?_; try simp only [Act.put,sI,sZ,sS]
       refine dI 3 ?_; try simp only [Act.put,sI,sZ,sS]
       refine dF 4 ?_; try simp only [Act.put,sI,sZ,sS]
       refine dF 5 ?_; try simp only [Act.put,sI,sZ,sS]
       refine dF 6 ?_; try simp only [Act.put,sI,sZ,sS]
       refine dI 7 ?_; try simp only [Act.put,sI,sZ,sS]
       refine dI 8 ?_; try simp only [Act.put,sI,sZ,sS]
       refine dF 9 ?_; try simp only [Act.put,sI,sZ,sS]
       refine dF 10 ?_; try simp only [Act.put,sI,sZ,sS]
       refine dF 11 ?_; try simp only [Act.put,sI,sZ,sS]
       refine dF 12 ?_; try simp only [Act.put,sI,sZ,sS]
       refine dF 13 ?_; try simp only [Act.put,sI,sZ,sS]
       refine dF 14 ?_; try simp only [Act.put,sI,sZ,sS]
       refine dF 15 ?_; try simp only [Act.put,sI,sZ,sS]
       refine aE (i := 16) ?_
       refine aF (i := 16) rfl (fun K hK => ?_)
       go_simp
       refine hK.out _ _ ?_ (fun hHeld => ?_)
       ·(try dsimp only); (exact HJ.out _ (((Kp.refl wr).drew).alloc _))
       clear hK K; (try simp only [Act.put,sI,sZ,sS])
       refine aE (i := 17) ?_
       refine aF (i := 17) rfl (fun K hK => ?_)
       (have hcv := wK (i := i) (k := m) 4 ((Blk.new wr [.int .u8 (cZ i).toNat, .int .u8 (cZ ((i : Int) / 256)).toNat, .int .u8 1, .int .u8 (cZ m).toNat] 5).ext (Kp.refl _).drew))
       go_simp
       refine hK.out _ _ ?_ (fun hHeld => ?_)
       ·(try dsimp only); (exact HJ.out _ (((Kp.refl wr).drew).alloc _))
       clear hK K; (try simp only [Act.put,sI,sZ,sS])
       refine dF 18 ?_; try simp only [Act.put,sI,sZ,sS]
       refine aK (by kernel_rfl) ?_ _
       refine fE ?_
       clear hHeld hcv y1 y2 y3
       go_wp2
       go_roundw
       case rel => exact ⟨m + 1, by have := HM9.out.1; omega, by first | rfl | (congr 1; done) | (congr 1; omega), qH (hex3.out.trans (((Kp.refl wr).alloc _).drew))⟩
       case measure => have := HM9.out.1; simp [intOf]; omega
      ·obtain rfl : m = 9 := by omega
       go_wp2
       go_roundw
       case rel => exact ⟨i + 1, by have := HE.out.2.2; omega, by first | rfl | (congr 1; done) | (congr 1; omega), hex3⟩
       case measure => have := HE.out.2.2; simp [intOf]; omega
  ·obtain rfl : i = N := by omega
   clear hA
   go_wp2_with fail
   refine (HS.out wr hex.out).mono ?_
   rintro e w9 ⟨v, rfl, hk9, rfl⟩
   have hT9 := (HT.out.1.more hex.out).more hk9
   have hx9 := HT.out.2.1.trans hT9.ext
   have hl9 := Nat.le_trans HT.out.2.1.size HT.out.2.2
   have H9 := qH (And.intro hT9.marks (And.intro hx9 hl9))
   clear hT9 hx9 hl9 hk9 b0
   go_wp2_with fail
   rw [EQ.out]
   exact aEy H9.out.1 H9.out.2.1 H9.out.2.2 rfl
end Go.Proofs.YtinnmeiphbdogaaGreat
/- The document's Env: a variable's constant. -/
namespace Go.Proofs.YtinnmeiphbdogaaGreat
open Go.RowKit Go.Shelf
end Go.Proofs.YtinnmeiphbdogaaGreat
/- The document's Env: a term's constant. -/
namespace Go.Proofs.YtinnmeiphbdogaaGreat
open Go.RowKit Go.Shelf
end Go.Proofs.YtinnmeiphbdogaaGreat
/- The document's Head; Vars by both, of any rule; the law's same. -/
namespace Go.Proofs.YtinnmeiphbdogaaGreat
open Go.RowKit Go.Shelf
attribute [local go_sem] Oper.semAt_some
def dC (r : cN) : List ByteArray := if bD r = 0 then aB r.2.1 else []
set_option maxRecDepth 100000 in
theorem aFi (p : ByteArray) (hs : List aG) (ls : List aO) (ha : Option Addr) (hn hcap : Nat) (ba : Option Addr) (n bcap : Nat) (w : World) (G : Nat -> Prop) (hhn : hn = hs.length) (hh : aW w G ha hs) (hhl : hn ≤ 1048576) (hbn : n = ls.length) (h : cK w G ba ls) (hf : Fit ls) :
 Calls Tryz.prog 13 #[eF p ha hn hcap ba n bcap] w (RetN w fun w' v => ∃ ao cap, v = .slice ao (dC ((p, hs, ()), ls, ())).length cap /\ CellsAt w' ao (strs (dC ((p, hs, ()), ls, ()))) /\ cap = (dC ((p, hs, ()), ls, ())).length /\ OwnSl w w' v (dC ((p, hs, ()), ls, ()))) := by
 by_cases hc : bD ((p, hs, ()), ls, ()) = 0
 ·refine (zA p hs ls ha hn hcap ba n bcap w G hhn hh hhl hbn h hf hc).mono ?_
  rintro e w' ⟨v, rfl, hk, ao, cap, rfl, h1, h2, h3⟩
  exact RetN.mk hk ⟨ao, cap, by unfold dC; rw [if_pos hc], by unfold dC; rw [if_pos hc]; exact ⟨h2, h3⟩⟩
 ·obtain ⟨cR, ecR⟩ : ∃ c, bD ((p, hs, ()), ls, ()) = c := ⟨_, rfl⟩
  have HF := qH (show dC ((p, hs, ()), ls, ()) = [] from by unfold dC; rw [if_neg hc])
  have h1 := fun (W : World) (hW : Ext w W) => check_any p hs ls ha hn hcap ba n bcap W G hhn (hh.ext hW) hhl hbn (h.ext hW) hf
  rw [ecR] at h1 hc
  have HC := qH h1
  have hc' : ((cR : Int) == 0) = false := by simp; omega
  have hc2 : ((cR : Int) != 0) = true := by simp; omega
  clear h1 hhn hh hbn h hf hc ecR
  go_enter Tryz.func13, Tryz.ntmps13
  go_wp2_with fail
  refine (HC.out _ ((Kp.refl _).alloc _)).mono ?_
  rintro e w1 ⟨v, rfl, hk1, rfl⟩
  have X1 := qH (((Kp.refl _).alloc _).trans hk1)
  clear hk1
  go_wp2
  go_ret
  exact RetN.mk X1.out ⟨none, 0, by rw [HF.out]; rfl, by rw [HF.out]; exact ⟨CellsAt.nil _ _, rfl, none, 0, rfl, .inl ⟨rfl, rfl, rfl⟩⟩⟩
def aJg (w0 : World) (ss tt : List ByteArray) (n : Nat) (iv : Value) (w : World) : Prop := ∃ i : Nat, i ≤ n /\ iv = .int .i64 i /\ Hid (Ext w0 w) /\ Hid (ss.take i = tt.take i)
set_option maxRecDepth 100000 in
set_option maxHeartbeats 1000000 in
theorem aCr (ss tt : List ByteArray) (ao bo : Option Addr) (n m acap bcap : Nat) (w : World) (hn : n = ss.length) (hm : m = tt.length) (ha : CellsAt w ao (strs ss)) (hb : CellsAt w bo (strs tt)) (hl : n ≤ 4611686018427387904) :
 Calls Tryz.prog 17 #[.slice ao n acap, .slice bo m bcap] w (RetN w fun w' v => v = .bool (decide (ss = tt))) := by
 have HN := qH (And.intro hn hm); have HA := qH ha; have HB := qH hb
 clear hn hm ha hb
 by_cases hnm : n = m
 ·subst hnm
  have q1 : ((n : Int) != (n : Int)) = false := by simp
  go_enter Tryz.func17, Tryz.ntmps17
  go_wp2
  go_loopw [5] (fun iv wr => aJg w ss tt n iv wr) (fun iv _ => n - (intOf iv).toNat)
  case atStart => exact ⟨0, Nat.zero_le _, rfl, qH (Kp.refl w), qH rfl⟩
  case round =>
   obtain ⟨i, hi, rfl, hex, heq⟩ := hrel
   by_cases hlt : i < n
   ·obtain ⟨s, hs⟩ : ∃ s, ss[i]? = some s := ⟨_, qG (by rw [<- HN.out.1]; exact hlt)⟩
    obtain ⟨t, ht⟩ : ∃ t, tt[i]? = some t := ⟨_, qG (by rw [<- HN.out.2]; exact hlt)⟩
    obtain ⟨g1, o1, e1, c0⟩ := HA.out i (.string s) (by simp [strs, hs])
    obtain ⟨g2, o2, e2, d0⟩ := HB.out i (.string t) (by simp [strs, ht])
    subst e1 e2
    replace c0 := hex.out.cell c0 id
    replace d0 := hex.out.cell d0 id
    have HST := qH (And.intro hs ht)
    clear hs ht
    by_cases hst : s = t
    ·subst hst
     have q4 := str_eq s
     go_wp2
     go_quiet (fail)
     go_wp2
     go_roundw
     case rel => exact ⟨i + 1, by omega, by first | rfl | (congr 1; done) | (congr 1; omega), qH (hex.out.drewN _), qH (by rw [List.take_add_one, List.take_add_one, HST.out.1, HST.out.2, heq.out])⟩
     case measure => simp [intOf]; omega
    ·have q4 := kP hst
     have HD := qH (show decide (ss = tt) = false from decide_eq_false fun e => hst (by have h := HST.out.1; rw [e, HST.out.2] at h; cases h; rfl))
     clear hst
     go_wp2
     go_quiet (fail)
     go_wp2
     go_ret
     exact RetN.mk (hex.out.drewN _) (by rw [HD.out]; rfl)
   ·obtain rfl : n = i := by omega
    have HD := qH (show decide (ss = tt) = true from decide_eq_true (by
     have h := heq.out
     rw [List.take_of_length_le (by rw [<- HN.out.1]; exact Nat.le_refl _), List.take_of_length_le (by rw [<- HN.out.2]; exact Nat.le_refl _)] at h
     exact h))
    go_wp2
    go_ret
    exact RetN.mk hex.out (by rw [HD.out]; rfl)
 ·have q1 : ((n : Int) != (m : Int)) = true := by simp; omega
  have q2 : ((n : Int) == (m : Int)) = false := by simp; omega
  have HD := qH (show decide (ss = tt) = false from decide_eq_false fun e => hnm (by rw [HN.out.1, HN.out.2, e]))
  clear hnm
  go_enter Tryz.func17, Tryz.ntmps17
  go_wp2
  go_ret
  exact RetN.mk (Kp.refl w) (by rw [HD.out]; rfl)
end Go.Proofs.YtinnmeiphbdogaaGreat
/- The law of joins: JoinOwn: what stands behind the range. -/
namespace Go.Proofs.YtinnmeiphbdogaaGreat
open Go.RowKit Go.Shelf
attribute [local go_sem] Oper.semAt_some
theorem aJ8 {w8 W X : World} {b N s1 : Nat} {v v' : Value} {vs : Nat -> SlZ} {gb : Nat -> Nat} {C : Nat -> List ByteArray} {ya za : Option Addr} {H : List ByteArray} (h : AllJ w8 b (fun _ => False) N W v vs gb C) (hb : b < w8.heap.size) (hH : H.length ≤ 1048576)
 (h1 : W.heap.size ≤ s1) (h2 : s1 ≤ X.heap.size) (hy : OwnF X W.heap.size s1 ya H) (hz : OwnF X s1 X.heap.size za H) (hk : Kp (fun k => k = b \/ v.ownBlock = some k) W X) (hB : Blk X b [v'] 69)
 {va : Option Addr} {vc : Nat} (ev : v' = .slice va (N + 2) vc) (hr : Row X 34 1 v' (N + 2) (gR vs N ++ [.slice ya H.length H.length, .slice za H.length H.length]) (New w8)) :
 ∃ vs' gb' C', AllS X w8.heap.size b va vc (N + 2) vs' gb' C' /\ ∀ j, j < N + 2 -> (C' j).length ≤ 1048576 := by
 have hsz := h.kp.size
 have hnt : ∀ g cs, Blk W g cs 9 -> ¬ (g = b \/ v.ownBlock = some g) := fun g cs hg e => by
  rcases e with e | e
  ·rw [e] at hg; exact absurd (aM hg h.box) (by decide)
  ·obtain ⟨cs2, hb2⟩ := aP h.row e
   exact absurd (aM hg hb2) (by decide)
 have hL0 : ListsO X (fun g => w8.heap.size ≤ g) N vs gb C := h.lists.kp' hk (fun i hi ha e => by
  rcases h.lists.blk i hi with ⟨q, _⟩ | ⟨_, _, rest, q⟩
  ·rw [q] at ha; cases ha
  ·exact hnt _ _ q e) fun _ _ _ h => h.1
 obtain ⟨g2, C2, L2, b2, f2⟩ := hL0.push2 (s := W.heap.size) (s' := s1) (m := 1048576) (fun i hi hn => by
  rcases h.lists.blk i hi with ⟨q, _⟩ | ⟨_, _, rest, q⟩
  ·exact absurd q hn
  ·exact q.lt) h1 h.few (a := ya) (ss := H) (by
  rcases hy with hy | ⟨g, rest, q1, q2, q3, q4⟩
  ·exact .inl hy
  ·exact .inr ⟨g, rest, q1, by omega, q2, q3, q4⟩) hH
 obtain ⟨g3, C3, L3, b3, f3⟩ := L2.push2 (s' := X.heap.size) (m := 1048576) b2 h2 f2 (a := za) (ss := H) (by
  rcases hz with hz | ⟨g, rest, q1, q2, q3, q4⟩
  ·exact .inl hz
  ·exact .inr ⟨g, rest, q1, by omega, q2, q3, q4⟩) hH
 subst ev
 refine ⟨_, g3, C3, ⟨hB, ?_, L3, hb⟩, f3⟩
 rw [iD, iD]
 rw [List.append_assoc]
 exact hr
theorem AllS.congr {W : World} {lo b8 vc N : Nat} {va : Option Addr} {vs : Nat -> SlZ} {gb : Nat -> Nat} {C D : Nat -> List ByteArray} (h : AllS W lo b8 va vc N vs gb C) (hc : ∀ j, j < N -> C j = D j) : AllS W lo b8 va vc N vs gb D :=
 ⟨h.box, h.row, ⟨fun i hi => by rw [<- hc i hi]; exact h.lists.len i hi, fun i hi => by rw [<- hc i hi]; exact h.lists.blk i hi, h.lists.far⟩, h.lt⟩
theorem MoreS.congr {W : World} {m N : Nat} {ws : Nat -> SlZ} {C D : Nat -> List ByteArray} (h : MoreS W m N ws (gA C)) (hc : ∀ j, j < N -> C j = D j) : MoreS W m N ws (gA D) :=
 ⟨fun j hj => by
  have e : gA C j = gA D j := by unfold gA; rw [hc j hj]
  rw [<- e]; exact h.row j hj⟩
theorem xN (C : Nat -> List ByteArray) (N : Nat) : ∀ j, j < N -> iW C N j = marksOf j ((fun j => (C j).length) j) := fun j hj => by unfold iW; rw [if_pos hj]
noncomputable def aEz : Code := uX 6 (Tryz.f7.body.getD .skip)
set_option maxRecDepth 100000 in
set_option maxHeartbeats 16000000 in
theorem aH9 {w w5 w8 W : World} {gb0 b8 N : Nat} {p : ByteArray} {hs : List aG} {ls : List aO} {ha ba : Option Addr} {hn hcap n bcap : Nat} {v : Value} {vs : Nat -> SlZ} {gb : Nat -> Nat} {C : Nat -> List ByteArray} {t : Array Value} {ds : List Deferred} {pb pw : Value}
 (hJ : AllJ w8 b8 (fun _ => False) N W v vs gb C) (hb8 : b8 < w8.heap.size) (hbn : w5.heap.size ≤ b8) (hN : N ≤ 1000000) (hw : Ext w w5) (hm : Marks w8.heap.size W ds) (hx : Ext w5 w8)
 (hG : Blk w5 gb0 [.string p, .slice ha hn hcap, .slice ba n bcap] 27) (hvl : (dC ((p, hs, ()), ls, ())).length ≤ 1048576)
 (hVa : ∀ X, Ext w5 X -> Calls Tryz.prog 13 #[eF p ha hn hcap ba n bcap] X (RetN X fun w' v => ∃ ao cap, v = .slice ao (dC ((p, hs, ()), ls, ())).length cap /\ CellsAt w' ao (strs (dC ((p, hs, ()), ls, ()))) /\ cap = (dC ((p, hs, ()), ls, ())).length /\ OwnSl X w' v (dC ((p, hs, ()), ls, ()))))
 (hS : ∀ X, Ext w5 X -> Calls Tryz.prog 47 #[pb, pw] X (RetN X fun _ v => v = .bool true))
 (hz : t.size = 212) (t2 : t.getD 2 undef = .pointer (some ⟨gb0, 0, none⟩)) (t5 : t.getD 5 undef = pb) (t7 : t.getD 7 undef = pw) (t8 : t.getD 8 undef = .pointer (some ⟨b8, 0, none⟩)) :
 aEz.wp Tryz.prog (bodyPostM Fence.wide 4 Tryz.prog Tryz.f7 (RetN w fun _ v => v = .bool true)) { tmps := t, defers := ds } W := by
 obtain ⟨u, hu, rfl⟩ := uD t hz
 have e2 := (hu 2).symm.trans t2
 have e5 := (hu 5).symm.trans t5
 have e7 := (hu 7).symm.trans t7
 have e8 := (hu 8).symm.trans t8
 rw [e2, e5, e7, e8]
 clear hz t2 e2 t5 e5 t7 e7 t8 e8 hu
 obtain ⟨Q, eQ⟩ : ∃ Q, Q = bodyPostM Fence.wide 4 Tryz.prog Tryz.f7 (RetN w fun _ v => v = .bool true) := ⟨_, rfl⟩
 rw [<- eQ]
 have EQ := qH eQ
 obtain ⟨oa, oc, ev, _, _⟩ := hJ.row.shape
 subst ev
 have xW : Ext w5 W := hx.trans' hJ.kp fun i hi e => by have e' : i = b8 := e; omega
 have HJ := qH hJ
 have HT := qH (show TailS w5 w8.heap.size ds W from ⟨xW, hm⟩)
 have HW := qH (And.intro hw (And.intro hx (And.intro hb8 hbn)))
 have HVa := qH hVa
 have HS := qH hS
 have HVl := qH hvl
 have HK := qH (show ∀ X, Ext W X -> (fun X : World => X.cell? ⟨b8, 0, none⟩ = some (.slice oa N oc) /\ X.cell? ⟨gb0, 0, none⟩ = some (.string p) /\ X.cell? ⟨gb0, 1, none⟩ = some (.slice ha hn hcap) /\ X.cell? ⟨gb0, 2, none⟩ = some (.slice ba n bcap)) X from fun X hX =>
  ⟨by rw [(hJ.box.ext hX).cell']; rfl, by rw [((hG.ext xW).ext hX).cell']; rfl, by rw [((hG.ext xW).ext hX).cell']; rfl, by rw [((hG.ext xW).ext hX).cell']; rfl⟩)
 have hnow : ∀ g, (Value.slice oa N oc).ownBlock = some g -> ∃ cs, Blk W g cs 34 := fun g hg => aP hJ.row hg
 have hbx : ∀ (X Y : World) (o : Obj), Ext W X -> Kp (fun g => (Value.slice oa N oc).ownBlock = some g) (X.alloc o) Y -> Kp (fun g => (Value.slice oa N oc).ownBlock = some g) W Y := fun X Y o hX hY => ((Ext.kp hX).alloc o).trans hY
 have HBx := qH (show ∀ (X Y : World) (o : Obj), Ext W X -> Kp (fun g => (Value.slice oa N oc).ownBlock = some g) (X.alloc o) Y -> Blk Y b8 [.slice oa N oc] 69 from fun X Y o hX hY => hJ.box.kp (hbx X Y o hX hY) fun hg => by
  obtain ⟨cs, hb⟩ := hnow _ hg
  exact absurd (aM hb hJ.box) (by decide))
 have HKb := qH (show ∀ (X Y : World) (o : Obj), Ext W X -> Kp (fun g => (Value.slice oa N oc).ownBlock = some g) (X.alloc o) Y -> (fun X : World => X.cell? ⟨b8, 0, none⟩ = some (.slice oa N oc) /\ X.cell? ⟨gb0, 0, none⟩ = some (.string p) /\ X.cell? ⟨gb0, 1, none⟩ = some (.slice ha hn hcap) /\ X.cell? ⟨gb0, 2, none⟩ = some (.slice ba n bcap)) Y from fun X Y o hX hY => by
  have h1 := HBx.out X Y o hX hY
  have h2 := (hG.ext xW).kp (hbx X Y o hX hY) fun hg => by
   obtain ⟨cs, hb⟩ := hnow _ hg
   exact absurd (aM hb (hG.ext xW)) (by decide)
  exact ⟨by rw [h1.cell']; rfl, by rw [h2.cell']; rfl, by rw [h2.cell']; rfl, by rw [h2.cell']; rfl⟩)
 clear hJ hb8 hbn hw hm hx hG hVa hS eQ xW hvl hbx hnow
 obtain ⟨VL, eVL⟩ : ∃ l, dC ((p, hs, ()), ls, ()) = l := ⟨_, rfl⟩
 rw [eVL] at HVa HVl
 obtain ⟨q, eq⟩ : ∃ k, VL.length = k := ⟨_, rfl⟩
 rw [eq] at HVa HVl
 have HEq := qH eq
 clear eVL eq
 conv => arg 2; whnf
 show Code.wp _ (Code.seq _ (Code.seq _ aE0)) _ _ _
 go_wp2_with fail
 refine kK ?_
 refine aT (fun X : World => X.cell? ⟨b8, 0, none⟩ = some (.slice oa N oc) /\ X.cell? ⟨gb0, 0, none⟩ = some (.string p) /\ X.cell? ⟨gb0, 1, none⟩ = some (.slice ha hn hcap) /\ X.cell? ⟨gb0, 2, none⟩ = some (.slice ba n bcap)) [7] (by kernel_rfl) (HK.out _ (Kp.refl W).drew) (fun hHeld => ?_)
 refine dI 0 ?_; try simp only [Act.put,sI,sZ,sS]
 refine dI 1 ?_; try simp only [Act.put,sI,sZ,sS]
 refine dI 3 ?_; try simp only [Act.put,sI,sZ,sS]
 refine aE (i := 2) ?_
 refine aF (i := 2) rfl (fun K hK => ?_)
 go_simp
 (refine (HVa.out _ (HT.out.ext.trans (Kp.refl W).drew)).mono ?_; rintro e w9 ⟨v9, rfl, hk9, ya, yc, rfl, -, eyc, ho9⟩; have HA1 := qH (show Ext W w9 /\ OwnF w9 W.heap.size w9.heap.size ya VL from ⟨((Kp.refl W).drew).trans hk9, ho9.f⟩); replace eyc := eyc.symm; subst eyc; clear hk9 ho9)
 go_wp2_with fail
 refine hK.out _ _ ?_ (fun hHeld => ?_)
 ·(try dsimp only); (exact HK.out _ HA1.out.1)
 clear hK K; (try simp only [Act.put,sI,sZ,sS])
 refine aE (i := 4) ?_
 refine aF (i := 4) rfl (fun K hK => ?_)
 go_simp
 (refine (HVa.out _ (HT.out.ext.trans HA1.out.1)).mono ?_; rintro e w10 ⟨v10, rfl, hk10, za, zc, rfl, -, ezc, ho10⟩; have HA2 := qH (show Ext W w10 /\ OwnF w10 W.heap.size w9.heap.size ya VL /\ OwnF w10 w9.heap.size w10.heap.size za VL /\ w9.heap.size ≤ w10.heap.size from ⟨HA1.out.1.trans hk10, HA1.out.2.kp hk10 (fun _ _ _ _ _ => id), ho10.f, hk10.size⟩); replace ezc := ezc.symm; subst ezc; clear hk10 ho10)
 go_wp2_with fail
 refine hK.out _ _ ?_ (fun hHeld => ?_)
 ·(try dsimp only); (exact HK.out _ HA2.out.1)
 clear hK K; (try simp only [Act.put,sI,sZ,sS])
 refine aE (i := 5) ?_
 refine aF (i := 5) rfl (fun K hK => ?_)
 go_simp
 refine hK.out _ _ ?_ (fun hHeld => ?_)
 ·(try dsimp only); (exact HK.out _ (HA2.out.1.alloc _))
 clear hK K; (try simp only [Act.put,sI,sZ,sS])
 refine aE (i := 6) ?_
 refine aF (i := 6) rfl (fun K hK => ?_)
 refine aG2 (F := fun k => k = b8) (w0 := w8) mY rfl _ _ rfl ((HJ.out.kp.trans (Ext.kp HA2.out.1)).alloc _) rfl (((HJ.out.row.mono fun g hg => hg.1).ext HA2.out.1).alloc _) rfl (CellsAt.two w10 (.slice ya q q) (.slice za q q) 34) rfl (by simp [Value.oneCell']) (by omega) (by unfold maxLen; omega) ?_; intro v11 w11 hr11 hk11 hk11b; obtain ⟨xa, xc, rfl, _, _⟩ := hr11.shape; have HA3 := qH (And.intro hr11 hk11b); clear hr11 hk11 hk11b
 refine hK.out _ _ ?_ (fun hHeld => ?_)
 ·(try dsimp only); (exact HKb.out w10 w11 _ HA2.out.1 HA3.out.2)
 clear hK K; (try simp only [Act.put,sI,sZ,sS])
 refine aE (i := 7) ?_
 refine aI (i := 7) rfl (by kernel_rfl) (fun K hK => ?_)
 (have hb11 := HBx.out w10 w11 _ HA2.out.1 HA3.out.2; have y0 := hb11.cell' 0; have y1 := hb11.free 0)
 go_simp
 refine hK.out _ _ ?_
 clear hK K; (try simp only [Act.put,sI,sZ,sS])
 refine aK (by kernel_rfl) ?_ _
 refine fE ?_
 obtain ⟨X, eX⟩ : ∃ X, w11.setCell ⟨b8, 0, none⟩ (.slice xa (N + 2 : Nat) xc) = X := ⟨_, rfl⟩
 have ks : Kp (fun k => k = b8) w11 X := by rw [<- eX]; exact Kp.setCell (F := fun k => k = b8) (p := ⟨b8, 0, none⟩) (Kp.refl _) (fun _ => rfl) _
 have kA : Kp (fun k => k = b8 \/ (Value.slice oa N oc).ownBlock = some k) W X := (((Ext.kp HA2.out.1).alloc _).trans (HA3.out.2.mono fun k _ h => Or.inr h)).trans (ks.mono fun k _ h => Or.inl h)
 have kB : Kp (fun k => k = b8 \/ (Value.slice oa N oc).ownBlock = some k) w10 X := (((Kp.refl w10).alloc _).trans (HA3.out.2.mono fun k _ h => Or.inr h)).trans (ks.mono fun k _ h => Or.inl h)
 have hT := HT.out.kp kA fun k hk => by
  rcases hk with e | e
  ·rw [e]; exact ⟨⟨_, HJ.out.box, rfl⟩, HW.out.2.2.2⟩
  ·obtain ⟨cs, hb⟩ := aP HJ.out.row e
   exact ⟨⟨_, hb, rfl⟩, Nat.le_trans HW.out.2.1.size (HJ.out.row.block k e).1⟩
 have hnb : ∀ g cs, Blk w10 g cs 9 -> ¬ (g = b8 \/ (Value.slice oa N oc).ownBlock = some g) := fun g cs hb e => by
  rcases e with e | e
  ·rw [e] at hb; exact absurd (aM hb (HJ.out.box.ext HA2.out.1)) (by decide)
  ·obtain ⟨cs2, hb2⟩ := aP (HJ.out.row.ext HA2.out.1) e
   exact absurd (aM hb hb2) (by decide)
 have hBX : Blk X b8 [.slice xa (N + 2) xc] 69 := by rw [<- eX]; exact (HBx.out w10 w11 _ HA2.out.1 HA3.out.2).set 0 _
 have hrX : Row X 34 1 (.slice xa (N + 2) xc) (N + 2) (gR vs N ++ [.slice ya q q, .slice za q q]) (New w8) := HA3.out.1.kp' ks fun g hg _ e => by
  obtain ⟨cs, hb⟩ := aP HA3.out.1 hg
  rw [show g = b8 from e] at hb
  exact absurd (aM hb (HBx.out w10 w11 _ HA2.out.1 HA3.out.2)) (by decide)
 have hlen := HEq.out
 have hall := aJ8 (H := VL) (s1 := w9.heap.size) (ya := ya) (za := za) HJ.out HW.out.2.2.1 (by rw [hlen]; exact HVl.out) HA1.out.1.size (Nat.le_trans HA2.out.2.2.2 kB.size)
  (HA2.out.2.1.kp kB fun g cs hb _ _ => hnb g cs hb) ((HA2.out.2.2.1.mono (Nat.le_refl _) kB.size).kp kB fun g cs hb _ _ => hnb g cs hb) kA hBX rfl (by rw [hlen]; exact hrX)
 obtain ⟨vs', gb', C', hA, hf⟩ := hall
 have HA := qH (And.intro hA (And.intro hf hT))
 rw [eX]
 clear eX ks kA kB hT hnb hBX hrX hlen hA hf y0 y1 hb11
 go_wp2_with fail
 rw [EQ.out]
 refine aIb HA.out.1 (by omega) HA.out.2.1 HW.out.2.1.size HA.out.2.2 rfl rfl ?_
 intro t1 W1 hA1 hT1 hz1 h15 h17 h18 h114
 refine aIa hA1 (by omega) (fun j hj => by rw [xM]; exact HA.out.2.1 j hj) hT1 hz1 h18 h114 ?_
 intro t2 W2 ws ma mc hA2 hT2 hr2 hM2 hz2 h25 h27 h28 h214
 exact aJu (hA2.congr (xN C' _)) hr2 (hM2.congr (xN C' _)) (by omega) (fun j hj => HA.out.2.1 j hj) HW.out.1 hT2 HW.out.2.1.size (fun Y hY => HS.out Y (hT2.ext.trans hY)) hz2 (h25.trans h15) (h27.trans h17) (h28.trans h18) h214
end Go.Proofs.YtinnmeiphbdogaaGreat
/- The law of joins: each: all bindings of a rule in a base, each as one text. -/
namespace Go.Proofs.YtinnmeiphbdogaaGreat
open Go.RowKit Go.Shelf
attribute [local go_sem] Oper.semAt_some
theorem aEe {S : Nat -> Prop} {w : World} {v : Value} {E : List Ent} (hB : BaseV S w v E) (s : ByteArray) : ∀ x ∈ dG (bB E s), bO x = true := fun x hx => by
 have hok := hB.ok
 cases he : bB E s with
 | none => rw [he] at hx; simp [dG] at hx
 | some e =>
  rw [he] at hx
  exact (hok.all _ (List.mem_map.2 ⟨e, (bT he).1, rfl⟩)).txt x hx
theorem sD {r : cN} {Es : Nat -> List Ent} {L : aD} (hL : lP r (bI Es r.2.1) L) (hT : ∀ j x, x ∈ bI Es r.2.1 j -> bO x = true) : ∀ V ∈ L, bD r = 0 /\ V.length = (aB r.2.1).length /\ ∀ s ∈ V, s.size ≤ 4096 := fun V hV => by
 by_cases hc : bD r = 0
 ·have hb := ((hL.1 hc).iff V).1 hV
  exact ⟨hc, hb.1, aEc hb hT⟩
 ·rw [hL.2 hc] at hV; simp at hV
theorem wQ {S : Nat -> Prop} {w : World} {v : Value} {E : List Ent} {ls : List aO} (hB : BaseV S w v E) : ∀ j x, x ∈ bI (vP ls E) ls j -> bO x = true := fun j x hx => by
 unfold bI vP at hx
 split at hx
 ·exact aEe hB _ x hx
 ·simp [bB, dG] at hx
theorem aI1 {w W : World} {P : World -> Value -> Prop} {tmps : Array Value} {ds : List Deferred} {lo : Nat} {v : Value} (hm : Marks lo W ds) (hk : Ext w W) (hlo : w.heap.size ≤ lo) (h4 : tmps.getD 4 undef = v)
 (hP : ∀ w', Ext w w' -> Kp (fun k => lo ≤ k /\ ¬ fK W k) W w' -> P w' v) :
 bodyPostM Fence.wide 4 Tryz.prog Tryz.f18 (RetN w P) .ret { tmps := tmps, defers := ds } W := by
 refine fF hm fun w' e1 e2 e3 e4 e5 e6 => ?_
 have kx : Kp (fun k => lo ≤ k /\ ¬ fK W k) W w' := ⟨e1, e2, e3, by omega, fun k hk hf => by
  by_cases h : lo ≤ k
  ·by_cases h2 : ∃ o : Obj, W.heap[k]? = some o /\ o.isCells = true
   ·obtain ⟨o, h2, h3⟩ := h2
    rw [h2]; exact e6 k o h2 h3
   ·exact absurd ⟨h, h2⟩ hf
  ·exact e5 k (by omega)⟩
 have hx : Ext w w' := hk.trans' kx fun i hi h => absurd h.1 (by omega)
 refine ⟨v, ?_, RetN.mk hx (hP w' hx kx)⟩
 have h4' : tmps[4]?.getD undef = v := by simpa using h4
 simp [results, Tryz.f18, go_sem, h4']
set_option maxRecDepth 100000 in
set_option maxHeartbeats 4000000 in
theorem aD5 {S : Nat -> Prop} {w : World} {p : ByteArray} {hs : List aG} {ls : List aO} {ha ba : Option Addr} {hn hcap n bcap : Nat} {G : Nat -> Prop} {o : Option Addr} {E : List Ent} {L : aD} (hhn : hn = hs.length) (hh : aW w G ha hs) (hhl : hn ≤ 1048576) (hbn : n = ls.length) (h : cK w G ba ls) (hf : Fit ls) (hnv : (aB ls).length ≤ 1048576) (hn16 : n ≤ 1048576)
 (hB : BaseV S w (.pointer o) E) (hL : lP ((p, hs, ()), ls, ()) (bI (vP ls E) ls) L) (hLn : L.length ≤ 1048576 * 1048576) :
 Calls Tryz.prog 18 #[eF p ha hn hcap ba n bcap, .pointer o] w (RetN w fun w' v => Row w' 9 1 v L.length (strs (L.map iV)) (New w)) := by
 have HEa := qH (fun W (hW : Ext w W) => aBx (hcap := hcap) (bcap := bcap) (p := p) hhn (hh.ext hW) hhl hbn (h.ext hW) hf hnv hn16 (hB.ext hW) hL)
 have HK := qH (sD hL (wQ hB))
 have HN := qH (And.intro hnv hLn)
 obtain ⟨gb, egb⟩ : ∃ g, w.heap.size = g := ⟨_, rfl⟩
 obtain ⟨w1, e1⟩ : ∃ x, w.alloc (.cells #[.string p, .slice ha hn hcap, .slice ba n bcap] 27) = x := ⟨_, rfl⟩
 obtain ⟨w2, e2⟩ : ∃ x, w1.alloc (.cells #[.slice none 0 0] 34) = x := ⟨_, rfl⟩
 have s1 : w1.heap.size = gb + 1 := by rw [<- e1, aJ, egb]
 have x1 : Ext w w1 := by rw [<- e1]; exact (Kp.refl w).alloc _
 have x2 : Ext w1 w2 := by rw [<- e2]; exact (Kp.refl w1).alloc _
 have H2 := qH (show Blk w2 gb [.string p, .slice ha hn hcap, .slice ba n bcap] 27 /\ Blk w2 (gb + 1) [.slice none 0 0] 34 /\ Ext w w2 from
  ⟨Blk.ext (by have h := Blk.new w [.string p, .slice ha hn hcap, .slice ba n bcap] 27; rw [egb] at h; rw [<- e1]; exact h) x2, by have h := Blk.new w1 [.slice none 0 0] 34; rw [s1] at h; rw [<- e2]; exact h, x1.trans x2⟩)
 have r0 : w2.cell? ⟨gb, 0, none⟩ = some (.string p) := by rw [H2.out.1.cell']; rfl
 have r1 : w2.cell? ⟨gb, 1, none⟩ = some (.slice ha hn hcap) := by rw [H2.out.1.cell']; rfl
 have r2 : w2.cell? ⟨gb, 2, none⟩ = some (.slice ba n bcap) := by rw [H2.out.1.cell']; rfl
 have HG := qH egb
 clear hhn hh hhl hbn h hf hnv hn16 hB hL x1 x2 hLn
 refine callsIn_wide.1 (callsIn_of_wp_marks (n := 4) Tryz.func18 rfl trivial ?_ rfl)
 refine wpIn_wide.2 ?_
 obtain ⟨Q, eQ⟩ : ∃ Q, Q = bodyPostM Fence.wide 4 Tryz.prog Tryz.f18 (RetN w fun w' v => Row w' 9 1 v L.length (strs (L.map iV)) (New w)) := ⟨_, rfl⟩
 rw [<- eQ]
 have EQ := qH eQ; clear eQ
 simp only [Tryz.ntmps18, List.size_toArray, List.length_cons, List.length_nil, Nat.reduceAdd, Nat.reduceSub, Array.replicate_succ, Array.replicate_zero, List.push_toArray, List.append_toArray, List.nil_append, List.cons_append]
 go_wp2_with fail
 clear e1 e2 egb s1
 refine (HEa.out w2 H2.out.2.2).mono ?_
 rintro e w8 ⟨v8, rfl, hk8, xb, lo, hlo, rfl, hseq⟩
 have HS := qH (show vH Fence.wide 3 Tryz.prog 82 #[.pointer (some ⟨xb, 0, none⟩)] (fun x : XB => #[.slice x.1.1 x.1.2.1 x.1.2.2]) (fun k => lo ≤ k /\ k < w8.heap.size) GvRow (fun xs => xs.map Prod.snd = L) (fun pre => pre.map Prod.snd <+: L) w8 from hseq 3)
 have H8 := qH (show Blk w8 (gb + 1) [.slice none 0 0] 34 /\ Ext w w8 /\ gb + 1 < lo from ⟨H2.out.2.1.ext hk8, H2.out.2.2.trans hk8, Nat.lt_of_lt_of_le H2.out.2.1.lt hlo⟩)
 clear hseq hk8 hlo r0 r1 r2
 go_wp2_with fail
 have hb8 : gb + 1 < w8.heap.size := H8.out.1.lt
 refine' wpIn_wide.1 (oG (F := Fence.wide) (n := 4) (w0 := w8) rfl (by omega) (gf := 82) (lb := #[.pointer (some ⟨xb, 0, none⟩)]) rfl trivial (enters_of Tryz.func82 (by kernel_rfl) rfl)
  HS.out (Kp.refl _) (fun k h => h.2) (fun _ => rfl) GvRow.put (ListI w8 (gb + 1) rX) (fun _ _ _ _ => False)
  (fun T s W l o o' h _ hl ho hc => h.put hb8 hl ho hc) (fun c T s W l o o' h _ hl ho hc => h.elim)
  (fun W o h => h.step hb8 ((Kp.refl W).alloc o) (fun k hk => hk.elim)) (ListI.start H8.out.1 rfl) _ ?assign ?body ?done ?stop)
 case assign =>
  intro l x W K hK
  gi_wp2
  exact hK
 case body =>
  rintro l T T' pre ⟨⟨xa, xn, xc⟩, V⟩ W1 W hI hT hk hsub hgv hpre
  have hI2 := hI.step hb8 hk hsub
  have hTlt : ∀ k, T' k -> k < W.heap.size := fun k hk' => by
   rcases hsub k hk' with h | h
   ·exact Nat.lt_of_lt_of_le (hT k h) hk.size
   ·exact h.2
  obtain ⟨hx1, hxc⟩ := hgv.cells
  have hxn : xn = V.length := hx1.1
  have hxc2 : xc = V.length := hx1.2
  subst hxn hxc2
  have hmem : V ∈ L := hpre.subset (by rw [List.map_append]; exact List.mem_append_right _ (List.mem_singleton.2 rfl))
  have hpl : pre.length < L.length := by
   have h := hpre.length_le
   rw [List.length_map, List.length_append, List.length_singleton] at h
   omega
  obtain ⟨hc0, hVl, hVs⟩ := HK.out V hmem
  have hN1 := HN.out.1
  have hN2 := HN.out.2
  have hVl' : V.length = (aB ls).length := hVl
  obtain ⟨v, hv, hrv⟩ := hI2.2.2
  have hel : (rX pre).length = pre.length := by unfold rX; rw [List.length_map]
  rw [hel] at hrv
  refine wpIn_mono (Q := kC (fun X' => KeepsFrom w8.heap.size W X' /\ Kp (fun k => ¬ eS (fun k => lo ≤ k /\ k < w8.heap.size) T' k) W X' /\ ListI w8 (gb + 1) rX T' (pre ++ [((xa, V.length, V.length), V)]) X') (fun _ => False)) ?_ ?_
  ·show Code.wpIn _ _ _ aBy _ _ _
   refine aD4 (v := v) (ss := rX pre) (V := V) hv hrv (by omega) hxc (by omega) hVs rfl rfl rfl ?_
   rintro X' hk' ⟨v', hv', hr'⟩
   exact hI2.round hb8 hTlt (fun k hk => ⟨by have := H8.out.2.2; have := hk.1; omega, hk.2⟩) hv hk' hv' (by rw [hel]; exact hr') (by unfold rX; rw [List.map_append]; rfl)
  ·intro e a W' h
   cases e <;> first | exact h | exact h.elim
 case done =>
  rintro D T xs W1 W hD hxs hI hT hk hd
  have hI2 := hI.step (T' := fun _ => False) hb8 hk (fun k hk' => hk'.elim)
  obtain ⟨kX, hTge, v, hv, hrv⟩ := hI2
  have hxs' : rX xs = L.map iV := by
   have h : xs.map Prod.snd = L := hxs
   unfold rX
   rw [<- h, List.map_map]; rfl
  rw [hxs', List.length_map] at hrv
  have hm1 : Marks w8.heap.size W [{ target := .collected D, args := #[] }] := Marks.push (Marks.nil w8.heap.size w8) (fun k o h ho => (kX.block k (lt_of_block h) (fun e => by
   have e' : k = gb + 1 := e
   have h8 := H8.out.1
   unfold Blk at h8
   rw [e', h8] at h; cases h; cases ho)).trans h) hD hD hd
  have v7 : W.cell? ⟨gb + 1, 0, none⟩ = some v := by rw [hv.cell']; rfl
  obtain ⟨la, lc, ev, _, _⟩ := hrv.shape
  subst ev
  have HZ := qH (And.intro hm1 (And.intro hrv kX))
  clear hxs' hm1 hrv kX hTge hI hT hk hd hD hxs hv
  go_wp2_with fail
  obtain ⟨hm1, hrv, kX⟩ := HZ.out
  have hx8 := H8.out.2.1.size
  have hgl := HG.out
  rw [EQ.out]
  refine aI1 (lo := w8.heap.size) hm1 (H8.out.2.1.trans' kX fun i hi hf => by have e : i = gb + 1 := hf; omega) hx8 rfl fun w' hx' kx => ?_
  refine (hrv.kp' kx fun g hg hM hf => ?_).mono fun g hg => Nat.le_trans hx8 hg.1
  obtain ⟨cs, hb⟩ := aP hrv hg
  exact hf.2 ⟨_, hb, rfl⟩
 case stop =>
  rintro D c T pre W1 W hD hpre hX hT hk hd
  exact hX.elim
end Go.Proofs.YtinnmeiphbdogaaGreat
/- The law of joins: put: a text into a rising list. -/
namespace Go.Proofs.YtinnmeiphbdogaaGreat
open Go.RowKit Go.Shelf
attribute [local go_sem] Oper.semAt_some
end Go.Proofs.YtinnmeiphbdogaaGreat
/- The law of joins: lent, kept: a rule in memory of its own, with marks behind its lists. -/
namespace Go.Proofs.YtinnmeiphbdogaaGreat
open Go.RowKit
abbrev markK : aG := (-71, ⟨#[]⟩, ())
def aJd (w0 w : World) (a : Option Addr) (n cap : Nat) (ts : List aG) : Prop := ∃ g rest, a = some ⟨g, 0, none⟩ /\ n = ts.length /\ n + 1 ≤ cap /\ cap ≤ maxLen /\ w0.heap.size ≤ g /\ Blk w g (aCp (ts ++ [markK]) ++ rest) 38
def markZ : List Value := [.int .i64 (-72), .string ⟨#[]⟩, .slice none 0 0, .int .i64 0, .int .i64 0, .string ⟨#[]⟩, .int .i64 0, .string ⟨#[]⟩]
structure RuleK (w0 w : World) (hs : List aG) (ls : List aO) (ha : Option Addr) (hn hcap : Nat) (ba : Option Addr) (n bcap : Nat) : Prop where
 head : aJd w0 w ha hn hcap hs
 body : ∃ g rest vs, ba = some ⟨g, 0, none⟩ /\ n = ls.length /\ n + 1 ≤ bcap /\ bcap ≤ maxLen /\ w0.heap.size ≤ g /\ vs.length = ls.length /\ Blk w g ((ls.zip vs).flatMap mR ++ (markZ ++ rest)) 40 /\ ∀ x ∈ ls.zip vs, aJd w0 w x.2.1 (aA x.1).length x.2.2 (aA x.1)
section
variable {w0 w w' : World} {F : Nat -> Prop} {hs : List aG} {ls : List aO} {ha : Option Addr} {hn hcap : Nat} {ba : Option Addr} {n bcap : Nat}
end
end Go.Proofs.YtinnmeiphbdogaaGreat
/- tuple.Rows: Same; Union, Minus, Meet; NewRows of a bad arity. -/
namespace Go.Proofs.YtinnmeiphbdogaaGreat
open Go.RowKit Go.Shelf
section
variable {z z1 z2 : Prop} {S : Nat -> Prop} {w w' : World} {b b1 b2 : Nat} {iv iv1 iv2 : Value} {arity a1 a2 : Nat} {LL L1 L2 : List (List ByteArray)}
theorem yJ (h1 : RowsAt S w b1 iv1 a1 L1) (h2 : RowsAt S w b2 iv2 a2 L2) :
 Calls Tryz.prog 132 #[.pointer (some ⟨b1, 0, none⟩), .pointer (some ⟨b2, 0, none⟩)] w (RetN w fun w' v => v = .bool (decide (L1 = L2))) := by
 obtain ⟨con, zs, zs2, hc, hs, hp, hd, hl, hl2⟩ := h1.two h2
 refine (tH hs hp hd).mono ?_
 rintro e w' ⟨v, rfl, hk, r, rfl, hr⟩
 refine RetN.mk hk ?_
 have e : r = decide (L1 = L2) := by
  rw [Bool.eq_iff_iff, hr, decide_eq_true_iff, <- hl, <- hl2]
  constructor
  ·rintro ⟨h1, h2⟩
   refine List.ext_getElem (by simpa using h1) fun i hi hj => ?_
   rw [List.length_map] at hi hj
   rw [List.getElem_map, List.getElem_map]
   exact gC (h2 i _ _ (qG hi) (qG hj))
  ·intro h
   have hn := congrArg List.length h
   rw [List.length_map, List.length_map] at hn
   refine ⟨hn, fun i x y hx hy => ?_⟩
   have h3 := congrArg (fun l => l[i]?) h
   simp only [List.getElem?_map, hx, hy, Option.map_some, Option.some.injEq] at h3
   rw [h3]; exact nD _
 rw [e]
set_option maxRecDepth 100000 in
theorem tM (c1 : w.cell? ⟨b1, 2, none⟩ = some (.int .i64 a1)) (c2 : w.cell? ⟨b2, 2, none⟩ = some (.int .i64 a2)) (hne : a1 ≠ a2) :
 Calls Tryz.prog 94 #[.pointer (some ⟨b1, 0, none⟩), .pointer (some ⟨b2, 0, none⟩)] w (RetD (.bool false) w) := by
 have t : ((a1 : Int) == (a2 : Int)) = false := by simp; omega
 go_enter Tryz.func94, Tryz.ntmps94
 go_wp2
 refine wp_region_held_drew (S := fun w' => w'.cell? ⟨b1, 2, none⟩ = some (.int .i64 a1) /\ w'.cell? ⟨b2, 2, none⟩ = some (.int .i64 a2)) (by kernel_rfl) ⟨by assumption, by assumption⟩ (fun hHeld => ?_)
 (refine aS (i := 0) (v := ?_) rfl ?_ ?_; rotate_left; (intro w hSw; (try dsimp only at hSw); go_simp; try with_reducible rfl)); (try simp only [Act.put,sI,sZ,sS])
 (refine aS (i := 1) (v := ?_) rfl ?_ ?_; rotate_left; (intro w hSw; (try dsimp only at hSw); go_simp; try with_reducible rfl)); (try simp only [Act.put,sI,sZ,sS])
 (refine aS (i := 2) (v := ?_) rfl ?_ ?_; rotate_left; (intro w hSw; (try dsimp only at hSw); go_simp; try with_reducible rfl)); (try simp only [Act.put,sI,sZ,sS])
 (first | (refine aS (i := 3) (v := ?_) rfl ?_ ?_; rotate_left; (intro w hSw; (try dsimp only at hSw); go_simp; try with_reducible rfl)) | (refine aY (i := 3) rfl ?_)); (try simp only [Act.put,sI,sZ,sS])
 (first | (refine aS (i := 4) (v := ?_) rfl ?_ ?_; rotate_left; (intro w hSw; (try dsimp only at hSw); go_simp; try with_reducible rfl)) | (refine aY (i := 4) rfl ?_)); (try simp only [Act.put,sI,sZ,sS])
 (refine aS (i := 5) (v := ?_) rfl ?_ ?_; rotate_left; (intro w hSw; (try dsimp only at hSw); go_simp; try with_reducible rfl)); (try simp only [Act.put,sI,sZ,sS])
 (refine aS (i := 6) (v := ?_) rfl ?_ ?_; rotate_left; (intro w hSw; (try dsimp only at hSw); go_simp; try with_reducible rfl)); (try simp only [Act.put,sI,sZ,sS])
 (first | (refine aS (i := 7) (v := ?_) rfl ?_ ?_; rotate_left; (intro w hSw; (try dsimp only at hSw); go_simp; try with_reducible rfl)) | (refine aY (i := 7) rfl ?_)); (try simp only [Act.put,sI,sZ,sS])
 (first | (refine aS (i := 8) (v := ?_) rfl ?_ ?_; rotate_left; (intro w hSw; (try dsimp only at hSw); go_simp; try with_reducible rfl)) | (refine aY (i := 8) rfl ?_)); (try simp only [Act.put,sI,sZ,sS])
 (first | (refine aS (i := 9) (v := ?_) rfl ?_ ?_; rotate_left; (intro w hSw; (try dsimp only at hSw); go_simp; try with_reducible rfl)) | (refine aY (i := 9) rfl ?_)); (try simp only [Act.put,sI,sZ,sS])
 (first | (refine aS (i := 10) (v := ?_) rfl ?_ ?_; rotate_left; (intro w hSw; (try dsimp only at hSw); go_simp; try with_reducible rfl)) | (refine aY (i := 10) rfl ?_)); (try simp only [Act.put,sI,sZ,sS])
 (first | (refine aS (i := 11) (v := ?_) rfl ?_ ?_; rotate_left; (intro w hSw; (try dsimp only at hSw); go_simp; try with_reducible rfl)) | (refine aY (i := 11) rfl ?_)); (try simp only [Act.put,sI,sZ,sS])
 (first | (refine aS (i := 12) (v := ?_) rfl ?_ ?_; rotate_left; (intro w hSw; (try dsimp only at hSw); go_simp; try with_reducible rfl)) | (refine aY (i := 12) rfl ?_)); (try simp only [Act.put,sI,sZ,sS])
 (first | (refine aS (i := 13) (v := ?_) rfl ?_ ?_; rotate_left; (intro w hSw; (try dsimp only at hSw); go_simp; try with_reducible rfl)) | (refine aY (i := 13) rfl ?_)); (try simp only [Act.put,sI,sZ,sS])
 (first | (refine aS (i := 14) (v := ?_) rfl ?_ ?_; rotate_left; (intro w hSw; (try dsimp only at hSw); go_simp; try with_reducible rfl)) | (refine aY (i := 14) rfl ?_)); (try simp only [Act.put,sI,sZ,sS])
 (first | (refine aS (i := 15) (v := ?_) rfl ?_ ?_; rotate_left; (intro w hSw; (try dsimp only at hSw); go_simp; try with_reducible rfl)) | (refine aY (i := 15) rfl ?_)); (try simp only [Act.put,sI,sZ,sS])
 (refine aS (i := 16) (v := ?_) rfl ?_ ?_; rotate_left; (intro w hSw; (try dsimp only at hSw); go_simp; try with_reducible rfl)); (try simp only [Act.put,sI,sZ,sS])
 (refine aS (i := 17) (v := ?_) rfl ?_ ?_; rotate_left; (intro w hSw; (try dsimp only at hSw); go_simp; try with_reducible rfl)); (try simp only [Act.put,sI,sZ,sS])
 (first | (refine aS (i := 18) (v := ?_) rfl ?_ ?_; rotate_left; (intro w hSw; (try dsimp only at hSw); go_simp; try with_reducible rfl)) | (refine aY (i := 18) rfl ?_)); (try simp only [Act.put,sI,sZ,sS])
 (first | (refine aS (i := 20) (v := ?_) rfl ?_ ?_; rotate_left; (intro w hSw; (try dsimp only at hSw); go_simp; try with_reducible rfl)) | (refine aY (i := 20) rfl ?_)); (try simp only [Act.put,sI,sZ,sS])
 (first | (refine aY (i := 19) rfl ?_) | (refine iE (i := 19) rfl (fun K hK => ?_); go_simp; (fail); go_wp2_with fail; refine hK.out _ _ ?_ (fun hHeld => ?_); (try dsimp only); (exact ⟨by assumption, by assumption⟩); clear hK K)); (try simp only [Act.put,sI,sZ,sS])
 (first | (refine aY (i := 21) rfl ?_) | (refine iE (i := 21) rfl (fun K hK => ?_); go_simp; (fail); go_wp2_with fail; refine hK.out _ _ ?_ (fun hHeld => ?_); (try dsimp only); (exact ⟨by assumption, by assumption⟩); clear hK K)); (try simp only [Act.put,sI,sZ,sS])
 (first | (refine aY (i := 22) rfl ?_) | (refine iE (i := 22) rfl (fun K hK => ?_); go_simp; (fail); go_wp2_with fail; refine hK.out _ _ ?_ (fun hHeld => ?_); (try dsimp only); (exact ⟨by assumption, by assumption⟩); clear hK K)); (try simp only [Act.put,sI,sZ,sS])
 (refine aS (i := 23) (v := ?_) rfl ?_ ?_; rotate_left; (intro w hSw; (try dsimp only at hSw); go_simp; try with_reducible rfl)); (try simp only [Act.put,sI,sZ,sS])
 (refine aS (i := 24) (v := ?_) rfl ?_ ?_; rotate_left; (intro w hSw; (try dsimp only at hSw); go_simp; try with_reducible rfl)); (try simp only [Act.put,sI,sZ,sS])
 refine wpAnyH_done (by kernel_rfl) ?_ _
 go_wp2
 go_ret
 exact RetD.mk rfl 1
set_option maxRecDepth 100000 in
set_option maxHeartbeats 2000000 in
theorem pN (h1 : RowsQ z1 S w b1 iv1 a1 L1) (c2 : w.cell? ⟨b2, 2, none⟩ = some (.int .i64 a2)) (he : a1 = a2)
 (h2 : ∀ W, Kp (FQ z1 b1) w W -> RowsAt S W b1 iv1 a1 L1 -> RowsQ z2 S W b2 iv2 a2 L2) (h3 : ∀ W W', RowsAt S W b1 iv1 a1 L1 -> Kp (FQ z2 b2) W W' -> RowsAt S W' b2 iv2 a2 L2 -> RowsAt S W' b1 iv1 a1 L1) :
 Calls Tryz.prog 94 #[.pointer (some ⟨b1, 0, none⟩), .pointer (some ⟨b2, 0, none⟩)] w
  (RetF (fun k => FQ z1 b1 k \/ FQ z2 b2 k) w fun w' v => v = .bool (decide (L1 = L2)) /\ RowsAt S w' b1 iv1 a1 L1 /\ RowsAt S w' b2 iv2 a2 L2) := by
 have t : ((a1 : Int) == (a2 : Int)) = true := by simp [he]
 have c1 := h1.ar
 have HS1 := qH (fun W (hW : Ext w W) => iF (h1.ext hW))
 have H2 := qH h2
 have H1 := qH h3
 clear h1 h2 h3
 go_enter Tryz.func94, Tryz.ntmps94
 go_wp2
 refine wp_region_held_drew (S := fun w' => w'.cell? ⟨b1, 2, none⟩ = some (.int .i64 a1) /\ w'.cell? ⟨b2, 2, none⟩ = some (.int .i64 a2)) (by kernel_rfl) ⟨by assumption, by assumption⟩ (fun hHeld => ?_)
 (refine aS (i := 0) (v := ?_) rfl ?_ ?_; rotate_left; (intro w hSw; (try dsimp only at hSw); go_simp; try with_reducible rfl)); (try simp only [Act.put,sI,sZ,sS])
 (refine aS (i := 1) (v := ?_) rfl ?_ ?_; rotate_left; (intro w hSw; (try dsimp only at hSw); go_simp; try with_reducible rfl)); (try simp only [Act.put,sI,sZ,sS])
 (refine aS (i := 2) (v := ?_) rfl ?_ ?_; rotate_left; (intro w hSw; (try dsimp only at hSw); go_simp; try with_reducible rfl)); (try simp only [Act.put,sI,sZ,sS])
 (first | (refine aS (i := 3) (v := ?_) rfl ?_ ?_; rotate_left; (intro w hSw; (try dsimp only at hSw); go_simp; try with_reducible rfl)) | (refine aY (i := 3) rfl ?_)); (try simp only [Act.put,sI,sZ,sS])
 (first | (refine aS (i := 4) (v := ?_) rfl ?_ ?_; rotate_left; (intro w hSw; (try dsimp only at hSw); go_simp; try with_reducible rfl)) | (refine aY (i := 4) rfl ?_)); (try simp only [Act.put,sI,sZ,sS])
 (refine aS (i := 5) (v := ?_) rfl ?_ ?_; rotate_left; (intro w hSw; (try dsimp only at hSw); go_simp; try with_reducible rfl)); (try simp only [Act.put,sI,sZ,sS])
 (refine aS (i := 6) (v := ?_) rfl ?_ ?_; rotate_left; (intro w hSw; (try dsimp only at hSw); go_simp; try with_reducible rfl)); (try simp only [Act.put,sI,sZ,sS])
 (first | (refine aS (i := 7) (v := ?_) rfl ?_ ?_; rotate_left; (intro w hSw; (try dsimp only at hSw); go_simp; try with_reducible rfl)) | (refine aY (i := 7) rfl ?_)); (try simp only [Act.put,sI,sZ,sS])
 (first | (refine aS (i := 8) (v := ?_) rfl ?_ ?_; rotate_left; (intro w hSw; (try dsimp only at hSw); go_simp; try with_reducible rfl)) | (refine aY (i := 8) rfl ?_)); (try simp only [Act.put,sI,sZ,sS])
 (first | (refine aS (i := 9) (v := ?_) rfl ?_ ?_; rotate_left; (intro w hSw; (try dsimp only at hSw); go_simp; try with_reducible rfl)) | (refine aY (i := 9) rfl ?_)); (try simp only [Act.put,sI,sZ,sS])
 (first | (refine aS (i := 10) (v := ?_) rfl ?_ ?_; rotate_left; (intro w hSw; (try dsimp only at hSw); go_simp; try with_reducible rfl)) | (refine aY (i := 10) rfl ?_)); (try simp only [Act.put,sI,sZ,sS])
 (first | (refine aS (i := 11) (v := ?_) rfl ?_ ?_; rotate_left; (intro w hSw; (try dsimp only at hSw); go_simp; try with_reducible rfl)) | (refine aY (i := 11) rfl ?_)); (try simp only [Act.put,sI,sZ,sS])
 (first | (refine aS (i := 12) (v := ?_) rfl ?_ ?_; rotate_left; (intro w hSw; (try dsimp only at hSw); go_simp; try with_reducible rfl)) | (refine aY (i := 12) rfl ?_)); (try simp only [Act.put,sI,sZ,sS])
 (first | (refine aS (i := 13) (v := ?_) rfl ?_ ?_; rotate_left; (intro w hSw; (try dsimp only at hSw); go_simp; try with_reducible rfl)) | (refine aY (i := 13) rfl ?_)); (try simp only [Act.put,sI,sZ,sS])
 (first | (refine aS (i := 14) (v := ?_) rfl ?_ ?_; rotate_left; (intro w hSw; (try dsimp only at hSw); go_simp; try with_reducible rfl)) | (refine aY (i := 14) rfl ?_)); (try simp only [Act.put,sI,sZ,sS])
 (first | (refine aS (i := 15) (v := ?_) rfl ?_ ?_; rotate_left; (intro w hSw; (try dsimp only at hSw); go_simp; try with_reducible rfl)) | (refine aY (i := 15) rfl ?_)); (try simp only [Act.put,sI,sZ,sS])
 (refine aS (i := 16) (v := ?_) rfl ?_ ?_; rotate_left; (intro w hSw; (try dsimp only at hSw); go_simp; try with_reducible rfl)); (try simp only [Act.put,sI,sZ,sS])
 (refine aS (i := 17) (v := ?_) rfl ?_ ?_; rotate_left; (intro w hSw; (try dsimp only at hSw); go_simp; try with_reducible rfl)); (try simp only [Act.put,sI,sZ,sS])
 (first | (refine aS (i := 18) (v := ?_) rfl ?_ ?_; rotate_left; (intro w hSw; (try dsimp only at hSw); go_simp; try with_reducible rfl)) | (refine aY (i := 18) rfl ?_)); (try simp only [Act.put,sI,sZ,sS])
 (first | (refine aS (i := 20) (v := ?_) rfl ?_ ?_; rotate_left; (intro w hSw; (try dsimp only at hSw); go_simp; try with_reducible rfl)) | (refine aY (i := 20) rfl ?_)); (try simp only [Act.put,sI,sZ,sS])
 (first | (refine aY (i := 19) rfl ?_) | (refine iE (i := 19) rfl (fun K hK => ?_); go_simp; ((with_reducible refine (HS1.out _ ?_).mono ?_); exact (Kp.refl w).drew; rintro e w1 ⟨v1, rfl, hk1, rfl, hr1⟩; have hk1' : Kp (FQ z1 b1) w w1 := (show Kp (FQ z1 b1) w _ from (Kp.refl w).drew).trans hk1; have hq2 := H2.out _ hk1' hr1; have d1 := (hr1.q (z := False)).ar; have d2 := hq2.ar; have HK1 := qH (And.intro hk1' hr1); have HS2 := qH (iF hq2); clear hk1 hk1' hr1 hq2); go_wp2_with fail; refine hK.out _ _ ?_ (fun hHeld => ?_); (try dsimp only); (exact ⟨by assumption, by assumption⟩); clear hK K)); (try simp only [Act.put,sI,sZ,sS])
 (first | (refine aY (i := 21) rfl ?_) | (refine iE (i := 21) rfl (fun K hK => ?_); go_simp; (refine HS2.out.mono ?_; rintro e w2 ⟨v2, rfl, hk2, rfl, hr2⟩; have hr1' := H1.out _ _ HK1.out.2 hk2 hr2; have e1 := (hr1'.q (z := False)).ar; have e2 := (hr2.q (z := False)).ar; have HK2 := qH (And.intro hk2 (And.intro hr1' hr2)); have HFF := qH (yJ hr1' hr2); clear hk2 hr1' hr2); go_wp2_with fail; refine hK.out _ _ ?_ (fun hHeld => ?_); (try dsimp only); (exact ⟨by assumption, by assumption⟩); clear hK K)); (try simp only [Act.put,sI,sZ,sS])
 (first | (refine aY (i := 22) rfl ?_) | (refine iE (i := 22) rfl (fun K hK => ?_); go_simp; (refine HFF.out.mono ?_; rintro e w3 ⟨v3, rfl, hk3, rfl⟩; have f1 := hk3.cell e1 id; have f2 := hk3.cell e2 id; have HK3 := qH hk3; clear hk3); go_wp2_with fail; refine hK.out _ _ ?_ (fun hHeld => ?_); (try dsimp only); (exact ⟨by assumption, by assumption⟩); clear hK K)); (try simp only [Act.put,sI,sZ,sS])
 (refine aS (i := 23) (v := ?_) rfl ?_ ?_; rotate_left; (intro w hSw; (try dsimp only at hSw); go_simp; try with_reducible rfl)); (try simp only [Act.put,sI,sZ,sS])
 (refine aS (i := 24) (v := ?_) rfl ?_ ?_; rotate_left; (intro w hSw; (try dsimp only at hSw); go_simp; try with_reducible rfl)); (try simp only [Act.put,sI,sZ,sS])
 refine wpAnyH_done (by kernel_rfl) ?_ _
 go_wp2
 go_ret
 obtain ⟨hk2, hr1, hr2⟩ := HK2.out
 exact RetF.mk (((HK1.out.1.mono fun _ _ h => .inl h).trans (hk2.mono fun _ _ h => .inr h)).ext HK3.out) ⟨rfl, hr1.ext HK3.out, hr2.ext HK3.out⟩
theorem aCv (h1 : RowsQ z1 S w b1 iv1 arity L1) (h2 : RowsQ z2 S w b2 iv2 arity L2) (hap : ∀ k, dW b1 iv1 k -> ¬ dW b2 iv2 k) :
 Calls Tryz.prog 94 #[.pointer (some ⟨b1, 0, none⟩), .pointer (some ⟨b2, 0, none⟩)] w
  (RetF (fun k => FQ z1 b1 k \/ FQ z2 b2 k) w fun w' v => v = .bool (decide (L1 = L2)) /\ RowsAt S w' b1 iv1 arity L1 /\ RowsAt S w' b2 iv2 arity L2) :=
 pN h1 h2.ar rfl (fun W hk _ => h2.kp hk (fun k hk ho => hap k (FQ.owns k hk) ho) (fun k hk hS => h1.notS k (FQ.owns k hk) hS))
  (fun W W' hr hk _ => hr.move hk (fun k hk ho => hap k ho (FQ.owns k hk)) (fun k hk hS => h2.notS k (FQ.owns k hk) hS) (fun _ h => h) (fun k hS => Nat.lt_of_lt_of_le (hr.inS k hS) hk.size) hr.notS)
theorem vN (h : RowsQ z S w b iv arity LL) :
 Calls Tryz.prog 94 #[.pointer (some ⟨b, 0, none⟩), .pointer (some ⟨b, 0, none⟩)] w (RetF (FQ z b) w fun w' v => v = .bool true /\ RowsAt S w' b iv arity LL) := by
 refine (pN (z2 := z) h h.ar rfl (fun W hk hr => hr.q) (fun W W' hr hk h => h)).mono ?_
 rintro e w' ⟨v, rfl, hk, rfl, h1, _⟩
 exact RetF.mk (hk.mono fun _ _ h => by rcases h with h | h <;> exact h) ⟨by simp, h1⟩
theorem rN (a : Int) (w : World) (ha : a < 0 \/ 64 < a) : Calls Tryz.prog 85 #[.int .i64 a] w (Ret (.tuple #[.pointer none, .int .i64 2]) w) := by
 by_cases h0 : a < 0
 ·have t1 : decide (a < 0) = true := by simp [h0]
  go_enter Tryz.func85, Tryz.ntmps85
  go_wp2
  go_ret2
  exact Ret.mk rfl
 ·have h1 : 64 < a := by omega
  have t1 : decide (a < 0) = false := by simp; omega
  have t2 : decide (a > 64) = true := by simp; omega
  have t3 : decide (64 < a) = true := by simp; omega
  go_enter Tryz.func85, Tryz.ntmps85
  go_wp2
  go_ret2
  exact Ret.mk rfl
end
end Go.Proofs.YtinnmeiphbdogaaGreat
