/- Texts joined for a claim (Best2, Law7, Law8, Law9, Law10). -/
import Derived.Test.YtcphalpcdcddpaaAp6
import Derived.OwnWalk
import Derived.Laws.CopyOwn
/- cost.Best. -/
namespace Go.Proofs.Ytcphalpcdcddpaa
open Go.RowKit
set_option linter.unusedVariables false
attribute [local go_sem] run_store_float

theorem bestE_bad {r : RuleZ} {S : List StatZ} (h : errR r S ≠ 0) : bestE r S = ([], 0, errR r S) := by unfold bestE; rw [if_neg h]
theorem bestE_long {r : RuleZ} {S : List StatZ} (h : errR r S = 0) (hn : 12 < r.2.1.length) : bestE r S = ([], 0, 3) := by unfold bestE; rw [if_pos h, if_pos hn]
theorem bestE_some {r : RuleZ} {S : List StatZ} {p : Plan} (h : errR r S = 0) (hn : ¬ 12 < r.2.1.length) (hp : planS S r.2.1 (2 ^ r.2.1.length - 1) = some p) : bestE r S = (p.1, p.2, 0) := by unfold bestE; rw [if_pos h, if_neg hn, hp]
theorem TabAt.skip {w : World} {gp N k : Nat} {S : List StatZ} {ls : List LitZ} (h : TabAt w gp N k S ls) (hk : planS S ls k = none) : TabAt w gp N (k + 1) S ls := by
  obtain ⟨vals, h1, h2, h3⟩ := h
  refine ⟨vals, h1, h2, fun u v hu => ?_⟩
  have := h3 u v hu
  by_cases e : u = k
  · subst e
    rw [if_neg (Nat.lt_irrefl _)] at this
    rw [if_pos (by omega), hk]; exact this
  · by_cases hl : u < k
    · rw [if_pos hl] at this; rw [if_pos (by omega)]; exact this
    · rw [if_neg hl] at this; rw [if_neg (by omega)]; exact this
theorem plan_row {S : List StatZ} {ls : List LitZ} {s : Nat} (h0 : s ≠ 0) : (stands ls (bitsS ls.length s) → planS S ls s = leastP (candP (planS S ls) (guessW S ls (bitsS ls.length s)) s) ls.length) ∧ (¬ stands ls (bitsS ls.length s) → planS S ls s = none) := by
  have h := plan_eq S ls s
  unfold rowP at h
  rw [if_neg h0] at h
  exact ⟨fun hs => by rw [if_pos hs] at h; exact h, fun hs => by rw [if_neg hs] at h; exact h⟩

/-- Between two sets. -/
structure BestSt (w1 w : World) (gp gpl gset N s : Nat) (S : List StatZ) (ls : List LitZ) : Prop where
  ext : Ext w1 w
  pl : Blk w gpl [.slice (some ⟨gp, 0, none⟩) N N] 99
  set : Blk w gset [.int .i64 s] 3
  tab : TabAt w gp N s S ls
  new : w1.heap.size ≤ gp
def BestTo (w1 : World) (gp gpl N : Nat) (S : List StatZ) (ls : List LitZ) (pv : Value) (w : World) : Prop := ∃ s gset, 1 ≤ s ∧ s ≤ N ∧ pv = .pointer (some ⟨gset, 0, none⟩) ∧ Hid (BestSt w1 w gp gpl gset N s S ls)
def fillB (n s i : Nat) : List Bool := (bitsS n s).take i ++ List.replicate (n - i) false
theorem fill_zero (n s : Nat) : fillB n s 0 = List.replicate n false := by simp [fillB]
theorem fill_all (n s : Nat) : fillB n s n = bitsS n s := by simp [fillB, List.take_of_length_le (show (bitsS n s).length ≤ n by rw [bits_len]; exact Nat.le_refl _)]
theorem fill_len {n s i : Nat} (h : i ≤ n) : (fillB n s i).length = n := by simp [fillB, bits_len]; omega
theorem fill_succ {n s i : Nat} (h : i < n) : (fillB n s i).set i (s.testBit i) = fillB n s (i + 1) := by
  apply List.ext_getElem?
  intro j
  rw [List.getElem?_set]
  have hl : ((bitsS n s).take i).length = i := by rw [List.length_take, bits_len]; omega
  have hl2 : ((bitsS n s).take (i + 1)).length = i + 1 := by rw [List.length_take, bits_len]; omega
  by_cases e : i = j
  · subst e
    rw [if_pos rfl, if_pos (by rw [fill_len (by omega)]; exact h)]
    unfold fillB
    rw [List.getElem?_append_left (by omega), List.getElem?_take, if_pos (by omega), bits_at h]
  · rw [if_neg e]
    unfold fillB
    by_cases hj : j < i
    · rw [List.getElem?_append_left (by omega), List.getElem?_append_left (by omega), List.getElem?_take, List.getElem?_take, if_pos hj, if_pos (by omega)]
    · rw [List.getElem?_append_right (by omega), List.getElem?_append_right (by omega), List.getElem?_replicate, List.getElem?_replicate, hl, hl2]
      by_cases hn : j < n
      · rw [if_pos (by omega), if_pos (by omega)]
      · rw [if_neg (by omega), if_neg (by omega)]
def FillTo (w0 : World) (gi gin n s : Nat) (iv : Value) (w : World) : Prop := ∃ i : Nat, i ≤ n ∧ iv = .int .i64 i ∧ Hid (Blk w gi (bools (fillB n s i)) 4) ∧ Hid (Blk w gin [.slice (some ⟨gi, 0, none⟩) n n] 74) ∧ Hid (Ext w0 w)
theorem typ_bb : 4 ≠ 74 := by decide

/-- The number in a box. -/
def setAt (pv : Value) (w : World) : Nat := match pv with
  | .pointer (some a) => (match w.cell? a with
    | some v => (intOf v).toNat
    | none => 0)
  | _ => 0
theorem setAt_eq {w : World} {g : Nat} {z : Int} {t : TypeId} (h : Blk w g [.int .i64 z] t) : setAt (.pointer (some ⟨g, 0, none⟩)) w = z.toNat := by
  have e : w.cell? ⟨g, 0, none⟩ = some (.int .i64 z) := by rw [h.cell']; rfl
  show (match w.cell? ⟨g, 0, none⟩ with | some v => (intOf v).toNat | none => 0) = _
  rw [e]; rfl
/-- What it answers. -/
def BestV (E : List Int × Nat × Nat) (w' : World) (v : Value) : Prop := ∃ a c, v = .tuple #[.slice a E.1.length c, .float .f64 E.2.1, .int .i64 E.2.2] ∧ CellsAt w' a (ints E.1) ∧ E.1.length ≤ c ∧ c ≤ maxLen

open Classical in
set_option maxRecDepth 100000 in
set_option maxHeartbeats 8000000 in
theorem best_any (p : ByteArray) (hs : List TermZ) (ls : List LitZ) (ha : Option Addr) (hn hcap : Nat) (ba : Option Addr) (n bcap : Nat) (S : List StatZ) (sa : Option Addr) (sn scap : Nat) (w : World) (G : Nat → Prop) (hhn : hn = hs.length) (hh : TermsAt w G ha hs) (hhl : hn ≤ 1048576) (hbn : n = ls.length) (h : LitsAt w G ba ls) (hf : Fit ls)
    (hsn : sn = S.length) (hsc : sn ≤ scap) (hS : StatsAt w sa S) (hSf : StatsFit S) :
    Calls Try.prog 25 #[ruleV p ha hn hcap ba n bcap, .slice sa sn scap] w (RetN w (BestV (bestE ((p, hs, ()), ls, ()) S))) := by
  obtain ⟨e, ee⟩ : ∃ e, e = errR ((p, hs, ()), ls, ()) S := ⟨_, rfl⟩
  have hl : n ≤ 1048576 := by have := hf.len; omega
  have HBo := Lib.hid (fun (W : World) (hW : Ext w W) => bodyOf_any p hs ls ha hn hcap ba n bcap S sa sn scap W G hhn (hh.ext hW) hhl hbn (h.ext hW) hf hsn hsc (hS.ext hW) hSf)
  have HStands := Lib.hid (fun (gb : Nat) (inn : List Bool) (ia : Option Addr) (icap : Nat) (W : World) (hB : BodyAt W gb S ls) (hin : inn.length = n) (hI : CellsAt W ia (bools inn)) => stands_any gb S ls n inn ia icap W hbn hl (varsL_fit hf) hB hin hI)
  have HG := Lib.hid (fun (he : e = 0) (gb : Nat) (inn : List Bool) (ia : Option Addr) (icap : Nat) (W : World) (hB : BodyAt W gb S ls) (hin : inn.length = n) (hI : CellsAt W ia (bools inn)) => guess_any gb S ls n inn ia icap W hbn hf (Known.of (errR_zero (ee.symm.trans he)).2) hB hin hI)
  have EE := Lib.hid ee
  have HN := Lib.hid hbn
  clear hhn hh hbn h hf hsn hS hSf ee
  go_enter Try.func25, Try.ntmps25
  go_wp2_with fail
  obtain ⟨wb, eb⟩ : ∃ wb, w.alloc (.cells #[.string p, .slice ha hn hcap, .slice ba n bcap] 27) = wb := ⟨_, rfl⟩
  rw [eb]
  have HB := Lib.hid (Blk.new w [.string p, .slice ha hn hcap, .slice ba n bcap] 27)
  have HX := Lib.hid ((Kp.refl (F := fun _ => False) w).alloc (.cells #[.string p, .slice ha hn hcap, .slice ba n bcap] 27))
  have eb2 : w.alloc (.cells [Value.string p, .slice ha hn hcap, .slice ba n bcap].toArray 27) = wb := eb
  rw [eb2] at HB
  rw [eb] at HX
  clear eb eb2
  refine (HBo.out _ HX.out).mono ?_
  rintro e1 w1 ⟨v, rfl, hk1, hbv⟩
  have X1 := Lib.hid (HX.out.trans hk1)
  have HBr := Lib.hid (HB.out.ext hk1)
  have r2 : w1.cell? ⟨w.heap.size, 2, none⟩ = some (.slice ba n bcap) := by rw [HBr.out.cell']; rfl
  clear hk1 HX HB
  by_cases he : e = 0
  · obtain ⟨gb, rfl, _, hB⟩ := hbv.yes (EE.out.symm.trans he)
    have HB := Lib.hid hB
    have HE := Lib.hid (EE.out.symm.trans he)
    have HK := Lib.hid (Known.of (errR_zero HE.out).2)
    have HG2 := Lib.hid (HG.out he gb)
    have HSt2 := Lib.hid (HStands.out gb)
    clear hbv hB he HG HStands
    by_cases hn12 : 12 < n
    · have HL := Lib.hid hn12
      go_wp2
      go_ret3
      exact RetN.mk X1.out (by rw [bestE_long HE.out (by rw [HN.out] at hn12; exact hn12)]; exact ⟨none, 0, rfl, CellsAt.nil _ _, Nat.le_refl _, by unfold maxLen; omega⟩)
    · have hn13 : n ≤ 12 := by omega
      have hnle : (n : Int) ≤ 12 := by omega
      obtain ⟨N, eN⟩ : ∃ N, N = 2 ^ n := ⟨_, rfl⟩
      have hN1 : N ≤ 4096 := by rw [eN]; exact pow_le (Nat.le_refl 12) hn13
      have hN0 : 1 ≤ N := by rw [eN]; exact Nat.two_pow_pos n
      have hw1 : IntKind.i64.wrap ((2 : Int) ^ n) = (N : Int) := by rw [wrap_pow hn13, eN, Int.natCast_pow]; rfl
      have HNN := Lib.hid eN
      have hmk := run_make_row' (P := Try.prog) 99 92 (.pointer none) 8 Try.underlying99 (by kernel_rfl) rfl .i64 .i64 N (by omega) (by omega)
      obtain ⟨wA, eA⟩ : ∃ wA, w1.alloc (.cells (madeCells #[.pointer none] N) 92) = wA := ⟨_, rfl⟩
      have hA : Blk wA w1.heap.size (List.replicate N (.pointer none)) 92 := by rw [← eA]; exact blk_made w1 _ N _
      have xA : Ext w1 wA := by rw [← eA]; exact (Kp.refl w1).alloc _
      obtain ⟨wB, eB⟩ : ∃ wB, wA.alloc (.cells #[.slice (some ⟨w1.heap.size, 0, none⟩) N N] 99) = wB := ⟨_, rfl⟩
      have hB0 : Blk wB wA.heap.size [.slice (some ⟨w1.heap.size, 0, none⟩) N N] 99 := by rw [← eB]; exact Blk.new wA _ _
      have xB : Ext wA wB := by rw [← eB]; exact (Kp.refl wA).alloc _
      obtain ⟨wC, eC⟩ : ∃ wC, wB.alloc (.cells #[.slice none 0 0, .float .f64 0] 95) = wC := ⟨_, rfl⟩
      have hC : Blk wC wB.heap.size [.slice none 0 0, .float .f64 0] 95 := by rw [← eC]; exact Blk.new wB _ _
      have xC : Ext wB wC := by rw [← eC]; exact (Kp.refl wB).alloc _
      obtain ⟨wD, eD⟩ : ∃ wD, wC.setCell ⟨w1.heap.size, 0, none⟩ (.pointer (some ⟨wB.heap.size, 0, none⟩)) = wD := ⟨_, rfl⟩
      obtain ⟨wE, eE⟩ : ∃ wE, wD.alloc (.cells #[.int .i64 1] 3) = wE := ⟨_, rfl⟩
      have hT0 : TabAt wC w1.heap.size N 0 S ls := ⟨List.replicate N (.pointer none), List.length_replicate, (hA.ext xB).ext xC, fun u v hu => by
        rw [List.getElem?_replicate] at hu
        split at hu
        · cases hu; rw [if_neg (by omega)]; rfl
        · cases hu⟩
      have hT1 : TabAt wD w1.heap.size N 1 S ls := by
        rw [← eD]
        refine hT0.set ?_
        rw [plan_eq]
        show OptAt wC _ _ (rowP S ls (planS S ls) 0)
        unfold rowP
        rw [if_pos rfl]
        exact ⟨_, rfl, .slice none 0 0, hC, Row.nil _ _ _ _⟩
      have xD : Ext w1 wD := by rw [← eD]; exact Kp.setCell (F := fun _ => False) ((xA.trans xB).trans xC) (fun h => by simp only at h; omega) _
      have xE : Ext wD wE := by rw [← eE]; exact (Kp.refl wD).alloc _
      have hDpl : Blk wD wA.heap.size [.slice (some ⟨w1.heap.size, 0, none⟩) N N] 99 := by
        rw [← eD]
        exact (hB0.ext xC).other (fun h => by
          have : wA.heap.size = w1.heap.size := h
          have h1 := hA.lt
          omega) _
      have hEset : Blk wE wD.heap.size [.int .i64 1] 3 := by rw [← eE]; exact Blk.new wD _ _
      have HSt := Lib.hid (show BestSt w1 wE w1.heap.size wA.heap.size wD.heap.size N 1 S ls from ⟨xD.trans xE, hDpl.ext xE, hEset, hT1.ext xE, Nat.le_refl _⟩)
      have c1 : wC.cell? ⟨wA.heap.size, 0, none⟩ = some (.slice (some ⟨w1.heap.size, 0, none⟩) N N) := by rw [(hB0.ext xC).cell']; rfl
      have c0 : wB.cell? ⟨wA.heap.size, 0, none⟩ = some (.slice (some ⟨w1.heap.size, 0, none⟩) N N) := by rw [hB0.cell']; rfl
      have c2 : wC.cell? ⟨w1.heap.size, 0, none⟩ = some (.pointer none) := by
        rw [((hA.ext xB).ext xC).cell', List.getElem?_replicate, if_pos (by omega)]
      have c3 := ((hA.ext xB).ext xC).free 0
      clear hA xA hB0 xB hC xC hT0 hT1 xD xE hDpl hEset eN
      go_wp2
--BODY
      obtain ⟨gp, egp⟩ : ∃ g, g = w1.heap.size := ⟨_, rfl⟩
      obtain ⟨gpl, egpl⟩ : ∃ g, g = wA.heap.size := ⟨_, rfl⟩
      obtain ⟨gs0, egs⟩ : ∃ g, g = wD.heap.size := ⟨_, rfl⟩
      rw [← egp, ← egpl, ← egs] at HSt
      rw [← egp, ← egpl, ← egs]
      clear c0 c1 c2 c3 eA eB eC eD eE egp egpl egs hmk hw1 r2
      go_loopw [11] (fun pv wr => BestTo w1 gp gpl N S ls pv wr) (fun pv wr => N - setAt pv wr)
      case atStart => exact ⟨1, gs0, Nat.le_refl _, hN0, rfl, HSt⟩
      case round =>
        clear HSt
        obtain ⟨s, gset, hs1, hsN, rfl, hst⟩ := hrel
        have s0 : wr.cell? ⟨gset, 0, none⟩ = some (.int .i64 s) := by rw [hst.out.set.cell']; rfl
        have p0 : wr.cell? ⟨gpl, 0, none⟩ = some (.slice (some ⟨gp, 0, none⟩) N N) := by rw [hst.out.pl.cell']; rfl
        have HMr := Lib.hid (setAt_eq hst.out.set)
        by_cases hlt : s < N
        · have hltI : (s : Int) < (N : Int) := by omega
          have hmk2 := run_make_row' (P := Try.prog) 74 4 (.bool false) 1 Try.underlying74 (by kernel_rfl) rfl .i64 .i64 n (by omega) (by omega)
          obtain ⟨wF, eF⟩ : ∃ wF, wr.alloc (.cells (madeCells #[.bool false] n) 4) = wF := ⟨_, rfl⟩
          have hF : Blk wF wr.heap.size (List.replicate n (.bool false)) 4 := by rw [← eF]; exact blk_made wr _ n _
          have xF : Ext wr wF := by rw [← eF]; exact (Kp.refl wr).alloc _
          obtain ⟨wH, eH⟩ : ∃ wH, wF.alloc (.cells #[.slice (some ⟨wr.heap.size, 0, none⟩) n n] 74) = wH := ⟨_, rfl⟩
          have hH : Blk wH wF.heap.size [.slice (some ⟨wr.heap.size, 0, none⟩) n n] 74 := by rw [← eH]; exact Blk.new wF _ _
          have xH : Ext wF wH := by rw [← eH]; exact (Kp.refl wF).alloc _
          have h0 : wH.cell? ⟨wF.heap.size, 0, none⟩ = some (.slice (some ⟨wr.heap.size, 0, none⟩) n n) := by rw [hH.cell']; rfl
          obtain ⟨gi, egi⟩ : ∃ g, g = wr.heap.size := ⟨_, rfl⟩
          obtain ⟨gin, egin⟩ : ∃ g, g = wF.heap.size := ⟨_, rfl⟩
          have HFi := Lib.hid (show Blk wH gi (bools (fillB n s 0)) 4 ∧ Blk wH gin [.slice (some ⟨gi, 0, none⟩) n n] 74 ∧ Ext wr wH ∧ wr.heap.size ≤ gi from ⟨by rw [fill_zero, bools_rep, egi]; exact hF.ext xH, by rw [egi, egin]; exact hH, xF.trans xH, by rw [egi]; exact Nat.le_refl _⟩)
          clear hF xF hH xH
          go_wp2
          rw [← egi, ← egin]
          clear eF eH h0 egi egin hmk2 s0 p0
          generalize hw5 : wr = w5 at *
          have HW5 := Lib.hid hw5
          clear hw5
          go_loopw [49] (fun iv wk => FillTo w5 gi gin n s iv wk) (fun iv _ => n - (intOf iv).toNat)
          case atStart => exact ⟨0, Nat.zero_le _, rfl, HFi.out.1, HFi.out.2.1, HFi.out.2.2.1⟩
          case round =>
            obtain ⟨i, hi, rfl, hbl, hgin, hex⟩ := hrel
            have g0 : wr.cell? ⟨gin, 0, none⟩ = some (.slice (some ⟨gi, 0, none⟩) n n) := by rw [hgin.out.cell']; rfl
            by_cases hlt2 : i < n
            · obtain ⟨bb, ebb⟩ : ∃ bb, s.testBit i = bb := ⟨_, rfl⟩
              have hand := and_bit (s := s) (i := i) (by omega)
              obtain ⟨bz, ebz⟩ : ∃ bz : Int, (if s.testBit i = true then (1 : Int) else 0) = bz := ⟨_, rfl⟩
              have q1 : (bz == 1) = bb := by rw [← ebz, ← ebb]; cases s.testBit i <;> rfl
              have q2 : decide (bz = 1) = bb := by rw [← ebz, ← ebb]; cases s.testBit i <;> rfl
              rw [ebz] at hand
              have hi64 : (i : Int) ≤ 64 := by omega
              have s0 := hex.out.cell (show w5.cell? ⟨gset, 0, none⟩ = some (.int .i64 s) by rw [hst.out.set.cell']; rfl) id
              have b0 : ∃ y, wr.cell? ⟨gi, i, none⟩ = some (.bool y) := by
                have h1 : i < (fillB n s i).length := by rw [fill_len hi]; exact hlt2
                exact ⟨_, by rw [hbl.out.cell']; simp [bools, h1]; rfl⟩
              obtain ⟨y, b0⟩ := b0
              have b1 := hbl.out.free i
              have HJ := Lib.hid (show ∀ w', Ext wr w' → (fun w' : World => w'.cell? ⟨gin, 0, none⟩ = some (.slice (some ⟨gi, 0, none⟩) n n) ∧ w'.cell? ⟨gset, 0, none⟩ = some (.int .i64 s)) w' from fun w' hw => ⟨hw.cell g0 id, hw.cell s0 id⟩)
              obtain ⟨w7, e7⟩ : ∃ x, wr.setCell ⟨gi, i, none⟩ (.bool bb) = x := ⟨_, rfl⟩
              have h7 : Blk w7 gi (bools (fillB n s (i + 1))) 4 := by
                have h := hbl.out.set i (.bool bb)
                rw [e7] at h
                have e : (bools (fillB n s i)).set i (.bool bb) = bools (fillB n s (i + 1)) := by
                  rw [← fill_succ hlt2, ebb]; simp [bools, List.map_set]
                rw [e] at h; exact h
              have h7n : Blk w7 gin [.slice (some ⟨gi, 0, none⟩) n n] 74 := by
                rw [← e7]
                exact hgin.out.other (fun h => typ_bb (blk_ne hbl.out (by rw [← show gin = gi from h]; exact hgin.out))) _
              have h7x : Ext w5 w7 := by rw [← e7]; exact Kp.setCell (F := fun _ => False) hex.out (fun h => by have := HFi.out.2.2.2; simp only at h; omega) _
              have HFin := Lib.hid (And.intro h7.drew (And.intro h7n.drew h7x.drew))
              clear h7 h7n h7x ebb ebz g0 s0 hst
              go_wp2
              refine draw_begin (fun w' : World => w'.cell? ⟨gin, 0, none⟩ = some (.slice (some ⟨gi, 0, none⟩) n n) ∧ w'.cell? ⟨gset, 0, none⟩ = some (.int .i64 s)) [8] (by kernel_rfl) (HJ.out _ (Kp.refl wr).drew) (fun hHeld => ?_)
              (refine draw_in (i := 0) (v := ?_) rfl ?_ ?_; rotate_left; (intro w hSw; (try dsimp only at hSw); go_simp; try with_reducible rfl)); (try simp only [Act.put, List.setIfInBounds_toArray, List.set_cons_zero, List.set_cons_succ])
              (refine draw_free (i := 1) (v := ?_) rfl ?_ ?_; rotate_left; (intro w; go_simp; try with_reducible rfl)); (try simp only [Act.put, List.setIfInBounds_toArray, List.set_cons_zero, List.set_cons_succ])
              (refine draw_in (i := 2) (v := ?_) rfl ?_ ?_; rotate_left; (intro w hSw; (try dsimp only at hSw); go_simp; try with_reducible rfl)); (try simp only [Act.put, List.setIfInBounds_toArray, List.set_cons_zero, List.set_cons_succ])
              (refine draw_free (i := 3) (v := ?_) rfl ?_ ?_; rotate_left; (intro w; go_simp; try with_reducible rfl)); (try simp only [Act.put, List.setIfInBounds_toArray, List.set_cons_zero, List.set_cons_succ])
              (refine draw_free (i := 4) (v := ?_) rfl ?_ ?_; rotate_left; (intro w; go_simp; try with_reducible rfl)); (try simp only [Act.put, List.setIfInBounds_toArray, List.set_cons_zero, List.set_cons_succ])
              (refine draw_free (i := 5) (v := ?_) rfl ?_ ?_; rotate_left; (intro w; go_simp; try with_reducible rfl)); (try simp only [Act.put, List.setIfInBounds_toArray, List.set_cons_zero, List.set_cons_succ])
              (refine draw_free (i := 6) (v := ?_) rfl ?_ ?_; rotate_left; (intro w; go_simp; try with_reducible rfl)); (try simp only [Act.put, List.setIfInBounds_toArray, List.set_cons_zero, List.set_cons_succ])
              (refine draw_in (i := 7) (v := ?_) rfl ?_ ?_; rotate_left; (intro w hSw; (try dsimp only at hSw); go_simp; try with_reducible rfl)); (try simp only [Act.put, List.setIfInBounds_toArray, List.set_cons_zero, List.set_cons_succ])
              refine draw_one (i := 8) ?_
              refine comes_late (i := 8) rfl (by kernel_rfl) (fun K hK => ?_)
              go_simp
              refine hK.out _ _ ?_
              clear hK K; (try simp only [Act.put, List.setIfInBounds_toArray, List.set_cons_zero, List.set_cons_succ])
              refine wpAnyD_done (by kernel_rfl) ?_ _
              clear hHeld HJ
              go_wp2
              clear e7 b0 b1 hand q1 q2
              go_roundw
              case rel => exact ⟨i + 1, by omega, by first | rfl | (congr 1; done) | (congr 1; omega), HFin.out.1, HFin.out.2.1, HFin.out.2.2⟩
              case measure => simp [intOf]; omega
            · obtain rfl : i = n := by omega
              have hbits := hbl.out
              rw [fill_all] at hbits
              have HI := Lib.hid (show CellsAt wr (some ⟨gi, 0, none⟩) (bools (bitsS i s)) from CellsAt.pre (rest := []) (by rw [List.append_nil]; exact hbits))
              have HX1 := Lib.hid (hst.out.ext.trans hex.out)
              have HPl := Lib.hid (hst.out.pl.ext hex.out)
              have HSetB := Lib.hid (hst.out.set.ext hex.out)
              have HTab := Lib.hid (hst.out.tab.ext hex.out)
              have HNew := Lib.hid hst.out.new
              clear hbits hst hbl HFi
              go_wp2_with fail
              refine (HSt2.out (bitsS i s) _ i wr (HB.out.ext HX1.out) (bits_len _ _) HI.out).mono ?_
              rintro e1 w6 ⟨v, rfl, hk6, rfl⟩
              replace HX1 := Lib.hid (HX1.out.trans hk6)
              replace HPl := Lib.hid (HPl.out.ext hk6)
              replace HSetB := Lib.hid (HSetB.out.ext hk6)
              replace HTab := Lib.hid (HTab.out.ext hk6)
              replace HI := Lib.hid (HI.out.ext hk6)
              have HGin := Lib.hid (hgin.out.ext hk6)
              clear hk6 hgin hex g0
              have HRow := Lib.hid (plan_row (S := S) (ls := ls) (s := s) (by omega))
              by_cases hstand : stands ls (bitsS i s)
              · have hd : decide (stands ls (bitsS i s)) = true := decide_eq_true hstand
                rw [hd]
                have HPlan := Lib.hid (HRow.out.1 (by rw [← HN.out]; exact hstand))
                clear hd hstand HRow
                have g1 : w6.cell? ⟨gin, 0, none⟩ = some (.slice (some ⟨gi, 0, none⟩) i i) := by rw [HGin.out.cell']; rfl
                go_wp2_with fail
                refine (HG2.out (bitsS i s) _ i w6 (HB.out.ext HX1.out) (bits_len _ _) HI.out).mono ?_
                rintro e1 wg ⟨v, rfl, hkg, rfl⟩
                obtain ⟨g, eg⟩ : ∃ g, guessW S ls (bitsS i s) = g := ⟨_, rfl⟩
                rw [eg]
                have hgl : g ≤ infW := by rw [← eg]; exact guessW_le HK.out _
                obtain ⟨wG, eG⟩ : ∃ x, wg.alloc (.cells #[.float .f64 g] 37) = x := ⟨_, rfl⟩
                obtain ⟨ggu, eggu⟩ : ∃ x, x = wg.heap.size := ⟨_, rfl⟩
                have HGu := Lib.hid (show Blk wG ggu [.float .f64 g] 37 by rw [← eG, eggu]; exact Blk.new wg _ _)
                have hxG : Ext w6 wG := by rw [← eG]; exact hkg.alloc _
                replace HX1 := Lib.hid (HX1.out.trans hxG)
                replace HPl := Lib.hid (HPl.out.ext hxG)
                replace HSetB := Lib.hid (HSetB.out.ext hxG)
                replace HTab := Lib.hid (HTab.out.ext hxG)
                replace HI := Lib.hid (HI.out.ext hxG)
                replace HGin := Lib.hid (HGin.out.ext hxG)
                rw [show guessW S ls (bitsS ls.length s) = g from by rw [← HN.out]; exact eg] at HPlan
                have HPOk := Lib.hid (fun (u : Nat) (pp : Plan) (_ : u < s) (hp : planS S ls u = some pp) => And.intro (plan_ok HK.out u pp hp).1 (Nat.le_trans (plan_len HK.out hp) (by rw [← HN.out]; exact hn13)))
                have HCOk := Lib.hid (fun (j : Nat) (pp : Plan) (hj : j < i) (hp : candP (planS S ls) g s j = some pp) => cand_ok HK.out (by rw [← HN.out]; exact hj) (fun u p _ => plan_ok HK.out u p) hgl hp)
                have HGL := Lib.hid hgl
                have HMade := Lib.hid (show MadeT 45 #[] #[.pointer (some ⟨gin, 0, none⟩), .pointer (some ⟨gpl, 0, none⟩), .pointer (some ⟨gset, 0, none⟩), .pointer (some ⟨ggu, 0, none⟩)] (fun W => Ext wG W) (fun _ => False) i (candP (planS S ls) g s) from
                  ⟨enters_of Try.func45 (by kernel_rfl) rfl, fun W _ => noPlan_none W, fun W W' h h' => h.trans h', fun W hW j hj =>
                    (bestMade_any S ls i N s j g gin gi gpl gp gset ggu 0 W hn13 hj hlt hN1 (HGin.out.ext hW) (HI.out.ext hW) (HPl.out.ext hW) (HSetB.out.ext hW) (HGu.out.ext hW) (HTab.out.ext hW) HGL.out HPOk.out).mono fun e1 w' ⟨v, h1, h2, h3⟩ => ⟨v, h1, hW.trans h2, h2, h3⟩⟩)
                have p1 : wG.cell? ⟨gpl, 0, none⟩ = some (.slice (some ⟨gp, 0, none⟩) N N) := by rw [HPl.out.cell']; rfl
                have s1 : wG.cell? ⟨gset, 0, none⟩ = some (.int .i64 s) := by rw [HSetB.out.cell']; rfl
                have HJ := Lib.hid (show ∀ w', Ext wG w' → (fun w' : World => w'.cell? ⟨gpl, 0, none⟩ = some (.slice (some ⟨gp, 0, none⟩) N N) ∧ w'.cell? ⟨gset, 0, none⟩ = some (.int .i64 s)) w' from fun w' hw => ⟨hw.cell p1 id, hw.cell s1 id⟩)
                have hil : i ≤ 1048576 := hl
                have HLen := Lib.hid (show (bitsS ls.length s).countP id ≤ 1048576 from Nat.le_trans List.countP_le_length (by rw [bits_len, ← HN.out]; exact hl))
                clear hkg eg hgl hxG g1
                go_wp2
                rw [← eggu]
                clear eG eggu p1 s1
                refine draw_begin (fun w' : World => w'.cell? ⟨gpl, 0, none⟩ = some (.slice (some ⟨gp, 0, none⟩) N N) ∧ w'.cell? ⟨gset, 0, none⟩ = some (.int .i64 s)) [6] (by kernel_rfl) (HJ.out _ (Kp.refl wG).drew) (fun hHeld => ?_)
                (refine draw_in (i := 0) (v := ?_) rfl ?_ ?_; rotate_left; (intro w hSw; (try dsimp only at hSw); go_simp; try with_reducible rfl)); (try simp only [Act.put, List.setIfInBounds_toArray, List.set_cons_zero, List.set_cons_succ])
                (refine draw_in (i := 1) (v := ?_) rfl ?_ ?_; rotate_left; (intro w hSw; (try dsimp only at hSw); go_simp; try with_reducible rfl)); (try simp only [Act.put, List.setIfInBounds_toArray, List.set_cons_zero, List.set_cons_succ])
                (refine draw_free (i := 2) (v := ?_) rfl ?_ ?_; rotate_left; (intro w; go_simp; try with_reducible rfl)); (try simp only [Act.put, List.setIfInBounds_toArray, List.set_cons_zero, List.set_cons_succ])
                (refine draw_free (i := 3) (v := ?_) rfl ?_ ?_; rotate_left; (intro w; go_simp; try with_reducible rfl)); (try simp only [Act.put, List.setIfInBounds_toArray, List.set_cons_zero, List.set_cons_succ])
                refine draw_one (i := 4) ?_
                refine comes_turn (i := 4) rfl (fun K hK => ?_)
                go_simp
                (refine (leastOf_any 45 #[] _ (fun W => Ext wG W) (fun _ => False) i (candP (planS S ls) g s) _ _ ((Kp.refl wG).drew) HMade.out (fun j pp hj hp => HCOk.out j pp hj hp) HLen.out hil).mono ?_; rintro e1 w8 ⟨v8, rfl, hk8, _, ho8⟩; obtain ⟨q8, ev8⟩ : ∃ q, v8 = .pointer q := (by rcases OptAt.cases ho8 with ⟨ev, _⟩ | ⟨_, _, _, ev, _⟩ <;> exact ⟨_, ev⟩); subst ev8; have HK8 := Lib.hid (show Ext wG w8 from hk8); have HO8 := Lib.hid (show OptAt w8 (fun _ => True) (.pointer q8) (planS S ls s) from (by rw [HPlan.out, ← HN.out]; exact ho8.mono fun _ _ => trivial)); clear hk8 ho8)
                go_wp2_with fail
                refine hK.out _ _ ?_ (fun hHeld => ?_)
                · (try dsimp only); (exact HJ.out _ HK8.out)
                clear hK K; (try simp only [Act.put, List.setIfInBounds_toArray, List.set_cons_zero, List.set_cons_succ])
                (refine draw_in (i := 5) (v := ?_) rfl ?_ ?_; rotate_left; (intro w hSw; (try dsimp only at hSw); go_simp; try with_reducible rfl)); (try simp only [Act.put, List.setIfInBounds_toArray, List.set_cons_zero, List.set_cons_succ])
                refine draw_one (i := 6) ?_
                refine comes_late (i := 6) rfl (by kernel_rfl) (fun K hK => ?_)
                (obtain ⟨x8, hx8⟩ : ∃ x8, w8.cell? ⟨gp, s, none⟩ = some x8 := (by obtain ⟨vals, v1, v2, v3⟩ := HTab.out.ext HK8.out; exact ⟨vals[s]'(by omega), by rw [v2.cell']; exact List.getElem?_eq_getElem (by omega)⟩); have f8 : w8.frozen? ⟨gp, s, none⟩ = false := (by obtain ⟨vals, v1, v2, v3⟩ := HTab.out.ext HK8.out; exact v2.free s))
                go_simp
                refine hK.out _ _ ?_
                clear hK K; (try simp only [Act.put, List.setIfInBounds_toArray, List.set_cons_zero, List.set_cons_succ])
                refine wpAnyD_done (by kernel_rfl) ?_ _
                clear hHeld HJ HMade HPOk HCOk HI HGin HGu
                obtain ⟨w9, e9⟩ : ∃ x, w8.setCell ⟨gp, s, none⟩ (.pointer q8) = x := ⟨_, rfl⟩
                have hT9 : TabAt w9 gp N (s + 1) S ls := by rw [← e9]; exact (HTab.out.ext HK8.out).set HO8.out
                have hk9 : Kp (fun k => k = gp) w8 w9 := by rw [← e9]; exact Kp.setCell (F := fun k => k = gp) (Kp.refl w8) (fun _ => rfl) _
                have hx9 : Ext w1 w9 := by rw [← e9]; exact Kp.setCell (F := fun _ => False) (HX1.out.trans HK8.out) (fun h => by have := HNew.out; simp only at h; omega) _
                have hT8 := HTab.out.ext HK8.out
                replace HPl := Lib.hid (show Blk w9 gpl [.slice (some ⟨gp, 0, none⟩) N N] 99 from (HPl.out.ext HK8.out).kp hk9 fun h => by
                  obtain ⟨vals, v1, v2, v3⟩ := hT8
                  have h2 := HPl.out.ext HK8.out
                  rw [h] at h2
                  exact absurd (blk_ne h2 v2) (by decide))
                replace HSetB := Lib.hid (show Blk w9 gset [.int .i64 s] 3 from (HSetB.out.ext HK8.out).kp hk9 fun h => by
                  obtain ⟨vals, v1, v2, v3⟩ := hT8
                  have h2 := HSetB.out.ext HK8.out
                  rw [h] at h2
                  exact absurd (blk_ne h2 v2) (by decide))
                replace HX1 := Lib.hid hx9
                have HT9 := Lib.hid hT9
                first | rw [e9] | skip
                clear hT9 hk9 hx9 hT8 hx8 f8 HK8 HO8 HTab
                have s0 : w9.cell? ⟨gset, 0, none⟩ = some (.int .i64 s) := by rw [HSetB.out.cell']; rfl
                obtain ⟨wI, eI⟩ : ∃ wI, w9.alloc (.cells #[.int .i64 s] 3) = wI := ⟨_, rfl⟩
                have hI : Blk wI w9.heap.size [.int .i64 s] 3 := by rw [← eI]; exact Blk.new w9 _ _
                have xI : Ext w9 wI := by rw [← eI]; exact (Kp.refl w9).alloc _
                obtain ⟨wJ, eJ⟩ : ∃ wJ, wI.setCell ⟨w9.heap.size, 0, none⟩ (.int .i64 (s + 1)) = wJ := ⟨_, rfl⟩
                have hJ : Blk wJ w9.heap.size [.int .i64 (s + 1)] 3 := by rw [← eJ]; exact hI.set 0 _
                have xJ : Ext w9 wJ := by rw [← eJ]; exact Kp.setCell (F := fun _ => False) xI (fun h => by simp only at h; omega) _
                have i0 : wI.cell? ⟨w9.heap.size, 0, none⟩ = some (.int .i64 s) := by rw [hI.cell']; rfl
                have i1 := hI.free 0
                have i2 : IntKind.i64.wrap ((s : Int) + 1) = (s : Int) + 1 := IntWalk.i64_in _ (by omega)
                have HFin := Lib.hid (show BestSt w1 wJ gp gpl w9.heap.size N (s + 1) S ls from ⟨HX1.out.trans xJ, HPl.out.ext xJ, hJ, HT9.out.ext xJ, HNew.out⟩)
                have HMs := Lib.hid (setAt_eq hJ)
                clear hI xI hJ xJ
                go_wp2
                clear eI eJ i0 i1 i2 s0
                go_roundw
                case rel => exact ⟨s + 1, _, by omega, by omega, rfl, HFin⟩
                case measure =>
                  have h2 := HMs.out
                  have h3 := HMr.out
                  rw [show ((s : Int) + 1).toNat = s + 1 by omega] at h2
                  rw [Int.toNat_natCast] at h3
                  rw [HW5.out, h2, h3]
                  omega
              · have hd : decide (stands ls (bitsS i s)) = false := decide_eq_false hstand
                rw [hd]
                have HT9 := Lib.hid (HTab.out.skip (HRow.out.2 (by rw [← HN.out]; exact hstand)))
                clear hd hstand HRow HTab HI HGin
                have s0 : w6.cell? ⟨gset, 0, none⟩ = some (.int .i64 s) := by rw [HSetB.out.cell']; rfl
                obtain ⟨wI, eI⟩ : ∃ wI, w6.alloc (.cells #[.int .i64 s] 3) = wI := ⟨_, rfl⟩
                have hI : Blk wI w6.heap.size [.int .i64 s] 3 := by rw [← eI]; exact Blk.new w6 _ _
                have xI : Ext w6 wI := by rw [← eI]; exact (Kp.refl w6).alloc _
                obtain ⟨wJ, eJ⟩ : ∃ wJ, wI.setCell ⟨w6.heap.size, 0, none⟩ (.int .i64 (s + 1)) = wJ := ⟨_, rfl⟩
                have hJ : Blk wJ w6.heap.size [.int .i64 (s + 1)] 3 := by rw [← eJ]; exact hI.set 0 _
                have xJ : Ext w6 wJ := by rw [← eJ]; exact Kp.setCell (F := fun _ => False) xI (fun h => by simp only at h; omega) _
                have i0 : wI.cell? ⟨w6.heap.size, 0, none⟩ = some (.int .i64 s) := by rw [hI.cell']; rfl
                have i1 := hI.free 0
                have i2 : IntKind.i64.wrap ((s : Int) + 1) = (s : Int) + 1 := IntWalk.i64_in _ (by omega)
                have HFin := Lib.hid (show BestSt w1 wJ gp gpl w6.heap.size N (s + 1) S ls from ⟨HX1.out.trans xJ, HPl.out.ext xJ, hJ, HT9.out.ext xJ, HNew.out⟩)
                have HMs := Lib.hid (setAt_eq hJ)
                clear hI xI hJ xJ
                go_wp2
                clear eI eJ i0 i1 i2 s0
                go_roundw
                case rel => exact ⟨s + 1, _, by omega, by omega, rfl, HFin⟩
                case measure =>
                  have h2 := HMs.out
                  have h3 := HMr.out
                  rw [show ((s : Int) + 1).toNat = s + 1 by omega] at h2
                  rw [Int.toNat_natCast] at h3
                  rw [HW5.out, h2, h3]
                  omega
        · obtain rfl : s = N := by omega
          obtain ⟨pp, hpp⟩ := best_some (S := S) (errR_zero HE.out).1
          have hsm : s - 1 < s := by omega
          have HVal := Lib.hid (bestE_some HE.out (by rw [HN.out] at hn12; exact hn12) hpp)
          have eN2 : 2 ^ ls.length - 1 = s - 1 := by rw [← HN.out, HNN.out]
          have hpp' : planS S ls (s - 1) = some pp := by rw [← eN2]; exact hpp
          obtain ⟨x, cx, ox⟩ := hst.out.tab.get hsm hsm
          rw [hpp'] at ox
          obtain ⟨b, rfl, hpa⟩ := ox
          obtain ⟨oa, oc, d1, d2, d3, d4, d5⟩ := hpa.cells
          have i3 : IntKind.i64.wrap ((s : Int) - 1) = ((s - 1 : Nat) : Int) := by
            rw [show (s : Int) - 1 = ((s - 1 : Nat) : Int) by omega]
            exact IntWalk.i64_in _ (by omega)
          have i4 : ((s : Int) - 1) = ((s - 1 : Nat) : Int) := by omega
          have i5 : ((s : Int) - 1).toNat = s - 1 := by omega
          obtain ⟨m, em⟩ : ∃ m, m = pp.1.length := ⟨_, rfl⟩
          obtain ⟨pc, epc⟩ : ∃ pc, pc = pp.2 := ⟨_, rfl⟩
          rw [← em] at d1
          rw [← epc] at d2
          have HD := Lib.hid (And.intro d3 (And.intro d4 (And.intro d5 (And.intro em epc))))
          have HX := Lib.hid (X1.out.trans hst.out.ext)
          clear hpp hpp' hpa d3 d4 d5 em epc eN2 hst
          go_wp2
          go_quiet (fail)
          go_wp2
          go_ret3
          refine RetN.mk (HX.out.drewN _) ?_
          rw [HVal.out]
          obtain ⟨h1, h2, h3, h4, h5⟩ := HD.out
          refine ⟨oa, oc, ?_, h1.drewN _, h2, h3⟩
          rw [h4, h5]; rfl
--ENDBODY
  · have hv := hbv.no (fun q => he (EE.out.trans q))
    rw [← EE.out] at hv
    subst hv
    have b1 : ((e : Int) == 0) = false := by simp; omega
    have b2 : ((e : Int) != 0) = true := by simp; omega
    have HH := Lib.hid he
    clear he hbv
    go_wp2
    go_ret3
    exact RetN.mk X1.out (by rw [bestE_bad (fun q => HH.out (EE.out.trans q)), ← EE.out]; exact ⟨none, 0, rfl, CellsAt.nil _ _, Nat.le_refl _, by unfold maxLen; omega⟩)
end Go.Proofs.Ytcphalpcdcddpaa

/- The law of costs: what is known, as the program takes it, with marks behind the lists: stats. -/
namespace Go.Proofs.Ytcphalpcdcddpaa
open Go.RowKit
set_option linter.unusedVariables false
attribute [local go_sem] run_store_float

theorem elem_stat : ElemT Try.prog 35 56 3 48 (.agg #[.string ⟨#[]⟩, .float .f64 0, .slice none 0 0]) := ⟨by kernel_rfl, by kernel_rfl, rfl, by decide⟩
def markS : List Value := [.string ⟨#[109, 97, 114, 107]⟩, .float .f64 0, .slice none 0 0]
abbrev markF : Nat := 4649993003539103744
/-- A list of counts in a block of its own, with a mark behind it. -/
def DistM (w0 w : World) (x : StatZ × (Nat × Nat)) : Prop := ∃ rest, x.1.2.2.1.length + 1 ≤ x.2.2 ∧ x.2.2 ≤ maxLen ∧ w0.heap.size ≤ x.2.1 ∧ Blk w x.2.1 (flts (x.1.2.2.1 ++ [markF]) ++ rest) 37
def statM (x : StatZ × (Nat × Nat)) : List Value := [.string x.1.1, .float .f64 x.1.2.1, .slice (some ⟨x.2.1, 0, none⟩) x.1.2.2.1.length x.2.2]
theorem statM_len (x : StatZ × (Nat × Nat)) : (statM x).length = 3 := rfl
theorem DistM.kp {F : Nat → Prop} {w0 w w' : World} {x : StatZ × (Nat × Nat)} (h : DistM w0 w x) (hk : Kp F w w') (hf : ¬ F x.2.1) : DistM w0 w' x := by
  obtain ⟨rest, h1, h2, h3, h4⟩ := h
  exact ⟨rest, h1, h2, h3, h4.kp hk hf⟩
theorem DistM.ext {w0 w w' : World} {x : StatZ × (Nat × Nat)} (h : DistM w0 w x) (hk : Ext w w') : DistM w0 w' x := h.kp hk id
theorem DistM.blk {w0 w : World} {x : StatZ × (Nat × Nat)} (h : DistM w0 w x) : ∃ cs, Blk w x.2.1 cs 37 := by
  obtain ⟨rest, _, _, _, h4⟩ := h
  exact ⟨_, h4⟩
theorem DistM.at {w0 w : World} {x : StatZ × (Nat × Nat)} (h : DistM w0 w x) : CellsAt w (some ⟨x.2.1, 0, none⟩) (flts x.1.2.2.1) := by
  obtain ⟨rest, h1, h2, h3, h4⟩ := h
  have e : flts (x.1.2.2.1 ++ [markF]) ++ rest = flts x.1.2.2.1 ++ ([.float .f64 markF] ++ rest) := by simp [flts]
  rw [e] at h4
  exact CellsAt.pre h4
theorem DistM.mark {w0 w : World} {x : StatZ × (Nat × Nat)} (h : DistM w0 w x) : w.cell? ⟨x.2.1, x.1.2.2.1.length, none⟩ = some (.float .f64 markF) := by
  obtain ⟨rest, h1, h2, h3, h4⟩ := h
  rw [h4.cell']
  simp [flts]

/-- What is known, in memory of its own, with marks. -/
structure StatsM (w0 w : World) (g n cap : Nat) (S : List StatZ) : Prop where
  body : ∃ (rest : List Value) (vs : List (Nat × Nat)), n = S.length ∧ n + 1 ≤ cap ∧ cap ≤ maxLen ∧ w0.heap.size ≤ g ∧ vs.length = S.length ∧ (vs.map (·.1)).Nodup ∧ Blk w g ((S.zip vs).flatMap statM ++ (markS ++ rest)) 56 ∧ ∀ x ∈ S.zip vs, DistM w0 w x
theorem typ_fc : 37 ≠ 56 := by decide
theorem StatsM.kp {F : Nat → Prop} {w0 w w' : World} {g n cap : Nat} {S : List StatZ} (h : StatsM w0 w g n cap S) (hk : Kp F w w') (hg : ¬ F g) (hf : ∀ k cs, Blk w k cs 37 → ¬ F k) : StatsM w0 w' g n cap S := by
  obtain ⟨rest, vs, h1, h2, h3, h4, h5, h6, h7, h8⟩ := h.body
  exact ⟨rest, vs, h1, h2, h3, h4, h5, h6, h7.kp hk hg, fun x hx => by
    obtain ⟨cs, hb⟩ := (h8 x hx).blk
    exact (h8 x hx).kp hk (hf _ _ hb)⟩
theorem StatsM.ext {w0 w w' : World} {g n cap : Nat} {S : List StatZ} (h : StatsM w0 w g n cap S) (hk : Ext w w') : StatsM w0 w' g n cap S := h.kp hk id fun _ _ _ => id
theorem StatsM.old {w0 w1 w : World} {g n cap : Nat} {S : List StatZ} (h : StatsM w1 w g n cap S) (hs : w0.heap.size ≤ w1.heap.size) : StatsM w0 w g n cap S := by
  obtain ⟨rest, vs, h1, h2, h3, h4, h5, h6, h7, h8⟩ := h.body
  exact ⟨rest, vs, h1, h2, h3, Nat.le_trans hs h4, h5, h6, h7, fun x hx => by
    obtain ⟨r, a, b, c, d⟩ := h8 x hx
    exact ⟨r, a, b, Nat.le_trans hs c, d⟩⟩
theorem StatsM.at {w0 w : World} {g n cap : Nat} {S : List StatZ} (h : StatsM w0 w g n cap S) : StatsAt w (some ⟨g, 0, none⟩) S := fun i s hs => by
  obtain ⟨rest, vs, h1, h2, h3, h4, h5, h6, h7, h8⟩ := h.body
  have hv : i < vs.length := by rw [h5]; exact (List.getElem?_eq_some_iff.1 hs).1
  have hz : (S.zip vs)[i]? = some (s, vs[i]) := by rw [List.getElem?_zip_eq_some]; exact ⟨hs, List.getElem?_eq_getElem hv⟩
  have hd := h8 _ (List.mem_of_getElem? hz)
  have hb : ∀ c, c < 3 → w.cell? ⟨g, 0 + i * 3 + c, none⟩ = (statM (s, vs[i]))[c]? := fun c hc => by
    have hg := flat_get statM 3 statM_len (S.zip vs) i _ c hz hc
    have hlt : i * 3 + c < ((S.zip vs).flatMap statM).length := by
      rw [flat_len statM 3 statM_len, List.length_zip, h5, Nat.min_self]
      have := (List.getElem?_eq_some_iff.1 hs).1
      omega
    rw [h7.cell', Nat.zero_add, List.getElem?_append_left hlt, hg]
  obtain ⟨r, a, b, c, d⟩ := id hd
  refine ⟨g, 0, _, vs[i].2, rfl, hb 0 (by decide), hb 1 (by decide), hb 2 (by decide), ?_, b, hd.at⟩
  exact Nat.le_trans (Nat.le_succ _) a

def StatMTo (S : List StatZ) (w0 : World) (n : Nat) (iv ov : Value) (w : World) : Prop := ∃ i : Nat, i ≤ n ∧ iv = .int .i64 i ∧ Hid (∃ vs : List (Nat × Nat), vs.length = i ∧ (vs.map (·.1)).Nodup ∧ Row w 56 3 ov i (((S.take i).zip vs).flatMap statM) (New w0) ∧ ∀ x ∈ (S.take i).zip vs, DistM w0 w x) ∧ Hid (Ext w0 w)
def FltsTo (ds : List Nat) (w0 : World) (m : Nat) (kv dv : Value) (w : World) : Prop := ∃ k : Nat, k ≤ m ∧ kv = .int .i64 k ∧ Hid (Row w 37 1 dv k (flts (ds.take k)) (New w0)) ∧ Hid (Ext w0 w)
theorem nodup_snoc {xs : List Nat} {x : Nat} (h : xs.Nodup) (hx : ∀ y ∈ xs, y < x) : (xs ++ [x]).Nodup := by
  rw [List.nodup_append]
  refine ⟨h, by simp, ?_⟩
  intro a ha b hb
  rw [List.mem_singleton] at hb
  have := hx a ha
  omega

set_option maxRecDepth 100000 in
set_option maxHeartbeats 4000000 in
theorem stats_any (S : List StatZ) (ao : Option Addr) (n cap : Nat) (w : World) (hn : n = S.length) (h : KnownAt w ao S) (hf : StatsFit S) :
    Calls Try.prog 10 #[.slice ao n cap] w (RetN w fun w' v => ∃ g c, v = .slice (some ⟨g, 0, none⟩) n c ∧ StatsM w w' g n c S) := by
  have HN := Lib.hid hn
  have HK := Lib.hid h
  have HF := Lib.hid hf
  have hl : n ≤ 1048576 := by have := hf.len; omega
  have hq := frombits_run
  clear hn h hf
  go_enter Try.func10, Try.ntmps10
  go_wp2
  go_loopw [4, 3] (fun iv ov wr => StatMTo S w n iv ov wr) (fun iv _ _ => n - (intOf iv).toNat)
  case atStart => exact ⟨0, Nat.zero_le _, rfl, ⟨[], rfl, List.nodup_nil, Row.nil _ _ _ _, fun x hx => by simp at hx⟩, Kp.refl _⟩
  case round =>
    obtain ⟨i, hi, rfl, hin, hex⟩ := hrel
    by_cases hlt : i < n
    · obtain ⟨s, hs⟩ : ∃ s, S[i]? = some s := ⟨_, List.getElem?_eq_getElem (by rw [← HN.out]; exact hlt)⟩
      obtain ⟨b, off, da, dcap, eao, c0, c1, c2, d1, d2, d3⟩ := HK.out i s hs
      subst eao
      have hm : s.2.2.1.length ≤ 1048576 := HF.out.dist s (List.mem_of_getElem? hs)
      replace c0 := hex.out.cell c0 id
      replace c1 := hex.out.cell c1 id
      replace c2 := hex.out.cell c2 id
      have HD := Lib.hid (d3.ext hex.out)
      obtain ⟨p, ep⟩ : ∃ p, p = s.1 := ⟨_, rfl⟩
      obtain ⟨r, er⟩ : ∃ r, r = s.2.1 := ⟨_, rfl⟩
      obtain ⟨ds, eds⟩ : ∃ ds, ds = s.2.2.1 := ⟨_, rfl⟩
      obtain ⟨m, em⟩ : ∃ m, m = ds.length := ⟨_, rfl⟩
      rw [← ep] at c0
      rw [← er] at c1
      rw [← eds] at HD hm d1
      rw [← eds, ← em] at c2
      rw [← em] at hm d1
      have HS := Lib.hid (And.intro hs (And.intro ep (And.intro er eds)))
      have EM := Lib.hid em
      have HC2 := Lib.hid c2
      have HC0 := Lib.hid c0
      have HC1 := Lib.hid c1
      clear hs ep er eds em d3 c0 c1 c2
      go_wp2
      generalize hw5 : wr = w5 at *; clear hw5
      go_loopw [6, 5] (fun kv dv wk => FltsTo ds w5 m kv dv wk) (fun kv _ _ => m - (intOf kv).toNat)
      case atStart => exact ⟨0, Nat.zero_le _, rfl, Row.nil _ _ _ _, Kp.refl _⟩
      case round =>
        obtain ⟨j, hj, rfl, hr, hex2⟩ := hrel
        obtain ⟨ba, bc, edv, _, _⟩ := hr.out.shape
        subst edv
        have c2 := hex2.out.cell HC2.out id
        by_cases hlt2 : j < m
        · obtain ⟨x, hx⟩ : ∃ x, ds[j]? = some x := ⟨_, List.getElem?_eq_getElem (by rw [← EM.out]; exact hlt2)⟩
          obtain ⟨b2, off2, eda, e0⟩ := HD.out.word hx
          subst eda
          replace e0 := hex2.out.cell e0 id
          have HX := Lib.hid hx
          clear hx
          go_wp2_with (first | (at_builtin; refine Halted.out ?_))
          refine Halted.mk (wp_appN (m := 1) (n := j) elem_flt rfl _ _ rfl (hex2.out.alloc _) rfl (hr.out.alloc _) rfl (CellsAt.one wr (.float .f64 x) 37) (by rfl) (by simp [Value.oneCell']) (by omega) (by unfold maxLen; omega) ?_)
          intro v1 w6 hr1 hk1 hk2 _
          have e7 : flts (ds.take (j + 1)) = flts (ds.take j) ++ [.float .f64 x] := by rw [takeSnoc HX.out]; simp [flts]
          rw [← e7] at hr1
          have HR1 := Lib.hid hr1
          have HX1 := Lib.hid hk1
          clear e7 hr1 hk1 hk2 c2 e0
          go_wp2
          go_roundw
          case rel => exact ⟨j + 1, by omega, by first | rfl | (congr 1; done) | (congr 1; omega), HR1.out, HX1.out⟩
          case measure => simp [intOf]; omega
        · obtain rfl : j = m := by omega
          have hall : ds.take j = ds := List.take_of_length_le (by have := EM.out; omega)
          rw [hall] at hr
          go_wp2_with (first | (at_builtin; refine Halted.out ?_))
          refine Halted.mk (wp_appN (m := 1) (n := j) elem_flt rfl _ _ rfl (hex2.out.alloc _) rfl (hr.out.alloc _) rfl (CellsAt.one wr (.float .f64 markF) 37) (by rfl) (by simp [Value.oneCell']) (by omega) (by unfold maxLen; omega) ?_)
          intro v1 w6 hr1 hk1 hk2 _
          obtain ⟨h1, ⟨rfl, h0⟩ | ⟨gd, dc, rest, rfl, hM, hB, hlen, hnc, hcm⟩⟩ := hr1
          · omega
          have X6 := Lib.hid hk1
          have XX := Lib.hid (hex.out.trans hk1)
          have e8 : flts ds ++ [.float .f64 markF] = flts (ds ++ [markF]) := by simp [flts]
          rw [e8] at hB
          have HB := Lib.hid (And.intro hB (And.intro hnc (And.intro hcm (show w5.heap.size ≤ gd from hM))))
          have hcm2 : dc ≤ 9223372036854775807 := hcm
          have i1 : (j : Int) ≤ (dc : Int) := by omega
          have i2 : IntKind.i64.wrap (j : Int) = (j : Int) := IntWalk.i64_in _ (by omega)
          have c0 := hk1.cell HC0.out id
          have c1 := hk1.cell HC1.out id
          obtain ⟨vs, hvs, hnd, hrow, hds⟩ := hin.out
          obtain ⟨oa, oc, eov, _, _⟩ := hrow.shape
          subst eov
          have HV := Lib.hid (And.intro hvs (And.intro hnd hds))
          have HRo := Lib.hid (hrow.ext hk1)
          have HCells := Lib.hid (show ∀ w', Ext w6 w' → (fun w' : World => w'.cell? ⟨b, off + i * 3, none⟩ = some (.string p) ∧ w'.cell? ⟨b, off + i * 3 + 1, none⟩ = some (.int .u64 r)) w' from fun w' hw => ⟨hw.cell c0 id, hw.cell c1 id⟩)
          clear hall h1 hk1 hk2 hB hM hlen e8 hcm hvs hnd hrow hds hin c0 c1 c2
          go_wp2
          refine draw_begin (fun w' : World => w'.cell? ⟨b, off + i * 3, none⟩ = some (.string p) ∧ w'.cell? ⟨b, off + i * 3 + 1, none⟩ = some (.int .u64 r)) [19] (by kernel_rfl) (HCells.out _ (Kp.refl w6).drew) (fun hHeld => ?_)
          (refine draw_free (i := 0) (v := ?_) rfl ?_ ?_; rotate_left; (intro w; go_simp; try with_reducible rfl)); (try simp only [Act.put, List.setIfInBounds_toArray, List.set_cons_zero, List.set_cons_succ])
          (refine draw_free (i := 1) (v := ?_) rfl ?_ ?_; rotate_left; (intro w; go_simp; try with_reducible rfl)); (try simp only [Act.put, List.setIfInBounds_toArray, List.set_cons_zero, List.set_cons_succ])
          (refine draw_free (i := 2) (v := ?_) rfl ?_ ?_; rotate_left; (intro w; go_simp; try with_reducible rfl)); (try simp only [Act.put, List.setIfInBounds_toArray, List.set_cons_zero, List.set_cons_succ])
          (refine draw_in (i := 3) (v := ?_) rfl ?_ ?_; rotate_left; (intro w hSw; (try dsimp only at hSw); go_simp; try with_reducible rfl)); (try simp only [Act.put, List.setIfInBounds_toArray, List.set_cons_zero, List.set_cons_succ])
          (refine draw_free (i := 4) (v := ?_) rfl ?_ ?_; rotate_left; (intro w; go_simp; try with_reducible rfl)); (try simp only [Act.put, List.setIfInBounds_toArray, List.set_cons_zero, List.set_cons_succ])
          (refine draw_in (i := 5) (v := ?_) rfl ?_ ?_; rotate_left; (intro w hSw; (try dsimp only at hSw); go_simp; try with_reducible rfl)); (try simp only [Act.put, List.setIfInBounds_toArray, List.set_cons_zero, List.set_cons_succ])
          (refine draw_free (i := 6) (v := ?_) rfl ?_ ?_; rotate_left; (intro w; go_simp; try with_reducible rfl)); (try simp only [Act.put, List.setIfInBounds_toArray, List.set_cons_zero, List.set_cons_succ])
          (refine draw_free (i := 7) (v := ?_) rfl ?_ ?_; rotate_left; (intro w; go_simp; try with_reducible rfl)); (try simp only [Act.put, List.setIfInBounds_toArray, List.set_cons_zero, List.set_cons_succ])
          (refine draw_in (i := 8) (v := ?_) rfl ?_ ?_; rotate_left; (intro w hSw; (try dsimp only at hSw); go_simp; try with_reducible rfl)); (try simp only [Act.put, List.setIfInBounds_toArray, List.set_cons_zero, List.set_cons_succ])
          (refine draw_free (i := 9) (v := ?_) rfl ?_ ?_; rotate_left; (intro w; go_simp; try with_reducible rfl)); (try simp only [Act.put, List.setIfInBounds_toArray, List.set_cons_zero, List.set_cons_succ])
          (refine draw_in (i := 10) (v := ?_) rfl ?_ ?_; rotate_left; (intro w hSw; (try dsimp only at hSw); go_simp; try with_reducible rfl)); (try simp only [Act.put, List.setIfInBounds_toArray, List.set_cons_zero, List.set_cons_succ])
          (refine draw_free (i := 11) (v := ?_) rfl ?_ ?_; rotate_left; (intro w; go_simp; try with_reducible rfl)); (try simp only [Act.put, List.setIfInBounds_toArray, List.set_cons_zero, List.set_cons_succ])
          (refine draw_free (i := 12) (v := ?_) rfl ?_ ?_; rotate_left; (intro w; go_simp; try with_reducible rfl)); (try simp only [Act.put, List.setIfInBounds_toArray, List.set_cons_zero, List.set_cons_succ])
          (refine draw_free (i := 13) (v := ?_) rfl ?_ ?_; rotate_left; (intro w; go_simp; try with_reducible rfl)); (try simp only [Act.put, List.setIfInBounds_toArray, List.set_cons_zero, List.set_cons_succ])
          (refine draw_in (i := 14) (v := ?_) rfl ?_ ?_; rotate_left; (intro w hSw; (try dsimp only at hSw); go_simp; try with_reducible rfl)); (try simp only [Act.put, List.setIfInBounds_toArray, List.set_cons_zero, List.set_cons_succ])
          (refine draw_free (i := 15) (v := ?_) rfl ?_ ?_; rotate_left; (intro w; go_simp; try with_reducible rfl)); (try simp only [Act.put, List.setIfInBounds_toArray, List.set_cons_zero, List.set_cons_succ])
          (refine draw_in (i := 16) (v := ?_) rfl ?_ ?_; rotate_left; (intro w hSw; (try dsimp only at hSw); go_simp; try with_reducible rfl)); (try simp only [Act.put, List.setIfInBounds_toArray, List.set_cons_zero, List.set_cons_succ])
          (refine draw_free (i := 17) (v := ?_) rfl ?_ ?_; rotate_left; (intro w; go_simp; try with_reducible rfl)); (try simp only [Act.put, List.setIfInBounds_toArray, List.set_cons_zero, List.set_cons_succ])
          refine draw_one (i := 18) ?_
          refine comes_turn (i := 18) rfl (fun K hK => ?_)
          go_simp
          refine hK.out _ _ ?_ (fun hHeld => ?_)
          · (try dsimp only); (exact HCells.out _ ((Kp.refl w6).alloc _).drew)
          clear hK K; (try simp only [Act.put, List.setIfInBounds_toArray, List.set_cons_zero, List.set_cons_succ])
          refine draw_one (i := 19) ?_
          refine comes_late (i := 19) rfl (by kernel_rfl) (fun K hK => ?_)
          refine draw_appN elem_stat rfl _ _ rfl (XX.out.alloc _).drew rfl (HRo.out.alloc _).drew rfl (CellsAt.new w6 [.string p, .float .f64 r, .slice (some ⟨gd, 0, none⟩) j dc] 56) (by rfl) (by simp [Value.oneCell']) (by omega) (by unfold maxLen; omega) ?_; intro v2 w7 hr2 hk3 hk4
          refine hK.out _ _ ?_
          clear hK K; (try simp only [Act.put, List.setIfInBounds_toArray, List.set_cons_zero, List.set_cons_succ])
          (refine draw_free (i := 20) (v := ?_) rfl ?_ ?_; rotate_left; (intro w; go_simp; try with_reducible rfl)); (try simp only [Act.put, List.setIfInBounds_toArray, List.set_cons_zero, List.set_cons_succ])
          refine wpAnyD_done (by kernel_rfl) ?_ _
          have hk5 : Kp (fun g => (Value.slice oa i oc).ownBlock = some g) ((w6.alloc (.cells #[.string p, .float .f64 r, .slice (some ⟨gd, 0, none⟩) j dc] 56)).drew) w7 := hk4
          have HFin := Lib.hid (show ∃ vs : List (Nat × Nat), vs.length = i + 1 ∧ (vs.map (·.1)).Nodup ∧ Row w7 56 3 v2 (i + 1) (((S.take (i + 1)).zip vs).flatMap statM) (New w) ∧ ∀ x ∈ (S.take (i + 1)).zip vs, DistM w w7 x by
            have hlen : (S.take i).length = vs.length := by rw [List.length_take, HV.out.1]; have := HN.out; omega
            have et := takeSnoc HS.out.1
            have hkd : ∀ x, DistM w (w6.alloc (.cells #[.string p, .float .f64 r, .slice (some ⟨gd, 0, none⟩) j dc] 56)) x → DistM w w7 x := fun x hx => DistM.kp (w := (w6.alloc (.cells #[.string p, .float .f64 r, .slice (some ⟨gd, 0, none⟩) j dc] 56)).drew) (hx.ext (Kp.refl _).drew) hk5 fun e => by
              obtain ⟨cs, hb⟩ := (HRo.out.alloc _).blkOf e
              obtain ⟨cs', hb'⟩ := hx.blk
              exact typ_fc (blk_ne hb' hb)
            refine ⟨vs ++ [(gd, dc)], by rw [List.length_append, HV.out.1]; rfl, ?_, ?_, ?_⟩
            · rw [List.map_append]
              refine nodup_snoc HV.out.2.1 fun y hy => ?_
              obtain ⟨q, hq1, rfl⟩ := List.mem_map.1 hy
              obtain ⟨k, hk, ek⟩ := List.mem_iff_getElem.1 hq1
              have hz : ((S.take i).zip vs)[k]? = some ((S.take i)[k]'(by omega), q) := by
                rw [List.getElem?_zip_eq_some]
                exact ⟨List.getElem?_eq_getElem _, by rw [List.getElem?_eq_getElem hk, ek]⟩
              obtain ⟨cs, hb⟩ := (HV.out.2.2 _ (List.mem_of_getElem? hz)).blk
              exact Nat.lt_of_lt_of_le hb.lt HB.out.2.2.2
            · rw [et, List.zip_append hlen, List.flatMap_append]
              have e2 : (([s].zip [(gd, dc)]).flatMap statM) = [.string p, .float .f64 r, .slice (some ⟨gd, 0, none⟩) j dc] := by
                show statM (s, (gd, dc)) ++ [] = _
                rw [List.append_nil, HS.out.2.1, HS.out.2.2.1, EM.out, HS.out.2.2.2]; rfl
              rw [e2]; exact hr2
            · intro x hx
              rw [et, List.zip_append hlen, List.mem_append] at hx
              rcases hx with hx | hx
              · exact hkd _ ((HV.out.2.2 x hx).ext (X6.out.alloc _))
              · simp at hx; subst hx
                refine hkd _ ⟨rest, ?_, HB.out.2.2.1, Nat.le_trans hex.out.size HB.out.2.2.2, ?_⟩
                · show s.2.2.1.length + 1 ≤ dc
                  rw [← HS.out.2.2.2, ← EM.out]; exact HB.out.2.1
                · show Blk _ gd (flts (s.2.2.1 ++ [markF]) ++ rest) _
                  rw [← HS.out.2.2.2]; exact HB.out.1.alloc _)
          have HX7 := Lib.hid hk3
          clear hr2 hk3 hk4 hk5 hHeld
          go_wp2
          go_roundw
          case rel => exact ⟨i + 1, by omega, by first | rfl | (congr 1; done) | (congr 1; omega), HFin.out, HX7.out⟩
          case measure => simp [intOf]; omega
    · obtain rfl : i = n := by omega
      obtain ⟨vs, hvs, hnd, hrow, hds⟩ := hin.out
      have hall : S.take i = S := List.take_of_length_le (by have := HN.out; omega)
      rw [hall] at hrow hds
      obtain ⟨oa, oc, eov, _, _⟩ := hrow.shape
      subst eov
      have HV := Lib.hid (And.intro hvs (And.intro hnd hds))
      have HRo := Lib.hid hrow
      clear hvs hnd hrow hds hin hall
      go_wp2_with (first | (at_builtin; refine Halted.out ?_))
      refine Halted.mk (wp_appN (m := 1) (n := i) elem_stat rfl _ _ rfl (hex.out.alloc _) rfl (HRo.out.alloc _) rfl (CellsAt.new wr markS 56) (by rfl) (by simp [Value.oneCell', markS]) (by omega) (by unfold maxLen; omega) ?_)
      intro v2 w7 hr2 hk3 hk4 _
      have hkd : ∀ x ∈ S.zip vs, DistM w w7 x := fun x hx => by
        have h := (HV.out.2.2 x hx).ext ((Kp.refl wr).alloc (.cells markS.toArray 56))
        refine h.kp hk4 fun e => ?_
        obtain ⟨cs, hb⟩ := (HRo.out.alloc _).blkOf e
        obtain ⟨cs', hb'⟩ := h.blk
        exact typ_fc (blk_ne hb' hb)
      have HKD := Lib.hid hkd
      have X7 := Lib.hid hk3
      obtain ⟨h1, ⟨rfl, h0⟩ | ⟨g, cap2, rest, rfl, hM, hB, hlen, hnc, hcm⟩⟩ := hr2
      · omega
      · have hcm2 : cap2 ≤ 9223372036854775807 := hcm
        have i1 : (i : Int) ≤ (cap2 : Int) := by omega
        have i2 : ((i : Int) + 1 - 1) = (i : Int) := by omega
        have HBB := Lib.hid (And.intro hnc (And.intro hcm (And.intro hM hB)))
        clear h1 hk3 hk4 hkd hB hM hlen hcm
        go_wp2
        go_ret
        refine RetN.mk X7.out ⟨_, _, rfl, rest, vs, HN.out, HBB.out.1, HBB.out.2.1, HBB.out.2.2.1, HV.out.1.trans HN.out, HV.out.2.1, ?_, HKD.out⟩
        have h := HBB.out.2.2.2
        rw [List.append_assoc] at h
        exact h
end Go.Proofs.Ytcphalpcdcddpaa

/- The law of costs: what is known is as it was, the marks too: kept. -/
namespace Go.Proofs.Ytcphalpcdcddpaa
open Go.RowKit
set_option linter.unusedVariables false
attribute [local go_sem] run_store_float

theorem StatsM.cells {w0 w : World} {g n cap : Nat} {S : List StatZ} (h : StatsM w0 w g n cap S) {i : Nat} {s : StatZ} (hs : S[i]? = some s) : ∃ gd dc, w.cell? ⟨g, i * 3, none⟩ = some (.string s.1) ∧ w.cell? ⟨g, i * 3 + 1, none⟩ = some (.float .f64 s.2.1) ∧ w.cell? ⟨g, i * 3 + 2, none⟩ = some (.slice (some ⟨gd, 0, none⟩) s.2.2.1.length dc) ∧ s.2.2.1.length + 1 ≤ dc ∧ dc ≤ maxLen ∧ CellsAt w (some ⟨gd, 0, none⟩) (flts s.2.2.1) ∧ w.cell? ⟨gd, s.2.2.1.length, none⟩ = some (.float .f64 markF) := by
  obtain ⟨rest, vs, h1, h2, h3, h4, h5, h6, h7, h8⟩ := h.body
  have hv : i < vs.length := by rw [h5]; exact (List.getElem?_eq_some_iff.1 hs).1
  have hz : (S.zip vs)[i]? = some (s, vs[i]) := by rw [List.getElem?_zip_eq_some]; exact ⟨hs, List.getElem?_eq_getElem hv⟩
  have hd := h8 _ (List.mem_of_getElem? hz)
  have hb : ∀ c, c < 3 → w.cell? ⟨g, i * 3 + c, none⟩ = (statM (s, vs[i]))[c]? := fun c hc => by
    have hg := flat_get statM 3 statM_len (S.zip vs) i _ c hz hc
    have hlt : i * 3 + c < ((S.zip vs).flatMap statM).length := by
      rw [flat_len statM 3 statM_len, List.length_zip, h5, Nat.min_self]
      have := (List.getElem?_eq_some_iff.1 hs).1
      omega
    rw [h7.cell', List.getElem?_append_left hlt, hg]
  obtain ⟨r, a, b, c, d⟩ := id hd
  exact ⟨_, _, hb 0 (by decide), hb 1 (by decide), hb 2 (by decide), a, b, hd.at, hd.mark⟩
theorem StatsM.mark {w0 w : World} {g n cap : Nat} {S : List StatZ} (h : StatsM w0 w g n cap S) : n + 1 ≤ cap ∧ cap ≤ maxLen ∧ w.cell? ⟨g, n * 3, none⟩ = some (.string ⟨#[109, 97, 114, 107]⟩) := by
  obtain ⟨rest, vs, h1, h2, h3, h4, h5, h6, h7, h8⟩ := h.body
  refine ⟨h2, h3, ?_⟩
  have hfl : ((S.zip vs).flatMap statM).length = n * 3 := by rw [flat_len statM 3 statM_len, List.length_zip, h5, Nat.min_self, h1]
  rw [h7.cell', ← hfl, List.getElem?_append_right (Nat.le_refl _), Nat.sub_self]; rfl

set_option maxRecDepth 100000 in
set_option maxHeartbeats 8000000 in
theorem kept_any (S : List StatZ) (w0 : World) (g n cap : Nat) (ao : Option Addr) (lcap : Nat) (w : World) (hn : n = S.length) (h : KnownAt w ao S) (hf : StatsFit S) (hM : StatsM w0 w g n cap S) :
    Calls Try.prog 19 #[.slice (some ⟨g, 0, none⟩) n cap, .slice ao n lcap] w (RetN w fun w' v => v = .bool true) := by
  have HN := Lib.hid hn
  have HK := Lib.hid h
  have HF := Lib.hid hf
  have HA := Lib.hid (fun (i : Nat) (s : StatZ) (hs : S[i]? = some s) => hM.cells hs)
  have hl : n ≤ 1048576 := by have := hf.len; omega
  obtain ⟨hc1, hc2, hmk⟩ := hM.mark
  have hc3 : cap ≤ 9223372036854775807 := hc2
  have i1 : (n : Int) + 1 ≤ (cap : Int) := by omega
  have hq := bits_run
  have q1 : ((n : Int) != (n : Int)) = false := by simp
  have q3 : ((FloatKind.format .f64).order 4649993003539103744 4649993003539103744 != some .eq) = false := by decide
  clear hn h hf hM hc1 hc2
  go_enter Try.func19, Try.ntmps19
  go_wp2
  clear hmk
  go_loopw [5] (fun iv wr => SameTo w n iv wr) (fun iv _ => n - (intOf iv).toNat)
  case atStart => exact ⟨0, Nat.zero_le _, rfl, Kp.refl _⟩
  case round =>
    obtain ⟨i, hi, rfl, hex⟩ := hrel
    by_cases hlt : i < n
    · obtain ⟨s, hs⟩ : ∃ s, S[i]? = some s := ⟨_, List.getElem?_eq_getElem (by rw [← HN.out]; exact hlt)⟩
      obtain ⟨b, off, da, dcap, eao, c0, c1, c2, d1, d2, d3⟩ := HK.out i s hs
      obtain ⟨gd, dc, k0, k1, k2, k3, k4, k5, k6⟩ := HA.out i s hs
      subst eao
      have hm : s.2.2.1.length ≤ 1048576 := HF.out.dist s (List.mem_of_getElem? hs)
      replace c0 := hex.out.cell c0 id
      replace c1 := hex.out.cell c1 id
      replace c2 := hex.out.cell c2 id
      replace k0 := hex.out.cell k0 id
      replace k1 := hex.out.cell k1 id
      replace k2 := hex.out.cell k2 id
      replace k6 := hex.out.cell k6 id
      have HD := Lib.hid (And.intro (d3.ext hex.out) (k5.ext hex.out))
      have k4' : dc ≤ 9223372036854775807 := k4
      generalize s.1 = p at *
      generalize s.2.1 = r at *
      generalize s.2.2.1 = ds at *
      obtain ⟨m, em⟩ : ∃ m, m = ds.length := ⟨_, rfl⟩
      rw [← em] at c2 k2 k3 k6 hm d1
      have EM := Lib.hid em
      have i2 : (m : Int) + 1 ≤ (dc : Int) := by omega
      have q2 : ((m : Int) != (m : Int)) = false := by simp
      have i5 : (0 : Int) ≤ (m : Int) + 1 := by omega
      have i6 : (m : Int) < (m : Int) + 1 := by omega
      have i4 : IntKind.i64.wrap ((m : Int) + 1) = (m : Int) + 1 := IntWalk.i64_in _ (by omega)
      have q4 : ((r : Int) != (r : Int)) = false := by simp
      have q5 := str_eq p
      obtain ⟨gt, egt⟩ : ∃ gt, gt = wr.heap.size := ⟨_, rfl⟩
      obtain ⟨wx, ewx⟩ : ∃ wx, wr.alloc (.cells #[.string p, .float .f64 r, .slice (some ⟨gd, 0, none⟩) m dc] 56) = wx := ⟨_, rfl⟩
      have hgt := Blk.new wr [.string p, .float .f64 r, .slice (some ⟨gd, 0, none⟩) m dc] 56
      have ewx' : wr.alloc (.cells [Value.string p, .float .f64 r, .slice (some ⟨gd, 0, none⟩) m dc].toArray 56) = wx := ewx
      rw [ewx', ← egt] at hgt
      have hxx : Ext wr wx := by rw [← ewx]; exact (Kp.refl wr).alloc _
      have HXX := Lib.hid hxx
      have HGT := Lib.hid hgt
      have EGT := Lib.hid egt
      have HCells := Lib.hid (show ∀ w', Ext wx w' → (fun w' : World => w'.cell? ⟨gt, 0, none⟩ = some (.string p) ∧ w'.cell? ⟨gt, 1, none⟩ = some (.float .f64 r) ∧ w'.cell? ⟨gt, 2, none⟩ = some (.slice (some ⟨gd, 0, none⟩) m dc) ∧ w'.cell? ⟨b, off + i * 3, none⟩ = some (.string p) ∧ w'.cell? ⟨b, off + i * 3 + 1, none⟩ = some (.int .u64 r) ∧ w'.cell? ⟨b, off + i * 3 + 2, none⟩ = some (.slice da m dcap) ∧ w'.cell? ⟨gd, m, none⟩ = some (.float .f64 4649993003539103744)) w' from fun w' hw => ⟨by rw [(HGT.out.ext hw).cell']; rfl, by rw [(HGT.out.ext hw).cell']; rfl, by rw [(HGT.out.ext hw).cell']; rfl, hw.cell (hxx.cell c0 id) id, hw.cell (hxx.cell c1 id) id, hw.cell (hxx.cell c2 id) id, hw.cell (hxx.cell k6 id) id⟩)
      clear hs em k4 k5 k6 d3 hgt ewx' hxx egt c0 c1 c2
      go_wp2_with fail
      rw [← EGT.out]
      clear ewx k0 k1 k2
      refine draw_begin (fun w' : World => w'.cell? ⟨gt, 0, none⟩ = some (.string p) ∧ w'.cell? ⟨gt, 1, none⟩ = some (.float .f64 r) ∧ w'.cell? ⟨gt, 2, none⟩ = some (.slice (some ⟨gd, 0, none⟩) m dc) ∧ w'.cell? ⟨b, off + i * 3, none⟩ = some (.string p) ∧ w'.cell? ⟨b, off + i * 3 + 1, none⟩ = some (.int .u64 r) ∧ w'.cell? ⟨b, off + i * 3 + 2, none⟩ = some (.slice da m dcap) ∧ w'.cell? ⟨gd, m, none⟩ = some (.float .f64 4649993003539103744)) [] (by kernel_rfl) (HCells.out _ (Kp.refl wx).drew) (fun hHeld => ?_)
      (refine draw_free (i := 0) (v := ?_) rfl ?_ ?_; rotate_left; (intro w; go_simp; try with_reducible rfl)); (try simp only [Act.put, List.setIfInBounds_toArray, List.set_cons_zero, List.set_cons_succ])
      (refine draw_in (i := 1) (v := ?_) rfl ?_ ?_; rotate_left; (intro w hSw; (try dsimp only at hSw); go_simp; try with_reducible rfl)); (try simp only [Act.put, List.setIfInBounds_toArray, List.set_cons_zero, List.set_cons_succ])
      (refine draw_free (i := 2) (v := ?_) rfl ?_ ?_; rotate_left; (intro w; go_simp; try with_reducible rfl)); (try simp only [Act.put, List.setIfInBounds_toArray, List.set_cons_zero, List.set_cons_succ])
      (refine draw_free (i := 3) (v := ?_) rfl ?_ ?_; rotate_left; (intro w; go_simp; try with_reducible rfl)); (try simp only [Act.put, List.setIfInBounds_toArray, List.set_cons_zero, List.set_cons_succ])
      (refine draw_in (i := 4) (v := ?_) rfl ?_ ?_; rotate_left; (intro w hSw; (try dsimp only at hSw); go_simp; try with_reducible rfl)); (try simp only [Act.put, List.setIfInBounds_toArray, List.set_cons_zero, List.set_cons_succ])
      (refine draw_free (i := 5) (v := ?_) rfl ?_ ?_; rotate_left; (intro w; go_simp; try with_reducible rfl)); (try simp only [Act.put, List.setIfInBounds_toArray, List.set_cons_zero, List.set_cons_succ])
      (refine draw_in (i := 6) (v := ?_) rfl ?_ ?_; rotate_left; (intro w hSw; (try dsimp only at hSw); go_simp; try with_reducible rfl)); (try simp only [Act.put, List.setIfInBounds_toArray, List.set_cons_zero, List.set_cons_succ])
      (refine draw_free (i := 7) (v := ?_) rfl ?_ ?_; rotate_left; (intro w; go_simp; try with_reducible rfl)); (try simp only [Act.put, List.setIfInBounds_toArray, List.set_cons_zero, List.set_cons_succ])
      (refine draw_free (i := 8) (v := ?_) rfl ?_ ?_; rotate_left; (intro w; go_simp; try with_reducible rfl)); (try simp only [Act.put, List.setIfInBounds_toArray, List.set_cons_zero, List.set_cons_succ])
      (first | (refine draw_free (i := 9) (v := ?_) rfl ?_ ?_; rotate_left; (intro w; go_simp; try with_reducible rfl)) | (refine draw_out (i := 9) rfl ?_)); (try simp only [Act.put, List.setIfInBounds_toArray, List.set_cons_zero, List.set_cons_succ])
      (first | (refine draw_in (i := 10) (v := ?_) rfl ?_ ?_; rotate_left; (intro w hSw; (try dsimp only at hSw); go_simp; try with_reducible rfl)) | (refine draw_out (i := 10) rfl ?_)); (try simp only [Act.put, List.setIfInBounds_toArray, List.set_cons_zero, List.set_cons_succ])
      (first | (refine draw_free (i := 11) (v := ?_) rfl ?_ ?_; rotate_left; (intro w; go_simp; try with_reducible rfl)) | (refine draw_out (i := 11) rfl ?_)); (try simp only [Act.put, List.setIfInBounds_toArray, List.set_cons_zero, List.set_cons_succ])
      (first | (refine draw_free (i := 12) (v := ?_) rfl ?_ ?_; rotate_left; (intro w; go_simp; try with_reducible rfl)) | (refine draw_out (i := 12) rfl ?_)); (try simp only [Act.put, List.setIfInBounds_toArray, List.set_cons_zero, List.set_cons_succ])
      (first | (refine draw_free (i := 13) (v := ?_) rfl ?_ ?_; rotate_left; (intro w; go_simp; try with_reducible rfl)) | (refine draw_out (i := 13) rfl ?_)); (try simp only [Act.put, List.setIfInBounds_toArray, List.set_cons_zero, List.set_cons_succ])
      (first | (refine draw_in (i := 14) (v := ?_) rfl ?_ ?_; rotate_left; (intro w hSw; (try dsimp only at hSw); go_simp; try with_reducible rfl)) | (refine draw_out (i := 14) rfl ?_)); (try simp only [Act.put, List.setIfInBounds_toArray, List.set_cons_zero, List.set_cons_succ])
      (first | (refine draw_free (i := 15) (v := ?_) rfl ?_ ?_; rotate_left; (intro w; go_simp; try with_reducible rfl)) | (refine draw_out (i := 15) rfl ?_)); (try simp only [Act.put, List.setIfInBounds_toArray, List.set_cons_zero, List.set_cons_succ])
      (first | (refine draw_in (i := 16) (v := ?_) rfl ?_ ?_; rotate_left; (intro w hSw; (try dsimp only at hSw); go_simp; try with_reducible rfl)) | (refine draw_out (i := 16) rfl ?_)); (try simp only [Act.put, List.setIfInBounds_toArray, List.set_cons_zero, List.set_cons_succ])
      (first | (refine draw_free (i := 17) (v := ?_) rfl ?_ ?_; rotate_left; (intro w; go_simp; try with_reducible rfl)) | (refine draw_out (i := 17) rfl ?_)); (try simp only [Act.put, List.setIfInBounds_toArray, List.set_cons_zero, List.set_cons_succ])
      (refine draw_free (i := 18) (v := ?_) rfl ?_ ?_; rotate_left; (intro w; go_simp; try with_reducible rfl)); (try simp only [Act.put, List.setIfInBounds_toArray, List.set_cons_zero, List.set_cons_succ])
      (refine draw_free (i := 19) (v := ?_) rfl ?_ ?_; rotate_left; (intro w; go_simp; try with_reducible rfl)); (try simp only [Act.put, List.setIfInBounds_toArray, List.set_cons_zero, List.set_cons_succ])
      (first | (refine draw_free (i := 20) (v := ?_) rfl ?_ ?_; rotate_left; (intro w; go_simp; try with_reducible rfl)) | (refine draw_out (i := 20) rfl ?_)); (try simp only [Act.put, List.setIfInBounds_toArray, List.set_cons_zero, List.set_cons_succ])
      (first | (refine draw_in (i := 21) (v := ?_) rfl ?_ ?_; rotate_left; (intro w hSw; (try dsimp only at hSw); go_simp; try with_reducible rfl)) | (refine draw_out (i := 21) rfl ?_)); (try simp only [Act.put, List.setIfInBounds_toArray, List.set_cons_zero, List.set_cons_succ])
      (first | (refine draw_in (i := 22) (v := ?_) rfl ?_ ?_; rotate_left; (intro w hSw; (try dsimp only at hSw); go_simp; try with_reducible rfl)) | (refine draw_out (i := 22) rfl ?_)); (try simp only [Act.put, List.setIfInBounds_toArray, List.set_cons_zero, List.set_cons_succ])
      (first | (refine draw_free (i := 23) (v := ?_) rfl ?_ ?_; rotate_left; (intro w; go_simp; try with_reducible rfl)) | (refine draw_out (i := 23) rfl ?_)); (try simp only [Act.put, List.setIfInBounds_toArray, List.set_cons_zero, List.set_cons_succ])
      (first | (refine draw_free (i := 24) (v := ?_) rfl ?_ ?_; rotate_left; (intro w; go_simp; try with_reducible rfl)) | (refine draw_out (i := 24) rfl ?_)); (try simp only [Act.put, List.setIfInBounds_toArray, List.set_cons_zero, List.set_cons_succ])
      (first | (refine draw_in (i := 25) (v := ?_) rfl ?_ ?_; rotate_left; (intro w hSw; (try dsimp only at hSw); go_simp; try with_reducible rfl)) | (refine draw_out (i := 25) rfl ?_)); (try simp only [Act.put, List.setIfInBounds_toArray, List.set_cons_zero, List.set_cons_succ])
      (first | (refine draw_free (i := 26) (v := ?_) rfl ?_ ?_; rotate_left; (intro w; go_simp; try with_reducible rfl)) | (refine draw_out (i := 26) rfl ?_)); (try simp only [Act.put, List.setIfInBounds_toArray, List.set_cons_zero, List.set_cons_succ])
      (first | (refine draw_in (i := 27) (v := ?_) rfl ?_ ?_; rotate_left; (intro w hSw; (try dsimp only at hSw); go_simp; try with_reducible rfl)) | (refine draw_out (i := 27) rfl ?_)); (try simp only [Act.put, List.setIfInBounds_toArray, List.set_cons_zero, List.set_cons_succ])
      (first | (refine draw_in (i := 28) (v := ?_) rfl ?_ ?_; rotate_left; (intro w hSw; (try dsimp only at hSw); go_simp; try with_reducible rfl)) | (refine draw_out (i := 28) rfl ?_)); (try simp only [Act.put, List.setIfInBounds_toArray, List.set_cons_zero, List.set_cons_succ])
      (first | (refine draw_free (i := 29) (v := ?_) rfl ?_ ?_; rotate_left; (intro w; go_simp; try with_reducible rfl)) | (refine draw_out (i := 29) rfl ?_)); (try simp only [Act.put, List.setIfInBounds_toArray, List.set_cons_zero, List.set_cons_succ])
      (refine draw_free (i := 30) (v := ?_) rfl ?_ ?_; rotate_left; (intro w; go_simp; try with_reducible rfl)); (try simp only [Act.put, List.setIfInBounds_toArray, List.set_cons_zero, List.set_cons_succ])
      (refine draw_free (i := 31) (v := ?_) rfl ?_ ?_; rotate_left; (intro w; go_simp; try with_reducible rfl)); (try simp only [Act.put, List.setIfInBounds_toArray, List.set_cons_zero, List.set_cons_succ])
      (first | (refine draw_free (i := 32) (v := ?_) rfl ?_ ?_; rotate_left; (intro w; go_simp; try with_reducible rfl)) | (refine draw_out (i := 32) rfl ?_)); (try simp only [Act.put, List.setIfInBounds_toArray, List.set_cons_zero, List.set_cons_succ])
      (first | (refine draw_in (i := 33) (v := ?_) rfl ?_ ?_; rotate_left; (intro w hSw; (try dsimp only at hSw); go_simp; try with_reducible rfl)) | (refine draw_out (i := 33) rfl ?_)); (try simp only [Act.put, List.setIfInBounds_toArray, List.set_cons_zero, List.set_cons_succ])
      (first | (refine draw_free (i := 34) (v := ?_) rfl ?_ ?_; rotate_left; (intro w; go_simp; try with_reducible rfl)) | (refine draw_out (i := 34) rfl ?_)); (try simp only [Act.put, List.setIfInBounds_toArray, List.set_cons_zero, List.set_cons_succ])
      (first | (refine draw_in (i := 35) (v := ?_) rfl ?_ ?_; rotate_left; (intro w hSw; (try dsimp only at hSw); go_simp; try with_reducible rfl)) | (refine draw_out (i := 35) rfl ?_)); (try simp only [Act.put, List.setIfInBounds_toArray, List.set_cons_zero, List.set_cons_succ])
      (first | (refine draw_in (i := 36) (v := ?_) rfl ?_ ?_; rotate_left; (intro w hSw; (try dsimp only at hSw); go_simp; try with_reducible rfl)) | (refine draw_out (i := 36) rfl ?_)); (try simp only [Act.put, List.setIfInBounds_toArray, List.set_cons_zero, List.set_cons_succ])
      (first | (refine draw_free (i := 37) (v := ?_) rfl ?_ ?_; rotate_left; (intro w; go_simp; try with_reducible rfl)) | (refine draw_out (i := 37) rfl ?_)); (try simp only [Act.put, List.setIfInBounds_toArray, List.set_cons_zero, List.set_cons_succ])
      (first | (refine draw_in (i := 38) (v := ?_) rfl ?_ ?_; rotate_left; (intro w hSw; (try dsimp only at hSw); go_simp; try with_reducible rfl)) | (refine draw_out (i := 38) rfl ?_)); (try simp only [Act.put, List.setIfInBounds_toArray, List.set_cons_zero, List.set_cons_succ])
      (first | (refine draw_free (i := 39) (v := ?_) rfl ?_ ?_; rotate_left; (intro w; go_simp; try with_reducible rfl)) | (refine draw_out (i := 39) rfl ?_)); (try simp only [Act.put, List.setIfInBounds_toArray, List.set_cons_zero, List.set_cons_succ])
      (first | (refine draw_in (i := 40) (v := ?_) rfl ?_ ?_; rotate_left; (intro w hSw; (try dsimp only at hSw); go_simp; try with_reducible rfl)) | (refine draw_out (i := 40) rfl ?_)); (try simp only [Act.put, List.setIfInBounds_toArray, List.set_cons_zero, List.set_cons_succ])
      (first | (refine draw_in (i := 41) (v := ?_) rfl ?_ ?_; rotate_left; (intro w hSw; (try dsimp only at hSw); go_simp; try with_reducible rfl)) | (refine draw_out (i := 41) rfl ?_)); (try simp only [Act.put, List.setIfInBounds_toArray, List.set_cons_zero, List.set_cons_succ])
      (first | (refine draw_in (i := 42) (v := ?_) rfl ?_ ?_; rotate_left; (intro w hSw; (try dsimp only at hSw); go_simp; try with_reducible rfl)) | (refine draw_out (i := 42) rfl ?_)); (try simp only [Act.put, List.setIfInBounds_toArray, List.set_cons_zero, List.set_cons_succ])
      (first | (refine draw_in (i := 43) (v := ?_) rfl ?_ ?_; rotate_left; (intro w hSw; (try dsimp only at hSw); go_simp; try with_reducible rfl)) | (refine draw_out (i := 43) rfl ?_)); (try simp only [Act.put, List.setIfInBounds_toArray, List.set_cons_zero, List.set_cons_succ])
      (first | (refine draw_free (i := 44) (v := ?_) rfl ?_ ?_; rotate_left; (intro w; go_simp; try with_reducible rfl)) | (refine draw_out (i := 44) rfl ?_)); (try simp only [Act.put, List.setIfInBounds_toArray, List.set_cons_zero, List.set_cons_succ])
      (refine draw_free (i := 45) (v := ?_) rfl ?_ ?_; rotate_left; (intro w; go_simp; try with_reducible rfl)); (try simp only [Act.put, List.setIfInBounds_toArray, List.set_cons_zero, List.set_cons_succ])
      refine wpAnyD_done (by kernel_rfl) ?_ _
      go_wp2
      generalize hw5 : wr = w5 at *; clear hw5
      have X5 := Lib.hid (hex.out.trans HXX.out)
      go_loopw [7] (fun kv wk => SameTo wx m kv wk) (fun kv _ => m - (intOf kv).toNat)
      case atStart => exact ⟨0, Nat.zero_le _, rfl, (Kp.refl wx).drew⟩
      case round =>
        obtain ⟨j, hj, rfl, hex2⟩ := hrel
        have g2 := (HCells.out wr hex2.out).2.2.1
        by_cases hlt2 : j < m
        · obtain ⟨x, hx⟩ : ∃ x, ds[j]? = some x := ⟨_, List.getElem?_eq_getElem (by rw [← EM.out]; exact hlt2)⟩
          obtain ⟨b2, off2, eda, e0⟩ := HD.out.1.word hx
          subst eda
          have e1 : w5.cell? ⟨gd, j, none⟩ = some (.float .f64 x) := by
            obtain ⟨_, _, e, h⟩ := HD.out.2 j (.float .f64 x) (by simp [flts, hx])
            cases e
            rw [Nat.zero_add] at h
            exact h
          have q6 : ((x : Int) != (x : Int)) = false := by simp
          have XX := Lib.hid (HXX.out.trans hex2.out)
          have HJ := Lib.hid (show ∀ w', Ext wr w' → (fun w' : World => w'.cell? ⟨gt, 2, none⟩ = some (.slice (some ⟨gd, 0, none⟩) m dc) ∧ w'.cell? ⟨b, off + i * 3 + 2, none⟩ = some (.slice (some ⟨b2, off2, none⟩) m dcap) ∧ w'.cell? ⟨b2, off2 + j, none⟩ = some (.int .u64 x) ∧ w'.cell? ⟨gd, j, none⟩ = some (.float .f64 x)) w' from fun w' hw => ⟨hw.cell g2 id, hw.cell (HCells.out wr hex2.out).2.2.2.2.2.1 id, hw.cell (XX.out.cell e0 id) id, hw.cell (XX.out.cell e1 id) id⟩)
          clear hx e0 e1
          go_wp2
          clear g2
          refine draw_begin (fun w' : World => w'.cell? ⟨gt, 2, none⟩ = some (.slice (some ⟨gd, 0, none⟩) m dc) ∧ w'.cell? ⟨b, off + i * 3 + 2, none⟩ = some (.slice (some ⟨b2, off2, none⟩) m dcap) ∧ w'.cell? ⟨b2, off2 + j, none⟩ = some (.int .u64 x) ∧ w'.cell? ⟨gd, j, none⟩ = some (.float .f64 x)) [] (by kernel_rfl) (HJ.out _ (Kp.refl wr).drew) (fun hHeld => ?_)
          (refine draw_free (i := 0) (v := ?_) rfl ?_ ?_; rotate_left; (intro w; go_simp; try with_reducible rfl)); (try simp only [Act.put, List.setIfInBounds_toArray, List.set_cons_zero, List.set_cons_succ])
          (refine draw_in (i := 1) (v := ?_) rfl ?_ ?_; rotate_left; (intro w hSw; (try dsimp only at hSw); go_simp; try with_reducible rfl)); (try simp only [Act.put, List.setIfInBounds_toArray, List.set_cons_zero, List.set_cons_succ])
          (refine draw_free (i := 2) (v := ?_) rfl ?_ ?_; rotate_left; (intro w; go_simp; try with_reducible rfl)); (try simp only [Act.put, List.setIfInBounds_toArray, List.set_cons_zero, List.set_cons_succ])
          (refine draw_in (i := 3) (v := ?_) rfl ?_ ?_; rotate_left; (intro w hSw; (try dsimp only at hSw); go_simp; try with_reducible rfl)); (try simp only [Act.put, List.setIfInBounds_toArray, List.set_cons_zero, List.set_cons_succ])
          (refine draw_in (i := 4) (v := ?_) rfl ?_ ?_; rotate_left; (intro w hSw; (try dsimp only at hSw); go_simp; try with_reducible rfl)); (try simp only [Act.put, List.setIfInBounds_toArray, List.set_cons_zero, List.set_cons_succ])
          (refine draw_free (i := 5) (v := ?_) rfl ?_ ?_; rotate_left; (intro w; go_simp; try with_reducible rfl)); (try simp only [Act.put, List.setIfInBounds_toArray, List.set_cons_zero, List.set_cons_succ])
          (refine draw_free (i := 6) (v := ?_) rfl ?_ ?_; rotate_left; (intro w; go_simp; try with_reducible rfl)); (try simp only [Act.put, List.setIfInBounds_toArray, List.set_cons_zero, List.set_cons_succ])
          (refine draw_free (i := 7) (v := ?_) rfl ?_ ?_; rotate_left; (intro w; go_simp; try with_reducible rfl)); (try simp only [Act.put, List.setIfInBounds_toArray, List.set_cons_zero, List.set_cons_succ])
          (refine draw_in (i := 8) (v := ?_) rfl ?_ ?_; rotate_left; (intro w hSw; (try dsimp only at hSw); go_simp; try with_reducible rfl)); (try simp only [Act.put, List.setIfInBounds_toArray, List.set_cons_zero, List.set_cons_succ])
          (refine draw_free (i := 9) (v := ?_) rfl ?_ ?_; rotate_left; (intro w; go_simp; try with_reducible rfl)); (try simp only [Act.put, List.setIfInBounds_toArray, List.set_cons_zero, List.set_cons_succ])
          (refine draw_in (i := 10) (v := ?_) rfl ?_ ?_; rotate_left; (intro w hSw; (try dsimp only at hSw); go_simp; try with_reducible rfl)); (try simp only [Act.put, List.setIfInBounds_toArray, List.set_cons_zero, List.set_cons_succ])
          (refine draw_free (i := 11) (v := ?_) rfl ?_ ?_; rotate_left; (intro w; go_simp; try with_reducible rfl)); (try simp only [Act.put, List.setIfInBounds_toArray, List.set_cons_zero, List.set_cons_succ])
          (refine draw_in (i := 12) (v := ?_) rfl ?_ ?_; rotate_left; (intro w hSw; (try dsimp only at hSw); go_simp; try with_reducible rfl)); (try simp only [Act.put, List.setIfInBounds_toArray, List.set_cons_zero, List.set_cons_succ])
          (refine draw_in (i := 13) (v := ?_) rfl ?_ ?_; rotate_left; (intro w hSw; (try dsimp only at hSw); go_simp; try with_reducible rfl)); (try simp only [Act.put, List.setIfInBounds_toArray, List.set_cons_zero, List.set_cons_succ])
          (refine draw_free (i := 14) (v := ?_) rfl ?_ ?_; rotate_left; (intro w; go_simp; try with_reducible rfl)); (try simp only [Act.put, List.setIfInBounds_toArray, List.set_cons_zero, List.set_cons_succ])
          refine wpAnyD_done (by kernel_rfl) ?_ _
          go_wp2
          go_roundw
          case rel => exact ⟨j + 1, by omega, by first | rfl | (congr 1; done) | (congr 1; omega), hex2.out.drew⟩
          case measure => simp [intOf]; omega
        · go_wp2
          go_roundw
          case rel => exact ⟨i + 1, by omega, by first | rfl | (congr 1; done) | (congr 1; omega), X5.out.trans hex2.out⟩
          case measure => simp [intOf]; omega
    · go_wp2
      go_ret
      exact RetN.mk hex.out rfl
end Go.Proofs.Ytcphalpcdcddpaa

/- The law of costs: other counts of the same predicates: others. -/
namespace Go.Proofs.Ytcphalpcdcddpaa
open Go.RowKit
set_option linter.unusedVariables false
attribute [local go_sem] run_store_float

/-- A sum or a product: a word, whatever it is; the world is as it was but for what was drawn. -/
theorem arith_some (op : BinOp) (hop : op = .add ∨ op = .mul) (t : TypeId) (x y : Nat) : ∃ (fb : World → Nat) (fw : World → World), (∀ W, (binOp op t (.float .f64 x) (.float .f64 y)).run Try.prog W = .ok (.float .f64 (fb W)) (fw W)) ∧ (∀ W, fb W < 18446744073709551616) ∧ ∀ W, Ext W (fw W) := by
  have h1 : ∀ W : World, ∃ z : Nat × World, (binOp op t (.float .f64 x) (.float .f64 y)).run Try.prog W = .ok (.float .f64 z.1) z.2 ∧ z.1 < 18446744073709551616 ∧ Ext W z.2 := fun W => by
    cases e : floatBits op .f64 x y with
    | some r =>
      refine ⟨(r, W), run_float_arith W op t .f64 x y r e, ?_, Kp.refl W⟩
      rcases hop with rfl | rfl
      · exact Ieee.Format.add_lt Ieee.double e
      · exact Ieee.Format.mul_lt Ieee.double e
    | none =>
      refine ⟨((Question.nanBits .f64 x y).cut (W.tape W.drawn (.nanBits .f64 x y)), W.drew), ?_, ?_, (Kp.refl W).drew⟩
      · rcases hop with rfl | rfl
        · have h' : (FloatKind.format .f64).add x y = none := e
          simp [binOp, Op.floatArith, h', Question.forced]
        · have h' : (FloatKind.format .f64).mul x y = none := e
          simp [binOp, Op.floatArith, h', Question.forced]
      · generalize W.tape W.drawn (.nanBits .f64 x y) = q
        have hb : (Question.nanBits .f64 x y).cut q = (q % 2) * 9223372036854775808 + 9218868437227405312 + 1 + (q / 2) % 4503599627370495 := rfl
        show (Question.nanBits .f64 x y).cut q < _
        rw [hb]
        have h1 : (q / 2) % 4503599627370495 < 4503599627370495 := Nat.mod_lt _ (by decide)
        have h2 : q % 2 < 2 := Nat.mod_lt _ (by decide)
        omega
  exact ⟨fun W => (Classical.choose (h1 W)).1, fun W => (Classical.choose (h1 W)).2, fun W => (Classical.choose_spec (h1 W)).1, fun W => (Classical.choose_spec (h1 W)).2.1, fun W => (Classical.choose_spec (h1 W)).2.2⟩

theorem elem_known : ElemT Try.prog 29 53 3 48 (.agg #[.string ⟨#[]⟩, .int .u64 0, .slice none 0 0]) := ⟨by kernel_rfl, by kernel_rfl, rfl, by decide⟩
theorem elem_u64 : ElemT Try.prog 51 50 1 8 (.int .u64 0) := ⟨by kernel_rfl, by kernel_rfl, rfl, by decide⟩
theorem typ_uk : 50 ≠ 53 := by decide
def knownC (x : StatZ × (Option Addr × Nat)) : List Value := [.string x.1.1, .int .u64 x.1.2.1, .slice x.2.1 x.1.2.2.1.length x.2.2]
theorem knownC_len (x : StatZ × (Option Addr × Nat)) : (knownC x).length = 3 := rfl
def WordsAt (w0 w : World) (x : StatZ × (Option Addr × Nat)) : Prop := Row w 50 1 (.slice x.2.1 x.1.2.2.1.length x.2.2) x.1.2.2.1.length (words x.1.2.2.1) (New w0)
theorem CellsAt.kpN {F : Nat → Prop} {w w' : World} {ao : Option Addr} {vs : List Value} (h : CellsAt w ao vs) (k : Kp F w w') (hf : vs ≠ [] → Off F ao) : CellsAt w' ao vs := by
  by_cases e : vs = []
  · subst e; exact CellsAt.nil _ _
  · exact h.kp k (hf e)
theorem words_ne {xs : List Nat} (h : words xs ≠ []) : xs ≠ [] := fun e => h (by rw [e]; rfl)
theorem ints_ne {xs : List Int} (h : ints xs ≠ []) : xs ≠ [] := fun e => h (by rw [e]; rfl)
/-- What is known, by bits, in blocks of M. -/
def KnownIn (w : World) (M : Nat → Prop) (ao : Option Addr) (S : List StatZ) : Prop := ∀ (i : Nat) (s : StatZ), S[i]? = some s → ∃ b off da dcap, ao = some ⟨b, off, none⟩ ∧ M b ∧ (s.2.2.1 ≠ [] → ∀ a, da = some a → M a.block) ∧ w.cell? ⟨b, off + i * 3, none⟩ = some (.string s.1) ∧ w.cell? ⟨b, off + i * 3 + 1, none⟩ = some (.int .u64 s.2.1) ∧ w.cell? ⟨b, off + i * 3 + 2, none⟩ = some (.slice da s.2.2.1.length dcap) ∧ s.2.2.1.length ≤ dcap ∧ dcap ≤ maxLen ∧ CellsAt w da (words s.2.2.1)
theorem KnownIn.at {w : World} {M : Nat → Prop} {ao : Option Addr} {S : List StatZ} (h : KnownIn w M ao S) : KnownAt w ao S := fun i s hs => by
  obtain ⟨b, off, da, dcap, e, _, _, h1, h2, h3, h4, h5, h6⟩ := h i s hs
  exact ⟨b, off, da, dcap, e, h1, h2, h3, h4, h5, h6⟩
theorem KnownIn.kp {F : Nat → Prop} {w w' : World} {M : Nat → Prop} {ao : Option Addr} {S : List StatZ} (h : KnownIn w M ao S) (hk : Kp F w w') (hF : ∀ k, M k → ¬ F k) : KnownIn w' M ao S := fun i s hs => by
  obtain ⟨b, off, da, dcap, e, m1, m2, h1, h2, h3, h4, h5, h6⟩ := h i s hs
  exact ⟨b, off, da, dcap, e, m1, m2, hk.cell h1 (hF _ m1), hk.cell h2 (hF _ m1), hk.cell h3 (hF _ m1), h4, h5, h6.kpN hk fun hne a ha => hF _ (m2 (words_ne hne) a ha)⟩
theorem KnownIn.ext {w w' : World} {M : Nat → Prop} {ao : Option Addr} {S : List StatZ} (h : KnownIn w M ao S) (hk : Ext w w') : KnownIn w' M ao S := h.kp hk fun _ _ => id
theorem KnownIn.mono {w : World} {M M' : Nat → Prop} {ao : Option Addr} {S : List StatZ} (h : KnownIn w M ao S) (hM : ∀ k, M k → M' k) : KnownIn w M' ao S := fun i s hs => by
  obtain ⟨b, off, da, dcap, e, m1, m2, h1⟩ := h i s hs
  exact ⟨b, off, da, dcap, e, hM _ m1, fun hne a ha => hM _ (m2 hne a ha), h1⟩
theorem known_cells {w0 w : World} {S : List StatZ} {vs : List (Option Addr × Nat)} {v : Value} {n : Nat} (hl : vs.length = S.length) (hr : Row w 53 3 v n ((S.zip vs).flatMap knownC) (New w0)) (hd : ∀ x ∈ S.zip vs, WordsAt w0 w x) {ao : Option Addr} {cap : Nat} (hv : v = .slice ao n cap) : KnownIn w (New w0) ao S := fun i s hs => by
  obtain ⟨_, _, e0, hc, _, _⟩ := hr.cap
  rw [e0] at hv
  cases hv
  have hv : i < vs.length := by rw [hl]; exact (List.getElem?_eq_some_iff.1 hs).1
  have hz : (S.zip vs)[i]? = some (s, vs[i]) := by rw [List.getElem?_zip_eq_some]; exact ⟨hs, List.getElem?_eq_getElem hv⟩
  have hrow := hd _ (List.mem_of_getElem? hz)
  obtain ⟨_, _, e, q1, q2, q3⟩ := Row.cap hrow
  cases e
  have hg := fun c hcc => flat_get knownC 3 knownC_len (S.zip vs) i _ c hz hcc
  obtain ⟨b, off, rfl, h0⟩ := hc (i * 3 + 0) _ (hg 0 (by decide))
  obtain ⟨_, _, e1, h1⟩ := hc (i * 3 + 1) _ (hg 1 (by decide))
  cases e1
  obtain ⟨_, _, e2, h2⟩ := hc (i * 3 + 2) _ (hg 2 (by decide))
  cases e2
  refine ⟨b, off, _, _, rfl, hr.block b (by rw [e0]; rfl), fun _ a ha => ?_, h0, h1, h2, q2, q3, q1⟩
  refine Row.block hrow a.block ?_
  show (Value.slice vs[i].1 _ _).ownBlock = some a.block
  rw [ha]; rfl

/-- Other counts of the same predicate. -/
def Alike1 (s s' : StatZ) : Prop := s'.1 = s.1 ∧ s'.2.2.1.length = s.2.2.1.length ∧ s'.2.1 < 18446744073709551616 ∧ ∀ x ∈ s'.2.2.1, x < 18446744073709551616
def AlikeTo (S T : List StatZ) (i : Nat) : Prop := ∀ (j : Nat) s s', j < i → S[j]? = some s → T[j]? = some s' → Alike1 s s'
theorem AlikeTo.snoc {S T : List StatZ} {i : Nat} {s s' : StatZ} (h : AlikeTo S T i) (hl : T.length = i) (hs : S[i]? = some s) (ha : Alike1 s s') : AlikeTo S (T ++ [s']) (i + 1) := fun j u u' hj hu hu' => by
  by_cases e : j = i
  · subst e
    rw [hs] at hu; cases hu
    rw [← hl, List.getElem?_append_right (Nat.le_refl _), Nat.sub_self] at hu'
    cases hu'; exact ha
  · rw [List.getElem?_append_left (by omega)] at hu'
    exact h j u u' (by omega) hu hu'
theorem AlikeTo.fit {S T : List StatZ} (h : AlikeTo S T S.length) (hl : T.length = S.length) (hf : StatsFit S) : StatsFit T := by
  have hall : ∀ t ∈ T, ∃ s ∈ S, Alike1 s t := fun t ht => by
    obtain ⟨i, hi⟩ := List.mem_iff_getElem?.1 ht
    have hlt : i < S.length := by rw [← hl]; exact (List.getElem?_eq_some_iff.1 hi).1
    exact ⟨_, List.getElem_mem hlt, h i _ _ hlt (List.getElem?_eq_getElem hlt) hi⟩
  refine ⟨by rw [hl]; exact hf.len, fun t ht => ?_, fun t ht => ?_, fun t ht => ?_⟩
  · obtain ⟨s, hs, ha⟩ := hall t ht
    rw [ha.2.1]; exact hf.dist s hs
  · obtain ⟨s, hs, ha⟩ := hall t ht
    exact ha.2.2.1
  · obtain ⟨s, hs, ha⟩ := hall t ht
    exact ha.2.2.2

def OthersTo (S : List StatZ) (w0 : World) (n : Nat) (iv ov : Value) (w : World) : Prop := ∃ i : Nat, i ≤ n ∧ iv = .int .i64 i ∧ Hid (∃ (T : List StatZ) (vs : List (Option Addr × Nat)), T.length = i ∧ vs.length = i ∧ Row w 53 3 ov i ((T.zip vs).flatMap knownC) (New w0) ∧ (∀ x ∈ T.zip vs, WordsAt w0 w x) ∧ AlikeTo S T i) ∧ Hid (Ext w0 w)
def WordsTo (p : ByteArray) (y gx : Nat) (w0 : World) (m : Nat) (kv : Value) (w : World) : Prop := ∃ k : Nat, k ≤ m ∧ kv = .int .i64 k ∧ Hid (∃ (dv : Value) (zs : List Nat), zs.length = k ∧ (∀ z ∈ zs, z < 18446744073709551616) ∧ Blk w gx [.string p, .int .u64 y, dv] 53 ∧ Row w 50 1 dv k (words zs) (New w0)) ∧ Hid (Ext w0 w)

set_option maxRecDepth 100000 in
set_option maxHeartbeats 4000000 in
theorem others_any (S : List StatZ) (ao : Option Addr) (n cap : Nat) (w : World) (hn : n = S.length) (h : KnownAt w ao S) (hf : StatsFit S) :
    Calls Try.prog 21 #[.slice ao n cap] w (RetN w fun w' v => ∃ a c, ∃ T : List StatZ, v = .slice a n c ∧ n ≤ c ∧ c ≤ maxLen ∧ T.length = n ∧ KnownIn w' (New w) a T ∧ AlikeTo S T n) := by
  have HN := Lib.hid hn
  have HK := Lib.hid h
  have HF := Lib.hid hf
  have hl : n ≤ 1048576 := by have := hf.len; omega
  have hq1 := frombits_run
  have hq2 := bits_run
  clear hn h hf
  go_enter Try.func21, Try.ntmps21
  go_wp2
  go_loopw [4, 3] (fun iv ov wr => OthersTo S w n iv ov wr) (fun iv _ _ => n - (intOf iv).toNat)
  case atStart => exact ⟨0, Nat.zero_le _, rfl, ⟨[], [], rfl, rfl, Row.nil _ _ _ _, fun x hx => by simp at hx, fun j s s' hj => by omega⟩, Kp.refl _⟩
  case round =>
    obtain ⟨i, hi, rfl, hin, hex⟩ := hrel
    by_cases hlt : i < n
    · obtain ⟨s, hs⟩ : ∃ s, S[i]? = some s := ⟨_, List.getElem?_eq_getElem (by rw [← HN.out]; exact hlt)⟩
      obtain ⟨b, off, da, dcap, eao, c0, c1, c2, d1, d2, d3⟩ := HK.out i s hs
      subst eao
      have hm : s.2.2.1.length ≤ 1048576 := HF.out.dist s (List.mem_of_getElem? hs)
      replace c0 := hex.out.cell c0 id
      replace c1 := hex.out.cell c1 id
      replace c2 := hex.out.cell c2 id
      have HD := Lib.hid (d3.ext hex.out)
      obtain ⟨p, ep⟩ : ∃ p, p = s.1 := ⟨_, rfl⟩
      obtain ⟨r, er⟩ : ∃ r, r = s.2.1 := ⟨_, rfl⟩
      obtain ⟨ds, eds⟩ : ∃ ds, ds = s.2.2.1 := ⟨_, rfl⟩
      obtain ⟨m, em⟩ : ∃ m, m = ds.length := ⟨_, rfl⟩
      rw [← ep] at c0
      rw [← er] at c1
      rw [← eds] at HD hm d1
      rw [← eds, ← em] at c2
      rw [← em] at hm d1
      have HS := Lib.hid (And.intro hs (And.intro ep eds))
      have EM := Lib.hid em
      have HCells := Lib.hid (show ∀ w', Ext wr w' → (fun w' : World => w'.cell? ⟨b, off + i * 3, none⟩ = some (.string p) ∧ w'.cell? ⟨b, off + i * 3 + 1, none⟩ = some (.int .u64 r)) w' from fun w' hw => ⟨hw.cell c0 id, hw.cell c1 id⟩)
      have HC2 := Lib.hid c2
      clear hs ep er eds em d3 c0 c1 c2
      obtain ⟨fb, fw, hadd, hfb, hfw⟩ := arith_some .add (.inl rfl) 37 r 4613937818241073152
      have HFB := Lib.hid (And.intro hfb hfw)
      clear hfb hfw
      go_wp2
      refine draw_begin (fun w' : World => w'.cell? ⟨b, off + i * 3, none⟩ = some (.string p) ∧ w'.cell? ⟨b, off + i * 3 + 1, none⟩ = some (.int .u64 r)) [15] (by kernel_rfl) (HCells.out _ (Kp.refl wr).drew) (fun hHeld => ?_)
      (refine draw_free (i := 0) (v := ?_) rfl ?_ ?_; rotate_left; (intro w; go_simp; try with_reducible rfl)); (try simp only [Act.put, List.setIfInBounds_toArray, List.set_cons_zero, List.set_cons_succ])
      (refine draw_free (i := 1) (v := ?_) rfl ?_ ?_; rotate_left; (intro w; go_simp; try with_reducible rfl)); (try simp only [Act.put, List.setIfInBounds_toArray, List.set_cons_zero, List.set_cons_succ])
      (refine draw_in (i := 2) (v := ?_) rfl ?_ ?_; rotate_left; (intro w hSw; (try dsimp only at hSw); go_simp; try with_reducible rfl)); (try simp only [Act.put, List.setIfInBounds_toArray, List.set_cons_zero, List.set_cons_succ])
      (refine draw_free (i := 3) (v := ?_) rfl ?_ ?_; rotate_left; (intro w; go_simp; try with_reducible rfl)); (try simp only [Act.put, List.setIfInBounds_toArray, List.set_cons_zero, List.set_cons_succ])
      (refine draw_in (i := 4) (v := ?_) rfl ?_ ?_; rotate_left; (intro w hSw; (try dsimp only at hSw); go_simp; try with_reducible rfl)); (try simp only [Act.put, List.setIfInBounds_toArray, List.set_cons_zero, List.set_cons_succ])
      (refine draw_free (i := 5) (v := ?_) rfl ?_ ?_; rotate_left; (intro w; go_simp; try with_reducible rfl)); (try simp only [Act.put, List.setIfInBounds_toArray, List.set_cons_zero, List.set_cons_succ])
      (refine draw_free (i := 6) (v := ?_) rfl ?_ ?_; rotate_left; (intro w; go_simp; try with_reducible rfl)); (try simp only [Act.put, List.setIfInBounds_toArray, List.set_cons_zero, List.set_cons_succ])
      (refine draw_in (i := 7) (v := ?_) rfl ?_ ?_; rotate_left; (intro w hSw; (try dsimp only at hSw); go_simp; try with_reducible rfl)); (try simp only [Act.put, List.setIfInBounds_toArray, List.set_cons_zero, List.set_cons_succ])
      (refine draw_free (i := 8) (v := ?_) rfl ?_ ?_; rotate_left; (intro w; go_simp; try with_reducible rfl)); (try simp only [Act.put, List.setIfInBounds_toArray, List.set_cons_zero, List.set_cons_succ])
      (refine draw_in (i := 9) (v := ?_) rfl ?_ ?_; rotate_left; (intro w hSw; (try dsimp only at hSw); go_simp; try with_reducible rfl)); (try simp only [Act.put, List.setIfInBounds_toArray, List.set_cons_zero, List.set_cons_succ])
      (refine draw_free (i := 10) (v := ?_) rfl ?_ ?_; rotate_left; (intro w; go_simp; try with_reducible rfl)); (try simp only [Act.put, List.setIfInBounds_toArray, List.set_cons_zero, List.set_cons_succ])
      refine draw_two (i := 11) (k := 14) ?_ ?_
      · refine comes_turn (i := 11) rfl (fun K hK => ?_)
        go_simp
        refine hK.out _ _ ?_ (fun hHeld => ?_)
        · (try dsimp only); (first | exact HCells.out _ ((Kp.refl wr).drew.trans (HFB.out.2 _)) | exact HCells.out _ ((Kp.refl wr).alloc _).drew | exact HCells.out _ (((Kp.refl wr).drew.trans (HFB.out.2 _)).alloc _) | exact HCells.out _ ((((Kp.refl wr).alloc _).drew).trans (HFB.out.2 _)))
        clear hK K; (try simp only [Act.put, List.setIfInBounds_toArray, List.set_cons_zero, List.set_cons_succ])
        (refine draw_free (i := 12) (v := ?_) rfl ?_ ?_; rotate_left; (intro w; go_simp; try with_reducible rfl)); (try simp only [Act.put, List.setIfInBounds_toArray, List.set_cons_zero, List.set_cons_succ])
        (refine draw_free (i := 13) (v := ?_) rfl ?_ ?_; rotate_left; (intro w; go_simp; try with_reducible rfl)); (try simp only [Act.put, List.setIfInBounds_toArray, List.set_cons_zero, List.set_cons_succ])
        refine draw_one (i := 14) ?_
        refine comes_turn (i := 14) rfl (fun K hK => ?_)
        go_simp
        refine hK.out _ _ ?_ (fun hHeld => ?_)
        · (try dsimp only); (first | exact HCells.out _ ((Kp.refl wr).drew.trans (HFB.out.2 _)) | exact HCells.out _ ((Kp.refl wr).alloc _).drew | exact HCells.out _ (((Kp.refl wr).drew.trans (HFB.out.2 _)).alloc _) | exact HCells.out _ ((((Kp.refl wr).alloc _).drew).trans (HFB.out.2 _)))
        clear hK K; (try simp only [Act.put, List.setIfInBounds_toArray, List.set_cons_zero, List.set_cons_succ])
        refine draw_one (i := 15) ?_
        refine comes_late (i := 15) rfl (by kernel_rfl) (fun K hK => ?_)
        ((first | (obtain ⟨w3, e3⟩ : ∃ x, (fw wr.drew).alloc (.cells #[.string ⟨#[]⟩, .int .u64 0, .slice none 0 0] 53) = x := ⟨_, rfl⟩; rw [e3]; obtain ⟨gx, eg⟩ : ∃ g, g = (fw wr.drew).heap.size := ⟨_, rfl⟩; rw [← eg]; obtain ⟨y, ey⟩ : ∃ y, fb wr.drew = y := ⟨_, rfl⟩; rw [ey]; have HZ := Lib.hid (show Blk w3 gx [.string ⟨#[]⟩, .int .u64 0, .slice none 0 0] 53 from (by rw [← e3, eg]; exact Blk.new _ _ _)); have X3 := Lib.hid (show Ext wr w3 from (by rw [← e3]; exact ((Kp.refl wr).drew.trans (HFB.out.2 _)).alloc _)); have EGX := Lib.hid (show wr.heap.size ≤ gx from (by rw [eg]; exact ((Kp.refl (F := fun _ => False) wr).drew.trans (HFB.out.2 _)).size))) | (obtain ⟨w3, e3⟩ : ∃ x, fw ((wr.alloc (.cells #[.string ⟨#[]⟩, .int .u64 0, .slice none 0 0] 53)).drew) = x := ⟨_, rfl⟩; rw [e3]; obtain ⟨gx, eg⟩ : ∃ g, g = wr.heap.size := ⟨_, rfl⟩; rw [← eg]; obtain ⟨y, ey⟩ : ∃ y, fb ((wr.alloc (.cells #[.string ⟨#[]⟩, .int .u64 0, .slice none 0 0] 53)).drew) = y := ⟨_, rfl⟩; rw [ey]; have HZ := Lib.hid (show Blk w3 gx [.string ⟨#[]⟩, .int .u64 0, .slice none 0 0] 53 from (by rw [← e3, eg]; exact ((Blk.new wr _ _).drew).ext (HFB.out.2 _))); have X3 := Lib.hid (show Ext wr w3 from (by rw [← e3]; exact (((Kp.refl wr).alloc _).drew).trans (HFB.out.2 _))); have EGX := Lib.hid (show wr.heap.size ≤ gx from (by rw [eg]; exact Nat.le_refl _)))); have HY := Lib.hid (show y < 18446744073709551616 from (by rw [← ey]; exact HFB.out.1 _)); clear e3 eg ey; have z0 : w3.cell? ⟨gx, 0, none⟩ = some (.string ⟨#[]⟩) := (by rw [HZ.out.cell']; rfl); have z1 : w3.cell? ⟨gx, 1, none⟩ = some (.int .u64 0) := (by rw [HZ.out.cell']; rfl); have z2 : w3.cell? ⟨gx, 2, none⟩ = some (.slice none 0 0) := (by rw [HZ.out.cell']; rfl); have f0 := HZ.out.free 0; have f1 := HZ.out.free 1; have f2 := HZ.out.free 2)
        go_simp
        refine hK.out _ _ ?_
        clear hK K; (try simp only [Act.put, List.setIfInBounds_toArray, List.set_cons_zero, List.set_cons_succ])
        refine wpAnyD_done (by kernel_rfl) ?_ _
        obtain ⟨w2, ew2⟩ : ∃ x, ((w3.setCell ⟨gx, 0, none⟩ (.string p)).setCell ⟨gx, 1, none⟩ (.int .u64 y)).setCell ⟨gx, 2, none⟩ (.slice none 0 0) = x := ⟨_, rfl⟩
        rw [ew2]
        have HGX := Lib.hid (show Blk w2 gx [.string p, .int .u64 y, .slice none 0 0] 53 by rw [← ew2]; exact ((HZ.out.set 0 _).set 1 _).set 2 _)
        have X2 := Lib.hid (show Ext wr w2 from by
          rw [← ew2]
          have hno : ∀ c, (⟨gx, c, none⟩ : Addr).block < wr.heap.size → False := fun c h => by have := EGX.out; simp only at h; omega
          exact ((X3.out.setCell (fun h => hno 0 h) _).setCell (fun h => hno 1 h) _).setCell (fun h => hno 2 h) _)
        clear ew2 hHeld z0 z1 z2 f0 f1 f2 HZ X3 hadd HFB
        go_wp2
        generalize hw5 : wr = w5 at *; clear hw5
        go_loopw [6] (fun kv wk => WordsTo p y gx w5 m kv wk) (fun kv _ => m - (intOf kv).toNat)
        case atStart => exact ⟨0, Nat.zero_le _, rfl, ⟨_, [], rfl, fun z hz => by simp at hz, HGX.out, Row.nil _ _ _ _⟩, X2.out⟩
        case round =>
          obtain ⟨j, hj, rfl, hin2, hex2⟩ := hrel
          obtain ⟨dv, zs, hzl, hzw, hB, hr⟩ := hin2.out
          obtain ⟨ba, bc, edv, _, _⟩ := hr.shape
          subst edv
          have c2 := hex2.out.cell HC2.out id
          have HBj := Lib.hid hB
          have HRj := Lib.hid hr
          have HZs := Lib.hid (And.intro hzl hzw)
          clear hin2 hB hr hzl hzw
          by_cases hlt2 : j < m
          · obtain ⟨x, hx⟩ : ∃ x, ds[j]? = some x := ⟨_, List.getElem?_eq_getElem (by rw [← EM.out]; exact hlt2)⟩
            obtain ⟨b2, off2, eda, e0⟩ := HD.out.word hx
            subst eda
            replace e0 := hex2.out.cell e0 id
            have g2 : wr.cell? ⟨gx, 2, none⟩ = some (.slice ba j bc) := by rw [HBj.out.cell']; rfl
            have g2f := HBj.out.free 2
            clear hx
            obtain ⟨fb, fw, hmul, hfb, hfw⟩ := arith_some .mul (.inr rfl) 37 x 4611686018427387904
            have HFB := Lib.hid (And.intro hfb hfw)
            clear hfb hfw
            go_wp2
            have HJ := Lib.hid (show ∀ w', Ext wr w' → (fun w' : World => w'.cell? ⟨gx, 2, none⟩ = some (.slice ba j bc) ∧ w'.cell? ⟨b, off + i * 3 + 2, none⟩ = some (.slice (some ⟨b2, off2, none⟩) m dcap) ∧ w'.cell? ⟨b2, off2 + j, none⟩ = some (.int .u64 x)) w' from fun w' hw => ⟨hw.cell g2 id, hw.cell c2 id, hw.cell e0 id⟩)
            clear g2 c2 e0
            have XM := Lib.hid (show Ext wr (fw wr.drew) from (Kp.refl wr).drew.trans (HFB.out.2 _))
            refine draw_begin (fun w' : World => w'.cell? ⟨gx, 2, none⟩ = some (.slice ba j bc) ∧ w'.cell? ⟨b, off + i * 3 + 2, none⟩ = some (.slice (some ⟨b2, off2, none⟩) m dcap) ∧ w'.cell? ⟨b2, off2 + j, none⟩ = some (.int .u64 x)) [14, 16] (by kernel_rfl) (HJ.out _ (Kp.refl wr).drew) (fun hHeld => ?_)
            (refine draw_free (i := 0) (v := ?_) rfl ?_ ?_; rotate_left; (intro w; go_simp; try with_reducible rfl)); (try simp only [Act.put, List.setIfInBounds_toArray, List.set_cons_zero, List.set_cons_succ])
            (refine draw_in (i := 1) (v := ?_) rfl ?_ ?_; rotate_left; (intro w hSw; (try dsimp only at hSw); go_simp; try with_reducible rfl)); (try simp only [Act.put, List.setIfInBounds_toArray, List.set_cons_zero, List.set_cons_succ])
            (refine draw_free (i := 2) (v := ?_) rfl ?_ ?_; rotate_left; (intro w; go_simp; try with_reducible rfl)); (try simp only [Act.put, List.setIfInBounds_toArray, List.set_cons_zero, List.set_cons_succ])
            (refine draw_free (i := 3) (v := ?_) rfl ?_ ?_; rotate_left; (intro w; go_simp; try with_reducible rfl)); (try simp only [Act.put, List.setIfInBounds_toArray, List.set_cons_zero, List.set_cons_succ])
            (refine draw_in (i := 4) (v := ?_) rfl ?_ ?_; rotate_left; (intro w hSw; (try dsimp only at hSw); go_simp; try with_reducible rfl)); (try simp only [Act.put, List.setIfInBounds_toArray, List.set_cons_zero, List.set_cons_succ])
            (refine draw_free (i := 5) (v := ?_) rfl ?_ ?_; rotate_left; (intro w; go_simp; try with_reducible rfl)); (try simp only [Act.put, List.setIfInBounds_toArray, List.set_cons_zero, List.set_cons_succ])
            (refine draw_in (i := 6) (v := ?_) rfl ?_ ?_; rotate_left; (intro w hSw; (try dsimp only at hSw); go_simp; try with_reducible rfl)); (try simp only [Act.put, List.setIfInBounds_toArray, List.set_cons_zero, List.set_cons_succ])
            (refine draw_free (i := 7) (v := ?_) rfl ?_ ?_; rotate_left; (intro w; go_simp; try with_reducible rfl)); (try simp only [Act.put, List.setIfInBounds_toArray, List.set_cons_zero, List.set_cons_succ])
            (refine draw_in (i := 8) (v := ?_) rfl ?_ ?_; rotate_left; (intro w hSw; (try dsimp only at hSw); go_simp; try with_reducible rfl)); (try simp only [Act.put, List.setIfInBounds_toArray, List.set_cons_zero, List.set_cons_succ])
            (refine draw_in (i := 9) (v := ?_) rfl ?_ ?_; rotate_left; (intro w hSw; (try dsimp only at hSw); go_simp; try with_reducible rfl)); (try simp only [Act.put, List.setIfInBounds_toArray, List.set_cons_zero, List.set_cons_succ])
            (refine draw_free (i := 10) (v := ?_) rfl ?_ ?_; rotate_left; (intro w; go_simp; try with_reducible rfl)); (try simp only [Act.put, List.setIfInBounds_toArray, List.set_cons_zero, List.set_cons_succ])
            refine draw_one (i := 11) ?_
            refine comes_turn (i := 11) rfl (fun K hK => ?_)
            go_simp
            refine hK.out _ _ ?_ (fun hHeld => ?_)
            · (try dsimp only); (first | exact HJ.out _ XM.out | exact HJ.out _ (XM.out.alloc _))
            clear hK K; (try simp only [Act.put, List.setIfInBounds_toArray, List.set_cons_zero, List.set_cons_succ])
            (refine draw_free (i := 12) (v := ?_) rfl ?_ ?_; rotate_left; (intro w; go_simp; try with_reducible rfl)); (try simp only [Act.put, List.setIfInBounds_toArray, List.set_cons_zero, List.set_cons_succ])
            refine draw_one (i := 13) ?_
            refine comes_turn (i := 13) rfl (fun K hK => ?_)
            go_simp
            refine hK.out _ _ ?_ (fun hHeld => ?_)
            · (try dsimp only); (first | exact HJ.out _ XM.out | exact HJ.out _ (XM.out.alloc _))
            clear hK K; (try simp only [Act.put, List.setIfInBounds_toArray, List.set_cons_zero, List.set_cons_succ])
            refine draw_one (i := 14) ?_
            refine comes_late (i := 14) rfl (by kernel_rfl) (fun K hK => ?_)
            refine draw_appN elem_u64 rfl _ _ rfl ((hex2.out.trans XM.out).alloc _) rfl ((HRj.out.ext XM.out).alloc _) rfl (CellsAt.one (fw wr.drew) (.int .u64 (fb wr.drew)) 50) (by rfl) (by simp [Value.oneCell']) (by omega) (by unfold maxLen; omega) ?_; intro v1 w6 hr1 hk1 hk2
            refine hK.out _ _ ?_
            clear hK K; (try simp only [Act.put, List.setIfInBounds_toArray, List.set_cons_zero, List.set_cons_succ])
            (refine draw_free (i := 15) (v := ?_) rfl ?_ ?_; rotate_left; (intro w; go_simp; try with_reducible rfl)); (try simp only [Act.put, List.setIfInBounds_toArray, List.set_cons_zero, List.set_cons_succ])
            refine draw_one (i := 16) ?_
            refine comes_late (i := 16) rfl (by kernel_rfl) (fun K hK => ?_)
            (obtain ⟨b6, c6, ev6, _, _⟩ := hr1.shape; subst ev6; have hB6 : Blk w6 gx [.string p, .int .u64 y, .slice ba j bc] 53 := ((HBj.out.ext XM.out).alloc _).kp hk2 (fun e => (by obtain ⟨cs, hb⟩ := HRj.out.blkOf e; exact typ_uk (blk_ne hb HBj.out))); have x6 : w6.cell? ⟨gx, 2, none⟩ = some (.slice ba j bc) := (by rw [hB6.cell']; rfl); have x6f := hB6.free 2; have HA := Lib.hid (And.intro hr1 (And.intro hk1 hB6)); clear hr1 hk1 hk2 hB6)
            go_simp
            refine hK.out _ _ ?_
            clear hK K; (try simp only [Act.put, List.setIfInBounds_toArray, List.set_cons_zero, List.set_cons_succ])
            refine wpAnyD_done (by kernel_rfl) ?_ _
            obtain ⟨hr1, hk1, hB6⟩ := HA.out
            obtain ⟨w7, ew7⟩ : ∃ w7, w6.setCell ⟨gx, 2, none⟩ (.slice b6 (j + 1) c6) = w7 := ⟨_, rfl⟩
            have hk67 : Kp (fun k => k = gx) w6 w7 := by rw [← ew7]; exact Kp.setCell (F := fun k => k = gx) (Kp.refl w6) (fun _ => rfl) _
            have hB7 : Blk w7 gx [.string p, .int .u64 y, .slice b6 (j + 1) c6] 53 := by rw [← ew7]; exact hB6.set 2 _
            have hx7 : Ext w5 w7 := by rw [← ew7]; exact Kp.setCell (F := fun _ => False) hk1 (fun h => by have := EGX.out; simp only at h; omega) _
            have hr7 := hr1.kp' hk67 fun g hg _ e => by
              obtain ⟨cs, hb⟩ := hr1.blkOf hg
              subst e
              exact typ_uk (blk_ne hb hB6)
            have e7 : words (zs ++ [fb wr.drew]) = words zs ++ [.int .u64 (fb wr.drew)] := by simp [words]
            rw [← e7] at hr7
            clear e7
            have HFin := Lib.hid (show ∃ (dv : Value) (zs : List Nat), zs.length = j + 1 ∧ (∀ z ∈ zs, z < 18446744073709551616) ∧ Blk w7 gx [.string p, .int .u64 y, dv] 53 ∧ Row w7 50 1 dv (j + 1) (words zs) (New w5) from ⟨_, _, by rw [List.length_append, HZs.out.1]; rfl, fun z hz => by
              rcases List.mem_append.1 hz with hz | hz
              · exact HZs.out.2 z hz
              · rw [List.mem_singleton] at hz; subst hz; exact HFB.out.1 _, hB7, hr7⟩)
            have HX7 := Lib.hid hx7
            rw [ew7]
            clear hr1 hk1 hB6 hk67 hB7 hx7 hr7 g2f x6 x6f HA ew7 hHeld hmul HFB
            go_wp2
            go_roundw
            case rel => exact ⟨j + 1, by omega, by first | rfl | (congr 1; done) | (congr 1; omega), HFin.out, HX7.out⟩
            case measure => simp [intOf]; omega
          · obtain rfl : j = m := by omega
            obtain ⟨T, vs, hT, hvs, hrow, hds, hal⟩ := hin.out
            obtain ⟨oa, oc, eov, _, _⟩ := hrow.shape
            subst eov
            have l0 : wr.cell? ⟨gx, 0, none⟩ = some (.string p) := by rw [HBj.out.cell']; rfl
            have l1 : wr.cell? ⟨gx, 1, none⟩ = some (.int .u64 y) := by rw [HBj.out.cell']; rfl
            have l2 : wr.cell? ⟨gx, 2, none⟩ = some (.slice ba j bc) := by rw [HBj.out.cell']; rfl
            have HRo := Lib.hid (hrow.ext hex2.out)
            have HDs := Lib.hid (And.intro hvs (And.intro hT (And.intro hal (fun x hx => Row.ext (hds x hx) hex2.out))))
            have hXw := hex.out.trans hex2.out
            clear hvs hT hrow hds hal hin
            go_wp2_with (first | (at_builtin; refine Halted.out ?_))
            refine Halted.mk (wp_appN (m := 1) (n := i) elem_known rfl _ _ rfl (hXw.alloc _) rfl (HRo.out.alloc _) rfl (CellsAt.new wr [.string p, .int .u64 y, .slice ba j bc] 53) (by rfl) (by simp [Value.oneCell']) (by omega) (by unfold maxLen; omega) ?_)
            intro v1 w6 hr1 hk1 hk2 _
            have HFin := Lib.hid (show ∃ (T : List StatZ) (vs : List (Option Addr × Nat)), T.length = i + 1 ∧ vs.length = i + 1 ∧ Row w6 53 3 v1 (i + 1) ((T.zip vs).flatMap knownC) (New w) ∧ (∀ x ∈ T.zip vs, WordsAt w w6 x) ∧ AlikeTo S T (i + 1) by
              have hlen : T.length = vs.length := by rw [HDs.out.1, HDs.out.2.1]
              have hkd : ∀ x, WordsAt w (wr.alloc (.cells #[.string p, .int .u64 y, .slice ba j bc] 53)) x → WordsAt w w6 x := fun x hx => Row.kp' hx hk2 fun g hg _ e => by
                obtain ⟨cs, hb⟩ := (HRo.out.alloc _).blkOf e
                obtain ⟨cs', hb'⟩ := Row.blkOf hx hg
                exact typ_uk (blk_ne hb' hb)
              refine ⟨T ++ [(p, y, zs, ())], vs ++ [(ba, bc)], by rw [List.length_append, HDs.out.2.1]; rfl, by rw [List.length_append, HDs.out.1]; rfl, ?_, ?_, ?_⟩
              · rw [List.zip_append hlen, List.flatMap_append]
                have e2 : (([((p, y, zs, ()) : StatZ)].zip [(ba, bc)]).flatMap knownC) = [.string p, .int .u64 y, .slice ba j bc] := by
                  show [Value.string p, .int .u64 y, .slice ba zs.length bc] ++ [] = _
                  rw [List.append_nil, HZs.out.1]
                rw [e2]; exact hr1
              · intro x hx
                rw [List.zip_append hlen, List.mem_append] at hx
                rcases hx with hx | hx
                · exact hkd _ (Row.alloc (HDs.out.2.2.2 x hx) _)
                · simp at hx; subst hx
                  refine hkd _ (Row.alloc (show Row wr 50 1 (.slice ba zs.length bc) zs.length (words zs) (New w) from ?_) _)
                  rw [HZs.out.1]
                  exact HRj.out.mono (M' := New w) fun g hg => Nat.le_trans hex.out.size hg
              · refine AlikeTo.snoc HDs.out.2.2.1 HDs.out.2.1 HS.out.1 ⟨HS.out.2.1, ?_, HY.out, HZs.out.2⟩
                show zs.length = _
                rw [HZs.out.1, EM.out, HS.out.2.2])
            have HX6 := Lib.hid hk1
            clear hr1 hk1 hk2 l0 l1 l2 hXw c2
            go_wp2
            go_roundw
            case rel => exact ⟨i + 1, by omega, by first | rfl | (congr 1; done) | (congr 1; omega), HFin.out, HX6.out⟩
            case measure => simp [intOf]; omega
      · refine comes_turn (i := 14) rfl (fun K hK => ?_)
        go_simp
        refine hK.out _ _ ?_ (fun hHeld => ?_)
        · (try dsimp only); (first | exact HCells.out _ ((Kp.refl wr).drew.trans (HFB.out.2 _)) | exact HCells.out _ ((Kp.refl wr).alloc _).drew | exact HCells.out _ (((Kp.refl wr).drew.trans (HFB.out.2 _)).alloc _) | exact HCells.out _ ((((Kp.refl wr).alloc _).drew).trans (HFB.out.2 _)))
        clear hK K; (try simp only [Act.put, List.setIfInBounds_toArray, List.set_cons_zero, List.set_cons_succ])
        refine draw_one (i := 11) ?_
        refine comes_turn (i := 11) rfl (fun K hK => ?_)
        go_simp
        refine hK.out _ _ ?_ (fun hHeld => ?_)
        · (try dsimp only); (first | exact HCells.out _ ((Kp.refl wr).drew.trans (HFB.out.2 _)) | exact HCells.out _ ((Kp.refl wr).alloc _).drew | exact HCells.out _ (((Kp.refl wr).drew.trans (HFB.out.2 _)).alloc _) | exact HCells.out _ ((((Kp.refl wr).alloc _).drew).trans (HFB.out.2 _)))
        clear hK K; (try simp only [Act.put, List.setIfInBounds_toArray, List.set_cons_zero, List.set_cons_succ])
        (refine draw_free (i := 12) (v := ?_) rfl ?_ ?_; rotate_left; (intro w; go_simp; try with_reducible rfl)); (try simp only [Act.put, List.setIfInBounds_toArray, List.set_cons_zero, List.set_cons_succ])
        (refine draw_free (i := 13) (v := ?_) rfl ?_ ?_; rotate_left; (intro w; go_simp; try with_reducible rfl)); (try simp only [Act.put, List.setIfInBounds_toArray, List.set_cons_zero, List.set_cons_succ])
        refine draw_one (i := 15) ?_
        refine comes_late (i := 15) rfl (by kernel_rfl) (fun K hK => ?_)
        ((first | (obtain ⟨w3, e3⟩ : ∃ x, (fw wr.drew).alloc (.cells #[.string ⟨#[]⟩, .int .u64 0, .slice none 0 0] 53) = x := ⟨_, rfl⟩; rw [e3]; obtain ⟨gx, eg⟩ : ∃ g, g = (fw wr.drew).heap.size := ⟨_, rfl⟩; rw [← eg]; obtain ⟨y, ey⟩ : ∃ y, fb wr.drew = y := ⟨_, rfl⟩; rw [ey]; have HZ := Lib.hid (show Blk w3 gx [.string ⟨#[]⟩, .int .u64 0, .slice none 0 0] 53 from (by rw [← e3, eg]; exact Blk.new _ _ _)); have X3 := Lib.hid (show Ext wr w3 from (by rw [← e3]; exact ((Kp.refl wr).drew.trans (HFB.out.2 _)).alloc _)); have EGX := Lib.hid (show wr.heap.size ≤ gx from (by rw [eg]; exact ((Kp.refl (F := fun _ => False) wr).drew.trans (HFB.out.2 _)).size))) | (obtain ⟨w3, e3⟩ : ∃ x, fw ((wr.alloc (.cells #[.string ⟨#[]⟩, .int .u64 0, .slice none 0 0] 53)).drew) = x := ⟨_, rfl⟩; rw [e3]; obtain ⟨gx, eg⟩ : ∃ g, g = wr.heap.size := ⟨_, rfl⟩; rw [← eg]; obtain ⟨y, ey⟩ : ∃ y, fb ((wr.alloc (.cells #[.string ⟨#[]⟩, .int .u64 0, .slice none 0 0] 53)).drew) = y := ⟨_, rfl⟩; rw [ey]; have HZ := Lib.hid (show Blk w3 gx [.string ⟨#[]⟩, .int .u64 0, .slice none 0 0] 53 from (by rw [← e3, eg]; exact ((Blk.new wr _ _).drew).ext (HFB.out.2 _))); have X3 := Lib.hid (show Ext wr w3 from (by rw [← e3]; exact (((Kp.refl wr).alloc _).drew).trans (HFB.out.2 _))); have EGX := Lib.hid (show wr.heap.size ≤ gx from (by rw [eg]; exact Nat.le_refl _)))); have HY := Lib.hid (show y < 18446744073709551616 from (by rw [← ey]; exact HFB.out.1 _)); clear e3 eg ey; have z0 : w3.cell? ⟨gx, 0, none⟩ = some (.string ⟨#[]⟩) := (by rw [HZ.out.cell']; rfl); have z1 : w3.cell? ⟨gx, 1, none⟩ = some (.int .u64 0) := (by rw [HZ.out.cell']; rfl); have z2 : w3.cell? ⟨gx, 2, none⟩ = some (.slice none 0 0) := (by rw [HZ.out.cell']; rfl); have f0 := HZ.out.free 0; have f1 := HZ.out.free 1; have f2 := HZ.out.free 2)
        go_simp
        refine hK.out _ _ ?_
        clear hK K; (try simp only [Act.put, List.setIfInBounds_toArray, List.set_cons_zero, List.set_cons_succ])
        refine wpAnyD_done (by kernel_rfl) ?_ _
        obtain ⟨w2, ew2⟩ : ∃ x, ((w3.setCell ⟨gx, 0, none⟩ (.string p)).setCell ⟨gx, 1, none⟩ (.int .u64 y)).setCell ⟨gx, 2, none⟩ (.slice none 0 0) = x := ⟨_, rfl⟩
        rw [ew2]
        have HGX := Lib.hid (show Blk w2 gx [.string p, .int .u64 y, .slice none 0 0] 53 by rw [← ew2]; exact ((HZ.out.set 0 _).set 1 _).set 2 _)
        have X2 := Lib.hid (show Ext wr w2 from by
          rw [← ew2]
          have hno : ∀ c, (⟨gx, c, none⟩ : Addr).block < wr.heap.size → False := fun c h => by have := EGX.out; simp only at h; omega
          exact ((X3.out.setCell (fun h => hno 0 h) _).setCell (fun h => hno 1 h) _).setCell (fun h => hno 2 h) _)
        clear ew2 hHeld z0 z1 z2 f0 f1 f2 HZ X3 hadd HFB
        go_wp2
        generalize hw5 : wr = w5 at *; clear hw5
        go_loopw [6] (fun kv wk => WordsTo p y gx w5 m kv wk) (fun kv _ => m - (intOf kv).toNat)
        case atStart => exact ⟨0, Nat.zero_le _, rfl, ⟨_, [], rfl, fun z hz => by simp at hz, HGX.out, Row.nil _ _ _ _⟩, X2.out⟩
        case round =>
          obtain ⟨j, hj, rfl, hin2, hex2⟩ := hrel
          obtain ⟨dv, zs, hzl, hzw, hB, hr⟩ := hin2.out
          obtain ⟨ba, bc, edv, _, _⟩ := hr.shape
          subst edv
          have c2 := hex2.out.cell HC2.out id
          have HBj := Lib.hid hB
          have HRj := Lib.hid hr
          have HZs := Lib.hid (And.intro hzl hzw)
          clear hin2 hB hr hzl hzw
          by_cases hlt2 : j < m
          · obtain ⟨x, hx⟩ : ∃ x, ds[j]? = some x := ⟨_, List.getElem?_eq_getElem (by rw [← EM.out]; exact hlt2)⟩
            obtain ⟨b2, off2, eda, e0⟩ := HD.out.word hx
            subst eda
            replace e0 := hex2.out.cell e0 id
            have g2 : wr.cell? ⟨gx, 2, none⟩ = some (.slice ba j bc) := by rw [HBj.out.cell']; rfl
            have g2f := HBj.out.free 2
            clear hx
            obtain ⟨fb, fw, hmul, hfb, hfw⟩ := arith_some .mul (.inr rfl) 37 x 4611686018427387904
            have HFB := Lib.hid (And.intro hfb hfw)
            clear hfb hfw
            go_wp2
            have HJ := Lib.hid (show ∀ w', Ext wr w' → (fun w' : World => w'.cell? ⟨gx, 2, none⟩ = some (.slice ba j bc) ∧ w'.cell? ⟨b, off + i * 3 + 2, none⟩ = some (.slice (some ⟨b2, off2, none⟩) m dcap) ∧ w'.cell? ⟨b2, off2 + j, none⟩ = some (.int .u64 x)) w' from fun w' hw => ⟨hw.cell g2 id, hw.cell c2 id, hw.cell e0 id⟩)
            clear g2 c2 e0
            have XM := Lib.hid (show Ext wr (fw wr.drew) from (Kp.refl wr).drew.trans (HFB.out.2 _))
            refine draw_begin (fun w' : World => w'.cell? ⟨gx, 2, none⟩ = some (.slice ba j bc) ∧ w'.cell? ⟨b, off + i * 3 + 2, none⟩ = some (.slice (some ⟨b2, off2, none⟩) m dcap) ∧ w'.cell? ⟨b2, off2 + j, none⟩ = some (.int .u64 x)) [14, 16] (by kernel_rfl) (HJ.out _ (Kp.refl wr).drew) (fun hHeld => ?_)
            (refine draw_free (i := 0) (v := ?_) rfl ?_ ?_; rotate_left; (intro w; go_simp; try with_reducible rfl)); (try simp only [Act.put, List.setIfInBounds_toArray, List.set_cons_zero, List.set_cons_succ])
            (refine draw_in (i := 1) (v := ?_) rfl ?_ ?_; rotate_left; (intro w hSw; (try dsimp only at hSw); go_simp; try with_reducible rfl)); (try simp only [Act.put, List.setIfInBounds_toArray, List.set_cons_zero, List.set_cons_succ])
            (refine draw_free (i := 2) (v := ?_) rfl ?_ ?_; rotate_left; (intro w; go_simp; try with_reducible rfl)); (try simp only [Act.put, List.setIfInBounds_toArray, List.set_cons_zero, List.set_cons_succ])
            (refine draw_free (i := 3) (v := ?_) rfl ?_ ?_; rotate_left; (intro w; go_simp; try with_reducible rfl)); (try simp only [Act.put, List.setIfInBounds_toArray, List.set_cons_zero, List.set_cons_succ])
            (refine draw_in (i := 4) (v := ?_) rfl ?_ ?_; rotate_left; (intro w hSw; (try dsimp only at hSw); go_simp; try with_reducible rfl)); (try simp only [Act.put, List.setIfInBounds_toArray, List.set_cons_zero, List.set_cons_succ])
            (refine draw_free (i := 5) (v := ?_) rfl ?_ ?_; rotate_left; (intro w; go_simp; try with_reducible rfl)); (try simp only [Act.put, List.setIfInBounds_toArray, List.set_cons_zero, List.set_cons_succ])
            (refine draw_in (i := 6) (v := ?_) rfl ?_ ?_; rotate_left; (intro w hSw; (try dsimp only at hSw); go_simp; try with_reducible rfl)); (try simp only [Act.put, List.setIfInBounds_toArray, List.set_cons_zero, List.set_cons_succ])
            (refine draw_free (i := 7) (v := ?_) rfl ?_ ?_; rotate_left; (intro w; go_simp; try with_reducible rfl)); (try simp only [Act.put, List.setIfInBounds_toArray, List.set_cons_zero, List.set_cons_succ])
            (refine draw_in (i := 8) (v := ?_) rfl ?_ ?_; rotate_left; (intro w hSw; (try dsimp only at hSw); go_simp; try with_reducible rfl)); (try simp only [Act.put, List.setIfInBounds_toArray, List.set_cons_zero, List.set_cons_succ])
            (refine draw_in (i := 9) (v := ?_) rfl ?_ ?_; rotate_left; (intro w hSw; (try dsimp only at hSw); go_simp; try with_reducible rfl)); (try simp only [Act.put, List.setIfInBounds_toArray, List.set_cons_zero, List.set_cons_succ])
            (refine draw_free (i := 10) (v := ?_) rfl ?_ ?_; rotate_left; (intro w; go_simp; try with_reducible rfl)); (try simp only [Act.put, List.setIfInBounds_toArray, List.set_cons_zero, List.set_cons_succ])
            refine draw_one (i := 11) ?_
            refine comes_turn (i := 11) rfl (fun K hK => ?_)
            go_simp
            refine hK.out _ _ ?_ (fun hHeld => ?_)
            · (try dsimp only); (first | exact HJ.out _ XM.out | exact HJ.out _ (XM.out.alloc _))
            clear hK K; (try simp only [Act.put, List.setIfInBounds_toArray, List.set_cons_zero, List.set_cons_succ])
            (refine draw_free (i := 12) (v := ?_) rfl ?_ ?_; rotate_left; (intro w; go_simp; try with_reducible rfl)); (try simp only [Act.put, List.setIfInBounds_toArray, List.set_cons_zero, List.set_cons_succ])
            refine draw_one (i := 13) ?_
            refine comes_turn (i := 13) rfl (fun K hK => ?_)
            go_simp
            refine hK.out _ _ ?_ (fun hHeld => ?_)
            · (try dsimp only); (first | exact HJ.out _ XM.out | exact HJ.out _ (XM.out.alloc _))
            clear hK K; (try simp only [Act.put, List.setIfInBounds_toArray, List.set_cons_zero, List.set_cons_succ])
            refine draw_one (i := 14) ?_
            refine comes_late (i := 14) rfl (by kernel_rfl) (fun K hK => ?_)
            refine draw_appN elem_u64 rfl _ _ rfl ((hex2.out.trans XM.out).alloc _) rfl ((HRj.out.ext XM.out).alloc _) rfl (CellsAt.one (fw wr.drew) (.int .u64 (fb wr.drew)) 50) (by rfl) (by simp [Value.oneCell']) (by omega) (by unfold maxLen; omega) ?_; intro v1 w6 hr1 hk1 hk2
            refine hK.out _ _ ?_
            clear hK K; (try simp only [Act.put, List.setIfInBounds_toArray, List.set_cons_zero, List.set_cons_succ])
            (refine draw_free (i := 15) (v := ?_) rfl ?_ ?_; rotate_left; (intro w; go_simp; try with_reducible rfl)); (try simp only [Act.put, List.setIfInBounds_toArray, List.set_cons_zero, List.set_cons_succ])
            refine draw_one (i := 16) ?_
            refine comes_late (i := 16) rfl (by kernel_rfl) (fun K hK => ?_)
            (obtain ⟨b6, c6, ev6, _, _⟩ := hr1.shape; subst ev6; have hB6 : Blk w6 gx [.string p, .int .u64 y, .slice ba j bc] 53 := ((HBj.out.ext XM.out).alloc _).kp hk2 (fun e => (by obtain ⟨cs, hb⟩ := HRj.out.blkOf e; exact typ_uk (blk_ne hb HBj.out))); have x6 : w6.cell? ⟨gx, 2, none⟩ = some (.slice ba j bc) := (by rw [hB6.cell']; rfl); have x6f := hB6.free 2; have HA := Lib.hid (And.intro hr1 (And.intro hk1 hB6)); clear hr1 hk1 hk2 hB6)
            go_simp
            refine hK.out _ _ ?_
            clear hK K; (try simp only [Act.put, List.setIfInBounds_toArray, List.set_cons_zero, List.set_cons_succ])
            refine wpAnyD_done (by kernel_rfl) ?_ _
            obtain ⟨hr1, hk1, hB6⟩ := HA.out
            obtain ⟨w7, ew7⟩ : ∃ w7, w6.setCell ⟨gx, 2, none⟩ (.slice b6 (j + 1) c6) = w7 := ⟨_, rfl⟩
            have hk67 : Kp (fun k => k = gx) w6 w7 := by rw [← ew7]; exact Kp.setCell (F := fun k => k = gx) (Kp.refl w6) (fun _ => rfl) _
            have hB7 : Blk w7 gx [.string p, .int .u64 y, .slice b6 (j + 1) c6] 53 := by rw [← ew7]; exact hB6.set 2 _
            have hx7 : Ext w5 w7 := by rw [← ew7]; exact Kp.setCell (F := fun _ => False) hk1 (fun h => by have := EGX.out; simp only at h; omega) _
            have hr7 := hr1.kp' hk67 fun g hg _ e => by
              obtain ⟨cs, hb⟩ := hr1.blkOf hg
              subst e
              exact typ_uk (blk_ne hb hB6)
            have e7 : words (zs ++ [fb wr.drew]) = words zs ++ [.int .u64 (fb wr.drew)] := by simp [words]
            rw [← e7] at hr7
            clear e7
            have HFin := Lib.hid (show ∃ (dv : Value) (zs : List Nat), zs.length = j + 1 ∧ (∀ z ∈ zs, z < 18446744073709551616) ∧ Blk w7 gx [.string p, .int .u64 y, dv] 53 ∧ Row w7 50 1 dv (j + 1) (words zs) (New w5) from ⟨_, _, by rw [List.length_append, HZs.out.1]; rfl, fun z hz => by
              rcases List.mem_append.1 hz with hz | hz
              · exact HZs.out.2 z hz
              · rw [List.mem_singleton] at hz; subst hz; exact HFB.out.1 _, hB7, hr7⟩)
            have HX7 := Lib.hid hx7
            rw [ew7]
            clear hr1 hk1 hB6 hk67 hB7 hx7 hr7 g2f x6 x6f HA ew7 hHeld hmul HFB
            go_wp2
            go_roundw
            case rel => exact ⟨j + 1, by omega, by first | rfl | (congr 1; done) | (congr 1; omega), HFin.out, HX7.out⟩
            case measure => simp [intOf]; omega
          · obtain rfl : j = m := by omega
            obtain ⟨T, vs, hT, hvs, hrow, hds, hal⟩ := hin.out
            obtain ⟨oa, oc, eov, _, _⟩ := hrow.shape
            subst eov
            have l0 : wr.cell? ⟨gx, 0, none⟩ = some (.string p) := by rw [HBj.out.cell']; rfl
            have l1 : wr.cell? ⟨gx, 1, none⟩ = some (.int .u64 y) := by rw [HBj.out.cell']; rfl
            have l2 : wr.cell? ⟨gx, 2, none⟩ = some (.slice ba j bc) := by rw [HBj.out.cell']; rfl
            have HRo := Lib.hid (hrow.ext hex2.out)
            have HDs := Lib.hid (And.intro hvs (And.intro hT (And.intro hal (fun x hx => Row.ext (hds x hx) hex2.out))))
            have hXw := hex.out.trans hex2.out
            clear hvs hT hrow hds hal hin
            go_wp2_with (first | (at_builtin; refine Halted.out ?_))
            refine Halted.mk (wp_appN (m := 1) (n := i) elem_known rfl _ _ rfl (hXw.alloc _) rfl (HRo.out.alloc _) rfl (CellsAt.new wr [.string p, .int .u64 y, .slice ba j bc] 53) (by rfl) (by simp [Value.oneCell']) (by omega) (by unfold maxLen; omega) ?_)
            intro v1 w6 hr1 hk1 hk2 _
            have HFin := Lib.hid (show ∃ (T : List StatZ) (vs : List (Option Addr × Nat)), T.length = i + 1 ∧ vs.length = i + 1 ∧ Row w6 53 3 v1 (i + 1) ((T.zip vs).flatMap knownC) (New w) ∧ (∀ x ∈ T.zip vs, WordsAt w w6 x) ∧ AlikeTo S T (i + 1) by
              have hlen : T.length = vs.length := by rw [HDs.out.1, HDs.out.2.1]
              have hkd : ∀ x, WordsAt w (wr.alloc (.cells #[.string p, .int .u64 y, .slice ba j bc] 53)) x → WordsAt w w6 x := fun x hx => Row.kp' hx hk2 fun g hg _ e => by
                obtain ⟨cs, hb⟩ := (HRo.out.alloc _).blkOf e
                obtain ⟨cs', hb'⟩ := Row.blkOf hx hg
                exact typ_uk (blk_ne hb' hb)
              refine ⟨T ++ [(p, y, zs, ())], vs ++ [(ba, bc)], by rw [List.length_append, HDs.out.2.1]; rfl, by rw [List.length_append, HDs.out.1]; rfl, ?_, ?_, ?_⟩
              · rw [List.zip_append hlen, List.flatMap_append]
                have e2 : (([((p, y, zs, ()) : StatZ)].zip [(ba, bc)]).flatMap knownC) = [.string p, .int .u64 y, .slice ba j bc] := by
                  show [Value.string p, .int .u64 y, .slice ba zs.length bc] ++ [] = _
                  rw [List.append_nil, HZs.out.1]
                rw [e2]; exact hr1
              · intro x hx
                rw [List.zip_append hlen, List.mem_append] at hx
                rcases hx with hx | hx
                · exact hkd _ (Row.alloc (HDs.out.2.2.2 x hx) _)
                · simp at hx; subst hx
                  refine hkd _ (Row.alloc (show Row wr 50 1 (.slice ba zs.length bc) zs.length (words zs) (New w) from ?_) _)
                  rw [HZs.out.1]
                  exact HRj.out.mono (M' := New w) fun g hg => Nat.le_trans hex.out.size hg
              · refine AlikeTo.snoc HDs.out.2.2.1 HDs.out.2.1 HS.out.1 ⟨HS.out.2.1, ?_, HY.out, HZs.out.2⟩
                show zs.length = _
                rw [HZs.out.1, EM.out, HS.out.2.2])
            have HX6 := Lib.hid hk1
            clear hr1 hk1 hk2 l0 l1 l2 hXw c2
            go_wp2
            go_roundw
            case rel => exact ⟨i + 1, by omega, by first | rfl | (congr 1; done) | (congr 1; omega), HFin.out, HX6.out⟩
            case measure => simp [intOf]; omega
    · obtain rfl : i = n := by omega
      obtain ⟨T, vs, hT, hvs, hrow, hds, hal⟩ := hin.out
      obtain ⟨oa, oc, eov, h2, h1, h3⟩ := hrow.cap
      have HSt := Lib.hid (And.intro (known_cells (hvs.trans hT.symm) hrow hds eov) (And.intro hT hal))
      subst eov
      clear hvs hT hrow hds hin hal h2
      go_wp2
      go_ret
      exact RetN.mk hex.out ⟨_, _, T, rfl, h1, h3, HSt.out.2.1, HSt.out.1, HSt.out.2.2⟩
end Go.Proofs.Ytcphalpcdcddpaa

/- The law of costs: memory of one's own that is written over: copy, counts one by one. -/
namespace Go.Proofs.Ytcphalpcdcddpaa
open Go.RowKit
set_option linter.unusedVariables false

section
variable {P : Program} {w : World} {t e : TypeId} {bytes : Nat} {z : Value}
theorem blk_setRow {g : Nat} {cur cs : List Value} (h : Blk w g cur e) : Blk (w.setRow g cs.toArray) g cs e := setRow_heap w g _ _ e _ h
theorem kp_setRow (g : Nat) (cs : Array Value) : Kp (fun k => k = g) w (w.setRow g cs) :=
  ⟨rfl, rfl, rfl, by simp [World.setRow], fun k _ hf => setRow_other w g k cs hf⟩
/-- copy(d, s) into a known block. -/
theorem run_copyB (E : ElemT P t e 1 bytes z) {g off dLen dCap : Nat} {cur : List Value} {e' : TypeId} (hB : Blk w g cur e') {dp sp : Option Addr} {sLen sCap : Nat}
    {cs : List Value} (hl : cs.length = Nat.min sLen dLen) (hdp : 0 < cs.length → dp = some ⟨g, off, none⟩) (hsrc : CellsAt w sp cs) (hfit : off + cs.length ≤ cur.length) (h1 : ∀ u ∈ cs, u.oneCell' = true) :
    ∃ w', (∀ ty, (Builtin.copy_ #[t, t] ty #[.slice dp dLen dCap, .slice sp sLen sCap]).run P w = .ok (goInt cs.length) w') ∧ Kp (fun k => k = g) w w' ∧ Blk w' g (splice cur off cs) e' := by
  obtain ⟨ht, hi, hz, hk⟩ := E
  obtain ⟨i, hi, hz1, hz2, hz3⟩ := info_parts hi
  have hsz : (P.info? e).map (·.size) = some 1 := by rw [hi]; simp [hz2]
  by_cases h0 : cs.length = 0
  · obtain rfl : cs = [] := List.eq_nil_of_length_eq_zero h0
    exact ⟨w, fun ty => run_copy_none (P := P) w t t ty e dp sp dLen dCap sLen sCap ht hsz (by simpa using hl.symm), Kp.refl w, hB.congrL (by simp [splice])⟩
  · have hdp := hdp (by omega)
    subst hdp
    obtain ⟨b, off', rfl, hlt⟩ := hsrc.off (by rintro rfl; simp at h0)
    have hb := blk_setRow (cs := cur.take off ++ (cs ++ cur.drop (off + cs.length))) hB
    refine ⟨_, fun ty => run_copy_row (P := P) w t t ty e g off dLen dCap ⟨b, off', none⟩ sLen sCap cur.toArray e' cs ht hsz hB hl (fun j v hj => ?_) (by simpa using hfit) h1, kp_setRow g _, by simpa [splice] using hb⟩
    obtain ⟨b', o', he, hc⟩ := hsrc j v hj
    cases he
    rw [Addr.add_lit]; exact hc
end

/-- Numbers with a mark, all of them written over. -/
theorem IntsM.copied {w0 w w' : World} {g n cap : Nat} {xs ys : List Int} (h : IntsM w0 w g n cap xs) (hl : ys.length = n) (hB : ∀ cur, Blk w g cur 3 → Blk w' g (splice cur 0 (ints ys)) 3) : IntsM w0 w' g n cap ys := by
  obtain ⟨rest, hn, h1, h2, hg, hb, hlen⟩ := h
  have hb' := hB _ hb
  have e : splice (ints (xs ++ [-77]) ++ rest) 0 (ints ys) = ints (ys ++ [-77]) ++ rest := by
    unfold splice
    have h1 : ints (xs ++ [-77]) = ints xs ++ ints [-77] := by simp [ints]
    have h2 : ints (ys ++ [-77]) = ints ys ++ ints [-77] := by simp [ints]
    have h3 : (ints xs).length = (ints ys).length := by rw [ints_len, ints_len, hl, hn]
    rw [h1, h2, List.take_zero, List.nil_append, Nat.zero_add, List.append_assoc, ← h3, List.drop_left, List.append_assoc]
  rw [e] at hb'
  refine ⟨rest, hl.symm, h1, h2, hg, hb', ?_⟩
  rw [← hlen]
  simp only [List.length_append, ints_len, hl, hn, List.length_cons, List.length_nil]

/-- What is known in memory of its own, by what lies where. -/
structure StatsZ (w0 w : World) (g n cap : Nat) (Z : List (StatZ × (Nat × Nat))) : Prop where
  body : ∃ rest : List Value, n = Z.length ∧ n + 1 ≤ cap ∧ cap ≤ maxLen ∧ w0.heap.size ≤ g ∧ (Z.map (·.2.1)).Nodup ∧ Blk w g (Z.flatMap statM ++ (markS ++ rest)) 56 ∧ ∀ x ∈ Z, DistM w0 w x
theorem StatsZ.m {w0 w : World} {g n cap : Nat} {Z : List (StatZ × (Nat × Nat))} (h : StatsZ w0 w g n cap Z) : StatsM w0 w g n cap (Z.map (·.1)) := by
  obtain ⟨rest, h1, h2, h3, h4, h5, h6, h7⟩ := h.body
  have e : (Z.map (·.1)).zip (Z.map (·.2)) = Z := by
    rw [List.zip_map']; simp
  exact ⟨rest, Z.map (·.2), by rw [List.length_map]; exact h1, h2, h3, h4, by rw [List.length_map, List.length_map], by rw [List.map_map]; exact h5, by rw [e]; exact h6, by rw [e]; exact h7⟩
theorem StatsM.z {w0 w : World} {g n cap : Nat} {S : List StatZ} (h : StatsM w0 w g n cap S) : ∃ Z, Z.map (·.1) = S ∧ StatsZ w0 w g n cap Z := by
  obtain ⟨rest, vs, h1, h2, h3, h4, h5, h6, h7, h8⟩ := h.body
  refine ⟨S.zip vs, List.map_fst_zip (by omega), rest, by rw [List.length_zip, h5, Nat.min_self, h1], h2, h3, h4, ?_, h7, h8⟩
  have e : (S.zip vs).map (·.2.1) = ((S.zip vs).map (·.2)).map (·.1) := by rw [List.map_map]; rfl
  rw [e, List.map_snd_zip (by omega)]; exact h6
/-- The blocks in which it lies. -/
def blksZ (g : Nat) (vs : List (Nat × Nat)) (k : Nat) : Prop := k = g ∨ ∃ v ∈ vs, v.1 = k
theorem StatsZ.kp {F : Nat → Prop} {w0 w w' : World} {g n cap : Nat} {Z : List (StatZ × (Nat × Nat))} (h : StatsZ w0 w g n cap Z) (hk : Kp F w w') (hF : ∀ k, blksZ g (Z.map (·.2)) k → ¬ F k) : StatsZ w0 w' g n cap Z := by
  obtain ⟨rest, h1, h2, h3, h4, h5, h6, h7⟩ := h.body
  exact ⟨rest, h1, h2, h3, h4, h5, h6.kp hk (hF g (.inl rfl)), fun x hx => (h7 x hx).kp hk (hF _ (.inr ⟨x.2, List.mem_map.2 ⟨x, hx, rfl⟩, rfl⟩))⟩
theorem StatsZ.lt {w0 w : World} {g n cap : Nat} {Z : List (StatZ × (Nat × Nat))} (h : StatsZ w0 w g n cap Z) : ∀ k, blksZ g (Z.map (·.2)) k → k < w.heap.size ∧ w0.heap.size ≤ k := by
  obtain ⟨rest, h1, h2, h3, h4, h5, h6, h7⟩ := h.body
  rintro k (rfl | ⟨v, hv, rfl⟩)
  · exact ⟨h6.lt, h4⟩
  · obtain ⟨x, hx, rfl⟩ := List.mem_map.1 hv
    obtain ⟨cs, hb⟩ := (h7 x hx).blk
    obtain ⟨_, _, _, h, _⟩ := h7 x hx
    exact ⟨hb.lt, h⟩
theorem StatsZ.ty {w0 w : World} {g n cap : Nat} {Z : List (StatZ × (Nat × Nat))} (h : StatsZ w0 w g n cap Z) : ∀ k, blksZ g (Z.map (·.2)) k → ∃ cs e, Blk w k cs e ∧ (e = 56 ∨ e = 37) := by
  obtain ⟨rest, h1, h2, h3, h4, h5, h6, h7⟩ := h.body
  rintro k (rfl | ⟨v, hv, rfl⟩)
  · exact ⟨_, _, h6, .inl rfl⟩
  · obtain ⟨x, hx, rfl⟩ := List.mem_map.1 hv
    obtain ⟨cs, hb⟩ := (h7 x hx).blk
    exact ⟨cs, _, hb, .inr rfl⟩

theorem flat_set {α : Type} (f : α → List Value) (k : Nat) (hk : ∀ x, (f x).length = k) : ∀ (L : List α) (i : Nat) (x y : α) (c : Nat) (v : Value), L[i]? = some x → c < k → f y = (f x).set c v → (L.flatMap f).set (i * k + c) v = (L.set i y).flatMap f
  | a :: L, 0, x, y, c, v, hi, hc, he => by
    cases hi
    rw [List.flatMap_cons, List.set_cons_zero, List.flatMap_cons, he, Nat.zero_mul, Nat.zero_add, List.set_append_left _ _ (by rw [hk]; exact hc)]
  | a :: L, i + 1, x, y, c, v, hi, hc, he => by
    have hi' : L[i]? = some x := by simpa using hi
    rw [List.flatMap_cons, List.set_cons_succ, List.flatMap_cons, ← flat_set f k hk L i x y c v hi' hc he, List.set_append_right _ _ (by rw [hk, Nat.succ_mul]; omega)]
    congr 2
    rw [hk, Nat.succ_mul]; omega

theorem set_same {α : Type} {xs : List α} {i : Nat} {x : α} (h : xs[i]? = some x) : xs.set i x = xs := by
  have hlt := (List.getElem?_eq_some_iff.1 h).1
  apply List.ext_getElem?
  intro j
  rw [List.getElem?_set]
  by_cases e : i = j
  · subst e; rw [if_pos rfl, if_pos hlt, h]
  · rw [if_neg e]
theorem StatsZ.setRows {w0 w : World} {g n cap : Nat} {Z : List (StatZ × (Nat × Nat))} (h : StatsZ w0 w g n cap Z) {i : Nat} {z : StatZ × (Nat × Nat)} (hi : Z[i]? = some z) (r : Nat) : StatsZ w0 (w.setCell ⟨g, i * 3 + 1, none⟩ (.float .f64 r)) g n cap (Z.set i ((z.1.1, r, z.1.2.2), z.2)) := by
  obtain ⟨rest, h1, h2, h3, h4, h5, h6, h7⟩ := h.body
  have hlt : i < Z.length := (List.getElem?_eq_some_iff.1 hi).1
  have hk : Kp (fun k => k = g) w (w.setCell ⟨g, i * 3 + 1, none⟩ (.float .f64 r)) := Kp.setCell (F := fun k => k = g) (Kp.refl w) (fun _ => rfl) _
  have hd : ∀ x ∈ Z, DistM w0 (w.setCell ⟨g, i * 3 + 1, none⟩ (.float .f64 r)) x := fun x hx => (h7 x hx).kp hk fun e => by
    obtain ⟨cs, hb⟩ := (h7 x hx).blk
    rw [e] at hb
    exact typ_fc (blk_ne hb h6)
  refine ⟨rest, by rw [List.length_set]; exact h1, h2, h3, h4, ?_, ?_, fun x hx => ?_⟩
  · have e : (Z.set i ((z.1.1, r, z.1.2.2), z.2)).map (·.2.1) = Z.map (·.2.1) := by
      rw [List.map_set]
      have := List.getElem?_map (f := fun x : StatZ × (Nat × Nat) => x.2.1) (l := Z) (i := i)
      rw [hi] at this
      exact set_same this
    rw [e]; exact h5
  · have hb := h6.set (i * 3 + 1) (.float .f64 r)
    rw [List.set_append_left _ _ (by rw [flat_len statM 3 statM_len]; omega), flat_set statM 3 statM_len Z i z ((z.1.1, r, z.1.2.2), z.2) 1 _ hi (by decide) rfl] at hb
    exact hb
  · rcases List.mem_or_eq_of_mem_set hx with hx | rfl
    · exact hd x hx
    · exact hd z (List.mem_of_getElem? hi)
theorem nodup_at {xs : List Nat} (h : xs.Nodup) {i j a : Nat} (hi : xs[i]? = some a) (hj : xs[j]? = some a) : i = j := by
  have h1 := (List.getElem?_eq_some_iff.1 hi)
  obtain ⟨hi1, hi2⟩ := h1
  obtain ⟨hj1, hj2⟩ := List.getElem?_eq_some_iff.1 hj
  rcases Nat.lt_trichotomy i j with c | c | c
  · exact absurd (hi2.trans hj2.symm) (List.pairwise_iff_getElem.1 h i j hi1 hj1 c)
  · exact c
  · exact absurd (hj2.trans hi2.symm) (List.pairwise_iff_getElem.1 h j i hj1 hi1 c)
theorem StatsZ.setDist {w0 w : World} {g n cap : Nat} {Z : List (StatZ × (Nat × Nat))} (h : StatsZ w0 w g n cap Z) {i : Nat} {z : StatZ × (Nat × Nat)} (hi : Z[i]? = some z) {m : Nat} (hm : m < z.1.2.2.1.length) (x : Nat) : StatsZ w0 (w.setCell ⟨z.2.1, m, none⟩ (.float .f64 x)) g n cap (Z.set i ((z.1.1, z.1.2.1, z.1.2.2.1.set m x, ()), z.2)) := by
  obtain ⟨rest, h1, h2, h3, h4, h5, h6, h7⟩ := h.body
  have hlt : i < Z.length := (List.getElem?_eq_some_iff.1 hi).1
  have hk : Kp (fun k => k = z.2.1) w (w.setCell ⟨z.2.1, m, none⟩ (.float .f64 x)) := Kp.setCell (F := fun k => k = z.2.1) (Kp.refl w) (fun _ => rfl) _
  have hz := h7 z (List.mem_of_getElem? hi)
  refine ⟨rest, by rw [List.length_set]; exact h1, h2, h3, h4, ?_, ?_, fun y hy => ?_⟩
  · have e : (Z.set i ((z.1.1, z.1.2.1, z.1.2.2.1.set m x, ()), z.2)).map (·.2.1) = Z.map (·.2.1) := by
      rw [List.map_set]
      have := List.getElem?_map (f := fun x : StatZ × (Nat × Nat) => x.2.1) (l := Z) (i := i)
      rw [hi] at this
      exact set_same this
    rw [e]; exact h5
  · have e : (Z.set i ((z.1.1, z.1.2.1, z.1.2.2.1.set m x, ()), z.2)).flatMap statM = Z.flatMap statM := by
      have hs := flat_set statM 3 statM_len Z i z ((z.1.1, z.1.2.1, z.1.2.2.1.set m x, ()), z.2) 0 (.string z.1.1) hi (by decide) (by
        show statM _ = _
        simp [statM])
      rw [← hs]
      refine set_same ?_
      have hg := flat_get statM 3 statM_len Z i z 0 hi (by decide)
      exact hg
    rw [e]
    exact h6.kp hk fun e => by
      obtain ⟨cs, hb⟩ := hz.blk
      rw [← e] at hb
      exact typ_fc (blk_ne hb h6)
  · obtain ⟨j, hj⟩ := List.mem_iff_getElem?.1 hy
    rw [List.getElem?_set] at hj
    by_cases e : i = j
    · rw [if_pos e, if_pos hlt] at hj
      cases hj
      obtain ⟨r, a, b, c, d⟩ := hz
      refine ⟨r, by show (z.1.2.2.1.set m x).length + 1 ≤ _; rw [List.length_set]; exact a, b, c, ?_⟩
      have hb := d.set m (.float .f64 x)
      have e2 : (flts (z.1.2.2.1 ++ [markF]) ++ r).set m (.float .f64 x) = flts (z.1.2.2.1.set m x ++ [markF]) ++ r := by
        rw [List.set_append_left _ _ (by rw [flts_len, List.length_append]; omega)]
        congr 1
        unfold flts
        rw [← List.map_set, List.set_append_left _ _ hm]
      rw [e2] at hb
      exact hb
    · rw [if_neg e] at hj
      refine (h7 y (List.mem_of_getElem? hj)).kp hk fun e' => e ?_
      refine nodup_at h5 (a := z.2.1) ?_ ?_
      · rw [List.getElem?_map, hi]; rfl
      · rw [List.getElem?_map, hj, ← e']; rfl

/-- The counts before place i are those of K, behind it they are of the same predicates. -/
def Part (K : List StatZ) (Z : List (StatZ × (Nat × Nat))) (i : Nat) : Prop := Z.length = K.length ∧ ∀ (j : Nat) z k, Z[j]? = some z → K[j]? = some k → (j < i → z.1 = k) ∧ z.1.1 = k.1 ∧ z.1.2.2.1.length = k.2.2.1.length
theorem Part.all {K : List StatZ} {Z : List (StatZ × (Nat × Nat))} (h : Part K Z K.length) : Z.map (·.1) = K := by
  apply List.ext_getElem?
  intro j
  rw [List.getElem?_map]
  cases e : Z[j]? with
  | none =>
    have := List.getElem?_eq_none_iff.1 e
    rw [Option.map_none, eq_comm, List.getElem?_eq_none_iff, ← h.1]; exact this
  | some z =>
    have hj : j < K.length := by rw [← h.1]; exact (List.getElem?_eq_some_iff.1 e).1
    have hk := List.getElem?_eq_getElem hj
    rw [hk, Option.map_some, (h.2 j z _ e hk).1 hj]
/-- ... and at place i the rows too, and m of the counts. -/
def PartIn (K : List StatZ) (Z : List (StatZ × (Nat × Nat))) (i m : Nat) : Prop := Part K Z i ∧ ∀ z k, Z[i]? = some z → K[i]? = some k → z.1.2.1 = k.2.1 ∧ ∀ c, c < m → z.1.2.2.1[c]? = k.2.2.1[c]?
theorem Part.rows {K : List StatZ} {Z : List (StatZ × (Nat × Nat))} {i : Nat} {z : StatZ × (Nat × Nat)} {k : StatZ} (h : Part K Z i) (hz : Z[i]? = some z) (hk : K[i]? = some k) : PartIn K (Z.set i ((z.1.1, k.2.1, z.1.2.2), z.2)) i 0 := by
  have hlt : i < Z.length := (List.getElem?_eq_some_iff.1 hz).1
  have h0 := h.2 i z k hz hk
  refine ⟨⟨by rw [List.length_set]; exact h.1, fun j y u hy hu => ?_⟩, fun y u hy hu => ?_⟩
  · rw [List.getElem?_set] at hy
    by_cases e : i = j
    · subst e
      rw [if_pos rfl, if_pos hlt] at hy
      cases hy
      rw [hk] at hu; cases hu
      exact ⟨fun h => absurd h (Nat.lt_irrefl _), h0.2⟩
    · rw [if_neg e] at hy
      exact h.2 j y u hy hu
  · rw [List.getElem?_set, if_pos rfl, if_pos hlt] at hy
    cases hy
    rw [hk] at hu; cases hu
    exact ⟨rfl, fun c hc => by omega⟩
theorem PartIn.dist {K : List StatZ} {Z : List (StatZ × (Nat × Nat))} {i m : Nat} {z : StatZ × (Nat × Nat)} {k : StatZ} {x : Nat} (h : PartIn K Z i m) (hz : Z[i]? = some z) (hk : K[i]? = some k) (hx : k.2.2.1[m]? = some x) : PartIn K (Z.set i ((z.1.1, z.1.2.1, z.1.2.2.1.set m x, ()), z.2)) i (m + 1) := by
  have hlt : i < Z.length := (List.getElem?_eq_some_iff.1 hz).1
  have h0 := h.1.2 i z k hz hk
  have hml : m < k.2.2.1.length := (List.getElem?_eq_some_iff.1 hx).1
  refine ⟨⟨by rw [List.length_set]; exact h.1.1, fun j y u hy hu => ?_⟩, fun y u hy hu => ?_⟩
  · rw [List.getElem?_set] at hy
    by_cases e : i = j
    · subst e
      rw [if_pos rfl, if_pos hlt] at hy
      cases hy
      rw [hk] at hu; cases hu
      exact ⟨fun h => absurd h (Nat.lt_irrefl _), h0.2.1, by show (z.1.2.2.1.set m x).length = _; rw [List.length_set]; exact h0.2.2⟩
    · rw [if_neg e] at hy
      exact h.1.2 j y u hy hu
  · rw [List.getElem?_set, if_pos rfl, if_pos hlt] at hy
    cases hy
    rw [hk] at hu; cases hu
    have h1 := h.2 z k hz hk
    refine ⟨h1.1, fun c hc => ?_⟩
    show (z.1.2.2.1.set m x)[c]? = _
    rw [List.getElem?_set]
    by_cases e : m = c
    · subst e
      rw [if_pos rfl, if_pos (by rw [h0.2.2]; exact hml), hx]
    · rw [if_neg e]
      exact h1.2 c (by omega)
theorem PartIn.done {K : List StatZ} {Z : List (StatZ × (Nat × Nat))} {i m : Nat} {k : StatZ} (h : PartIn K Z i m) (hk : K[i]? = some k) (hm : m = k.2.2.1.length) : Part K Z (i + 1) := by
  refine ⟨h.1.1, fun j z u hz hu => ?_⟩
  have h0 := h.1.2 j z u hz hu
  refine ⟨fun hj => ?_, h0.2⟩
  by_cases e : j = i
  · subst e
    rw [hk] at hu; cases hu
    have h1 := h.2 z k hz hk
    have h2 : z.1.2.2.1 = k.2.2.1 := by
      apply List.ext_getElem?
      intro c
      by_cases hc : c < m
      · exact h1.2 c hc
      · rw [List.getElem?_eq_none_iff.2 (by omega), List.getElem?_eq_none_iff.2 (by omega)]
    obtain ⟨⟨zp, zr, zd, ⟨⟩⟩, zv⟩ := z
    obtain ⟨kp, kr, kd, ⟨⟩⟩ := k
    simp only at h2 h1 h0 ⊢
    rw [h0.2.1, h1.1, h2]
  · exact h0.1 (by omega)
end Go.Proofs.Ytcphalpcdcddpaa
