/- Texts joined for a claim (RefRight, RefStat, RefStands, RefShared, RefGuess, RefSetN, RefCost, Takes). -/
import Derived.Test.YtcphalpcdcddpaaBe2
import Derived.Laws.FloatArith
import Derived.StillTailTactics
import Derived.Deep.OwnRows
import Derived.Laws.OwnMore
import Derived.Deep.RegionWith
import Derived.Deep.RegionHeld3
/- The document's answer for costs: finite, Right. -/
namespace Go.Proofs.Ytcphalpcdcddpaa
open Go.RowKit
set_option linter.unusedVariables false
attribute [local go_sem] run_store_float

theorem sub_ok {P : Program} (w : World) (t : TypeId) (x y r : Nat) (h : Ieee.double.sub x y = some r) : (binOp .sub t (.float .f64 x) (.float .f64 y)).run P w = .ok (.float .f64 r) w := run_float_arith w .sub t .f64 x y r h
/-- No number: its bits are drawn, a NaN's: it is not nought. -/
theorem sub_nan {P : Program} (w : World) (t : TypeId) (x y : Nat) (h : Ieee.double.sub x y = none) : ∃ b, (binOp .sub t (.float .f64 x) (.float .f64 y)).run P w = .ok (.float .f64 b) w.drew ∧ (Ieee.double.order b 0 == some .eq) = false := by
  have h' : (FloatKind.format .f64).sub x y = none := h
  refine ⟨(Question.nanBits .f64 x y).cut (w.tape w.drawn (.nanBits .f64 x y)), ?_⟩
  have hrun : (binOp .sub t (.float .f64 x) (.float .f64 y)).run P w = .ok (.float .f64 ((Question.nanBits .f64 x y).cut (w.tape w.drawn (.nanBits .f64 x y)))) w.drew := by
    simp [binOp, Op.floatArith, h', Question.forced]
  generalize w.tape w.drawn (.nanBits .f64 x y) = q at hrun ⊢
  have hb : (Question.nanBits .f64 x y).cut q = (q % 2) * 9223372036854775808 + 9218868437227405312 + 1 + (q / 2) % 4503599627370495 := rfl
  have h1 : (q / 2) % 4503599627370495 < 4503599627370495 := Nat.mod_lt _ (by decide)
  generalize (q / 2) % 4503599627370495 = z at *
  generalize (Question.nanBits .f64 x y).cut q = b at *
  refine ⟨hrun, ?_⟩
  rcases Nat.mod_two_eq_zero_or_one q with h0 | h0
  · rw [h0] at hb
    obtain ⟨f, e⟩ := read_nan (x := b) (by rw [hb]; unfold infW; omega) (by rw [hb]; unfold negW; omega)
    rw [order_nan 0 e]; rfl
  · rw [h0] at hb
    rcases order_neg (x := b) (y := 0) (by rw [hb]; unfold negW; omega) (by rw [hb]; omega) (by decide) with e | e <;> rw [e] <;> rfl

theorem finite_any (x : Nat) (w : World) (hx : x < 18446744073709551616) : Calls Try.prog 64 #[.float .f64 x] w (RetN w fun w' v => v = .bool (finW x)) := by
  have h := ge_zero hx
  by_cases h1 : x ≤ infW ∨ x = negW
  · rw [decide_eq_true h1] at h
    have hf : ((FloatKind.format .f64).order x 0 == some .gt || (FloatKind.format .f64).order x 0 == some .eq) = true := h
    by_cases hi : x = infW
    · obtain ⟨b, hr, hn⟩ := sub_nan (P := Try.prog) w 37 x x (by rw [hi]; exact sub_self_inf)
      have hn2 : ((FloatKind.format .f64).order b 0 == some .eq) = false := hn
      have H1 := Lib.hid hi; clear h1 h hi hn
      go_enter Try.func64, Try.ntmps64
      go_wp2
      go_ret
      refine RetN.mk ((Kp.refl _).drew) (congrArg Value.bool ?_)
      rw [H1.out]; decide
    · have hs : ∀ W, (binOp .sub 37 (.float .f64 x) (.float .f64 x)).run Try.prog W = .ok (.float .f64 0) W := fun W => sub_ok W _ x x 0 (by
        rcases h1 with h1 | h1
        · exact sub_self (by omega)
        · rw [h1]; exact sub_self_neg)
      have h0 : ((FloatKind.format .f64).order 0 0 == some .eq) = true := by decide
      have H1 := Lib.hid (And.intro h1 hi); clear h1 h hi
      go_enter Try.func64, Try.ntmps64
      go_wp2
      go_ret
      refine RetN.mk (Kp.refl _) (congrArg Value.bool ?_)
      unfold finW
      symm; apply decide_eq_true
      have h := H1.out
      unfold infW negW at h
      unfold infW
      omega
  · rw [decide_eq_false h1] at h
    have hf : ((FloatKind.format .f64).order x 0 == some .gt || (FloatKind.format .f64).order x 0 == some .eq) = false := h
    have H1 := Lib.hid h1; clear h1 h
    go_enter Try.func64, Try.ntmps64
    go_wp2
    go_ret
    refine RetN.mk (Kp.refl _) (congrArg Value.bool ?_)
    unfold finW
    symm; apply decide_eq_false
    have h := H1.out
    unfold infW negW at h
    unfold infW
    omega

/-- Between two rounds of a loop that keeps an answer. -/
def OkTo (w0 : World) {α : Type} (b : Bool) (xs : List α) (q : α → Bool) (n : Nat) (iv ov : Value) (w : World) : Prop := ∃ (i : Nat) (r : Bool), i ≤ n ∧ iv = .int .i64 i ∧ ov = .bool r ∧ Hid (r = (b && (xs.take i).all q)) ∧ Hid (Ext w0 w)
theorem ok_zero {α : Type} {q : α → Bool} {xs : List α} {b : Bool} : b = (b && (xs.take 0).all q) := by simp
theorem ok_take {α : Type} {q : α → Bool} {xs : List α} {i : Nat} {x : α} {b r : Bool} (h : xs[i]? = some x) (hr : r = (b && (xs.take i).all q)) : (r && q x) = (b && (xs.take (i + 1)).all q) := by
  rw [all_take h, ← Bool.and_assoc, ← hr]
theorem ok_off {α : Type} {q : α → Bool} {xs : List α} {i : Nat} {x : α} {b : Bool} (h : xs[i]? = some x) (hr : false = (b && (xs.take i).all q)) : false = (b && (xs.take (i + 1)).all q) := by
  rw [← ok_take h hr]; rfl
theorem ok_on {α : Type} {q : α → Bool} {xs : List α} {i : Nat} {x : α} {b r : Bool} (h : xs[i]? = some x) (hr : true = (b && (xs.take i).all q)) (hq : q x = r) : r = (b && (xs.take (i + 1)).all q) := by
  rw [← ok_take h hr, hq]; rfl
theorem ok_end {α : Type} {q : α → Bool} {xs : List α} {i : Nat} {b r : Bool} (h : xs.length ≤ i) (hr : r = (b && (xs.take i).all q)) : r = (b && xs.all q) := by
  rw [List.take_of_length_le h] at hr; exact hr

open Classical in
set_option maxRecDepth 100000 in
set_option maxHeartbeats 8000000 in
theorem refRight_any (p : ByteArray) (hs : List TermZ) (ls : List LitZ) (ha : Option Addr) (hn hcap : Nat) (ba : Option Addr) (n bcap : Nat) (S : List StatZ) (sa : Option Addr) (sn scap : Nat) (w : World) (G : Nat → Prop) (hhn : hn = hs.length) (hh : TermsAt w G ha hs) (hhl : hn ≤ 1048576) (hbn : n = ls.length) (h : LitsAt w G ba ls) (hf : Fit ls)
    (hsn : sn = S.length) (hS : StatsAt w sa S) (hSf : StatsFit S) :
    Calls Try.prog 34 #[ruleV p ha hn hcap ba n bcap, .slice sa sn scap] w (RetN w fun w' v => v = .int .i64 (errR ((p, hs, ()), ls, ()) S)) := by
  have HN := Lib.hid hbn; have HE := Lib.hid h; have HF := Lib.hid hf; have hl : n ≤ 1048576 := by have := hf.len; omega
  have HSN := Lib.hid hsn; have HSE := Lib.hid hS; have HSF := Lib.hid hSf; have hsl : sn ≤ 1048576 := by have := hSf.len; omega
  obtain ⟨c, ec⟩ : ∃ c, c = checkR ((p, hs, ()), ls, ()) := ⟨_, rfl⟩
  have hck := fun (W : World) (hW : Ext w W) => refCheck_any p hs ls ha hn hcap ba n bcap W G hhn (hh.ext hW) hhl hbn (h.ext hW) hf
  rw [← ec] at hck
  have HC := Lib.hid hck
  have EC := Lib.hid ec
  clear hck ec hbn h hf hsn hS hSf hhn hh
  go_enter Try.func34, Try.ntmps34
  go_wp2_with fail
  obtain ⟨wb, eb⟩ : ∃ wb, w.alloc (.cells #[.string p, .slice ha hn hcap, .slice ba n bcap] 27) = wb := ⟨_, rfl⟩
  rw [eb]
  have HB := Lib.hid (Blk.new w [.string p, .slice ha hn hcap, .slice ba n bcap] 27)
  have HX := Lib.hid ((Kp.refl (F := fun _ => False) w).alloc (.cells #[.string p, .slice ha hn hcap, .slice ba n bcap] 27))
  have eb2 : w.alloc (.cells [Value.string p, .slice ha hn hcap, .slice ba n bcap].toArray 27) = wb := eb
  rw [eb2] at HB
  rw [eb] at HX
  clear eb eb2
  refine (HC.out _ HX.out).mono ?_
  rintro e w1 ⟨v, rfl, hk1, rfl⟩
  have X1 := Lib.hid (HX.out.trans hk1)
  have B1 := Lib.hid (HB.out.ext hk1)
  clear hk1 HX HB
  by_cases hc : c = 0
  · subst hc
    go_wp2
    go_loopw [6] (fun iv wr => StatsTo w1 ((p, hs, ()), ls, ()) S sn iv wr) (fun iv _ => sn - (intOf iv).toNat)
    case atStart => exact ⟨0, Nat.zero_le _, rfl, fun j s hj _ => by omega, Kp.refl _⟩
    case round =>
      obtain ⟨i, hi, rfl, hall, hex⟩ := hrel
      have XR := Lib.hid (X1.out.trans hex.out)
      by_cases hlt : i < sn
      · have hlt' : i < S.length := by rw [← HSN.out]; exact hlt
        obtain ⟨s, hsi⟩ : ∃ s, S[i]? = some s := ⟨_, List.getElem?_eq_getElem hlt'⟩
        obtain ⟨b, off, da, dcap, eao, c0, c1, c2, hdl, hdm, hd⟩ := HSE.out i s hsi
        subst eao
        obtain ⟨dn, edn⟩ : ∃ dn, dn = s.2.2.1.length := ⟨_, rfl⟩
        rw [← edn] at c2 hdl
        obtain ⟨ps, eps⟩ : ∃ ps, ps = s.1 := ⟨_, rfl⟩
        rw [← eps] at c0
        obtain ⟨x, ex⟩ : ∃ x, x = s.2.1 := ⟨_, rfl⟩
        rw [← ex] at c1
        have hmem := List.mem_of_getElem? hsi
        have hx64 : x < 18446744073709551616 := ex ▸ HSF.out.rows s hmem
        have hdn : dn ≤ 1048576 := edn ▸ HSF.out.dist s hmem
        have HW64 := Lib.hid (HSF.out.words s hmem)
        obtain ⟨ds, eds⟩ : ∃ ds, ds = s.2.2.1 := ⟨_, rfl⟩
        rw [← eds] at hd edn HW64
        have HT := Lib.hid (And.intro hsi (And.intro eps (And.intro ex eds)))
        have EDN := Lib.hid edn
        have HD := Lib.hid hd
        have C0 := Lib.hid c0
        have C2 := Lib.hid c2
        have HFin := Lib.hid (fun W => finite_any x W hx64)
        replace c1 := XR.out.cell c1 id
        clear hsi hlt' eps ex eds edn hd hdl hdm hmem c0 c2 hx64
        go_wp2_with fail
        refine (HFin.out _).mono ?_
        rintro e w2 ⟨v, rfl, hk2, rfl⟩
        have X2 := Lib.hid (hex.out.trans hk2)
        clear hk2 c1
        obtain ⟨r0, er0⟩ : ∃ r0, r0 = finW x := ⟨_, rfl⟩
        rw [← er0]
        have ER0 := Lib.hid er0; clear er0
        go_wp2
        go_loopw [8, 7] (fun iv ov wr => OkTo w1 r0 ds finW dn iv ov wr) (fun iv _ _ => dn - (intOf iv).toNat)
        case atStart => exact ⟨0, r0, Nat.zero_le _, rfl, rfl, ok_zero, X2⟩
        case round =>
          obtain ⟨j, r, hj, rfl, rfl, hr, hex2⟩ := hrel
          have XR2 := Lib.hid (X1.out.trans hex2.out)
          have c2 := XR2.out.cell C2.out id
          by_cases hlt2 : j < dn
          · have hlt2' : j < ds.length := by rw [← EDN.out]; exact hlt2
            obtain ⟨db, doff, eda, d0⟩ := (HD.out.ext XR2.out).flt hlt2'
            subst eda
            have ht : ds[j]? = some ds[j] := List.getElem?_eq_getElem hlt2'
            have hy := HW64.out _ (List.getElem_mem hlt2')
            generalize ds[j] = y at *
            have HY := Lib.hid (fun W => finite_any y W hy)
            have HTY := Lib.hid ht
            clear ht hy hlt2'
            cases r
            · go_wp2
              go_roundw
              case rel => exact ⟨j + 1, false, by omega, by first | rfl | (congr 1; done) | (congr 1; omega), by first | rfl | trivial, ok_off HTY.out hr.out, hex2⟩
              case measure => simp [intOf]; omega
            · go_wp2_with fail
              refine (HY.out _).mono ?_
              rintro e w3 ⟨v, rfl, hk3, rfl⟩
              have X3 := Lib.hid (hex2.out.trans hk3)
              clear hk3 c2 d0
              go_wp2
              go_roundw
              case rel => exact ⟨j + 1, finW y, by omega, by first | rfl | (congr 1; done) | (congr 1; omega), by first | rfl | trivial, ok_on HTY.out hr.out rfl, X3⟩
              case measure => simp [intOf]; omega
          · have HR2 := Lib.hid (ok_end (by rw [← EDN.out]; omega) hr.out)
            clear hr
            go_wp2
            clear c2
            go_loopw [9, 7] (fun iv ov wr => OkTo w1 r (S.take i) (fun u => decide (u.1 ≠ ps)) i iv ov wr) (fun iv _ _ => i - (intOf iv).toNat)
            case atStart => exact ⟨0, r, Nat.zero_le _, rfl, rfl, ok_zero, hex2⟩
            case round =>
              obtain ⟨q, r4, hq, rfl, rfl, hr4, hex4⟩ := hrel
              have XR4 := Lib.hid (X1.out.trans hex4.out)
              have c0 := XR4.out.cell C0.out id
              by_cases hlt4 : q < i
              · obtain ⟨u, hu⟩ : ∃ u, S[q]? = some u := ⟨_, List.getElem?_eq_getElem (by have := HSN.out; omega)⟩
                obtain ⟨_, _, _, _, e4, g0, _, _, _, _, _⟩ := HSE.out q u hu
                cases e4
                replace g0 := XR4.out.cell g0 id
                have HU := Lib.hid (show (S.take i)[q]? = some u by rw [List.getElem?_take, if_pos hlt4]; exact hu)
                obtain ⟨pu, epu⟩ : ∃ pu, pu = u.1 := ⟨_, rfl⟩
                rw [← epu] at g0
                have EPU := Lib.hid epu
                have hqsn : q < sn := by omega
                clear hu epu
                cases r4
                · go_wp2
                  go_quiet (fail)
                  go_wp2
                  go_roundw
                  case rel => exact ⟨q + 1, false, by omega, by first | rfl | (congr 1; done) | (congr 1; omega), by first | rfl | trivial, ok_off HU.out hr4.out, hex4.out.drewN _⟩
                  case measure => simp [intOf]; omega
                · by_cases hp : pu = ps
                  · have hb := str_eq ps
                    subst hp
                    go_wp2
                    go_quiet (fail)
                    go_wp2
                    go_roundw
                    case rel => exact ⟨q + 1, false, by omega, by first | rfl | (congr 1; done) | (congr 1; omega), by first | rfl | trivial, ok_on HU.out hr4.out (by rw [← EPU.out]; simp), hex4.out.drewN _⟩
                    case measure => simp [intOf]; omega
                  · have hb := str_ne hp
                    have HP := Lib.hid hp; clear hp
                    go_wp2
                    go_quiet (fail)
                    go_wp2
                    go_roundw
                    case rel => exact ⟨q + 1, true, by omega, by first | rfl | (congr 1; done) | (congr 1; omega), by first | rfl | trivial, ok_on HU.out hr4.out (by rw [← EPU.out]; exact decide_eq_true HP.out), hex4.out.drewN _⟩
                    case measure => simp [intOf]; omega
              · have HR4 := Lib.hid (ok_end (by rw [List.length_take]; omega) hr4.out)
                clear hr4
                go_wp2
                clear c0
                go_loopw [10, 7] (fun iv ov wr => OkTo w1 r4 ls (fitL s) n iv ov wr) (fun iv _ _ => n - (intOf iv).toNat)
                case atStart => exact ⟨0, r4, Nat.zero_le _, rfl, rfl, ok_zero, hex4⟩
                case round =>
                  obtain ⟨z, r6, hz, rfl, rfl, hr6, hex6⟩ := hrel
                  have XR6 := Lib.hid (X1.out.trans hex6.out)
                  have b2 : wr.cell? ⟨w.heap.size, 2, none⟩ = some (.slice ba n bcap) := by rw [(B1.out.ext hex6.out).cell']; rfl
                  by_cases hlt6 : z < n
                  · have G0 := Lib.hid (XR6.out.cell C0.out id)
                    have G2 := Lib.hid (XR6.out.cell C2.out id)
                    generalize hbb : b = bs at *
                    generalize hoo : off = offs at *
                    clear hbb hoo
                    have hltl : z < ls.length := by rw [← HN.out]; exact hlt6
                    obtain ⟨l, hli⟩ : ∃ l, ls[z]? = some l := ⟨_, List.getElem?_eq_getElem hltl⟩
                    obtain ⟨b, off, a2, cap2, eao, hG, hb, hL, c0, c1, c2, c3, c4, c5, c6, c7⟩ := lit_at HE.out hli
                    subst eao
                    replace c0 := XR6.out.cell c0 id
                    replace c1 := XR6.out.cell c1 id
                    replace c2 := XR6.out.cell c2 id
                    replace c3 := XR6.out.cell c3 id
                    replace c4 := XR6.out.cell c4 id
                    replace c5 := XR6.out.cell c5 id
                    replace c6 := XR6.out.cell c6 id
                    replace c7 := XR6.out.cell c7 id
                    obtain ⟨mm, emm⟩ : ∃ mm, mm = (termsOf l).length := ⟨_, rfl⟩
                    rw [← emm] at c2
                    have hmm : mm ≤ 1048576 := by rw [emm]; exact HF.out.terms l (List.mem_of_getElem? hli)
                    obtain ⟨k, ek⟩ : ∃ k, k = l.1 := ⟨_, rfl⟩
                    rw [← ek] at c0
                    clear hltl hG hb
                    obtain ⟨pl, epl⟩ : ∃ pl, pl = predOf l := ⟨_, rfl⟩
                    rw [← epl] at c1
                    have HL := Lib.hid (And.intro hli (And.intro emm (And.intro ek epl)))
                    clear hli hL emm ek epl
                    generalize opOf l = s3 at c3
                    generalize (leftOf l).1 = s4 at c4
                    generalize (leftOf l).2.1 = s5 at c5
                    generalize (rightOf l).1 = s6 at c6
                    generalize (rightOf l).2.1 = s7 at c7
                    have e0 : (wr.alloc (.cells #[.int .i64 k, .string pl, .slice a2 mm cap2, .int .i64 s3, .int .i64 s4, .string s5, .int .i64 s6, .string s7] 70)).cell? ⟨bs, offs + i * 3, none⟩ = some (.string ps) := ((Kp.refl (F := fun _ => False) wr).alloc _).cell G0.out id
                    have e2 : (wr.alloc (.cells #[.int .i64 k, .string pl, .slice a2 mm cap2, .int .i64 s3, .int .i64 s4, .string s5, .int .i64 s6, .string s7] 70)).cell? ⟨bs, offs + i * 3 + 2, none⟩ = some (.slice da dn dcap) := ((Kp.refl (F := fun _ => False) wr).alloc _).cell G2.out id
                    have hfit : fitL s l = true ↔ (k = 1 → pl = ps → mm = dn) := by
                      rw [fitL_iff, ← HL.out.2.2.1, ← HL.out.2.2.2, ← HL.out.2.1, ← HT.out.2.1, ← HT.out.2.2.2, ← EDN.out]
                    have HFit := Lib.hid hfit; clear hfit
                    cases r6
                    · go_wp2
                      go_quiet (fail)
                      go_wp2
                      go_roundw
                      case rel => exact ⟨z + 1, false, by omega, by first | rfl | (congr 1; done) | (congr 1; omega), by first | rfl | trivial, ok_off HL.out.1 hr6.out, (hex6.out.alloc _).drewN _⟩
                      case measure => simp [intOf]; omega
                    · by_cases h1 : k = 1
                      · by_cases h2 : pl = ps
                        · have hb := str_eq ps
                          by_cases h3 : mm = dn
                          · have HY := Lib.hid (HFit.out.2 fun _ _ => h3)
                            have n3 : ((mm : Int) == (dn : Int)) = true := by simp [h3]
                            subst h1; subst h2
                            have HH := Lib.hid h3; clear h3
                            go_wp2
                            go_quiet (fail)
                            go_wp2
                            go_roundw
                            case rel => exact ⟨z + 1, true, by omega, by first | rfl | (congr 1; done) | (congr 1; omega), by first | rfl | trivial, ok_on HL.out.1 hr6.out HY.out, (hex6.out.alloc _).drewN _⟩
                            case measure => simp [intOf]; omega
                          · have HY := Lib.hid (show fitL s l = false by rw [Bool.eq_false_iff, Ne, HFit.out]; exact fun y => h3 (y h1 h2))
                            have n3 : ((mm : Int) == (dn : Int)) = false := by simp; omega
                            subst h1; subst h2
                            have HH := Lib.hid h3; clear h3
                            go_wp2
                            go_quiet (fail)
                            go_wp2
                            go_roundw
                            case rel => exact ⟨z + 1, false, by omega, by first | rfl | (congr 1; done) | (congr 1; omega), by first | rfl | trivial, ok_on HL.out.1 hr6.out HY.out, (hex6.out.alloc _).drewN _⟩
                            case measure => simp [intOf]; omega
                        · have HY := Lib.hid (HFit.out.2 fun _ y => absurd y h2)
                          have hb := str_ne h2
                          subst h1
                          have HH := Lib.hid h2; clear h2
                          go_wp2
                          go_quiet (fail)
                          go_wp2
                          go_roundw
                          case rel => exact ⟨z + 1, true, by omega, by first | rfl | (congr 1; done) | (congr 1; omega), by first | rfl | trivial, ok_on HL.out.1 hr6.out HY.out, (hex6.out.alloc _).drewN _⟩
                          case measure => simp [intOf]; omega
                      · have HY := Lib.hid (HFit.out.2 fun y => absurd y h1)
                        have n1 : (k == 1) = false := by simp [h1]
                        have n2 : (k != 1) = true := by simp [h1]
                        have HH := Lib.hid h1; clear h1
                        go_wp2
                        go_quiet (fail)
                        go_wp2
                        go_roundw
                        case rel => exact ⟨z + 1, true, by omega, by first | rfl | (congr 1; done) | (congr 1; omega), by first | rfl | trivial, ok_on HL.out.1 hr6.out HY.out, (hex6.out.alloc _).drewN _⟩
                        case measure => simp [intOf]; omega
                  · have HR6 := Lib.hid (ok_end (by rw [← HN.out]; omega) hr6.out)
                    have hok : statOk ((p, hs, ()), ls, ()) S i s = r6 := by
                      rw [HR6.out, HR4.out, HR2.out, ER0.out, HT.out.2.2.1, HT.out.2.2.2, HT.out.2.1]; rfl
                    have HOk := Lib.hid hok
                    clear hr6 hok
                    cases r6
                    · go_wp2
                      go_ret
                      exact RetN.mk XR6.out (congrArg (Value.int .i64) (by unfold errR; rw [if_pos EC.out.symm, if_neg (statOk_no HT.out.1 HOk.out)]; rfl))
                    · go_wp2
                      go_roundw
                      case rel =>
                        refine ⟨i + 1, by omega, by first | rfl | (congr 1; done) | (congr 1; omega), fun j u hj hu => ?_, hex6⟩
                        by_cases e : j = i
                        · subst e; rw [HT.out.1] at hu; cases hu; exact HOk.out
                        · exact hall.out j u (by omega) hu
                      case measure => simp [intOf]; omega
      · have HA := Lib.hid (show statsOk ((p, hs, ()), ls, ()) S from fun j s hj => hall.out j s (by have := HSN.out; have := (List.getElem?_eq_some_iff.1 hj).1; omega) hj)
        clear hall
        go_wp2
        go_ret
        exact RetN.mk XR.out (congrArg (Value.int .i64) (by unfold errR; rw [if_pos EC.out.symm, if_pos HA.out]; rfl))
  · have b1 : ((c : Int) == 0) = false := by simp; omega
    have b2 : ((c : Int) != 0) = true := by simp; omega
    have HH := Lib.hid hc; clear hc
    go_wp2
    go_ret
    exact RetN.mk X1.out (congrArg (Value.int .i64) (by unfold errR; rw [← EC.out, if_neg HH.out]))
end Go.Proofs.Ytcphalpcdcddpaa

/- The document's answer for costs: rows, distinct, is, bound. -/
namespace Go.Proofs.Ytcphalpcdcddpaa
open Go.RowKit
set_option linter.unusedVariables false
attribute [local go_sem] run_store_float

def bools (bs : List Bool) : List Value := bs.map Value.bool
theorem bools_len (bs : List Bool) : (bools bs).length = bs.length := by simp [bools]
theorem CellsAt.bool {w : World} {ao : Option Addr} {bs : List Bool} (h : CellsAt w ao (bools bs)) {k : Nat} {b : Bool} (hk : bs[k]? = some b) : ∃ g off, ao = some ⟨g, off, none⟩ ∧ w.cell? ⟨g, off + k, none⟩ = some (.bool b) :=
  h k _ (by simp [bools, hk])

def NoStat (w0 : World) (S : List StatZ) (q : StatZ → Prop) (n : Nat) (iv : Value) (w : World) : Prop := ∃ i : Nat, i ≤ n ∧ iv = .int .i64 i ∧ Hid (∀ (j : Nat) (u : StatZ), j < i → S[j]? = some u → ¬ q u) ∧ Hid (Ext w0 w)
theorem no_stat {S : List StatZ} {q : StatZ → Prop} {i : Nat} {s : StatZ} (hs : S[i]? = some s) (h : ¬ q s) (hno : ∀ (j : Nat) (u : StatZ), j < i → S[j]? = some u → ¬ q u) : ∀ (j : Nat) (u : StatZ), j < i + 1 → S[j]? = some u → ¬ q u := fun j u hj hu => by
  by_cases e : j = i
  · subst e; rw [hs] at hu; cases hu; exact h
  · exact hno j u (by omega) hu

set_option maxRecDepth 100000 in
set_option maxHeartbeats 2000000 in
theorem rows_any (l : LitZ) (k : Int) (p : ByteArray) (a : Option Addr) (m cap : Nat) (op lk : Int) (lt : ByteArray) (rk : Int) (rt : ByteArray) (S : List StatZ) (sa : Option Addr) (sn scap : Nat) (w : World) (hp : predOf l = p) (hsn : sn = S.length) (hS : StatsAt w sa S) (hsl : sn ≤ 1048576) :
    Calls Try.prog 65 #[litV k p a m cap op lk lt rk rt, .slice sa sn scap] w (RetN w fun w' v => v = .float .f64 (rowsW S l)) := by
  have HSN := Lib.hid hsn; have HSE := Lib.hid hS; have HP := Lib.hid hp
  clear hsn hS hp
  go_enter Try.func65, Try.ntmps65
  go_wp2
  obtain ⟨wb, eb⟩ : ∃ wb, w.alloc (.cells #[.int .i64 k, .string p, .slice a m cap, .int .i64 op, .int .i64 lk, .string lt, .int .i64 rk, .string rt] 70) = wb := ⟨_, rfl⟩
  rw [eb]
  have HB := Lib.hid (Blk.new w [.int .i64 k, .string p, .slice a m cap, .int .i64 op, .int .i64 lk, .string lt, .int .i64 rk, .string rt] 70)
  have HX := Lib.hid ((Kp.refl (F := fun _ => False) w).alloc (.cells #[.int .i64 k, .string p, .slice a m cap, .int .i64 op, .int .i64 lk, .string lt, .int .i64 rk, .string rt] 70))
  have eb2 : w.alloc (.cells [Value.int .i64 k, .string p, .slice a m cap, .int .i64 op, .int .i64 lk, .string lt, .int .i64 rk, .string rt].toArray 70) = wb := eb
  rw [eb2] at HB
  rw [eb] at HX
  clear eb eb2
  go_loopw [5] (fun iv wr => NoStat wb S (fun u => u.1 = predOf l) sn iv wr) (fun iv _ => sn - (intOf iv).toNat)
  case atStart => exact ⟨0, Nat.zero_le _, rfl, fun j s hj _ => by omega, Kp.refl _⟩
  case round =>
    obtain ⟨i, hi, rfl, hno, hex⟩ := hrel
    have XR := Lib.hid (HX.out.trans hex.out)
    have p1 : wr.cell? ⟨w.heap.size, 1, none⟩ = some (.string p) := by rw [(HB.out.ext hex.out).cell']; rfl
    by_cases hlt : i < sn
    · obtain ⟨s, hsi⟩ : ∃ s, S[i]? = some s := ⟨_, List.getElem?_eq_getElem (by rw [← HSN.out]; exact hlt)⟩
      obtain ⟨b, off, da, dcap, eao, c0, c1, c2, _⟩ := HSE.out i s hsi
      subst eao
      replace c0 := XR.out.cell c0 id
      replace c1 := XR.out.cell c1 id
      obtain ⟨ps, eps⟩ : ∃ ps, ps = s.1 := ⟨_, rfl⟩
      rw [← eps] at c0
      obtain ⟨x, ex⟩ : ∃ x, x = s.2.1 := ⟨_, rfl⟩
      rw [← ex] at c1
      have HT := Lib.hid (And.intro hsi (And.intro eps ex))
      clear hsi eps ex c2
      by_cases h : ps = p
      · have hb := str_eq p
        have HH := Lib.hid h
        subst h
        go_wp2
        go_quiet (fail)
        go_wp2
        go_ret
        refine RetN.mk (XR.out.drewN _) (congrArg (Value.float .f64) ?_)
        rw [HT.out.2.2]
        unfold rowsW
        rw [statOf_first HT.out.1 (HT.out.2.1.symm.trans HP.out.symm) hno.out]
      · have hb := str_ne h
        have HH := Lib.hid h; clear h
        go_wp2
        go_quiet (fail)
        go_wp2
        go_roundw
        case rel => exact ⟨i + 1, by omega, by first | rfl | (congr 1; done) | (congr 1; omega), no_stat HT.out.1 (fun e => HH.out (HT.out.2.1.trans (e.trans HP.out))) hno.out, hex.out.drewN _⟩
        case measure => simp [intOf]; omega
    · have HA := Lib.hid (show statOf S l = none from statOf_none fun u hu => by
        obtain ⟨j, hj, rfl⟩ := List.mem_iff_getElem.1 hu
        exact hno.out j _ (by have := HSN.out; omega) (List.getElem?_eq_getElem hj))
      clear hno
      go_wp2
      go_ret
      exact RetN.mk XR.out (congrArg (Value.float .f64) (by unfold rowsW; rw [HA.out]))

set_option maxRecDepth 100000 in
set_option maxHeartbeats 4000000 in
theorem distinct_any (l : LitZ) (c : Nat) (k : Int) (p : ByteArray) (a : Option Addr) (m cap : Nat) (op lk : Int) (lt : ByteArray) (rk : Int) (rt : ByteArray) (S : List StatZ) (sa : Option Addr) (sn scap : Nat) (ls : List LitZ) (w : World) (hp : predOf l = p) (hsn : sn = S.length) (hS : StatsAt w sa S) (hsl : sn ≤ 1048576) (hdl : ∀ s ∈ S, s.2.2.1.length ≤ 1048576)
    (K : Known S ls) (hl : l ∈ ls) (h1 : l.1 = 1) (hc : c < (termsOf l).length) :
    Calls Try.prog 68 #[litV k p a m cap op lk lt rk rt, .int .i64 c, .slice sa sn scap] w (RetN w fun w' v => v = .float .f64 (distW S l c)) := by
  have HSN := Lib.hid hsn; have HSE := Lib.hid hS; have HP := Lib.hid hp
  have HK := Lib.hid K; have HL := Lib.hid (And.intro hl (And.intro h1 (And.intro hc hdl)))
  clear hsn hS hp K hl h1 hc hdl
  go_enter Try.func68, Try.ntmps68
  go_wp2
  obtain ⟨wb, eb⟩ : ∃ wb, w.alloc (.cells #[.int .i64 k, .string p, .slice a m cap, .int .i64 op, .int .i64 lk, .string lt, .int .i64 rk, .string rt] 70) = wb := ⟨_, rfl⟩
  rw [eb]
  have HB := Lib.hid (Blk.new w [.int .i64 k, .string p, .slice a m cap, .int .i64 op, .int .i64 lk, .string lt, .int .i64 rk, .string rt] 70)
  have HX := Lib.hid ((Kp.refl (F := fun _ => False) w).alloc (.cells #[.int .i64 k, .string p, .slice a m cap, .int .i64 op, .int .i64 lk, .string lt, .int .i64 rk, .string rt] 70))
  have eb2 : w.alloc (.cells [Value.int .i64 k, .string p, .slice a m cap, .int .i64 op, .int .i64 lk, .string lt, .int .i64 rk, .string rt].toArray 70) = wb := eb
  rw [eb2] at HB
  rw [eb] at HX
  clear eb eb2
  go_loopw [7] (fun iv wr => NoStat wb S (fun u => u.1 = predOf l ∧ oneW < u.2.2.1.getD c 0 ∧ u.2.2.1.getD c 0 < infW) sn iv wr) (fun iv _ => sn - (intOf iv).toNat)
  case atStart => exact ⟨0, Nat.zero_le _, rfl, fun j s hj _ => by omega, Kp.refl _⟩
  case round =>
    obtain ⟨i, hi, rfl, hno, hex⟩ := hrel
    have XR := Lib.hid (HX.out.trans hex.out)
    have p1 : wr.cell? ⟨w.heap.size, 1, none⟩ = some (.string p) := by rw [(HB.out.ext hex.out).cell']; rfl
    by_cases hlt : i < sn
    · obtain ⟨s, hsi⟩ : ∃ s, S[i]? = some s := ⟨_, List.getElem?_eq_getElem (by rw [← HSN.out]; exact hlt)⟩
      obtain ⟨b, off, da, dcap, eao, c0, c1, c2, _, _, hd⟩ := HSE.out i s hsi
      subst eao
      have C2 := Lib.hid c2
      replace c0 := XR.out.cell c0 id
      obtain ⟨ps, eps⟩ : ∃ ps, ps = s.1 := ⟨_, rfl⟩
      rw [← eps] at c0
      have HT := Lib.hid (And.intro hsi eps)
      have hlen : ps = p → c < s.2.2.1.length := fun e => by
        have := HK.out.fit s (List.mem_of_getElem? HT.out.1) l HL.out.1 HL.out.2.1 (HP.out.trans (e.symm.trans HT.out.2))
        have := HL.out.2.2.1
        omega
      have HD := Lib.hid (And.intro hd hlen)
      clear hsi eps c1 c2 hd hlen
      by_cases h : ps = p
      · have hb := str_eq p
        have hcl := HD.out.2 h
        obtain ⟨db, doff, eda, d0⟩ := (HD.out.1.ext XR.out).flt hcl
        have c2 := XR.out.cell C2.out id
        subst eda
        obtain ⟨dn, edn⟩ : ∃ dn, dn = s.2.2.1.length := ⟨_, rfl⟩
        have hdn : dn ≤ 1048576 := edn ▸ HL.out.2.2.2 s (List.mem_of_getElem? HT.out.1)
        have hcd : c < dn := by omega
        rw [← edn] at c2
        have hfin := HK.out.dist s (List.mem_of_getElem? HT.out.1) _ (List.getElem_mem hcl)
        have hget : s.2.2.1.getD c 0 = s.2.2.1[c] := by rw [List.getD_eq_getElem?_getD, List.getElem?_eq_getElem hcl]; rfl
        generalize s.2.2.1[c] = y at *
        have hgt := gt_one hfin
        have HH := Lib.hid (And.intro h hget)
        clear hcl edn hfin hget
        subst h
        by_cases hy : oneW < y ∧ y < infW
        · rw [decide_eq_true hy] at hgt
          have hf : ((FloatKind.format .f64).order y 4607182418800017408 == some .gt) = true := hgt
          have HY := Lib.hid hy; clear hy hgt
          go_wp2
          go_quiet (fail)
          go_wp2
          go_ret
          refine RetN.mk (XR.out.drewN _) (congrArg (Value.float .f64) ?_)
          rw [distW_at (HK.out.at HT.out.1 (HT.out.2.symm.trans HP.out.symm)), HH.out.2]
          unfold atLeast; rw [if_pos HY.out]
        · rw [decide_eq_false hy] at hgt
          have hf : ((FloatKind.format .f64).order y 4607182418800017408 == some .gt) = false := hgt
          have HY := Lib.hid hy; clear hy hgt
          go_wp2
          go_quiet (fail)
          go_wp2
          go_roundw
          case rel => exact ⟨i + 1, by omega, by first | rfl | (congr 1; done) | (congr 1; omega), no_stat HT.out.1 (fun e => HY.out (by rw [← HH.out.2]; exact e.2)) hno.out, hex.out.drewN _⟩
          case measure => simp [intOf]; omega
      · have hb := str_ne h
        have HH := Lib.hid h; clear h
        go_wp2
        go_quiet (fail)
        go_wp2
        go_roundw
        case rel => exact ⟨i + 1, by omega, by first | rfl | (congr 1; done) | (congr 1; omega), no_stat HT.out.1 (fun e => HH.out (HT.out.2.trans (e.1.trans HP.out))) hno.out, hex.out.drewN _⟩
        case measure => simp [intOf]; omega
    · have ha : distW S l c = oneW := by
        cases hs : statOf S l with
        | none => exact distW_none hs c
        | some s =>
          obtain ⟨hm, hpp⟩ := statOf_some hs
          obtain ⟨j, hj, rfl⟩ := List.mem_iff_getElem.1 hm
          have := hno.out j _ (by have := HSN.out; omega) (List.getElem?_eq_getElem hj)
          rw [distW_at hs]
          unfold atLeast; rw [if_neg fun e => this ⟨hpp, e⟩]
      have HA := Lib.hid ha
      clear hno ha
      go_wp2
      go_ret
      exact RetN.mk XR.out (congrArg (Value.float .f64) HA.out.symm)

theorem is_any (k : Int) (s v : ByteArray) (w : World) : Calls Try.prog 89 #[termV k s, .string v] w (RetN w fun w' x => x = .bool (decide (k = 1 ∧ s = v))) := by
  by_cases h1 : k = 1
  · by_cases h2 : s = v
    · have hb := str_eq v
      have hd : decide (k = 1 ∧ s = v) = true := decide_eq_true ⟨h1, h2⟩
      rw [hd]
      clear hd
      subst h1; subst h2
      go_enter Try.func89, Try.ntmps89
      go_wp2
      go_ret
      exact RetN.mk ((Kp.refl w).alloc _) rfl
    · have hb := str_ne h2
      have hd : decide (k = 1 ∧ s = v) = false := decide_eq_false fun e => h2 e.2
      rw [hd]
      have HH := Lib.hid h2
      clear hd h2
      subst h1
      go_enter Try.func89, Try.ntmps89
      go_wp2
      go_ret
      exact RetN.mk ((Kp.refl w).alloc _) rfl
  · have b1 : (k == 1) = false := by simp [h1]
    have hd : decide (k = 1 ∧ s = v) = false := decide_eq_false fun e => h1 e.1
    rw [hd]
    have HH := Lib.hid h1
    clear hd h1
    go_enter Try.func89, Try.ntmps89
    go_wp2
    go_ret
    exact RetN.mk ((Kp.refl w).alloc _) rfl

def NoneTo (w0 : World) (q : Nat → Prop) (n : Nat) (iv : Value) (w : World) : Prop := ∃ i : Nat, i ≤ n ∧ iv = .int .i64 i ∧ Hid (∀ j, j < i → ¬ q j) ∧ Hid (Ext w0 w)
theorem none_succ {q : Nat → Prop} {i : Nat} (h : ¬ q i) (hno : ∀ j, j < i → ¬ q j) : ∀ j, j < i + 1 → ¬ q j := fun j hj => by
  by_cases e : j = i
  · subst e; exact h
  · exact hno j (by omega)
open Classical in
set_option maxRecDepth 100000 in
set_option maxHeartbeats 4000000 in
theorem refBound_any (p : ByteArray) (ls : List LitZ) (ha : Option Addr) (hn hcap : Nat) (ba : Option Addr) (n bcap : Nat) (inn : List Bool) (ia : Option Addr) (icap : Nat) (v : ByteArray) (w : World) (G : Nat → Prop) (hbn : n = ls.length) (h : LitsAt w G ba ls) (hf : Fit ls) (hin : inn.length = n) (hI : CellsAt w ia (bools inn)) :
    Calls Try.prog 74 #[ruleV p ha hn hcap ba n bcap, .slice ia n icap, .string v] w (RetN w fun w' x => x = .bool (decide (boundIn ls inn v))) := by
  have HN := Lib.hid hbn; have HE := Lib.hid h; have HF := Lib.hid hf; have hl : n ≤ 1048576 := by have := hf.len; omega
  have HI := Lib.hid (And.intro hin hI)
  have HIs := Lib.hid (fun k s W => is_any k s v W)
  clear hbn h hf hin hI
  go_enter Try.func74, Try.ntmps74
  go_wp2
  obtain ⟨wb, eb⟩ : ∃ wb, w.alloc (.cells #[.string p, .slice ha hn hcap, .slice ba n bcap] 27) = wb := ⟨_, rfl⟩
  rw [eb]
  have HB := Lib.hid (Blk.new w [.string p, .slice ha hn hcap, .slice ba n bcap] 27)
  have HX := Lib.hid ((Kp.refl (F := fun _ => False) w).alloc (.cells #[.string p, .slice ha hn hcap, .slice ba n bcap] 27))
  have eb2 : w.alloc (.cells [Value.string p, .slice ha hn hcap, .slice ba n bcap].toArray 27) = wb := eb
  rw [eb2] at HB
  rw [eb] at HX
  clear eb eb2
  go_loopw [7] (fun iv wr => NoneTo wb (boundAt ls inn v) n iv wr) (fun iv _ => n - (intOf iv).toNat)
  case atStart => exact ⟨0, Nat.zero_le _, rfl, fun j hj => by omega, Kp.refl _⟩
  case round =>
    obtain ⟨i, hi, rfl, hno, hex⟩ := hrel
    have b2 : wr.cell? ⟨w.heap.size, 2, none⟩ = some (.slice ba n bcap) := by rw [(HB.out.ext hex.out).cell']; rfl
    by_cases hlt : i < n
    · obtain ⟨bi, ebi⟩ : ∃ bi, inn[i]? = some bi := ⟨_, List.getElem?_eq_getElem (by have := HI.out.1; omega)⟩
      have XR := Lib.hid (HX.out.trans hex.out)
      have hltl : i < ls.length := by rw [← HN.out]; exact hlt
      obtain ⟨l, hli⟩ : ∃ l, ls[i]? = some l := ⟨_, List.getElem?_eq_getElem hltl⟩
      obtain ⟨b, off, a2, cap2, eao, hG, hb, hL, c0, c1, c2, c3, c4, c5, c6, c7⟩ := lit_at HE.out hli
      subst eao
      replace c0 := XR.out.cell c0 id
      replace c1 := XR.out.cell c1 id
      replace c2 := XR.out.cell c2 id
      replace c3 := XR.out.cell c3 id
      replace c4 := XR.out.cell c4 id
      replace c5 := XR.out.cell c5 id
      replace c6 := XR.out.cell c6 id
      replace c7 := XR.out.cell c7 id
      obtain ⟨mm, emm⟩ : ∃ mm, mm = (termsOf l).length := ⟨_, rfl⟩
      rw [← emm] at c2
      have hmm : mm ≤ 1048576 := by rw [emm]; exact HF.out.terms l (List.mem_of_getElem? hli)
      obtain ⟨k, ek⟩ : ∃ k, k = l.1 := ⟨_, rfl⟩
      rw [← ek] at c0
      clear hltl hG hb
      have HL := Lib.hid (And.intro hli (And.intro emm (And.intro ek hL)))
      have HBI := Lib.hid ebi
      clear hli emm ek hL ebi c0 c1 c2 c3 c4 c5 c6 c7
      go_wp2
      clear b2
      go_loopw [8] (fun iv wr => NoneTo wb (fun j => bi = true ∧ k = 1 ∧ ∃ t : TermZ, (termsOf l)[j]? = some t ∧ t.1 = 1 ∧ t.2.1 = v) mm iv wr) (fun iv _ => mm - (intOf iv).toNat)
      case atStart => exact ⟨0, Nat.zero_le _, rfl, fun j hj => by omega, hex⟩
      case round =>
        obtain ⟨c, hc, rfl, hno2, hex2⟩ := hrel
        have b2 : wr.cell? ⟨w.heap.size, 2, none⟩ = some (.slice (some ⟨b, off, none⟩) n bcap) := by rw [(HB.out.ext hex2.out).cell']; rfl
        have X2 := Lib.hid (HX.out.trans hex2.out)
        obtain ⟨ib, ioff, eia, d0⟩ := (HI.out.2.ext X2.out).bool HBI.out
        subst eia
        obtain ⟨_, _, _, _, e0, _, _, _, c0, _, c2, _⟩ := lit_at HE.out HL.out.1
        cases e0
        replace c0 := X2.out.cell c0 id
        rw [← HL.out.2.2.1] at c0
        cases bi
        · go_wp2
          go_roundw
          case rel =>
            refine ⟨i + 1, by omega, by first | rfl | (congr 1; done) | (congr 1; omega), none_succ ?_ hno.out, hex2⟩
            rintro ⟨l', h1, h2, _⟩
            rw [HBI.out] at h2; cases h2
          case measure => simp [intOf]; omega
        · by_cases h1 : k = 1
          · by_cases hlt2 : c < mm
            · obtain ⟨t, ht⟩ : ∃ t, (termsOf l)[c]? = some t := ⟨_, List.getElem?_eq_getElem (by rw [← HL.out.2.1]; exact hlt2)⟩
              obtain ⟨_, _, a3, cap3, e0, _, _, hL3, _, _, c2', _⟩ := lit_at HE.out HL.out.1
              cases e0
              replace c2 := X2.out.cell c2' id
              rw [← HL.out.2.1] at c2
              obtain ⟨bt, offt, eaot, f0, f1, _⟩ := term_at (hL3.terms.ext X2.out) ht
              subst eaot
              obtain ⟨kt, st, ⟨⟩⟩ := t
              simp only at f0 f1
              have HT := Lib.hid (And.intro ht h1)
              clear ht hL3 c2'
              subst h1
              go_wp2_with fail
              refine (HIs.out _ _ _).mono ?_
              rintro e w1 ⟨x, rfl, hk1, rfl⟩
              have X3 := Lib.hid (hex2.out.trans hk1)
              clear hk1 c0 c2 f0 f1 d0 b2
              by_cases hh : kt = 1 ∧ st = v
              · rw [decide_eq_true hh]
                have HH := Lib.hid hh; clear hh
                go_wp2
                go_ret
                exact RetN.mk (HX.out.trans X3.out) (congrArg Value.bool (decide_eq_true ⟨i, l, HL.out.1, HBI.out, HL.out.2.2.1.symm, mem_varsT.2 ⟨c, _, HT.out.1, HH.out.1, HH.out.2⟩⟩).symm)
              · rw [decide_eq_false hh]
                have HH := Lib.hid hh; clear hh
                go_wp2
                go_roundw
                case rel =>
                  refine ⟨c + 1, by omega, by first | rfl | (congr 1; done) | (congr 1; omega), none_succ ?_ hno2.out, X3⟩
                  rintro ⟨_, _, t, ht, q1, q2⟩
                  rw [HT.out.1] at ht; cases ht
                  exact HH.out ⟨q1, q2⟩
                case measure => simp [intOf]; omega
            · have HA := Lib.hid hno2.out
              obtain ⟨_, _, a3, cap3, e0, _, _, hL3, _, _, c2', _⟩ := lit_at HE.out HL.out.1
              cases e0
              replace c2 := X2.out.cell c2' id
              rw [← HL.out.2.1] at c2
              have H1 := Lib.hid h1
              subst h1
              clear hL3 c2' hno2
              have hcm : ¬ (c : Int) < (mm : Int) := by omega
              go_wp2
              go_roundw
              case rel =>
                refine ⟨i + 1, by omega, by first | rfl | (congr 1; done) | (congr 1; omega), none_succ ?_ hno.out, hex2⟩
                rintro ⟨l', q1, q2, q3, q4⟩
                rw [HL.out.1] at q1; cases q1
                obtain ⟨j, t, ht, r1, r2⟩ := mem_varsT.1 q4
                have := (List.getElem?_eq_some_iff.1 ht).1
                have := HL.out.2.1
                exact HA.out j (by omega) ⟨rfl, rfl, t, ht, r1, r2⟩
              case measure => simp [intOf]; omega
          · have n1 : (k == 1) = false := by simp [h1]
            have HH := Lib.hid h1; clear h1
            go_wp2
            go_roundw
            case rel =>
              refine ⟨i + 1, by omega, by first | rfl | (congr 1; done) | (congr 1; omega), none_succ ?_ hno.out, hex2⟩
              rintro ⟨l', q1, q2, q3, q4⟩
              rw [HL.out.1] at q1; cases q1
              exact HH.out (HL.out.2.2.1.trans q3)
            case measure => simp [intOf]; omega
    · have ha : ¬ boundIn ls inn v := by
        rintro ⟨j, l, q1, q2, q3, q4⟩
        exact hno.out j (by have := (List.getElem?_eq_some_iff.1 q1).1; have := HN.out; omega) ⟨l, q1, q2, q3, q4⟩
      have HA := Lib.hid ha
      clear ha hno
      go_wp2
      go_ret
      exact RetN.mk (HX.out.trans hex.out) (congrArg Value.bool (decide_eq_false HA.out).symm)
end Go.Proofs.Ytcphalpcdcddpaa

/- The document's answer for costs: Stands. -/
namespace Go.Proofs.Ytcphalpcdcddpaa
open Go.RowKit
set_option linter.unusedVariables false

theorem stands_iff {ls : List LitZ} {inn : List Bool} : stands ls inn ↔ ∀ i, standsAt ls inn i := ⟨fun h i l h1 h2 h3 v hv => h i l h1 h2 h3 v hv, fun h i l h1 h2 h3 v hv => h i l h1 h2 h3 v hv⟩
def AllAt (w0 : World) (q : Nat → Prop) (n : Nat) (iv : Value) (w : World) : Prop := ∃ i : Nat, i ≤ n ∧ iv = .int .i64 i ∧ Hid (∀ j, j < i → q j) ∧ Hid (Ext w0 w)
theorem allAt_succ {q : Nat → Prop} {i : Nat} (h : q i) (hno : ∀ j, j < i → q j) : ∀ j, j < i + 1 → q j := fun j hj => by
  by_cases e : j = i
  · subst e; exact h
  · exact hno j (by omega)
/-- The j-th of these terms is no variable that is not bound. -/
def termBound (ls : List LitZ) (inn : List Bool) (ts : List TermZ) (j : Nat) : Prop := ∀ t : TermZ, ts[j]? = some t → t.1 = 1 → boundIn ls inn t.2.1

open Classical in
set_option maxRecDepth 100000 in
set_option maxHeartbeats 8000000 in
theorem refStands_any (p : ByteArray) (ls : List LitZ) (ha : Option Addr) (hn hcap : Nat) (ba : Option Addr) (n bcap : Nat) (inn : List Bool) (ia : Option Addr) (icap : Nat) (w : World) (G : Nat → Prop) (hbn : n = ls.length) (h : LitsAt w G ba ls) (hf : Fit ls) (hin : inn.length = n) (hI : CellsAt w ia (bools inn)) :
    Calls Try.prog 47 #[ruleV p ha hn hcap ba n bcap, .slice ia n icap] w (RetN w fun w' x => x = .bool (decide (stands ls inn))) := by
  have HN := Lib.hid hbn; have HE := Lib.hid h; have HF := Lib.hid hf; have hl : n ≤ 1048576 := by have := hf.len; omega
  have HI := Lib.hid (And.intro hin hI)
  have HBound := Lib.hid (fun (v : ByteArray) (W : World) (hW : Ext w W) => refBound_any p ls ha hn hcap ba n bcap inn ia icap v W G hbn (h.ext hW) hf hin (hI.ext hW))
  clear hbn h hf hin hI
  go_enter Try.func47, Try.ntmps47
  go_wp2
  obtain ⟨wb, eb⟩ : ∃ wb, w.alloc (.cells #[.string p, .slice ha hn hcap, .slice ba n bcap] 27) = wb := ⟨_, rfl⟩
  rw [eb]
  have HB := Lib.hid (Blk.new w [.string p, .slice ha hn hcap, .slice ba n bcap] 27)
  have HX := Lib.hid ((Kp.refl (F := fun _ => False) w).alloc (.cells #[.string p, .slice ha hn hcap, .slice ba n bcap] 27))
  have eb2 : w.alloc (.cells [Value.string p, .slice ha hn hcap, .slice ba n bcap].toArray 27) = wb := eb
  rw [eb2] at HB
  rw [eb] at HX
  clear eb eb2
  go_loopw [5] (fun iv wr => AllAt wb (standsAt ls inn) n iv wr) (fun iv _ => n - (intOf iv).toNat)
  case atStart => exact ⟨0, Nat.zero_le _, rfl, fun j hj => by omega, Kp.refl _⟩
  case round =>
    obtain ⟨i, hi, rfl, hall, hex⟩ := hrel
    have b2 : wr.cell? ⟨w.heap.size, 2, none⟩ = some (.slice ba n bcap) := by rw [(HB.out.ext hex.out).cell']; rfl
    by_cases hlt : i < n
    · obtain ⟨bi, ebi⟩ : ∃ bi, inn[i]? = some bi := ⟨_, List.getElem?_eq_getElem (by have := HI.out.1; omega)⟩
      have XR := Lib.hid (HX.out.trans hex.out)
      obtain ⟨ib, ioff, eia, d0⟩ := (HI.out.2.ext XR.out).bool ebi
      subst eia
      have hltl : i < ls.length := by rw [← HN.out]; exact hlt
      obtain ⟨l, hli⟩ : ∃ l, ls[i]? = some l := ⟨_, List.getElem?_eq_getElem hltl⟩
      obtain ⟨b, off, a2, cap2, eao, hG, hb, hL, c0, c1, c2, c3, c4, c5, c6, c7⟩ := lit_at HE.out hli
      subst eao
      replace c0 := XR.out.cell c0 id
      replace c1 := XR.out.cell c1 id
      replace c2 := XR.out.cell c2 id
      replace c3 := XR.out.cell c3 id
      replace c4 := XR.out.cell c4 id
      replace c5 := XR.out.cell c5 id
      replace c6 := XR.out.cell c6 id
      replace c7 := XR.out.cell c7 id
      obtain ⟨mm, emm⟩ : ∃ mm, mm = (termsOf l).length := ⟨_, rfl⟩
      rw [← emm] at c2
      have hmm : mm ≤ 1048576 := by rw [emm]; exact HF.out.terms l (List.mem_of_getElem? hli)
      obtain ⟨k, ek⟩ : ∃ k, k = l.1 := ⟨_, rfl⟩
      rw [← ek] at c0
      clear hltl hG hb
      obtain ⟨o, eo⟩ : ∃ o, o = opOf l := ⟨_, rfl⟩
      rw [← eo] at c3
      obtain ⟨lk, elk⟩ : ∃ lk, lk = (leftOf l).1 := ⟨_, rfl⟩
      rw [← elk] at c4
      obtain ⟨lt, elt⟩ : ∃ lt, lt = (leftOf l).2.1 := ⟨_, rfl⟩
      rw [← elt] at c5
      obtain ⟨rk, erk⟩ : ∃ rk, rk = (rightOf l).1 := ⟨_, rfl⟩
      rw [← erk] at c6
      obtain ⟨rt, ert⟩ : ∃ rt, rt = (rightOf l).2.1 := ⟨_, rfl⟩
      rw [← ert] at c7
      have eleft : leftOf l = (lk, lt, ()) := by rw [elk, elt]
      have eright : rightOf l = (rk, rt, ()) := by rw [erk, ert]
      generalize predOf l = s1 at c1
      have HL := Lib.hid (And.intro hli (And.intro emm (And.intro ek (And.intro hL (And.intro eleft eright)))))
      have HBI := Lib.hid ebi
      have HK1 := Lib.hid (And.intro (show (Lit.int .i64 lk).wf = true ∧ lt.size ≤ maxLen by have := hL.left; rw [eleft] at this; exact this) (show (Lit.int .i64 rk).wf = true ∧ rt.size ≤ maxLen by have := hL.right; rw [eright] at this; exact this))
      clear hli emm ek hL ebi eo elk elt erk ert eleft eright
      have d1 : (wr.alloc (.cells #[.int .i64 k, .string s1, .slice a2 mm cap2, .int .i64 o, .int .i64 lk, .string lt, .int .i64 rk, .string rt] 70)).cell? ⟨ib, ioff + i, none⟩ = some (.bool bi) := ((Kp.refl (F := fun _ => False) wr).alloc _).cell d0 id
      by_cases hgo : bi = true ∧ k ≠ 1
      · obtain ⟨hbt, hk1⟩ := hgo
        subst hbt
        have n1 : (k == 1) = false := by simp [hk1]
        have HKN := Lib.hid hk1; clear hk1
        -- the terms that are looked at: in W2 at ta
        have key : ∀ (W2 : World) (ta : Option Addr) (tn tcap : Nat) (ts : List TermZ), Ext wb W2 → (∃ G', TermsAt W2 G' ta ts) → tn = ts.length → tn ≤ 1048576 → asks l = ts → True := fun _ _ _ _ _ _ _ _ _ _ => trivial
        clear key
        by_cases h2 : k = 2
        · have n2 : (k == 2) = true := by simp [h2]
          have hts : asks l = termsOf l := by unfold asks; rw [if_pos (HL.out.2.2.1.symm.trans h2)]
          have HTS := Lib.hid hts
          have H2 := Lib.hid h2
          clear h2 hts
          go_wp2
          clear c0 c1 c2 c3 c4 c5 c6 c7 d0 d1 b2
          go_loopw [8] (fun iv wr => AllAt wb (termBound ls inn (termsOf l)) mm iv wr) (fun iv _ => mm - (intOf iv).toNat)
          case atStart => exact ⟨0, Nat.zero_le _, rfl, fun j hj => by omega, (hex.out.alloc _).alloc _⟩
          case round =>
            obtain ⟨c, hc, rfl, hall2, hex2⟩ := hrel
            have X2 := Lib.hid (HX.out.trans hex2.out)
            have r0 : wr.cell? ⟨w.heap.size, 0, none⟩ = some (.string p) := by rw [(HB.out.ext hex2.out).cell']; rfl
            have r1 : wr.cell? ⟨w.heap.size, 1, none⟩ = some (.slice ha hn hcap) := by rw [(HB.out.ext hex2.out).cell']; rfl
            have r2 : wr.cell? ⟨w.heap.size, 2, none⟩ = some (.slice (some ⟨b, off, none⟩) n bcap) := by rw [(HB.out.ext hex2.out).cell']; rfl
            by_cases hlt2 : c < mm
            · obtain ⟨t, ht⟩ : ∃ t, (termsOf l)[c]? = some t := ⟨_, List.getElem?_eq_getElem (by rw [← HL.out.2.1]; exact hlt2)⟩
              obtain ⟨bt, offt, eaot, f0, f1, _⟩ := term_at (HL.out.2.2.2.1.terms.ext X2.out) ht
              subst eaot
              obtain ⟨kt, st, ⟨⟩⟩ := t
              simp only at f0 f1
              have HT := Lib.hid ht
              clear ht
              by_cases hkt : kt = 1
              · have m1 : (kt == 1) = true := by simp [hkt]
                have HKT := Lib.hid hkt
                subst hkt
                go_wp2
                go_still_tail 14, (by kernel_rfl)
                go_wp2_with fail
                refine (HBound.out _ _ X2.out.drew).mono ?_
                rintro e w1 ⟨x, rfl, hk1, rfl⟩
                have X3 := Lib.hid (hex2.out.drew.trans hk1)
                clear hk1 f0 f1 r0 r1 r2
                by_cases hh : boundIn ls inn st
                · rw [decide_eq_true hh]
                  have HH := Lib.hid hh; clear hh
                  go_wp2
                  go_roundw
                  case rel => exact ⟨c + 1, by omega, by first | rfl | (congr 1; done) | (congr 1; omega), allAt_succ (fun t ht _ => by rw [HT.out] at ht; cases ht; exact HH.out) hall2.out, X3⟩
                  case measure => simp [intOf]; omega
                · rw [decide_eq_false hh]
                  have HH := Lib.hid hh; clear hh
                  go_wp2
                  go_ret
                  refine RetN.mk (HX.out.trans X3.out) (congrArg Value.bool (decide_eq_false fun hs => HH.out ?_).symm)
                  exact hs i l HL.out.1 HBI.out (fun e => HKN.out (HL.out.2.2.1.trans e)) st (by rw [HTS.out]; exact mem_varsT.2 ⟨c, _, HT.out, rfl, rfl⟩)
              · have m1 : (kt == 1) = false := by simp [hkt]
                have HKT := Lib.hid hkt
                clear hkt
                go_wp2
                go_quiet (fail)
                go_wp2
                go_roundw
                case rel => exact ⟨c + 1, by omega, by first | rfl | (congr 1; done) | (congr 1; omega), allAt_succ (fun t ht h1 => by rw [HT.out] at ht; cases ht; exact absurd h1 HKT.out) hall2.out, hex2.out.drewN _⟩
                case measure => simp [intOf]; omega
            · have HA := Lib.hid hall2.out
              have hcm : ¬ (c : Int) < (mm : Int) := by omega
              clear hall2
              go_wp2
              go_roundw
              case rel =>
                refine ⟨i + 1, by omega, by first | rfl | (congr 1; done) | (congr 1; omega), allAt_succ ?_ hall.out, hex2⟩
                intro l' q1 q2 q3 v hv
                rw [HL.out.1] at q1; cases q1
                rw [HTS.out] at hv
                obtain ⟨j, t, ht, t1, rfl⟩ := mem_varsT.1 hv
                exact HA.out j (by have := (List.getElem?_eq_some_iff.1 ht).1; have := HL.out.2.1; omega) t ht t1
              case measure => simp [intOf]; omega
        · have n2 : (k == 2) = false := by simp [h2]
          have hts : asks l = [(lk, lt, ()), (rk, rt, ())] := by unfold asks; rw [if_neg (fun e => h2 (HL.out.2.2.1.trans e)), HL.out.2.2.2.2.1, HL.out.2.2.2.2.2]
          have HTS := Lib.hid hts
          have H2 := Lib.hid h2
          clear h2 hts
          obtain ⟨wy, ewy⟩ : ∃ wy, wr.alloc (.cells #[.int .i64 k, .string s1, .slice a2 mm cap2, .int .i64 o, .int .i64 lk, .string lt, .int .i64 rk, .string rt] 70) = wy := ⟨_, rfl⟩
          have hy : Ext wr wy := by rw [← ewy]; exact (Kp.refl wr).alloc _
          have hsz : wy.heap.size = wr.heap.size + 1 := by rw [← ewy, alloc_size]
          have htw := terms_two wy lk lt rk rt HK1.out.1.1 HK1.out.2.1 HK1.out.1.2 HK1.out.2.2 68
          have HTW := Lib.hid (And.intro htw (And.intro hy (And.intro hsz ewy)))
          clear htw hy hsz ewy
          go_wp2
          rw [HTW.out.2.2.2]
          clear c0 c1 c2 c3 c4 c5 c6 c7 d0 d1 b2
          obtain ⟨g2, eg2⟩ : ∃ g2, g2 = wr.heap.size + 1 := ⟨_, rfl⟩
          rw [← eg2]
          have HT2 := Lib.hid (show TermsAt (wy.alloc (.cells #[.int .i64 lk, .string lt, .int .i64 rk, .string rt] 68)) (fun _ => True) (some ⟨g2, 0, none⟩) [(lk, lt, ()), (rk, rt, ())] by
            have h := HTW.out.1; rw [HTW.out.2.2.1, ← eg2] at h; exact h)
          have HX2 := Lib.hid (show Ext wb (wy.alloc (.cells #[.int .i64 lk, .string lt, .int .i64 rk, .string rt] 68)) from (hex.out.trans HTW.out.2.1).alloc _)
          clear eg2
          generalize wy.alloc (.cells #[.int .i64 lk, .string lt, .int .i64 rk, .string rt] 68) = wz at *
          go_loopw [8] (fun iv wr => AllAt wz (termBound ls inn [(lk, lt, ()), (rk, rt, ())]) 2 iv wr) (fun iv _ => 2 - (intOf iv).toNat)
          case atStart => exact ⟨0, Nat.zero_le _, rfl, fun j hj => by omega, Kp.refl _⟩
          case round =>
            obtain ⟨c, hc, rfl, hall2, hex2⟩ := hrel
            have X2 := Lib.hid (HX.out.trans (HX2.out.trans hex2.out))
            have r0 : wr.cell? ⟨w.heap.size, 0, none⟩ = some (.string p) := by rw [(HB.out.ext (HX2.out.trans hex2.out)).cell']; rfl
            have r1 : wr.cell? ⟨w.heap.size, 1, none⟩ = some (.slice ha hn hcap) := by rw [(HB.out.ext (HX2.out.trans hex2.out)).cell']; rfl
            have r2 : wr.cell? ⟨w.heap.size, 2, none⟩ = some (.slice (some ⟨b, off, none⟩) n bcap) := by rw [(HB.out.ext (HX2.out.trans hex2.out)).cell']; rfl
            by_cases hlt2 : c < 2
            · obtain ⟨t, ht⟩ : ∃ t, ([(lk, lt, ()), (rk, rt, ())] : List TermZ)[c]? = some t := ⟨_, List.getElem?_eq_getElem (by simpa using hlt2)⟩
              obtain ⟨bt, offt, eaot, f0, f1, _⟩ := term_at (HT2.out.ext hex2.out) ht
              cases eaot
              obtain ⟨kt, st, ⟨⟩⟩ := t
              simp only [Nat.zero_add] at f0 f1
              have HT := Lib.hid ht
              clear ht
              by_cases hkt : kt = 1
              · have m1 : (kt == 1) = true := by simp [hkt]
                have HKT := Lib.hid hkt
                subst hkt
                go_wp2
                go_still_tail 14, (by kernel_rfl)
                go_wp2_with fail
                refine (HBound.out _ _ X2.out.drew).mono ?_
                rintro e w1 ⟨x, rfl, hk1, rfl⟩
                have X3 := Lib.hid (hex2.out.drew.trans hk1)
                clear hk1 f0 f1 r0 r1 r2
                by_cases hh : boundIn ls inn st
                · rw [decide_eq_true hh]
                  have HH := Lib.hid hh; clear hh
                  go_wp2
                  go_roundw
                  case rel => exact ⟨c + 1, by omega, by first | rfl | (congr 1; done) | (congr 1; omega), allAt_succ (fun t ht _ => by rw [HT.out] at ht; cases ht; exact HH.out) hall2.out, X3⟩
                  case measure => simp [intOf]; omega
                · rw [decide_eq_false hh]
                  have HH := Lib.hid hh; clear hh
                  go_wp2
                  go_ret
                  refine RetN.mk (HX.out.trans (HX2.out.trans X3.out)) (congrArg Value.bool (decide_eq_false fun hs => HH.out ?_).symm)
                  exact hs i l HL.out.1 HBI.out (fun e => HKN.out (HL.out.2.2.1.trans e)) st (by rw [HTS.out]; exact mem_varsT.2 ⟨c, _, HT.out, rfl, rfl⟩)
              · have m1 : (kt == 1) = false := by simp [hkt]
                have HKT := Lib.hid hkt
                clear hkt
                go_wp2
                go_quiet (fail)
                go_wp2
                go_roundw
                case rel => exact ⟨c + 1, by omega, by first | rfl | (congr 1; done) | (congr 1; omega), allAt_succ (fun t ht h1 => by rw [HT.out] at ht; cases ht; exact absurd h1 HKT.out) hall2.out, hex2.out.drewN _⟩
                case measure => simp [intOf]; omega
            · have HA := Lib.hid hall2.out
              have hcm : ¬ (c : Int) < 2 := by omega
              clear hall2
              go_wp2
              go_roundw
              case rel =>
                refine ⟨i + 1, by omega, by first | rfl | (congr 1; done) | (congr 1; omega), allAt_succ ?_ hall.out, HX2.out.trans hex2.out⟩
                intro l' q1 q2 q3 v hv
                rw [HL.out.1] at q1; cases q1
                rw [HTS.out] at hv
                obtain ⟨j, t, ht, t1, rfl⟩ := mem_varsT.1 hv
                exact HA.out j (by have := (List.getElem?_eq_some_iff.1 ht).1; simp at this; omega) t ht t1
              case measure => simp [intOf]; omega
      · have hat : standsAt ls inn i := by
          intro l' q1 q2 q3 v hv
          rw [HL.out.1] at q1; cases q1
          rw [HBI.out] at q2
          exact absurd ⟨by simpa using q2, fun e => q3 (HL.out.2.2.1.symm.trans e)⟩ hgo
        have HAt := Lib.hid hat
        clear hat
        cases bi
        · clear hgo
          go_wp2
          go_roundw
          case rel => exact ⟨i + 1, by omega, by first | rfl | (congr 1; done) | (congr 1; omega), allAt_succ HAt.out hall.out, hex.out.alloc _⟩
          case measure => simp [intOf]; omega
        · obtain rfl : k = 1 := Decidable.byContradiction fun e => hgo ⟨rfl, e⟩
          clear hgo
          go_wp2
          go_roundw
          case rel => exact ⟨i + 1, by omega, by first | rfl | (congr 1; done) | (congr 1; omega), allAt_succ HAt.out hall.out, hex.out.alloc _⟩
          case measure => simp [intOf]; omega
    · have ha : stands ls inn := stands_iff.2 fun j l q1 => hall.out j (by have := (List.getElem?_eq_some_iff.1 q1).1; have := HN.out; omega) l q1
      have HA := Lib.hid ha
      clear ha hall
      go_wp2
      go_ret
      exact RetN.mk (HX.out.trans hex.out) (congrArg Value.bool (decide_eq_true HA.out).symm)
end Go.Proofs.Ytcphalpcdcddpaa

/- The document's answer for costs: shared. -/
namespace Go.Proofs.Ytcphalpcdcddpaa
open Go.RowKit
set_option linter.unusedVariables false
attribute [local go_sem] run_store_float

theorem elem_flt : ElemT Try.prog 54 37 1 8 (.float .f64 0) := ⟨by kernel_rfl, by kernel_rfl, rfl, by decide⟩
theorem flts_snoc (xs : List Nat) (d : Nat) : flts xs ++ [.float .f64 d] = flts (xs ++ [d]) := by simp [flts]
theorem div_run {s d : Nat} (hs : s ≤ infW) (hd : oneW ≤ d) (hd' : d < infW) (t : TypeId) (W : World) : (binOp .quo t (.float .f64 s) (.float .f64 d)).run Try.prog W = .ok (.float .f64 (fdiv s d)) W :=
  run_float_arith W .quo t .f64 s d _ (fdiv_eq hs (Nat.lt_of_lt_of_le (by decide) hd) hd')
theorem mul_run {s d : Nat} (hs : s ≤ infW) (hd : 0 < d) (hd' : d < infW) (t : TypeId) (W : World) : (binOp .mul t (.float .f64 s) (.float .f64 d)).run Try.prog W = .ok (.float .f64 (fmul s d)) W :=
  run_float_arith W .mul t .f64 s d _ (fmul_eq hs hd hd')
theorem add_run {s d : Nat} (hs : s ≤ infW) (hd : d ≤ infW) (t : TypeId) (W : World) : (binOp .add t (.float .f64 s) (.float .f64 d)).run Try.prog W = .ok (.float .f64 (fadd s d)) W :=
  run_float_arith W .add t .f64 s d _ (fadd_eq hs hd)
theorem lt_order {x y : Nat} (hx : x ≤ infW) (hy : y ≤ infW) : ((FloatKind.format .f64).order x y == some .lt) = decide (x < y) := by
  show (Ieee.double.order x y == some .lt) = _
  rw [order_pos hx hy]
  rcases Nat.lt_trichotomy x y with h | h | h
  · rw [Nat.compare_eq_lt.2 h, decide_eq_true h]; rfl
  · subst h; rw [Nat.compare_eq_eq.2 rfl, decide_eq_false (Nat.lt_irrefl _)]; rfl
  · rw [Nat.compare_eq_gt.2 h, decide_eq_false (by omega)]; rfl

def SpotTo (w0 : World) (S : List StatZ) (ps : Pairs) (v : ByteArray) (n : Nat) (iv lv : Value) (w : World) : Prop := ∃ i : Nat, i ≤ n ∧ iv = .int .i64 i ∧ Hid (Row w 37 1 lv (spotsIn S (ps.take i) v).length (flts (spotsIn S (ps.take i) v)) (New w0)) ∧ Hid (Ext w0 w)
def SpotIn (w0 : World) (S : List StatZ) (A : List Nat) (p : LitZ × Bool) (v : ByteArray) (n : Nat) (iv lv : Value) (w : World) : Prop := ∃ i : Nat, i ≤ n ∧ iv = .int .i64 i ∧ Hid (Row w 37 1 lv (A ++ spotsPart S v p i).length (flts (A ++ spotsPart S v p i)) (New w0)) ∧ Hid (Ext w0 w)
def LeastTo (w0 : World) (L : List Nat) (n : Nat) (iv kv : Value) (w : World) : Prop := ∃ i k : Nat, i ≤ n ∧ iv = .int .i64 i ∧ kv = .int .i64 k ∧ Hid (k = leastTo L i) ∧ Hid (Ext w0 w)
def DivTo (w0 : World) (k : Nat) (L : List Nat) (s : Nat) (n : Nat) (iv sv : Value) (w : World) : Prop := ∃ i x : Nat, i ≤ n ∧ iv = .int .i64 i ∧ sv = .float .f64 x ∧ Hid (x = divAll k L s i) ∧ Hid (Ext w0 w)
theorem spots_room {S : List StatZ} {v : ByteArray} {ls : List LitZ} {inn : List Bool} (hf : Fit ls) (i : Nat) : (spotsIn S ((ls.zip inn).take i) v).length ≤ 1099511627776 := by
  have h := spotsIn_len S v 1048576 ((ls.zip inn).take i) fun q hq => hf.terms q.1 (List.of_mem_zip (List.mem_of_mem_take hq)).1
  have h2 : ((ls.zip inn).take i).length ≤ ls.length := by rw [List.length_take, List.length_zip]; omega
  have h3 := hf.len
  have h4 := Nat.mul_le_mul_right 1048576 (Nat.le_trans h2 h3)
  omega

set_option maxRecDepth 100000 in
set_option maxHeartbeats 8000000 in
theorem shared_any (p : ByteArray) (ls : List LitZ) (ha : Option Addr) (hn hcap : Nat) (ba : Option Addr) (n bcap : Nat) (inn : List Bool) (ia : Option Addr) (icap : Nat) (S : List StatZ) (sa : Option Addr) (sn scap : Nat) (v : ByteArray) (s : Nat) (w : World) (G : Nat → Prop) (hbn : n = ls.length) (h : LitsAt w G ba ls) (hf : Fit ls) (hin : inn.length = n) (hI : CellsAt w ia (bools inn))
    (hsn : sn = S.length) (hS : StatsAt w sa S) (hSf : StatsFit S) (K : Known S ls) (hs : s ≤ infW) :
    Calls Try.prog 67 #[ruleV p ha hn hcap ba n bcap, .slice ia n icap, .slice sa sn scap, .string v, .float .f64 s] w (RetN w fun w' x => x = .float .f64 (sharedW (spotsIn S (ls.zip inn) v) s)) := by
  have HN := Lib.hid hbn; have HE := Lib.hid h; have HF := Lib.hid hf; have hl : n ≤ 1048576 := by have := hf.len; omega
  have HI := Lib.hid (And.intro hin hI)
  have HSN := Lib.hid hsn; have HSE := Lib.hid hS; have HSF := Lib.hid hSf; have hsl : sn ≤ 1048576 := by have := hSf.len; omega
  have HKn := Lib.hid K
  have HSI := Lib.hid hs
  have HIs := Lib.hid (fun k s W => is_any k s v W)
  have hroom := fun i => spots_room (S := S) (v := v) (inn := inn) hf i
  have HRoom := Lib.hid hroom
  clear hbn h hf hin hI hsn hS hSf K hs hroom
  go_enter Try.func67, Try.ntmps67
  go_wp2
  obtain ⟨wb, eb⟩ : ∃ wb, w.alloc (.cells #[.string p, .slice ha hn hcap, .slice ba n bcap] 27) = wb := ⟨_, rfl⟩
  rw [eb]
  have HB := Lib.hid (Blk.new w [.string p, .slice ha hn hcap, .slice ba n bcap] 27)
  have HX := Lib.hid ((Kp.refl (F := fun _ => False) w).alloc (.cells #[.string p, .slice ha hn hcap, .slice ba n bcap] 27))
  have eb2 : w.alloc (.cells [Value.string p, .slice ha hn hcap, .slice ba n bcap].toArray 27) = wb := eb
  rw [eb2] at HB
  rw [eb] at HX
  clear eb eb2
  go_loopw [12, 11] (fun iv lv wr => SpotTo wb S (ls.zip inn) v n iv lv wr) (fun iv _ _ => n - (intOf iv).toNat)
  case atStart => exact ⟨0, Nat.zero_le _, rfl, Row.nil _ _ _ _, Kp.refl _⟩
  case round =>
    obtain ⟨i, hi, rfl, hrow, hex⟩ := hrel
    have b2 : wr.cell? ⟨w.heap.size, 2, none⟩ = some (.slice ba n bcap) := by rw [(HB.out.ext hex.out).cell']; rfl
    by_cases hlt : i < n
    · obtain ⟨bi, ebi⟩ : ∃ bi, inn[i]? = some bi := ⟨_, List.getElem?_eq_getElem (by have := HI.out.1; omega)⟩
      have XR := Lib.hid (HX.out.trans hex.out)
      have hltl : i < ls.length := by rw [← HN.out]; exact hlt
      obtain ⟨l, hli⟩ : ∃ l, ls[i]? = some l := ⟨_, List.getElem?_eq_getElem hltl⟩
      obtain ⟨b, off, a2, cap2, eao, hG, hb, hL, c0, c1, c2, c3, c4, c5, c6, c7⟩ := lit_at HE.out hli
      subst eao
      replace c0 := XR.out.cell c0 id
      replace c1 := XR.out.cell c1 id
      replace c2 := XR.out.cell c2 id
      replace c3 := XR.out.cell c3 id
      replace c4 := XR.out.cell c4 id
      replace c5 := XR.out.cell c5 id
      replace c6 := XR.out.cell c6 id
      replace c7 := XR.out.cell c7 id
      obtain ⟨mm, emm⟩ : ∃ mm, mm = (termsOf l).length := ⟨_, rfl⟩
      rw [← emm] at c2
      have hmm : mm ≤ 1048576 := by rw [emm]; exact HF.out.terms l (List.mem_of_getElem? hli)
      obtain ⟨k, ek⟩ : ∃ k, k = l.1 := ⟨_, rfl⟩
      rw [← ek] at c0
      clear hltl hG hb
      have HL := Lib.hid (And.intro hli (And.intro emm ek))
      have HBI := Lib.hid ebi
      have HZ := Lib.hid (zip_at hli ebi)
      clear hli emm ek hL ebi c0 c1 c2 c3 c4 c5 c6 c7
      have hroom1 := HRoom.out i
      have HR0 := Lib.hid (show Row wr 37 1 u11 (spotsIn S ((ls.zip inn).take i) v ++ spotsPart S v (l, bi) 0).length (flts (spotsIn S ((ls.zip inn).take i) v ++ spotsPart S v (l, bi) 0)) (New wb) by rw [spotsPart_zero, List.append_nil]; exact hrow.out)
      generalize hA : spotsIn S ((ls.zip inn).take i) v = A at HR0 hroom1
      have HA := Lib.hid hA; clear hA hrow
      go_wp2
      clear b2
      go_loopw [13, 11] (fun iv lv wr => SpotIn wb S A (l, bi) v mm iv lv wr) (fun iv _ _ => mm - (intOf iv).toNat)
      case atStart => exact ⟨0, Nat.zero_le _, rfl, HR0.out, hex⟩
      case round =>
        obtain ⟨c, hc, rfl, hrow2, hex2⟩ := hrel
        have b2 : wr.cell? ⟨w.heap.size, 2, none⟩ = some (.slice (some ⟨b, off, none⟩) n bcap) := by rw [(HB.out.ext hex2.out).cell']; rfl
        have X2 := Lib.hid (HX.out.trans hex2.out)
        obtain ⟨ib, ioff, eia, d0⟩ := (HI.out.2.ext X2.out).bool HBI.out
        subst eia
        obtain ⟨_, _, _, _, e0, _, _, _, c0, _, c2, _⟩ := lit_at HE.out HL.out.1
        cases e0
        replace c0 := X2.out.cell c0 id
        rw [← HL.out.2.2] at c0
        cases bi
        · have HEnd := Lib.hid (spotsPart_off S v (p := (l, false)) (c := c) (fun e => by cases e.1))
          go_wp2
          go_roundw
          case rel =>
            refine ⟨i + 1, by omega, by first | rfl | (congr 1; done) | (congr 1; omega), ?_, hex2⟩
            rw [spotsIn_take S v HZ.out, HA.out, ← HEnd.out]; exact hrow2.out
          case measure => simp [intOf]; omega
        · by_cases h1 : k = 1
          · by_cases hlt2 : c < mm
            · obtain ⟨t, ht⟩ : ∃ t, (termsOf l)[c]? = some t := ⟨_, List.getElem?_eq_getElem (by rw [← HL.out.2.1]; exact hlt2)⟩
              obtain ⟨_, _, a3, cap3, e0, _, _, hL3, _, _, c2', _⟩ := lit_at HE.out HL.out.1
              cases e0
              replace c2 := X2.out.cell c2' id
              rw [← HL.out.2.1] at c2
              obtain ⟨bt, offt, eaot, f0, f1, _⟩ := term_at (hL3.terms.ext X2.out) ht
              subst eaot
              obtain ⟨kt, st, ⟨⟩⟩ := t
              simp only at f0 f1
              have HT := Lib.hid (And.intro ht (show l.1 = 1 from HL.out.2.2.symm.trans h1))
              have HSuc := Lib.hid (spotsPart_succ S v HT.out.2 ht)
              clear ht hL3 c2'
              subst h1
              go_wp2_with fail
              refine (HIs.out _ _ _).mono ?_
              rintro e w1 ⟨x, rfl, hk1, rfl⟩
              have X3 := Lib.hid (hex2.out.trans hk1)
              have XW := Lib.hid (HX.out.trans X3.out)
              have b2' : w1.cell? ⟨w.heap.size, 2, none⟩ = some (.slice (some ⟨b, off, none⟩) n bcap) := by rw [(HB.out.ext X3.out).cell']; rfl
              have HR2 := Lib.hid (hrow2.out.ext hk1)
              clear hk1 c0 c2 f0 f1 d0 b2 hrow2
              by_cases hh : kt = 1 ∧ st = v
              · rw [decide_eq_true hh]
                have HS2 := Lib.hid (HSuc.out.trans (by rw [if_pos hh]))
                clear hh HSuc
                obtain ⟨_, _, a3, cap3, e0, _, _, hL3, c0, c1, c2, c3, c4, c5, c6, c7⟩ := lit_at HE.out HL.out.1
                cases e0
                replace c0 := XW.out.cell c0 id
                replace c1 := XW.out.cell c1 id
                replace c2 := XW.out.cell c2 id
                replace c3 := XW.out.cell c3 id
                replace c4 := XW.out.cell c4 id
                replace c5 := XW.out.cell c5 id
                replace c6 := XW.out.cell c6 id
                replace c7 := XW.out.cell c7 id
                obtain ⟨pl, epl⟩ : ∃ pl, predOf l = pl := ⟨_, rfl⟩
                rw [epl] at c1
                have EPL := Lib.hid epl
                clear epl
                generalize l.1 = s0 at c0
                generalize opOf l = s3 at c3
                generalize (leftOf l).1 = s4 at c4
                generalize (leftOf l).2.1 = s5 at c5
                generalize (rightOf l).1 = s6 at c6
                generalize (rightOf l).2.1 = s7 at c7
                rw [← HL.out.2.1] at c2
                clear hL3
                have HDi := Lib.hid (fun (W : World) (hW : Ext w W) k a m cap op lk lt rk rt => distinct_any l c k pl a m cap op lk lt rk rt S sa sn scap ls W EPL.out HSN.out (HSE.out.ext hW) hsl HSF.out.dist HKn.out (List.mem_of_getElem? HL.out.1) HT.out.2 (by rw [← HL.out.2.1]; exact hlt2))
                have hlen : (A ++ spotsPart S v (l, true) c).length ≤ 1099513724928 := by
                  rw [List.length_append]; have := spotsPart_len S v (l, true) c; omega
                obtain ⟨M, eM⟩ : ∃ M, A ++ spotsPart S v (l, true) c = M := ⟨_, rfl⟩
                rw [eM] at HR2 hlen
                have HM := Lib.hid eM
                clear eM
                have HLen := Lib.hid hlen
                clear hlen hroom1
                obtain ⟨aw, capw, elv, hcw, hlw⟩ := HR2.out.shape
                subst elv
                clear hcw hlw
                go_wp2_with fail
                refine (HDi.out _ XW.out _ _ _ _ _ _ _ _ _).mono ?_
                rintro e w2 ⟨x, rfl, hk2, rfl⟩
                have X4 := Lib.hid (X3.out.trans hk2)
                have HR3 := Lib.hid (HR2.out.ext hk2)
                clear hk2 c0 c1 c2 c3 c4 c5 c6 c7 b2'
                go_wp2_with (first | (at_builtin; refine Halted.out ?_))
                refine Halted.mk (wp_appN (m := 1) (n := M.length) elem_flt rfl _ _ rfl (X4.out.alloc _) rfl (HR3.out.alloc _) rfl (CellsAt.one _ _ _) (by rfl) (by simp [Value.oneCell']) (by have := HLen.out; omega) (by have := HLen.out; unfold maxLen; omega) ?_)
                intro v1 w3 hr1 hk1 hk2 _
                have HR5 := Lib.hid (And.intro hr1 hk1)
                clear hr1 hk1 hk2
                go_wp2
                go_roundw
                case rel =>
                  refine ⟨c + 1, by omega, by first | rfl | (congr 1; done) | (congr 1; omega), ?_, HR5.out.2⟩
                  have h := HR5.out.1
                  rw [HS2.out, ← List.append_assoc, HM.out, ← flts_snoc, List.length_append]
                  exact h
                case measure => simp [intOf]; omega
              · rw [decide_eq_false hh]
                have HS2 := Lib.hid (HSuc.out.trans (by rw [if_neg hh, List.append_nil]))
                clear hh HSuc
                go_wp2
                go_roundw
                case rel => exact ⟨c + 1, by omega, by first | rfl | (congr 1; done) | (congr 1; omega), by rw [HS2.out]; exact HR2.out, X3⟩
                case measure => simp [intOf]; omega
            · obtain ⟨_, _, a3, cap3, e0, _, _, hL3, _, _, c2', _⟩ := lit_at HE.out HL.out.1
              cases e0
              replace c2 := X2.out.cell c2' id
              rw [← HL.out.2.1] at c2
              subst h1
              have HEnd := Lib.hid (spotsPart_all S v (p := (l, true)) (c := c) (by have := HL.out.2.1; simp only; omega))
              clear hL3 c2'
              have hcm : ¬ (c : Int) < (mm : Int) := by omega
              go_wp2
              go_roundw
              case rel =>
                refine ⟨i + 1, by omega, by first | rfl | (congr 1; done) | (congr 1; omega), ?_, hex2⟩
                rw [spotsIn_take S v HZ.out, HA.out, ← HEnd.out]; exact hrow2.out
              case measure => simp [intOf]; omega
          · have n1 : (k == 1) = false := by simp [h1]
            have HEnd := Lib.hid (spotsPart_off S v (p := (l, true)) (c := c) (fun e => h1 (HL.out.2.2.trans e.2)))
            have HH := Lib.hid h1; clear h1
            go_wp2
            go_roundw
            case rel =>
              refine ⟨i + 1, by omega, by first | rfl | (congr 1; done) | (congr 1; omega), ?_, hex2⟩
              rw [spotsIn_take S v HZ.out, HA.out, ← HEnd.out]; exact hrow2.out
            case measure => simp [intOf]; omega
    · have eall : (ls.zip inn).take i = ls.zip inn := List.take_of_length_le (by rw [zip_len (by have := HI.out.1; have := HN.out; omega)]; have := HN.out; omega)
      have hrow3 := hrow.out
      have hr2 := HRoom.out i
      rw [eall] at hrow3 hr2
      have HOk := Lib.hid (spotsIn_ok S v (ls.zip inn))
      obtain ⟨L, eL⟩ : ∃ L, spotsIn S (ls.zip inn) v = L := ⟨_, rfl⟩
      rw [eL] at hrow3 hr2 HOk
      have EL := Lib.hid eL
      clear eL
      obtain ⟨m, em⟩ : ∃ m, m = L.length := ⟨_, rfl⟩
      rw [← em] at hrow3 hr2
      obtain ⟨ao, cap4, eov, hcells, hle⟩ := hrow3.shape
      subst eov
      have HC := Lib.hid (And.intro em hcells)
      have XR0 := Lib.hid (HX.out.trans hex.out)
      clear eall hrow hrow3 hcells hle em
      go_wp2
      clear b2
      generalize hw5 : wr = w5 at *
      clear hw5
      go_loopw [15, 14] (fun iv kv wx => LeastTo w5 L m iv kv wx) (fun iv _ _ => m - (intOf iv).toNat)
      case atStart => exact ⟨0, 0, Nat.zero_le _, rfl, rfl, rfl, Kp.refl _⟩
      case round =>
        obtain ⟨j, k, hj, rfl, rfl, hk, hex3⟩ := hrel
        by_cases hlt2 : j < m
        · have hkm : k < m := by
            rw [hk.out]
            by_cases h0 : j = 0
            · subst h0; exact Nat.lt_of_le_of_lt (Nat.le_of_eq (by rfl)) hlt2
            · have := leastTo_le L j (by omega); omega
          obtain ⟨g1, o1, eao, d1⟩ := (HC.out.2.ext hex3.out).flt (k := j) (by rw [← HC.out.1]; exact hlt2)
          obtain ⟨g2, o2, eao2, d2⟩ := (HC.out.2.ext hex3.out).flt (k := k) (by rw [← HC.out.1]; exact hkm)
          subst eao
          cases eao2
          have x1 := HOk.out _ (List.getElem_mem (by rw [← HC.out.1]; exact hlt2 : j < L.length))
          have x2 := HOk.out _ (List.getElem_mem (by rw [← HC.out.1]; exact hkm : k < L.length))
          have y1 : L.getD j 0 = L[j]'(by rw [← HC.out.1]; exact hlt2) := by rw [List.getD_eq_getElem?_getD, List.getElem?_eq_getElem (by rw [← HC.out.1]; exact hlt2)]; rfl
          have y2 : L.getD k 0 = L[k]'(by rw [← HC.out.1]; exact hkm) := by rw [List.getD_eq_getElem?_getD, List.getElem?_eq_getElem (by rw [← HC.out.1]; exact hkm)]; rfl
          rw [← y1] at x1 d1
          rw [← y2] at x2 d2
          have hor := lt_order (x := L.getD j 0) (y := L.getD k 0) (by omega) (by omega)
          have hst : leastTo L (j + 1) = if L.getD j 0 < L.getD k 0 then j else k := by rw [hk.out]; rfl
          generalize L.getD j 0 = z1 at *
          generalize L.getD k 0 = z2 at *
          have HSt := Lib.hid hst
          clear hst y1 y2 x1 x2
          by_cases hz : z1 < z2
          · rw [decide_eq_true hz] at hor
            have HS2 := Lib.hid (HSt.out.trans (if_pos hz))
            clear hz HSt
            go_wp2
            go_quiet (fail)
            go_wp2
            go_roundw
            case rel => exact ⟨j + 1, j, by omega, by first | rfl | (congr 1; done) | (congr 1; omega), by first | rfl | trivial, HS2.out.symm, hex3.out.drewN _⟩
            case measure => simp [intOf]; omega
          · rw [decide_eq_false hz] at hor
            have HS2 := Lib.hid (HSt.out.trans (if_neg hz))
            clear hz HSt
            go_wp2
            go_quiet (fail)
            go_wp2
            go_roundw
            case rel => exact ⟨j + 1, k, by omega, by first | rfl | (congr 1; done) | (congr 1; omega), by first | rfl | trivial, HS2.out.symm, hex3.out.drewN _⟩
            case measure => simp [intOf]; omega
        · have HK2 := Lib.hid (show k = leastI L by rw [hk.out]; unfold leastI; congr 1; have := HC.out.1; omega)
          clear hk
          go_wp2
          go_loopw [16, 4] (fun iv sv wx => DivTo w5 k L s m iv sv wx) (fun iv _ _ => m - (intOf iv).toNat)
          case atStart => exact ⟨0, s, Nat.zero_le _, rfl, rfl, rfl, hex3⟩
          case round =>
            obtain ⟨q, x, hq, rfl, rfl, hx, hex5⟩ := hrel
            by_cases hlt3 : q < m
            · have hsuc : divAll k L s (q + 1) = if q = k then x else fdiv x (L.getD q 0) := by rw [hx.out]; rfl
              by_cases hqk : q = k
              · rw [if_pos hqk] at hsuc
                have HS3 := Lib.hid hsuc
                have q1 : ((q : Int) != (k : Int)) = false := by simp [hqk]
                have q2 : ((q : Int) == (k : Int)) = true := by simp [hqk]
                have HQ := Lib.hid hqk
                clear hqk hsuc
                go_wp2
                go_roundw
                case rel => exact ⟨q + 1, x, by omega, by first | rfl | (congr 1; done) | (congr 1; omega), by first | rfl | trivial, HS3.out.symm, hex5⟩
                case measure => simp [intOf]; omega
              · rw [if_neg hqk] at hsuc
                have HS3 := Lib.hid hsuc
                have q1 : ((q : Int) != (k : Int)) = true := by simp; omega
                have q2 : ((q : Int) == (k : Int)) = false := by simp; omega
                have HQ := Lib.hid hqk
                obtain ⟨g1, o1, eao, d1⟩ := (HC.out.2.ext hex5.out).flt (k := q) (by rw [← HC.out.1]; exact hlt3)
                subst eao
                have x1 := HOk.out _ (List.getElem_mem (by rw [← HC.out.1]; exact hlt3 : q < L.length))
                have y1 : L.getD q 0 = L[q]'(by rw [← HC.out.1]; exact hlt3) := by rw [List.getD_eq_getElem?_getD, List.getElem?_eq_getElem (by rw [← HC.out.1]; exact hlt3)]; rfl
                have xle : x ≤ infW := by rw [hx.out]; exact divAll_le HOk.out k HSI.out q (by have := HC.out.1; omega)
                rw [← y1] at x1 d1
                generalize L.getD q 0 = z1 at *
                have hrun := fun t W => div_run xle x1.1 x1.2 t W
                clear y1 x1 xle hqk hsuc
                go_wp2
                go_roundw
                case rel => exact ⟨q + 1, _, by omega, by first | rfl | (congr 1; done) | (congr 1; omega), by first | rfl | trivial, HS3.out.symm, hex5⟩
                case measure => simp [intOf]; omega
            · have HS3 := Lib.hid (show x = sharedW L s by rw [hx.out, HK2.out]; unfold sharedW; congr 1; have := HC.out.1; omega)
              clear hx
              go_wp2
              go_ret
              exact RetN.mk (XR0.out.trans hex5.out) (congrArg (Value.float .f64) (by rw [HS3.out, EL.out]))
end Go.Proofs.Ytcphalpcdcddpaa

/- The document's answer for costs: the guess of a set. -/
namespace Go.Proofs.Ytcphalpcdcddpaa
open Go.RowKit
set_option linter.unusedVariables false
attribute [local go_sem] run_store_float

def FoldTo (w0 : World) (f : Nat → Nat) (n : Nat) (iv sv : Value) (w : World) : Prop := ∃ i x : Nat, i ≤ n ∧ iv = .int .i64 i ∧ sv = .float .f64 x ∧ Hid (x = f i) ∧ Hid (Ext w0 w)
theorem eq_zero_run {x : Nat} (h : finW x = true) {b : Bool} (hb : zeroW x = b) : ((FloatKind.format .f64).order x 0 == some .eq) = b := (eq_zero h).trans hb

set_option maxRecDepth 100000 in
set_option maxHeartbeats 20000000 in
theorem refGuess_any (p : ByteArray) (hs : List TermZ) (ls : List LitZ) (ha : Option Addr) (hn hcap : Nat) (ba : Option Addr) (n bcap : Nat) (inn : List Bool) (ia : Option Addr) (icap : Nat) (S : List StatZ) (sa : Option Addr) (sn scap : Nat) (w : World) (G : Nat → Prop) (hhn : hn = hs.length) (hh : TermsAt w G ha hs) (hhl : hn ≤ 1048576) (hbn : n = ls.length) (h : LitsAt w G ba ls) (hf : Fit ls) (hin : inn.length = n) (hI : CellsAt w ia (bools inn))
    (hsn : sn = S.length) (hS : StatsAt w sa S) (hSf : StatsFit S) (K : Known S ls) (hck : checkR ((p, hs, ()), ls, ()) = 0) :
    Calls Try.prog 36 #[ruleV p ha hn hcap ba n bcap, .slice ia n icap, .slice sa sn scap] w (RetN w fun w' x => x = .float .f64 (guessW S ls inn)) := by
  have HN := Lib.hid hbn; have HE := Lib.hid h; have HF := Lib.hid hf; have hl : n ≤ 1048576 := by have := hf.len; omega
  have HI := Lib.hid (And.intro hin hI)
  have HSN := Lib.hid hsn; have HSE := Lib.hid hS; have HSF := Lib.hid hSf; have hsl : sn ≤ 1048576 := by have := hSf.len; omega
  have HKn := Lib.hid K
  have HRows := Lib.hid (fun (l : LitZ) (W : World) (hW : Ext w W) k p (hp : predOf l = p) a m cap op lk lt rk rt => rows_any l k p a m cap op lk lt rk rt S sa sn scap W hp hsn (hS.ext hW) hsl)
  obtain ⟨m, em⟩ : ∃ m, m = (namesB ls).length := ⟨_, rfl⟩
  have hv0 := fun (W : World) (hW : Ext w W) => refVars_any p hs ls ha hn hcap ba n bcap W G hhn (hh.ext hW) hhl hbn (h.ext hW) hf hck
  rw [← em] at hv0
  have HVars := Lib.hid hv0
  have hm1 : m ≤ 1099511627776 := by
    have h1 := namesB_len hf.terms
    have h2 := hf.len
    have h3 := Nat.mul_le_mul_right 1048576 h2
    omega
  have EM := Lib.hid em
  have HSh := Lib.hid (fun (v : ByteArray) (s : Nat) (hs : s ≤ infW) (W : World) (hW : Ext w W) => shared_any p ls ha hn hcap ba n bcap inn ia icap S sa sn scap v s W G hbn (h.ext hW) hf hin (hI.ext hW) hsn (hS.ext hW) hSf K hs)
  have HPL := Lib.hid (show (ls.zip inn).length = n by rw [zip_len (by omega)]; omega)
  clear hbn h hf hin hI hsn hS hSf K hhn hh hck hv0 em
  go_enter Try.func36, Try.ntmps36
  go_wp2
  obtain ⟨wb, eb⟩ : ∃ wb, w.alloc (.cells #[.string p, .slice ha hn hcap, .slice ba n bcap] 27) = wb := ⟨_, rfl⟩
  rw [eb]
  have HB := Lib.hid (Blk.new w [.string p, .slice ha hn hcap, .slice ba n bcap] 27)
  have HX := Lib.hid ((Kp.refl (F := fun _ => False) w).alloc (.cells #[.string p, .slice ha hn hcap, .slice ba n bcap] 27))
  have eb2 : w.alloc (.cells [Value.string p, .slice ha hn hcap, .slice ba n bcap].toArray 27) = wb := eb
  rw [eb2] at HB
  rw [eb] at HX
  clear eb eb2
  go_loopw [8] (fun iv wr => NoneTo wb (fun j => ∃ l : LitZ, (ls.zip inn)[j]? = some (l, true) ∧ l.1 = 1 ∧ zeroW (rowsW S l) = true) n iv wr) (fun iv _ => n - (intOf iv).toNat)
  case atStart => exact ⟨0, Nat.zero_le _, rfl, fun j hj => by omega, Kp.refl _⟩
  case round =>
    obtain ⟨i, hi, rfl, hno, hex⟩ := hrel
    have b2 : wr.cell? ⟨w.heap.size, 2, none⟩ = some (.slice ba n bcap) := by rw [(HB.out.ext hex.out).cell']; rfl
    have XR := Lib.hid (HX.out.trans hex.out)
    by_cases hlt : i < n
    · obtain ⟨bi, ebi⟩ : ∃ bi, inn[i]? = some bi := ⟨_, List.getElem?_eq_getElem (by have := HI.out.1; omega)⟩
      obtain ⟨ib, ioff, eia, d0⟩ := (HI.out.2.ext XR.out).bool ebi
      subst eia
      have hltl : i < ls.length := by rw [← HN.out]; exact hlt
      obtain ⟨l, hli⟩ : ∃ l, ls[i]? = some l := ⟨_, List.getElem?_eq_getElem hltl⟩
      obtain ⟨b, off, a2, cap2, eao, hG, hb, hL, c0, c1, c2, c3, c4, c5, c6, c7⟩ := lit_at HE.out hli
      subst eao
      replace c0 := XR.out.cell c0 id
      replace c1 := XR.out.cell c1 id
      replace c2 := XR.out.cell c2 id
      replace c3 := XR.out.cell c3 id
      replace c4 := XR.out.cell c4 id
      replace c5 := XR.out.cell c5 id
      replace c6 := XR.out.cell c6 id
      replace c7 := XR.out.cell c7 id
      obtain ⟨mm, emm⟩ : ∃ mm, mm = (termsOf l).length := ⟨_, rfl⟩
      rw [← emm] at c2
      have hmm : mm ≤ 1048576 := by rw [emm]; exact HF.out.terms l (List.mem_of_getElem? hli)
      obtain ⟨k, ek⟩ : ∃ k, k = l.1 := ⟨_, rfl⟩
      rw [← ek] at c0
      clear hltl hG hb
      obtain ⟨pl, epl⟩ : ∃ pl, predOf l = pl := ⟨_, rfl⟩
      rw [epl] at c1
      have EPL := Lib.hid epl
      clear epl
      generalize opOf l = s3 at c3
      generalize (leftOf l).1 = s4 at c4
      generalize (leftOf l).2.1 = s5 at c5
      generalize (rightOf l).1 = s6 at c6
      generalize (rightOf l).2.1 = s7 at c7
      have HL := Lib.hid (And.intro hli (And.intro emm ek))
      have HZ := Lib.hid (zip_at hli ebi)
      have HBI := Lib.hid ebi
      clear hli emm ek hL ebi
      cases bi
      · go_wp2
        go_roundw
        case rel => exact ⟨i + 1, by omega, by first | rfl | (congr 1; done) | (congr 1; omega), none_succ (fun ⟨l', q, _⟩ => by rw [HZ.out] at q; cases q) hno.out, hex⟩
        case measure => simp [intOf]; omega
      · by_cases h1 : k = 1
        · have H1 := Lib.hid (show l.1 = 1 from HL.out.2.2.symm.trans h1)
          have HRw := Lib.hid (fun k => HRows.out l wr XR.out k pl EPL.out)
          have hfin := HKn.out.rowsFin l
          obtain ⟨x, ex⟩ : ∃ x, x = rowsW S l := ⟨_, rfl⟩
          rw [← ex] at HRw hfin
          have EX := Lib.hid ex
          subst h1
          cases hz : zeroW x
          · have hq := eq_zero_run hfin hz
            have HZZ := Lib.hid hz
            clear hfin hz ex
            go_wp2_with fail
            refine (HRw.out _ _ _ _ _ _ _ _ _).mono ?_
            rintro e w1 ⟨_, rfl, hk1, rfl⟩
            have X1 := Lib.hid (hex.out.trans hk1)
            clear hk1 c0 c1 c2 c3 c4 c5 c6 c7 b2 d0
            go_wp2
            go_roundw
            case rel =>
              refine ⟨i + 1, by omega, by first | rfl | (congr 1; done) | (congr 1; omega), none_succ ?_ hno.out, X1⟩
              rintro ⟨l', q, _, r⟩
              rw [HZ.out] at q; cases q
              rw [← EX.out, HZZ.out] at r; cases r
            case measure => simp [intOf]; omega
          · have hq := eq_zero_run hfin hz
            have HZZ := Lib.hid hz
            clear hfin hz ex
            go_wp2_with fail
            refine (HRw.out _ _ _ _ _ _ _ _ _).mono ?_
            rintro e w1 ⟨_, rfl, hk1, rfl⟩
            have X1 := Lib.hid (hex.out.trans hk1)
            clear hk1 c0 c1 c2 c3 c4 c5 c6 c7 b2 d0
            go_wp2
            go_ret
            exact RetN.mk (HX.out.trans X1.out) (congrArg (Value.float .f64) (guessW_zero HZ.out H1.out (by rw [← EX.out]; exact HZZ.out)).symm)
        · have n1 : (k == 1) = false := by simp [h1]
          have HH := Lib.hid h1; clear h1
          go_wp2
          go_roundw
          case rel => exact ⟨i + 1, by omega, by first | rfl | (congr 1; done) | (congr 1; omega), none_succ (fun ⟨l', q, r, _⟩ => by rw [HZ.out] at q; cases q; exact HH.out (HL.out.2.2.trans r)) hno.out, hex⟩
          case measure => simp [intOf]; omega
    · have hz0 : zeroIn S (ls.zip inn) = false := zeroIn_no (n := i) (by have := HPL.out; omega) hno.out
      have HZ0 := Lib.hid hz0
      have HRok := Lib.hid (rowsOk_of HKn.out hz0)
      clear hz0 hno
      go_wp2
      clear b2
      go_loopw [9, 7] (fun iv sv wr => FoldTo wb (mulTo S (ls.zip inn)) n iv sv wr) (fun iv _ _ => n - (intOf iv).toNat)
      case atStart => exact ⟨0, _, Nat.zero_le _, rfl, rfl, rfl, hex⟩
      case round =>
        obtain ⟨i, x, hi, rfl, rfl, hx, hex⟩ := hrel
        have b2 : wr.cell? ⟨w.heap.size, 2, none⟩ = some (.slice ba n bcap) := by rw [(HB.out.ext hex.out).cell']; rfl
        have XR := Lib.hid (HX.out.trans hex.out)
        by_cases hlt : i < n
        · obtain ⟨bi, ebi⟩ : ∃ bi, inn[i]? = some bi := ⟨_, List.getElem?_eq_getElem (by have := HI.out.1; omega)⟩
          obtain ⟨ib, ioff, eia, d0⟩ := (HI.out.2.ext XR.out).bool ebi
          subst eia
          have hltl : i < ls.length := by rw [← HN.out]; exact hlt
          obtain ⟨l, hli⟩ : ∃ l, ls[i]? = some l := ⟨_, List.getElem?_eq_getElem hltl⟩
          obtain ⟨b, off, a2, cap2, eao, hG, hb, hL, c0, c1, c2, c3, c4, c5, c6, c7⟩ := lit_at HE.out hli
          subst eao
          replace c0 := XR.out.cell c0 id
          replace c1 := XR.out.cell c1 id
          replace c2 := XR.out.cell c2 id
          replace c3 := XR.out.cell c3 id
          replace c4 := XR.out.cell c4 id
          replace c5 := XR.out.cell c5 id
          replace c6 := XR.out.cell c6 id
          replace c7 := XR.out.cell c7 id
          obtain ⟨mm, emm⟩ : ∃ mm, mm = (termsOf l).length := ⟨_, rfl⟩
          rw [← emm] at c2
          have hmm : mm ≤ 1048576 := by rw [emm]; exact HF.out.terms l (List.mem_of_getElem? hli)
          obtain ⟨k, ek⟩ : ∃ k, k = l.1 := ⟨_, rfl⟩
          rw [← ek] at c0
          clear hltl hG hb
          obtain ⟨pl, epl⟩ : ∃ pl, predOf l = pl := ⟨_, rfl⟩
          rw [epl] at c1
          have EPL := Lib.hid epl
          clear epl
          generalize opOf l = s3 at c3
          generalize (leftOf l).1 = s4 at c4
          generalize (leftOf l).2.1 = s5 at c5
          generalize (rightOf l).1 = s6 at c6
          generalize (rightOf l).2.1 = s7 at c7
          have HL := Lib.hid (And.intro hli (And.intro emm ek))
          have HZ := Lib.hid (zip_at hli ebi)
          have HBI := Lib.hid ebi
          clear hli emm ek hL ebi
          cases bi
          · go_wp2
            go_roundw
            case rel => exact ⟨i + 1, _, by omega, by first | rfl | (congr 1; done) | (congr 1; omega), by first | rfl | trivial, Lib.hid (by rw [mulTo_succ S HZ.out, mulRows_off (fun e => by cases e.1)]; exact hx.out), hex⟩
            case measure => simp [intOf]; omega
          · by_cases h1 : k = 1
            · have H1 := Lib.hid (show l.1 = 1 from HL.out.2.2.symm.trans h1)
              have HRw := Lib.hid (fun k => HRows.out l wr XR.out k pl EPL.out)
              have hpos := HRok.out _ (List.mem_of_getElem? HZ.out) rfl H1.out
              have hrun := fun t W => mul_run (s := x) (by rw [hx.out]; exact mulTo_le HRok.out i) hpos.1 hpos.2 t W
              obtain ⟨y, ey⟩ : ∃ y, y = rowsW S l := ⟨_, rfl⟩
              rw [← ey] at HRw hrun
              have EY := Lib.hid ey
              subst h1
              clear hpos ey
              go_wp2_with fail
              refine (HRw.out _ _ _ _ _ _ _ _ _).mono ?_
              rintro e w1 ⟨_, rfl, hk1, rfl⟩
              have X1 := Lib.hid (hex.out.trans hk1)
              clear hk1 c0 c1 c2 c3 c4 c5 c6 c7 b2 d0
              go_wp2
              go_roundw
              case rel => exact ⟨i + 1, _, by omega, by first | rfl | (congr 1; done) | (congr 1; omega), by first | rfl | trivial, Lib.hid (by rw [mulTo_succ S HZ.out, mulRows_on H1.out, ← hx.out, EY.out]), X1⟩
              case measure => simp [intOf]; omega
            · have n1 : (k == 1) = false := by simp [h1]
              have HH := Lib.hid h1; clear h1
              go_wp2
              go_roundw
              case rel => exact ⟨i + 1, _, by omega, by first | rfl | (congr 1; done) | (congr 1; omega), by first | rfl | trivial, Lib.hid (by rw [mulTo_succ S HZ.out, mulRows_off (fun e => HH.out (HL.out.2.2.trans e.2))]; exact hx.out), hex⟩
              case measure => simp [intOf]; omega
        · obtain rfl : i = n := by omega
          obtain ⟨X1, eX1⟩ : ∃ X1, X1 = mulTo S (ls.zip inn) i := ⟨_, rfl⟩
          have hX1 : X1 ≤ infW := by rw [eX1]; exact mulTo_le HRok.out i
          obtain rfl : x = X1 := by rw [hx.out, eX1]
          have EX1 := Lib.hid eX1
          have HLe1 := Lib.hid hX1
          have r0 : wr.cell? ⟨w.heap.size, 0, none⟩ = some (.string p) := by rw [(HB.out.ext hex.out).cell']; rfl
          have r1 : wr.cell? ⟨w.heap.size, 1, none⟩ = some (.slice ha hn hcap) := by rw [(HB.out.ext hex.out).cell']; rfl
          clear eX1 hx hX1
          go_wp2_with fail
          refine (HVars.out _ XR.out).mono ?_
          rintro e w2 ⟨_, rfl, hk2, ao, vcap, rfl, hvl, hcells⟩
          have X2 := Lib.hid (hex.out.trans hk2)
          have B2 := Lib.hid (HB.out.ext X2.out)
          have HC := Lib.hid hcells
          clear hk2 hcells b2 r0 r1
          go_wp2
          go_loopw [11, 7] (fun iv sv wr => FoldTo w2 (sharTo S (ls.zip inn) (namesB ls) x) m iv sv wr) (fun iv _ _ => m - (intOf iv).toNat)
          case atStart => exact ⟨0, _, Nat.zero_le _, rfl, rfl, rfl, Kp.refl _⟩
          case round =>
            obtain ⟨j, y, hj, rfl, rfl, hy, hexj⟩ := hrel
            have XJ := Lib.hid (HX.out.trans (X2.out.trans hexj.out))
            by_cases hlt : j < m
            · have hltv : j < (namesB ls).length := by rw [← EM.out]; exact hlt
              obtain ⟨vb, voff, eao, v0⟩ := (HC.out.ext hexj.out).str hltv
              subst eao
              have hvj : (namesB ls)[j]? = some (namesB ls)[j] := List.getElem?_eq_getElem hltv
              generalize (namesB ls)[j] = v at *
              have HV := Lib.hid hvj
              have r0 : wr.cell? ⟨w.heap.size, 0, none⟩ = some (.string p) := by rw [(B2.out.ext hexj.out).cell']; rfl
              have r1 : wr.cell? ⟨w.heap.size, 1, none⟩ = some (.slice ha hn hcap) := by rw [(B2.out.ext hexj.out).cell']; rfl
              have r2 : wr.cell? ⟨w.heap.size, 2, none⟩ = some (.slice ba i bcap) := by rw [(B2.out.ext hexj.out).cell']; rfl
              have HSv := Lib.hid (HSh.out v y (by rw [hy.out]; exact sharTo_le _ _ _ HLe1.out j))
              clear hvj hltv
              go_wp2
              go_still_tail 8, (by kernel_rfl)
              go_wp2_with fail
              refine (HSv.out _ XJ.out.drew).mono ?_
              rintro e w3 ⟨_, rfl, hk3, rfl⟩
              have X3 := Lib.hid (hexj.out.drew.trans hk3)
              clear hk3 r0 r1 r2 v0
              go_wp2
              go_roundw
              case rel => exact ⟨j + 1, _, by omega, by first | rfl | (congr 1; done) | (congr 1; omega), by first | rfl | trivial, Lib.hid (by rw [sharTo_succ S _ HV.out, hy.out]), X3⟩
              case measure => simp [intOf]; omega
            · obtain rfl : j = m := by omega
              obtain ⟨X2', eX2⟩ : ∃ X2', X2' = sharTo S (ls.zip inn) (namesB ls) x j := ⟨_, rfl⟩
              have hX2 : X2' ≤ infW := by rw [eX2]; exact sharTo_le _ _ _ HLe1.out j
              obtain rfl : y = X2' := by rw [hy.out, eX2]
              have EX2 := Lib.hid eX2
              have HLe2 := Lib.hid hX2
              clear eX2 hy hX2 HC
              go_wp2
              go_loopw [12, 7] (fun iv sv wr => FoldTo w2 (constTo S (ls.zip inn) y) i iv sv wr) (fun iv _ _ => i - (intOf iv).toNat)
              case atStart => exact ⟨0, _, Nat.zero_le _, rfl, rfl, rfl, hexj⟩
              case round =>
                obtain ⟨q, z, hq, rfl, rfl, hz, hexq⟩ := hrel
                have XQ := Lib.hid (HX.out.trans (X2.out.trans hexq.out))
                have b2 : wr.cell? ⟨w.heap.size, 2, none⟩ = some (.slice ba i bcap) := by rw [(B2.out.ext hexq.out).cell']; rfl
                by_cases hlt3 : q < i
                · obtain ⟨bi, ebi⟩ : ∃ bi, inn[q]? = some bi := ⟨_, List.getElem?_eq_getElem (by have := HI.out.1; omega)⟩
                  have hltl : q < ls.length := by rw [← HN.out]; exact hlt3
                  obtain ⟨l, hli⟩ : ∃ l, ls[q]? = some l := ⟨_, List.getElem?_eq_getElem hltl⟩
                  obtain ⟨b, off, a2, cap2, eao, hG, hb, hL, c0, c1, c2, c3, c4, c5, c6, c7⟩ := lit_at HE.out hli
                  subst eao
                  replace c0 := XQ.out.cell c0 id
                  replace c1 := XQ.out.cell c1 id
                  replace c2 := XQ.out.cell c2 id
                  replace c3 := XQ.out.cell c3 id
                  replace c4 := XQ.out.cell c4 id
                  replace c5 := XQ.out.cell c5 id
                  replace c6 := XQ.out.cell c6 id
                  replace c7 := XQ.out.cell c7 id
                  obtain ⟨mm, emm⟩ : ∃ mm, mm = (termsOf l).length := ⟨_, rfl⟩
                  rw [← emm] at c2
                  have hmm : mm ≤ 1048576 := by rw [emm]; exact HF.out.terms l (List.mem_of_getElem? hli)
                  obtain ⟨k, ek⟩ : ∃ k, k = l.1 := ⟨_, rfl⟩
                  rw [← ek] at c0
                  clear hltl hG hb
                  have HL := Lib.hid (And.intro hli (And.intro emm ek))
                  have HZ := Lib.hid (zip_at hli ebi)
                  have HBI := Lib.hid ebi
                  have hz2 : z = constMid S (ls.zip inn) y q (l, bi) 0 := by rw [constMid_zero]; exact hz.out
                  have HZ2 := Lib.hid hz2
                  clear hli emm ek hL ebi c0 c1 c2 c3 c4 c5 c6 c7 hz2 hz
                  go_wp2
                  clear b2
                  go_loopw [13, 7] (fun iv sv wr => FoldTo w2 (constMid S (ls.zip inn) y q (l, bi)) mm iv sv wr) (fun iv _ _ => mm - (intOf iv).toNat)
                  case atStart => exact ⟨0, _, Nat.zero_le _, rfl, rfl, HZ2.out, hexq⟩
                  case round =>
                    obtain ⟨c, t, hc, rfl, rfl, ht, hexc⟩ := hrel
                    have XC := Lib.hid (HX.out.trans (X2.out.trans hexc.out))
                    have b2 : wr.cell? ⟨w.heap.size, 2, none⟩ = some (.slice (some ⟨b, off, none⟩) i bcap) := by rw [(B2.out.ext hexc.out).cell']; rfl
                    obtain ⟨ib, ioff, eia, d0⟩ := (HI.out.2.ext XC.out).bool HBI.out
                    subst eia
                    obtain ⟨_, _, a3, cap3, e0, _, _, hL3, c0, c1, c2, c3, c4, c5, c6, c7⟩ := lit_at HE.out HL.out.1
                    cases e0
                    replace c0 := XC.out.cell c0 id
                    replace c1 := XC.out.cell c1 id
                    replace c2 := XC.out.cell c2 id
                    replace c3 := XC.out.cell c3 id
                    replace c4 := XC.out.cell c4 id
                    replace c5 := XC.out.cell c5 id
                    replace c6 := XC.out.cell c6 id
                    replace c7 := XC.out.cell c7 id
                    obtain ⟨pl, epl⟩ : ∃ pl, predOf l = pl := ⟨_, rfl⟩
                    rw [epl] at c1
                    have EPL := Lib.hid epl
                    clear epl
                    rw [← HL.out.2.2] at c0
                    rw [← HL.out.2.1] at c2
                    generalize opOf l = s3 at c3
                    generalize (leftOf l).1 = s4 at c4
                    generalize (leftOf l).2.1 = s5 at c5
                    generalize (rightOf l).1 = s6 at c6
                    generalize (rightOf l).2.1 = s7 at c7
                    cases bi
                    · have HEnd := Lib.hid (constMid_end S y HZ.out (c := c) (constsPart_off S (fun e => by cases e.1)))
                      go_wp2
                      go_roundw
                      case rel => exact ⟨q + 1, _, by omega, by first | rfl | (congr 1; done) | (congr 1; omega), by first | rfl | trivial, ht.out.trans HEnd.out, hexc⟩
                      case measure => simp [intOf]; omega
                    · by_cases h1 : k = 1
                      · have H1 := Lib.hid (show l.1 = 1 from HL.out.2.2.symm.trans h1)
                        subst h1
                        by_cases hlt4 : c < mm
                        · obtain ⟨tt, htt⟩ : ∃ tt, (termsOf l)[c]? = some tt := ⟨_, List.getElem?_eq_getElem (by rw [← HL.out.2.1]; exact hlt4)⟩
                          obtain ⟨bt, offt, eaot, f0, f1, _⟩ := term_at (hL3.terms.ext XC.out) htt
                          subst eaot
                          obtain ⟨kt, st, ⟨⟩⟩ := tt
                          simp only at f0 f1
                          have HSuc := Lib.hid (constMid_succ S (ls.zip inn) y q H1.out htt)
                          clear htt hL3
                          by_cases h3 : kt = 3
                          · have HS2 := Lib.hid (HSuc.out.trans (if_pos h3))
                            subst h3
                            have HDi := Lib.hid (fun (W : World) (hW : Ext w W) k a m cap op lk lt rk rt => distinct_any l c k pl a m cap op lk lt rk rt S sa sn scap ls W EPL.out HSN.out (HSE.out.ext hW) hsl HSF.out.dist HKn.out (List.mem_of_getElem? HL.out.1) H1.out (by rw [← HL.out.2.1]; exact hlt4))
                            have hrun := fun tt W => div_run (s := t) (by rw [ht.out]; exact constMid_le S _ HLe2.out q _ c) (distW_ge S l c) (distW_lt S l c) tt W
                            clear HSuc
                            go_wp2_with fail
                            refine (HDi.out _ XC.out _ _ _ _ _ _ _ _ _).mono ?_
                            rintro e w3 ⟨_, rfl, hk3, rfl⟩
                            have X3 := Lib.hid (hexc.out.trans hk3)
                            clear hk3 c0 c1 c2 c3 c4 c5 c6 c7 f0 f1 d0 b2
                            go_wp2
                            go_roundw
                            case rel => exact ⟨c + 1, _, by omega, by first | rfl | (congr 1; done) | (congr 1; omega), by first | rfl | trivial, Lib.hid (by rw [HS2.out, ht.out]), X3⟩
                            case measure => simp [intOf]; omega
                          · have HS2 := Lib.hid (HSuc.out.trans (if_neg h3))
                            have n3 : (kt == 3) = false := by simp [h3]
                            have HH := Lib.hid h3; clear h3 HSuc
                            go_wp2
                            go_roundw
                            case rel => exact ⟨c + 1, _, by omega, by first | rfl | (congr 1; done) | (congr 1; omega), by first | rfl | trivial, Lib.hid (by rw [HS2.out, ht.out]), hexc⟩
                            case measure => simp [intOf]; omega
                        · have HEnd := Lib.hid (constMid_end S y HZ.out (c := c) (constsPart_all S (by have := HL.out.2.1; simp only; omega)))
                          have hcm : ¬ (c : Int) < (mm : Int) := by omega
                          clear hL3
                          go_wp2
                          go_roundw
                          case rel => exact ⟨q + 1, _, by omega, by first | rfl | (congr 1; done) | (congr 1; omega), by first | rfl | trivial, ht.out.trans HEnd.out, hexc⟩
                          case measure => simp [intOf]; omega
                      · have n1 : (k == 1) = false := by simp [h1]
                        have HEnd := Lib.hid (constMid_end S y HZ.out (c := c) (constsPart_off S (fun e => h1 (HL.out.2.2.trans e.2))))
                        have HH := Lib.hid h1; clear h1 hL3
                        go_wp2
                        go_roundw
                        case rel => exact ⟨q + 1, _, by omega, by first | rfl | (congr 1; done) | (congr 1; omega), by first | rfl | trivial, ht.out.trans HEnd.out, hexc⟩
                        case measure => simp [intOf]; omega
                · obtain rfl : q = i := by omega
                  obtain ⟨X3', eX3⟩ : ∃ X3', X3' = constTo S (ls.zip inn) y q := ⟨_, rfl⟩
                  have hX3 : X3' ≤ infW := by rw [eX3]; exact constTo_le _ _ HLe2.out q
                  obtain rfl : z = X3' := by rw [hz.out, eX3]
                  have EX3 := Lib.hid eX3
                  have HLe3 := Lib.hid hX3
                  clear eX3 hz hX3
                  go_wp2
                  clear b2
                  go_loopw [14, 7] (fun iv sv wr => FoldTo w2 (shareTo (ls.zip inn) z) q iv sv wr) (fun iv _ _ => q - (intOf iv).toNat)
                  case atStart => exact ⟨0, _, Nat.zero_le _, rfl, rfl, rfl, hexq⟩
                  case round =>
                    obtain ⟨d, s, hd, rfl, rfl, hs, hexd⟩ := hrel
                    have XD := Lib.hid (HX.out.trans (X2.out.trans hexd.out))
                    have b2 : wr.cell? ⟨w.heap.size, 2, none⟩ = some (.slice ba q bcap) := by rw [(B2.out.ext hexd.out).cell']; rfl
                    by_cases hlt3 : d < q
                    · obtain ⟨bi, ebi⟩ : ∃ bi, inn[d]? = some bi := ⟨_, List.getElem?_eq_getElem (by have := HI.out.1; omega)⟩
                      obtain ⟨ib, ioff, eia, d0⟩ := (HI.out.2.ext XD.out).bool ebi
                      subst eia
                      have hltl : d < ls.length := by rw [← HN.out]; exact hlt3
                      obtain ⟨l, hli⟩ : ∃ l, ls[d]? = some l := ⟨_, List.getElem?_eq_getElem hltl⟩
                      obtain ⟨b, off, a2, cap2, eao, hG, hb, hL, c0, c1, c2, c3, c4, c5, c6, c7⟩ := lit_at HE.out hli
                      subst eao
                      replace c0 := XD.out.cell c0 id
                      replace c1 := XD.out.cell c1 id
                      replace c2 := XD.out.cell c2 id
                      replace c3 := XD.out.cell c3 id
                      replace c4 := XD.out.cell c4 id
                      replace c5 := XD.out.cell c5 id
                      replace c6 := XD.out.cell c6 id
                      replace c7 := XD.out.cell c7 id
                      obtain ⟨mm, emm⟩ : ∃ mm, mm = (termsOf l).length := ⟨_, rfl⟩
                      rw [← emm] at c2
                      have hmm : mm ≤ 1048576 := by rw [emm]; exact HF.out.terms l (List.mem_of_getElem? hli)
                      obtain ⟨k, ek⟩ : ∃ k, k = l.1 := ⟨_, rfl⟩
                      rw [← ek] at c0
                      clear hltl hG hb
                      obtain ⟨o, eo⟩ : ∃ o, o = opOf l := ⟨_, rfl⟩
                      rw [← eo] at c3
                      generalize predOf l = s1 at c1
                      generalize (leftOf l).1 = s4 at c4
                      generalize (leftOf l).2.1 = s5 at c5
                      generalize (rightOf l).1 = s6 at c6
                      generalize (rightOf l).2.1 = s7 at c7
                      have HL := Lib.hid (And.intro hli (And.intro emm (And.intro ek eo)))
                      have HZ := Lib.hid (zip_at hli ebi)
                      have d1 : (wr.alloc (.cells #[.int .i64 k, .string s1, .slice a2 mm cap2, .int .i64 o, .int .i64 s4, .string s5, .int .i64 s6, .string s7] 70)).cell? ⟨ib, ioff + d, none⟩ = some (.bool bi) := ((Kp.refl (F := fun _ => False) wr).alloc _).cell d0 id
                      clear hli emm ek eo hL ebi
                      cases bi
                      · go_wp2
                        go_roundw
                        case rel => exact ⟨d + 1, _, by omega, by first | rfl | (congr 1; done) | (congr 1; omega), by first | rfl | trivial, Lib.hid (by rw [shareTo_succ HZ.out, mulShare_off (fun e => by cases e.1)]; exact hs.out), hexd.out.alloc _⟩
                        case measure => simp [intOf]; omega
                      · by_cases h1 : k = 1
                        · have HS2 := Lib.hid (mulShare_off (s := s) (p := (l, true)) (fun e => e.2 (HL.out.2.2.1.symm.trans h1)))
                          subst h1
                          go_wp2
                          go_roundw
                          case rel => exact ⟨d + 1, _, by omega, by first | rfl | (congr 1; done) | (congr 1; omega), by first | rfl | trivial, Lib.hid (by rw [shareTo_succ HZ.out, ← hs.out, HS2.out]), hexd.out.alloc _⟩
                          case measure => simp [intOf]; omega
                        · have n1 : (k == 1) = false := by simp [h1]
                          have HS2 := Lib.hid (mulShare_on (s := s) (l := l) (fun e => h1 (HL.out.2.2.1.trans e)))
                          have hrun := fun tt W => mul_run (s := s) (by rw [hs.out]; exact shareTo_le _ HLe3.out d) (shareW_pos l).1 (shareW_pos l).2 tt W
                          have HH := Lib.hid h1; clear h1
                          obtain ⟨sh, esh⟩ : ∃ sh, sh = shareW l := ⟨_, rfl⟩
                          rw [← esh] at hrun HS2
                          have hcase : (k = 2 ∧ sh = 4602678819172646912) ∨ (k ≠ 2 ∧ o = 1 ∧ sh = 4591870180066957722) ∨ (k ≠ 2 ∧ o ≠ 1 ∧ o = 2 ∧ sh = 4606281698874543309) ∨ (k ≠ 2 ∧ o ≠ 1 ∧ o ≠ 2 ∧ sh = 4600877379321698714) := by
                            rw [esh, HL.out.2.2.1, HL.out.2.2.2]
                            unfold shareW
                            by_cases a1 : l.1 = 2
                            · exact .inl ⟨a1, if_pos a1⟩
                            · rw [if_neg a1]
                              by_cases a2 : opOf l = 1
                              · exact .inr (.inl ⟨a1, a2, if_pos a2⟩)
                              · rw [if_neg a2]
                                by_cases a3 : opOf l = 2
                                · exact .inr (.inr (.inl ⟨a1, a2, a3, if_pos a3⟩))
                                · exact .inr (.inr (.inr ⟨a1, a2, a3, if_neg a3⟩))
                          clear esh
                          rcases hcase with ⟨a1, rfl⟩ | ⟨a1, a2, rfl⟩ | ⟨a1, a2, a3, rfl⟩ | ⟨a1, a2, a3, rfl⟩
                          · have m1 : (k == 2) = true := by simp [a1]
                            have HA := Lib.hid a1; clear a1
                            go_wp2
                            go_roundw
                            case rel => exact ⟨d + 1, _, by omega, by first | rfl | (congr 1; done) | (congr 1; omega), by first | rfl | trivial, Lib.hid (by rw [shareTo_succ HZ.out, ← hs.out, HS2.out]), hexd.out.alloc _⟩
                            case measure => simp [intOf]; omega
                          · have m1 : (k == 2) = false := by simp [a1]
                            have m2 : (o == 1) = true := by simp [a2]
                            have HA := Lib.hid (And.intro a1 a2); clear a1 a2
                            go_wp2
                            go_roundw
                            case rel => exact ⟨d + 1, _, by omega, by first | rfl | (congr 1; done) | (congr 1; omega), by first | rfl | trivial, Lib.hid (by rw [shareTo_succ HZ.out, ← hs.out, HS2.out]), hexd.out.alloc _⟩
                            case measure => simp [intOf]; omega
                          · have m1 : (k == 2) = false := by simp [a1]
                            have m2 : (o == 1) = false := by simp [a2]
                            have m3 : (o == 2) = true := by simp [a3]
                            have HA := Lib.hid (And.intro a1 (And.intro a2 a3)); clear a1 a2 a3
                            go_wp2
                            go_roundw
                            case rel => exact ⟨d + 1, _, by omega, by first | rfl | (congr 1; done) | (congr 1; omega), by first | rfl | trivial, Lib.hid (by rw [shareTo_succ HZ.out, ← hs.out, HS2.out]), hexd.out.alloc _⟩
                            case measure => simp [intOf]; omega
                          · have m1 : (k == 2) = false := by simp [a1]
                            have m2 : (o == 1) = false := by simp [a2]
                            have m3 : (o == 2) = false := by simp [a3]
                            have HA := Lib.hid (And.intro a1 (And.intro a2 a3)); clear a1 a2 a3
                            go_wp2
                            go_roundw
                            case rel => exact ⟨d + 1, _, by omega, by first | rfl | (congr 1; done) | (congr 1; omega), by first | rfl | trivial, Lib.hid (by rw [shareTo_succ HZ.out, ← hs.out, HS2.out]), hexd.out.alloc _⟩
                            case measure => simp [intOf]; omega
                    · obtain rfl : d = q := by omega
                      have hfin : s = guessW S ls inn := by
                        rw [hs.out, EX3.out, EX2.out, EX1.out, guessW_eq HZ0.out (Nat.le_of_eq HPL.out) (Nat.le_of_eq EM.out.symm)]
                      have HFin := Lib.hid hfin
                      clear hfin hs
                      go_wp2
                      go_ret
                      exact RetN.mk XD.out (congrArg (Value.float .f64) HFin.out)
end Go.Proofs.Ytcphalpcdcddpaa

/- The document's answer for costs: numbers as a set, orders, Guess, Cost. -/
namespace Go.Proofs.Ytcphalpcdcddpaa
open Go.RowKit
set_option linter.unusedVariables false
attribute [local go_sem] run_store_float

theorem blk_made (w : World) (z : Value) (n : Nat) (e : TypeId) : Blk (w.alloc (.cells (madeCells #[z] n) e)) w.heap.size (List.replicate n z) e := by
  have h := Blk.new w (List.replicate n z) e
  have e1 : madeCells #[z] n = (List.replicate n z).toArray := by
    apply Array.toList_inj.1; rw [toList_madeCells_one]
  rw [e1]; exact h
theorem bools_rep (n : Nat) : bools (List.replicate n false) = List.replicate n (.bool false) := by simp [bools]
theorem bools_set (bs : List Bool) (i : Nat) (b : Bool) : (bools bs).set i (.bool b) = bools (bs.set i b) := by simp [bools, List.map_set]
theorem Blk.bools {w : World} {g : Nat} {bs : List Bool} {e : TypeId} (h : Blk w g (bools bs) e) : CellsAt w (some ⟨g, 0, none⟩) (Go.Proofs.Ytcphalpcdcddpaa.bools bs) := CellsAt.pre (rest := []) (by rw [List.append_nil]; exact h)

theorem putNum_none (xs : List Int) : xs.foldl putNum none = none := by
  induction xs with
  | nil => rfl
  | cons x xs ih => exact ih
theorem putNum_len {o : Option (List Bool)} {x : Int} {inn inn' : List Bool} (h : putNum (some inn) x = some inn') : inn'.length = inn.length := by
  unfold putNum at h
  dsimp only at h
  split at h
  · cases h; simp
  · cases h
theorem setTo_no {n : Nat} {xs : List Int} {i : Nat} {x : Int} (h : xs[i]? = some x) (hb : (xs.take (i + 1)).foldl putNum (some (List.replicate n false)) = none) : setW n xs = none := by
  unfold setW
  rw [← List.take_append_drop (i + 1) xs, List.foldl_append, hb, putNum_none]
theorem putNum_neg {inn : List Bool} {x : Int} (h : ¬ 0 ≤ x) : putNum (some inn) x = none := if_neg fun e => h e.1
theorem putNum_off {inn : List Bool} {q : Nat} (h : inn[q]? ≠ some false) : putNum (some inn) (q : Int) = none := if_neg fun e => h (by simpa using e.2)
theorem putNum_on {inn : List Bool} {q : Nat} (h : inn[q]? = some false) : putNum (some inn) (q : Int) = some (inn.set q true) := by
  show (if 0 ≤ (q : Int) ∧ inn[(q : Int).toNat]? = some false then some (inn.set (q : Int).toNat true) else none) = _
  rw [if_pos ⟨by omega, by simpa using h⟩]; simp

/-- A set that was made of numbers, or none. -/
def SetV (o : Option (List Bool)) (n : Nat) (w' : World) (v : Value) : Prop := ∃ ao m c, v = .tuple #[.slice ao m c, .bool o.isSome] ∧ ∀ inn, o = some inn → m = n ∧ CellsAt w' ao (bools inn) ∧ inn.length = n
def NumsTo (w0 : World) (g n : Nat) (xs : List Int) (m : Nat) (iv : Value) (w : World) : Prop := ∃ (i : Nat) (inn : List Bool), i ≤ m ∧ iv = .int .i64 i ∧ Hid ((xs.take i).foldl putNum (some (List.replicate n false)) = some inn) ∧ Hid (Blk w g (bools inn) 4) ∧ Hid (inn.length = n) ∧ Hid (Ext w0 w)

open Classical in
theorem setOk_none {ls : List LitZ} {xs : List Int} (h : setW ls.length xs = none) : setOk ls xs = none := by unfold setOk; rw [h]
open Classical in
theorem setOk_some {ls : List LitZ} {xs : List Int} {inn : List Bool} (h : setW ls.length xs = some inn) : setOk ls xs = if stands ls inn then some inn else none := by unfold setOk; rw [h]

open Classical in
set_option maxRecDepth 100000 in
set_option maxHeartbeats 4000000 in
theorem refSet_any (p : ByteArray) (ls : List LitZ) (ha : Option Addr) (hn hcap : Nat) (ba : Option Addr) (n bcap : Nat) (xs : List Int) (na : Option Addr) (m mcap : Nat) (w : World) (G : Nat → Prop) (hbn : n = ls.length) (h : LitsAt w G ba ls) (hf : Fit ls) (hm : m = xs.length) (hx : CellsAt w na (ints xs)) (hml : m ≤ 4611686018427387904) :
    Calls Try.prog 35 #[ruleV p ha hn hcap ba n bcap, .slice na m mcap] w (RetN w (SetV (setOk ls xs) n)) := by
  have HN := Lib.hid hbn; have HE := Lib.hid h; have HF := Lib.hid hf; have hl : n ≤ 1048576 := by have := hf.len; omega
  have HM := Lib.hid (And.intro hm hx)
  have HSt := Lib.hid (fun (inn : List Bool) (ia : Option Addr) (icap : Nat) (W : World) (hW : Ext w W) (hin : inn.length = n) (hI : CellsAt W ia (bools inn)) => refStands_any p ls ha hn hcap ba n bcap inn ia icap W G hbn (h.ext hW) hf hin hI)
  have hmk := run_make_row' (P := Try.prog) 74 4 (.bool false) 1 Try.underlying74 (by kernel_rfl) rfl .i64 .i64 n (by omega) (by omega)
  clear hbn h hf hm hx
  go_enter Try.func35, Try.ntmps35
  go_wp2
  obtain ⟨wb, eb⟩ : ∃ wb, w.alloc (.cells #[.string p, .slice ha hn hcap, .slice ba n bcap] 27) = wb := ⟨_, rfl⟩
  rw [eb]
  have HB := Lib.hid (Blk.new w [.string p, .slice ha hn hcap, .slice ba n bcap] 27)
  have HX := Lib.hid ((Kp.refl (F := fun _ => False) w).alloc (.cells #[.string p, .slice ha hn hcap, .slice ba n bcap] 27))
  have eb2 : w.alloc (.cells [Value.string p, .slice ha hn hcap, .slice ba n bcap].toArray 27) = wb := eb
  rw [eb2] at HB
  rw [eb] at HX
  obtain ⟨g, eg⟩ : ∃ g, g = w.heap.size + 1 := ⟨_, rfl⟩
  have eg2 : wb.heap.size = g := by rw [eg, ← eb, alloc_size]
  have hB := blk_made wb (.bool false) n 4
  rw [eg2, ← bools_rep] at hB
  have HG := Lib.hid hB
  have EG := Lib.hid eg2
  rw [← eg]
  clear eb eb2 eg2 hB eg hmk
  generalize hwc : wb.alloc (.cells (madeCells #[.bool false] n) 4) = wc at *
  have HWC := Lib.hid (show Ext wb wc by rw [← hwc]; exact (Kp.refl wb).alloc _)
  clear hwc
  go_loopw [7] (fun iv wr => NumsTo wb g n xs m iv wr) (fun iv _ => m - (intOf iv).toNat)
  case atStart => exact ⟨0, _, Nat.zero_le _, rfl, rfl, HG.out, Lib.hid (by simp), HWC.out⟩
  case round =>
    obtain ⟨i, inn, hi, rfl, hput, hblk, hlen, hex⟩ := hrel
    have XR := Lib.hid (HX.out.trans hex.out)
    by_cases hlt : i < m
    · have hltx : i < xs.length := by rw [← HM.out.1]; exact hlt
      obtain ⟨nb, noff, ena, d0⟩ := (HM.out.2.ext XR.out).int hltx
      subst ena
      have hxi : xs[i]? = some xs[i] := List.getElem?_eq_getElem hltx
      generalize xs[i] = x at *
      have HXi := Lib.hid hxi
      have HStep := Lib.hid (show (xs.take (i + 1)).foldl putNum (some (List.replicate n false)) = putNum (some inn) x by rw [fold_take _ _ hxi, hput.out])
      clear hxi hltx
      have hbad : putNum (some inn) x = none → SetV (setOk ls xs) n wr (.tuple #[.slice none 0 0, .bool false]) := fun e => by
        have : setOk ls xs = none := setOk_none (by rw [← HN.out]; exact setTo_no HXi.out (by rw [HStep.out, e]))
        rw [this]
        exact ⟨_, _, _, rfl, fun inn h => by cases h⟩
      have HBad := Lib.hid hbad; clear hbad
      by_cases hx0 : x < 0
      · go_wp2
        go_ret2
        exact RetN.mk XR.out (HBad.out (putNum_neg (by omega)))
      · obtain ⟨q, rfl⟩ : ∃ q : Nat, x = q := ⟨x.toNat, by omega⟩
        by_cases hqn : q < n
        · obtain ⟨b, hb⟩ : ∃ b, inn[q]? = some b := ⟨_, List.getElem?_eq_getElem (by have := hlen.out; omega)⟩
          have e0 : wr.cell? ⟨g, q, none⟩ = some (.bool b) := by rw [hblk.out.cell']; simp [bools, hb]
          have hfr := hblk.out.free q
          have HBq := Lib.hid hb
          clear hb
          cases b
          · go_wp2
            go_roundw
            case rel =>
              refine ⟨i + 1, inn.set q true, by omega, by first | rfl | (congr 1; done) | (congr 1; omega), Lib.hid (by rw [HStep.out, putNum_on HBq.out]), ?_, Lib.hid (by rw [List.length_set]; exact hlen.out), hex.out.setCell (fun h => ?_) _⟩
              · have h := hblk.out.set q (.bool true)
                rw [bools_set] at h
                exact h
              · have h : g < wb.heap.size := h
                rw [EG.out] at h; omega
            case measure => simp [intOf]; omega
          · go_wp2
            go_ret2
            exact RetN.mk XR.out (HBad.out (putNum_off (by rw [HBq.out]; simp)))
        · go_wp2
          go_ret2
          exact RetN.mk XR.out (HBad.out (putNum_off (by rw [List.getElem?_eq_none (by have := hlen.out; omega)]; simp)))
    · have hall : setW ls.length xs = some inn := by
        have h := hput.out
        rw [List.take_of_length_le (by have := HM.out.1; omega), HN.out] at h
        exact h
      have HAll := Lib.hid (setOk_some hall)
      have r0 : wr.cell? ⟨w.heap.size, 0, none⟩ = some (.string p) := by rw [(HB.out.ext hex.out).cell']; rfl
      have r1 : wr.cell? ⟨w.heap.size, 1, none⟩ = some (.slice ha hn hcap) := by rw [(HB.out.ext hex.out).cell']; rfl
      have r2 : wr.cell? ⟨w.heap.size, 2, none⟩ = some (.slice ba n bcap) := by rw [(HB.out.ext hex.out).cell']; rfl
      clear hall
      go_wp2_with fail
      refine (HSt.out inn _ _ _ XR.out hlen.out hblk.out.bools).mono ?_
      rintro e w1 ⟨v, rfl, hk1, rfl⟩
      have X1 := Lib.hid (And.intro (XR.out.trans hk1) (hblk.out.ext hk1).bools)
      clear hk1 r0 r1 r2
      by_cases hst : stands ls inn
      · rw [decide_eq_true hst]
        have HA2 := Lib.hid (HAll.out.trans (if_pos hst))
        clear hst
        go_wp2
        go_ret2
        refine RetN.mk X1.out.1 ⟨some ⟨g, 0, none⟩, n, n, ?_, fun inn' h => ?_⟩
        · rw [HA2.out]; rfl
        · rw [HA2.out] at h; cases h
          exact ⟨rfl, X1.out.2, hlen.out⟩
      · rw [decide_eq_false hst]
        have HA2 := Lib.hid (HAll.out.trans (if_neg hst))
        clear hst
        go_wp2
        go_ret2
        refine RetN.mk X1.out.1 ⟨some ⟨g, 0, none⟩, n, n, ?_, fun inn' h => ?_⟩
        · rw [HA2.out]; rfl
        · rw [HA2.out] at h; cases h

theorem CellsAt.intsTake {w : World} {ao : Option Addr} {xs : List Int} (h : CellsAt w ao (ints xs)) (i : Nat) : CellsAt w ao (ints (xs.take i)) := fun k u hu => h k u (by
  unfold ints at hu ⊢
  rw [List.map_take, List.getElem?_take] at hu
  split at hu
  · exact hu
  · cases hu)

open Classical in
set_option maxRecDepth 100000 in
set_option maxHeartbeats 4000000 in
theorem refOrder_any (p : ByteArray) (ls : List LitZ) (ha : Option Addr) (hn hcap : Nat) (ba : Option Addr) (n bcap : Nat) (xs : List Int) (na : Option Addr) (m mcap : Nat) (w : World) (G : Nat → Prop) (hbn : n = ls.length) (h : LitsAt w G ba ls) (hf : Fit ls) (hm : m = xs.length) (hx : CellsAt w na (ints xs)) (hml : m ≤ 4611686018427387904) (hmc : m ≤ mcap) (hmx : mcap ≤ maxLen) :
    Calls Try.prog 37 #[ruleV p ha hn hcap ba n bcap, .slice na m mcap] w (RetN w fun w' v => v = .bool (decide (orderOk ls xs))) := by
  have HN := Lib.hid hbn; have hl : n ≤ 1048576 := by have := hf.len; omega
  have HM := Lib.hid hm
  have hmx2 : mcap ≤ 9223372036854775807 := hmx
  have HSet := Lib.hid (fun (i : Nat) (hi : i ≤ m) (W : World) (hW : Ext w W) => refSet_any p ls ha hn hcap ba n bcap (xs.take i) na i mcap W G hbn (h.ext hW) hf (by rw [List.length_take]; omega) ((hx.intsTake i).ext hW) (by omega))
  clear hbn h hf hm hx hmx
  go_enter Try.func37, Try.ntmps37
  by_cases hne : m = n
  · have b1 : ((m : Int) != (n : Int)) = false := by simp [hne]
    have b2 : ((m : Int) == (n : Int)) = true := by simp [hne]
    have HNe := Lib.hid hne
    clear hne
    go_wp2
    obtain ⟨wb, eb⟩ : ∃ wb, w.alloc (.cells #[.string p, .slice ha hn hcap, .slice ba n bcap] 27) = wb := ⟨_, rfl⟩
    rw [eb]
    have HB := Lib.hid (Blk.new w [.string p, .slice ha hn hcap, .slice ba n bcap] 27)
    have HX := Lib.hid ((Kp.refl (F := fun _ => False) w).alloc (.cells #[.string p, .slice ha hn hcap, .slice ba n bcap] 27))
    have eb2 : w.alloc (.cells [Value.string p, .slice ha hn hcap, .slice ba n bcap].toArray 27) = wb := eb
    rw [eb2] at HB
    rw [eb] at HX
    clear eb eb2
    clear b1 b2
    go_loopw [5] (fun iv wr => ∃ i : Nat, i ≤ m + 1 ∧ iv = .int .i64 i ∧ Hid (∀ j, j < i → (setOk ls (xs.take j)).isSome = true) ∧ Hid (Ext wb wr)) (fun iv _ => m + 1 - (intOf iv).toNat)
    case atStart => exact ⟨0, Nat.zero_le _, rfl, fun j hj => by omega, Kp.refl _⟩
    case round =>
      obtain ⟨i, hi, rfl, hall, hex⟩ := hrel
      have XR := Lib.hid (HX.out.trans hex.out)
      by_cases hlt : i ≤ m
      · have r0 : wr.cell? ⟨w.heap.size, 0, none⟩ = some (.string p) := by rw [(HB.out.ext hex.out).cell']; rfl
        have r1 : wr.cell? ⟨w.heap.size, 1, none⟩ = some (.slice ha hn hcap) := by rw [(HB.out.ext hex.out).cell']; rfl
        have r2 : wr.cell? ⟨w.heap.size, 2, none⟩ = some (.slice ba n bcap) := by rw [(HB.out.ext hex.out).cell']; rfl
        have i1 : (i : Int) ≤ (mcap : Int) := by omega
        have i2 : (i : Int) ≤ (m : Int) := by omega
        have HSi := Lib.hid (HSet.out i hlt)
        go_wp2
        go_region_with (first | (go_at_call 35; refine (HSi.out _ XR.out.drew).mono ?_; rintro e w1 ⟨v, rfl, hk1, a, mm, c, rfl, hso⟩))
        have X1 := Lib.hid (hex.out.drew.trans hk1)
        clear hk1 r0 r1 r2 hso
        cases hs : (setOk ls (xs.take i)).isSome
        · have HS := Lib.hid hs; clear hs
          go_wp2
          go_ret
          refine RetN.mk (HX.out.trans X1.out) (congrArg Value.bool (decide_eq_false fun ho => ?_).symm)
          have := ho.2 i (by have := HM.out; omega)
          rw [HS.out] at this; cases this
        · have HS := Lib.hid hs; clear hs
          go_wp2
          go_roundw
          case rel =>
            refine ⟨i + 1, by omega, by first | rfl | (congr 1; done) | (congr 1; omega), fun j hj => ?_, X1⟩
            by_cases e : j = i
            · rw [e]; exact HS.out
            · exact hall.out j (by omega)
          case measure => simp [intOf]; omega
      · have ho : orderOk ls xs := ⟨by have := HM.out; have := HN.out; have := HNe.out; omega, fun j hj => hall.out j (by have := HM.out; omega)⟩
        have HO := Lib.hid ho
        clear ho hall
        go_wp2
        go_ret
        exact RetN.mk XR.out (congrArg Value.bool (decide_eq_true HO.out).symm)
  · have b1 : ((m : Int) != (n : Int)) = true := by simp; omega
    have b2 : ((m : Int) == (n : Int)) = false := by simp; omega
    have HNe := Lib.hid hne
    clear hne
    go_wp2
    go_ret
    refine RetN.mk ((Kp.refl w).alloc _) (congrArg Value.bool (decide_eq_false fun ho => ?_).symm)
    exact HNe.out (by have := ho.1; have := HM.out; have := HN.out; omega)
end Go.Proofs.Ytcphalpcdcddpaa

/- The document's answer for costs: Guess, Cost. -/
namespace Go.Proofs.Ytcphalpcdcddpaa
open Go.RowKit
set_option linter.unusedVariables false
attribute [local go_sem] run_store_float

theorem guessE_bad {r : RuleZ} {S : List StatZ} {xs : List Int} (h : errR r S ≠ 0) : guessE r S xs = (0, errR r S) := by unfold guessE; rw [if_neg h]
theorem guessE_none {r : RuleZ} {S : List StatZ} {xs : List Int} (h : errR r S = 0) (hs : setOk r.2.1 xs = none) : guessE r S xs = (0, 2) := by unfold guessE; rw [if_pos h, hs]
theorem guessE_some {r : RuleZ} {S : List StatZ} {xs : List Int} {inn : List Bool} (h : errR r S = 0) (hs : setOk r.2.1 xs = some inn) : guessE r S xs = (guessW S r.2.1 inn, 0) := by unfold guessE; rw [if_pos h, hs]
theorem errR_zero {r : RuleZ} {S : List StatZ} (h : errR r S = 0) : checkR r = 0 ∧ statsOk r S := by
  unfold errR at h
  split at h
  · rename_i h1
    refine ⟨h1, ?_⟩
    split at h
    · assumption
    · cases h
  · exact absurd h (by assumption)

open Classical in
set_option maxRecDepth 100000 in
set_option maxHeartbeats 4000000 in
theorem refGuessE_any (p : ByteArray) (hs : List TermZ) (ls : List LitZ) (ha : Option Addr) (hn hcap : Nat) (ba : Option Addr) (n bcap : Nat) (xs : List Int) (na : Option Addr) (m mcap : Nat) (S : List StatZ) (sa : Option Addr) (sn scap : Nat) (w : World) (G : Nat → Prop) (hhn : hn = hs.length) (hh : TermsAt w G ha hs) (hhl : hn ≤ 1048576) (hbn : n = ls.length) (h : LitsAt w G ba ls) (hf : Fit ls)
    (hm : m = xs.length) (hx : CellsAt w na (ints xs)) (hml : m ≤ 4611686018427387904) (hsn : sn = S.length) (hS : StatsAt w sa S) (hSf : StatsFit S) :
    Calls Try.prog 13 #[ruleV p ha hn hcap ba n bcap, .slice na m mcap, .slice sa sn scap] w (RetN w fun w' v => v = .tuple #[.float .f64 (guessE ((p, hs, ()), ls, ()) S xs).1, .int .i64 (guessE ((p, hs, ()), ls, ()) S xs).2]) := by
  obtain ⟨e, ee⟩ : ∃ e, e = errR ((p, hs, ()), ls, ()) S := ⟨_, rfl⟩
  have hr := fun (W : World) (hW : Ext w W) => refRight_any p hs ls ha hn hcap ba n bcap S sa sn scap W G hhn (hh.ext hW) hhl hbn (h.ext hW) hf hsn (hS.ext hW) hSf
  rw [← ee] at hr
  have HR := Lib.hid hr
  have HSet := Lib.hid (fun (W : World) (hW : Ext w W) => refSet_any p ls ha hn hcap ba n bcap xs na m mcap W G hbn (h.ext hW) hf hm (hx.ext hW) hml)
  have HG := Lib.hid (fun (he : e = 0) (inn : List Bool) (ia : Option Addr) (icap : Nat) (W : World) (hW : Ext w W) (hin : inn.length = n) (hI : CellsAt W ia (bools inn)) => refGuess_any p hs ls ha hn hcap ba n bcap inn ia icap S sa sn scap W G hhn (hh.ext hW) hhl hbn (h.ext hW) hf hin hI hsn (hS.ext hW) hSf (Known.of (errR_zero (ee.symm.trans he)).2) (errR_zero (ee.symm.trans he)).1)
  have EE := Lib.hid ee
  clear hr hhn hh hbn h hf hm hx hsn hS hSf ee
  go_enter Try.func13, Try.ntmps13
  go_wp2_with fail
  obtain ⟨wb, eb⟩ : ∃ wb, w.alloc (.cells #[.string p, .slice ha hn hcap, .slice ba n bcap] 27) = wb := ⟨_, rfl⟩
  rw [eb]
  have HB := Lib.hid (Blk.new w [.string p, .slice ha hn hcap, .slice ba n bcap] 27)
  have HX := Lib.hid ((Kp.refl (F := fun _ => False) w).alloc (.cells #[.string p, .slice ha hn hcap, .slice ba n bcap] 27))
  have eb2 : w.alloc (.cells [Value.string p, .slice ha hn hcap, .slice ba n bcap].toArray 27) = wb := eb
  rw [eb2] at HB
  rw [eb] at HX
  clear eb eb2
  refine (HR.out _ HX.out).mono ?_
  rintro e1 w1 ⟨v, rfl, hk1, rfl⟩
  have X1 := Lib.hid (HX.out.trans hk1)
  have B1 := Lib.hid (HB.out.ext hk1)
  clear hk1 HX HB
  by_cases he : e = 0
  · subst he
    have r0 : w1.cell? ⟨w.heap.size, 0, none⟩ = some (.string p) := by rw [B1.out.cell']; rfl
    have r1 : w1.cell? ⟨w.heap.size, 1, none⟩ = some (.slice ha hn hcap) := by rw [B1.out.cell']; rfl
    have r2 : w1.cell? ⟨w.heap.size, 2, none⟩ = some (.slice ba n bcap) := by rw [B1.out.cell']; rfl
    go_wp2_with fail
    refine (HSet.out _ X1.out).mono ?_
    rintro e1 w2 ⟨v, rfl, hk2, a, mm, c, rfl, hso⟩
    have X2 := Lib.hid (X1.out.trans hk2)
    have B2 := Lib.hid (B1.out.ext hk2)
    clear hk2 r0 r1 r2
    cases hs : setOk ls xs with
    | none =>
      have HS := Lib.hid hs
      clear hso
      have hq : (none : Option (List Bool)).isSome = false := rfl
      rw [hq]
      clear hs hq
      go_wp2
      go_ret2
      exact RetN.mk X2.out (by rw [guessE_none EE.out.symm HS.out]; rfl)
    | some inn =>
      have HS := Lib.hid hs
      obtain ⟨rfl, hI, hin⟩ := hso inn hs
      have HI := Lib.hid (And.intro hin hI)
      have hq : (some inn).isSome = true := rfl
      rw [hq]
      clear hs hq hI hin hso
      have r0 : w2.cell? ⟨w.heap.size, 0, none⟩ = some (.string p) := by rw [B2.out.cell']; rfl
      have r1 : w2.cell? ⟨w.heap.size, 1, none⟩ = some (.slice ha hn hcap) := by rw [B2.out.cell']; rfl
      have r2 : w2.cell? ⟨w.heap.size, 2, none⟩ = some (.slice ba mm bcap) := by rw [B2.out.cell']; rfl
      go_wp2_with fail
      refine (HG.out (by first | rfl | trivial) inn _ _ _ X2.out HI.out.1 HI.out.2).mono ?_
      rintro e1 w3 ⟨v, rfl, hk3, rfl⟩
      have X3 := Lib.hid (X2.out.trans hk3)
      clear hk3 r0 r1 r2
      go_wp2
      go_ret2
      exact RetN.mk X3.out (by rw [guessE_some EE.out.symm HS.out]; rfl)
  · have b1 : ((e : Int) == 0) = false := by simp; omega
    have b2 : ((e : Int) != 0) = true := by simp; omega
    have HH := Lib.hid he; clear he
    go_wp2
    go_ret2
    exact RetN.mk X1.out (by rw [guessE_bad (fun x => HH.out (EE.out.trans x)), ← EE.out]; first | done | rfl)

theorem guessOf_some {S : List StatZ} {ls : List LitZ} {xs : List Int} {inn : List Bool} (h : setOk ls xs = some inn) : guessOf S ls xs = guessW S ls inn := by unfold guessOf; rw [h]
theorem guessOf_le {S : List StatZ} {ls : List LitZ} (K : Known S ls) (xs : List Int) : guessOf S ls xs ≤ infW := by
  unfold guessOf
  split
  · exact guessW_le K _
  · exact Nat.zero_le _
theorem costTo_le {S : List StatZ} {ls : List LitZ} (K : Known S ls) (xs : List Int) : ∀ i, costTo S ls xs i ≤ infW
  | 0 => Nat.zero_le _
  | i + 1 => fadd_le (costTo_le K xs i) (guessOf_le K _)

open Classical in
theorem costE_bad {r : RuleZ} {S : List StatZ} {xs : List Int} (h : errR r S ≠ 0) : costE r S xs = (0, errR r S) := by unfold costE; rw [if_neg h]
open Classical in
theorem costE_none {r : RuleZ} {S : List StatZ} {xs : List Int} (h : errR r S = 0) (hs : ¬ orderOk r.2.1 xs) : costE r S xs = (0, 2) := by unfold costE; rw [if_pos h, if_neg hs]
open Classical in
theorem costE_some {r : RuleZ} {S : List StatZ} {xs : List Int} (h : errR r S = 0) (hs : orderOk r.2.1 xs) : costE r S xs = (costTo S r.2.1 xs xs.length, 0) := by unfold costE; rw [if_pos h, if_pos hs]

open Classical in
set_option maxRecDepth 100000 in
set_option maxHeartbeats 4000000 in
theorem refCostE_any (p : ByteArray) (hs : List TermZ) (ls : List LitZ) (ha : Option Addr) (hn hcap : Nat) (ba : Option Addr) (n bcap : Nat) (xs : List Int) (na : Option Addr) (m mcap : Nat) (S : List StatZ) (sa : Option Addr) (sn scap : Nat) (w : World) (G : Nat → Prop) (hhn : hn = hs.length) (hh : TermsAt w G ha hs) (hhl : hn ≤ 1048576) (hbn : n = ls.length) (h : LitsAt w G ba ls) (hf : Fit ls)
    (hm : m = xs.length) (hx : CellsAt w na (ints xs)) (hml : m ≤ 4611686018427387904) (hmc : m ≤ mcap) (hmx : mcap ≤ maxLen) (hsn : sn = S.length) (hS : StatsAt w sa S) (hSf : StatsFit S) :
    Calls Try.prog 15 #[ruleV p ha hn hcap ba n bcap, .slice na m mcap, .slice sa sn scap] w (RetN w fun w' v => v = .tuple #[.float .f64 (costE ((p, hs, ()), ls, ()) S xs).1, .int .i64 (costE ((p, hs, ()), ls, ()) S xs).2]) := by
  have hmx2 : mcap ≤ 9223372036854775807 := hmx
  obtain ⟨e, ee⟩ : ∃ e, e = errR ((p, hs, ()), ls, ()) S := ⟨_, rfl⟩
  have hr := fun (W : World) (hW : Ext w W) => refRight_any p hs ls ha hn hcap ba n bcap S sa sn scap W G hhn (hh.ext hW) hhl hbn (h.ext hW) hf hsn (hS.ext hW) hSf
  rw [← ee] at hr
  have HR := Lib.hid hr
  have HO := Lib.hid (fun (W : World) (hW : Ext w W) => refOrder_any p ls ha hn hcap ba n bcap xs na m mcap W G hbn (h.ext hW) hf hm (hx.ext hW) hml hmc hmx)
  have HSet := Lib.hid (fun (i : Nat) (hi : i ≤ m) (W : World) (hW : Ext w W) => refSet_any p ls ha hn hcap ba n bcap (xs.take i) na i mcap W G hbn (h.ext hW) hf (by rw [List.length_take]; omega) ((hx.intsTake i).ext hW) (by omega))
  have HG := Lib.hid (fun (he : e = 0) (inn : List Bool) (ia : Option Addr) (icap : Nat) (W : World) (hW : Ext w W) (hin : inn.length = n) (hI : CellsAt W ia (bools inn)) => refGuess_any p hs ls ha hn hcap ba n bcap inn ia icap S sa sn scap W G hhn (hh.ext hW) hhl hbn (h.ext hW) hf hin hI hsn (hS.ext hW) hSf (Known.of (errR_zero (ee.symm.trans he)).2) (errR_zero (ee.symm.trans he)).1)
  have HK := Lib.hid (fun (he : e = 0) => Known.of (errR_zero (ee.symm.trans he)).2)
  have EE := Lib.hid ee
  have HM := Lib.hid hm
  clear hr hhn hh hbn h hf hm hx hsn hS hSf ee hmx
  go_enter Try.func15, Try.ntmps15
  go_wp2_with fail
  obtain ⟨wb, eb⟩ : ∃ wb, w.alloc (.cells #[.string p, .slice ha hn hcap, .slice ba n bcap] 27) = wb := ⟨_, rfl⟩
  rw [eb]
  have HB := Lib.hid (Blk.new w [.string p, .slice ha hn hcap, .slice ba n bcap] 27)
  have HX := Lib.hid ((Kp.refl (F := fun _ => False) w).alloc (.cells #[.string p, .slice ha hn hcap, .slice ba n bcap] 27))
  have eb2 : w.alloc (.cells [Value.string p, .slice ha hn hcap, .slice ba n bcap].toArray 27) = wb := eb
  rw [eb2] at HB
  rw [eb] at HX
  clear eb eb2
  refine (HR.out _ HX.out).mono ?_
  rintro e1 w1 ⟨v, rfl, hk1, rfl⟩
  have X1 := Lib.hid (HX.out.trans hk1)
  have B1 := Lib.hid (HB.out.ext hk1)
  clear hk1 HX HB
  by_cases he : e = 0
  · subst he
    have HKn := Lib.hid (HK.out rfl)
    have r0 : w1.cell? ⟨w.heap.size, 0, none⟩ = some (.string p) := by rw [B1.out.cell']; rfl
    have r1 : w1.cell? ⟨w.heap.size, 1, none⟩ = some (.slice ha hn hcap) := by rw [B1.out.cell']; rfl
    have r2 : w1.cell? ⟨w.heap.size, 2, none⟩ = some (.slice ba n bcap) := by rw [B1.out.cell']; rfl
    go_wp2_with fail
    refine (HO.out _ X1.out).mono ?_
    rintro e1 w2 ⟨v, rfl, hk2, rfl⟩
    have X2 := Lib.hid (X1.out.trans hk2)
    have B2 := Lib.hid (B1.out.ext hk2)
    clear hk2 r0 r1 r2
    by_cases ho : orderOk ls xs
    · rw [decide_eq_true ho]
      have HOk := Lib.hid ho
      clear ho
      go_wp2
      go_loopw [10, 9] (fun iv sv wr => ∃ i x : Nat, i ≤ m ∧ iv = .int .i64 ((i : Int) + 1) ∧ sv = .float .f64 x ∧ Hid (x = costTo S ls xs i) ∧ Hid (Ext w2 wr)) (fun iv _ _ => m + 1 - (intOf iv).toNat)
      case atStart => exact ⟨0, 0, Nat.zero_le _, rfl, rfl, rfl, Kp.refl _⟩
      case round =>
        obtain ⟨i, x, hi, rfl, rfl, hx, hex⟩ := hrel
        have XR := Lib.hid (X2.out.trans hex.out)
        by_cases hlt : i < m
        · have r0 : wr.cell? ⟨w.heap.size, 0, none⟩ = some (.string p) := by rw [(B2.out.ext hex.out).cell']; rfl
          have r1 : wr.cell? ⟨w.heap.size, 1, none⟩ = some (.slice ha hn hcap) := by rw [(B2.out.ext hex.out).cell']; rfl
          have r2 : wr.cell? ⟨w.heap.size, 2, none⟩ = some (.slice ba n bcap) := by rw [(B2.out.ext hex.out).cell']; rfl
          have i1 : (i : Int) + 1 ≤ (mcap : Int) := by omega
          have i2 : (i : Int) + 1 ≤ (m : Int) := by omega
          have i3 : ((i : Int) + 1).toNat = i + 1 := by omega
          have i4 : (0 : Int) ≤ (i : Int) + 1 := by omega
          have i5 : i + 1 ≤ mcap := by omega
          have HSi := Lib.hid (HSet.out (i + 1) hlt)
          obtain ⟨inn, hinn⟩ := Option.isSome_iff_exists.1 (HOk.out.2 (i + 1) (by have := HM.out; omega))
          have HInn := Lib.hid hinn
          have hq : (setOk ls (xs.take (i + 1))).isSome = true := by rw [hinn]; rfl
          clear hinn
          have hrun := fun t W => add_run (s := x) (d := guessW S ls inn) (by rw [hx.out]; exact costTo_le HKn.out xs i) (guessW_le HKn.out inn) t W
          go_wp2
          go_region_held3 (fun w' => w'.cell? ⟨w.heap.size, 0, none⟩ = some (.string p) ∧ w'.cell? ⟨w.heap.size, 1, none⟩ = some (.slice ha hn hcap) ∧ w'.cell? ⟨w.heap.size, 2, none⟩ = some (.slice ba n bcap)) (first | exact ⟨by assumption, by assumption, by assumption⟩ | go_keep)
            (first | (go_at_call 35; refine (HSi.out _ XR.out.drew).mono ?_; rintro e1 w3 ⟨v, rfl, hk1, a, mm, c, rfl, hso⟩; rw [hq]; have q0 := hk1.cell (w := wr.drew) r0 id; have q1 := hk1.cell (w := wr.drew) r1 id; have q2 := hk1.cell (w := wr.drew) r2 id; obtain ⟨rfl, hI, hin⟩ := hso inn HInn.out; have HI := Lib.hid (And.intro hin (And.intro hI (hex.out.drew.trans hk1))); clear hso hI hin hk1))
          go_wp2_with fail
          refine (HG.out (by first | rfl | trivial) inn _ _ _ (X2.out.trans HI.out.2.2) HI.out.1 HI.out.2.1).mono ?_
          rintro e1 w4 ⟨v, rfl, hk3, rfl⟩
          have X4 := Lib.hid (HI.out.2.2.trans hk3)
          clear hk3 r0 r1 r2 q0 q1 q2
          go_wp2
          go_roundw
          case rel => exact ⟨i + 1, _, by omega, by first | rfl | (congr 1; done) | (congr 1; omega), by first | rfl | trivial, Lib.hid (by rw [hx.out, ← guessOf_some HInn.out]; rfl), X4⟩
          case measure => simp [intOf]; omega
        · obtain rfl : i = m := by omega
          have HFin := Lib.hid (hx.out.trans (by rw [HM.out]))
          clear hx
          go_wp2
          go_ret2
          exact RetN.mk XR.out (by rw [costE_some EE.out.symm HOk.out, HFin.out]; rfl)
    · rw [decide_eq_false ho]
      have HNo := Lib.hid ho
      clear ho
      go_wp2
      go_ret2
      exact RetN.mk X2.out (by rw [costE_none EE.out.symm HNo.out]; rfl)
  · have b1 : ((e : Int) == 0) = false := by simp; omega
    have b2 : ((e : Int) != 0) = true := by simp; omega
    have HH := Lib.hid he; clear he
    go_wp2
    go_ret2
    exact RetN.mk X1.out (by rw [costE_bad (fun x => HH.out (EE.out.trans x)), ← EE.out]; first | done | rfl)
end Go.Proofs.Ytcphalpcdcddpaa

/- A region that draws its order, walked in the text's order, guards and all: the laws beneath the lines that takes.py prints. No program in sight. -/
namespace Go.Proofs.Ytcphalpcdcddpaa
set_option linter.unusedVariables false

section
variable {P : Program} {l : List Oper} {Q : Exit → Act → World → Prop} {md : Region.Mode} {S : World → Prop} {fuel : Nat} {listed : Array Bool} {a : Act} {w : World}
theorem op_at {i : Nat} {oi : Oper} (hi : l[i]? = some oi) : l.toArray[i]? = some oi := by rw [List.getElem?_toArray]; exact hi
theorem and3 {a b c : Bool} (h : (a && b && c) = true) : a = true ∧ b = true ∧ c = true := by
  cases a <;> cases b <;> cases c <;> simp_all
/-- It is wanted and yields v. -/
theorem take_in {i : Nat} {oi : Oper} {v : Value} (hi : l[i]? = some oi) (hy : ∀ w, S w → (execOp a.eval oi).run P w = .ok (.value v) w)
    (h : wpAnyH P md l.toArray Q S fuel (listed.setIfInBounds i true) (a.put oi.dst v) w)
    (side : (Region.noSelect l.toArray && Region.free md l.toArray listed i && (Region.ready md l.toArray listed).contains i) = true := by kernel_rfl)
    (hw : Region.wanted oi (yielded l.toArray a.tmps) = true := by rfl) (hQ : ∀ c a w, Q (.panic c) (a.put oi.dst v) w → Q (.panic c) a w := by exact fun _ _ _ h => h) (hS : S w := by assumption) :
    wpAnyH P md l.toArray Q S (fuel + 1) listed a w :=
  wpAnyH_take (op_at hi) (and3 side).1 (and3 side).2.1 (and3 side).2.2 hQ (.inl ⟨hw, hy⟩) hS h
/-- Its guard says no. -/
theorem take_out {i : Nat} {oi : Oper} (hi : l[i]? = some oi) (h : wpAnyH P md l.toArray Q S fuel (listed.setIfInBounds i true) (a.put oi.dst undef) w)
    (side : (Region.noSelect l.toArray && Region.free md l.toArray listed i && (Region.ready md l.toArray listed).contains i) = true := by kernel_rfl)
    (hw : Region.wanted oi (yielded l.toArray a.tmps) = false := by rfl) (hQ : ∀ c a w, Q (.panic c) (a.put oi.dst undef) w → Q (.panic c) a w := by exact fun _ _ _ h => h) (hS : S w := by assumption) :
    wpAnyH P md l.toArray Q S (fuel + 1) listed a w :=
  wpAnyH_take (op_at hi) (and3 side).1 (and3 side).2.1 (and3 side).2.2 hQ (.inr ⟨hw, rfl⟩) hS h
/-- It alone may come up. -/
theorem take_call {i : Nat} {o : Oper} (ho : l[i]? = some o)
    (h : ∀ K' : Act → World → Prop, Shut (∀ a w, S w → (S w → wpAnyH P md l.toArray Q S fuel (listed.setIfInBounds i true) a w) → K' a w) → if Region.wanted o (yielded l.toArray a.tmps) = true then Oper.wp P o a w K' Q else K' (a.put o.dst undef) w)
    (hr : Region.ready md l.toArray listed = [i] := by kernel_rfl) : wpAnyH P md l.toArray Q S (fuel + 1) listed a w :=
  wpAnyH_ready hr (by simp) (AllReadyH.cons (op_at ho) h AllReadyH.nil)
end
end Go.Proofs.Ytcphalpcdcddpaa
