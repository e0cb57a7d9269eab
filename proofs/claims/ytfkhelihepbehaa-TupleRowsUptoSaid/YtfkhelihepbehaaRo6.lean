/- Texts joined for a claim (BenchTold, BenchStepOther, BenchStepAdd, BenchStepDrop, BenchStepHas, BenchPut, BenchStepNew). -/
import Derived.Test.YtfkhelihepbehaaRo5
import Derived.Deep.RegionHeld3
import Derived.Deep.RegionWith
/- bench.told: what the Rows tell is what the document's tell. -/
namespace Go.Proofs.Ytfkhelihepbehaa
open Go.RowKit Go.Shelf
set_option linter.unusedVariables false
attribute [local go_sem] Oper.semAt_some

/-- Between two rounds of the loop over At. -/
def ToldD (S : Nat → Prop) (w : World) (bd : Nat) (D : Bench3) (z : Nat) (aow : Option Addr) (L : List (List ByteArray)) (va : Value) (n : Nat) (kv : Value) (W : World) : Prop :=
  ∃ i : Int, -1 ≤ i ∧ i ≤ n + 1 ∧ kv = .int .i64 i ∧ TB S w bd D z aow L [] W ∧ OwnRows z W va L
/-- A row written over so far. -/
def SpoilR (B : Nat) (w0 : World) (x : RowZ) (m : Nat) (kv : Value) (W : World) : Prop := ∃ i : Nat, i ≤ m ∧ kv = .int .i64 i ∧ Kp (fun g => B ≤ g) w0 W ∧ RoomRow (fun g => B ≤ g) W x m
/-- Between two rounds of the loop over Same. -/
def ToldJ (S : Nat → Prop) (w : World) (bd : Nat) (D : Bench3) (z : Nat) (aow : Option Addr) (L : List (List ByteArray)) (ds : List Deferred) (kv : Value) (W : World) : Prop :=
  ∃ i : Nat, i ≤ 3 ∧ kv = .int .i64 i ∧ TB S w bd D z aow L ds W
/-- Rows written over in part: their list as it was, the rows' cells there. -/
def SpoilSt (z : Nat) (w0 : World) (va : Value) (ps : List RowP) (W : World) : Prop :=
  Kp (fun g => z ≤ g) w0 W ∧ Row W 22 1 va ps.length (rowVs ps) (fun g => z ≤ g) ∧ ∀ p ∈ ps, RoomRow (fun g => z ≤ g) W p.1 p.2.length
def SpoilAll (z : Nat) (w0 : World) (va : Value) (ps : List RowP) (n : Nat) (kv : Value) (W : World) : Prop := ∃ i : Nat, i ≤ n ∧ kv = .int .i64 i ∧ SpoilSt z w0 va ps W
theorem SpoilSt.set {z : Nat} {w0 W : World} {va : Value} {ps : List RowP} (h : SpoilSt z w0 va ps W) {g : Nat} {cs : List Value} (hB : Blk W g cs 9) (hz : z ≤ g) (i : Nat) (v : Value) : SpoilSt z w0 va ps (W.setCell ⟨g, i, none⟩ v) := by
  obtain ⟨h1, h2, h3⟩ := h
  refine ⟨h1.setCell (fun _ => hz) _, h2.kp' (Kp.setCell (F := fun k => k = g) (Kp.refl W) (fun _ => rfl) v) fun g' hg' _ e => ?_, fun p hp => (h3 p hp).set g i v⟩
  subst e
  obtain ⟨cs', hb', _⟩ := h2.has hg'
  unfold Blk at hB hb'
  rw [hB] at hb'
  simp only [Option.some.injEq, Obj.cells.injEq] at hb'
  exact absurd hb'.2.1 (by decide)
section
variable {S : Nat → Prop} {w : World} {bd : Nat} {D : Bench3}
set_option maxRecDepth 100000 in
set_option maxHeartbeats 8000000 in
theorem benchTold_any (h : BenchAt S w bd D) {k : Nat} (hk : k < 3) :
    Calls Try.prog 25 #[.pointer (some ⟨bd, 0, none⟩), .int .i64 (k : Int)] w (RetF (BenchF D) w fun w' v => v = .bool true ∧ BenchAt S w' bd D) := by
  refine callsIn_wide.1 (callsIn_of_wp_marks (n := 4) Try.func25 rfl trivial ?_ rfl)
  refine wpIn_wide.2 ?_
  obtain ⟨Q, eQ⟩ : ∃ Q, Q = bodyPostM Fence.wide 4 Try.prog Try.f25 (RetF (BenchF D) w fun w' v => v = .bool true ∧ BenchAt S w' bd D) := ⟨_, rfl⟩
  rw [← eQ]
  have EQ := Lib.hid eQ; clear eQ
  have c1 := h.cr hk
  have c2 := h.cm hk
  obtain ⟨p, ep⟩ := (h.rows k hk).ptr
  obtain ⟨q, eq⟩ := (h.refs k hk).ptr
  have hb := h.both k hk
  have HPL := Lib.hid (fun g (hg : FP (.pointer p) g) => (h.rows k hk).ownLt g (FP.own (by rw [ep]; exact hg)))
  rw [ep] at c1 hb
  rw [eq] at c2 hb
  have H := Lib.hid (And.intro h hk)
  have HMA := Lib.hid (refP_all ((h.ext (Kp.refl w).drew).refs k hk))
  rw [eq] at HMA
  obtain ⟨n, en⟩ : ∃ n, n = (D.LL k).length := ⟨_, rfl⟩
  have EN := Lib.hid en
  have hn40 : n ≤ 1048576 * 1048576 := by have := (h.good k hk).2.2; omega
  have HLEN := Lib.hid (show ∀ (z : Nat) (aow : Option Addr) (L : List (List ByteArray)) (ds : List Deferred) W, TB S w bd D z aow L ds W → Calls Try.prog 76 #[.pointer p] W (RetF (FP (.pointer p)) W fun w' v => v = .int .i64 (n : Nat) ∧ TB S w bd D z aow L ds w') from fun _ _ _ _ W ht => by have := ht.len hk; rwa [ep, ← en] at this)
  have HARI := Lib.hid (show ∀ (z : Nat) (aow : Option Addr) (L : List (List ByteArray)) (ds : List Deferred) W, TB S w bd D z aow L ds W → Calls Try.prog 77 #[.pointer p] W (Ret (.int .i64 (D.ar k : Nat)) W) from fun _ _ _ _ W ht => by have := rowsP_arity (ht.b.rows k hk); rwa [ep] at this)
  have HMAR := Lib.hid (show ∀ (z : Nat) (aow : Option Addr) (L : List (List ByteArray)) (ds : List Deferred) W, TB S w bd D z aow L ds W → Calls Try.prog 78 #[.pointer q] W (Ret (.int .i64 (D.ar k : Nat)) W) from fun _ _ _ _ W ht => by have := refP_arity (ht.b.refs k hk); rwa [eq] at this)
  have HALL := Lib.hid (show ∀ (z : Nat) (aow : Option Addr) (L : List (List ByteArray)) (ds : List Deferred) W, TB S w bd D z aow L ds W → Calls Try.prog 75 #[.pointer p] W (RetF (FP (.pointer p)) W fun w' v => TB S w bd D z aow L ds w' ∧ OwnRows W.heap.size w' v (D.LL k)) from fun _ _ _ _ W ht => by have := ht.all hk; rwa [ep] at this)
  have HATI := Lib.hid (show ∀ (z : Nat) (aow : Option Addr) (L : List (List ByteArray)) (ds : List Deferred) W, TB S w bd D z aow L ds W → ∀ (i : Nat) ss, (D.LL k)[i]? = some ss → Calls Try.prog 80 #[.pointer p, .int .i64 i] W (RetF (FP (.pointer p)) W fun w' v => ∃ r, v = .tuple #[r, .bool true] ∧ TB S w bd D z aow L ds w' ∧ OwnRow W w' r ss) from fun _ _ _ _ W ht i ss hi => by have := ht.atIn hk i ss hi; rwa [ep] at this)
  have HATO := Lib.hid (show ∀ (z : Nat) (aow : Option Addr) (L : List (List ByteArray)) (ds : List Deferred) W, TB S w bd D z aow L ds W → ∀ (i : Int), (i < 0 ∨ n ≤ i) → Calls Try.prog 80 #[.pointer p, .int .i64 i] W (RetF (FP (.pointer p)) W fun w' v => ∃ r, v = .tuple #[r, .bool false] ∧ TB S w bd D z aow L ds w' ∧ OwnRow W w' r []) from fun _ _ _ _ W ht i hi => by have := ht.atOut hk i (by rw [← en]; exact hi); rwa [ep] at this)
  have HEACH := Lib.hid (show ∀ (z : Nat) (aow : Option Addr) (L : List (List ByteArray)) (ds : List Deferred) W, TB S w bd D z aow L ds W → Calls Try.prog 81 #[.pointer p] W (RetF (FP (.pointer p)) W fun w' v => TB S w bd D z aow L ds w' ∧ EachRows W.heap.size w' v (D.LL k)) from fun _ _ _ _ W ht => by have := ht.each hk; rwa [ep] at this)
  have k0 : (k : Int) < 3 := by omega
  obtain ⟨r, hq1, hq2⟩ : ∃ r : Bool, (∀ w : World, (binOp .eql 52 (.pointer p) (.pointer none)).run Try.prog w = .ok (.bool r) w) ∧ ∀ w : World, (binOp .eql 54 (.pointer q) (.pointer none)).run Try.prog w = .ok (.bool r) w := by
    cases p with
    | none =>
      cases q with
      | none => exact ⟨true, fun _ => by kernel_rfl, fun _ => by kernel_rfl⟩
      | some b => cases hb
    | some a =>
      cases q with
      | none => cases hb
      | some b => exact ⟨false, fun _ => by kernel_rfl, fun _ => by kernel_rfl⟩
  have t0 : (r != r) = false := by cases r <;> rfl
  have HEP := Lib.hid (And.intro ep eq)
  clear h ep eq hb en
  simp only [Try.ntmps25, List.size_toArray, List.length_cons, List.length_nil, Nat.reduceAdd, Nat.reduceSub, Array.replicate_succ, Array.replicate_zero, List.push_toArray, List.append_toArray, List.nil_append, List.cons_append]
  go_wp2_with fail
  go_region_held3 (fun w' => w'.cell? ⟨bd, k, none⟩ = some (.pointer p) ∧ w'.cell? ⟨bd, 3 + k, none⟩ = some (.pointer q)) (first | exact ⟨by assumption, by assumption⟩ | go_keep) (fail)
  go_wp2_with fail
  refine HMA.out.mono ?_
  rintro e w1 ⟨vw, rfl, hk1, hown⟩
  obtain ⟨aow, capw, ev, hin⟩ := hown.shape
  rw [← EN.out] at ev
  subst ev
  have hx1 : Ext w w1 := (Kp.refl w).drew.trans hk1
  have ht1 : TB S w bd D w1.heap.size aow (D.LL k) [] w1 := ⟨H.out.1, H.out.1.ext hx1, Ext.kp hx1, hx1.size, Nat.le_refl _, hin, Marks.nil _ _⟩
  have hz1 : w.heap.size ≤ w1.heap.size := hx1.size
  have HT := Lib.hid ht1
  clear hown hin ht1 hx1 hk1 HMA c1 c2
  go_wp2_with fail
  refine (HALL.out _ _ _ _ _ HT.out).mono ?_
  rintro e w2 ⟨va, rfl, hk2, ht2, hown2⟩
  obtain ⟨aoa, capa, ev, hina⟩ := hown2.shape
  rw [← EN.out] at ev
  subst ev
  have hz2 := hk2.size
  have HT := Lib.hid ht2
  have HA2 := Lib.hid hina
  have HO2 := Lib.hid hown2
  clear hown2 hina ht2 hk2
  go_wp2_with fail
  refine (HLEN.out _ _ _ _ _ HT.out).mono ?_
  rintro e w3 ⟨v3, rfl, hk3, rfl, ht3⟩
  have HT := Lib.hid ht3
  have HA3 := Lib.hid (HA2.out.kp hk3 fun g hg hs => by have := HPL.out g hg; omega)
  have HO3 := Lib.hid (HO2.out.kp hk3 fun g hg hf => by have := HPL.out g hf; omega)
  have hz3 := hk3.size
  clear ht3 hk3
  go_wp2_with fail
  refine (HARI.out _ _ _ _ _ HT.out).mono ?_
  rintro e w4 ⟨rfl, rfl⟩
  go_wp2_with fail
  refine (HMAR.out _ _ _ _ _ HT.out).mono ?_
  rintro e w4 ⟨rfl, rfl⟩
  go_wp2_with fail
  refine (rows_yes aoa aow n capa capw EN.out HA3.out HT.out.want hn40).mono ?_
  rintro e w5 ⟨v5, rfl, hk5, rfl⟩
  have HO5 := Lib.hid (HO3.out.ext hk5)
  have ht5 := HT.out.ext hk5
  have HT := Lib.hid ht5
  have hz5 := hk5.size
  clear ht5 hk5 hq1 hq2 t0
  go_wp2_with fail
  have hz15 : w1.heap.size ≤ w5.heap.size := by omega
  clear k0
  go_loopw [9] (ToldD S w bd D w1.heap.size aow (D.LL k) (.slice aoa n capa) n) (fun kv _ => (n + 1 - intOf kv).toNat)
  case atStart => exact ⟨-1, by omega, by omega, rfl, HT.out, HO5.out⟩
  case round =>
    obtain ⟨i, hi1, hi2, rfl, ht, ho⟩ := hrel
    obtain ⟨W0, rfl⟩ : ∃ W0, W0 = wr := ⟨wr, rfl⟩
    by_cases hle : i ≤ n
    · have ew1 : wrap64 (i + 1) = i + 1 := by unfold wrap64; omega
      by_cases hin : 0 ≤ i ∧ i < n
      · obtain ⟨j, rfl⟩ := Int.eq_ofNat_of_zero_le hin.1
        have hj : j < n := Int.ofNat_lt.1 hin.2
        obtain ⟨y, hy⟩ : ∃ y, (D.LL k)[j]? = some y := ⟨_, List.getElem?_eq_getElem (by rw [← EN.out]; exact hj)⟩
        have HX := Lib.hid (HATI.out _ _ _ _ _ ht j y hy)
        have HO := Lib.hid ho
        have hzW := ht.zW
        have HY := Lib.hid hy
        clear ht ho hy hin hi1 hi2 hle
        go_wp2_with fail
        refine HX.out.mono ?_
        rintro e w7 ⟨v7, rfl, hk7, r7, rfl, ht7, hr7⟩
        obtain ⟨ao7, cap7, ev, hc7, _⟩ := hr7.shape
        subst ev
        obtain ⟨g, o, xa, xcap, eao, c3, hcy, hly, _⟩ := ht7.want.get HY.out
        have HS7 := Lib.hid (same_yes y ao7 xa cap7 xcap w7 hc7 hcy (by unfold maxLen; omega))
        have HK7 := Lib.hid (And.intro hk7 (And.intro ht7 (And.intro hr7 eao)))
        subst eao
        have j1 : (j : Int) < (n : Int) := by omega
        have j2 : (0 : Int) ≤ (j : Int) := by omega
        clear hk7 ht7 hr7 hc7 hcy
        go_wp2_with fail
        refine HS7.out.mono ?_
        rintro e w8 ⟨rfl, n8, rfl⟩
        clear c3
        go_wp2_with fail
        go_loopw [12] (SpoilR W0.heap.size (w7.drewN n8) ((ao7, y.length, cap7)) y.length) (fun kv _ => y.length - (intOf kv).toNat)
        case atStart => exact ⟨0, Nat.zero_le _, rfl, Kp.refl _, RoomRow.of_row (x := (ao7, y.length, cap7)) ((HK7.out.2.2.1 : Row w7 9 1 (.slice ao7 y.length cap7) y.length (strs y) (New W0)).drewN n8)⟩
        case round =>
          obtain ⟨i2, hi2, rfl, hk9, hroom⟩ := hrel
          by_cases hlt : i2 < y.length
          · obtain h0 | ⟨g9, cap9, cs9, e9, hg9, hB9, hl9⟩ := hroom
            · omega
            · cases e9
              have c8 := hB9.cell i2 (by omega)
              have c9 := hB9.free i2
              have b1 : (i2 : Int) < (y.length : Int) := by omega
              have hg9' : W0.heap.size ≤ g9 := hg9
              have HB9 := Lib.hid (RoomRow.set (F := fun g => W0.heap.size ≤ g) (x := (some ⟨g9, 0, none⟩, y.length, cap7)) (n := y.length) (.inr ⟨g9, _, cs9, rfl, hg9', hB9, hl9⟩) g9 i2 (.string ⟨#[115, 112, 111, 105, 108, 116]⟩))
              clear hB9 hg9
              go_wp2
              go_roundw
              case rel => exact ⟨i2 + 1, by omega, by go_num, hk9.setCell (fun _ => hg9') _, HB9.out⟩
              case measure => first | (simp [intOf]; done) | (simp [intOf]; omega)
          · have ei2 : i2 = y.length := by omega
            clear hroom
            have hsub := hk9
            obtain ⟨hk7, ht7, hr7, eao⟩ := HK7.out
            have kq : Kp (fun g => FP (.pointer p) g ∨ W0.heap.size ≤ g) W0 wr := ((hk7.mono fun _ _ h => .inl h).drewN n8).trans (hk9.mono fun _ _ h => .inr h)
            have ht9 : TB S w bd D w1.heap.size (some ⟨g, o, none⟩) (D.LL k) [] wr := (ht7.ext ((Kp.refl w7).drewN n8)).fresh (hk9.mono fun g _ h => by omega)
            have ho9 := HO.out.kp (kq.mono (G := FP (.pointer p)) fun g hg h => by rcases h with h | h; exact h; omega) fun g hg hf => by have := HPL.out g hf; omega
            have HF := Lib.hid (And.intro ht9 ho9)
            clear kq ht9 ho9 hk9 hsub hk7 ht7 hr7 eao
            subst ei2
            go_wp2
            go_roundw
            case rel => exact ⟨(j : Int) + 1, by omega, by omega, by first | rfl | (congr 1; done) | (congr 1; omega), HF.out.1, HF.out.2⟩
            case measure => first | (simp [intOf]; done) | (simp [intOf]; omega)
      · have hor : i < 0 ∨ n ≤ i := by omega
        have hii : i = -1 ∨ i = n := by omega
        have HX := Lib.hid (HATO.out _ _ _ _ _ ht i hor)
        have HO := Lib.hid ho
        have hzW := ht.zW
        clear ht ho hin hi1 hi2 hle hor
        rcases hii with rfl | rfl
        all_goals
          go_wp2_with fail
          refine HX.out.mono ?_
          rintro e w7 ⟨v7, rfl, hk7, r7, rfl, ht7, hr7⟩
          obtain ⟨ao7, cap7, ev, hc7, _⟩ := hr7.shape
          simp only [List.length_nil] at ev
          subst ev
          have ho9 := HO.out.kp hk7 fun g hg hf => by have := HPL.out g hf; omega
          have HF := Lib.hid (And.intro ht7 ho9)
          clear ht7 ho9 hk7 hr7 hc7
          go_wp2_with fail
          go_loopw [12] (fun kv W => kv = .int .i64 0 ∧ W = w7) (fun _ _ => 0)
          case atStart => exact ⟨rfl, rfl⟩
          case round =>
            obtain ⟨rfl, ew⟩ := hrel
            subst ew
            go_wp2
            go_roundw
            case rel => first | exact ⟨0, by omega, by omega, by first | rfl | (congr 1; done) | (congr 1; omega), HF.out.1, HF.out.2⟩ | exact ⟨(n : Int) + 1, by omega, by omega, by first | rfl | (congr 1; done) | (congr 1; omega), HF.out.1, HF.out.2⟩
            case measure => first | (simp [intOf]; done) | (simp [intOf]; omega)
    · obtain rfl : i = n + 1 := by omega
      have HT := Lib.hid ht
      obtain ⟨ps, hL, r2, r3, r4⟩ := ho
      have hpn : ps.length = n := by rw [EN.out, hL]; simp
      have hst : SpoilSt w1.heap.size W0 (.slice aoa n capa) ps W0 := ⟨Kp.refl _, r2, fun p hp => RoomRow.of_row (r3 p hp).1⟩
      have PM := Lib.hid (And.intro hpn (show ∀ p ∈ ps, p.1.2.1 = p.2.length ∧ p.2.length ≤ 8796093021952 from fun p hp => ⟨(r3 p hp).1.readsAs.1.1, (r3 p hp).2⟩))
      have HST := Lib.hid hst
      clear ht hi1 hi2 hle hL r2 r3 r4 hst hpn
      go_wp2_with fail
      go_loopw [13] (SpoilAll w1.heap.size W0 (.slice aoa n capa) ps n) (fun kv _ => n - (intOf kv).toNat)
      case atStart => exact ⟨0, Nat.zero_le _, rfl, HST.out⟩
      case round =>
        obtain ⟨i, hi, rfl, hst⟩ := hrel
        obtain ⟨W1, rfl⟩ : ∃ W1, W1 = wr := ⟨wr, rfl⟩
        by_cases hlt : i < n
        · obtain ⟨⟨⟨ax, mx, cx⟩, ss⟩, hp⟩ : ∃ p, ps[i]? = some p := ⟨_, List.getElem?_eq_getElem (by have := PM.out.1; omega)⟩
          have hmx : mx = ss.length := (PM.out.2 _ (List.mem_of_getElem? hp)).1
          have hsl : ss.length ≤ 8796093021952 := (PM.out.2 _ (List.mem_of_getElem? hp)).2
          subst hmx
          have HP := Lib.hid hp
          have HS1 := Lib.hid hst
          have i1 : (i : Int) < (n : Int) := by omega
          have i2 : (0 : Int) ≤ (i : Int) := by omega
          clear hp hst
          go_wp2_with fail
          go_loopw [14] (SpoilAll w1.heap.size W0 (.slice aoa n capa) ps ss.length) (fun kv _ => ss.length - (intOf kv).toNat)
          case atStart => exact ⟨0, Nat.zero_le _, rfl, HS1.out⟩
          case round =>
            obtain ⟨m, hm, rfl, hst⟩ := hrel
            obtain ⟨g, o, eao, c3⟩ : ∃ g o, aoa = some ⟨g, o, none⟩ ∧ wr.cell? ⟨g, o + i, none⟩ = some (.slice ax ss.length cx) := by
              obtain ⟨ao, cap, e, hc, _⟩ := hst.2.1.shape
              simp only [Value.slice.injEq] at e
              obtain ⟨rfl, _, _⟩ := e
              exact hc i _ (rowVs_get ps i _ HP.out)
            subst eao
            by_cases hlt2 : m < ss.length
            · obtain h0 | ⟨g9, cap9, cs9, e9, hg9, hB9, hl9⟩ := hst.2.2 _ (List.mem_of_getElem? HP.out)
              · have h0 : ss.length = 0 := h0
                omega
              · cases e9
                have hl9 : ss.length ≤ cs9.length := hl9
                have c8 := hB9.cell m (by omega)
                have c9 := hB9.free m
                have b1 : (m : Int) < (ss.length : Int) := by omega
                have HB9 := Lib.hid (hst.set hB9 hg9 m (.string ⟨#[115, 112, 111, 105, 108, 116]⟩))
                clear hB9 hst hg9
                go_wp2
                go_roundw
                case rel => exact ⟨m + 1, by omega, by go_num, HB9.out⟩
                case measure => first | (simp [intOf]; done) | (simp [intOf]; omega)
            · have em : m = ss.length := by omega
              have HS2 := Lib.hid hst
              clear hst hm hlt2
              subst em
              go_wp2
              go_roundw
              case rel => exact ⟨i + 1, by omega, by first | rfl | (congr 1; done) | (congr 1; omega), HS2.out⟩
              case measure => first | (simp [intOf]; done) | (simp [intOf]; omega)
        · have ei : i = n := by omega
          have htE := HT.out.fresh hst.1
          have HT := Lib.hid htE
          clear htE hst hlt hi
          obtain rfl : n = i := ei.symm
          go_wp2_with fail
          refine (HEACH.out _ _ _ _ _ HT.out).mono ?_
          rintro e w10 ⟨v10, rfl, hk10, ht10, Bs, ivx, rfl, hBs, hBB, hownx, hln⟩
          obtain ⟨aox, capx, ev, _⟩ := hownx.shape
          rw [← EN.out] at ev hln
          subst ev
          have hq0 : ∀ w : World, (binOp .eql 113 (.func (Fn.func 140) #[] #[.pointer (some ⟨Bs, 0, none⟩)]) .nilFunc).run Try.prog w = .ok (.bool false) w := fun _ => by kernel_rfl
          obtain ⟨ps2, hL2, x2, x3, x4⟩ := hownx
          have hp2 : ps2.length = n := by rw [EN.out, hL2]; simp
          have hza := HT.out.zW
          have hBsw := hBB.lt
          obtain ⟨SB, eSB⟩ : ∃ SB : Nat → Prop, SB = fun g => g = Bs ∨ (Value.slice aox n capx).ownBlock = some g := ⟨_, rfl⟩
          have hSlt : ∀ g, SB g → g < w10.heap.size := fun g hg => by
            rw [eSB] at hg
            rcases hg with rfl | hg
            · exact hBsw
            · exact x2.lt g hg
          have x3' : ∀ p ∈ ps2, Row w10 9 1 (rowOf p) p.2.length (strs p.2) (fun g => w1.heap.size ≤ g ∧ g < w10.heap.size ∧ ¬ SB g) := fun p hp => by
            obtain ⟨h1, _⟩ := x3 p hp
            have hb := h1.block
            have hl := h1.lt
            have hne := fun g hg => h1.sort_ne x2 (by decide) (g := g) hg
            have hbs : ∀ g, (rowOf p).ownBlock = some g → g ≠ Bs := fun g hg e => by
              subst e
              obtain ⟨cs, hb1, _⟩ := h1.has hg
              unfold Blk at hb1 hBB
              rw [hb1] at hBB
              simp only [Option.some.injEq, Obj.cells.injEq] at hBB
              exact absurd hBB.2.1 (by decide)
            refine Row.mono h1.own fun g hg => ⟨Nat.le_trans hza (hb g hg), hl g hg, fun hs => ?_⟩
            rw [eSB] at hs
            rcases hs with hs | hs
            · exact hbs g hg hs
            · exact hne g hg hs
          have hseq : ∀ Wb, SameOn SB w10 Wb → SeqStopsK Fence.wide 3 Try.prog 140 #[.pointer (some ⟨Bs, 0, none⟩)] (fun x : { p : RowP // p ∈ ps2 } => #[.slice x.1.1.1 x.1.1.2.1 x.1.1.2.2]) (SameOn SB) (fun ys => ys = ps2.attach) (fun pre => pre <+: ps2.attach) ps2.attach.length Wb := fun Wb hWb => by
            have hSBs : SB Bs := by rw [eSB]; exact .inl rfl
            have hSBa : ∀ a, aox = some a → SB a.block := fun a e => by rw [eSB]; subst e; exact .inr rfl
            have hc0 : w10.cell? ⟨Bs, 0, none⟩ = some (.slice aox n capx) := by rw [hBB.cell']; rfl
            have hc1 := (hWb.cell (o := 0) hSBs).trans hc0
            have hcs : CellsAt w10 aox (ps2.attach.map fun x => rowOf x.1) := by
              obtain ⟨ao, cap, e, hc, _⟩ := x2.shape
              simp only [Value.slice.injEq] at e
              obtain ⟨rfl, _, _⟩ := e
              have e : (ps2.attach.map fun x : { p : RowP // p ∈ ps2 } => rowOf x.1) = rowVs ps2 := by
                have h : (ps2.attach.map fun x : { p : RowP // p ∈ ps2 } => rowOf x.1) = (ps2.attach.map Subtype.val).map rowOf := by rw [List.map_map]; rfl
                rw [h, List.attach_map_subtype_val]; rfl
              rw [e]; exact hc
            have hcs1 := hcs.sameOn hWb hSBa
            exact fun l J Jx W hW _ _ hY h0 => values1VRow_in (fun x : { p : RowP // p ∈ ps2 } => .slice x.1.1.1 x.1.1.2.1 x.1.1.2.2) Fence.wide 3 trivial rfl (by omega) SB l Bs aox n capx ps2.attach (by rw [List.length_attach]; exact hp2.symm) hln J Jx hY W hSBs hSBa ((Kp.of_below hW).cell hc1 id) (hcs1.ext (Kp.of_below hW)) h0
          have HQ := Lib.hid hseq
          have HX := Lib.hid (And.intro x3' (And.intro x4 (And.intro hSlt (And.intro hL2 (And.intro hp2 (show ∀ p ∈ ps2, p.2.length ≤ 8796093021952 from fun p hp => (x3 p hp).2))))))
          have htl := ht10.zW
          have HT := Lib.hid ht10
          clear hseq x2 x3 x3' x4 hSlt eSB hBB hBs hk10 ht10 hL2 hp2
          go_wp2_with fail
          have xa : Ext w10 (w10.alloc (.cells #[.slice none 0 0] 64)) := (Kp.refl w10).alloc _
          have hba : Blk (w10.alloc (.cells #[.slice none 0 0] 64)) w10.heap.size [.slice none 0 0] 64 := Blk.new w10 [_] _
          have hsza : w10.heap.size < (w10.alloc (.cells #[.slice none 0 0] 64)).heap.size := hba.lt
          obtain ⟨W11, e11⟩ : ∃ W, W = w10.alloc (.cells #[.slice none 0 0] 64) := ⟨_, rfl⟩
          rw [← e11] at xa hba hsza ⊢
          have E11 := Lib.hid e11
          clear e11
          refine' wpIn_wide.1 (wpIn_rangeFunc_ownG (F := Fence.wide) (n := 4) (w0 := w10) rfl (by omega) (gf := 140) (lb := #[.pointer (some ⟨Bs, 0, none⟩)]) rfl trivial (enters_of Try.func140 (by kernel_rfl) rfl)
            (HQ.out w10 (SameOn.refl _ _)) SameOn.trans (SameOn.put (fun k h => Nat.lt_trans (HX.out.2.2.1 k h) hsza)) xa.below (fun _ => rfl) (GotE w1.heap.size SB W11 w10.heap.size ps2) (fun _ _ _ => False) (GotE.own (Nat.le_refl _)) (fun _ _ _ _ _ h _ _ => h)
            ⟨by simp, Kp.refl _, ⟨_, [], rfl, hba, OwnRows.nil _ _, fun _ => rfl⟩, fun p hp => ⟨p.2, rfl, (HX.out.1 p hp).ext xa⟩, fun _ i p _ he => (HX.out.1 p (List.mem_of_getElem? he)).ext xa⟩ _ ?assign ?body ?done ?stop)
          case assign =>
            intro l x W K hK
            gi_wp2
            exact hK
          case stop =>
            rintro D c pre W _ _ h _
            exact h.elim
          case body =>
            rintro l pre ⟨⟨⟨ax, mx, cx⟩, sp⟩, hp⟩ X hgot hlen
            rw [List.length_attach] at hlen
            obtain ⟨ss, hls, hrow, hsc⟩ := hgot.row _ hp
            have hmx : mx = ss.length := (Row.readsAs hrow).1.1
            have hcx : CellsAt X ax (strs ss) := (Row.readsAs hrow).1.2
            subst hmx
            have hgl : pre.length ≤ ps2.length := hgot.1
            obtain ⟨v, LL', hLL, hBx, hox, hLc⟩ := hgot.2.2.1
            obtain ⟨ao1, n1, cap1, ev, _⟩ : ∃ ao n cap, v = .slice ao n cap ∧ True := by obtain ⟨ao, cap, e, _⟩ := hox.shape; exact ⟨_, _, _, e, trivial⟩
            subst ev
            have hzX := hgot.2.1.size
            have hsl : ss.length ≤ 8796093021952 := by rw [hls]; exact HX.out.2.2.2.2.2 _ hp
            have hll : LL'.length ≤ 1048576 * 1048576 := by have := HX.out.2.2.2.2.1; omega
            have hcB : X.cell? ⟨w10.heap.size, 0, none⟩ = some (.slice ao1 n1 cap1) := by rw [hBx.cell']; rfl
            obtain ⟨a1, m1, c1, y1, hrun1, ao3, n3, cap3, y3, hrun2, d1, d0, d2, f3, d3, ko, kX, hB3, ho3⟩ := gotE_app (cx := cx) hzX hsza hll hBx hox hcx hsl
            have d00 : (X.alloc (.cells #[] 9)).cell? ⟨w10.heap.size, 0, none⟩ = some (.slice ao1 n1 cap1) := by rw [(hBx.alloc _).cell']; rfl
            have HR := Lib.hid (And.intro hgot (And.intro hsc (And.intro hLL (And.intro hLc (And.intro hls hrow)))))
            have hrown := hrow.kp kX fun g hg hf => by rcases hf with hf | hf <;> omega
            have HN := Lib.hid (And.intro ko (And.intro kX (And.intro hB3 (And.intro ho3 hrown))))
            clear hgot hsc hLL hLc hls hrow ko kX hB3 ho3 hBx hox hcx hrown
            gi_wp2
            refine wpIn_region_any (by kernel_rfl) ?_
            change wpAnyIn _ _ _ _ _ _ _ _ _ (World.drew _)
            refine wpAnyIn_ready (rs := [0, 1, 2]) (by kernel_rfl) (by simp) (AllReadyIn.cons rfl (fun K hK => ?_) (AllReadyIn.cons rfl (fun K hK => ?_) (AllReadyIn.cons rfl (fun K hK => ?_) AllReadyIn.nil)))
            · go_simp
              refine hK _ _ ?_
              clear hK K
              refine wpAnyIn_ready (rs := [1, 2]) (by kernel_rfl) (by simp) (AllReadyIn.cons rfl (fun K hK => ?_) (AllReadyIn.cons rfl (fun K hK => ?_) AllReadyIn.nil))
              · go_simp
                refine hK _ _ ?_
                clear hK K
                refine wpAnyIn_ready (rs := [2]) (by kernel_rfl) (by simp) (AllReadyIn.cons rfl (fun K hK => ?_) AllReadyIn.nil)
                go_simp
                refine hK _ _ ?_
                clear hK K
                refine wpAnyIn_ready (rs := [3]) (by kernel_rfl) (by simp) (AllReadyIn.cons rfl (fun K hK => ?_) AllReadyIn.nil)
                refine stepIn_app (.tmp 141) (.tmp 142) rfl rfl rfl rfl hrun1 ?_
                refine hK _ _ ?_
                clear hK K
                refine wpAnyIn_ready (rs := [4]) (by kernel_rfl) (by simp) (AllReadyIn.cons rfl (fun K hK => ?_) AllReadyIn.nil)
                go_simp
                refine hK _ _ ?_
                clear hK K
                refine wpAnyIn_ready (rs := [5]) (by kernel_rfl) (by simp) (AllReadyIn.cons rfl (fun K hK => ?_) AllReadyIn.nil)
                refine stepIn_app (.tmp 140) (.tmp 144) rfl rfl rfl rfl hrun2 ?_
                refine hK _ _ ?_
                clear hK K
                refine wpAnyIn_ready (rs := [6]) (by kernel_rfl) (by simp) (AllReadyIn.cons rfl (fun K hK => ?_) AllReadyIn.nil)
                go_simp
                refine hK _ _ ?_
                clear hK K
                refine wpAnyIn_done (by kernel_rfl) ?_ _
                gi_wp2
                gi_loopw [18] (SpoilX (y3.setCell ⟨w10.heap.size, 0, none⟩ (.slice ao3 n3 cap3)) ((ax, ss.length, cx), sp) ss.length (fun g => w1.heap.size ≤ g ∧ g < w10.heap.size ∧ ¬ SB g)) (fun kv _ => ss.length - (intOf kv).toNat)
                case atStart => exact ⟨0, Nat.zero_le _, rfl, Kp.refl _, ss, rfl, HN.out.2.2.2.2⟩
                case round =>
                  obtain ⟨i2, hi2, rfl, hk9, ss9, hl9, hr9⟩ := hrel
                  by_cases hlt : i2 < ss.length
                  · obtain ⟨g9, e9, hM9, ⟨u9, c8⟩, c9, hr9'⟩ := Row.put hr9 i2 (by omega) ⟨#[115, 112, 111, 105, 108, 116]⟩
                    simp only at e9
                    subst e9
                    have b1 : (i2 : Int) < (ss.length : Int) := by omega
                    have HR9 := Lib.hid (And.intro hr9' hk9)
                    clear hr9 hr9' hM9 hk9
                    gi_wp2
                    go_roundw
                    case rel => exact ⟨i2 + 1, by omega, by go_num, HR9.out.2.setCell (p := ⟨g9, i2, none⟩) (fun _ => rfl) _, _, by simp [hl9], HR9.out.1⟩
                    case measure => first | (simp [intOf]; done) | (simp [intOf]; omega)
                  · have hsub := hi2
                    gi_wp2
                    obtain ⟨hgot, hsc, hLL, hLc, hls, _⟩ := HR.out
                    obtain ⟨ko, kX, hB3, ho3, hrown⟩ := HN.out
                    have hnx := GotE.next hgot hp hlen HX.out.2.1 hsza htl HX.out.2.2.1 kX hB3 ho3 hLL hLc hsc hk9 (ss2 := ss9) (hl9.trans hls) hr9
                    exact ⟨(ko.trans (KeepsOthers.of_own hrown hk9)).from _, hnx.1, hnx.2⟩
              · go_simp
                refine hK _ _ ?_
                clear hK K
                refine wpAnyIn_ready (rs := [1]) (by kernel_rfl) (by simp) (AllReadyIn.cons rfl (fun K hK => ?_) AllReadyIn.nil)
                go_simp
                refine hK _ _ ?_
                clear hK K
                refine wpAnyIn_ready (rs := [3]) (by kernel_rfl) (by simp) (AllReadyIn.cons rfl (fun K hK => ?_) AllReadyIn.nil)
                refine stepIn_app (.tmp 141) (.tmp 142) rfl rfl rfl rfl hrun1 ?_
                refine hK _ _ ?_
                clear hK K
                refine wpAnyIn_ready (rs := [4]) (by kernel_rfl) (by simp) (AllReadyIn.cons rfl (fun K hK => ?_) AllReadyIn.nil)
                go_simp
                refine hK _ _ ?_
                clear hK K
                refine wpAnyIn_ready (rs := [5]) (by kernel_rfl) (by simp) (AllReadyIn.cons rfl (fun K hK => ?_) AllReadyIn.nil)
                refine stepIn_app (.tmp 140) (.tmp 144) rfl rfl rfl rfl hrun2 ?_
                refine hK _ _ ?_
                clear hK K
                refine wpAnyIn_ready (rs := [6]) (by kernel_rfl) (by simp) (AllReadyIn.cons rfl (fun K hK => ?_) AllReadyIn.nil)
                go_simp
                refine hK _ _ ?_
                clear hK K
                refine wpAnyIn_done (by kernel_rfl) ?_ _
                gi_wp2
                gi_loopw [18] (SpoilX (y3.setCell ⟨w10.heap.size, 0, none⟩ (.slice ao3 n3 cap3)) ((ax, ss.length, cx), sp) ss.length (fun g => w1.heap.size ≤ g ∧ g < w10.heap.size ∧ ¬ SB g)) (fun kv _ => ss.length - (intOf kv).toNat)
                case atStart => exact ⟨0, Nat.zero_le _, rfl, Kp.refl _, ss, rfl, HN.out.2.2.2.2⟩
                case round =>
                  obtain ⟨i2, hi2, rfl, hk9, ss9, hl9, hr9⟩ := hrel
                  by_cases hlt : i2 < ss.length
                  · obtain ⟨g9, e9, hM9, ⟨u9, c8⟩, c9, hr9'⟩ := Row.put hr9 i2 (by omega) ⟨#[115, 112, 111, 105, 108, 116]⟩
                    simp only at e9
                    subst e9
                    have b1 : (i2 : Int) < (ss.length : Int) := by omega
                    have HR9 := Lib.hid (And.intro hr9' hk9)
                    clear hr9 hr9' hM9 hk9
                    gi_wp2
                    go_roundw
                    case rel => exact ⟨i2 + 1, by omega, by go_num, HR9.out.2.setCell (p := ⟨g9, i2, none⟩) (fun _ => rfl) _, _, by simp [hl9], HR9.out.1⟩
                    case measure => first | (simp [intOf]; done) | (simp [intOf]; omega)
                  · have hsub := hi2
                    gi_wp2
                    obtain ⟨hgot, hsc, hLL, hLc, hls, _⟩ := HR.out
                    obtain ⟨ko, kX, hB3, ho3, hrown⟩ := HN.out
                    have hnx := GotE.next hgot hp hlen HX.out.2.1 hsza htl HX.out.2.2.1 kX hB3 ho3 hLL hLc hsc hk9 (ss2 := ss9) (hl9.trans hls) hr9
                    exact ⟨(ko.trans (KeepsOthers.of_own hrown hk9)).from _, hnx.1, hnx.2⟩
            · go_simp
              refine hK _ _ ?_
              clear hK K
              refine wpAnyIn_ready (rs := [0, 2]) (by kernel_rfl) (by simp) (AllReadyIn.cons rfl (fun K hK => ?_) (AllReadyIn.cons rfl (fun K hK => ?_) AllReadyIn.nil))
              · go_simp
                refine hK _ _ ?_
                clear hK K
                refine wpAnyIn_ready (rs := [2]) (by kernel_rfl) (by simp) (AllReadyIn.cons rfl (fun K hK => ?_) AllReadyIn.nil)
                go_simp
                refine hK _ _ ?_
                clear hK K
                refine wpAnyIn_ready (rs := [3]) (by kernel_rfl) (by simp) (AllReadyIn.cons rfl (fun K hK => ?_) AllReadyIn.nil)
                refine stepIn_app (.tmp 141) (.tmp 142) rfl rfl rfl rfl hrun1 ?_
                refine hK _ _ ?_
                clear hK K
                refine wpAnyIn_ready (rs := [4]) (by kernel_rfl) (by simp) (AllReadyIn.cons rfl (fun K hK => ?_) AllReadyIn.nil)
                go_simp
                refine hK _ _ ?_
                clear hK K
                refine wpAnyIn_ready (rs := [5]) (by kernel_rfl) (by simp) (AllReadyIn.cons rfl (fun K hK => ?_) AllReadyIn.nil)
                refine stepIn_app (.tmp 140) (.tmp 144) rfl rfl rfl rfl hrun2 ?_
                refine hK _ _ ?_
                clear hK K
                refine wpAnyIn_ready (rs := [6]) (by kernel_rfl) (by simp) (AllReadyIn.cons rfl (fun K hK => ?_) AllReadyIn.nil)
                go_simp
                refine hK _ _ ?_
                clear hK K
                refine wpAnyIn_done (by kernel_rfl) ?_ _
                gi_wp2
                gi_loopw [18] (SpoilX (y3.setCell ⟨w10.heap.size, 0, none⟩ (.slice ao3 n3 cap3)) ((ax, ss.length, cx), sp) ss.length (fun g => w1.heap.size ≤ g ∧ g < w10.heap.size ∧ ¬ SB g)) (fun kv _ => ss.length - (intOf kv).toNat)
                case atStart => exact ⟨0, Nat.zero_le _, rfl, Kp.refl _, ss, rfl, HN.out.2.2.2.2⟩
                case round =>
                  obtain ⟨i2, hi2, rfl, hk9, ss9, hl9, hr9⟩ := hrel
                  by_cases hlt : i2 < ss.length
                  · obtain ⟨g9, e9, hM9, ⟨u9, c8⟩, c9, hr9'⟩ := Row.put hr9 i2 (by omega) ⟨#[115, 112, 111, 105, 108, 116]⟩
                    simp only at e9
                    subst e9
                    have b1 : (i2 : Int) < (ss.length : Int) := by omega
                    have HR9 := Lib.hid (And.intro hr9' hk9)
                    clear hr9 hr9' hM9 hk9
                    gi_wp2
                    go_roundw
                    case rel => exact ⟨i2 + 1, by omega, by go_num, HR9.out.2.setCell (p := ⟨g9, i2, none⟩) (fun _ => rfl) _, _, by simp [hl9], HR9.out.1⟩
                    case measure => first | (simp [intOf]; done) | (simp [intOf]; omega)
                  · have hsub := hi2
                    gi_wp2
                    obtain ⟨hgot, hsc, hLL, hLc, hls, _⟩ := HR.out
                    obtain ⟨ko, kX, hB3, ho3, hrown⟩ := HN.out
                    have hnx := GotE.next hgot hp hlen HX.out.2.1 hsza htl HX.out.2.2.1 kX hB3 ho3 hLL hLc hsc hk9 (ss2 := ss9) (hl9.trans hls) hr9
                    exact ⟨(ko.trans (KeepsOthers.of_own hrown hk9)).from _, hnx.1, hnx.2⟩
              · go_simp
                refine hK _ _ ?_
                clear hK K
                refine wpAnyIn_ready (rs := [0, 3]) (by kernel_rfl) (by simp) (AllReadyIn.cons rfl (fun K hK => ?_) (AllReadyIn.cons rfl (fun K hK => ?_) AllReadyIn.nil))
                · go_simp
                  refine hK _ _ ?_
                  clear hK K
                  refine wpAnyIn_ready (rs := [3]) (by kernel_rfl) (by simp) (AllReadyIn.cons rfl (fun K hK => ?_) AllReadyIn.nil)
                  refine stepIn_app (.tmp 141) (.tmp 142) rfl rfl rfl rfl hrun1 ?_
                  refine hK _ _ ?_
                  clear hK K
                  refine wpAnyIn_ready (rs := [4]) (by kernel_rfl) (by simp) (AllReadyIn.cons rfl (fun K hK => ?_) AllReadyIn.nil)
                  go_simp
                  refine hK _ _ ?_
                  clear hK K
                  refine wpAnyIn_ready (rs := [5]) (by kernel_rfl) (by simp) (AllReadyIn.cons rfl (fun K hK => ?_) AllReadyIn.nil)
                  refine stepIn_app (.tmp 140) (.tmp 144) rfl rfl rfl rfl hrun2 ?_
                  refine hK _ _ ?_
                  clear hK K
                  refine wpAnyIn_ready (rs := [6]) (by kernel_rfl) (by simp) (AllReadyIn.cons rfl (fun K hK => ?_) AllReadyIn.nil)
                  go_simp
                  refine hK _ _ ?_
                  clear hK K
                  refine wpAnyIn_done (by kernel_rfl) ?_ _
                  gi_wp2
                  gi_loopw [18] (SpoilX (y3.setCell ⟨w10.heap.size, 0, none⟩ (.slice ao3 n3 cap3)) ((ax, ss.length, cx), sp) ss.length (fun g => w1.heap.size ≤ g ∧ g < w10.heap.size ∧ ¬ SB g)) (fun kv _ => ss.length - (intOf kv).toNat)
                  case atStart => exact ⟨0, Nat.zero_le _, rfl, Kp.refl _, ss, rfl, HN.out.2.2.2.2⟩
                  case round =>
                    obtain ⟨i2, hi2, rfl, hk9, ss9, hl9, hr9⟩ := hrel
                    by_cases hlt : i2 < ss.length
                    · obtain ⟨g9, e9, hM9, ⟨u9, c8⟩, c9, hr9'⟩ := Row.put hr9 i2 (by omega) ⟨#[115, 112, 111, 105, 108, 116]⟩
                      simp only at e9
                      subst e9
                      have b1 : (i2 : Int) < (ss.length : Int) := by omega
                      have HR9 := Lib.hid (And.intro hr9' hk9)
                      clear hr9 hr9' hM9 hk9
                      gi_wp2
                      go_roundw
                      case rel => exact ⟨i2 + 1, by omega, by go_num, HR9.out.2.setCell (p := ⟨g9, i2, none⟩) (fun _ => rfl) _, _, by simp [hl9], HR9.out.1⟩
                      case measure => first | (simp [intOf]; done) | (simp [intOf]; omega)
                    · have hsub := hi2
                      gi_wp2
                      obtain ⟨hgot, hsc, hLL, hLc, hls, _⟩ := HR.out
                      obtain ⟨ko, kX, hB3, ho3, hrown⟩ := HN.out
                      have hnx := GotE.next hgot hp hlen HX.out.2.1 hsza htl HX.out.2.2.1 kX hB3 ho3 hLL hLc hsc hk9 (ss2 := ss9) (hl9.trans hls) hr9
                      exact ⟨(ko.trans (KeepsOthers.of_own hrown hk9)).from _, hnx.1, hnx.2⟩
                · refine stepIn_app (.tmp 141) (.tmp 142) rfl rfl rfl rfl hrun1 ?_
                  refine hK _ _ ?_
                  clear hK K
                  refine wpAnyIn_ready (rs := [0, 4]) (by kernel_rfl) (by simp) (AllReadyIn.cons rfl (fun K hK => ?_) (AllReadyIn.cons rfl (fun K hK => ?_) AllReadyIn.nil))
                  · go_simp
                    refine hK _ _ ?_
                    clear hK K
                    refine wpAnyIn_ready (rs := [4]) (by kernel_rfl) (by simp) (AllReadyIn.cons rfl (fun K hK => ?_) AllReadyIn.nil)
                    go_simp
                    refine hK _ _ ?_
                    clear hK K
                    refine wpAnyIn_ready (rs := [5]) (by kernel_rfl) (by simp) (AllReadyIn.cons rfl (fun K hK => ?_) AllReadyIn.nil)
                    refine stepIn_app (.tmp 140) (.tmp 144) rfl rfl rfl rfl hrun2 ?_
                    refine hK _ _ ?_
                    clear hK K
                    refine wpAnyIn_ready (rs := [6]) (by kernel_rfl) (by simp) (AllReadyIn.cons rfl (fun K hK => ?_) AllReadyIn.nil)
                    go_simp
                    refine hK _ _ ?_
                    clear hK K
                    refine wpAnyIn_done (by kernel_rfl) ?_ _
                    gi_wp2
                    gi_loopw [18] (SpoilX (y3.setCell ⟨w10.heap.size, 0, none⟩ (.slice ao3 n3 cap3)) ((ax, ss.length, cx), sp) ss.length (fun g => w1.heap.size ≤ g ∧ g < w10.heap.size ∧ ¬ SB g)) (fun kv _ => ss.length - (intOf kv).toNat)
                    case atStart => exact ⟨0, Nat.zero_le _, rfl, Kp.refl _, ss, rfl, HN.out.2.2.2.2⟩
                    case round =>
                      obtain ⟨i2, hi2, rfl, hk9, ss9, hl9, hr9⟩ := hrel
                      by_cases hlt : i2 < ss.length
                      · obtain ⟨g9, e9, hM9, ⟨u9, c8⟩, c9, hr9'⟩ := Row.put hr9 i2 (by omega) ⟨#[115, 112, 111, 105, 108, 116]⟩
                        simp only at e9
                        subst e9
                        have b1 : (i2 : Int) < (ss.length : Int) := by omega
                        have HR9 := Lib.hid (And.intro hr9' hk9)
                        clear hr9 hr9' hM9 hk9
                        gi_wp2
                        go_roundw
                        case rel => exact ⟨i2 + 1, by omega, by go_num, HR9.out.2.setCell (p := ⟨g9, i2, none⟩) (fun _ => rfl) _, _, by simp [hl9], HR9.out.1⟩
                        case measure => first | (simp [intOf]; done) | (simp [intOf]; omega)
                      · have hsub := hi2
                        gi_wp2
                        obtain ⟨hgot, hsc, hLL, hLc, hls, _⟩ := HR.out
                        obtain ⟨ko, kX, hB3, ho3, hrown⟩ := HN.out
                        have hnx := GotE.next hgot hp hlen HX.out.2.1 hsza htl HX.out.2.2.1 kX hB3 ho3 hLL hLc hsc hk9 (ss2 := ss9) (hl9.trans hls) hr9
                        exact ⟨(ko.trans (KeepsOthers.of_own hrown hk9)).from _, hnx.1, hnx.2⟩
                  · go_simp
                    refine hK _ _ ?_
                    clear hK K
                    refine wpAnyIn_ready (rs := [0]) (by kernel_rfl) (by simp) (AllReadyIn.cons rfl (fun K hK => ?_) AllReadyIn.nil)
                    go_simp
                    refine hK _ _ ?_
                    clear hK K
                    refine wpAnyIn_ready (rs := [5]) (by kernel_rfl) (by simp) (AllReadyIn.cons rfl (fun K hK => ?_) AllReadyIn.nil)
                    refine stepIn_app (.tmp 140) (.tmp 144) rfl rfl rfl rfl hrun2 ?_
                    refine hK _ _ ?_
                    clear hK K
                    refine wpAnyIn_ready (rs := [6]) (by kernel_rfl) (by simp) (AllReadyIn.cons rfl (fun K hK => ?_) AllReadyIn.nil)
                    go_simp
                    refine hK _ _ ?_
                    clear hK K
                    refine wpAnyIn_done (by kernel_rfl) ?_ _
                    gi_wp2
                    gi_loopw [18] (SpoilX (y3.setCell ⟨w10.heap.size, 0, none⟩ (.slice ao3 n3 cap3)) ((ax, ss.length, cx), sp) ss.length (fun g => w1.heap.size ≤ g ∧ g < w10.heap.size ∧ ¬ SB g)) (fun kv _ => ss.length - (intOf kv).toNat)
                    case atStart => exact ⟨0, Nat.zero_le _, rfl, Kp.refl _, ss, rfl, HN.out.2.2.2.2⟩
                    case round =>
                      obtain ⟨i2, hi2, rfl, hk9, ss9, hl9, hr9⟩ := hrel
                      by_cases hlt : i2 < ss.length
                      · obtain ⟨g9, e9, hM9, ⟨u9, c8⟩, c9, hr9'⟩ := Row.put hr9 i2 (by omega) ⟨#[115, 112, 111, 105, 108, 116]⟩
                        simp only at e9
                        subst e9
                        have b1 : (i2 : Int) < (ss.length : Int) := by omega
                        have HR9 := Lib.hid (And.intro hr9' hk9)
                        clear hr9 hr9' hM9 hk9
                        gi_wp2
                        go_roundw
                        case rel => exact ⟨i2 + 1, by omega, by go_num, HR9.out.2.setCell (p := ⟨g9, i2, none⟩) (fun _ => rfl) _, _, by simp [hl9], HR9.out.1⟩
                        case measure => first | (simp [intOf]; done) | (simp [intOf]; omega)
                      · have hsub := hi2
                        gi_wp2
                        obtain ⟨hgot, hsc, hLL, hLc, hls, _⟩ := HR.out
                        obtain ⟨ko, kX, hB3, ho3, hrown⟩ := HN.out
                        have hnx := GotE.next hgot hp hlen HX.out.2.1 hsza htl HX.out.2.2.1 kX hB3 ho3 hLL hLc hsc hk9 (ss2 := ss9) (hl9.trans hls) hr9
                        exact ⟨(ko.trans (KeepsOthers.of_own hrown hk9)).from _, hnx.1, hnx.2⟩
            · go_simp
              refine hK _ _ ?_
              clear hK K
              refine wpAnyIn_ready (rs := [0, 1]) (by kernel_rfl) (by simp) (AllReadyIn.cons rfl (fun K hK => ?_) (AllReadyIn.cons rfl (fun K hK => ?_) AllReadyIn.nil))
              · go_simp
                refine hK _ _ ?_
                clear hK K
                refine wpAnyIn_ready (rs := [1]) (by kernel_rfl) (by simp) (AllReadyIn.cons rfl (fun K hK => ?_) AllReadyIn.nil)
                go_simp
                refine hK _ _ ?_
                clear hK K
                refine wpAnyIn_ready (rs := [3]) (by kernel_rfl) (by simp) (AllReadyIn.cons rfl (fun K hK => ?_) AllReadyIn.nil)
                refine stepIn_app (.tmp 141) (.tmp 142) rfl rfl rfl rfl hrun1 ?_
                refine hK _ _ ?_
                clear hK K
                refine wpAnyIn_ready (rs := [4]) (by kernel_rfl) (by simp) (AllReadyIn.cons rfl (fun K hK => ?_) AllReadyIn.nil)
                go_simp
                refine hK _ _ ?_
                clear hK K
                refine wpAnyIn_ready (rs := [5]) (by kernel_rfl) (by simp) (AllReadyIn.cons rfl (fun K hK => ?_) AllReadyIn.nil)
                refine stepIn_app (.tmp 140) (.tmp 144) rfl rfl rfl rfl hrun2 ?_
                refine hK _ _ ?_
                clear hK K
                refine wpAnyIn_ready (rs := [6]) (by kernel_rfl) (by simp) (AllReadyIn.cons rfl (fun K hK => ?_) AllReadyIn.nil)
                go_simp
                refine hK _ _ ?_
                clear hK K
                refine wpAnyIn_done (by kernel_rfl) ?_ _
                gi_wp2
                gi_loopw [18] (SpoilX (y3.setCell ⟨w10.heap.size, 0, none⟩ (.slice ao3 n3 cap3)) ((ax, ss.length, cx), sp) ss.length (fun g => w1.heap.size ≤ g ∧ g < w10.heap.size ∧ ¬ SB g)) (fun kv _ => ss.length - (intOf kv).toNat)
                case atStart => exact ⟨0, Nat.zero_le _, rfl, Kp.refl _, ss, rfl, HN.out.2.2.2.2⟩
                case round =>
                  obtain ⟨i2, hi2, rfl, hk9, ss9, hl9, hr9⟩ := hrel
                  by_cases hlt : i2 < ss.length
                  · obtain ⟨g9, e9, hM9, ⟨u9, c8⟩, c9, hr9'⟩ := Row.put hr9 i2 (by omega) ⟨#[115, 112, 111, 105, 108, 116]⟩
                    simp only at e9
                    subst e9
                    have b1 : (i2 : Int) < (ss.length : Int) := by omega
                    have HR9 := Lib.hid (And.intro hr9' hk9)
                    clear hr9 hr9' hM9 hk9
                    gi_wp2
                    go_roundw
                    case rel => exact ⟨i2 + 1, by omega, by go_num, HR9.out.2.setCell (p := ⟨g9, i2, none⟩) (fun _ => rfl) _, _, by simp [hl9], HR9.out.1⟩
                    case measure => first | (simp [intOf]; done) | (simp [intOf]; omega)
                  · have hsub := hi2
                    gi_wp2
                    obtain ⟨hgot, hsc, hLL, hLc, hls, _⟩ := HR.out
                    obtain ⟨ko, kX, hB3, ho3, hrown⟩ := HN.out
                    have hnx := GotE.next hgot hp hlen HX.out.2.1 hsza htl HX.out.2.2.1 kX hB3 ho3 hLL hLc hsc hk9 (ss2 := ss9) (hl9.trans hls) hr9
                    exact ⟨(ko.trans (KeepsOthers.of_own hrown hk9)).from _, hnx.1, hnx.2⟩
              · go_simp
                refine hK _ _ ?_
                clear hK K
                refine wpAnyIn_ready (rs := [0, 3]) (by kernel_rfl) (by simp) (AllReadyIn.cons rfl (fun K hK => ?_) (AllReadyIn.cons rfl (fun K hK => ?_) AllReadyIn.nil))
                · go_simp
                  refine hK _ _ ?_
                  clear hK K
                  refine wpAnyIn_ready (rs := [3]) (by kernel_rfl) (by simp) (AllReadyIn.cons rfl (fun K hK => ?_) AllReadyIn.nil)
                  refine stepIn_app (.tmp 141) (.tmp 142) rfl rfl rfl rfl hrun1 ?_
                  refine hK _ _ ?_
                  clear hK K
                  refine wpAnyIn_ready (rs := [4]) (by kernel_rfl) (by simp) (AllReadyIn.cons rfl (fun K hK => ?_) AllReadyIn.nil)
                  go_simp
                  refine hK _ _ ?_
                  clear hK K
                  refine wpAnyIn_ready (rs := [5]) (by kernel_rfl) (by simp) (AllReadyIn.cons rfl (fun K hK => ?_) AllReadyIn.nil)
                  refine stepIn_app (.tmp 140) (.tmp 144) rfl rfl rfl rfl hrun2 ?_
                  refine hK _ _ ?_
                  clear hK K
                  refine wpAnyIn_ready (rs := [6]) (by kernel_rfl) (by simp) (AllReadyIn.cons rfl (fun K hK => ?_) AllReadyIn.nil)
                  go_simp
                  refine hK _ _ ?_
                  clear hK K
                  refine wpAnyIn_done (by kernel_rfl) ?_ _
                  gi_wp2
                  gi_loopw [18] (SpoilX (y3.setCell ⟨w10.heap.size, 0, none⟩ (.slice ao3 n3 cap3)) ((ax, ss.length, cx), sp) ss.length (fun g => w1.heap.size ≤ g ∧ g < w10.heap.size ∧ ¬ SB g)) (fun kv _ => ss.length - (intOf kv).toNat)
                  case atStart => exact ⟨0, Nat.zero_le _, rfl, Kp.refl _, ss, rfl, HN.out.2.2.2.2⟩
                  case round =>
                    obtain ⟨i2, hi2, rfl, hk9, ss9, hl9, hr9⟩ := hrel
                    by_cases hlt : i2 < ss.length
                    · obtain ⟨g9, e9, hM9, ⟨u9, c8⟩, c9, hr9'⟩ := Row.put hr9 i2 (by omega) ⟨#[115, 112, 111, 105, 108, 116]⟩
                      simp only at e9
                      subst e9
                      have b1 : (i2 : Int) < (ss.length : Int) := by omega
                      have HR9 := Lib.hid (And.intro hr9' hk9)
                      clear hr9 hr9' hM9 hk9
                      gi_wp2
                      go_roundw
                      case rel => exact ⟨i2 + 1, by omega, by go_num, HR9.out.2.setCell (p := ⟨g9, i2, none⟩) (fun _ => rfl) _, _, by simp [hl9], HR9.out.1⟩
                      case measure => first | (simp [intOf]; done) | (simp [intOf]; omega)
                    · have hsub := hi2
                      gi_wp2
                      obtain ⟨hgot, hsc, hLL, hLc, hls, _⟩ := HR.out
                      obtain ⟨ko, kX, hB3, ho3, hrown⟩ := HN.out
                      have hnx := GotE.next hgot hp hlen HX.out.2.1 hsza htl HX.out.2.2.1 kX hB3 ho3 hLL hLc hsc hk9 (ss2 := ss9) (hl9.trans hls) hr9
                      exact ⟨(ko.trans (KeepsOthers.of_own hrown hk9)).from _, hnx.1, hnx.2⟩
                · refine stepIn_app (.tmp 141) (.tmp 142) rfl rfl rfl rfl hrun1 ?_
                  refine hK _ _ ?_
                  clear hK K
                  refine wpAnyIn_ready (rs := [0, 4]) (by kernel_rfl) (by simp) (AllReadyIn.cons rfl (fun K hK => ?_) (AllReadyIn.cons rfl (fun K hK => ?_) AllReadyIn.nil))
                  · go_simp
                    refine hK _ _ ?_
                    clear hK K
                    refine wpAnyIn_ready (rs := [4]) (by kernel_rfl) (by simp) (AllReadyIn.cons rfl (fun K hK => ?_) AllReadyIn.nil)
                    go_simp
                    refine hK _ _ ?_
                    clear hK K
                    refine wpAnyIn_ready (rs := [5]) (by kernel_rfl) (by simp) (AllReadyIn.cons rfl (fun K hK => ?_) AllReadyIn.nil)
                    refine stepIn_app (.tmp 140) (.tmp 144) rfl rfl rfl rfl hrun2 ?_
                    refine hK _ _ ?_
                    clear hK K
                    refine wpAnyIn_ready (rs := [6]) (by kernel_rfl) (by simp) (AllReadyIn.cons rfl (fun K hK => ?_) AllReadyIn.nil)
                    go_simp
                    refine hK _ _ ?_
                    clear hK K
                    refine wpAnyIn_done (by kernel_rfl) ?_ _
                    gi_wp2
                    gi_loopw [18] (SpoilX (y3.setCell ⟨w10.heap.size, 0, none⟩ (.slice ao3 n3 cap3)) ((ax, ss.length, cx), sp) ss.length (fun g => w1.heap.size ≤ g ∧ g < w10.heap.size ∧ ¬ SB g)) (fun kv _ => ss.length - (intOf kv).toNat)
                    case atStart => exact ⟨0, Nat.zero_le _, rfl, Kp.refl _, ss, rfl, HN.out.2.2.2.2⟩
                    case round =>
                      obtain ⟨i2, hi2, rfl, hk9, ss9, hl9, hr9⟩ := hrel
                      by_cases hlt : i2 < ss.length
                      · obtain ⟨g9, e9, hM9, ⟨u9, c8⟩, c9, hr9'⟩ := Row.put hr9 i2 (by omega) ⟨#[115, 112, 111, 105, 108, 116]⟩
                        simp only at e9
                        subst e9
                        have b1 : (i2 : Int) < (ss.length : Int) := by omega
                        have HR9 := Lib.hid (And.intro hr9' hk9)
                        clear hr9 hr9' hM9 hk9
                        gi_wp2
                        go_roundw
                        case rel => exact ⟨i2 + 1, by omega, by go_num, HR9.out.2.setCell (p := ⟨g9, i2, none⟩) (fun _ => rfl) _, _, by simp [hl9], HR9.out.1⟩
                        case measure => first | (simp [intOf]; done) | (simp [intOf]; omega)
                      · have hsub := hi2
                        gi_wp2
                        obtain ⟨hgot, hsc, hLL, hLc, hls, _⟩ := HR.out
                        obtain ⟨ko, kX, hB3, ho3, hrown⟩ := HN.out
                        have hnx := GotE.next hgot hp hlen HX.out.2.1 hsza htl HX.out.2.2.1 kX hB3 ho3 hLL hLc hsc hk9 (ss2 := ss9) (hl9.trans hls) hr9
                        exact ⟨(ko.trans (KeepsOthers.of_own hrown hk9)).from _, hnx.1, hnx.2⟩
                  · go_simp
                    refine hK _ _ ?_
                    clear hK K
                    refine wpAnyIn_ready (rs := [0]) (by kernel_rfl) (by simp) (AllReadyIn.cons rfl (fun K hK => ?_) AllReadyIn.nil)
                    go_simp
                    refine hK _ _ ?_
                    clear hK K
                    refine wpAnyIn_ready (rs := [5]) (by kernel_rfl) (by simp) (AllReadyIn.cons rfl (fun K hK => ?_) AllReadyIn.nil)
                    refine stepIn_app (.tmp 140) (.tmp 144) rfl rfl rfl rfl hrun2 ?_
                    refine hK _ _ ?_
                    clear hK K
                    refine wpAnyIn_ready (rs := [6]) (by kernel_rfl) (by simp) (AllReadyIn.cons rfl (fun K hK => ?_) AllReadyIn.nil)
                    go_simp
                    refine hK _ _ ?_
                    clear hK K
                    refine wpAnyIn_done (by kernel_rfl) ?_ _
                    gi_wp2
                    gi_loopw [18] (SpoilX (y3.setCell ⟨w10.heap.size, 0, none⟩ (.slice ao3 n3 cap3)) ((ax, ss.length, cx), sp) ss.length (fun g => w1.heap.size ≤ g ∧ g < w10.heap.size ∧ ¬ SB g)) (fun kv _ => ss.length - (intOf kv).toNat)
                    case atStart => exact ⟨0, Nat.zero_le _, rfl, Kp.refl _, ss, rfl, HN.out.2.2.2.2⟩
                    case round =>
                      obtain ⟨i2, hi2, rfl, hk9, ss9, hl9, hr9⟩ := hrel
                      by_cases hlt : i2 < ss.length
                      · obtain ⟨g9, e9, hM9, ⟨u9, c8⟩, c9, hr9'⟩ := Row.put hr9 i2 (by omega) ⟨#[115, 112, 111, 105, 108, 116]⟩
                        simp only at e9
                        subst e9
                        have b1 : (i2 : Int) < (ss.length : Int) := by omega
                        have HR9 := Lib.hid (And.intro hr9' hk9)
                        clear hr9 hr9' hM9 hk9
                        gi_wp2
                        go_roundw
                        case rel => exact ⟨i2 + 1, by omega, by go_num, HR9.out.2.setCell (p := ⟨g9, i2, none⟩) (fun _ => rfl) _, _, by simp [hl9], HR9.out.1⟩
                        case measure => first | (simp [intOf]; done) | (simp [intOf]; omega)
                      · have hsub := hi2
                        gi_wp2
                        obtain ⟨hgot, hsc, hLL, hLc, hls, _⟩ := HR.out
                        obtain ⟨ko, kX, hB3, ho3, hrown⟩ := HN.out
                        have hnx := GotE.next hgot hp hlen HX.out.2.1 hsza htl HX.out.2.2.1 kX hB3 ho3 hLL hLc hsc hk9 (ss2 := ss9) (hl9.trans hls) hr9
                        exact ⟨(ko.trans (KeepsOthers.of_own hrown hk9)).from _, hnx.1, hnx.2⟩
          case done =>
            rintro D1 ys W2 hD hys hgot hd
            have hys' := hys.symm; subst hys'; clear hys
            obtain ⟨_, kg, ⟨v, LL', hLL, hBd, hrd, hLc⟩, _, _⟩ := hgot
            have hat : (ps2.attach.map Subtype.val) = ps2 := List.attach_map_subtype_val ps2
            have eLL : LL' = D.LL k := by rw [hLc (by rw [hat]; exact List.prefix_refl _), hat, HX.out.2.2.2.1]
            subst eLL
            have ht2 := (HT.out.ext xa).push0 (kg.mono fun g _ h => h.1) hD hd
            have hs2 : SameOn SB w10 W2 := (SameOn.of_ext xa HX.out.2.2.1).trans (SameOn.of_kp kg (fun k hk => Nat.lt_trans (HX.out.2.2.1 k hk) hsza) (fun k hk hf => hf.2 hk))
            obtain ⟨aog, capg, ev, hing⟩ := hrd.shape
            rw [← EN.out] at ev
            subst ev
            have cg := hBd.cell 0 (by simp)
            simp only [List.getElem_cons_zero] at cg
            have HT := Lib.hid ht2
            have HS2 := Lib.hid hs2
            have HG := Lib.hid hing
            have hz2' := ht2.zW
            clear ht2 hs2 hing hrd hBd kg hLc hd hD hLL hat
            go_wp2_with fail
            refine (rows_yes aog aow n capg capw EN.out HG.out HT.out.want hn40).mono ?_
            rintro e W3 ⟨v3, rfl, hk3, rfl⟩
            have HT3 := Lib.hid (HT.out.ext hk3)
            have HS3 := Lib.hid (HS2.out.trans (SameOn.of_ext hk3 fun g hg => Nat.lt_of_lt_of_le (HX.out.2.2.1 g hg) HS2.out.1))
            have hz3' := hk3.size
            clear cg hk3
            go_wp2_with fail
            refine' wpIn_wide.1 (wpIn_rangeFunc_ownG (F := Fence.wide) (n := 4) (w0 := W3) rfl (by omega) (gf := 140) (lb := #[.pointer (some ⟨Bs, 0, none⟩)]) rfl trivial (enters_of Try.func140 (by kernel_rfl) rfl)
              (HQ.out W3 HS3.out) SameOn.trans (SameOn.put (fun g h => Nat.lt_of_lt_of_le (HX.out.2.2.1 g h) HS3.out.1)) (Kp.refl W3).below (fun _ => rfl) (FirstE W3) (LeftE W3 12) (FirstE.own (Nat.le_refl _)) (fun _ => LeftE.own (Nat.le_refl _)) ⟨rfl, Kp.refl _⟩ _ ?assign2 ?body2 ?done2 ?stop2)
            case assign2 =>
              intro l x W K hK
              gi_wp2
              exact hK
            case body2 =>
              rintro l pre x X ⟨rfl, hx⟩ hlen
              gi_wp2
              exact ⟨(KeepsOthers.refl X).from _, rfl, hx⟩
            case' done2 =>
              rintro D2 ys W4 hD2 hys ⟨_, hx4⟩ hd2
              clear hys
            case' stop2 =>
              rintro D2 c pre W4 hD2 hpre ⟨rfl, hx4⟩ hd2
              clear hpre
              refine wpIn_wide.2 ?_
            all_goals
              have ht4 := HT3.out.push (Ext.kp hx4) (fun k o h ho => (hx4.block k (lt_of_block h) id).trans h) hD2 hd2
              have HT := Lib.hid ht4
              clear ht4 hx4 hd2
              go_wp2_with fail
              go_loopw [19] (ToldJ S w bd D w1.heap.size aow (D.LL k) [{ target := .collected D2, args := #[] }, { target := .collected D1, args := #[] }]) (fun kv _ => 3 - (intOf kv).toNat)
              case atStart => exact ⟨0, by omega, rfl, HT.out⟩
              case round =>
                obtain ⟨i, hi, rfl, ht⟩ := hrel
                obtain ⟨W5, rfl⟩ : ∃ W5, W5 = wr := ⟨wr, rfl⟩
                by_cases hlt : i < 3
                · obtain ⟨pi, epi⟩ := (ht.b.rows i hlt).ptr
                  obtain ⟨qi, eqi⟩ := (ht.b.refs i hlt).ptr
                  have d1 := ht.b.cr hlt
                  have d2 := ht.b.cm hlt
                  rw [epi] at d1
                  rw [eqi] at d2
                  generalize hbv : sameP (D.rv k) (D.rv i) (D.ar k) (D.ar i) (D.LL k) (D.LL i) = b
                  have tb : (b != b) = false := by cases b <;> rfl
                  have HSM := Lib.hid (show Calls Try.prog 82 #[.pointer p, .pointer pi] W5.drew (RetF (fun k => FP (.pointer p) k ∨ FP (.pointer pi) k) W5.drew fun w' v => v = .bool b ∧ TB S w bd D w1.heap.size aow (D.LL k) [{ target := .collected D2, args := #[] }, { target := .collected D1, args := #[] }] w') from by
                    have := (ht.ext (Kp.refl W5).drew).same hk hlt
                    rwa [hbv, HEP.out.1, epi] at this)
                  have HMM := Lib.hid (show ∀ W, TB S w bd D w1.heap.size aow (D.LL k) [{ target := .collected D2, args := #[] }, { target := .collected D1, args := #[] }] W → Calls Try.prog 83 #[.pointer q, .pointer qi] W (RetN W fun w' v => v = .bool b ∧ TB S w bd D w1.heap.size aow (D.LL k) [{ target := .collected D2, args := #[] }, { target := .collected D1, args := #[] }] w') from fun W hW => by
                    have := hW.msame hk hlt
                    rwa [hbv, HEP.out.2, eqi] at this)
                  have HEI := Lib.hid (And.intro epi eqi)
                  have i1 : (i : Int) < 3 := by omega
                  have i2 : (0 : Int) ≤ (i : Int) := by omega
                  clear ht epi eqi hbv
                  go_wp2
                  go_region_held3 (fun w' => w'.cell? ⟨bd, i, none⟩ = some (.pointer pi) ∧ w'.cell? ⟨bd, 3 + i, none⟩ = some (.pointer qi)) (first | exact ⟨by assumption, by assumption⟩ | go_keep)
                    (first
                      | (go_at_call 82; refine HSM.out.mono ?_; rintro e w6 ⟨v6, rfl, hk6, rfl, ht6⟩; have e1 := ht6.b.cr hlt; have e2 := ht6.b.cm hlt; rw [HEI.out.1] at e1; rw [HEI.out.2] at e2; have HT6 := Lib.hid ht6; clear ht6 hk6)
                      | (go_at_call 83; refine (HMM.out _ HT6.out).mono ?_; rintro e w7 ⟨v7, rfl, hk7, rfl, ht7⟩; have e1 := ht7.b.cr hlt; have e2 := ht7.b.cm hlt; rw [HEI.out.1] at e1; rw [HEI.out.2] at e2; have HT7 := Lib.hid ht7; clear ht7 hk7))
                  all_goals
                    go_wp2
                    go_roundw
                    case rel => exact ⟨i + 1, by omega, by first | rfl | (congr 1; done) | (congr 1; omega), HT7.out⟩
                    case measure => first | (simp [intOf]; done) | (simp [intOf]; omega)
                · have HT8 := Lib.hid ht
                  have ei : i = 3 := by omega
                  clear ht hlt hi
                  subst ei
                  go_wp2_with fail
                  refine (HALL.out _ _ _ _ _ HT8.out).mono ?_
                  rintro e w8 ⟨v8, rfl, hk8, ht8, hown8⟩
                  obtain ⟨ao8, cap8, ev, hin8⟩ := hown8.shape
                  rw [← EN.out] at ev
                  subst ev
                  have HT9 := Lib.hid ht8
                  have HI9 := Lib.hid hin8
                  clear ht8 hin8 hown8 hk8
                  go_wp2_with fail
                  refine (rows_yes ao8 aow n cap8 capw EN.out HI9.out HT9.out.want hn40).mono ?_
                  rintro e w9 ⟨v9, rfl, hk9, rfl⟩
                  have ht9 := HT9.out.ext hk9
                  have HTF := Lib.hid ht9
                  clear ht9 hk9
                  go_wp2
                  rw [EQ.out]
                  exact benchTold_ret HTF.out rfl
end
end Go.Proofs.Ytfkhelihepbehaa

/- bench.step: any other kind. -/
namespace Go.Proofs.Ytfkhelihepbehaa
open Go.RowKit Go.Shelf
set_option linter.unusedVariables false

/-- What a step leaves. -/
def StepPost (lo bd : Nat) (w' : World) (v : Value) : Prop := v = .bool true ∧ ∃ S D, BenchAt S w' bd D ∧ BenchLo lo D bd
/-- What a step is handed. -/
structure StepIn (lo bd : Nat) (S : Nat → Prop) (D : Bench3) (ao : Option Addr) (ss : List ByteArray) (w : World) : Prop where
  b : BenchAt S w bd D
  l : BenchLo lo D bd
  lw : lo ≤ w.heap.size
  row : CellsAt w ao (strs ss)
  rlo : ss = [] ∨ ∀ a, ao = some a → a.block < lo
  len : ss.length ≤ 8796093021952
  size : ∀ s ∈ ss, s.size ≤ 4611686018427387904
theorem StB.inRow {lo bd gi ob : Nat} {w0 W : World} {ss : List ByteArray} {rest co : List Value} {S : Nat → Prop} {D : Bench3} {cap : Nat} (h : StB lo w0 bd gi ob (strs (ss ++ [mark1, mark2]) ++ rest) co S D W) (hl : ss.length ≤ 8796093021952) :
    RowIn W (some ⟨gi, 0, none⟩, ss.length, cap) ss ∧ ∀ k, k < 3 → RowOff (some ⟨gi, 0, none⟩, ss.length, cap) (OwnP (D.rv k) (D.iv k)) := by
  have hB := h.gB
  rw [strs_snoc2, List.append_assoc] at hB
  exact ⟨⟨⟨rfl, CellsAt.pre hB⟩, hl, fun a e => by cases e; exact hB.lt⟩, fun k hk a e ho => by cases e; exact (h.gO.2.2 k hk).1 ho⟩
set_option maxRecDepth 100000 in
set_option maxHeartbeats 8000000 in
theorem stepOther_any {lo bd : Nat} {S : Nat → Prop} {D : Bench3} {ao : Option Addr} {cap : Nat} {ss : List ByteArray} {w : World} (h : StepIn lo bd S D ao ss w) (kd who N : Int) (hk : ¬ (1 ≤ kd ∧ kd ≤ 8)) :
    Calls Try.prog 24 #[.pointer (some ⟨bd, 0, none⟩), .agg #[.int .i64 kd, .int .i64 who, .int .i64 N, .slice ao ss.length cap]] w (RetF (fun g => lo ≤ g) w (StepPost lo bd)) := by
  have k1 : (kd == 1) = false := by simp; omega
  have k2 : (kd == 2) = false := by simp; omega
  have k3 : (kd == 3) = false := by simp; omega
  have k4 : (kd == 4) = false := by simp; omega
  have k5 : (kd == 5) = false := by simp; omega
  have k6 : (kd == 6) = false := by simp; omega
  have k7 : (kd == 7) = false := by simp; omega
  have k8 : (kd == 8) = false := by simp; omega
  obtain ⟨i, ei⟩ : ∃ i, placeN who 3 = i := ⟨_, rfl⟩
  have hi : i < 3 := by rw [← ei]; exact placeN_lt _ _ (by decide)
  have EI := Lib.hid (fun W => place_any who 3 (by decide) (by decide) W)
  rw [ei] at EI
  have hss := h.len
  have H := Lib.hid h
  have hb0 := Blk.new w [.int .i64 kd, .int .i64 who, .int .i64 N, .slice ao ss.length cap] 73
  obtain ⟨W0, eW0⟩ : ∃ W0, w.alloc (.cells #[.int .i64 kd, .int .i64 who, .int .i64 N, .slice ao ss.length cap] 73) = W0 := ⟨_, rfl⟩
  have x0 : Ext w W0 := by rw [← eW0]; exact (Kp.refl w).alloc _
  rw [show w.alloc (.cells [Value.int .i64 kd, .int .i64 who, .int .i64 N, .slice ao ss.length cap].toArray 73) = W0 from eW0] at hb0
  have c1 : W0.cell? ⟨w.heap.size, 1, none⟩ = some (.int .i64 who) := by rw [hb0.cell']; rfl
  have c3 : W0.cell? ⟨w.heap.size, 3, none⟩ = some (.slice ao ss.length cap) := by rw [hb0.cell']; rfl
  have c0 : W0.cell? ⟨w.heap.size, 0, none⟩ = some (.int .i64 kd) := by rw [hb0.cell']; rfl
  have c2 : W0.cell? ⟨w.heap.size, 2, none⟩ = some (.int .i64 N) := by rw [hb0.cell']; rfl
  have HX0 := Lib.hid (And.intro x0 hb0)
  obtain ⟨p, ep⟩ := (h.b.rows i hi).ptr
  obtain ⟨q, eq⟩ := (h.b.refs i hi).ptr
  have d1 := (h.b.ext x0).cr hi
  have d2 := (h.b.ext x0).cm hi
  rw [ep] at d1
  rw [eq] at d2
  have HEP := Lib.hid (And.intro ep eq)
  have i3 : (i : Int) < 3 := by omega
  clear h ei x0 hb0 ep eq
  go_enter Try.func24, Try.ntmps24
  go_wp2_with fail
  refine (EI.out _).mono ?_
  rintro e w' ⟨rfl, rfl⟩
  clear EI eW0
  go_wp2_with fail
  go_region_held3 (fun w' => w'.cell? ⟨bd, i, none⟩ = some (.pointer p) ∧ w'.cell? ⟨bd, 3 + i, none⟩ = some (.pointer q)) (first | exact ⟨by assumption, by assumption⟩ | go_keep) (fail)
  obtain ⟨W1, eW1⟩ : ∃ W1, W1 = W0.drew := ⟨_, rfl⟩
  rw [← eW1]
  have x1 : Ext W0 W1 := by rw [eW1]; exact (Kp.refl W0).drew
  have c0' := x1.cell c0 id
  have c2' := x1.cell c2 id
  have c3' := x1.cell c3 id
  have HX1 := Lib.hid (And.intro (HX0.out.1.trans x1) (HX0.out.2.ext x1))
  clear c0 c1 c2 c3 eW1 x1 HX0 d1 d2
  go_wp2_with fail
  refine (lent_any ss ao cap W1 (H.out.row.ext HX1.out.1) hss).mono ?_
  rintro e W2 ⟨vl, rfl, hkl, gi, capi, rest, rfl, hgi, hgB, hcapi, hcm⟩
  obtain ⟨S0, eS0⟩ : ∃ S0, S0 = S := ⟨_, rfl⟩
  have hst : StB lo w bd gi w.heap.size (strs (ss ++ [mark1, mark2]) ++ rest) [.int .i64 kd, .int .i64 who, .int .i64 N, .slice ao ss.length cap] S D W2 := by
    have hx := HX1.out.1.trans hkl
    have hz := HX1.out.1.size
    have hg : ∀ g, w.heap.size ≤ g → OffB S D bd g := fun g hg => ⟨fun hs => by have := H.out.b.inS g hs; omega, fun e => by have := H.out.b.blk.lt; omega, fun k hk => ⟨fun ho => by have := (H.out.b.rows k hk).ownLt g ho; omega, fun ho => by have := (H.out.b.refs k hk).lt g ho; omega⟩⟩
    exact ⟨H.out.b.ext hx, H.out.l, Ext.kp hx, hgB, hg gi (by omega), by have := H.out.lw; omega, HX1.out.2.ext hkl, hg _ (Nat.le_refl _), H.out.lw⟩
  have HST := Lib.hid hst
  have c0 := hkl.cell c0' id
  have c2 := hkl.cell c2' id
  have c3 := hkl.cell c3' id
  have HROW := Lib.hid (show ∀ W, Kp (fun g => lo ≤ g) w W → CellsAt W ao (strs ss) from fun W hW => by
    rcases H.out.rlo with e0 | hr
    · rw [e0]; exact CellsAt.nil _ _
    · exact H.out.row.kp hW fun a e hf => by have := hr a e; omega)
  have hcap2 : ss.length + 2 ≤ capi := by omega
  have HSZ := Lib.hid H.out.size
  clear hst hkl hgB c0' c2' c3' HX1 hgi hcapi hcm
  go_wp2_with fail
  refine (kept_any ss gi capi ao cap rest _ HST.out.gB hcap2 (HROW.out _ HST.out.kp) hss HSZ.out).mono ?_
  rintro e wk ⟨vk, rfl, hkk, rfl⟩
  have hbk := HST.out.b.kp hkk (fun e => HST.out.gO.2.1 e.symm) (fun g e k hk => by subst e; exact HST.out.gO.2.2 k hk) (fun g e => by subst e; exact HST.out.gO.1)
  have hkw : Kp (fun g => lo ≤ g) w wk := HST.out.kp.trans (hkk.mono fun g _ e => by subst e; exact HST.out.gL)
  have HBK := Lib.hid (And.intro hbk hkw)
  have HLO := Lib.hid (show ∀ g, BenchF D g → lo ≤ g from fun g hg => by obtain ⟨k, hk, hf⟩ := hg; exact (HST.out.l.2 k hk).1 g (FP.own hf))
  clear hbk hkw hkk c3
  go_wp2_with fail
  refine (benchTold_any HBK.out.1 (k := 0) (by decide)).mono ?_
  rintro e wt ⟨vt, rfl, hkt, rfl, hbt⟩
  have HB0 := Lib.hid (And.intro hbt (HBK.out.2.trans (hkt.mono fun g _ hg => HLO.out g hg)))
  clear hbt hkt
  go_wp2_with fail
  refine (benchTold_any HB0.out.1 (k := 1) (by decide)).mono ?_
  rintro e wt1 ⟨vt, rfl, hkt, rfl, hbt⟩
  have HB1 := Lib.hid (And.intro hbt (HB0.out.2.trans (hkt.mono fun g _ hg => HLO.out g hg)))
  clear hbt hkt
  go_wp2_with fail
  refine (benchTold_any HB1.out.1 (k := 2) (by decide)).mono ?_
  rintro e wt2 ⟨vt, rfl, hkt, rfl, hbt⟩
  have HB2 := Lib.hid (And.intro hbt (HB1.out.2.trans (hkt.mono fun g _ hg => HLO.out g hg)))
  clear hbt hkt
  go_wp2
  go_ret
  exact RetF.mk HB2.out.2 ⟨rfl, S, D, HB2.out.1, HST.out.l⟩
end Go.Proofs.Ytfkhelihepbehaa

/- bench.step: Add. -/
namespace Go.Proofs.Ytfkhelihepbehaa
open Go.RowKit Go.Shelf
set_option linter.unusedVariables false

set_option maxRecDepth 100000 in
set_option maxHeartbeats 8000000 in
theorem stepAdd_any {lo bd : Nat} {S : Nat → Prop} {D : Bench3} {ao : Option Addr} {cap : Nat} {ss : List ByteArray} {w : World} (h : StepIn lo bd S D ao ss w) (who N : Int) :
    Calls Try.prog 24 #[.pointer (some ⟨bd, 0, none⟩), .agg #[.int .i64 1, .int .i64 who, .int .i64 N, .slice ao ss.length cap]] w (RetF (fun g => lo ≤ g) w (StepPost lo bd)) := by
  obtain ⟨i, ei⟩ : ∃ i, placeN who 3 = i := ⟨_, rfl⟩
  have hi : i < 3 := by rw [← ei]; exact placeN_lt _ _ (by decide)
  have EI := Lib.hid (fun W => place_any who 3 (by decide) (by decide) W)
  rw [ei] at EI
  have hss := h.len
  have H := Lib.hid h
  have hb0 := Blk.new w [.int .i64 1, .int .i64 who, .int .i64 N, .slice ao ss.length cap] 73
  obtain ⟨W0, eW0⟩ : ∃ W0, w.alloc (.cells #[.int .i64 1, .int .i64 who, .int .i64 N, .slice ao ss.length cap] 73) = W0 := ⟨_, rfl⟩
  have x0 : Ext w W0 := by rw [← eW0]; exact (Kp.refl w).alloc _
  rw [show w.alloc (.cells [Value.int .i64 1, .int .i64 who, .int .i64 N, .slice ao ss.length cap].toArray 73) = W0 from eW0] at hb0
  have c1 : W0.cell? ⟨w.heap.size, 1, none⟩ = some (.int .i64 who) := by rw [hb0.cell']; rfl
  have c3 : W0.cell? ⟨w.heap.size, 3, none⟩ = some (.slice ao ss.length cap) := by rw [hb0.cell']; rfl
  have c0 : W0.cell? ⟨w.heap.size, 0, none⟩ = some (.int .i64 1) := by rw [hb0.cell']; rfl
  have c2 : W0.cell? ⟨w.heap.size, 2, none⟩ = some (.int .i64 N) := by rw [hb0.cell']; rfl
  have HX0 := Lib.hid (And.intro x0 hb0)
  obtain ⟨p, ep⟩ := (h.b.rows i hi).ptr
  obtain ⟨q, eq⟩ := (h.b.refs i hi).ptr
  have d1 := (h.b.ext x0).cr hi
  have d2 := (h.b.ext x0).cm hi
  rw [ep] at d1
  rw [eq] at d2
  have HEP := Lib.hid (And.intro ep eq)
  have i3 : (i : Int) < 3 := by omega
  clear h ei x0 hb0 ep eq
  go_enter Try.func24, Try.ntmps24
  go_wp2_with fail
  refine (EI.out _).mono ?_
  rintro e w' ⟨rfl, rfl⟩
  clear EI eW0
  go_wp2_with fail
  go_region_held3 (fun w' => w'.cell? ⟨bd, i, none⟩ = some (.pointer p) ∧ w'.cell? ⟨bd, 3 + i, none⟩ = some (.pointer q)) (first | exact ⟨by assumption, by assumption⟩ | go_keep) (fail)
  obtain ⟨W1, eW1⟩ : ∃ W1, W1 = W0.drew := ⟨_, rfl⟩
  rw [← eW1]
  have x1 : Ext W0 W1 := by rw [eW1]; exact (Kp.refl W0).drew
  have c0' := x1.cell c0 id
  have c2' := x1.cell c2 id
  have c3' := x1.cell c3 id
  have HX1 := Lib.hid (And.intro (HX0.out.1.trans x1) (HX0.out.2.ext x1))
  clear c0 c1 c2 c3 eW1 x1 HX0 d1 d2
  go_wp2_with fail
  refine (lent_any ss ao cap W1 (H.out.row.ext HX1.out.1) hss).mono ?_
  rintro e W2 ⟨vl, rfl, hkl, gi, capi, rest, rfl, hgi, hgB, hcapi, hcm⟩
  obtain ⟨S0, eS0⟩ : ∃ S0, S0 = S := ⟨_, rfl⟩
  have hst : StB lo w bd gi w.heap.size (strs (ss ++ [mark1, mark2]) ++ rest) [.int .i64 1, .int .i64 who, .int .i64 N, .slice ao ss.length cap] S D W2 := by
    have hx := HX1.out.1.trans hkl
    have hz := HX1.out.1.size
    have hg : ∀ g, w.heap.size ≤ g → OffB S D bd g := fun g hg => ⟨fun hs => by have := H.out.b.inS g hs; omega, fun e => by have := H.out.b.blk.lt; omega, fun k hk => ⟨fun ho => by have := (H.out.b.rows k hk).ownLt g ho; omega, fun ho => by have := (H.out.b.refs k hk).lt g ho; omega⟩⟩
    exact ⟨H.out.b.ext hx, H.out.l, Ext.kp hx, hgB, hg gi (by omega), by have := H.out.lw; omega, HX1.out.2.ext hkl, hg _ (Nat.le_refl _), H.out.lw⟩
  have HST := Lib.hid hst
  have c0 := hkl.cell c0' id
  have c2 := hkl.cell c2' id
  have c3 := hkl.cell c3' id
  have HROW := Lib.hid (show ∀ W, Kp (fun g => lo ≤ g) w W → CellsAt W ao (strs ss) from fun W hW => by
    rcases H.out.rlo with e0 | hr
    · rw [e0]; exact CellsAt.nil _ _
    · exact H.out.row.kp hW fun a e hf => by have := hr a e; omega)
  have hcap2 : ss.length + 2 ≤ capi := by omega
  have HSZ := Lib.hid H.out.size
  clear hst hkl hgB c0' c2' c3' HX1 hgi hcapi hcm
  obtain ⟨hxin, hxoff⟩ := HST.out.inRow (cap := capi) hss
  have good := HST.out.b.good i hi
  have HA := Lib.hid (rowsP_add (HST.out.b.rows i hi) good.1 hxin (hxoff i hi) good.2.2)
  have ea : (#[D.rv i, .slice (some ⟨gi, 0, none⟩) ss.length capi] : Array Value) = #[.pointer p, .slice (some ⟨gi, 0, none⟩) ss.length capi] := by rw [HEP.out.1]
  rw [ea] at HA
  have HG := Lib.hid good
  clear hxin hxoff good ea
  go_wp2_with fail
  refine HA.out.mono ?_
  rintro e W3 ⟨v3, rfl, hk3, rfl, S1, iv1, hg1, hr1, ho1⟩
  have hm3 := (HST.out.b.refs i hi).kp hk3 (fun g hg hm => HST.out.b.mapart i i hi hi g hm hg) (fun g hg => (HST.out.b.rows i hi).notS g hg)
  have kp3 : Kp (fun g => lo ≤ g) w W3 := HST.out.kp.trans (hk3.mono fun g _ hg => (HST.out.l.2 i hi).1 g hg)
  have HM := Lib.hid (refP_add (cap := cap) hm3 HG.out.1 rfl (HROW.out W3 kp3) hss HG.out.2.2)
  have eb : (#[D.mv i, .slice ao ss.length cap] : Array Value) = #[.pointer q, .slice ao ss.length cap] := by rw [HEP.out.2]
  rw [eb] at HM
  have en : addRP (D.mv i) (D.ar i) (D.LL i) ss = addRP (D.rv i) (D.ar i) (D.LL i) ss := by unfold addRP; rw [HST.out.b.both i hi]
  have el : addLP (D.mv i) (D.ar i) (D.LL i) ss = addLP (D.rv i) (D.ar i) (D.LL i) ss := by unfold addLP; rw [HST.out.b.both i hi]
  rw [en, el] at HM
  have c33 := hk3.cell c3 fun ho => (HST.out.oO.2.2 i hi).1 ho
  have HK3 := Lib.hid (And.intro hk3 (And.intro hg1 (And.intro hr1 ho1)))
  clear hm3 kp3 eb en el hk3 hg1 hr1 ho1 c3
  generalize (addRP (D.rv i) (D.ar i) (D.LL i) ss).1 = b1 at *
  generalize (addRP (D.rv i) (D.ar i) (D.LL i) ss).2 = e1 at *
  have tb : (b1 == b1) = true := by simp
  go_wp2_with fail
  refine HM.out.mono ?_
  rintro e W4 ⟨v4, rfl, hk4, rfl, S2, hg2, hm4⟩
  obtain ⟨S', D', hst'⟩ := HST.out.both hi HK3.out.1 HK3.out.2.1 HK3.out.2.2.1 HK3.out.2.2.2 hk4 hg2 hm4 (good_add HG.out)
  have HST := Lib.hid hst'
  have c3 : W4.cell? ⟨w.heap.size, 3, none⟩ = some (.slice ao ss.length cap) := by rw [hst'.oB.cell']; rfl
  clear hst' hk4 hg2 hm4 c33
  go_wp2_with fail
  refine (num_any _ _).mono ?_
  rintro e w' ⟨rfl, rfl⟩
  go_wp2_with fail
  refine (kept_any ss gi capi ao cap rest _ HST.out.gB hcap2 (HROW.out _ HST.out.kp) hss HSZ.out).mono ?_
  rintro e wk ⟨vk, rfl, hkk, rfl⟩
  have hbk := HST.out.b.kp hkk (fun e => HST.out.gO.2.1 e.symm) (fun g e k hk => by subst e; exact HST.out.gO.2.2 k hk) (fun g e => by subst e; exact HST.out.gO.1)
  have hkw : Kp (fun g => lo ≤ g) w wk := HST.out.kp.trans (hkk.mono fun g _ e => by subst e; exact HST.out.gL)
  have HBK := Lib.hid (And.intro hbk hkw)
  have HLO := Lib.hid (show ∀ g, BenchF D' g → lo ≤ g from fun g hg => by obtain ⟨k, hk, hf⟩ := hg; exact (HST.out.l.2 k hk).1 g (FP.own hf))
  clear hbk hkw hkk c3
  go_wp2_with fail
  refine (benchTold_any HBK.out.1 (k := 0) (by decide)).mono ?_
  rintro e wt ⟨vt, rfl, hkt, rfl, hbt⟩
  have HB0 := Lib.hid (And.intro hbt (HBK.out.2.trans (hkt.mono fun g _ hg => HLO.out g hg)))
  clear hbt hkt
  go_wp2_with fail
  refine (benchTold_any HB0.out.1 (k := 1) (by decide)).mono ?_
  rintro e wt1 ⟨vt, rfl, hkt, rfl, hbt⟩
  have HB1 := Lib.hid (And.intro hbt (HB0.out.2.trans (hkt.mono fun g _ hg => HLO.out g hg)))
  clear hbt hkt
  go_wp2_with fail
  refine (benchTold_any HB1.out.1 (k := 2) (by decide)).mono ?_
  rintro e wt2 ⟨vt, rfl, hkt, rfl, hbt⟩
  have HB2 := Lib.hid (And.intro hbt (HB1.out.2.trans (hkt.mono fun g _ hg => HLO.out g hg)))
  clear hbt hkt
  go_wp2
  go_ret
  exact RetF.mk HB2.out.2 ⟨rfl, S', D', HB2.out.1, HST.out.l⟩
end Go.Proofs.Ytfkhelihepbehaa

/- bench.step: Drop. -/
namespace Go.Proofs.Ytfkhelihepbehaa
open Go.RowKit Go.Shelf
set_option linter.unusedVariables false

set_option maxRecDepth 100000 in
set_option maxHeartbeats 8000000 in
theorem stepDrop_any {lo bd : Nat} {S : Nat → Prop} {D : Bench3} {ao : Option Addr} {cap : Nat} {ss : List ByteArray} {w : World} (h : StepIn lo bd S D ao ss w) (who N : Int) :
    Calls Try.prog 24 #[.pointer (some ⟨bd, 0, none⟩), .agg #[.int .i64 2, .int .i64 who, .int .i64 N, .slice ao ss.length cap]] w (RetF (fun g => lo ≤ g) w (StepPost lo bd)) := by
  obtain ⟨i, ei⟩ : ∃ i, placeN who 3 = i := ⟨_, rfl⟩
  have hi : i < 3 := by rw [← ei]; exact placeN_lt _ _ (by decide)
  have EI := Lib.hid (fun W => place_any who 3 (by decide) (by decide) W)
  rw [ei] at EI
  have hss := h.len
  have H := Lib.hid h
  have hb0 := Blk.new w [.int .i64 2, .int .i64 who, .int .i64 N, .slice ao ss.length cap] 73
  obtain ⟨W0, eW0⟩ : ∃ W0, w.alloc (.cells #[.int .i64 2, .int .i64 who, .int .i64 N, .slice ao ss.length cap] 73) = W0 := ⟨_, rfl⟩
  have x0 : Ext w W0 := by rw [← eW0]; exact (Kp.refl w).alloc _
  rw [show w.alloc (.cells [Value.int .i64 2, .int .i64 who, .int .i64 N, .slice ao ss.length cap].toArray 73) = W0 from eW0] at hb0
  have c1 : W0.cell? ⟨w.heap.size, 1, none⟩ = some (.int .i64 who) := by rw [hb0.cell']; rfl
  have c3 : W0.cell? ⟨w.heap.size, 3, none⟩ = some (.slice ao ss.length cap) := by rw [hb0.cell']; rfl
  have c0 : W0.cell? ⟨w.heap.size, 0, none⟩ = some (.int .i64 2) := by rw [hb0.cell']; rfl
  have c2 : W0.cell? ⟨w.heap.size, 2, none⟩ = some (.int .i64 N) := by rw [hb0.cell']; rfl
  have HX0 := Lib.hid (And.intro x0 hb0)
  obtain ⟨p, ep⟩ := (h.b.rows i hi).ptr
  obtain ⟨q, eq⟩ := (h.b.refs i hi).ptr
  have d1 := (h.b.ext x0).cr hi
  have d2 := (h.b.ext x0).cm hi
  rw [ep] at d1
  rw [eq] at d2
  have HEP := Lib.hid (And.intro ep eq)
  have i3 : (i : Int) < 3 := by omega
  clear h ei x0 hb0 ep eq
  go_enter Try.func24, Try.ntmps24
  go_wp2_with fail
  refine (EI.out _).mono ?_
  rintro e w' ⟨rfl, rfl⟩
  clear EI eW0
  go_wp2_with fail
  go_region_held3 (fun w' => w'.cell? ⟨bd, i, none⟩ = some (.pointer p) ∧ w'.cell? ⟨bd, 3 + i, none⟩ = some (.pointer q)) (first | exact ⟨by assumption, by assumption⟩ | go_keep) (fail)
  obtain ⟨W1, eW1⟩ : ∃ W1, W1 = W0.drew := ⟨_, rfl⟩
  rw [← eW1]
  have x1 : Ext W0 W1 := by rw [eW1]; exact (Kp.refl W0).drew
  have c0' := x1.cell c0 id
  have c2' := x1.cell c2 id
  have c3' := x1.cell c3 id
  have HX1 := Lib.hid (And.intro (HX0.out.1.trans x1) (HX0.out.2.ext x1))
  clear c0 c1 c2 c3 eW1 x1 HX0 d1 d2
  go_wp2_with fail
  refine (lent_any ss ao cap W1 (H.out.row.ext HX1.out.1) hss).mono ?_
  rintro e W2 ⟨vl, rfl, hkl, gi, capi, rest, rfl, hgi, hgB, hcapi, hcm⟩
  obtain ⟨S0, eS0⟩ : ∃ S0, S0 = S := ⟨_, rfl⟩
  have hst : StB lo w bd gi w.heap.size (strs (ss ++ [mark1, mark2]) ++ rest) [.int .i64 2, .int .i64 who, .int .i64 N, .slice ao ss.length cap] S D W2 := by
    have hx := HX1.out.1.trans hkl
    have hz := HX1.out.1.size
    have hg : ∀ g, w.heap.size ≤ g → OffB S D bd g := fun g hg => ⟨fun hs => by have := H.out.b.inS g hs; omega, fun e => by have := H.out.b.blk.lt; omega, fun k hk => ⟨fun ho => by have := (H.out.b.rows k hk).ownLt g ho; omega, fun ho => by have := (H.out.b.refs k hk).lt g ho; omega⟩⟩
    exact ⟨H.out.b.ext hx, H.out.l, Ext.kp hx, hgB, hg gi (by omega), by have := H.out.lw; omega, HX1.out.2.ext hkl, hg _ (Nat.le_refl _), H.out.lw⟩
  have HST := Lib.hid hst
  have c0 := hkl.cell c0' id
  have c2 := hkl.cell c2' id
  have c3 := hkl.cell c3' id
  have HROW := Lib.hid (show ∀ W, Kp (fun g => lo ≤ g) w W → CellsAt W ao (strs ss) from fun W hW => by
    rcases H.out.rlo with e0 | hr
    · rw [e0]; exact CellsAt.nil _ _
    · exact H.out.row.kp hW fun a e hf => by have := hr a e; omega)
  have hcap2 : ss.length + 2 ≤ capi := by omega
  have HSZ := Lib.hid H.out.size
  clear hst hkl hgB c0' c2' c3' HX1 hgi hcapi hcm
  obtain ⟨hxin, hxoff⟩ := HST.out.inRow (cap := capi) hss
  have good := HST.out.b.good i hi
  have HA := Lib.hid (rowsP_drop (HST.out.b.rows i hi) good.1 hxin (hxoff i hi))
  have ea : (#[D.rv i, .slice (some ⟨gi, 0, none⟩) ss.length capi] : Array Value) = #[.pointer p, .slice (some ⟨gi, 0, none⟩) ss.length capi] := by rw [HEP.out.1]
  rw [ea] at HA
  have HG := Lib.hid good
  clear hxin hxoff good ea
  go_wp2_with fail
  refine HA.out.mono ?_
  rintro e W3 ⟨v3, rfl, hk3, rfl, iv1, hr1, ho1⟩
  have hm3 := (HST.out.b.refs i hi).kp hk3 (fun g hg hm => HST.out.b.mapart i i hi hi g hm hg) (fun g hg => (HST.out.b.rows i hi).notS g hg)
  have kp3 : Kp (fun g => lo ≤ g) w W3 := HST.out.kp.trans (hk3.mono fun g _ hg => (HST.out.l.2 i hi).1 g hg)
  have HM := Lib.hid (refP_drop (cap := cap) hm3 HG.out.1 rfl (HROW.out W3 kp3) hss)
  have eb : (#[D.mv i, .slice ao ss.length cap] : Array Value) = #[.pointer q, .slice ao ss.length cap] := by rw [HEP.out.2]
  rw [eb] at HM
  have en : dropRP (D.mv i) (D.ar i) (D.LL i) ss = dropRP (D.rv i) (D.ar i) (D.LL i) ss := by unfold dropRP; rw [HST.out.b.both i hi]
  have el : dropLP (D.mv i) (D.ar i) (D.LL i) ss = dropLP (D.rv i) (D.ar i) (D.LL i) ss := by unfold dropLP; rw [HST.out.b.both i hi]
  rw [en, el] at HM
  have c33 := hk3.cell c3 fun ho => (HST.out.oO.2.2 i hi).1 ho
  have HK3 := Lib.hid (And.intro hk3 (And.intro (Grows.refl W2 S) (And.intro hr1 ho1)))
  clear hm3 kp3 eb en el hk3  hr1 ho1 c3
  generalize (dropRP (D.rv i) (D.ar i) (D.LL i) ss).1 = b1 at *
  generalize (dropRP (D.rv i) (D.ar i) (D.LL i) ss).2 = e1 at *
  have tb : (b1 == b1) = true := by simp
  go_wp2_with fail
  refine HM.out.mono ?_
  rintro e W4 ⟨v4, rfl, hk4, rfl, S2, hg2, hm4⟩
  obtain ⟨S', D', hst'⟩ := HST.out.both hi HK3.out.1 HK3.out.2.1 HK3.out.2.2.1 HK3.out.2.2.2 hk4 hg2 hm4 (good_sub HG.out dropLP_sub)
  have HST := Lib.hid hst'
  have c3 : W4.cell? ⟨w.heap.size, 3, none⟩ = some (.slice ao ss.length cap) := by rw [hst'.oB.cell']; rfl
  clear hst' hk4 hg2 hm4 c33
  go_wp2_with fail
  refine (num_any _ _).mono ?_
  rintro e w' ⟨rfl, rfl⟩
  go_wp2_with fail
  refine (kept_any ss gi capi ao cap rest _ HST.out.gB hcap2 (HROW.out _ HST.out.kp) hss HSZ.out).mono ?_
  rintro e wk ⟨vk, rfl, hkk, rfl⟩
  have hbk := HST.out.b.kp hkk (fun e => HST.out.gO.2.1 e.symm) (fun g e k hk => by subst e; exact HST.out.gO.2.2 k hk) (fun g e => by subst e; exact HST.out.gO.1)
  have hkw : Kp (fun g => lo ≤ g) w wk := HST.out.kp.trans (hkk.mono fun g _ e => by subst e; exact HST.out.gL)
  have HBK := Lib.hid (And.intro hbk hkw)
  have HLO := Lib.hid (show ∀ g, BenchF D' g → lo ≤ g from fun g hg => by obtain ⟨k, hk, hf⟩ := hg; exact (HST.out.l.2 k hk).1 g (FP.own hf))
  clear hbk hkw hkk c3
  go_wp2_with fail
  refine (benchTold_any HBK.out.1 (k := 0) (by decide)).mono ?_
  rintro e wt ⟨vt, rfl, hkt, rfl, hbt⟩
  have HB0 := Lib.hid (And.intro hbt (HBK.out.2.trans (hkt.mono fun g _ hg => HLO.out g hg)))
  clear hbt hkt
  go_wp2_with fail
  refine (benchTold_any HB0.out.1 (k := 1) (by decide)).mono ?_
  rintro e wt1 ⟨vt, rfl, hkt, rfl, hbt⟩
  have HB1 := Lib.hid (And.intro hbt (HB0.out.2.trans (hkt.mono fun g _ hg => HLO.out g hg)))
  clear hbt hkt
  go_wp2_with fail
  refine (benchTold_any HB1.out.1 (k := 2) (by decide)).mono ?_
  rintro e wt2 ⟨vt, rfl, hkt, rfl, hbt⟩
  have HB2 := Lib.hid (And.intro hbt (HB1.out.2.trans (hkt.mono fun g _ hg => HLO.out g hg)))
  clear hbt hkt
  go_wp2
  go_ret
  exact RetF.mk HB2.out.2 ⟨rfl, S', D', HB2.out.1, HST.out.l⟩
end Go.Proofs.Ytfkhelihepbehaa

/- bench.step: Has and Below. -/
namespace Go.Proofs.Ytfkhelihepbehaa
open Go.RowKit Go.Shelf
set_option linter.unusedVariables false

theorem RowsP.lens {S : Nat → Prop} {w : World} {rv iv : Value} {ar : Nat} {LL : List (List ByteArray)} (h : RowsP S w rv iv ar LL) : ∀ s ∈ LL, s.length ≤ 8796093021952 := by
  intro s hs
  rcases h with ⟨_, _, _, rfl⟩ | ⟨b, rfl, h | ⟨_, _, rfl, _⟩⟩
  · cases hs
  · obtain ⟨con, zs, hc, hs', hl⟩ := h
    rw [← hl] at hs
    obtain ⟨x, hx, rfl⟩ := List.mem_map.1 hs
    obtain ⟨sx, h1, h2, _⟩ := hs'.all x hx
    rw [hc x sx h1]; exact h2
  · cases hs
set_option maxRecDepth 100000 in
set_option maxHeartbeats 8000000 in
theorem stepHas_any {lo bd : Nat} {S : Nat → Prop} {D : Bench3} {ao : Option Addr} {cap : Nat} {ss : List ByteArray} {w : World} (h : StepIn lo bd S D ao ss w) (who N : Int) :
    Calls Try.prog 24 #[.pointer (some ⟨bd, 0, none⟩), .agg #[.int .i64 3, .int .i64 who, .int .i64 N, .slice ao ss.length cap]] w (RetF (fun g => lo ≤ g) w (StepPost lo bd)) := by
  obtain ⟨i, ei⟩ : ∃ i, placeN who 3 = i := ⟨_, rfl⟩
  have hi : i < 3 := by rw [← ei]; exact placeN_lt _ _ (by decide)
  have EI := Lib.hid (fun W => place_any who 3 (by decide) (by decide) W)
  rw [ei] at EI
  have hss := h.len
  have H := Lib.hid h
  have hb0 := Blk.new w [.int .i64 3, .int .i64 who, .int .i64 N, .slice ao ss.length cap] 73
  obtain ⟨W0, eW0⟩ : ∃ W0, w.alloc (.cells #[.int .i64 3, .int .i64 who, .int .i64 N, .slice ao ss.length cap] 73) = W0 := ⟨_, rfl⟩
  have x0 : Ext w W0 := by rw [← eW0]; exact (Kp.refl w).alloc _
  rw [show w.alloc (.cells [Value.int .i64 3, .int .i64 who, .int .i64 N, .slice ao ss.length cap].toArray 73) = W0 from eW0] at hb0
  have c1 : W0.cell? ⟨w.heap.size, 1, none⟩ = some (.int .i64 who) := by rw [hb0.cell']; rfl
  have c3 : W0.cell? ⟨w.heap.size, 3, none⟩ = some (.slice ao ss.length cap) := by rw [hb0.cell']; rfl
  have c0 : W0.cell? ⟨w.heap.size, 0, none⟩ = some (.int .i64 3) := by rw [hb0.cell']; rfl
  have c2 : W0.cell? ⟨w.heap.size, 2, none⟩ = some (.int .i64 N) := by rw [hb0.cell']; rfl
  have HX0 := Lib.hid (And.intro x0 hb0)
  obtain ⟨p, ep⟩ := (h.b.rows i hi).ptr
  obtain ⟨q, eq⟩ := (h.b.refs i hi).ptr
  have d1 := (h.b.ext x0).cr hi
  have d2 := (h.b.ext x0).cm hi
  rw [ep] at d1
  rw [eq] at d2
  have HEP := Lib.hid (And.intro ep eq)
  have i3 : (i : Int) < 3 := by omega
  clear h ei x0 hb0 ep eq
  go_enter Try.func24, Try.ntmps24
  go_wp2_with fail
  refine (EI.out _).mono ?_
  rintro e w' ⟨rfl, rfl⟩
  clear EI eW0
  go_wp2_with fail
  go_region_held3 (fun w' => w'.cell? ⟨bd, i, none⟩ = some (.pointer p) ∧ w'.cell? ⟨bd, 3 + i, none⟩ = some (.pointer q)) (first | exact ⟨by assumption, by assumption⟩ | go_keep) (fail)
  obtain ⟨W1, eW1⟩ : ∃ W1, W1 = W0.drew := ⟨_, rfl⟩
  rw [← eW1]
  have x1 : Ext W0 W1 := by rw [eW1]; exact (Kp.refl W0).drew
  have c0' := x1.cell c0 id
  have c2' := x1.cell c2 id
  have c3' := x1.cell c3 id
  have HX1 := Lib.hid (And.intro (HX0.out.1.trans x1) (HX0.out.2.ext x1))
  clear c0 c1 c2 c3 eW1 x1 HX0 d1 d2
  go_wp2_with fail
  refine (lent_any ss ao cap W1 (H.out.row.ext HX1.out.1) hss).mono ?_
  rintro e W2 ⟨vl, rfl, hkl, gi, capi, rest, rfl, hgi, hgB, hcapi, hcm⟩
  obtain ⟨S0, eS0⟩ : ∃ S0, S0 = S := ⟨_, rfl⟩
  have hst : StB lo w bd gi w.heap.size (strs (ss ++ [mark1, mark2]) ++ rest) [.int .i64 3, .int .i64 who, .int .i64 N, .slice ao ss.length cap] S D W2 := by
    have hx := HX1.out.1.trans hkl
    have hz := HX1.out.1.size
    have hg : ∀ g, w.heap.size ≤ g → OffB S D bd g := fun g hg => ⟨fun hs => by have := H.out.b.inS g hs; omega, fun e => by have := H.out.b.blk.lt; omega, fun k hk => ⟨fun ho => by have := (H.out.b.rows k hk).ownLt g ho; omega, fun ho => by have := (H.out.b.refs k hk).lt g ho; omega⟩⟩
    exact ⟨H.out.b.ext hx, H.out.l, Ext.kp hx, hgB, hg gi (by omega), by have := H.out.lw; omega, HX1.out.2.ext hkl, hg _ (Nat.le_refl _), H.out.lw⟩
  have HST := Lib.hid hst
  have c0 := hkl.cell c0' id
  have c2 := hkl.cell c2' id
  have c3 := hkl.cell c3' id
  have HROW := Lib.hid (show ∀ W, Kp (fun g => lo ≤ g) w W → CellsAt W ao (strs ss) from fun W hW => by
    rcases H.out.rlo with e0 | hr
    · rw [e0]; exact CellsAt.nil _ _
    · exact H.out.row.kp hW fun a e hf => by have := hr a e; omega)
  have hcap2 : ss.length + 2 ≤ capi := by omega
  have HSZ := Lib.hid H.out.size
  clear hst hkl hgB c0' c2' c3' HX1 hgi hcapi hcm
  obtain ⟨hxin, hxoff⟩ := HST.out.inRow (cap := capi) hss
  have good := HST.out.b.good i hi
  obtain ⟨n, en⟩ : ∃ n, n = (D.LL i).length := ⟨_, rfl⟩
  have EN := Lib.hid en
  have hn65 : n ≤ 65536 := by rw [en]; exact good.2.2
  have ST := Lib.hid (HST.out.ext (Kp.refl W2).drew)
  have HH := Lib.hid (show ∀ W, StB lo w bd gi w.heap.size (strs (ss ++ [mark1, mark2]) ++ rest) [.int .i64 3, .int .i64 who, .int .i64 N, .slice ao ss.length cap] S D W → Calls Try.prog 65 #[.pointer p, .slice (some ⟨gi, 0, none⟩) ss.length capi] W (RetF (FP (D.rv i)) W fun w' v => v = .bool (isIn cmpRow (D.LL i) ss) ∧ RowsP S w' (D.rv i) (D.iv i) (D.ar i) (D.LL i)) from fun W h => by
    have := rowsP_has (h.b.rows i hi) good.1 (h.inRow (cap := capi) hss).1 ((h.inRow (cap := capi) hss).2 i hi)
    rwa [show (#[D.rv i, .slice (some ⟨gi, 0, none⟩) ss.length capi] : Array Value) = #[.pointer p, .slice (some ⟨gi, 0, none⟩) ss.length capi] from by rw [HEP.out.1]] at this)
  have HBP := Lib.hid (show ∀ W, StB lo w bd gi w.heap.size (strs (ss ++ [mark1, mark2]) ++ rest) [.int .i64 3, .int .i64 who, .int .i64 N, .slice ao ss.length cap] S D W → Calls Try.prog 68 #[.pointer p, .slice (some ⟨gi, 0, none⟩) ss.length capi] W (RetF (FP (D.rv i)) W fun w' v => v = .int .i64 (below cmpRow (D.LL i) ss : Nat) ∧ RowsP S w' (D.rv i) (D.iv i) (D.ar i) (D.LL i)) from fun W h => by
    have := rowsP_below (h.b.rows i hi) good.1 (h.inRow (cap := capi) hss).1 ((h.inRow (cap := capi) hss).2 i hi)
    rwa [show (#[D.rv i, .slice (some ⟨gi, 0, none⟩) ss.length capi] : Array Value) = #[.pointer p, .slice (some ⟨gi, 0, none⟩) ss.length capi] from by rw [HEP.out.1]] at this)
  have HBM := Lib.hid (show ∀ W, StB lo w bd gi w.heap.size (strs (ss ++ [mark1, mark2]) ++ rest) [.int .i64 3, .int .i64 who, .int .i64 N, .slice ao ss.length cap] S D W → Calls Try.prog 66 #[.pointer q, .slice ao ss.length cap] W (RetN W fun w' v => v = .int .i64 (below cmpRow (D.LL i) ss : Nat)) from fun W h => by
    have := refP_below (cap := cap) (h.b.refs i hi) rfl (HROW.out _ h.kp) hss
    rwa [HEP.out.2] at this)
  have HAM := Lib.hid (show ∀ W, StB lo w bd gi w.heap.size (strs (ss ++ [mark1, mark2]) ++ rest) [.int .i64 3, .int .i64 who, .int .i64 N, .slice ao ss.length cap] S D W → Calls Try.prog 67 #[.pointer q] W (RetN W fun w' v => OwnRows W.heap.size w' v (D.LL i)) from fun W h => by
    have := refP_all (h.b.refs i hi)
    rwa [HEP.out.2] at this)
  have hth := Strict.there (c := cmpRow) (cmpRow_law id) good.1 ss
  by_cases hbn : below cmpRow (D.LL i) ss < n
  · obtain ⟨y, hy⟩ : ∃ y, (D.LL i)[below cmpRow (D.LL i) ss]? = some y := ⟨_, List.getElem?_eq_getElem (by rw [← en]; exact hbn)⟩
    have heq : isIn cmpRow (D.LL i) ss = decide (y = ss) := by
      rw [Bool.eq_iff_iff, hth, decide_eq_true_iff]
      constructor
      · rintro ⟨y', h1, h2⟩
        rw [hy] at h1; cases h1
        exact cmpRow_zero h2
      · rintro rfl
        exact ⟨_, hy, cmpRow_self _⟩
    have hyl : y.length ≤ maxLen := by
      have h1 := good.2.1 y (List.mem_of_getElem? hy)
      have h2 := (HST.out.b.rows i hi)
      unfold maxLen
      have := RowsP.lens h2 y (List.mem_of_getElem? hy)
      omega
    rw [heq] at HH
    have HY := Lib.hid hy
    obtain ⟨bb, ebb⟩ : ∃ bb, bb = decide (y = ss) := ⟨_, rfl⟩
    rw [← ebb] at HH
    have HEQ := Lib.hid ebb.symm
    have tb : (bb == bb) = true := by simp
    generalize below cmpRow (D.LL i) ss = bl at *
    have b1 : (bl : Int) < (n : Int) := by omega
    have b2 : (0 : Int) ≤ (bl : Int) := by omega
    have t1 : decide ((bl : Int) < (n : Int)) = true := by simp; omega
    have t2 : ((bl : Int) == (bl : Int)) = true := by simp
    clear hxin hxoff good hth heq hy en ebb
    go_wp2
    refine wp_region_held_drew (S := fun w' => w'.cell? ⟨w.heap.size, 3, none⟩ = some (.slice ao ss.length cap)) (by kernel_rfl) c3 (fun hHeld => ?_)
    (refine take_in (i := 0) (v := ?_) rfl ?_ ?_; rotate_left; (intro w hSw; (try dsimp only at hSw); go_simp; try with_reducible rfl)); (try simp only [Act.put, List.setIfInBounds_toArray, List.set_cons_zero, List.set_cons_succ])
    (refine take_in (i := 1) (v := ?_) rfl ?_ ?_; rotate_left; (intro w hSw; (try dsimp only at hSw); go_simp; try with_reducible rfl)); (try simp only [Act.put, List.setIfInBounds_toArray, List.set_cons_zero, List.set_cons_succ])
    (refine take_in (i := 3) (v := ?_) rfl ?_ ?_; rotate_left; (intro w hSw; (try dsimp only at hSw); go_simp; try with_reducible rfl)); (try simp only [Act.put, List.setIfInBounds_toArray, List.set_cons_zero, List.set_cons_succ])
    (refine take_in (i := 4) (v := ?_) rfl ?_ ?_; rotate_left; (intro w hSw; (try dsimp only at hSw); go_simp; try with_reducible rfl)); (try simp only [Act.put, List.setIfInBounds_toArray, List.set_cons_zero, List.set_cons_succ])
    (refine take_in (i := 5) (v := ?_) rfl ?_ ?_; rotate_left; (intro w hSw; (try dsimp only at hSw); go_simp; try with_reducible rfl)); (try simp only [Act.put, List.setIfInBounds_toArray, List.set_cons_zero, List.set_cons_succ])
    (refine take_in (i := 7) (v := ?_) rfl ?_ ?_; rotate_left; (intro w hSw; (try dsimp only at hSw); go_simp; try with_reducible rfl)); (try simp only [Act.put, List.setIfInBounds_toArray, List.set_cons_zero, List.set_cons_succ])
    (refine take_call (i := 2) rfl (fun K hK => ?_); go_simp; ((with_reducible refine (HH.out _ ST.out).mono ?_); rintro e W3 ⟨v3, rfl, hk3, rfl, hr3⟩; have ST := Lib.hid (ST.out.call hi hk3 hr3); have c3 : W3.cell? ⟨w.heap.size, 3, none⟩ = some (.slice ao ss.length cap) := (by rw [ST.out.oB.cell']; rfl); clear hk3 hr3); go_wp2_with fail; refine hK.out _ _ ?_ (fun hHeld => ?_); (try dsimp only); (assumption); clear hK K); (try simp only [Act.put, List.setIfInBounds_toArray, List.set_cons_zero, List.set_cons_succ])
    (refine take_call (i := 6) rfl (fun K hK => ?_); go_simp; ((with_reducible refine (HBM.out _ ST.out).mono ?_); rintro e W4 ⟨v4, rfl, hk4, rfl⟩; have ST := Lib.hid (ST.out.ext hk4); have c3 : W4.cell? ⟨w.heap.size, 3, none⟩ = some (.slice ao ss.length cap) := (by rw [ST.out.oB.cell']; rfl)); go_wp2_with fail; refine hK.out _ _ ?_ (fun hHeld => ?_); (try dsimp only); (assumption); clear hK K); (try simp only [Act.put, List.setIfInBounds_toArray, List.set_cons_zero, List.set_cons_succ])
    (refine take_call (i := 8) rfl (fun K hK => ?_); go_simp; ((with_reducible refine (HAM.out _ ST.out).mono ?_); rintro e W5 ⟨v5, rfl, hk5, ho5⟩; have ST := Lib.hid (ST.out.ext hk5); have c3 : W5.cell? ⟨w.heap.size, 3, none⟩ = some (.slice ao ss.length cap) := (by rw [ST.out.oB.cell']; rfl); obtain ⟨ao5, cap5, ev, _⟩ := ho5.shape; rw [← EN.out] at ev; subst ev; clear ho5); go_wp2_with fail; refine hK.out _ _ ?_ (fun hHeld => ?_); (try dsimp only); (assumption); clear hK K); (try simp only [Act.put, List.setIfInBounds_toArray, List.set_cons_zero, List.set_cons_succ])
    (refine take_in (i := 9) (v := ?_) rfl ?_ ?_; rotate_left; (intro w hSw; (try dsimp only at hSw); go_simp; try with_reducible rfl)); (try simp only [Act.put, List.setIfInBounds_toArray, List.set_cons_zero, List.set_cons_succ])
    (refine take_in (i := 10) (v := ?_) rfl ?_ ?_; rotate_left; (intro w hSw; (try dsimp only at hSw); go_simp; try with_reducible rfl)); (try simp only [Act.put, List.setIfInBounds_toArray, List.set_cons_zero, List.set_cons_succ])
    (refine take_in (i := 11) (v := ?_) rfl ?_ ?_; rotate_left; (intro w hSw; (try dsimp only at hSw); go_simp; try with_reducible rfl)); (try simp only [Act.put, List.setIfInBounds_toArray, List.set_cons_zero, List.set_cons_succ])
    (first | (refine take_in (i := 12) (v := ?_) rfl ?_ ?_; rotate_left; (intro w hSw; (try dsimp only at hSw); go_simp; try with_reducible rfl)) | (refine take_out (i := 12) rfl ?_)); (try simp only [Act.put, List.setIfInBounds_toArray, List.set_cons_zero, List.set_cons_succ])
    (first | (refine take_in (i := 14) (v := ?_) rfl ?_ ?_; rotate_left; (intro w hSw; (try dsimp only at hSw); go_simp; try with_reducible rfl)) | (refine take_out (i := 14) rfl ?_)); (try simp only [Act.put, List.setIfInBounds_toArray, List.set_cons_zero, List.set_cons_succ])
    (first | (refine take_in (i := 15) (v := ?_) rfl ?_ ?_; rotate_left; (intro w hSw; (try dsimp only at hSw); go_simp; try with_reducible rfl)) | (refine take_out (i := 15) rfl ?_)); (try simp only [Act.put, List.setIfInBounds_toArray, List.set_cons_zero, List.set_cons_succ])
    (first | (refine take_in (i := 16) (v := ?_) rfl ?_ ?_; rotate_left; (intro w hSw; (try dsimp only at hSw); go_simp; try with_reducible rfl)) | (refine take_out (i := 16) rfl ?_)); (try simp only [Act.put, List.setIfInBounds_toArray, List.set_cons_zero, List.set_cons_succ])
    (first | (refine take_in (i := 20) (v := ?_) rfl ?_ ?_; rotate_left; (intro w hSw; (try dsimp only at hSw); go_simp; try with_reducible rfl)) | (refine take_out (i := 20) rfl ?_)); (try simp only [Act.put, List.setIfInBounds_toArray, List.set_cons_zero, List.set_cons_succ])
    (first | (refine take_in (i := 21) (v := ?_) rfl ?_ ?_; rotate_left; (intro w hSw; (try dsimp only at hSw); go_simp; try with_reducible rfl)) | (refine take_out (i := 21) rfl ?_)); (try simp only [Act.put, List.setIfInBounds_toArray, List.set_cons_zero, List.set_cons_succ])
    (first | (refine take_out (i := 13) rfl ?_) | (refine take_call (i := 13) rfl (fun K hK => ?_); go_simp; ((with_reducible refine (HAM.out _ ST.out).mono ?_); rintro e W6 ⟨v6, rfl, hk6, ho6⟩; have ST := Lib.hid (ST.out.ext hk6); have c3 : W6.cell? ⟨w.heap.size, 3, none⟩ = some (.slice ao ss.length cap) := (by rw [ST.out.oB.cell']; rfl); obtain ⟨ao6, cap6, ev, hin6⟩ := ho6.shape; rw [← EN.out] at ev; subst ev; obtain ⟨g6, o6, x6, xc6, eao, c6, q6, l6, _⟩ := hin6.get HY.out; subst eao; clear ho6 hin6); go_wp2_with fail; refine hK.out _ _ ?_ (fun hHeld => ?_); (try dsimp only); (assumption); clear hK K)); (try simp only [Act.put, List.setIfInBounds_toArray, List.set_cons_zero, List.set_cons_succ])
    (first | (refine take_out (i := 17) rfl ?_) | (refine take_call (i := 17) rfl (fun K hK => ?_); go_simp; ((with_reducible refine (HBM.out _ ST.out).mono ?_); rintro e W7 ⟨v7, rfl, hk7, rfl⟩; have ST := Lib.hid (ST.out.ext hk7); have c3 : W7.cell? ⟨w.heap.size, 3, none⟩ = some (.slice ao ss.length cap) := (by rw [ST.out.oB.cell']; rfl); have c7 := hk7.cell c6 id; have q7 := q6.ext hk7); go_wp2_with fail; refine hK.out _ _ ?_ (fun hHeld => ?_); (try dsimp only); (assumption); clear hK K)); (try simp only [Act.put, List.setIfInBounds_toArray, List.set_cons_zero, List.set_cons_succ])
    (first | (refine take_in (i := 18) (v := ?_) rfl ?_ ?_; rotate_left; (intro w hSw; (try dsimp only at hSw); go_simp; try with_reducible rfl)) | (refine take_out (i := 18) rfl ?_)); (try simp only [Act.put, List.setIfInBounds_toArray, List.set_cons_zero, List.set_cons_succ])
    (first | (refine take_out (i := 19) rfl ?_) | (refine take_call (i := 19) rfl (fun K hK => ?_); go_simp; refine hK.out _ _ ?_ (fun hHeld => ?_); (try dsimp only); (assumption); clear hK K)); (try simp only [Act.put, List.setIfInBounds_toArray, List.set_cons_zero, List.set_cons_succ])
    (first | (refine take_out (i := 22) rfl ?_) | (refine take_call (i := 22) rfl (fun K hK => ?_); go_simp; ((with_reducible refine (same_any y ss x6 ao xc6 cap _ q7 (HROW.out _ ST.out.kp) hyl).mono ?_); rintro e W8 ⟨rfl, k8, rfl⟩; have ST := Lib.hid (ST.out.ext ((Kp.refl W7).drewN k8)); have c3 : (W7.drewN k8).cell? ⟨w.heap.size, 3, none⟩ = some (.slice ao ss.length cap) := (by rw [ST.out.oB.cell']; rfl); rw [HEQ.out]); go_wp2_with fail; refine hK.out _ _ ?_ (fun hHeld => ?_); (try dsimp only); (assumption); clear hK K)); (try simp only [Act.put, List.setIfInBounds_toArray, List.set_cons_zero, List.set_cons_succ])
    (refine take_in (i := 23) (v := ?_) rfl ?_ ?_; rotate_left; (intro w hSw; (try dsimp only at hSw); go_simp; try with_reducible rfl)); (try simp only [Act.put, List.setIfInBounds_toArray, List.set_cons_zero, List.set_cons_succ])
    (refine take_in (i := 24) (v := ?_) rfl ?_ ?_; rotate_left; (intro w hSw; (try dsimp only at hSw); go_simp; try with_reducible rfl)); (try simp only [Act.put, List.setIfInBounds_toArray, List.set_cons_zero, List.set_cons_succ])
    (refine take_in (i := 25) (v := ?_) rfl ?_ ?_; rotate_left; (intro w hSw; (try dsimp only at hSw); go_simp; try with_reducible rfl)); (try simp only [Act.put, List.setIfInBounds_toArray, List.set_cons_zero, List.set_cons_succ])
    (first | (refine take_in (i := 26) (v := ?_) rfl ?_ ?_; rotate_left; (intro w hSw; (try dsimp only at hSw); go_simp; try with_reducible rfl)) | (refine take_out (i := 26) rfl ?_)); (try simp only [Act.put, List.setIfInBounds_toArray, List.set_cons_zero, List.set_cons_succ])
    (first | (refine take_in (i := 27) (v := ?_) rfl ?_ ?_; rotate_left; (intro w hSw; (try dsimp only at hSw); go_simp; try with_reducible rfl)) | (refine take_out (i := 27) rfl ?_)); (try simp only [Act.put, List.setIfInBounds_toArray, List.set_cons_zero, List.set_cons_succ])
    (first | (refine take_in (i := 29) (v := ?_) rfl ?_ ?_; rotate_left; (intro w hSw; (try dsimp only at hSw); go_simp; try with_reducible rfl)) | (refine take_out (i := 29) rfl ?_)); (try simp only [Act.put, List.setIfInBounds_toArray, List.set_cons_zero, List.set_cons_succ])
    (first | (refine take_in (i := 30) (v := ?_) rfl ?_ ?_; rotate_left; (intro w hSw; (try dsimp only at hSw); go_simp; try with_reducible rfl)) | (refine take_out (i := 30) rfl ?_)); (try simp only [Act.put, List.setIfInBounds_toArray, List.set_cons_zero, List.set_cons_succ])
    (first | (refine take_in (i := 31) (v := ?_) rfl ?_ ?_; rotate_left; (intro w hSw; (try dsimp only at hSw); go_simp; try with_reducible rfl)) | (refine take_out (i := 31) rfl ?_)); (try simp only [Act.put, List.setIfInBounds_toArray, List.set_cons_zero, List.set_cons_succ])
    (first | (refine take_out (i := 28) rfl ?_) | (refine take_call (i := 28) rfl (fun K hK => ?_); go_simp; ((with_reducible refine (HBP.out _ ST.out).mono ?_); rintro e W9 ⟨v9, rfl, hk9, rfl, hr9⟩; have ST := Lib.hid (ST.out.call hi hk9 hr9); have c3 : W9.cell? ⟨w.heap.size, 3, none⟩ = some (.slice ao ss.length cap) := (by rw [ST.out.oB.cell']; rfl); clear hk9 hr9); go_wp2_with fail; refine hK.out _ _ ?_ (fun hHeld => ?_); (try dsimp only); (assumption); clear hK K)); (try simp only [Act.put, List.setIfInBounds_toArray, List.set_cons_zero, List.set_cons_succ])
    (first | (refine take_out (i := 32) rfl ?_) | (refine take_call (i := 32) rfl (fun K hK => ?_); go_simp; ((with_reducible refine (HBM.out _ ST.out).mono ?_); rintro e W10 ⟨v10, rfl, hk10, rfl⟩; have ST := Lib.hid (ST.out.ext hk10); have c3 : W10.cell? ⟨w.heap.size, 3, none⟩ = some (.slice ao ss.length cap) := (by rw [ST.out.oB.cell']; rfl)); go_wp2_with fail; refine hK.out _ _ ?_ (fun hHeld => ?_); (try dsimp only); (assumption); clear hK K)); (try simp only [Act.put, List.setIfInBounds_toArray, List.set_cons_zero, List.set_cons_succ])
    (first | (refine take_in (i := 33) (v := ?_) rfl ?_ ?_; rotate_left; (intro w hSw; (try dsimp only at hSw); go_simp; try with_reducible rfl)) | (refine take_out (i := 33) rfl ?_)); (try simp only [Act.put, List.setIfInBounds_toArray, List.set_cons_zero, List.set_cons_succ])
    (refine take_in (i := 34) (v := ?_) rfl ?_ ?_; rotate_left; (intro w hSw; (try dsimp only at hSw); go_simp; try with_reducible rfl)); (try simp only [Act.put, List.setIfInBounds_toArray, List.set_cons_zero, List.set_cons_succ])
    (refine take_in (i := 35) (v := ?_) rfl ?_ ?_; rotate_left; (intro w hSw; (try dsimp only at hSw); go_simp; try with_reducible rfl)); (try simp only [Act.put, List.setIfInBounds_toArray, List.set_cons_zero, List.set_cons_succ])
    refine wpAnyH_done (by kernel_rfl) ?_ _
    have HST := ST
    clear HH HBP HBM HAM
    go_wp2_with fail
    refine (kept_any ss gi capi ao cap rest _ HST.out.gB hcap2 (HROW.out _ HST.out.kp) hss HSZ.out).mono ?_
    rintro e wk ⟨vk, rfl, hkk, rfl⟩
    have hbk := HST.out.b.kp hkk (fun e => HST.out.gO.2.1 e.symm) (fun g e k hk => by subst e; exact HST.out.gO.2.2 k hk) (fun g e => by subst e; exact HST.out.gO.1)
    have hkw : Kp (fun g => lo ≤ g) w wk := HST.out.kp.trans (hkk.mono fun g _ e => by subst e; exact HST.out.gL)
    have HBK := Lib.hid (And.intro hbk hkw)
    have HLO := Lib.hid (show ∀ g, BenchF D g → lo ≤ g from fun g hg => by obtain ⟨k, hk, hf⟩ := hg; exact (HST.out.l.2 k hk).1 g (FP.own hf))
    clear hbk hkw hkk c3
    go_wp2_with fail
    refine (benchTold_any HBK.out.1 (k := 0) (by decide)).mono ?_
    rintro e wt ⟨vt, rfl, hkt, rfl, hbt⟩
    have HB0 := Lib.hid (And.intro hbt (HBK.out.2.trans (hkt.mono fun g _ hg => HLO.out g hg)))
    clear hbt hkt
    go_wp2_with fail
    refine (benchTold_any HB0.out.1 (k := 1) (by decide)).mono ?_
    rintro e wt1 ⟨vt, rfl, hkt, rfl, hbt⟩
    have HB1 := Lib.hid (And.intro hbt (HB0.out.2.trans (hkt.mono fun g _ hg => HLO.out g hg)))
    clear hbt hkt
    go_wp2_with fail
    refine (benchTold_any HB1.out.1 (k := 2) (by decide)).mono ?_
    rintro e wt2 ⟨vt, rfl, hkt, rfl, hbt⟩
    have HB2 := Lib.hid (And.intro hbt (HB1.out.2.trans (hkt.mono fun g _ hg => HLO.out g hg)))
    clear hbt hkt
    go_wp2
    go_ret
    exact RetF.mk HB2.out.2 ⟨rfl, S, D, HB2.out.1, HST.out.l⟩
  · have hno : isIn cmpRow (D.LL i) ss = false := by
      cases hb : isIn cmpRow (D.LL i) ss with
      | false => rfl
      | true =>
        obtain ⟨y, h1, _⟩ := hth.1 hb
        have := (List.getElem?_eq_some_iff.1 h1).1
        omega
    rw [hno] at HH
    generalize below cmpRow (D.LL i) ss = bl at *
    have t1 : decide ((bl : Int) < (n : Int)) = false := by simp; omega
    have t2 : ((bl : Int) == (bl : Int)) = true := by simp
    clear hxin hxoff good hth hno en
    go_wp2
    refine wp_region_held_drew (S := fun w' => w'.cell? ⟨w.heap.size, 3, none⟩ = some (.slice ao ss.length cap)) (by kernel_rfl) c3 (fun hHeld => ?_)
    (refine take_in (i := 0) (v := ?_) rfl ?_ ?_; rotate_left; (intro w hSw; (try dsimp only at hSw); go_simp; try with_reducible rfl)); (try simp only [Act.put, List.setIfInBounds_toArray, List.set_cons_zero, List.set_cons_succ])
    (refine take_in (i := 1) (v := ?_) rfl ?_ ?_; rotate_left; (intro w hSw; (try dsimp only at hSw); go_simp; try with_reducible rfl)); (try simp only [Act.put, List.setIfInBounds_toArray, List.set_cons_zero, List.set_cons_succ])
    (refine take_in (i := 3) (v := ?_) rfl ?_ ?_; rotate_left; (intro w hSw; (try dsimp only at hSw); go_simp; try with_reducible rfl)); (try simp only [Act.put, List.setIfInBounds_toArray, List.set_cons_zero, List.set_cons_succ])
    (refine take_in (i := 4) (v := ?_) rfl ?_ ?_; rotate_left; (intro w hSw; (try dsimp only at hSw); go_simp; try with_reducible rfl)); (try simp only [Act.put, List.setIfInBounds_toArray, List.set_cons_zero, List.set_cons_succ])
    (refine take_in (i := 5) (v := ?_) rfl ?_ ?_; rotate_left; (intro w hSw; (try dsimp only at hSw); go_simp; try with_reducible rfl)); (try simp only [Act.put, List.setIfInBounds_toArray, List.set_cons_zero, List.set_cons_succ])
    (refine take_in (i := 7) (v := ?_) rfl ?_ ?_; rotate_left; (intro w hSw; (try dsimp only at hSw); go_simp; try with_reducible rfl)); (try simp only [Act.put, List.setIfInBounds_toArray, List.set_cons_zero, List.set_cons_succ])
    (refine take_call (i := 2) rfl (fun K hK => ?_); go_simp; ((with_reducible refine (HH.out _ ST.out).mono ?_); rintro e W3 ⟨v3, rfl, hk3, rfl, hr3⟩; have ST := Lib.hid (ST.out.call hi hk3 hr3); have c3 : W3.cell? ⟨w.heap.size, 3, none⟩ = some (.slice ao ss.length cap) := (by rw [ST.out.oB.cell']; rfl); clear hk3 hr3); go_wp2_with fail; refine hK.out _ _ ?_ (fun hHeld => ?_); (try dsimp only); (assumption); clear hK K); (try simp only [Act.put, List.setIfInBounds_toArray, List.set_cons_zero, List.set_cons_succ])
    (refine take_call (i := 6) rfl (fun K hK => ?_); go_simp; ((with_reducible refine (HBM.out _ ST.out).mono ?_); rintro e W4 ⟨v4, rfl, hk4, rfl⟩; have ST := Lib.hid (ST.out.ext hk4); have c3 : W4.cell? ⟨w.heap.size, 3, none⟩ = some (.slice ao ss.length cap) := (by rw [ST.out.oB.cell']; rfl)); go_wp2_with fail; refine hK.out _ _ ?_ (fun hHeld => ?_); (try dsimp only); (assumption); clear hK K); (try simp only [Act.put, List.setIfInBounds_toArray, List.set_cons_zero, List.set_cons_succ])
    (refine take_call (i := 8) rfl (fun K hK => ?_); go_simp; ((with_reducible refine (HAM.out _ ST.out).mono ?_); rintro e W5 ⟨v5, rfl, hk5, ho5⟩; have ST := Lib.hid (ST.out.ext hk5); have c3 : W5.cell? ⟨w.heap.size, 3, none⟩ = some (.slice ao ss.length cap) := (by rw [ST.out.oB.cell']; rfl); obtain ⟨ao5, cap5, ev, _⟩ := ho5.shape; rw [← EN.out] at ev; subst ev; clear ho5); go_wp2_with fail; refine hK.out _ _ ?_ (fun hHeld => ?_); (try dsimp only); (assumption); clear hK K); (try simp only [Act.put, List.setIfInBounds_toArray, List.set_cons_zero, List.set_cons_succ])
    (refine take_in (i := 9) (v := ?_) rfl ?_ ?_; rotate_left; (intro w hSw; (try dsimp only at hSw); go_simp; try with_reducible rfl)); (try simp only [Act.put, List.setIfInBounds_toArray, List.set_cons_zero, List.set_cons_succ])
    (refine take_in (i := 10) (v := ?_) rfl ?_ ?_; rotate_left; (intro w hSw; (try dsimp only at hSw); go_simp; try with_reducible rfl)); (try simp only [Act.put, List.setIfInBounds_toArray, List.set_cons_zero, List.set_cons_succ])
    (refine take_in (i := 11) (v := ?_) rfl ?_ ?_; rotate_left; (intro w hSw; (try dsimp only at hSw); go_simp; try with_reducible rfl)); (try simp only [Act.put, List.setIfInBounds_toArray, List.set_cons_zero, List.set_cons_succ])
    (first | (refine take_in (i := 12) (v := ?_) rfl ?_ ?_; rotate_left; (intro w hSw; (try dsimp only at hSw); go_simp; try with_reducible rfl)) | (refine take_out (i := 12) rfl ?_)); (try simp only [Act.put, List.setIfInBounds_toArray, List.set_cons_zero, List.set_cons_succ])
    (first | (refine take_in (i := 14) (v := ?_) rfl ?_ ?_; rotate_left; (intro w hSw; (try dsimp only at hSw); go_simp; try with_reducible rfl)) | (refine take_out (i := 14) rfl ?_)); (try simp only [Act.put, List.setIfInBounds_toArray, List.set_cons_zero, List.set_cons_succ])
    (first | (refine take_in (i := 15) (v := ?_) rfl ?_ ?_; rotate_left; (intro w hSw; (try dsimp only at hSw); go_simp; try with_reducible rfl)) | (refine take_out (i := 15) rfl ?_)); (try simp only [Act.put, List.setIfInBounds_toArray, List.set_cons_zero, List.set_cons_succ])
    (first | (refine take_in (i := 16) (v := ?_) rfl ?_ ?_; rotate_left; (intro w hSw; (try dsimp only at hSw); go_simp; try with_reducible rfl)) | (refine take_out (i := 16) rfl ?_)); (try simp only [Act.put, List.setIfInBounds_toArray, List.set_cons_zero, List.set_cons_succ])
    (first | (refine take_in (i := 20) (v := ?_) rfl ?_ ?_; rotate_left; (intro w hSw; (try dsimp only at hSw); go_simp; try with_reducible rfl)) | (refine take_out (i := 20) rfl ?_)); (try simp only [Act.put, List.setIfInBounds_toArray, List.set_cons_zero, List.set_cons_succ])
    (first | (refine take_in (i := 21) (v := ?_) rfl ?_ ?_; rotate_left; (intro w hSw; (try dsimp only at hSw); go_simp; try with_reducible rfl)) | (refine take_out (i := 21) rfl ?_)); (try simp only [Act.put, List.setIfInBounds_toArray, List.set_cons_zero, List.set_cons_succ])
    (first | (refine take_out (i := 13) rfl ?_) | (refine take_call (i := 13) rfl (fun K hK => ?_); go_simp; ((with_reducible refine (HAM.out _ ST.out).mono ?_); rintro e W6 ⟨v6, rfl, hk6, ho6⟩; have ST := Lib.hid (ST.out.ext hk6); have c3 : W6.cell? ⟨w.heap.size, 3, none⟩ = some (.slice ao ss.length cap) := (by rw [ST.out.oB.cell']; rfl); obtain ⟨ao6, cap6, ev, hin6⟩ := ho6.shape; rw [← EN.out] at ev; subst ev; obtain ⟨g6, o6, x6, xc6, eao, c6, q6, l6, _⟩ := hin6.get HY.out; subst eao; clear ho6 hin6); go_wp2_with fail; refine hK.out _ _ ?_ (fun hHeld => ?_); (try dsimp only); (assumption); clear hK K)); (try simp only [Act.put, List.setIfInBounds_toArray, List.set_cons_zero, List.set_cons_succ])
    (first | (refine take_out (i := 17) rfl ?_) | (refine take_call (i := 17) rfl (fun K hK => ?_); go_simp; ((with_reducible refine (HBM.out _ ST.out).mono ?_); rintro e W7 ⟨v7, rfl, hk7, rfl⟩; have ST := Lib.hid (ST.out.ext hk7); have c3 : W7.cell? ⟨w.heap.size, 3, none⟩ = some (.slice ao ss.length cap) := (by rw [ST.out.oB.cell']; rfl); have c7 := hk7.cell c6 id; have q7 := q6.ext hk7); go_wp2_with fail; refine hK.out _ _ ?_ (fun hHeld => ?_); (try dsimp only); (assumption); clear hK K)); (try simp only [Act.put, List.setIfInBounds_toArray, List.set_cons_zero, List.set_cons_succ])
    (first | (refine take_in (i := 18) (v := ?_) rfl ?_ ?_; rotate_left; (intro w hSw; (try dsimp only at hSw); go_simp; try with_reducible rfl)) | (refine take_out (i := 18) rfl ?_)); (try simp only [Act.put, List.setIfInBounds_toArray, List.set_cons_zero, List.set_cons_succ])
    (first | (refine take_out (i := 19) rfl ?_) | (refine take_call (i := 19) rfl (fun K hK => ?_); go_simp; refine hK.out _ _ ?_ (fun hHeld => ?_); (try dsimp only); (assumption); clear hK K)); (try simp only [Act.put, List.setIfInBounds_toArray, List.set_cons_zero, List.set_cons_succ])
    (first | (refine take_out (i := 22) rfl ?_) | (refine take_call (i := 22) rfl (fun K hK => ?_); go_simp; ((with_reducible refine (same_any y ss x6 ao xc6 cap _ q7 (HROW.out _ ST.out.kp) hyl).mono ?_); rintro e W8 ⟨rfl, k8, rfl⟩; have ST := Lib.hid (ST.out.ext ((Kp.refl W7).drewN k8)); have c3 : (W7.drewN k8).cell? ⟨w.heap.size, 3, none⟩ = some (.slice ao ss.length cap) := (by rw [ST.out.oB.cell']; rfl); rw [HEQ.out]); go_wp2_with fail; refine hK.out _ _ ?_ (fun hHeld => ?_); (try dsimp only); (assumption); clear hK K)); (try simp only [Act.put, List.setIfInBounds_toArray, List.set_cons_zero, List.set_cons_succ])
    (refine take_in (i := 23) (v := ?_) rfl ?_ ?_; rotate_left; (intro w hSw; (try dsimp only at hSw); go_simp; try with_reducible rfl)); (try simp only [Act.put, List.setIfInBounds_toArray, List.set_cons_zero, List.set_cons_succ])
    (refine take_in (i := 24) (v := ?_) rfl ?_ ?_; rotate_left; (intro w hSw; (try dsimp only at hSw); go_simp; try with_reducible rfl)); (try simp only [Act.put, List.setIfInBounds_toArray, List.set_cons_zero, List.set_cons_succ])
    (refine take_in (i := 25) (v := ?_) rfl ?_ ?_; rotate_left; (intro w hSw; (try dsimp only at hSw); go_simp; try with_reducible rfl)); (try simp only [Act.put, List.setIfInBounds_toArray, List.set_cons_zero, List.set_cons_succ])
    (first | (refine take_in (i := 26) (v := ?_) rfl ?_ ?_; rotate_left; (intro w hSw; (try dsimp only at hSw); go_simp; try with_reducible rfl)) | (refine take_out (i := 26) rfl ?_)); (try simp only [Act.put, List.setIfInBounds_toArray, List.set_cons_zero, List.set_cons_succ])
    (first | (refine take_in (i := 27) (v := ?_) rfl ?_ ?_; rotate_left; (intro w hSw; (try dsimp only at hSw); go_simp; try with_reducible rfl)) | (refine take_out (i := 27) rfl ?_)); (try simp only [Act.put, List.setIfInBounds_toArray, List.set_cons_zero, List.set_cons_succ])
    (first | (refine take_in (i := 29) (v := ?_) rfl ?_ ?_; rotate_left; (intro w hSw; (try dsimp only at hSw); go_simp; try with_reducible rfl)) | (refine take_out (i := 29) rfl ?_)); (try simp only [Act.put, List.setIfInBounds_toArray, List.set_cons_zero, List.set_cons_succ])
    (first | (refine take_in (i := 30) (v := ?_) rfl ?_ ?_; rotate_left; (intro w hSw; (try dsimp only at hSw); go_simp; try with_reducible rfl)) | (refine take_out (i := 30) rfl ?_)); (try simp only [Act.put, List.setIfInBounds_toArray, List.set_cons_zero, List.set_cons_succ])
    (first | (refine take_in (i := 31) (v := ?_) rfl ?_ ?_; rotate_left; (intro w hSw; (try dsimp only at hSw); go_simp; try with_reducible rfl)) | (refine take_out (i := 31) rfl ?_)); (try simp only [Act.put, List.setIfInBounds_toArray, List.set_cons_zero, List.set_cons_succ])
    (first | (refine take_out (i := 28) rfl ?_) | (refine take_call (i := 28) rfl (fun K hK => ?_); go_simp; ((with_reducible refine (HBP.out _ ST.out).mono ?_); rintro e W9 ⟨v9, rfl, hk9, rfl, hr9⟩; have ST := Lib.hid (ST.out.call hi hk9 hr9); have c3 : W9.cell? ⟨w.heap.size, 3, none⟩ = some (.slice ao ss.length cap) := (by rw [ST.out.oB.cell']; rfl); clear hk9 hr9); go_wp2_with fail; refine hK.out _ _ ?_ (fun hHeld => ?_); (try dsimp only); (assumption); clear hK K)); (try simp only [Act.put, List.setIfInBounds_toArray, List.set_cons_zero, List.set_cons_succ])
    (first | (refine take_out (i := 32) rfl ?_) | (refine take_call (i := 32) rfl (fun K hK => ?_); go_simp; ((with_reducible refine (HBM.out _ ST.out).mono ?_); rintro e W10 ⟨v10, rfl, hk10, rfl⟩; have ST := Lib.hid (ST.out.ext hk10); have c3 : W10.cell? ⟨w.heap.size, 3, none⟩ = some (.slice ao ss.length cap) := (by rw [ST.out.oB.cell']; rfl)); go_wp2_with fail; refine hK.out _ _ ?_ (fun hHeld => ?_); (try dsimp only); (assumption); clear hK K)); (try simp only [Act.put, List.setIfInBounds_toArray, List.set_cons_zero, List.set_cons_succ])
    (first | (refine take_in (i := 33) (v := ?_) rfl ?_ ?_; rotate_left; (intro w hSw; (try dsimp only at hSw); go_simp; try with_reducible rfl)) | (refine take_out (i := 33) rfl ?_)); (try simp only [Act.put, List.setIfInBounds_toArray, List.set_cons_zero, List.set_cons_succ])
    (refine take_in (i := 34) (v := ?_) rfl ?_ ?_; rotate_left; (intro w hSw; (try dsimp only at hSw); go_simp; try with_reducible rfl)); (try simp only [Act.put, List.setIfInBounds_toArray, List.set_cons_zero, List.set_cons_succ])
    (refine take_in (i := 35) (v := ?_) rfl ?_ ?_; rotate_left; (intro w hSw; (try dsimp only at hSw); go_simp; try with_reducible rfl)); (try simp only [Act.put, List.setIfInBounds_toArray, List.set_cons_zero, List.set_cons_succ])
    refine wpAnyH_done (by kernel_rfl) ?_ _
    have HST := ST
    clear HH HBP HBM HAM
    go_wp2_with fail
    refine (kept_any ss gi capi ao cap rest _ HST.out.gB hcap2 (HROW.out _ HST.out.kp) hss HSZ.out).mono ?_
    rintro e wk ⟨vk, rfl, hkk, rfl⟩
    have hbk := HST.out.b.kp hkk (fun e => HST.out.gO.2.1 e.symm) (fun g e k hk => by subst e; exact HST.out.gO.2.2 k hk) (fun g e => by subst e; exact HST.out.gO.1)
    have hkw : Kp (fun g => lo ≤ g) w wk := HST.out.kp.trans (hkk.mono fun g _ e => by subst e; exact HST.out.gL)
    have HBK := Lib.hid (And.intro hbk hkw)
    have HLO := Lib.hid (show ∀ g, BenchF D g → lo ≤ g from fun g hg => by obtain ⟨k, hk, hf⟩ := hg; exact (HST.out.l.2 k hk).1 g (FP.own hf))
    clear hbk hkw hkk c3
    go_wp2_with fail
    refine (benchTold_any HBK.out.1 (k := 0) (by decide)).mono ?_
    rintro e wt ⟨vt, rfl, hkt, rfl, hbt⟩
    have HB0 := Lib.hid (And.intro hbt (HBK.out.2.trans (hkt.mono fun g _ hg => HLO.out g hg)))
    clear hbt hkt
    go_wp2_with fail
    refine (benchTold_any HB0.out.1 (k := 1) (by decide)).mono ?_
    rintro e wt1 ⟨vt, rfl, hkt, rfl, hbt⟩
    have HB1 := Lib.hid (And.intro hbt (HB0.out.2.trans (hkt.mono fun g _ hg => HLO.out g hg)))
    clear hbt hkt
    go_wp2_with fail
    refine (benchTold_any HB1.out.1 (k := 2) (by decide)).mono ?_
    rintro e wt2 ⟨vt, rfl, hkt, rfl, hbt⟩
    have HB2 := Lib.hid (And.intro hbt (HB1.out.2.trans (hkt.mono fun g _ hg => HLO.out g hg)))
    clear hbt hkt
    go_wp2
    go_ret
    exact RetF.mk HB2.out.2 ⟨rfl, S, D, HB2.out.1, HST.out.l⟩
end Go.Proofs.Ytfkhelihepbehaa

/- bench.step: new Rows of both go to a place. -/
namespace Go.Proofs.Ytfkhelihepbehaa
open Go.RowKit Go.Shelf
set_option linter.unusedVariables false

section
variable {lo bd gi ob : Nat} {w0 w W W1 W2 W3 : World} {cg co : List Value} {S S' : Nat → Prop} {D : Bench3} {i : Nat} {rv iv mv : Value} {ar : Nat} {LL : List (List ByteArray)}
theorem StB.put' (h0 : StB lo w0 bd gi ob cg co S D W) (h : StB lo w0 bd gi ob cg co S D W2) (hi : i < 3) (hW : W.heap.size ≤ W2.heap.size) (hk : Kp (fun g => g = bd) W2 W3)
    (hB : Blk W3 bd [(D.upd i rv iv mv ar LL).rv 0, (D.upd i rv iv mv ar LL).rv 1, (D.upd i rv iv mv ar LL).rv 2, (D.upd i rv iv mv ar LL).mv 0, (D.upd i rv iv mv ar LL).mv 1, (D.upd i rv iv mv ar LL).mv 2] 57)
    (hS : Grows W S S') (hr : RowsP S W2 rv iv ar LL) (hm : RefP S' W3 mv ar LL) (hrn : ∀ g, OwnP rv iv g → W.heap.size ≤ g) (hmn : ∀ g, FP mv g → W.heap.size ≤ g)
    (hrS : ∀ g, OwnP rv iv g → ¬ S' g) (hrm : ∀ g, FP mv g → ¬ OwnP rv iv g) (hb : isNil rv = isNil mv) (hg : Strict cmpRow LL ∧ (∀ ss ∈ LL, ss.length = ar ∧ textsC ss = true) ∧ LL.length ≤ 65536) : ∃ S' D', StB lo w0 bd gi ob cg co S' D' W3 := by
  have bz := h0.b.blk.lt
  have nbd : ∀ g, g = bd → ¬ S g := fun g e hs => h.b.offS (e ▸ hs)
  have lo1 := h0.lw
  have lo2 := h0.kp.size
  have hz3 := hk.size
  refine ⟨fun k => S' k ∧ k < W3.heap.size, D.upd i rv iv mv ar LL, h.turn (z := W.heap.size) h0.below bz h0.gB.lt h0.oB.lt (by omega) hi (hk.mono fun g _ e => .inr (.inr e)) hB ⟨fun k hk => ⟨hS.1 k hk, by have := h.b.inS k hk; omega⟩, fun k hk => hS.2 k hk.1⟩ (fun k hk => hk.2)
    ((hr.kp hk (fun g e ho => by have := hrn g ho; omega) nbd).wide (fun k hk => ⟨hS.1 k hk, by have := h.b.inS k hk; omega⟩) (fun k hk => hk.2) fun g ho hs => hrS g ho hs.1) hm.trim (fun g ho => .inr (hrn g ho)) (fun g ho => .inr (hmn g ho)) hrm hb hg⟩
/-- The two stores, either of them first. -/
theorem StB.stored (h : StB lo w0 bd gi ob cg co S D W2) (hi : i < 3) (h3 : W3 = (W2.setCell ⟨bd, i, none⟩ rv).setCell ⟨bd, 3 + i, none⟩ mv ∨ W3 = (W2.setCell ⟨bd, 3 + i, none⟩ mv).setCell ⟨bd, i, none⟩ rv) :
    Kp (fun g => g = bd) W2 W3 ∧ Blk W3 bd [(D.upd i rv iv mv ar LL).rv 0, (D.upd i rv iv mv ar LL).rv 1, (D.upd i rv iv mv ar LL).rv 2, (D.upd i rv iv mv ar LL).mv 0, (D.upd i rv iv mv ar LL).mv 1, (D.upd i rv iv mv ar LL).mv 2] 57 := by
  refine ⟨?_, ?_⟩
  · rcases h3 with rfl | rfl
    · exact Kp.setCell (F := fun g => g = bd) (Kp.setCell (F := fun g => g = bd) (Kp.refl _) (fun _ => rfl) _) (fun _ => rfl) _
    · exact Kp.setCell (F := fun g => g = bd) (Kp.setCell (F := fun g => g = bd) (Kp.refl _) (fun _ => rfl) _) (fun _ => rfl) _
  · have hb0 := h.b.blk
    rcases h3 with rfl | rfl
    all_goals
      match i, hi with
      | 0, _ => exact (hb0.set _ _).set _ _
      | 1, _ => exact (hb0.set _ _).set _ _
      | 2, _ => exact (hb0.set _ _).set _ _
theorem isNil_cases {p q : Option Addr} (h : isNil (.pointer p) = isNil (.pointer q)) : (p = none ∧ q = none) ∨ ∃ a b, p = some a ∧ q = some b := by
  cases p with
  | none =>
    cases q with
    | none => exact .inl ⟨rfl, rfl⟩
    | some b => cases h
  | some a =>
    cases q with
    | none => cases h
    | some b => exact .inr ⟨a, b, rfl, rfl⟩
theorem good_nil {ar : Nat} : Strict cmpRow ([] : List (List ByteArray)) ∧ (∀ s ∈ ([] : List (List ByteArray)), s.length = ar ∧ textsC s = true) ∧ ([] : List (List ByteArray)).length ≤ 65536 :=
  ⟨List.Pairwise.nil, fun s h => (by cases h), by simp⟩
theorem withE_nil {v1 v2 n1 n2 : Value} {a1 a2 : Nat} {L : List (List ByteArray)} (h1 : isNil v1 = isNil n1) (h2 : isNil v2 = isNil n2) : withE v1 v2 a1 a2 L = withE n1 n2 a1 a2 L := by simp [withE, h1, h2]
theorem withE_zero {v1 v2 : Value} {a1 a2 : Nat} {L : List (List ByteArray)} (h : withE v1 v2 a1 a2 L = 0) : a1 = a2 ∧ L.length ≤ 65536 := by
  unfold withE at h
  split at h
  · cases h
  · split at h
    · cases h
    · split at h
      · cases h
      · omega
end
theorem NewP.get {S : Nat → Prop} {w w' : World} {ar : Nat} {L : List (List ByteArray)} {r : Value} (h : NewP S w ar L 0 w' r) : ∃ b iv, r = .pointer (some ⟨b, 0, none⟩) ∧ (∀ k, OwnP r iv k → w.heap.size ≤ k) ∧ RowsP S w' r iv ar L := by
  rcases h with ⟨h, _⟩ | ⟨_, h⟩
  · exact absurd rfl h
  · exact h
theorem NewM.get {S : Nat → Prop} {w w' : World} {ar : Nat} {L : List (List ByteArray)} {r : Value} (h : NewM S w ar L 0 w' r) : ∃ c S', r = .pointer (some ⟨c, 0, none⟩) ∧ w.heap.size ≤ c ∧ Grows w S S' ∧ RefP S' w' r ar L := by
  rcases h with ⟨h, _⟩ | ⟨_, h⟩
  · exact absurd rfl h
  · exact h
end Go.Proofs.Ytfkhelihepbehaa

/- bench.step: NewRows. -/
namespace Go.Proofs.Ytfkhelihepbehaa
open Go.RowKit Go.Shelf
set_option linter.unusedVariables false

set_option maxRecDepth 100000 in
set_option maxHeartbeats 8000000 in
theorem stepNew_any {lo bd : Nat} {S : Nat → Prop} {D : Bench3} {ao : Option Addr} {cap : Nat} {ss : List ByteArray} {w : World} (h : StepIn lo bd S D ao ss w) (who N : Int) :
    Calls Try.prog 24 #[.pointer (some ⟨bd, 0, none⟩), .agg #[.int .i64 4, .int .i64 who, .int .i64 N, .slice ao ss.length cap]] w (RetF (fun g => lo ≤ g) w (StepPost lo bd)) := by
  obtain ⟨i, ei⟩ : ∃ i, placeN who 3 = i := ⟨_, rfl⟩
  have hi : i < 3 := by rw [← ei]; exact placeN_lt _ _ (by decide)
  have EI := Lib.hid (fun W => place_any who 3 (by decide) (by decide) W)
  rw [ei] at EI
  have hss := h.len
  have H := Lib.hid h
  have hb0 := Blk.new w [.int .i64 4, .int .i64 who, .int .i64 N, .slice ao ss.length cap] 73
  obtain ⟨W0, eW0⟩ : ∃ W0, w.alloc (.cells #[.int .i64 4, .int .i64 who, .int .i64 N, .slice ao ss.length cap] 73) = W0 := ⟨_, rfl⟩
  have x0 : Ext w W0 := by rw [← eW0]; exact (Kp.refl w).alloc _
  rw [show w.alloc (.cells [Value.int .i64 4, .int .i64 who, .int .i64 N, .slice ao ss.length cap].toArray 73) = W0 from eW0] at hb0
  have c1 : W0.cell? ⟨w.heap.size, 1, none⟩ = some (.int .i64 who) := by rw [hb0.cell']; rfl
  have c3 : W0.cell? ⟨w.heap.size, 3, none⟩ = some (.slice ao ss.length cap) := by rw [hb0.cell']; rfl
  have c0 : W0.cell? ⟨w.heap.size, 0, none⟩ = some (.int .i64 4) := by rw [hb0.cell']; rfl
  have c2 : W0.cell? ⟨w.heap.size, 2, none⟩ = some (.int .i64 N) := by rw [hb0.cell']; rfl
  have HX0 := Lib.hid (And.intro x0 hb0)
  obtain ⟨p, ep⟩ := (h.b.rows i hi).ptr
  obtain ⟨q, eq⟩ := (h.b.refs i hi).ptr
  have d1 := (h.b.ext x0).cr hi
  have d2 := (h.b.ext x0).cm hi
  rw [ep] at d1
  rw [eq] at d2
  have HEP := Lib.hid (And.intro ep eq)
  have i3 : (i : Int) < 3 := by omega
  clear h ei x0 hb0 ep eq
  go_enter Try.func24, Try.ntmps24
  go_wp2_with fail
  refine (EI.out _).mono ?_
  rintro e w' ⟨rfl, rfl⟩
  clear EI eW0
  go_wp2_with fail
  go_region_held3 (fun w' => w'.cell? ⟨bd, i, none⟩ = some (.pointer p) ∧ w'.cell? ⟨bd, 3 + i, none⟩ = some (.pointer q)) (first | exact ⟨by assumption, by assumption⟩ | go_keep) (fail)
  obtain ⟨W1, eW1⟩ : ∃ W1, W1 = W0.drew := ⟨_, rfl⟩
  rw [← eW1]
  have x1 : Ext W0 W1 := by rw [eW1]; exact (Kp.refl W0).drew
  have c0' := x1.cell c0 id
  have c2' := x1.cell c2 id
  have c3' := x1.cell c3 id
  have HX1 := Lib.hid (And.intro (HX0.out.1.trans x1) (HX0.out.2.ext x1))
  clear c0 c1 c2 c3 eW1 x1 HX0 d1 d2
  go_wp2_with fail
  refine (lent_any ss ao cap W1 (H.out.row.ext HX1.out.1) hss).mono ?_
  rintro e W2 ⟨vl, rfl, hkl, gi, capi, rest, rfl, hgi, hgB, hcapi, hcm⟩
  obtain ⟨S0, eS0⟩ : ∃ S0, S0 = S := ⟨_, rfl⟩
  have hst : StB lo w bd gi w.heap.size (strs (ss ++ [mark1, mark2]) ++ rest) [.int .i64 4, .int .i64 who, .int .i64 N, .slice ao ss.length cap] S D W2 := by
    have hx := HX1.out.1.trans hkl
    have hz := HX1.out.1.size
    have hg : ∀ g, w.heap.size ≤ g → OffB S D bd g := fun g hg => ⟨fun hs => by have := H.out.b.inS g hs; omega, fun e => by have := H.out.b.blk.lt; omega, fun k hk => ⟨fun ho => by have := (H.out.b.rows k hk).ownLt g ho; omega, fun ho => by have := (H.out.b.refs k hk).lt g ho; omega⟩⟩
    exact ⟨H.out.b.ext hx, H.out.l, Ext.kp hx, hgB, hg gi (by omega), by have := H.out.lw; omega, HX1.out.2.ext hkl, hg _ (Nat.le_refl _), H.out.lw⟩
  have HST := Lib.hid hst
  have c0 := hkl.cell c0' id
  have c2 := hkl.cell c2' id
  have c3 := hkl.cell c3' id
  have HROW := Lib.hid (show ∀ W, Kp (fun g => lo ≤ g) w W → CellsAt W ao (strs ss) from fun W hW => by
    rcases H.out.rlo with e0 | hr
    · rw [e0]; exact CellsAt.nil _ _
    · exact H.out.row.kp hW fun a e hf => by have := hr a e; omega)
  have hcap2 : ss.length + 2 ≤ capi := by omega
  have HSZ := Lib.hid H.out.size
  clear hst hkl hgB c0' c2' c3' HX1 hgi hcapi hcm
  by_cases hN : 0 ≤ N ∧ N ≤ 64
  · obtain ⟨a, rfl⟩ := Int.eq_ofNat_of_zero_le hN.1
    have ha : a ≤ 64 := by omega
    have HNW := Lib.hid (newRows_any S W2 a ha HST.out.b.inS)
    clear hN
    go_wp2_with fail
    refine HNW.out.mono ?_
    rintro e W3 ⟨v3, rfl, hk3, rfl, hr3⟩
    have hst3 := HST.out.ext hk3
    have c23 := hk3.cell c2 id
    have hz23 := hk3.size
    have HRN := Lib.hid (refNewRows_any S W3 a ha hst3.b.inS)
    have HK3 := Lib.hid (And.intro hst3 hr3)
    clear hk3 hr3 hst3
    go_wp2_with fail
    refine HRN.out.mono ?_
    rintro e W4 ⟨v4, rfl, hk4, rfl, hm4⟩
    have hst4 := HK3.out.1.ext hk4
    have hr4 := HK3.out.2.ext hk4
    have hz34 := hk4.size
    have c3 := (hst4.oB.cell' 3)
    simp only [List.getElem?_cons_succ, List.getElem?_cons_zero] at c3
    have HK4 := Lib.hid (And.intro hst4 (And.intro hr4 hm4))
    have f1 := hst4.b.blk.free i
    have f2 := hst4.b.blk.free (3 + i)
    have e1 := hst4.b.cr hi
    have e2 := hst4.b.cm hi
    have hnn : ∀ w : World, (binOp .eql 52 (.pointer (some ⟨W2.heap.size, 0, none⟩)) (.pointer none)).run Try.prog w = .ok (.bool false) w := fun _ => by kernel_rfl
    have hnm : ∀ w : World, (binOp .eql 54 (.pointer (some ⟨W3.heap.size, 0, none⟩)) (.pointer none)).run Try.prog w = .ok (.bool false) w := fun _ => by kernel_rfl
    clear hst4 hr4 hm4 hk4 c23
    go_wp2_with fail
    refine (num_any _ _).mono ?_
    rintro e w' ⟨rfl, rfl⟩
    by_cases hi2 : i < 2
    · have i2 : (i : Int) < 2 := by omega
      go_wp2_with fail
      go_region
      all_goals
        generalize hW6 : World.setCell (World.setCell _ _ _) _ _ = W6
        obtain ⟨S', D', hst'⟩ : ∃ S' D', StB lo w bd gi w.heap.size (strs (ss ++ [mark1, mark2]) ++ rest) [.int .i64 4, .int .i64 who, .int .i64 (a : Nat), .slice ao ss.length cap] S' D' W6 := by
          obtain ⟨hst4, hr4, hm4⟩ := HK4.out
          have hlt23 : W2.heap.size < W3.heap.size := HK3.out.2.blk.lt
          obtain ⟨hk6, hb6⟩ := StB.stored (rv := .pointer (some ⟨W2.heap.size, 0, none⟩)) (mv := .pointer (some ⟨W3.heap.size, 0, none⟩)) (iv := .slice none 0 0) (ar := a) (LL := []) hst4 hi (W3 := W6) (by first | exact .inl hW6.symm | exact .inr hW6.symm)
          have hm6 : RefP S W6 (.pointer (some ⟨W3.heap.size, 0, none⟩)) a [] := .inr ⟨_, rfl, hm4.kp hk6 (fun e => by have := hst4.b.blk.lt; have := HK3.out.1.b.blk.lt; omega) (fun g e hs => hst4.b.offS (e ▸ hs))⟩
          refine StB.put' HST.out hst4 hi (by omega) hk6 hb6 (Grows.refl _ _) hr4.p hm6 ?_ ?_ ?_ ?_ rfl good_nil
          · rintro g ⟨b, e, ho⟩
            cases e
            rcases ho with rfl | ho
            · exact Nat.le_refl _
            · cases ho
          · intro g hg; cases hg; omega
          · rintro g ⟨b, e, ho⟩ hs
            cases e
            exact hr4.notS g ho hs
          · intro g hg ⟨b, e, ho⟩
            cases e
            cases hg
            rcases ho with ho | ho
            · omega
            · cases ho
        have HST := Lib.hid (hst'.ext (Kp.refl W6).drew)
        have c3 : W6.cell? ⟨w.heap.size, 3, none⟩ = some (.slice ao ss.length cap) := by rw [hst'.oB.cell']; rfl
        clear hst' hW6
        go_wp2_with fail
        refine (kept_any ss gi capi ao cap rest _ HST.out.gB hcap2 (HROW.out _ HST.out.kp) hss HSZ.out).mono ?_
        rintro e wk ⟨vk, rfl, hkk, rfl⟩
        have hbk := HST.out.b.kp hkk (fun e => HST.out.gO.2.1 e.symm) (fun g e k hk => by subst e; exact HST.out.gO.2.2 k hk) (fun g e => by subst e; exact HST.out.gO.1)
        have hkw : Kp (fun g => lo ≤ g) w wk := HST.out.kp.trans (hkk.mono fun g _ e => by subst e; exact HST.out.gL)
        have HBK := Lib.hid (And.intro hbk hkw)
        have HLO := Lib.hid (show ∀ g, BenchF D' g → lo ≤ g from fun g hg => by obtain ⟨k, hk, hf⟩ := hg; exact (HST.out.l.2 k hk).1 g (FP.own hf))
        clear hbk hkw hkk c3
        go_wp2_with fail
        refine (benchTold_any HBK.out.1 (k := 0) (by decide)).mono ?_
        rintro e wt ⟨vt, rfl, hkt, rfl, hbt⟩
        have HB0 := Lib.hid (And.intro hbt (HBK.out.2.trans (hkt.mono fun g _ hg => HLO.out g hg)))
        clear hbt hkt
        go_wp2_with fail
        refine (benchTold_any HB0.out.1 (k := 1) (by decide)).mono ?_
        rintro e wt1 ⟨vt, rfl, hkt, rfl, hbt⟩
        have HB1 := Lib.hid (And.intro hbt (HB0.out.2.trans (hkt.mono fun g _ hg => HLO.out g hg)))
        clear hbt hkt
        go_wp2_with fail
        refine (benchTold_any HB1.out.1 (k := 2) (by decide)).mono ?_
        rintro e wt2 ⟨vt, rfl, hkt, rfl, hbt⟩
        have HB2 := Lib.hid (And.intro hbt (HB1.out.2.trans (hkt.mono fun g _ hg => HLO.out g hg)))
        clear hbt hkt
        go_wp2
        go_ret
        exact RetF.mk HB2.out.2 ⟨rfl, S', D', HB2.out.1, HST.out.l⟩
    · have i2 : ¬ (i : Int) < 2 := by omega
      have HST := Lib.hid HK4.out.1
      go_wp2_with fail
      refine (kept_any ss gi capi ao cap rest _ HST.out.gB hcap2 (HROW.out _ HST.out.kp) hss HSZ.out).mono ?_
      rintro e wk ⟨vk, rfl, hkk, rfl⟩
      have hbk := HST.out.b.kp hkk (fun e => HST.out.gO.2.1 e.symm) (fun g e k hk => by subst e; exact HST.out.gO.2.2 k hk) (fun g e => by subst e; exact HST.out.gO.1)
      have hkw : Kp (fun g => lo ≤ g) w wk := HST.out.kp.trans (hkk.mono fun g _ e => by subst e; exact HST.out.gL)
      have HBK := Lib.hid (And.intro hbk hkw)
      have HLO := Lib.hid (show ∀ g, BenchF D g → lo ≤ g from fun g hg => by obtain ⟨k, hk, hf⟩ := hg; exact (HST.out.l.2 k hk).1 g (FP.own hf))
      clear hbk hkw hkk c3
      go_wp2_with fail
      refine (benchTold_any HBK.out.1 (k := 0) (by decide)).mono ?_
      rintro e wt ⟨vt, rfl, hkt, rfl, hbt⟩
      have HB0 := Lib.hid (And.intro hbt (HBK.out.2.trans (hkt.mono fun g _ hg => HLO.out g hg)))
      clear hbt hkt
      go_wp2_with fail
      refine (benchTold_any HB0.out.1 (k := 1) (by decide)).mono ?_
      rintro e wt1 ⟨vt, rfl, hkt, rfl, hbt⟩
      have HB1 := Lib.hid (And.intro hbt (HB0.out.2.trans (hkt.mono fun g _ hg => HLO.out g hg)))
      clear hbt hkt
      go_wp2_with fail
      refine (benchTold_any HB1.out.1 (k := 2) (by decide)).mono ?_
      rintro e wt2 ⟨vt, rfl, hkt, rfl, hbt⟩
      have HB2 := Lib.hid (And.intro hbt (HB1.out.2.trans (hkt.mono fun g _ hg => HLO.out g hg)))
      clear hbt hkt
      go_wp2
      go_ret
      exact RetF.mk HB2.out.2 ⟨rfl, S, D, HB2.out.1, HST.out.l⟩
  · have hbad : N < 0 ∨ 64 < N := by omega
    have HNW := Lib.hid (newRows_bad N W2 hbad)
    have HRN := Lib.hid (refNewRows_bad N W2 hbad)
    clear hN
    go_wp2_with fail
    refine HNW.out.mono ?_
    rintro e W3 ⟨rfl, rfl⟩
    go_wp2_with fail
    refine HRN.out.mono ?_
    rintro e W3 ⟨rfl, rfl⟩
    go_wp2_with fail
    refine (num_any _ _).mono ?_
    rintro e w' ⟨rfl, rfl⟩
    go_wp2_with fail
    refine (kept_any ss gi capi ao cap rest _ HST.out.gB hcap2 (HROW.out _ HST.out.kp) hss HSZ.out).mono ?_
    rintro e wk ⟨vk, rfl, hkk, rfl⟩
    have hbk := HST.out.b.kp hkk (fun e => HST.out.gO.2.1 e.symm) (fun g e k hk => by subst e; exact HST.out.gO.2.2 k hk) (fun g e => by subst e; exact HST.out.gO.1)
    have hkw : Kp (fun g => lo ≤ g) w wk := HST.out.kp.trans (hkk.mono fun g _ e => by subst e; exact HST.out.gL)
    have HBK := Lib.hid (And.intro hbk hkw)
    have HLO := Lib.hid (show ∀ g, BenchF D g → lo ≤ g from fun g hg => by obtain ⟨k, hk, hf⟩ := hg; exact (HST.out.l.2 k hk).1 g (FP.own hf))
    clear hbk hkw hkk c3
    go_wp2_with fail
    refine (benchTold_any HBK.out.1 (k := 0) (by decide)).mono ?_
    rintro e wt ⟨vt, rfl, hkt, rfl, hbt⟩
    have HB0 := Lib.hid (And.intro hbt (HBK.out.2.trans (hkt.mono fun g _ hg => HLO.out g hg)))
    clear hbt hkt
    go_wp2_with fail
    refine (benchTold_any HB0.out.1 (k := 1) (by decide)).mono ?_
    rintro e wt1 ⟨vt, rfl, hkt, rfl, hbt⟩
    have HB1 := Lib.hid (And.intro hbt (HB0.out.2.trans (hkt.mono fun g _ hg => HLO.out g hg)))
    clear hbt hkt
    go_wp2_with fail
    refine (benchTold_any HB1.out.1 (k := 2) (by decide)).mono ?_
    rintro e wt2 ⟨vt, rfl, hkt, rfl, hbt⟩
    have HB2 := Lib.hid (And.intro hbt (HB1.out.2.trans (hkt.mono fun g _ hg => HLO.out g hg)))
    clear hbt hkt
    go_wp2
    go_ret
    exact RetF.mk HB2.out.2 ⟨rfl, S, D, HB2.out.1, HST.out.l⟩
end Go.Proofs.Ytfkhelihepbehaa
