/- Texts joined for a claim (Law7, Law8, Law9, Law10, Greedy1, Greedy2, FloMono, BestPlain, Atom, AwakePlain, Ask, Awake, SwapRow, InsRow, SymLRow, SymRow, SymGRow, SortRow, BinRow, CompactRow, GenRow, SetRow, NewRow). -/
import Derived.Test.YtomeebimmmfmbaaGreatOw5
import Derived.Laws.CopyOwn
import Derived.Defers
import Derived.Recover
import Derived.Test.YtomeebimmmfmbaaGreatProg
import Derived.BigRegion
import Derived.StillTailTactics
import Derived.Deep.QuietTactic
import Derived.BigQuiet
import Derived.Deep.DeepCutAuto
import Derived.Deep.RegionWith
/- The law of costs: what is known, as the program takes it, with marks behind the lists: stats. -/
namespace Go.Proofs.YtomeebimmmfmbaaGreat
open Go.RowKit
set_option linter.unusedVariables false
attribute [local go_sem] run_store_float
theorem elem_stat : ElemT Tryz.prog 39 48 3 48 (.agg #[.string ⟨#[]⟩, .float .f64 0, .slice none 0 0]) := ⟨by kernel_rfl, by kernel_rfl, rfl, by decide⟩
def markS : List Value := [.string ⟨#[109, 97, 114, 107]⟩, .float .f64 0, .slice none 0 0]
abbrev markF : Nat := 4649993003539103744
def DistM (w0 w : World) (x : StatZ × (Nat × Nat)) : Prop := ∃ rest, x.1.2.2.1.length + 1 ≤ x.2.2 ∧ x.2.2 ≤ maxLen ∧ w0.heap.size ≤ x.2.1 ∧ Blk w x.2.1 (flts (x.1.2.2.1 ++ [markF]) ++ rest) 45
def statM (x : StatZ × (Nat × Nat)) : List Value := [.string x.1.1, .float .f64 x.1.2.1, .slice (some ⟨x.2.1, 0, none⟩) x.1.2.2.1.length x.2.2]
theorem statM_len (x : StatZ × (Nat × Nat)) : (statM x).length = 3 := rfl
theorem DistM.kp {F : Nat → Prop} {w0 w w' : World} {x : StatZ × (Nat × Nat)} (h : DistM w0 w x) (hk : Kp F w w') (hf : ¬ F x.2.1) : DistM w0 w' x := by
  obtain ⟨rest, h1, h2, h3, h4⟩ := h
  exact ⟨rest, h1, h2, h3, h4.kp hk hf⟩
theorem DistM.ext {w0 w w' : World} {x : StatZ × (Nat × Nat)} (h : DistM w0 w x) (hk : Ext w w') : DistM w0 w' x := h.kp hk id
theorem DistM.blk {w0 w : World} {x : StatZ × (Nat × Nat)} (h : DistM w0 w x) : ∃ cs, Blk w x.2.1 cs 45 := by
  obtain ⟨rest, _, _, _, h4⟩ := h
  exact ⟨_, h4⟩
theorem DistM.at {w0 w : World} {x : StatZ × (Nat × Nat)} (h : DistM w0 w x) : CellsAt w (some ⟨x.2.1, 0, none⟩) (flts x.1.2.2.1) := by
  obtain ⟨rest, h1, h2, h3, h4⟩ := h
  have e : flts (x.1.2.2.1 ++ [markF]) ++ rest = flts x.1.2.2.1 ++ ([.float .f64 markF] ++ rest) := by simp [flts]
  rw [e] at h4
  exact CellsAt.pre h4
structure StatsM (w0 w : World) (g n cap : Nat) (S : List StatZ) : Prop where
  body : ∃ (rest : List Value) (vs : List (Nat × Nat)), n = S.length ∧ n + 1 ≤ cap ∧ cap ≤ maxLen ∧ w0.heap.size ≤ g ∧ vs.length = S.length ∧ (vs.map (·.1)).Nodup ∧ Blk w g ((S.zip vs).flatMap statM ++ (markS ++ rest)) 48 ∧ ∀ x ∈ S.zip vs, DistM w0 w x
theorem typ_fc : 45 ≠ 48 := by decide
theorem StatsM.at {w0 w : World} {g n cap : Nat} {S : List StatZ} (h : StatsM w0 w g n cap S) : StatsAt w (some ⟨g, 0, none⟩) S := fun i s hs => by
  obtain ⟨rest, vs, h1, h2, h3, h4, h5, h6, h7, h8⟩ := h.body
  have hv : i < vs.length := by rw [h5]; exact (List.getElem?_eq_some_iff.1 hs).1
  have hz : (S.zip vs)[i]? = some (s, vs[i]) := by rw [List.getElem?_zip_eq_some]; exact ⟨hs, List.getElem?_eq_getElem hv⟩
  have hd := h8 _ (List.mem_of_getElem? hz)
  have hb : ∀ c, c < 3 → w.cell? ⟨g, 0 + i * 3 + c, none⟩ = (statM (s, vs[i]))[c]? := fun c hc => by
    have hg := flat_get statM 3 statM_len (S.zip vs) i _ c hz hc
    have hlt : i * 3 + c < ((S.zip vs).flatMap statM).length := by
      rw [flat_len statM 3 statM_len, List.length_zip, h5, Nat.min_self]
      have := (List.getElem?_eq_some_iff.1 hs).1
      omega
    rw [h7.cell', Nat.zero_add, List.getElem?_append_left hlt, hg]
  obtain ⟨r, a, b, c, d⟩ := id hd
  refine ⟨g, 0, _, vs[i].2, rfl, hb 0 (by decide), hb 1 (by decide), hb 2 (by decide), ?_, b, hd.at⟩
  exact Nat.le_trans (Nat.le_succ _) a
def StatMTo (S : List StatZ) (w0 : World) (n : Nat) (iv ov : Value) (w : World) : Prop := ∃ i : Nat, i ≤ n ∧ iv = .int .i64 i ∧ Hid (∃ vs : List (Nat × Nat), vs.length = i ∧ (vs.map (·.1)).Nodup ∧ Row w 48 3 ov i (((S.take i).zip vs).flatMap statM) (New w0) ∧ ∀ x ∈ (S.take i).zip vs, DistM w0 w x) ∧ Hid (Ext w0 w)
def FltsTo (ds : List Nat) (w0 : World) (m : Nat) (kv dv : Value) (w : World) : Prop := ∃ k : Nat, k ≤ m ∧ kv = .int .i64 k ∧ Hid (Row w 45 1 dv k (flts (ds.take k)) (New w0)) ∧ Hid (Ext w0 w)
theorem nodup_snoc {xs : List Nat} {x : Nat} (h : xs.Nodup) (hx : ∀ y ∈ xs, y < x) : (xs ++ [x]).Nodup := by
  rw [List.nodup_append]
  refine ⟨h, by simp, ?_⟩
  intro a ha b hb
  rw [List.mem_singleton] at hb
  have := hx a ha
  omega
set_option maxRecDepth 100000 in
set_option maxHeartbeats 4000000 in
theorem stats_any (S : List StatZ) (ao : Option Addr) (n cap : Nat) (w : World) (hn : n = S.length) (h : KnownAt w ao S) (hf : StatsFit S) :
    Calls Tryz.prog 16 #[.slice ao n cap] w (RetN w fun w' v => ∃ g c, v = .slice (some ⟨g, 0, none⟩) n c ∧ StatsM w w' g n c S) := by
  have HN := Lib.hid hn
  have HK := Lib.hid h
  have HF := Lib.hid hf
  have hl : n ≤ 1048576 := by have := hf.len; omega
  have hq := frombits_run
  clear hn h hf
  go_enter Tryz.func16, Tryz.ntmps16
  go_wp2
  go_loopw [4, 3] (fun iv ov wr => StatMTo S w n iv ov wr) (fun iv _ _ => n - (intOf iv).toNat)
  case atStart => exact ⟨0, Nat.zero_le _, rfl, ⟨[], rfl, List.nodup_nil, Row.nil _ _ _ _, fun x hx => by simp at hx⟩, Kp.refl _⟩
  case round =>
    obtain ⟨i, hi, rfl, hin, hex⟩ := hrel
    by_cases hlt : i < n
    · obtain ⟨s, hs⟩ : ∃ s, S[i]? = some s := ⟨_, List.getElem?_eq_getElem (by rw [← HN.out]; exact hlt)⟩
      obtain ⟨b, off, da, dcap, eao, c0, c1, c2, d1, d2, d3⟩ := HK.out i s hs
      subst eao
      have hm : s.2.2.1.length ≤ 1048576 := HF.out.dist s (List.mem_of_getElem? hs)
      replace c0 := hex.out.cell c0 id
      replace c1 := hex.out.cell c1 id
      replace c2 := hex.out.cell c2 id
      have HD := Lib.hid (d3.ext hex.out)
      obtain ⟨p, ep⟩ : ∃ p, p = s.1 := ⟨_, rfl⟩
      obtain ⟨r, er⟩ : ∃ r, r = s.2.1 := ⟨_, rfl⟩
      obtain ⟨ds, eds⟩ : ∃ ds, ds = s.2.2.1 := ⟨_, rfl⟩
      obtain ⟨m, em⟩ : ∃ m, m = ds.length := ⟨_, rfl⟩
      rw [← ep] at c0
      rw [← er] at c1
      rw [← eds] at HD hm d1
      rw [← eds, ← em] at c2
      rw [← em] at hm d1
      have HS := Lib.hid (And.intro hs (And.intro ep (And.intro er eds)))
      have EM := Lib.hid em
      have HC2 := Lib.hid c2
      have HC0 := Lib.hid c0
      have HC1 := Lib.hid c1
      clear hs ep er eds em d3 c0 c1 c2
      go_wp2
      generalize hw5 : wr = w5 at *; clear hw5
      go_loopw [6, 5] (fun kv dv wk => FltsTo ds w5 m kv dv wk) (fun kv _ _ => m - (intOf kv).toNat)
      case atStart => exact ⟨0, Nat.zero_le _, rfl, Row.nil _ _ _ _, Kp.refl _⟩
      case round =>
        obtain ⟨j, hj, rfl, hr, hex2⟩ := hrel
        obtain ⟨ba, bc, edv, _, _⟩ := hr.out.shape
        subst edv
        have c2 := hex2.out.cell HC2.out id
        by_cases hlt2 : j < m
        · obtain ⟨x, hx⟩ : ∃ x, ds[j]? = some x := ⟨_, List.getElem?_eq_getElem (by rw [← EM.out]; exact hlt2)⟩
          obtain ⟨b2, off2, eda, e0⟩ := HD.out.word hx
          subst eda
          replace e0 := hex2.out.cell e0 id
          have HX := Lib.hid hx
          clear hx
          go_wp2_with (first | (at_builtin; refine Halted.out ?_))
          refine Halted.mk (wp_appN (m := 1) (n := j) elem_flt rfl _ _ rfl (hex2.out.alloc _) rfl (hr.out.alloc _) rfl (CellsAt.one wr (.float .f64 x) 45) (by rfl) (by simp [Value.oneCell']) (by omega) (by unfold maxLen; omega) ?_)
          intro v1 w6 hr1 hk1 hk2 _
          have e7 : flts (ds.take (j + 1)) = flts (ds.take j) ++ [.float .f64 x] := by rw [takeSnoc HX.out]; simp [flts]
          rw [← e7] at hr1
          have HR1 := Lib.hid hr1
          have HX1 := Lib.hid hk1
          clear e7 hr1 hk1 hk2 c2 e0
          go_wp2
          go_roundw
          case rel => exact ⟨j + 1, by omega, by first | rfl | (congr 1; done) | (congr 1; omega), HR1.out, HX1.out⟩
          case measure => simp [intOf]; omega
        · obtain rfl : j = m := by omega
          have hall : ds.take j = ds := List.take_of_length_le (by have := EM.out; omega)
          rw [hall] at hr
          go_wp2_with (first | (at_builtin; refine Halted.out ?_))
          refine Halted.mk (wp_appN (m := 1) (n := j) elem_flt rfl _ _ rfl (hex2.out.alloc _) rfl (hr.out.alloc _) rfl (CellsAt.one wr (.float .f64 markF) 45) (by rfl) (by simp [Value.oneCell']) (by omega) (by unfold maxLen; omega) ?_)
          intro v1 w6 hr1 hk1 hk2 _
          obtain ⟨h1, ⟨rfl, h0⟩ | ⟨gd, dc, rest, rfl, hM, hB, hlen, hnc, hcm⟩⟩ := hr1
          · omega
          have X6 := Lib.hid hk1
          have XX := Lib.hid (hex.out.trans hk1)
          have e8 : flts ds ++ [.float .f64 markF] = flts (ds ++ [markF]) := by simp [flts]
          rw [e8] at hB
          have HB := Lib.hid (And.intro hB (And.intro hnc (And.intro hcm (show w5.heap.size ≤ gd from hM))))
          have hcm2 : dc ≤ 9223372036854775807 := hcm
          have i1 : (j : Int) ≤ (dc : Int) := by omega
          have i2 : IntKind.i64.wrap (j : Int) = (j : Int) := IntWalk.i64_in _ (by omega)
          have c0 := hk1.cell HC0.out id
          have c1 := hk1.cell HC1.out id
          obtain ⟨vs, hvs, hnd, hrow, hds⟩ := hin.out
          obtain ⟨oa, oc, eov, _, _⟩ := hrow.shape
          subst eov
          have HV := Lib.hid (And.intro hvs (And.intro hnd hds))
          have HRo := Lib.hid (hrow.ext hk1)
          have HCells := Lib.hid (show ∀ w', Ext w6 w' → (fun w' : World => w'.cell? ⟨b, off + i * 3, none⟩ = some (.string p) ∧ w'.cell? ⟨b, off + i * 3 + 1, none⟩ = some (.int .u64 r)) w' from fun w' hw => ⟨hw.cell c0 id, hw.cell c1 id⟩)
          clear hall h1 hk1 hk2 hB hM hlen e8 hcm hvs hnd hrow hds hin c0 c1 c2
          go_wp2
          refine draw_begin (fun w' : World => w'.cell? ⟨b, off + i * 3, none⟩ = some (.string p) ∧ w'.cell? ⟨b, off + i * 3 + 1, none⟩ = some (.int .u64 r)) [19] (by kernel_rfl) (HCells.out _ (Kp.refl w6).drew) (fun hHeld => ?_)
          (refine draw_free (i := 0) (v := ?_) rfl ?_ ?_; rotate_left; (intro w; go_simp; try with_reducible rfl)); (try simp only [Act.put, List.setIfInBounds_toArray, List.set_cons_zero, List.set_cons_succ])
          (refine draw_free (i := 1) (v := ?_) rfl ?_ ?_; rotate_left; (intro w; go_simp; try with_reducible rfl)); (try simp only [Act.put, List.setIfInBounds_toArray, List.set_cons_zero, List.set_cons_succ])
          (refine draw_free (i := 2) (v := ?_) rfl ?_ ?_; rotate_left; (intro w; go_simp; try with_reducible rfl)); (try simp only [Act.put, List.setIfInBounds_toArray, List.set_cons_zero, List.set_cons_succ])
          (refine draw_in (i := 3) (v := ?_) rfl ?_ ?_; rotate_left; (intro w hSw; (try dsimp only at hSw); go_simp; try with_reducible rfl)); (try simp only [Act.put, List.setIfInBounds_toArray, List.set_cons_zero, List.set_cons_succ])
          (refine draw_free (i := 4) (v := ?_) rfl ?_ ?_; rotate_left; (intro w; go_simp; try with_reducible rfl)); (try simp only [Act.put, List.setIfInBounds_toArray, List.set_cons_zero, List.set_cons_succ])
          (refine draw_in (i := 5) (v := ?_) rfl ?_ ?_; rotate_left; (intro w hSw; (try dsimp only at hSw); go_simp; try with_reducible rfl)); (try simp only [Act.put, List.setIfInBounds_toArray, List.set_cons_zero, List.set_cons_succ])
          (refine draw_free (i := 6) (v := ?_) rfl ?_ ?_; rotate_left; (intro w; go_simp; try with_reducible rfl)); (try simp only [Act.put, List.setIfInBounds_toArray, List.set_cons_zero, List.set_cons_succ])
          (refine draw_free (i := 7) (v := ?_) rfl ?_ ?_; rotate_left; (intro w; go_simp; try with_reducible rfl)); (try simp only [Act.put, List.setIfInBounds_toArray, List.set_cons_zero, List.set_cons_succ])
          (refine draw_in (i := 8) (v := ?_) rfl ?_ ?_; rotate_left; (intro w hSw; (try dsimp only at hSw); go_simp; try with_reducible rfl)); (try simp only [Act.put, List.setIfInBounds_toArray, List.set_cons_zero, List.set_cons_succ])
          (refine draw_free (i := 9) (v := ?_) rfl ?_ ?_; rotate_left; (intro w; go_simp; try with_reducible rfl)); (try simp only [Act.put, List.setIfInBounds_toArray, List.set_cons_zero, List.set_cons_succ])
          (refine draw_in (i := 10) (v := ?_) rfl ?_ ?_; rotate_left; (intro w hSw; (try dsimp only at hSw); go_simp; try with_reducible rfl)); (try simp only [Act.put, List.setIfInBounds_toArray, List.set_cons_zero, List.set_cons_succ])
          (refine draw_free (i := 11) (v := ?_) rfl ?_ ?_; rotate_left; (intro w; go_simp; try with_reducible rfl)); (try simp only [Act.put, List.setIfInBounds_toArray, List.set_cons_zero, List.set_cons_succ])
          (refine draw_free (i := 12) (v := ?_) rfl ?_ ?_; rotate_left; (intro w; go_simp; try with_reducible rfl)); (try simp only [Act.put, List.setIfInBounds_toArray, List.set_cons_zero, List.set_cons_succ])
          (refine draw_free (i := 13) (v := ?_) rfl ?_ ?_; rotate_left; (intro w; go_simp; try with_reducible rfl)); (try simp only [Act.put, List.setIfInBounds_toArray, List.set_cons_zero, List.set_cons_succ])
          (refine draw_in (i := 14) (v := ?_) rfl ?_ ?_; rotate_left; (intro w hSw; (try dsimp only at hSw); go_simp; try with_reducible rfl)); (try simp only [Act.put, List.setIfInBounds_toArray, List.set_cons_zero, List.set_cons_succ])
          (refine draw_free (i := 15) (v := ?_) rfl ?_ ?_; rotate_left; (intro w; go_simp; try with_reducible rfl)); (try simp only [Act.put, List.setIfInBounds_toArray, List.set_cons_zero, List.set_cons_succ])
          (refine draw_in (i := 16) (v := ?_) rfl ?_ ?_; rotate_left; (intro w hSw; (try dsimp only at hSw); go_simp; try with_reducible rfl)); (try simp only [Act.put, List.setIfInBounds_toArray, List.set_cons_zero, List.set_cons_succ])
          (refine draw_free (i := 17) (v := ?_) rfl ?_ ?_; rotate_left; (intro w; go_simp; try with_reducible rfl)); (try simp only [Act.put, List.setIfInBounds_toArray, List.set_cons_zero, List.set_cons_succ])
          refine draw_one (i := 18) ?_
          refine comes_turn (i := 18) rfl (fun K hK => ?_)
          go_simp
          refine hK.out _ _ ?_ (fun hHeld => ?_)
          · (try dsimp only); (exact HCells.out _ ((Kp.refl w6).alloc _).drew)
          clear hK K; (try simp only [Act.put, List.setIfInBounds_toArray, List.set_cons_zero, List.set_cons_succ])
          refine draw_one (i := 19) ?_
          refine comes_late (i := 19) rfl (by kernel_rfl) (fun K hK => ?_)
          refine draw_appN elem_stat rfl _ _ rfl (XX.out.alloc _).drew rfl (HRo.out.alloc _).drew rfl (CellsAt.new w6 [.string p, .float .f64 r, .slice (some ⟨gd, 0, none⟩) j dc] 48) (by rfl) (by simp [Value.oneCell']) (by omega) (by unfold maxLen; omega) ?_; intro v2 w7 hr2 hk3 hk4
          refine hK.out _ _ ?_
          clear hK K; (try simp only [Act.put, List.setIfInBounds_toArray, List.set_cons_zero, List.set_cons_succ])
          (refine draw_free (i := 20) (v := ?_) rfl ?_ ?_; rotate_left; (intro w; go_simp; try with_reducible rfl)); (try simp only [Act.put, List.setIfInBounds_toArray, List.set_cons_zero, List.set_cons_succ])
          refine wpAnyD_done (by kernel_rfl) ?_ _
          have hk5 : Kp (fun g => (Value.slice oa i oc).ownBlock = some g) ((w6.alloc (.cells #[.string p, .float .f64 r, .slice (some ⟨gd, 0, none⟩) j dc] 48)).drew) w7 := hk4
          have HFin := Lib.hid (show ∃ vs : List (Nat × Nat), vs.length = i + 1 ∧ (vs.map (·.1)).Nodup ∧ Row w7 48 3 v2 (i + 1) (((S.take (i + 1)).zip vs).flatMap statM) (New w) ∧ ∀ x ∈ (S.take (i + 1)).zip vs, DistM w w7 x by
            have hlen : (S.take i).length = vs.length := by rw [List.length_take, HV.out.1]; have := HN.out; omega
            have et := takeSnoc HS.out.1
            have hkd : ∀ x, DistM w (w6.alloc (.cells #[.string p, .float .f64 r, .slice (some ⟨gd, 0, none⟩) j dc] 48)) x → DistM w w7 x := fun x hx => DistM.kp (w := (w6.alloc (.cells #[.string p, .float .f64 r, .slice (some ⟨gd, 0, none⟩) j dc] 48)).drew) (hx.ext (Kp.refl _).drew) hk5 fun e => by
              obtain ⟨cs, hb⟩ := (HRo.out.alloc _).blkOf e
              obtain ⟨cs', hb'⟩ := hx.blk
              exact typ_fc (blk_ne hb' hb)
            refine ⟨vs ++ [(gd, dc)], by rw [List.length_append, HV.out.1]; rfl, ?_, ?_, ?_⟩
            · rw [List.map_append]
              refine nodup_snoc HV.out.2.1 fun y hy => ?_
              obtain ⟨q, hq1, rfl⟩ := List.mem_map.1 hy
              obtain ⟨k, hk, ek⟩ := List.mem_iff_getElem.1 hq1
              have hz : ((S.take i).zip vs)[k]? = some ((S.take i)[k]'(by omega), q) := by
                rw [List.getElem?_zip_eq_some]
                exact ⟨List.getElem?_eq_getElem _, by rw [List.getElem?_eq_getElem hk, ek]⟩
              obtain ⟨cs, hb⟩ := (HV.out.2.2 _ (List.mem_of_getElem? hz)).blk
              exact Nat.lt_of_lt_of_le hb.lt HB.out.2.2.2
            · rw [et, List.zip_append hlen, List.flatMap_append]
              have e2 : (([s].zip [(gd, dc)]).flatMap statM) = [.string p, .float .f64 r, .slice (some ⟨gd, 0, none⟩) j dc] := by
                show statM (s, (gd, dc)) ++ [] = _
                rw [List.append_nil, HS.out.2.1, HS.out.2.2.1, EM.out, HS.out.2.2.2]; rfl
              rw [e2]; exact hr2
            · intro x hx
              rw [et, List.zip_append hlen, List.mem_append] at hx
              rcases hx with hx | hx
              · exact hkd _ ((HV.out.2.2 x hx).ext (X6.out.alloc _))
              · simp at hx; subst hx
                refine hkd _ ⟨rest, ?_, HB.out.2.2.1, Nat.le_trans hex.out.size HB.out.2.2.2, ?_⟩
                · show s.2.2.1.length + 1 ≤ dc
                  rw [← HS.out.2.2.2, ← EM.out]; exact HB.out.2.1
                · show Blk _ gd (flts (s.2.2.1 ++ [markF]) ++ rest) _
                  rw [← HS.out.2.2.2]; exact HB.out.1.alloc _)
          have HX7 := Lib.hid hk3
          clear hr2 hk3 hk4 hk5 hHeld
          go_wp2
          go_roundw
          case rel => exact ⟨i + 1, by omega, by first | rfl | (congr 1; done) | (congr 1; omega), HFin.out, HX7.out⟩
          case measure => simp [intOf]; omega
    · obtain rfl : i = n := by omega
      obtain ⟨vs, hvs, hnd, hrow, hds⟩ := hin.out
      have hall : S.take i = S := List.take_of_length_le (by have := HN.out; omega)
      rw [hall] at hrow hds
      obtain ⟨oa, oc, eov, _, _⟩ := hrow.shape
      subst eov
      have HV := Lib.hid (And.intro hvs (And.intro hnd hds))
      have HRo := Lib.hid hrow
      clear hvs hnd hrow hds hin hall
      go_wp2_with (first | (at_builtin; refine Halted.out ?_))
      refine Halted.mk (wp_appN (m := 1) (n := i) elem_stat rfl _ _ rfl (hex.out.alloc _) rfl (HRo.out.alloc _) rfl (CellsAt.new wr markS 48) (by rfl) (by simp [Value.oneCell', markS]) (by omega) (by unfold maxLen; omega) ?_)
      intro v2 w7 hr2 hk3 hk4 _
      have hkd : ∀ x ∈ S.zip vs, DistM w w7 x := fun x hx => by
        have h := (HV.out.2.2 x hx).ext ((Kp.refl wr).alloc (.cells markS.toArray 48))
        refine h.kp hk4 fun e => ?_
        obtain ⟨cs, hb⟩ := (HRo.out.alloc _).blkOf e
        obtain ⟨cs', hb'⟩ := h.blk
        exact typ_fc (blk_ne hb' hb)
      have HKD := Lib.hid hkd
      have X7 := Lib.hid hk3
      obtain ⟨h1, ⟨rfl, h0⟩ | ⟨g, cap2, rest, rfl, hM, hB, hlen, hnc, hcm⟩⟩ := hr2
      · omega
      · have hcm2 : cap2 ≤ 9223372036854775807 := hcm
        have i1 : (i : Int) ≤ (cap2 : Int) := by omega
        have i2 : ((i : Int) + 1 - 1) = (i : Int) := by omega
        have HBB := Lib.hid (And.intro hnc (And.intro hcm (And.intro hM hB)))
        clear h1 hk3 hk4 hkd hB hM hlen hcm
        go_wp2
        go_ret
        refine RetN.mk X7.out ⟨_, _, rfl, rest, vs, HN.out, HBB.out.1, HBB.out.2.1, HBB.out.2.2.1, HV.out.1.trans HN.out, HV.out.2.1, ?_, HKD.out⟩
        have h := HBB.out.2.2.2
        rw [List.append_assoc] at h
        exact h
end Go.Proofs.YtomeebimmmfmbaaGreat

/- The law of costs: what is known is as it was, the marks too: kept. -/
namespace Go.Proofs.YtomeebimmmfmbaaGreat
open Go.RowKit
set_option linter.unusedVariables false
attribute [local go_sem] run_store_float
end Go.Proofs.YtomeebimmmfmbaaGreat

/- The law of costs: other counts of the same predicates: others. -/
namespace Go.Proofs.YtomeebimmmfmbaaGreat
open Go.RowKit
set_option linter.unusedVariables false
attribute [local go_sem] run_store_float
def KnownIn (w : World) (M : Nat → Prop) (ao : Option Addr) (S : List StatZ) : Prop := ∀ (i : Nat) (s : StatZ), S[i]? = some s → ∃ b off da dcap, ao = some ⟨b, off, none⟩ ∧ M b ∧ (s.2.2.1 ≠ [] → ∀ a, da = some a → M a.block) ∧ w.cell? ⟨b, off + i * 3, none⟩ = some (.string s.1) ∧ w.cell? ⟨b, off + i * 3 + 1, none⟩ = some (.int .u64 s.2.1) ∧ w.cell? ⟨b, off + i * 3 + 2, none⟩ = some (.slice da s.2.2.1.length dcap) ∧ s.2.2.1.length ≤ dcap ∧ dcap ≤ maxLen ∧ CellsAt w da (words s.2.2.1)
theorem KnownIn.at {w : World} {M : Nat → Prop} {ao : Option Addr} {S : List StatZ} (h : KnownIn w M ao S) : KnownAt w ao S := fun i s hs => by
  obtain ⟨b, off, da, dcap, e, _, _, h1, h2, h3, h4, h5, h6⟩ := h i s hs
  exact ⟨b, off, da, dcap, e, h1, h2, h3, h4, h5, h6⟩
end Go.Proofs.YtomeebimmmfmbaaGreat

/- The law of costs: memory of one's own that is written over: copy, counts one by one. -/
namespace Go.Proofs.YtomeebimmmfmbaaGreat
open Go.RowKit
set_option linter.unusedVariables false
section
variable {P : Program} {w : World} {t e : TypeId} {bytes : Nat} {z : Value}
theorem blk_setRowZ {g : Nat} {cur cs : List Value} (h : Blk w g cur e) : Blk (w.setRow g cs.toArray) g cs e := setRow_heap w g _ _ e _ h
theorem kp_setRowZ (g : Nat) (cs : Array Value) : Kp (fun k => k = g) w (w.setRow g cs) :=
  ⟨rfl, rfl, rfl, by simp [World.setRow], fun k _ hf => setRow_other w g k cs hf⟩
theorem run_copyZ (E : ElemT P t e 1 bytes z) {g off dLen dCap : Nat} {cur : List Value} {e' : TypeId} (hB : Blk w g cur e') {dp sp : Option Addr} {sLen sCap : Nat}
    {cs : List Value} (hl : cs.length = Nat.min sLen dLen) (hdp : 0 < cs.length → dp = some ⟨g, off, none⟩) (hsrc : CellsAt w sp cs) (hfit : off + cs.length ≤ cur.length) (h1 : ∀ u ∈ cs, u.oneCell' = true) :
    ∃ w', (∀ ty, (Builtin.copy_ #[t, t] ty #[.slice dp dLen dCap, .slice sp sLen sCap]).run P w = .ok (goInt cs.length) w') ∧ Kp (fun k => k = g) w w' ∧ Blk w' g (splice cur off cs) e' := by
  obtain ⟨ht, hi, hz, hk⟩ := E
  obtain ⟨i, hi, hz1, hz2, hz3⟩ := info_parts hi
  have hsz : (P.info? e).map (·.size) = some 1 := by rw [hi]; simp [hz2]
  by_cases h0 : cs.length = 0
  · obtain rfl : cs = [] := List.eq_nil_of_length_eq_zero h0
    exact ⟨w, fun ty => run_copy_none (P := P) w t t ty e dp sp dLen dCap sLen sCap ht hsz (by simpa using hl.symm), Kp.refl w, hB.congrL (by simp [splice])⟩
  · have hdp := hdp (by omega)
    subst hdp
    obtain ⟨b, off', rfl, hlt⟩ := hsrc.off (by rintro rfl; simp at h0)
    have hb := blk_setRowZ (cs := cur.take off ++ (cs ++ cur.drop (off + cs.length))) hB
    refine ⟨_, fun ty => run_copy_row (P := P) w t t ty e g off dLen dCap ⟨b, off', none⟩ sLen sCap cur.toArray e' cs ht hsz hB hl (fun j v hj => ?_) (by simpa using hfit) h1, kp_setRowZ g _, by simpa [splice] using hb⟩
    obtain ⟨b', o', he, hc⟩ := hsrc j v hj
    cases he
    rw [Addr.add_lit]; exact hc
end
structure StatsZ (w0 w : World) (g n cap : Nat) (Z : List (StatZ × (Nat × Nat))) : Prop where
  body : ∃ rest : List Value, n = Z.length ∧ n + 1 ≤ cap ∧ cap ≤ maxLen ∧ w0.heap.size ≤ g ∧ (Z.map (·.2.1)).Nodup ∧ Blk w g (Z.flatMap statM ++ (markS ++ rest)) 48 ∧ ∀ x ∈ Z, DistM w0 w x
theorem set_same {α : Type} {xs : List α} {i : Nat} {x : α} (h : xs[i]? = some x) : xs.set i x = xs := by
  have hlt := (List.getElem?_eq_some_iff.1 h).1
  apply List.ext_getElem?
  intro j
  rw [List.getElem?_set]
  by_cases e : i = j
  · subst e; rw [if_pos rfl, if_pos hlt, h]
  · rw [if_neg e]
end Go.Proofs.YtomeebimmmfmbaaGreat

/- cost.Greedy: the function that tries a literal, and what it defers. -/
namespace Go.Proofs.YtomeebimmmfmbaaGreat
open Go.RowKit
set_option linter.unusedVariables false
attribute [local go_sem] run_store_float
def NoPanic (Q : Exit → Act → World → Prop) (e : Exit) (a : Act) (w : World) : Prop := match e with
  | .panic _ => False
  | e => Q e a w
theorem wp_nopanic {P : Program} {c : Code} {Q : Exit → Act → World → Prop} {a : Act} {w : World} (h : c.wp P (NoPanic Q) a w) : c.wp P Q a w := wp_mono h fun e a w h => by
  cases e <;> first | exact h.elim | exact h
theorem nopanic_normal {Q : Exit → Act → World → Prop} {a : Act} {w : World} (h : Q .normal a w) : NoPanic Q .normal a w := h
theorem undo_any (gin gi gib n i : Nat) (y : Value) (u : FrameMode) (w : World) (hi : i < n) (c1 : w.cell? ⟨gin, 0, none⟩ = some (.slice (some ⟨gi, 0, none⟩) n n)) (c2 : w.cell? ⟨gib, 0, none⟩ = some (.int .i64 i)) (c3 : w.cell? ⟨gi, i, none⟩ = some (.bool true)) (c4 : w.frozen? ⟨gi, i, none⟩ = false) :
    CallsD Tryz.prog 51 #[.pointer (some ⟨gin, 0, none⟩), .pointer (some ⟨gib, 0, none⟩)] u w fun e u' w' => u' = u ∧ (e = .returned (.tuple #[]) ∧ w' = w.setCell ⟨gi, i, none⟩ (.bool false)) := by
  go_enter_d Tryz.func51, Tryz.ntmps51
  go_wp2
  go_end0
  first | exact ⟨rfl, rfl⟩ | exact ⟨rfl, rfl, rfl⟩
structure TryI (wB : World) (gin gi gbb gb n : Nat) (inn : List Bool) (w : World) : Prop where
  ext : Ext wB w
  fin : Blk w gin [.slice (some ⟨gi, 0, none⟩) n n] 111
  fgi : Blk w gi (bools inn) 4
  fbb : Blk w gbb [.pointer (some ⟨gb, 0, none⟩)] 104
  new : wB.heap.size ≤ gi
theorem TryI.to {wB : World} {gin gi gbb gb n : Nat} {inn : List Bool} {w w' : World} (h : TryI wB gin gi gbb gb n inn w) (hk : Ext w w') : TryI wB gin gi gbb gb n inn w' := ⟨h.ext.trans hk, h.fin.ext hk, h.fgi.ext hk, h.fbb.ext hk, h.new⟩
theorem typ_bo : 4 ≠ 111 ∧ 4 ≠ 104 ∧ 4 ≠ 110 ∧ 4 ≠ 3 := by decide
theorem TryI.put {wB : World} {gin gi gbb gb n : Nat} {inn : List Bool} {w : World} (h : TryI wB gin gi gbb gb n inn w) (i : Nat) (b : Bool) : TryI wB gin gi gbb gb n (inn.set i b) (w.setCell ⟨gi, i, none⟩ (.bool b)) := by
  have hk : Kp (fun k => k = gi) w (w.setCell ⟨gi, i, none⟩ (.bool b)) := Kp.setCell (F := fun k => k = gi) (Kp.refl w) (fun _ => rfl) _
  refine ⟨Kp.setCell (F := fun _ => False) h.ext (fun hl => by have := h.new; simp only at hl; omega) _, h.fin.kp hk fun e => ?_, ?_, h.fbb.kp hk fun e => ?_, h.new⟩
  · have h2 := h.fin
    rw [e] at h2
    exact typ_bo.1 (blk_ne h.fgi h2)
  · have h2 := h.fgi.set i (.bool b)
    have e : (bools inn).set i (.bool b) = bools (inn.set i b) := by simp [bools, List.map_set]
    rw [e] at h2; exact h2
  · have h2 := h.fbb
    rw [e] at h2
    exact typ_bo.2.1 (blk_ne h.fgi h2)
theorem TryI.noPlan {wB : World} {gin gi gbb gb n : Nat} {inn : List Bool} {w : World} (h : TryI wB gin gi gbb gb n inn w) : NoPlan w (fun k => k = gi) := fun k cs e hb hk => by
  subst hk
  rw [blk_ne hb h.fgi]; exact typ_bo.2.2
theorem set_back {inn : List Bool} {i : Nat} (h : inn[i]? = some false) : (inn.set i true).set i false = inn := by
  rw [List.set_set]; exact set_same h
open Classical in
set_option maxRecDepth 100000 in
set_option maxHeartbeats 4000000 in
theorem tryMade_any (S : List StatZ) (ls : List LitZ) (wB : World) (gin gi gbb gb n i : Nat) (inn : List Bool) (w : World) (hn : n = ls.length) (hf : Fit ls) (K : Known S ls) (hi : i < n) (hin : inn.length = n) (hB : BodyAt wB gb S ls) (hI : TryI wB gin gi gbb gb n inn w) :
    Calls Tryz.prog 50 #[.int .i64 i, .pointer (some ⟨gin, 0, none⟩), .pointer (some ⟨gbb, 0, none⟩)] w (fun e w' => ∃ v, e = .returned v ∧ TryI wB gin gi gbb gb n inn w' ∧ Kp (fun k => k = gi) w w' ∧ PlanO w' (New w) v (candG S ls inn i)) := by
  have hl : n ≤ 1048576 := by have := hf.len; omega
  have hmf : ∀ (fn : Fn) (first cap : Array Value) (w : World), (Instr.makeFunc fn first cap).run Tryz.prog w = .ok (.func fn first cap) w := fun _ _ _ _ => rfl
  obtain ⟨b, hb⟩ : ∃ b, inn[i]? = some b := ⟨_, List.getElem?_eq_getElem (by omega)⟩
  have HStands := Lib.hid (fun (inn : List Bool) (W : World) (hW : Ext wB W) (hin : inn.length = n) (hI : CellsAt W (some ⟨gi, 0, none⟩) (bools inn)) => stands_any gb S ls n inn _ n W hn hl (varsL_fit hf) (hB.ext hW) hin hI)
  have HG := Lib.hid (fun (inn : List Bool) (W : World) (hW : Ext wB W) (hin : inn.length = n) (hI : CellsAt W (some ⟨gi, 0, none⟩) (bools inn)) => guess_any gb S ls n inn _ n W hn hf K (hB.ext hW) hin hI)
  have HI := Lib.hid hI
  have HL := Lib.hid hin
  have HBi := Lib.hid hb
  obtain ⟨wb, eb⟩ : ∃ wb, w.alloc (.cells #[.int .i64 i] 3) = wb := ⟨_, rfl⟩
  have HIb := Lib.hid (show TryI wB gin gi gbb gb n inn wb by rw [← eb]; exact hI.to ((Kp.refl w).alloc _))
  have HBox := Lib.hid (show Blk wb w.heap.size [.int .i64 i] 3 by rw [← eb]; exact Blk.new w _ _)
  have HXb := Lib.hid (show Ext w wb by rw [← eb]; exact (Kp.refl w).alloc _)
  have c1 : wb.cell? ⟨gin, 0, none⟩ = some (.slice (some ⟨gi, 0, none⟩) n n) := by rw [HIb.out.fin.cell']; rfl
  have c2 : wb.cell? ⟨w.heap.size, 0, none⟩ = some (.int .i64 i) := by rw [HBox.out.cell']; rfl
  have c3 : wb.cell? ⟨gi, i, none⟩ = some (.bool b) := by rw [HIb.out.fgi.cell']; simp [bools, hb]
  have c4 := HIb.out.fgi.free i
  clear hn hf K hin hB hI hb
  cases b with
  | true =>
    have HR := Lib.hid (show candG S ls inn i = none by
      unfold candG
      rw [if_neg (by rw [HBi.out]; rintro ⟨h, _⟩; cases h)])
    go_enter_defers Tryz.func50, Tryz.ntmps50
    go_wp2
    exact ⟨_, results_tmp rfl _ _ _, _, rfl, HIb.out, HXb.out.kp, by rw [HR.out]; rfl⟩
  | false =>
    obtain ⟨gib, egib⟩ : ∃ g, g = w.heap.size := ⟨_, rfl⟩
    obtain ⟨w2, e2⟩ : ∃ w2, wb.setCell ⟨gi, i, none⟩ (.bool true) = w2 := ⟨_, rfl⟩
    have hI2 : TryI wB gin gi gbb gb n (inn.set i true) w2 := by rw [← e2]; exact HIb.out.put i true
    have hk2 : Kp (fun k => k = gi) w w2 := by rw [← e2]; exact Kp.setCell (F := fun k => k = gi) HXb.out.kp (fun _ => rfl) _
    have hbx2 : Blk w2 gib [.int .i64 i] 3 := by
      rw [← e2, egib]
      exact HBox.out.other (fun h => by
        have h2 := HBox.out
        rw [show w.heap.size = gi from h] at h2
        exact typ_bo.2.2.2 (blk_ne HIb.out.fgi h2)) _
    have HI2 := Lib.hid hI2
    have HK2 := Lib.hid hk2
    have HBx2 := Lib.hid hbx2
    have d1 : w2.cell? ⟨gin, 0, none⟩ = some (.slice (some ⟨gi, 0, none⟩) n n) := by rw [hI2.fin.cell']; rfl
    have d2 : w2.cell? ⟨gbb, 0, none⟩ = some (.pointer (some ⟨gb, 0, none⟩)) := by rw [hI2.fbb.cell']; rfl
    have HIn2 := Lib.hid (show (inn.set i true).length = n by rw [List.length_set]; exact HL.out)
    clear hI2 hk2 hbx2
    go_enter_defers Tryz.func50, Tryz.ntmps50
    go_wp2_with fail
    rw [← egib]
    refine (HStands.out (inn.set i true) w2 HI2.out.ext HIn2.out (CellsAt.pre (rest := []) (by rw [List.append_nil]; exact HI2.out.fgi))).mono ?_
    rintro e w3 ⟨v, rfl, hk3, rfl⟩
    have HI3 := Lib.hid (HI2.out.to hk3)
    have HK3 := Lib.hid (HK2.out.ext hk3)
    have HBx3 := Lib.hid (HBx2.out.ext hk3)
    clear hk3 d1 d2 c1 c2 c3 c4 e2 eb egib
    have HDone := Lib.hid (show ∀ (W : World), TryI wB gin gi gbb gb n (inn.set i true) W → Blk W gib [.int .i64 i] 3 → Kp (fun k => k = gi) w W → ∀ (o : Option Plan) (v : Value), PlanO W (New w) v o → candG S ls inn i = o →
        CallsD Tryz.prog 51 #[.pointer (some ⟨gin, 0, none⟩), .pointer (some ⟨gib, 0, none⟩)] .returning W fun e u' w' => u' = .returning ∧ e = .returned (.tuple #[]) ∧ TryI wB gin gi gbb gb n inn w' ∧ Kp (fun k => k = gi) w w' ∧ PlanO w' (New w) v (candG S ls inn i) from fun W hW hbx hk o v ho hc => by
      have hil : i < inn.length := (List.getElem?_eq_some_iff.1 HBi.out).1
      refine (undo_any gin gi gib n i (.bool true) .returning W hi (by rw [hW.fin.cell']; rfl) (by rw [hbx.cell']; rfl) (by rw [hW.fgi.cell']; simp [bools, hil]) (hW.fgi.free i)).mono ?_
      rintro e u' w' ⟨rfl, rfl, rfl⟩
      have h1 := hW.put i false
      rw [set_back HBi.out] at h1
      have hk' : Kp (fun k => k = gi) W (W.setCell ⟨gi, i, none⟩ (.bool false)) := Kp.setCell (F := fun k => k = gi) (Kp.refl W) (fun _ => rfl) _
      exact ⟨rfl, rfl, h1, hk.trans hk', by rw [hc]; exact ho.kp hk' hW.noPlan⟩)
    by_cases hst : stands ls (inn.set i true)
    · have hd : decide (stands ls (inn.set i true)) = true := decide_eq_true hst
      rw [hd]
      have HC := Lib.hid (show candG S ls inn i = some ([(i : Int)], guessW S ls (inn.set i true)) by
        unfold candG
        rw [if_pos ⟨HBi.out, hst⟩])
      obtain ⟨g, eg⟩ : ∃ g, guessW S ls (inn.set i true) = g := ⟨_, rfl⟩
      rw [eg] at HC
      have EG := Lib.hid eg
      clear hd hst eg
      have HJ := Lib.hid (show ∀ w', Ext w3 w' → (fun w' : World => w'.cell? ⟨gib, 0, none⟩ = some (.int .i64 i) ∧ w'.cell? ⟨gbb, 0, none⟩ = some (.pointer (some ⟨gb, 0, none⟩)) ∧ w'.cell? ⟨gin, 0, none⟩ = some (.slice (some ⟨gi, 0, none⟩) n n)) w' from fun w' hw => ⟨by rw [(HBx3.out.ext hw).cell']; rfl, by rw [(HI3.out.to hw).fbb.cell']; rfl, by rw [(HI3.out.to hw).fin.cell']; rfl⟩)
      go_wp2
      refine wp_nopanic ?_
      refine draw_begin (fun w' : World => w'.cell? ⟨gib, 0, none⟩ = some (.int .i64 i) ∧ w'.cell? ⟨gbb, 0, none⟩ = some (.pointer (some ⟨gb, 0, none⟩)) ∧ w'.cell? ⟨gin, 0, none⟩ = some (.slice (some ⟨gi, 0, none⟩) n n)) [] (by kernel_rfl) (HJ.out _ (Kp.refl w3).drew) (fun hHeld => ?_)
      (refine draw_in (i := 0) (v := ?_) rfl ?_ ?_; rotate_left; (intro w hSw; (try dsimp only at hSw); go_simp; try with_reducible rfl)); (try simp only [Act.put, List.setIfInBounds_toArray, List.set_cons_zero, List.set_cons_succ])
      (refine draw_in (i := 2) (v := ?_) rfl ?_ ?_; rotate_left; (intro w hSw; (try dsimp only at hSw); go_simp; try with_reducible rfl)); (try simp only [Act.put, List.setIfInBounds_toArray, List.set_cons_zero, List.set_cons_succ])
      (refine draw_in (i := 3) (v := ?_) rfl ?_ ?_; rotate_left; (intro w hSw; (try dsimp only at hSw); go_simp; try with_reducible rfl)); (try simp only [Act.put, List.setIfInBounds_toArray, List.set_cons_zero, List.set_cons_succ])
      refine draw_two (i := 1) (k := 4) ?_ ?_
      · refine comes_turn (i := 1) rfl (fun K hK => ?_)
        go_simp
        refine hK.out _ _ ?_ (fun hHeld => ?_)
        · (try dsimp only); (first | exact HJ.out _ HK4.out | exact HJ.out _ (HK4.out.alloc _) | exact HJ.out _ ((HK4.out.alloc _).alloc _) | exact HJ.out _ ((Kp.refl w3).alloc _).drew)
        clear hK K; (try simp only [Act.put, List.setIfInBounds_toArray, List.set_cons_zero, List.set_cons_succ])
        refine draw_one (i := 4) ?_
        refine comes_turn (i := 4) rfl (fun K hK => ?_)
        go_simp
        ((with_reducible refine (HG.out (inn.set i true) _ (by first | exact HI3.out.ext.drew | exact (HI3.out.ext.alloc _).drew) HIn2.out (by first | exact CellsAt.ext (CellsAt.pre (rest := []) (by rw [List.append_nil]; exact HI3.out.fgi)) (Kp.refl w3).drew | exact CellsAt.ext (CellsAt.pre (rest := []) (by rw [List.append_nil]; exact HI3.out.fgi)) ((Kp.refl w3).alloc _).drew)).mono ?_); rintro e w4 ⟨v, rfl, hk4, rfl⟩; rw [EG.out]; have HK4 := Lib.hid (show Ext w3 w4 from (by first | exact ((Kp.refl w3).drew).trans hk4 | exact (((Kp.refl w3).alloc _).drew).trans hk4)); have HSl := Lib.hid hk4; clear hk4)
        go_wp2_with fail
        refine hK.out _ _ ?_ (fun hHeld => ?_)
        · (try dsimp only); (first | exact HJ.out _ HK4.out | exact HJ.out _ (HK4.out.alloc _) | exact HJ.out _ ((HK4.out.alloc _).alloc _) | exact HJ.out _ ((Kp.refl w3).alloc _).drew)
        clear hK K; (try simp only [Act.put, List.setIfInBounds_toArray, List.set_cons_zero, List.set_cons_succ])
        (refine draw_free (i := 5) (v := ?_) rfl ?_ ?_; rotate_left; (intro w; go_simp; try with_reducible rfl)); (try simp only [Act.put, List.setIfInBounds_toArray, List.set_cons_zero, List.set_cons_succ])
        refine draw_one (i := 6) ?_
        refine comes_turn (i := 6) rfl (fun K hK => ?_)
        go_simp
        refine hK.out _ _ ?_ (fun hHeld => ?_)
        · (try dsimp only); (first | exact HJ.out _ HK4.out | exact HJ.out _ (HK4.out.alloc _) | exact HJ.out _ ((HK4.out.alloc _).alloc _) | exact HJ.out _ ((Kp.refl w3).alloc _).drew)
        clear hK K; (try simp only [Act.put, List.setIfInBounds_toArray, List.set_cons_zero, List.set_cons_succ])
        (refine draw_free (i := 7) (v := ?_) rfl ?_ ?_; rotate_left; (intro w; go_simp; try with_reducible rfl)); (try simp only [Act.put, List.setIfInBounds_toArray, List.set_cons_zero, List.set_cons_succ])
        refine wpAnyD_done (by kernel_rfl) ?_ _
        clear hHeld HJ
        refine nopanic_normal ?_
        go_wp2
        first
          | (have hW : Ext w3 ((w4.alloc (.cells #[.int .i64 i] 3)).alloc (.cells #[.slice (some ⟨w4.heap.size, 0, none⟩) 1 1, .float .f64 g] 110)) := (HK4.out.alloc _).alloc _
             have hO : PlanO ((w4.alloc (.cells #[.int .i64 i] 3)).alloc (.cells #[.slice (some ⟨w4.heap.size, 0, none⟩) 1 1, .float .f64 g] 110)) (New w) (.pointer (some ⟨w4.heap.size + 1, 0, none⟩)) (some ([(i : Int)], g)) :=
               ⟨_, rfl, .slice (some ⟨w4.heap.size, 0, none⟩) 1 1, (by have h := Blk.new (w4.alloc (.cells #[.int .i64 i] 3)) [.slice (some ⟨w4.heap.size, 0, none⟩) 1 1, .float .f64 g] 110; rw [alloc_size] at h; exact h), (Row.one w4 3 (.int .i64 i) (New w) (Nat.le_trans HK3.out.size HK4.out.size)).alloc _⟩
             refine leaves_cons (f := 51) (args := #[.pointer (some ⟨gin, 0, none⟩), .pointer (some ⟨gib, 0, none⟩)]) (by simp) (by simp [go_sem]) ?_
             refine (HDone.out _ (HI3.out.to hW) (HBx3.out.ext hW) (HK3.out.ext hW) _ (.pointer (some ⟨w4.heap.size + 1, 0, none⟩)) hO HC.out).mono ?_
             rintro e u' w'' ⟨rfl, rfl, h1, h2, h3⟩
             exact ⟨_, results_tmp rfl _ _ _, .pointer (some ⟨w4.heap.size + 1, 0, none⟩), rfl, h1, h2, h3⟩)
          | (have hW : Ext w3 (w4.alloc (.cells #[.slice (some ⟨w3.heap.size, 0, none⟩) 1 1, .float .f64 g] 110)) := HK4.out.alloc _
             have hRw : Row w4 3 1 (.slice (some ⟨w3.heap.size, 0, none⟩) 1 1) 1 [.int .i64 i] (New w) := Row.ext (w := (w3.alloc (.cells #[.int .i64 i] 3)).drew) (Row.one w3 3 (.int .i64 i) (New w) HK3.out.size) HSl.out
             have hO : PlanO (w4.alloc (.cells #[.slice (some ⟨w3.heap.size, 0, none⟩) 1 1, .float .f64 g] 110)) (New w) (.pointer (some ⟨w4.heap.size, 0, none⟩)) (some ([(i : Int)], g)) :=
               ⟨_, rfl, .slice (some ⟨w3.heap.size, 0, none⟩) 1 1, Blk.new w4 [.slice (some ⟨w3.heap.size, 0, none⟩) 1 1, .float .f64 g] 110, hRw.alloc _⟩
             refine leaves_cons (f := 51) (args := #[.pointer (some ⟨gin, 0, none⟩), .pointer (some ⟨gib, 0, none⟩)]) (by simp) (by simp [go_sem]) ?_
             refine (HDone.out _ (HI3.out.to hW) (HBx3.out.ext hW) (HK3.out.ext hW) _ (.pointer (some ⟨w4.heap.size, 0, none⟩)) hO HC.out).mono ?_
             rintro e u' w'' ⟨rfl, rfl, h1, h2, h3⟩
             exact ⟨_, results_tmp rfl _ _ _, .pointer (some ⟨w4.heap.size, 0, none⟩), rfl, h1, h2, h3⟩)
      · refine comes_turn (i := 4) rfl (fun K hK => ?_)
        go_simp
        ((with_reducible refine (HG.out (inn.set i true) _ (by first | exact HI3.out.ext.drew | exact (HI3.out.ext.alloc _).drew) HIn2.out (by first | exact CellsAt.ext (CellsAt.pre (rest := []) (by rw [List.append_nil]; exact HI3.out.fgi)) (Kp.refl w3).drew | exact CellsAt.ext (CellsAt.pre (rest := []) (by rw [List.append_nil]; exact HI3.out.fgi)) ((Kp.refl w3).alloc _).drew)).mono ?_); rintro e w4 ⟨v, rfl, hk4, rfl⟩; rw [EG.out]; have HK4 := Lib.hid (show Ext w3 w4 from (by first | exact ((Kp.refl w3).drew).trans hk4 | exact (((Kp.refl w3).alloc _).drew).trans hk4)); have HSl := Lib.hid hk4; clear hk4)
        go_wp2_with fail
        refine hK.out _ _ ?_ (fun hHeld => ?_)
        · (try dsimp only); (first | exact HJ.out _ HK4.out | exact HJ.out _ (HK4.out.alloc _) | exact HJ.out _ ((HK4.out.alloc _).alloc _) | exact HJ.out _ ((Kp.refl w3).alloc _).drew)
        clear hK K; (try simp only [Act.put, List.setIfInBounds_toArray, List.set_cons_zero, List.set_cons_succ])
        refine draw_one (i := 1) ?_
        refine comes_turn (i := 1) rfl (fun K hK => ?_)
        go_simp
        refine hK.out _ _ ?_ (fun hHeld => ?_)
        · (try dsimp only); (first | exact HJ.out _ HK4.out | exact HJ.out _ (HK4.out.alloc _) | exact HJ.out _ ((HK4.out.alloc _).alloc _) | exact HJ.out _ ((Kp.refl w3).alloc _).drew)
        clear hK K; (try simp only [Act.put, List.setIfInBounds_toArray, List.set_cons_zero, List.set_cons_succ])
        (refine draw_free (i := 5) (v := ?_) rfl ?_ ?_; rotate_left; (intro w; go_simp; try with_reducible rfl)); (try simp only [Act.put, List.setIfInBounds_toArray, List.set_cons_zero, List.set_cons_succ])
        refine draw_one (i := 6) ?_
        refine comes_turn (i := 6) rfl (fun K hK => ?_)
        go_simp
        refine hK.out _ _ ?_ (fun hHeld => ?_)
        · (try dsimp only); (first | exact HJ.out _ HK4.out | exact HJ.out _ (HK4.out.alloc _) | exact HJ.out _ ((HK4.out.alloc _).alloc _) | exact HJ.out _ ((Kp.refl w3).alloc _).drew)
        clear hK K; (try simp only [Act.put, List.setIfInBounds_toArray, List.set_cons_zero, List.set_cons_succ])
        (refine draw_free (i := 7) (v := ?_) rfl ?_ ?_; rotate_left; (intro w; go_simp; try with_reducible rfl)); (try simp only [Act.put, List.setIfInBounds_toArray, List.set_cons_zero, List.set_cons_succ])
        refine wpAnyD_done (by kernel_rfl) ?_ _
        clear hHeld HJ
        refine nopanic_normal ?_
        go_wp2
        first
          | (have hW : Ext w3 ((w4.alloc (.cells #[.int .i64 i] 3)).alloc (.cells #[.slice (some ⟨w4.heap.size, 0, none⟩) 1 1, .float .f64 g] 110)) := (HK4.out.alloc _).alloc _
             have hO : PlanO ((w4.alloc (.cells #[.int .i64 i] 3)).alloc (.cells #[.slice (some ⟨w4.heap.size, 0, none⟩) 1 1, .float .f64 g] 110)) (New w) (.pointer (some ⟨w4.heap.size + 1, 0, none⟩)) (some ([(i : Int)], g)) :=
               ⟨_, rfl, .slice (some ⟨w4.heap.size, 0, none⟩) 1 1, (by have h := Blk.new (w4.alloc (.cells #[.int .i64 i] 3)) [.slice (some ⟨w4.heap.size, 0, none⟩) 1 1, .float .f64 g] 110; rw [alloc_size] at h; exact h), (Row.one w4 3 (.int .i64 i) (New w) (Nat.le_trans HK3.out.size HK4.out.size)).alloc _⟩
             refine leaves_cons (f := 51) (args := #[.pointer (some ⟨gin, 0, none⟩), .pointer (some ⟨gib, 0, none⟩)]) (by simp) (by simp [go_sem]) ?_
             refine (HDone.out _ (HI3.out.to hW) (HBx3.out.ext hW) (HK3.out.ext hW) _ (.pointer (some ⟨w4.heap.size + 1, 0, none⟩)) hO HC.out).mono ?_
             rintro e u' w'' ⟨rfl, rfl, h1, h2, h3⟩
             exact ⟨_, results_tmp rfl _ _ _, .pointer (some ⟨w4.heap.size + 1, 0, none⟩), rfl, h1, h2, h3⟩)
          | (have hW : Ext w3 (w4.alloc (.cells #[.slice (some ⟨w3.heap.size, 0, none⟩) 1 1, .float .f64 g] 110)) := HK4.out.alloc _
             have hRw : Row w4 3 1 (.slice (some ⟨w3.heap.size, 0, none⟩) 1 1) 1 [.int .i64 i] (New w) := Row.ext (w := (w3.alloc (.cells #[.int .i64 i] 3)).drew) (Row.one w3 3 (.int .i64 i) (New w) HK3.out.size) HSl.out
             have hO : PlanO (w4.alloc (.cells #[.slice (some ⟨w3.heap.size, 0, none⟩) 1 1, .float .f64 g] 110)) (New w) (.pointer (some ⟨w4.heap.size, 0, none⟩)) (some ([(i : Int)], g)) :=
               ⟨_, rfl, .slice (some ⟨w3.heap.size, 0, none⟩) 1 1, Blk.new w4 [.slice (some ⟨w3.heap.size, 0, none⟩) 1 1, .float .f64 g] 110, hRw.alloc _⟩
             refine leaves_cons (f := 51) (args := #[.pointer (some ⟨gin, 0, none⟩), .pointer (some ⟨gib, 0, none⟩)]) (by simp) (by simp [go_sem]) ?_
             refine (HDone.out _ (HI3.out.to hW) (HBx3.out.ext hW) (HK3.out.ext hW) _ (.pointer (some ⟨w4.heap.size, 0, none⟩)) hO HC.out).mono ?_
             rintro e u' w'' ⟨rfl, rfl, h1, h2, h3⟩
             exact ⟨_, results_tmp rfl _ _ _, .pointer (some ⟨w4.heap.size, 0, none⟩), rfl, h1, h2, h3⟩)
    · have hd : decide (stands ls (inn.set i true)) = false := decide_eq_false hst
      rw [hd]
      have HC := Lib.hid (show candG S ls inn i = none by
        unfold candG
        rw [if_neg (fun h => hst h.2)])
      clear hd hst
      go_wp2
      refine leaves_cons (f := 51) (args := #[.pointer (some ⟨gin, 0, none⟩), .pointer (some ⟨gib, 0, none⟩)]) (by simp) (by simp [go_sem]) ?_
      refine (HDone.out w3 HI3.out HBx3.out HK3.out none (.pointer none) rfl HC.out).mono ?_
      rintro e u' w'' ⟨rfl, rfl, h1, h2, h3⟩
      exact ⟨_, results_tmp rfl _ _ _, .pointer none, rfl, h1, h2, h3⟩
end Go.Proofs.YtomeebimmmfmbaaGreat

/- cost.Greedy. -/
namespace Go.Proofs.YtomeebimmmfmbaaGreat
open Go.RowKit
set_option linter.unusedVariables false
attribute [local go_sem] run_store_float
theorem greedyE_bad {r : RuleZ} {S : List StatZ} (h : errR r S ≠ 0) : greedyE r S = ([], 0, errR r S) := by unfold greedyE; rw [if_neg h]
theorem greedyE_ok {r : RuleZ} {S : List StatZ} (h : errR r S = 0) : greedyE r S = ((greedG S r.2.1 r.2.1.length).1, (greedG S r.2.1 r.2.1.length).2.1, 0) := by unfold greedyE; rw [if_pos h]
theorem greed_succ {S : List StatZ} {ls : List LitZ} {k i : Nat} {g : Nat} (h : nextG S ls (greedG S ls k).2.2 = some ([(i : Int)], g)) : greedG S ls (k + 1) = ((greedG S ls k).1 ++ [(i : Int)], fadd (greedG S ls k).2.1 g, (greedG S ls k).2.2.set i true) := by
  show stepG S ls (greedG S ls k) = _
  unfold stepG
  rw [h]
  simp only [List.headD_cons, Int.toNat_natCast]
def GreedTo (S : List StatZ) (ls : List LitZ) (w1 : World) (gin gi gbb gb n : Nat) (iv ov sv : Value) (w : World) : Prop := ∃ (k : Nat) (o1 : Value), k ≤ n ∧ iv = .int .i64 k ∧ o1 = ov ∧ sv = .float .f64 (greedG S ls k).2.1 ∧ Hid (Row w 3 1 o1 k (ints (greedG S ls k).1) (New w1)) ∧ Hid (TryI w1 gin gi gbb gb n (greedG S ls k).2.2 w)
theorem TryI.own {wB : World} {gin gi gbb gb n : Nat} {inn : List Bool} {w w' : World} (h : TryI wB gin gi gbb gb n inn w) {v : Value} {k : Nat} {xs : List Value} (hr : Row w 3 1 v k xs (New wB)) (hk : Kp (fun g => v.ownBlock = some g) w w') (hx : Ext wB w') : TryI wB gin gi gbb gb n inn w' := by
  have hn : ∀ {g : Nat} {cs : List Value} {e : TypeId}, Blk w g cs e → e ≠ 3 → ¬ v.ownBlock = some g := fun hb he hg => by
    obtain ⟨cs', hb'⟩ := hr.blkOf hg
    exact he (blk_ne hb hb')
  exact ⟨hx, h.fin.kp hk (hn h.fin (by decide)), h.fgi.kp hk (hn h.fgi (by decide)), h.fbb.kp hk (hn h.fbb (by decide)), h.new⟩
open Classical in
set_option maxRecDepth 100000 in
set_option maxHeartbeats 8000000 in
theorem greedy_own (p : ByteArray) (hs : List TermZ) (ls : List LitZ) (ha : Option Addr) (hn hcap : Nat) (ba : Option Addr) (n bcap : Nat) (S : List StatZ) (sa : Option Addr) (sn scap : Nat) (w : World) (G : Nat → Prop) (hhn : hn = hs.length) (hh : TermsAt w G ha hs) (hhl : hn ≤ 1048576) (hbn : n = ls.length) (h : LitsAt w G ba ls) (hf : Fit ls)
    (hsn : sn = S.length) (hsc : sn ≤ scap) (hS : StatsAt w sa S) (hSf : StatsFit S) :
    Calls Tryz.prog 18 #[ruleV p ha hn hcap ba n bcap, .slice sa sn scap] w (RetN w (BestO (New w) (greedyE ((p, hs, ()), ls, ()) S))) := by
  obtain ⟨e, ee⟩ : ∃ e, e = errR ((p, hs, ()), ls, ()) S := ⟨_, rfl⟩
  have hl : n ≤ 1048576 := by have := hf.len; omega
  have hmf : ∀ (fn : Fn) (first cap : Array Value) (w : World), (Instr.makeFunc fn first cap).run Tryz.prog w = .ok (.func fn first cap) w := fun _ _ _ _ => rfl
  have HBo := Lib.hid (fun (W : World) (hW : Ext w W) => bodyOf_any p hs ls ha hn hcap ba n bcap S sa sn scap W G hhn (hh.ext hW) hhl hbn (h.ext hW) hf hsn hsc (hS.ext hW) hSf)
  have EE := Lib.hid ee
  have HN := Lib.hid hbn
  have HFt := Lib.hid hf
  clear hhn hh hbn h hf hsn hS hSf ee
  go_enter Tryz.func18, Tryz.ntmps18
  go_wp2_with fail
  obtain ⟨wb, eb⟩ : ∃ wb, w.alloc (.cells #[.string p, .slice ha hn hcap, .slice ba n bcap] 28) = wb := ⟨_, rfl⟩
  rw [eb]
  have HB := Lib.hid (Blk.new w [.string p, .slice ha hn hcap, .slice ba n bcap] 28)
  have HX := Lib.hid ((Kp.refl (F := fun _ => False) w).alloc (.cells #[.string p, .slice ha hn hcap, .slice ba n bcap] 28))
  have eb2 : w.alloc (.cells [Value.string p, .slice ha hn hcap, .slice ba n bcap].toArray 28) = wb := eb
  rw [eb2] at HB
  rw [eb] at HX
  clear eb eb2
  refine (HBo.out _ HX.out).mono ?_
  rintro e1 w1 ⟨v, rfl, hk1, hbv⟩
  have X1 := Lib.hid (HX.out.trans hk1)
  clear hk1 HX HB
  by_cases he : e = 0
  · obtain ⟨gb, rfl, _, hB⟩ := hbv.yes (EE.out.symm.trans he)
    have HB := Lib.hid hB
    have HE := Lib.hid (EE.out.symm.trans he)
    have HK := Lib.hid (Known.of (errR_zero HE.out).2)
    have HAll := Lib.hid (full_stands (errR_zero HE.out).1)
    obtain ⟨pa, pcap, na', ncap, gm, mm, ca, ccap, hR⟩ := hB.read
    have b0 : w1.cell? ⟨gb, 0, none⟩ = some (.slice pa n pcap) := by rw [hR.blk.cell', HN.out]; rfl
    clear hbv hB he hR
    obtain ⟨wA, eA⟩ : ∃ wA, w1.alloc (.cells #[.pointer (some ⟨gb, 0, none⟩)] 104) = wA := ⟨_, rfl⟩
    have hA : Blk wA w1.heap.size [.pointer (some ⟨gb, 0, none⟩)] 104 := by rw [← eA]; exact Blk.new w1 _ _
    have xA : Ext w1 wA := by rw [← eA]; exact (Kp.refl w1).alloc _
    have hmk := run_make_row' (P := Tryz.prog) 111 4 (.bool false) 1 Tryz.underlying111 (by kernel_rfl) rfl .i64 .i64 n (by omega) (by omega)
    obtain ⟨wC, eC⟩ : ∃ wC, wA.alloc (.cells (madeCells #[.bool false] n) 4) = wC := ⟨_, rfl⟩
    have hC : Blk wC wA.heap.size (List.replicate n (.bool false)) 4 := by rw [← eC]; exact blk_made wA _ n _
    have xC : Ext wA wC := by rw [← eC]; exact (Kp.refl wA).alloc _
    obtain ⟨wD, eD⟩ : ∃ wD, wC.alloc (.cells #[.slice (some ⟨wA.heap.size, 0, none⟩) n n] 111) = wD := ⟨_, rfl⟩
    have hD : Blk wD wC.heap.size [.slice (some ⟨wA.heap.size, 0, none⟩) n n] 111 := by rw [← eD]; exact Blk.new wC _ _
    have xD : Ext wC wD := by rw [← eD]; exact (Kp.refl wC).alloc _
    have a0 : wA.cell? ⟨w1.heap.size, 0, none⟩ = some (.pointer (some ⟨gb, 0, none⟩)) := by rw [hA.cell']; rfl
    have a1 := xA.cell b0 id
    have d0 : wD.cell? ⟨w1.heap.size, 0, none⟩ = some (.pointer (some ⟨gb, 0, none⟩)) := by rw [((hA.ext xC).ext xD).cell']; rfl
    have d1 := xD.cell (xC.cell a1 id) id
    have HT0 := Lib.hid (show TryI w1 wC.heap.size wA.heap.size w1.heap.size gb n (greedG S ls 0).2.2 wD from ⟨(xA.trans xC).trans xD, hD, by
      show Blk wD _ (bools (List.replicate ls.length false)) _
      rw [← HN.out, bools_rep]; exact hC.ext xD, (hA.ext xC).ext xD, xA.size⟩)
    clear hA xA hC xC hD xD b0
    go_wp2
    obtain ⟨gi, egi⟩ : ∃ g, g = wA.heap.size := ⟨_, rfl⟩
    obtain ⟨gin, egin⟩ : ∃ g, g = wC.heap.size := ⟨_, rfl⟩
    obtain ⟨gbb, egbb⟩ : ∃ g, g = w1.heap.size := ⟨_, rfl⟩
    rw [← egi, ← egin, ← egbb] at HT0
    rw [← egi, ← egin, ← egbb]
    clear eA eC eD a0 a1 d0 d1 egi egin egbb hmk
    go_loopw [33, 9, 10] (fun iv ov sv wr => GreedTo S ls w1 gin gi gbb gb n iv ov sv wr) (fun iv _ _ _ => n - (intOf iv).toNat)
    case atStart => exact ⟨0, _, Nat.zero_le _, rfl, rfl, rfl, Row.nil _ _ _ _, HT0.out⟩
    case round =>
      clear HT0
      obtain ⟨k, o1, hk, rfl, rfl, rfl, hrow, htry⟩ := hrel
      have c1 : wr.cell? ⟨gin, 0, none⟩ = some (.slice (some ⟨gi, 0, none⟩) n n) := by rw [htry.out.fin.cell']; rfl
      obtain ⟨oa, oc, eov, _, _⟩ := hrow.out.shape
      subst eov
      by_cases hlt : k < n
      · obtain ⟨x, ex⟩ : ∃ x, x = greedG S ls k := ⟨_, rfl⟩
        have hok := greed_ok HK.out HAll.out (show k ≤ ls.length by rw [← HN.out]; omega)
        rw [← ex] at hrow htry hok
        rw [← ex]
        obtain ⟨i, hi, hi1, hi2, hnext⟩ := next_some (S := S) HAll.out (show k < ls.length by rw [← HN.out]; exact hlt) hok
        rw [← HN.out] at hi
        have HSucc := Lib.hid (greed_succ (by rw [← ex]; exact hnext))
        rw [← ex] at HSucc
        have hxl : x.2.2.length = n := by rw [HN.out]; exact hok.inn
        obtain ⟨g, eg⟩ : ∃ g, guessW S ls (x.2.2.set i true) = g := ⟨_, rfl⟩
        rw [eg] at hnext HSucc
        have hgl : g ≤ infW := by rw [← eg]; exact guessW_le HK.out _
        have hadd : ∀ W, (binOp .add 45 (.float .f64 x.2.1) (.float .f64 g)).run Tryz.prog W = .ok (.float .f64 (fadd x.2.1 g)) W := fun W => run_float_arith W .add _ .f64 _ _ _ (fadd_eq hok.cost hgl)
        have HNext := Lib.hid (show leastP (candG S ls x.2.2) n = some ([(i : Int)], g) by rw [HN.out]; exact hnext)
        have HMade := Lib.hid (show MadeT 50 #[] #[.pointer (some ⟨gin, 0, none⟩), .pointer (some ⟨gbb, 0, none⟩)] (TryI w1 gin gi gbb gb n x.2.2) (fun k => k = gi) n (candG S ls x.2.2) from
          ⟨enters_of Tryz.func50 (by kernel_rfl) rfl, fun W h => h.noPlan, fun W W' h hk => h.to hk, fun W h j hj => tryMade_any S ls w1 gin gi gbb gb n j x.2.2 W HN.out HFt.out HK.out hj hxl HB.out h⟩)
        have HOk := Lib.hid (fun (j : Nat) (pp : Plan) (_ : j < n) (hp : candG S ls x.2.2 j = some pp) => show pp.2 ≤ infW ∧ pp.1.length = 1 by
          obtain ⟨rfl, _, _⟩ := candG_some hp
          exact ⟨guessW_le HK.out _, rfl⟩)
        have HIn := Lib.hid (show i < x.2.2.length by rw [hxl]; exact hi)
        clear hok hnext hi1 hi2 eg hxl ex
        go_wp2_with fail
        refine (leastOf_any 50 #[] _ (TryI w1 gin gi gbb gb n x.2.2) (fun k => k = gi) n (candG S ls x.2.2) 1 wr htry.out HMade.out HOk.out (by omega) hl).mono ?_
        rintro e1 w2 ⟨v, rfl, hT2, hk2, ho2⟩
        rw [HNext.out] at ho2
        obtain ⟨b, rfl, ov, hb1, hb2⟩ := ho2
        obtain ⟨pa2, pc2, epv, hcc, hp1, hp2⟩ := hb2.cap
        have HPl := Lib.hid (And.intro hb1 hb2)
        have HT2 := Lib.hid hT2
        have HRow2 := Lib.hid (hrow.out.kp' hk2 fun g' hg' _ e => by
          obtain ⟨cs, hb⟩ := hrow.out.blkOf hg'
          rw [e] at hb
          exact typ_bo.2.2.2 (blk_ne htry.out.fgi hb))
        have HNo := Lib.hid (show ∀ g', (Value.slice oa k oc).ownBlock = some g' → ¬ ov.ownBlock = some g' ∧ g' ≠ b from fun g' hg' => ⟨fun h => by
          have h1 := hb2.block g' h
          have h2 := hrow.out.ltB hg'
          exact absurd h1 (by unfold New; omega), fun e => by
          obtain ⟨cs, hb⟩ := HRow2.out.blkOf hg'
          rw [e] at hb
          exact absurd (blk_ne hb hb1) (by decide)⟩)
        subst epv
        obtain ⟨gp2, go2, epa, hw0⟩ := hcc 0 (.int .i64 i) rfl
        subst epa
        rw [Nat.add_zero] at hw0
        have p0 : w2.cell? ⟨b, 0, none⟩ = some (.slice (some ⟨gp2, go2, none⟩) 1 pc2) := by rw [hb1.cell']; rfl
        clear hT2 hk2 hb1 hb2 hcc hp1 hp2 hrow htry HMade HOk HNext
        go_wp2_with (first | (at_builtin; refine Halted.out ?_))
        refine Halted.mk (wp_appN (m := 1) (n := k) elem_int rfl _ _ rfl (HT2.out.ext.alloc _) rfl (HRow2.out.alloc _) rfl (CellsAt.one w2 (.int .i64 i) 3) (by rfl) (by simp [Value.oneCell']) (by omega) (by unfold maxLen; omega) ?_)
        intro v3 w3 hr3 hk3 hk4 _
        have HX3 := Lib.hid hk3
        have HR3 := Lib.hid hr3
        have HT3 := Lib.hid ((HT2.out.to ((Kp.refl w2).alloc _)).own (HRow2.out.alloc _) hk4 hk3)
        have hpb : Blk w3 b [.slice (some ⟨gp2, go2, none⟩) 1 pc2, .float .f64 g] 110 := (HPl.out.1.alloc _).kp hk4 fun hg => (HNo.out b hg).2 rfl
        have hpr := (HPl.out.2.alloc (.cells #[.int .i64 i] 3)).kp' hk4 fun g' hg' _ hg => (HNo.out g' hg).1 hg'
        obtain ⟨_, _, epv, hcc, _, _⟩ := hpr.cap
        cases epv
        obtain ⟨_, _, epa, hw3⟩ := hcc 0 (.int .i64 i) rfl
        cases epa
        rw [Nat.add_zero] at hw3
        have HJ := Lib.hid (show ∀ w', Ext w3 w' → (fun w' : World => w'.cell? ⟨gin, 0, none⟩ = some (.slice (some ⟨gi, 0, none⟩) n n) ∧ w'.cell? ⟨b, 0, none⟩ = some (.slice (some ⟨gp2, go2, none⟩) 1 pc2) ∧ w'.cell? ⟨gp2, go2, none⟩ = some (.int .i64 i)) w' from fun w' hw => ⟨by rw [(HT3.out.to hw).fin.cell']; rfl, by rw [(hpb.ext hw).cell']; rfl, hw.cell hw3 id⟩)
        have HPb := Lib.hid hpb
        obtain ⟨y, y0⟩ : ∃ y, w3.cell? ⟨gi, i, none⟩ = some (.bool y) := ⟨x.2.2[i]'HIn.out, by rw [HT3.out.fgi.cell']; simp [bools, HIn.out]⟩
        have y1 := HT3.out.fgi.free i
        obtain ⟨w4, e4⟩ : ∃ w4, w3.setCell ⟨gi, i, none⟩ (.bool true) = w4 := ⟨_, rfl⟩
        have HT4 := Lib.hid (show TryI w1 gin gi gbb gb n (x.2.2.set i true) w4 by rw [← e4]; exact HT3.out.put i true)
        have hk34 : Kp (fun j => j = gi) w3 w4 := by rw [← e4]; exact Kp.setCell (F := fun j => j = gi) (Kp.refl w3) (fun _ => rfl) _
        have HR4 := Lib.hid (HR3.out.kp' hk34 fun g' hg' _ e => by
          obtain ⟨cs, hb⟩ := HR3.out.blkOf hg'
          rw [e] at hb
          exact typ_bo.2.2.2 (blk_ne HT3.out.fgi hb))
        have p4 : w4.cell? ⟨b, 1, none⟩ = some (.float .f64 g) := by
          rw [(hpb.kp hk34 fun e => by rw [e] at hpb; exact typ_bo.2.2.1 (blk_ne HT3.out.fgi hpb)).cell']; rfl
        clear hk3 hk4 hr3 hpb hpr hcc hw3 hw0 p0 c1 hk34
        go_wp2
        refine draw_begin (fun w' : World => w'.cell? ⟨gin, 0, none⟩ = some (.slice (some ⟨gi, 0, none⟩) n n) ∧ w'.cell? ⟨b, 0, none⟩ = some (.slice (some ⟨gp2, go2, none⟩) 1 pc2) ∧ w'.cell? ⟨gp2, go2, none⟩ = some (.int .i64 i)) [8] (by kernel_rfl) (HJ.out _ (Kp.refl w3).drew) (fun hHeld => ?_)
        (refine draw_in (i := 0) (v := ?_) rfl ?_ ?_; rotate_left; (intro w hSw; (try dsimp only at hSw); go_simp; try with_reducible rfl)); (try simp only [Act.put, List.setIfInBounds_toArray, List.set_cons_zero, List.set_cons_succ])
        (refine draw_free (i := 1) (v := ?_) rfl ?_ ?_; rotate_left; (intro w; go_simp; try with_reducible rfl)); (try simp only [Act.put, List.setIfInBounds_toArray, List.set_cons_zero, List.set_cons_succ])
        (refine draw_free (i := 2) (v := ?_) rfl ?_ ?_; rotate_left; (intro w; go_simp; try with_reducible rfl)); (try simp only [Act.put, List.setIfInBounds_toArray, List.set_cons_zero, List.set_cons_succ])
        (refine draw_free (i := 3) (v := ?_) rfl ?_ ?_; rotate_left; (intro w; go_simp; try with_reducible rfl)); (try simp only [Act.put, List.setIfInBounds_toArray, List.set_cons_zero, List.set_cons_succ])
        (refine draw_in (i := 4) (v := ?_) rfl ?_ ?_; rotate_left; (intro w hSw; (try dsimp only at hSw); go_simp; try with_reducible rfl)); (try simp only [Act.put, List.setIfInBounds_toArray, List.set_cons_zero, List.set_cons_succ])
        (refine draw_in (i := 5) (v := ?_) rfl ?_ ?_; rotate_left; (intro w hSw; (try dsimp only at hSw); go_simp; try with_reducible rfl)); (try simp only [Act.put, List.setIfInBounds_toArray, List.set_cons_zero, List.set_cons_succ])
        (refine draw_in (i := 6) (v := ?_) rfl ?_ ?_; rotate_left; (intro w hSw; (try dsimp only at hSw); go_simp; try with_reducible rfl)); (try simp only [Act.put, List.setIfInBounds_toArray, List.set_cons_zero, List.set_cons_succ])
        (refine draw_in (i := 7) (v := ?_) rfl ?_ ?_; rotate_left; (intro w hSw; (try dsimp only at hSw); go_simp; try with_reducible rfl)); (try simp only [Act.put, List.setIfInBounds_toArray, List.set_cons_zero, List.set_cons_succ])
        refine draw_one (i := 8) ?_
        refine comes_late (i := 8) rfl (by kernel_rfl) (fun K hK => ?_)
        go_simp
        refine hK.out _ _ ?_
        clear hK K; (try simp only [Act.put, List.setIfInBounds_toArray, List.set_cons_zero, List.set_cons_succ])
        refine wpAnyD_done (by kernel_rfl) ?_ _
        clear hHeld HJ
        have e5 : ints (x.1 ++ [(i : Int)]) = ints x.1 ++ [.int .i64 i] := by simp [ints]
        have HFin := Lib.hid (show Row w4.drew 3 1 v3 (k + 1) (ints (greedG S ls (k + 1)).1) (New w1) by rw [HSucc.out]; show Row _ _ _ _ _ (ints (x.1 ++ [(i : Int)])) _; rw [e5]; exact HR4.out.drew)
        have HFin2 := Lib.hid (show TryI w1 gin gi gbb gb n (greedG S ls (k + 1)).2.2 w4.drew by rw [HSucc.out]; exact HT4.out.to (Kp.refl w4).drew)
        have HFin3 := Lib.hid (show Value.float .f64 (fadd x.2.1 g) = .float .f64 (greedG S ls (k + 1)).2.1 by rw [HSucc.out])
        clear e5
        go_wp2
        clear e4 y0 y1 p4
        go_roundw
        case rel => exact ⟨k + 1, _, by omega, by first | rfl | (congr 1; done) | (congr 1; omega), rfl, HFin3.out, HFin, HFin2⟩
        case measure => simp [intOf]; omega
      · obtain rfl : k = n := by omega
        have HVal := Lib.hid (greedyE_ok HE.out)
        have HX := Lib.hid (X1.out.trans htry.out.ext)
        have HD := Lib.hid hrow.out
        have HLn := Lib.hid (greed_ok HK.out HAll.out (show k ≤ ls.length by rw [← HN.out]; exact Nat.le_refl _)).len
        clear c1
        go_wp2
        go_ret3
        refine RetN.mk HX.out ?_
        rw [HVal.out]
        show BestO _ ((greedG S ls ls.length).1, (greedG S ls ls.length).2.1, 0) _ _
        rw [← HN.out]
        refine ⟨.slice oa k oc, rfl, ?_⟩
        rw [show ((greedG S ls k).1, (greedG S ls k).2.1, (0 : Nat)).1.length = k from HLn.out]
        exact HD.out.mono fun g hg => Nat.le_trans X1.out.size hg
  · have hv := hbv.no (fun q => he (EE.out.trans q))
    rw [← EE.out] at hv
    subst hv
    have b1 : ((e : Int) == 0) = false := by simp; omega
    have b2 : ((e : Int) != 0) = true := by simp; omega
    have HH := Lib.hid he
    clear he hbv
    go_wp2
    go_ret3
    exact RetN.mk (X1.out.alloc _) (by rw [greedyE_bad (fun q => HH.out (EE.out.trans q)), ← EE.out]; exact ⟨_, rfl, Row.nil _ _ _ _⟩)
theorem greedy_any (p : ByteArray) (hs : List TermZ) (ls : List LitZ) (ha : Option Addr) (hn hcap : Nat) (ba : Option Addr) (n bcap : Nat) (S : List StatZ) (sa : Option Addr) (sn scap : Nat) (w : World) (G : Nat → Prop) (hhn : hn = hs.length) (hh : TermsAt w G ha hs) (hhl : hn ≤ 1048576) (hbn : n = ls.length) (h : LitsAt w G ba ls) (hf : Fit ls)
    (hsn : sn = S.length) (hsc : sn ≤ scap) (hS : StatsAt w sa S) (hSf : StatsFit S) :
    Calls Tryz.prog 18 #[ruleV p ha hn hcap ba n bcap, .slice sa sn scap] w (RetN w (BestV (greedyE ((p, hs, ()), ls, ()) S))) :=
  (greedy_own p hs ls ha hn hcap ba n bcap S sa sn scap w G hhn hh hhl hbn h hf hsn hsc hS hSf).mono fun e w' ⟨v, h1, h2, h3⟩ => ⟨v, h1, h2, h3.v⟩
end Go.Proofs.YtomeebimmmfmbaaGreat

/- Sums of real numbers from 0 on: they do not fall where an operand grows. No program in sight. -/
namespace Go.Proofs.YtomeebimmmfmbaaGreat
open Ieee
set_option linter.unusedVariables false
def rne (n d : Nat) : Nat := n / 2 ^ d + (decide (2 ^ d < 2 * (n % 2 ^ d)) || (2 ^ d == 2 * (n % 2 ^ d) && n / 2 ^ d % 2 == 1)).toNat
theorem rne_zero (n : Nat) : rne n 0 = n := by
  unfold rne
  simp [Nat.mod_one]
theorem cut_eq (n d : Nat) (h : d ≤ n.log2 + 2) : Toward.even.cut false n d = rne n d := by
  unfold Toward.cut rne
  simp only [Nat.min_eq_left h, Nat.shiftLeft_eq, Nat.one_mul]
theorem toNat_mono {a b : Bool} (h : a = true → b = true) : a.toNat ≤ b.toNat := by
  cases a
  · exact Nat.zero_le _
  · rw [h rfl]; exact Nat.le_refl _
theorem rne_mono {n m d : Nat} (h : n ≤ m) : rne n d ≤ rne m d := by
  unfold rne
  have hg : 0 < 2 ^ d := Nat.two_pow_pos d
  have hd : n / 2 ^ d ≤ m / 2 ^ d := Nat.div_le_div_right h
  rcases Nat.lt_or_eq_of_le hd with hl | he
  · have : (decide (2 ^ d < 2 * (n % 2 ^ d)) || (2 ^ d == 2 * (n % 2 ^ d) && n / 2 ^ d % 2 == 1)).toNat ≤ 1 := Bool.toNat_le _
    omega
  · rw [he]
    have hr : n % 2 ^ d ≤ m % 2 ^ d := by
      have a := Nat.div_add_mod n (2 ^ d)
      have b := Nat.div_add_mod m (2 ^ d)
      rw [he] at a
      omega
    refine Nat.add_le_add_left (toNat_mono fun hh => ?_) _
    simp only [Bool.or_eq_true, decide_eq_true_eq, Bool.and_eq_true, beq_iff_eq] at hh ⊢
    rcases hh with hh | ⟨h1, h2⟩
    · left; omega
    · rcases Nat.lt_or_eq_of_le hr with h3 | h3
      · left; omega
      · right; exact ⟨by omega, h2⟩
theorem rne_ge (n d : Nat) : n / 2 ^ d ≤ rne n d := Nat.le_add_right _ _
theorem rne_le (n d : Nat) : rne n d ≤ n / 2 ^ d + 1 := Nat.add_le_add_left (Bool.toNat_le _) _
theorem rne_scale (n d q : Nat) : rne (n * 2 ^ q) (d + q) = rne n d := by
  unfold rne
  have hq : 0 < 2 ^ q := Nat.two_pow_pos q
  have e1 : n * 2 ^ q / 2 ^ (d + q) = n / 2 ^ d := by rw [Nat.pow_add, Nat.mul_div_mul_right _ _ hq]
  have e2 : n * 2 ^ q % 2 ^ (d + q) = n % 2 ^ d * 2 ^ q := by rw [Nat.pow_add, Nat.mul_mod_mul_right]
  rw [e1, e2, Nat.pow_add]
  have e3 : 2 * (n % 2 ^ d * 2 ^ q) = 2 * (n % 2 ^ d) * 2 ^ q := by rw [Nat.mul_assoc]
  rw [e3]
  have e4 : decide (2 ^ d * 2 ^ q < 2 * (n % 2 ^ d) * 2 ^ q) = decide (2 ^ d < 2 * (n % 2 ^ d)) := decide_eq_decide.2 (Nat.mul_lt_mul_right hq)
  have e5 : (2 ^ d * 2 ^ q == 2 * (n % 2 ^ d) * 2 ^ q) = (2 ^ d == 2 * (n % 2 ^ d)) := by
    rw [Bool.eq_iff_iff]; simp only [beq_iff_eq]
    exact ⟨fun h => Nat.eq_of_mul_eq_mul_right hq h, fun h => congrArg (· * 2 ^ q) h⟩
  rw [e4, e5]
theorem rne_whole (n q d : Nat) (h : d ≤ q) : rne (n * 2 ^ q) d = n * 2 ^ (q - d) := by
  have e : n * 2 ^ q = n * 2 ^ (q - d) * 2 ^ d := by rw [Nat.mul_assoc, ← Nat.pow_add]; congr 2; omega
  rw [e]
  have := rne_scale (n * 2 ^ (q - d)) 0 d
  rw [Nat.zero_add] at this
  rw [this, rne_zero]
def roundW (v : Nat) : Nat := if v = 0 then 0 else min ((v.log2 - 52) * 4503599627370496 + rne v (v.log2 - 52)) infW
theorem log2_scale {n : Nat} (q : Nat) (h : n ≠ 0) : (n * 2 ^ q).log2 = n.log2 + q := by
  have h1 := Nat.log2_self_le h
  have h2 := @Nat.lt_log2_self n
  have hq : 0 < 2 ^ q := Nat.two_pow_pos q
  have hne : n * 2 ^ q ≠ 0 := Nat.mul_ne_zero h (by omega)
  apply Nat.le_antisymm
  · have : (n * 2 ^ q).log2 < n.log2 + q + 1 := (Nat.log2_lt hne).2 (by
      rw [show n.log2 + q + 1 = (n.log2 + 1) + q by omega, Nat.pow_add]
      exact Nat.mul_lt_mul_of_pos_right h2 hq)
    omega
  · exact (Nat.le_log2 hne).2 (by rw [Nat.pow_add]; exact Nat.mul_le_mul_right _ h1)
theorem nearest_round (m q : Nat) : double.nearest false m (-1074 + (q : Int)) = roundW (m * 2 ^ q) := by
  unfold Format.nearest roundW
  by_cases h : m = 0
  · rw [if_pos h, if_pos (by rw [h]; omega)]; rfl
  · have hne : m * 2 ^ q ≠ 0 := Nat.mul_ne_zero h (by have := Nat.two_pow_pos q; omega)
    rw [if_neg h, if_neg hne, word_false, infRung_eq, log2_scale q h]
    have e1 : double.leastPlace = -1074 := by decide
    have e2 : double.binade = 4503599627370496 := by decide
    have e3 : double.fractionBits = 52 := rfl
    rw [e1, e2, e3]
    have e4 : max (-1074 + (q : Int) + (m.log2 : Int) - ((52 : Nat) : Int)) (-1074) = -1074 + ((m.log2 + q - 52 : Nat) : Int) := by omega
    simp only [e4]
    have e5 : (-1074 + ((m.log2 + q - 52 : Nat) : Int) - -1074).toNat = m.log2 + q - 52 := by omega
    have e6 : (-1074 + (q : Int) - (-1074 + ((m.log2 + q - 52 : Nat) : Int))).toNat = q - (m.log2 + q - 52) := by omega
    have e7 : (-1074 + ((m.log2 + q - 52 : Nat) : Int) - (-1074 + (q : Int))).toNat = (m.log2 + q - 52) - q := by omega
    rw [e5, e6, e7]
    generalize he : m.log2 + q - 52 = e
    have hk : Toward.even.cut false (m <<< (q - e)) (e - q) = rne (m * 2 ^ q) e := by
      by_cases hq : e ≤ q
      · rw [show e - q = 0 by omega, cut_eq _ _ (Nat.zero_le _), rne_zero, Nat.shiftLeft_eq, rne_whole _ _ _ hq]
      · rw [show q - e = 0 by omega, Nat.shiftLeft_eq, Nat.pow_zero, Nat.mul_one, cut_eq _ _ (by omega)]
        have := rne_scale m (e - q) q
        rw [show e - q + q = e by omega] at this
        exact this.symm
    rw [hk]
theorem roundW_mono {v u : Nat} (h : v ≤ u) : roundW v ≤ roundW u := by
  unfold roundW
  by_cases hv : v = 0
  · rw [if_pos hv]; exact Nat.zero_le _
  · have hu : u ≠ 0 := by omega
    rw [if_neg hv, if_neg hu]
    have hl : v.log2 ≤ u.log2 := (Nat.le_log2 hu).2 (Nat.le_trans (Nat.log2_self_le hv) h)
    have key : (v.log2 - 52) * 4503599627370496 + rne v (v.log2 - 52) ≤ (u.log2 - 52) * 4503599627370496 + rne u (u.log2 - 52) := by
      by_cases he : v.log2 - 52 = u.log2 - 52
      · rw [he]; exact Nat.add_le_add_left (rne_mono h) _
      · have hlt : v.log2 - 52 + 1 ≤ u.log2 - 52 := by omega
        have h1 := rne_le v (v.log2 - 52)
        have h2 := rne_ge u (u.log2 - 52)
        have h3 : v / 2 ^ (v.log2 - 52) < 9007199254740992 := by
          rw [Nat.div_lt_iff_lt_mul (Nat.two_pow_pos _), show (9007199254740992 : Nat) = 2 ^ 53 by decide, ← Nat.pow_add]
          exact Nat.lt_of_lt_of_le (@Nat.lt_log2_self v) (Nat.pow_le_pow_right (by decide) (by omega))
        have h4 : 4503599627370496 ≤ u / 2 ^ (u.log2 - 52) := by
          rw [Nat.le_div_iff_mul_le (Nat.two_pow_pos _), show (4503599627370496 : Nat) = 2 ^ 52 by decide, ← Nat.pow_add, show 52 + (u.log2 - 52) = u.log2 by omega]
          exact Nat.log2_self_le hu
        have h5 : (v.log2 - 52) * 4503599627370496 + 4503599627370496 ≤ (u.log2 - 52) * 4503599627370496 := by
          have := Nat.mul_le_mul_right 4503599627370496 hlt
          omega
        omega
    omega
theorem fadd_fin {x y : Nat} (hx : x < infW) (hy : y < infW) : fadd x y = roundW (valW x + valW y) := by
  obtain ⟨m, k, e1, v1⟩ := read_fin hx
  obtain ⟨n, l, e2, v2⟩ := read_fin hy
  unfold fadd Format.add
  rw [e1, e2]
  simp only [Datum.sum]
  have e3 := signed_min n l k
  rw [Int.min_comm, Nat.min_comm] at e3
  rw [signed_min, e3]
  simp only [Option.map_some, Option.getD_some]
  show double.nearest _ _ _ = _
  have h2 : ∀ (c d : Nat), (if ((c : Int) + (d : Int) = 0) then (false && false) else decide ((c : Int) + (d : Int) < 0)) = false := fun c d => by
    split
    · rfl
    · exact decide_eq_false (by omega)
  rw [h2]
  have e4 : min (-1074 + (k : Int)) (-1074 + (l : Int)) = -1074 + ((min k l : Nat) : Int) := by omega
  rw [e4]
  have e5 : ∀ (c d : Nat), ((c : Int) + (d : Int)).natAbs = c + d := fun c d => by omega
  rw [e5, nearest_round, Nat.add_mul]
  congr 1
  have a1 : m * 2 ^ (k - min k l) * 2 ^ min k l = m * 2 ^ k := by rw [Nat.mul_assoc, ← Nat.pow_add]; congr 2; omega
  have a2 : n * 2 ^ (l - min k l) * 2 ^ min k l = n * 2 ^ l := by rw [Nat.mul_assoc, ← Nat.pow_add]; congr 2; omega
  rw [a1, a2, v1, v2]
theorem fadd_inf_l {y : Nat} (hy : y ≤ infW) : fadd infW y = infW := by
  unfold fadd Format.add
  rw [read_inf]
  rcases Nat.lt_or_eq_of_le hy with hy | hy
  · obtain ⟨m, k, e1, _⟩ := read_fin hy
    rw [e1]; rfl
  · rw [hy, read_inf]; rfl
theorem fadd_inf_r {x : Nat} (hx : x ≤ infW) : fadd x infW = infW := by
  unfold fadd Format.add
  rw [read_inf]
  rcases Nat.lt_or_eq_of_le hx with hx | hx
  · obtain ⟨m, k, e1, _⟩ := read_fin hx
    rw [e1]; rfl
  · rw [hx, read_inf]; rfl
theorem fadd_mono {a b g : Nat} (h : a ≤ b) (hb : b ≤ infW) (hg : g ≤ infW) : fadd a g ≤ fadd b g := by
  rcases Nat.lt_or_eq_of_le hb with hb' | hb'
  · rcases Nat.lt_or_eq_of_le hg with hg' | hg'
    · rw [fadd_fin (by omega) hg', fadd_fin hb' hg']
      apply roundW_mono
      rcases Nat.lt_or_eq_of_le h with h | h
      · have := valW_lt h; omega
      · rw [h]; exact Nat.le_refl _
    · rw [hg', fadd_inf_r (by omega), fadd_inf_r hb]; exact Nat.le_refl _
  · rw [hb', fadd_inf_l hg]; exact fadd_le (by omega) hg
end Go.Proofs.YtomeebimmmfmbaaGreat

/- Costs: no order costs less than the best one; the best and the greedy one are orders that cost what is said. No program in sight. -/
namespace Go.Proofs.YtomeebimmmfmbaaGreat
set_option linter.unusedVariables false
theorem bits_none {n s : Nat} (hs : s < 2 ^ n) (h : bitsS n s = List.replicate n false) : s = 0 := by
  rcases Nat.eq_zero_or_pos s with h0 | h0
  · exact h0
  · obtain ⟨i, hi, hb⟩ := bits_some (by omega) hs
    have e := bits_at (s := s) hi
    rw [h, List.getElem?_replicate, if_pos hi, hb] at e
    cases e
theorem bits_zero (n : Nat) : bitsS n 0 = List.replicate n false := by
  apply List.ext_getElem?
  intro j
  by_cases hj : j < n
  · rw [bits_at hj, List.getElem?_replicate, if_pos hj, Nat.zero_testBit]
  · rw [List.getElem?_eq_none_iff.2 (by rw [bits_len]; omega), List.getElem?_replicate, if_neg hj]
theorem setB_same {xs : List Bool} {i : Nat} {b c : Bool} (h : xs[i]? = some b) : (xs.set i c).set i b = xs := by
  apply List.ext_getElem?
  intro j
  rw [List.set_set, List.getElem?_set]
  by_cases e : i = j
  · subst e
    rw [if_pos rfl, if_pos (List.getElem?_eq_some_iff.1 h).1, h]
  · rw [if_neg e]
theorem setB_put {xs : List Bool} {i : Nat} {b c : Bool} (h : xs[i]? = some b) : (xs.set i c)[i]? = some c := by
  rw [List.getElem?_set, if_pos rfl, if_pos (List.getElem?_eq_some_iff.1 h).1]
theorem setOk_of {ls : List LitZ} {xs : List Int} {inn : List Bool} (h : setW ls.length xs = some inn) (hs : stands ls inn) : setOk ls xs = some inn := by
  unfold setOk
  rw [h]
  exact if_pos hs
theorem setOk_inv {ls : List LitZ} {xs : List Int} {inn : List Bool} (h : setOk ls xs = some inn) : setW ls.length xs = some inn ∧ stands ls inn := by
  unfold setOk at h
  split at h
  · rename_i k hk
    split at h
    · rename_i hs; cases h; exact ⟨hk, hs⟩
    · cases h
  · cases h
theorem guessOf_of (S : List StatZ) {ls : List LitZ} {xs : List Int} {inn : List Bool} (h : setOk ls xs = some inn) : guessOf S ls xs = guessW S ls inn := by
  unfold guessOf
  rw [h]
theorem costTo_inf {S : List StatZ} {ls : List LitZ} (K : Known S ls) (xs : List Int) : ∀ i, costTo S ls xs i ≤ infW
  | 0 => Nat.zero_le _
  | i + 1 => fadd_le (costTo_inf K xs i) (guessOf_le K _)
theorem costTo_app (S : List StatZ) (ls : List LitZ) (xs ys : List Int) : ∀ k, k ≤ xs.length → costTo S ls (xs ++ ys) k = costTo S ls xs k
  | 0, _ => rfl
  | k + 1, h => by
    show fadd (costTo S ls (xs ++ ys) k) (guessOf S ls ((xs ++ ys).take (k + 1))) = fadd (costTo S ls xs k) (guessOf S ls (xs.take (k + 1)))
    rw [costTo_app S ls xs ys k (by omega), List.take_append_of_le_length h]
structure Begun (S : List StatZ) (ls : List LitZ) (xs : List Int) (inn : List Bool) (c : Nat) : Prop where
  set : setW ls.length xs = some inn
  st : ∀ i, i ≤ xs.length → (setOk ls (xs.take i)).isSome = true
  cost : costTo S ls xs xs.length = c
theorem Begun.nil (S : List StatZ) (ls : List LitZ) : Begun S ls [] (List.replicate ls.length false) 0 :=
  ⟨rfl, fun i hi => by rw [List.take_nil, setOk_of (inn := List.replicate ls.length false) rfl (stands_none _)]; rfl, rfl⟩
theorem Begun.snoc {S : List StatZ} {ls : List LitZ} {xs : List Int} {inn : List Bool} {c : Nat} (t : Begun S ls xs inn c) {i : Nat} (hi : inn[i]? = some false) (hs : stands ls (inn.set i true)) : Begun S ls (xs ++ [(i : Int)]) (inn.set i true) (fadd c (guessW S ls (inn.set i true))) := by
  have h1 := setW_snoc t.set hi
  have h2 := setOk_of h1 hs
  refine ⟨h1, fun k hk => ?_, ?_⟩
  · rcases Nat.lt_or_ge xs.length k with h | h
    · rw [List.take_of_length_le (by rw [List.length_append]; simp; omega), h2]; rfl
    · rw [List.take_append_of_le_length h]; exact t.st k h
  · rw [List.length_append]
    show fadd (costTo S ls (xs ++ [(i : Int)]) xs.length) (guessOf S ls ((xs ++ [(i : Int)]).take (xs.length + 1))) = _
    rw [costTo_app S ls xs _ _ (Nat.le_refl _), t.cost, List.take_of_length_le (by rw [List.length_append]; simp), guessOf_of S h2]
theorem plan_begun {S : List StatZ} {ls : List LitZ} : ∀ (s : Nat) (p : Plan), s < 2 ^ ls.length → planS S ls s = some p → Begun S ls p.1 (bitsS ls.length s) p.2 := by
  intro s
  induction s using Nat.strongRecOn with
  | _ s ih =>
    intro p hs h
    rw [plan_eq] at h
    unfold rowP at h
    split at h
    · rename_i h0
      cases h
      subst h0
      rw [bits_zero]
      exact Begun.nil S ls
    · split at h
      · rename_i hst
        obtain ⟨i, hi, hq⟩ := leastP_mem h
        unfold candP at hq
        split at hq
        · rename_i hb
          cases hT : planS S ls (s - 2 ^ i) with
          | none => rw [hT] at hq; cases hq
          | some q =>
            rw [hT] at hq
            cases hq
            have hle := (subBit i s hb).1
            have hp := Nat.two_pow_pos i
            have t := ih (s - 2 ^ i) (by omega) q (by omega) hT
            rw [bits_sub hb] at t
            have hbit : (bitsS ls.length s)[i]? = some true := by rw [bits_at hi, hb]
            have hset := setB_same (c := false) hbit
            have t' := t.snoc (setB_put hbit) (by rw [hset]; exact hst)
            rw [hset] at t'
            exact t'
        · cases hq
      · cases h
theorem leastP_le {q : Nat → Option Plan} {c : Plan} : ∀ {n i : Nat}, i < n → q i = some c → ∃ p, leastP q n = some p ∧ p.2 ≤ c.2
  | n + 1, i, hi, h => by
    by_cases e : i = n
    · subst e
      show ∃ p, pickP (leastP q i) (q i) = some p ∧ _
      rw [h]
      cases hb : leastP q i with
      | none => exact ⟨c, rfl, Nat.le_refl _⟩
      | some b =>
        show ∃ p, (if betterP c b then some c else some b) = some p ∧ _
        split
        · exact ⟨c, rfl, Nat.le_refl _⟩
        · rename_i hn
          refine ⟨b, rfl, ?_⟩
          rcases Nat.lt_or_ge c.2 b.2 with hl | hl
          · exact absurd (by unfold betterP; rw [decide_eq_true hl]; rfl) hn
          · exact hl
    · obtain ⟨b, hb, hle⟩ := leastP_le (n := n) (i := i) (by omega) h
      show ∃ p, pickP (leastP q n) (q n) = some p ∧ _
      rw [hb]
      cases hx : q n with
      | none => exact ⟨b, rfl, hle⟩
      | some x =>
        show ∃ p, (if betterP x b then some x else some b) = some p ∧ _
        split
        · rename_i hbt
          refine ⟨x, rfl, ?_⟩
          unfold betterP at hbt
          rw [Bool.or_eq_true, Bool.and_eq_true, decide_eq_true_eq, decide_eq_true_eq] at hbt
          rcases hbt with h | ⟨h, _⟩ <;> omega
        · exact ⟨b, rfl, hle⟩
theorem setW_last {n : Nat} {xs : List Int} {x : Int} {inn : List Bool} (h : setW n (xs ++ [x]) = some inn) : ∃ (i : Nat) (k : List Bool), setW n xs = some k ∧ k[i]? = some false ∧ inn = k.set i true := by
  unfold setW at h ⊢
  rw [List.foldl_append] at h
  cases hk : xs.foldl putNum (some (List.replicate n false)) with
  | none => rw [hk] at h; cases h
  | some k =>
    rw [hk] at h
    have h' : (if 0 ≤ x ∧ k[x.toNat]? = some false then some (k.set x.toNat true) else none) = some inn := h
    split at h'
    · rename_i hc
      cases h'
      exact ⟨x.toNat, k, rfl, hc.2, rfl⟩
    · cases h'
theorem plan_under {S : List StatZ} {ls : List LitZ} (K : Known S ls) {xs : List Int} (ho : orderOk ls xs) : ∀ i, i ≤ xs.length → ∃ inn, setW ls.length (xs.take i) = some inn ∧ inn.length = ls.length ∧ inn.countP id = i ∧ ∀ s, s < 2 ^ ls.length → bitsS ls.length s = inn → ∃ q, planS S ls s = some q ∧ q.2 ≤ costTo S ls xs i
  | 0, _ => ⟨List.replicate ls.length false, rfl, List.length_replicate, by rw [List.countP_eq_zero]; intro b hb; rw [(List.mem_replicate.1 hb).2]; simp, fun s hs hb => by
      obtain rfl := bits_none hs hb
      exact ⟨([], 0), by rw [plan_eq]; unfold rowP; rw [if_pos rfl], Nat.le_refl _⟩⟩
  | i + 1, hi => by
    obtain ⟨inn, h1, h2, h3, ih⟩ := plan_under K ho i (by omega)
    obtain ⟨inn', hin⟩ := Option.isSome_iff_exists.1 (ho.2 (i + 1) hi)
    obtain ⟨hw, hst⟩ := setOk_inv hin
    have hg := guessOf_of S hin
    have hx : xs[i]? = some xs[i] := List.getElem?_eq_getElem (by omega)
    have htk : xs.take (i + 1) = xs.take i ++ [xs[i]] := by rw [List.take_add_one, hx]; rfl
    rw [htk] at hw
    obtain ⟨j, k, e1, e2, rfl⟩ := setW_last hw
    rw [h1] at e1
    cases e1
    have hj : j < ls.length := by rw [← h2]; exact (List.getElem?_eq_some_iff.1 e2).1
    refine ⟨inn.set j true, by rw [htk]; exact hw, by rw [List.length_set]; exact h2, by rw [count_set e2, h3], fun s hs hb => ?_⟩
    have hbt : s.testBit j = true := by
      have e := bits_at (s := s) hj
      rw [hb, setB_put e2] at e
      first | exact Option.some.inj e | exact (Option.some.inj e).symm
    have h0 : s ≠ 0 := by rintro rfl; rw [Nat.zero_testBit] at hbt; cases hbt
    have hpj := Nat.two_pow_pos j
    obtain ⟨q, hq, hle⟩ := ih (s - 2 ^ j) (by omega) (by rw [bits_sub hbt, hb, setB_same e2])
    have hc : candP (planS S ls) (guessW S ls (bitsS ls.length s)) s j = some (q.1 ++ [(j : Int)], fadd q.2 (guessW S ls (bitsS ls.length s))) := by
      unfold candP
      rw [if_pos hbt, hq]; rfl
    obtain ⟨p, hp, hpl⟩ := leastP_le hj hc
    refine ⟨p, by rw [plan_eq]; unfold rowP; rw [if_neg h0, if_pos (by rw [hb]; exact hst)]; exact hp, Nat.le_trans hpl ?_⟩
    show fadd q.2 _ ≤ fadd (costTo S ls xs i) (guessOf S ls (xs.take (i + 1)))
    rw [hg, hb]
    exact fadd_mono hle (costTo_inf K xs i) (guessW_le K _)
theorem set_full {n : Nat} {inn : List Bool} (h : inn.length = n) (hc : inn.countP id = n) : inn = List.replicate n true := by
  refine List.eq_replicate_iff.2 ⟨h, fun b hb => ?_⟩
  have := List.countP_eq_length.1 (hc.trans h.symm) b hb
  exact this
theorem best_least {S : List StatZ} {ls : List LitZ} (K : Known S ls) {p : Plan} (h : planS S ls (2 ^ ls.length - 1) = some p) {xs : List Int} (ho : orderOk ls xs) : p.2 ≤ costTo S ls xs xs.length := by
  obtain ⟨inn, _, h2, h3, ih⟩ := plan_under (S := S) K ho xs.length (Nat.le_refl _)
  have hp := Nat.two_pow_pos ls.length
  obtain ⟨q, hq, hle⟩ := ih (2 ^ ls.length - 1) (by omega) (by rw [bits_all, set_full h2 (by rw [h3, ho.1])])
  rw [h] at hq
  cases hq
  exact hle
theorem greed_begun {S : List StatZ} {ls : List LitZ} (K : Known S ls) (hall : stands ls (List.replicate ls.length true)) : ∀ {k : Nat}, k ≤ ls.length → Begun S ls (greedG S ls k).1 (greedG S ls k).2.2 (greedG S ls k).2.1
  | 0, _ => Begun.nil S ls
  | k + 1, hk => by
    have t := greed_begun K hall (k := k) (by omega)
    obtain ⟨i, hi, h1, h2, h3⟩ := next_some (S := S) hall (by omega) (greed_ok K hall (k := k) (by omega))
    have e : greedG S ls (k + 1) = ((greedG S ls k).1 ++ [(i : Int)], fadd (greedG S ls k).2.1 (guessW S ls ((greedG S ls k).2.2.set i true)), (greedG S ls k).2.2.set i true) := by
      show stepG S ls (greedG S ls k) = _
      unfold stepG
      rw [h3]; rfl
    rw [e]
    exact t.snoc h1 h2
theorem Begun.order {S : List StatZ} {ls : List LitZ} {xs : List Int} {inn : List Bool} {c : Nat} (t : Begun S ls xs inn c) (h : xs.length = ls.length) : orderOk ls xs := ⟨h, t.st⟩
structure BestP (r : RuleZ) (S : List StatZ) (l : List Int) (c : Nat) : Prop where
  ok : bestE r S = (l, c, 0)
  len : l.length = r.2.1.length
  ord : orderOk r.2.1 l
  cost : costTo S r.2.1 l l.length = c
  known : Known S r.2.1
  le : c ≤ infW
  least : ∀ xs, orderOk r.2.1 xs → c ≤ costTo S r.2.1 xs xs.length
theorem best_p {r : RuleZ} {S : List StatZ} (h : errR r S = 0) (hn : ¬ 12 < r.2.1.length) : ∃ l c, BestP r S l c := by
  obtain ⟨pp, hp⟩ := best_some (S := S) (errR_zero h).1
  have K := Known.of (errR_zero h).2
  have h2 := Nat.two_pow_pos r.2.1.length
  have t := plan_begun _ _ (by omega) hp
  have hl : pp.1.length = r.2.1.length := by
    rw [(plan_ok K _ _ hp).2, bits_all, List.countP_eq_length.2 (fun b hb => by rw [(List.mem_replicate.1 hb).2]; rfl), List.length_replicate]
  exact ⟨pp.1, pp.2, bestE_some h hn hp, hl, t.order hl, t.cost, K, (plan_ok K _ _ hp).1, fun xs ho => best_least K hp ho⟩
structure GreedP (r : RuleZ) (S : List StatZ) (l : List Int) (c : Nat) : Prop where
  ok : greedyE r S = (l, c, 0)
  len : l.length = r.2.1.length
  ord : orderOk r.2.1 l
  cost : costTo S r.2.1 l l.length = c
  le : c ≤ infW
theorem greed_p {r : RuleZ} {S : List StatZ} (h : errR r S = 0) : ∃ l c, GreedP r S l c := by
  have K := Known.of (errR_zero h).2
  have hall := full_stands (errR_zero h).1
  have t := greed_begun K hall (k := r.2.1.length) (Nat.le_refl _)
  have g := greed_ok K hall (k := r.2.1.length) (Nat.le_refl _)
  exact ⟨_, _, greedyE_ok h, g.len, t.order g.len, t.cost, g.cost⟩
end Go.Proofs.YtomeebimmmfmbaaGreat

/- The law of costs: v, atom. -/
namespace Go.Proofs.YtomeebimmmfmbaaGreat
open Go.RowKit
set_option linter.unusedVariables false
set_option maxRecDepth 100000 in
theorem v_any (s : ByteArray) (w : World) : Calls Tryz.prog 40 #[.string s] w (RetN w fun w' u => u = .agg #[.int .i64 1, .string s]) := by
  go_enter Tryz.func40, Tryz.ntmps40
  obtain ⟨wb, eb⟩ : ∃ wb, w.alloc (.cells #[.int .i64 1, .string s] 94) = wb := ⟨_, rfl⟩
  have hB : Blk wb w.heap.size [.int .i64 1, .string s] 94 := by rw [← eb]; exact Blk.new w _ _
  have u0 : wb.cell? ⟨w.heap.size, 0, none⟩ = some (.int .i64 1) := by rw [hB.cell']; rfl
  have u1 : wb.cell? ⟨w.heap.size, 1, none⟩ = some (.string s) := by rw [hB.cell']; rfl
  have HX := Lib.hid (show Ext w wb by rw [← eb]; exact (Kp.refl w).alloc _)
  clear hB
  go_wp2
  refine bodyPost_ret (v := .agg #[.int .i64 1, .string s]) (by simp [results, Tryz.results40, go_sem, u0, u1]) rfl ?_
  exact RetN.mk HX.out rfl
def awNo : TermZ := (0, ⟨#[]⟩, ())
def atomL (p : ByteArray) (ts : List TermZ) : LitZ := (1, (p, ts, ()), 0, awNo, awNo, ())
def varT (s : ByteArray) : TermZ := (1, s, ())
def litZs (k : Int) (p : ByteArray) (tv : Value) : List Value := [.int .i64 k, .string p, tv, .int .i64 0, .int .i64 0, .string ⟨#[]⟩, .int .i64 0, .string ⟨#[]⟩]
theorem row_terms {w : World} {a : Option Addr} {n c : Nat} {ts : List TermZ} {M : Nat → Prop} (h : Row w 94 2 (.slice a n c) n (tcells ts) M) (hf : ∀ t ∈ ts, TermFit t) : TermsAt w M a ts := by
  obtain ⟨h1, ⟨e, rfl⟩ | ⟨g, cap, rest, e, hM, hB, _⟩⟩ := h
  · rw [tcells_len] at h1
    obtain rfl : ts = [] := List.eq_nil_of_length_eq_zero (by omega)
    intro i x hx
    simp at hx
  · cases e
    exact elems_of (s := shTerm) (f := termC) (fun x => rfl) (fun i x hi => term_mk (hf x (List.mem_of_getElem? hi))) hM hB
def AtomTo (w0 : World) (gt gl : Nat) (p : ByteArray) (ns : List ByteArray) (n : Nat) (iv : Value) (w : World) : Prop := ∃ i : Nat, i ≤ n ∧ iv = .int .i64 i ∧ Hid (Ext w0 w) ∧ Hid (∃ tv, Blk w gt (litZs 0 ⟨#[]⟩ (.slice none 0 0)) 97 ∧ Blk w gl (litZs 1 p tv) 97 ∧ Row w 94 2 tv i (tcells ((ns.take i).map varT)) (New w0))
set_option maxRecDepth 100000 in
set_option maxHeartbeats 4000000 in
theorem atom_any (p : ByteArray) (ns : List ByteArray) (na : Option Addr) (n cap : Nat) (w : World) (hn : n = ns.length) (h : CellsAt w na (strs ns)) (hl : n ≤ 1048576) (hs : ∀ s ∈ ns, s.size ≤ maxLen) :
    Calls Tryz.prog 41 #[.string p, .slice na n cap] w (RetN w fun w' u => ∃ a c, u = .agg (litC (atomL p (ns.map varT), (a, c))).toArray ∧ TermsAt w' (New w) a (ns.map varT) ∧ n ≤ c ∧ c ≤ maxLen) := by
  have HN := Lib.hid hn
  have HC := Lib.hid h
  have HS := Lib.hid hs
  clear hn h hs
  go_enter Tryz.func41, Tryz.ntmps41
  go_wp2
  obtain ⟨gt, egt⟩ : ∃ g, w.heap.size = g := ⟨_, rfl⟩
  have EGT := Lib.hid egt
  rw [egt]
  obtain ⟨gl, egl⟩ : ∃ g, gt + 1 = g := ⟨_, rfl⟩
  have EGL := Lib.hid egl
  rw [egl]
  obtain ⟨wb, eb⟩ : ∃ wb, (w.alloc (.cells #[.int .i64 0, .string ⟨#[]⟩, .slice none 0 0, .int .i64 0, .int .i64 0, .string ⟨#[]⟩, .int .i64 0, .string ⟨#[]⟩] 97)).alloc (.cells #[.int .i64 1, .string p, .slice none 0 0, .int .i64 0, .int .i64 0, .string ⟨#[]⟩, .int .i64 0, .string ⟨#[]⟩] 97) = wb := ⟨_, rfl⟩
  rw [eb]
  have HT0 := Lib.hid (show Blk wb gt (litZs 0 ⟨#[]⟩ (.slice none 0 0)) 97 by rw [← eb, ← egt]; exact (Blk.new w (litZs 0 ⟨#[]⟩ (.slice none 0 0)) 97).alloc _)
  have HL0 := Lib.hid (show Blk wb gl (litZs 1 p (.slice none 0 0)) 97 by
    have h := Blk.new (w.alloc (.cells #[.int .i64 0, .string ⟨#[]⟩, .slice none 0 0, .int .i64 0, .int .i64 0, .string ⟨#[]⟩, .int .i64 0, .string ⟨#[]⟩] 97)) (litZs 1 p (.slice none 0 0)) 97
    rw [alloc_size, egt, egl] at h
    rw [← eb]; exact h)
  have XB := Lib.hid (show Ext w wb by rw [← eb]; exact ((Kp.refl w).alloc _).alloc _)
  clear eb egt egl
  go_loopw [6] (fun iv wr => AtomTo w gt gl p ns n iv wr) (fun iv _ => n - (intOf iv).toNat)
  case atStart => exact ⟨0, Nat.zero_le _, rfl, XB.out, _, HT0.out, HL0.out, Row.nil _ _ _ _⟩
  case round =>
    clear HT0 HL0 XB
    obtain ⟨i, hi, rfl, hex, hin⟩ := hrel
    obtain ⟨tv, hBt, hBl, hr⟩ := hin.out
    obtain ⟨ta, tn, tc, etv, hcp1, hcp2⟩ : ∃ ta tn tc, tv = .slice ta tn tc ∧ tn = i ∧ True := by
      obtain ⟨ao, cap, e, _⟩ := hr.shape
      exact ⟨ao, _, cap, e, rfl, trivial⟩
    subst etv
    subst hcp1
    have HBt := Lib.hid hBt
    have HBl := Lib.hid hBl
    have HR := Lib.hid hr
    clear hBt hBl hr hin hcp2
    by_cases hlt : tn < n
    · obtain ⟨s, hs⟩ : ∃ s, ns[tn]? = some s := ⟨_, List.getElem?_eq_getElem (by rw [← HN.out]; exact hlt)⟩
      obtain ⟨b, off, ena, c0⟩ := HC.out tn (.string s) (by simp [strs, hs])
      subst ena
      replace c0 := hex.out.cell c0 id
      have l2 : wr.cell? ⟨gl, 2, none⟩ = some (.slice ta tn tc) := by rw [HBl.out.cell']; rfl
      have l2f := HBl.out.free 2
      have HSI := Lib.hid hs
      have hssz := HS.out s (List.mem_of_getElem? hs)
      clear hs
      go_wp2
      have HJ := Lib.hid (show ∀ w', Ext wr w' → (fun w' : World => w'.cell? ⟨gl, 2, none⟩ = some (.slice ta tn tc) ∧ w'.cell? ⟨b, off + tn, none⟩ = some (.string s)) w' from fun w' hw => ⟨hw.cell l2 id, hw.cell c0 id⟩)
      clear l2 c0 hssz
      refine draw_begin (fun w' : World => w'.cell? ⟨gl, 2, none⟩ = some (.slice ta tn tc) ∧ w'.cell? ⟨b, off + tn, none⟩ = some (.string s)) [9, 12] (by kernel_rfl) (HJ.out _ (Kp.refl wr).drew) (fun hHeld => ?_)
      (refine draw_free (i := 0) (v := ?_) rfl ?_ ?_; rotate_left; (intro w; go_simp; try with_reducible rfl)); (try simp only [Act.put, List.setIfInBounds_toArray, List.set_cons_zero, List.set_cons_succ])
      (refine draw_free (i := 1) (v := ?_) rfl ?_ ?_; rotate_left; (intro w; go_simp; try with_reducible rfl)); (try simp only [Act.put, List.setIfInBounds_toArray, List.set_cons_zero, List.set_cons_succ])
      (refine draw_in (i := 2) (v := ?_) rfl ?_ ?_; rotate_left; (intro w hSw; (try dsimp only at hSw); go_simp; try with_reducible rfl)); (try simp only [Act.put, List.setIfInBounds_toArray, List.set_cons_zero, List.set_cons_succ])
      (refine draw_free (i := 3) (v := ?_) rfl ?_ ?_; rotate_left; (intro w; go_simp; try with_reducible rfl)); (try simp only [Act.put, List.setIfInBounds_toArray, List.set_cons_zero, List.set_cons_succ])
      (refine draw_free (i := 4) (v := ?_) rfl ?_ ?_; rotate_left; (intro w; go_simp; try with_reducible rfl)); (try simp only [Act.put, List.setIfInBounds_toArray, List.set_cons_zero, List.set_cons_succ])
      (refine draw_in (i := 5) (v := ?_) rfl ?_ ?_; rotate_left; (intro w hSw; (try dsimp only at hSw); go_simp; try with_reducible rfl)); (try simp only [Act.put, List.setIfInBounds_toArray, List.set_cons_zero, List.set_cons_succ])
      (refine draw_in (i := 6) (v := ?_) rfl ?_ ?_; rotate_left; (intro w hSw; (try dsimp only at hSw); go_simp; try with_reducible rfl)); (try simp only [Act.put, List.setIfInBounds_toArray, List.set_cons_zero, List.set_cons_succ])
      refine draw_one (i := 7) ?_
      refine comes_turn (i := 7) rfl (fun K hK => ?_)
      go_simp
      (refine (v_any s _).mono ?_; rintro e w5 ⟨v, rfl, hk3, rfl⟩; have X5 := Lib.hid (show Ext wr w5 from ((Kp.refl wr).drew).trans hk3); clear hk3)
      go_wp2_with fail
      refine hK.out _ _ ?_ (fun hHeld => ?_)
      · (try dsimp only); (exact HJ.out _ X5.out)
      clear hK K; (try simp only [Act.put, List.setIfInBounds_toArray, List.set_cons_zero, List.set_cons_succ])
      refine draw_one (i := 8) ?_
      refine comes_turn (i := 8) rfl (fun K hK => ?_)
      go_simp
      refine hK.out _ _ ?_ (fun hHeld => ?_)
      · (try dsimp only); (exact HJ.out _ (X5.out.alloc _))
      clear hK K; (try simp only [Act.put, List.setIfInBounds_toArray, List.set_cons_zero, List.set_cons_succ])
      refine draw_one (i := 9) ?_
      refine comes_late (i := 9) rfl (by kernel_rfl) (fun K hK => ?_)
      refine draw_appN elem_term rfl _ _ rfl ((hex.out.trans X5.out).alloc _) rfl ((HR.out.ext X5.out).alloc _) rfl (CellsAt.new w5 [.int .i64 1, .string s] 94) (by rfl) (by simp [Value.oneCell']) (by omega) (by unfold maxLen; omega) ?_; intro v1 w6 hr1 hk1 hk2
      refine hK.out _ _ ?_
      clear hK K; (try simp only [Act.put, List.setIfInBounds_toArray, List.set_cons_zero, List.set_cons_succ])
      (refine draw_free (i := 10) (v := ?_) rfl ?_ ?_; rotate_left; (intro w; go_simp; try with_reducible rfl)); (try simp only [Act.put, List.setIfInBounds_toArray, List.set_cons_zero, List.set_cons_succ])
      (refine draw_free (i := 11) (v := ?_) rfl ?_ ?_; rotate_left; (intro w; go_simp; try with_reducible rfl)); (try simp only [Act.put, List.setIfInBounds_toArray, List.set_cons_zero, List.set_cons_succ])
      refine draw_one (i := 12) ?_
      refine comes_late (i := 12) rfl (by kernel_rfl) (fun K hK => ?_)
      (obtain ⟨b6, c6, ev6, _, _⟩ := hr1.shape; subst ev6; have hB6 : Blk w6 gl (litZs 1 p (.slice ta tn tc)) 97 := ((HBl.out.ext X5.out).alloc _).kp hk2 (fun e => (by obtain ⟨cs, hb⟩ := (HR.out.ext X5.out).blkOf e; exact typ_tl (blk_ne hb (HBl.out.ext X5.out)))); have hT6 : Blk w6 gt (litZs 0 ⟨#[]⟩ (.slice none 0 0)) 97 := ((HBt.out.ext X5.out).alloc _).kp hk2 (fun e => (by obtain ⟨cs, hb⟩ := (HR.out.ext X5.out).blkOf e; exact typ_tl (blk_ne hb (HBt.out.ext X5.out)))); have x6f := hB6.free 2; have x6 : w6.cell? ⟨gl, 2, none⟩ = some (.slice ta tn tc) := (by rw [hB6.cell']; rfl); have HA := Lib.hid (And.intro hr1 (And.intro hk1 (And.intro hB6 hT6))); clear hr1 hk1 hk2 hB6 hT6)
      go_simp
      refine hK.out _ _ ?_
      clear hK K; (try simp only [Act.put, List.setIfInBounds_toArray, List.set_cons_zero, List.set_cons_succ])
      refine wpAnyD_done (by kernel_rfl) ?_ _
      obtain ⟨hr1, hk1, hB6, hT6⟩ := HA.out
      obtain ⟨w7, ew7⟩ : ∃ w7, w6.setCell ⟨gl, 2, none⟩ (.slice b6 (tn + 1) c6) = w7 := ⟨_, rfl⟩
      have hk67 : Kp (fun k => k = gl) w6 w7 := by rw [← ew7]; exact Kp.setCell (F := fun k => k = gl) (Kp.refl w6) (fun _ => rfl) _
      have hB7 : Blk w7 gl (litZs 1 p (.slice b6 (tn + 1) c6)) 97 := by rw [← ew7]; exact hB6.set 2 _
      have hT7 : Blk w7 gt (litZs 0 ⟨#[]⟩ (.slice none 0 0)) 97 := hT6.kp hk67 (by have := EGL.out; omega)
      have hx7 : Ext w w7 := by rw [← ew7]; exact Kp.setCell (F := fun _ => False) hk1 (fun h => by have := EGL.out; have := EGT.out; simp only at h; omega) _
      have hr7 := hr1.kp' hk67 fun g hg _ e => by
        obtain ⟨cs, hb⟩ := hr1.blkOf hg
        subst e
        exact typ_tl (blk_ne hb hB6)
      have e7 : tcells ((ns.take (tn + 1)).map varT) = tcells ((ns.take tn).map varT) ++ [.int .i64 1, .string s] := by rw [takeSnoc HSI.out, List.map_append]; exact tcells_snoc _ _
      rw [← e7] at hr7
      have HFin := Lib.hid (show ∃ tv, Blk w7 gt (litZs 0 ⟨#[]⟩ (.slice none 0 0)) 97 ∧ Blk w7 gl (litZs 1 p tv) 97 ∧ Row w7 94 2 tv (tn + 1) (tcells ((ns.take (tn + 1)).map varT)) (New w) from ⟨_, hT7, hB7, hr7⟩)
      have HX7 := Lib.hid hx7
      rw [ew7]
      clear hr1 hk1 hB6 hT6 hk67 hB7 hT7 hx7 hr7 e7 x6 x6f HA ew7 hHeld
      go_wp2
      go_roundw
      case rel => exact ⟨tn + 1, by omega, by first | rfl | (congr 1; done) | (congr 1; omega), HX7.out, HFin.out⟩
      case measure => simp [intOf]; omega
    · obtain rfl : tn = n := by omega
      have hall : ns.take tn = ns := List.take_of_length_le (by have := HN.out; omega)
      have hr := HR.out
      rw [hall] at hr
      obtain ⟨_, _, e, q1, q2, q3⟩ := hr.cap
      cases e
      have HTA := Lib.hid (And.intro hr (And.intro q2 q3))
      have l0 : wr.cell? ⟨gl, 0, none⟩ = some (.int .i64 1) := by rw [HBl.out.cell']; rfl
      have l1 : wr.cell? ⟨gl, 1, none⟩ = some (.string p) := by rw [HBl.out.cell']; rfl
      have l2 : wr.cell? ⟨gl, 2, none⟩ = some (.slice ta tn tc) := by rw [HBl.out.cell']; rfl
      have l3 : wr.cell? ⟨gl, 3, none⟩ = some (.int .i64 0) := by rw [HBl.out.cell']; rfl
      have l4 : wr.cell? ⟨gl, 4, none⟩ = some (.int .i64 0) := by rw [HBl.out.cell']; rfl
      have l5 : wr.cell? ⟨gl, 5, none⟩ = some (.string ⟨#[]⟩) := by rw [HBl.out.cell']; rfl
      have l6 : wr.cell? ⟨gl, 6, none⟩ = some (.int .i64 0) := by rw [HBl.out.cell']; rfl
      have l7 : wr.cell? ⟨gl, 7, none⟩ = some (.string ⟨#[]⟩) := by rw [HBl.out.cell']; rfl
      have z0 : ∃ u, wr.cell? ⟨gt, 0, none⟩ = some u := ⟨_, by rw [HBt.out.cell']; rfl⟩
      have z1 : ∃ u, wr.cell? ⟨gt, 1, none⟩ = some u := ⟨_, by rw [HBt.out.cell']; rfl⟩
      have z2 : ∃ u, wr.cell? ⟨gt, 2, none⟩ = some u := ⟨_, by rw [HBt.out.cell']; rfl⟩
      have z3 : ∃ u, wr.cell? ⟨gt, 3, none⟩ = some u := ⟨_, by rw [HBt.out.cell']; rfl⟩
      have z4 : ∃ u, wr.cell? ⟨gt, 4, none⟩ = some u := ⟨_, by rw [HBt.out.cell']; rfl⟩
      have z5 : ∃ u, wr.cell? ⟨gt, 5, none⟩ = some u := ⟨_, by rw [HBt.out.cell']; rfl⟩
      have z6 : ∃ u, wr.cell? ⟨gt, 6, none⟩ = some u := ⟨_, by rw [HBt.out.cell']; rfl⟩
      have z7 : ∃ u, wr.cell? ⟨gt, 7, none⟩ = some u := ⟨_, by rw [HBt.out.cell']; rfl⟩
      have f0 := HBt.out.free 0
      have f1 := HBt.out.free 1
      have f2 := HBt.out.free 2
      have f3 := HBt.out.free 3
      have f4 := HBt.out.free 4
      have f5 := HBt.out.free 5
      have f6 := HBt.out.free 6
      have f7 := HBt.out.free 7
      obtain ⟨u0, y0⟩ := z0
      obtain ⟨u1, y1⟩ := z1
      obtain ⟨u2, y2⟩ := z2
      obtain ⟨u3, y3⟩ := z3
      obtain ⟨u4, y4⟩ := z4
      obtain ⟨u5, y5⟩ := z5
      obtain ⟨u6, y6⟩ := z6
      obtain ⟨u7, y7⟩ := z7
      clear hr hall q1 q2 q3
      go_wp2
      obtain ⟨w9, ew9⟩ : ∃ w9, (((((((wr.setCell ⟨gt, 0, none⟩ (.int .i64 1)).setCell ⟨gt, 1, none⟩ (.string p)).setCell ⟨gt, 2, none⟩ (.slice ta tn tc)).setCell ⟨gt, 3, none⟩ (.int .i64 0)).setCell ⟨gt, 4, none⟩ (.int .i64 0)).setCell ⟨gt, 5, none⟩ (.string ⟨#[]⟩)).setCell ⟨gt, 6, none⟩ (.int .i64 0)).setCell ⟨gt, 7, none⟩ (.string ⟨#[]⟩) = w9 := ⟨_, rfl⟩
      rw [ew9]
      have hB9 : Blk w9 gt (litZs 1 p (.slice ta tn tc)) 97 := by
        rw [← ew9]
        exact (((((((HBt.out.set 0 _).set 1 _).set 2 _).set 3 _).set 4 _).set 5 _).set 6 _).set 7 _
      have hk9 : Kp (fun k => k = gt) wr w9 := by
        rw [← ew9]
        exact ((((((((Kp.refl wr).setCell (F := fun k => k = gt) (p := ⟨gt, 0, none⟩) (fun _ => rfl) _).setCell (p := ⟨gt, 1, none⟩) (fun _ => rfl) _).setCell (p := ⟨gt, 2, none⟩) (fun _ => rfl) _).setCell (p := ⟨gt, 3, none⟩) (fun _ => rfl) _).setCell (p := ⟨gt, 4, none⟩) (fun _ => rfl) _).setCell (p := ⟨gt, 5, none⟩) (fun _ => rfl) _).setCell (p := ⟨gt, 6, none⟩) (fun _ => rfl) _).setCell (p := ⟨gt, 7, none⟩) (fun _ => rfl) _
      have hx9 : Ext w w9 := hex.out.trans' hk9 fun i hi e => absurd hi (by have := EGT.out; omega)
      have hta : TermsAt w9 (New w) ta (ns.map varT) := by
        have hr9 := HTA.out.1.kp' hk9 fun g hg _ e => by
          obtain ⟨cs, hb⟩ := HTA.out.1.blkOf hg
          subst e
          exact typ_tl (blk_ne hb HBt.out)
        exact row_terms hr9 fun t ht => by
          obtain ⟨s, hs, rfl⟩ := List.mem_map.1 ht
          exact ⟨(by decide : (Lit.int .i64 1).wf = true), HS.out s hs⟩
      have v0 := hB9.cell' 0
      have v1 := hB9.cell' 1
      have v2 := hB9.cell' 2
      have v3 := hB9.cell' 3
      have v4 := hB9.cell' 4
      have v5 := hB9.cell' 5
      have v6 := hB9.cell' 6
      have v7 := hB9.cell' 7
      refine bodyPost_ret (v := .agg #[.int .i64 1, .string p, .slice ta tn tc, .int .i64 0, .int .i64 0, .string ⟨#[]⟩, .int .i64 0, .string ⟨#[]⟩]) (by simp [results, Tryz.results41, go_sem, litZs, v0, v1, v2, v3, v4, v5, v6, v7]) rfl ?_
      refine RetN.mk hx9 ⟨ta, tc, ?_, hta, HTA.out.2.1, HTA.out.2.2⟩
      have e : (termsOf (atomL p (ns.map varT))).length = tn := by show (ns.map varT).length = tn; rw [List.length_map, HN.out]
      simp only [litC, e]; rfl
end Go.Proofs.YtomeebimmmfmbaaGreat

/- The chapter's example of costs, reckoned: guess 500, best and greedy order 2 0 1 3, cost 424. No program in sight. -/
namespace Go.Proofs.YtomeebimmmfmbaaGreat
set_option linter.unusedVariables false
def boundB (ls : List LitZ) (inn : List Bool) (v : ByteArray) : Bool := (ls.zip inn).any fun p => p.2 && decide (p.1.1 = 1) && hasT (varsT (termsOf p.1)) v
def standsB (ls : List LitZ) (inn : List Bool) : Bool := (ls.zip inn).all fun p => !p.2 || decide (p.1.1 = 1) || (varsT (asks p.1)).all (boundB ls inn)
theorem bound_iff {ls : List LitZ} {inn : List Bool} {v : ByteArray} : boundB ls inn v = true ↔ boundIn ls inn v := by
  unfold boundB boundIn
  rw [List.any_eq_true]
  constructor
  · rintro ⟨p, hp, h⟩
    obtain ⟨i, hi⟩ := List.mem_iff_getElem?.1 hp
    rw [Bool.and_eq_true, Bool.and_eq_true, decide_eq_true_eq, hasT_iff] at h
    obtain ⟨⟨h1, h2⟩, h3⟩ := h
    obtain ⟨l, b⟩ := p
    rw [List.getElem?_zip_eq_some] at hi
    obtain rfl : b = true := h1
    exact ⟨i, l, hi.1, hi.2, h2, h3⟩
  · rintro ⟨i, l, h1, h2, h3, h4⟩
    refine ⟨(l, true), List.mem_iff_getElem?.2 ⟨i, by rw [List.getElem?_zip_eq_some]; exact ⟨h1, h2⟩⟩, ?_⟩
    rw [Bool.and_eq_true, Bool.and_eq_true, decide_eq_true_eq, hasT_iff]
    exact ⟨⟨rfl, h3⟩, h4⟩
theorem stands_B {ls : List LitZ} {inn : List Bool} : stands ls inn ↔ standsB ls inn = true := by
  unfold standsB stands
  rw [List.all_eq_true]
  constructor
  · intro h p hp
    obtain ⟨i, hi⟩ := List.mem_iff_getElem?.1 hp
    obtain ⟨l, b⟩ := p
    rw [List.getElem?_zip_eq_some] at hi
    cases b with
    | false => rfl
    | true =>
      by_cases h1 : l.1 = 1
      · show (!true || decide (l.1 = 1) || _) = true
        rw [decide_eq_true h1]; rfl
      · show (!true || decide (l.1 = 1) || (varsT (asks l)).all (boundB ls inn)) = true
        rw [decide_eq_false h1, List.all_eq_true.2 fun v hv => bound_iff.2 (h i l hi.1 hi.2 h1 v hv)]; rfl
  · intro h i l h1 h2 h3 v hv
    have h4 := h (l, true) (List.mem_iff_getElem?.2 ⟨i, by rw [List.getElem?_zip_eq_some]; exact ⟨h1, h2⟩⟩)
    have h5 : (!true || decide (l.1 = 1) || (varsT (asks l)).all (boundB ls inn)) = true := h4
    rw [decide_eq_false h3] at h5
    have h6 : (varsT (asks l)).all (boundB ls inn) = true := h5
    exact bound_iff.1 (List.all_eq_true.1 h6 v hv)
noncomputable def rowB (S : List StatZ) (ls : List LitZ) (T : Nat → Option Plan) (s : Nat) : Option Plan := if s = 0 then some ([], 0) else if standsB ls (bitsS ls.length s) = true then leastP (candP T (guessW S ls (bitsS ls.length s)) s) ls.length else none
noncomputable def tabB (S : List StatZ) (ls : List LitZ) : Nat → Nat → Option Plan
  | 0, _ => none
  | k + 1, s => if s = k then rowB S ls (tabB S ls k) k else tabB S ls k s
theorem row_B (S : List StatZ) (ls : List LitZ) (T : Nat → Option Plan) (s : Nat) : rowP S ls T s = rowB S ls T s := by
  unfold rowP rowB
  split
  · rfl
  · by_cases h : stands ls (bitsS ls.length s)
    · rw [if_pos h, if_pos (stands_B.1 h)]
    · rw [if_neg h, if_neg (fun e => h (stands_B.2 e))]
theorem tab_B (S : List StatZ) (ls : List LitZ) : ∀ (k : Nat), tabP S ls k = tabB S ls k
  | 0 => rfl
  | k + 1 => by
    funext s
    show (if s = k then rowP S ls (tabP S ls k) k else tabP S ls k s) = (if s = k then rowB S ls (tabB S ls k) k else tabB S ls k s)
    rw [tab_B S ls k, row_B]
theorem plan_B (S : List StatZ) (ls : List LitZ) (s : Nat) : planS S ls s = tabB S ls (s + 1) s := by
  unfold planS
  rw [tab_B]
noncomputable def candGB (S : List StatZ) (ls : List LitZ) (inn : List Bool) (i : Nat) : Option Plan := if inn[i]? = some false ∧ standsB ls (inn.set i true) = true then some ([(i : Int)], guessW S ls (inn.set i true)) else none
theorem candG_B (S : List StatZ) (ls : List LitZ) (inn : List Bool) : candG S ls inn = candGB S ls inn := by
  funext i
  unfold candG candGB
  by_cases h : inn[i]? = some false ∧ stands ls (inn.set i true)
  · rw [if_pos h, if_pos ⟨h.1, stands_B.1 h.2⟩]
  · rw [if_neg h, if_neg (fun e => h ⟨e.1, stands_B.2 e.2⟩)]
noncomputable def stepGB (S : List StatZ) (ls : List LitZ) (x : GreedZ) : GreedZ := match leastP (candGB S ls x.2.2) ls.length with
  | some p => (x.1 ++ [p.1.headD 0], fadd x.2.1 p.2, x.2.2.set (p.1.headD 0).toNat true)
  | none => x
noncomputable def greedGB (S : List StatZ) (ls : List LitZ) : Nat → GreedZ
  | 0 => ([], 0, List.replicate ls.length false)
  | k + 1 => stepGB S ls (greedGB S ls k)
theorem greedG_B (S : List StatZ) (ls : List LitZ) : ∀ k, greedG S ls k = greedGB S ls k
  | 0 => rfl
  | k + 1 => by
    show stepG S ls (greedG S ls k) = stepGB S ls (greedGB S ls k)
    rw [greedG_B S ls k]
    unfold stepG stepGB nextG
    rw [candG_B]
    cases leastP (candGB S ls (greedGB S ls k).2.2) ls.length <;> rfl
def awX : TermZ := (1, ⟨#[88]⟩, ())
def awY : TermZ := (1, ⟨#[89]⟩, ())
def awZ : TermZ := (1, ⟨#[90]⟩, ())
def awE1 : LitZ := atomL ⟨#[101]⟩ [awX, awY]
def awE2 : LitZ := atomL ⟨#[101]⟩ [awY, awZ]
def awN : LitZ := atomL ⟨#[110]⟩ [awX]
def awC : LitZ := (3, (⟨#[]⟩, [], ()), 2, awX, awZ, ())
def awLs : List LitZ := [awE1, awE2, awN, awC]
def awHs : List TermZ := [awX, awZ]
def awR : RuleZ := ((⟨#[116]⟩, awHs, ()), awLs, ())
def awS : List StatZ := [(⟨#[101]⟩, 4636737291354636288, [4621819117588971520, 4626322717216342016], ()), (⟨#[110]⟩, 4616189618054758400, [4616189618054758400], ())]
theorem aw_check : checkR awR = 0 := by kernel_rfl
theorem aw_err : errR awR awS = 0 := by
  unfold errR
  rw [if_pos aw_check, if_pos]
  intro i s h
  match i, h with
  | 0, h =>
    have e : (⟨#[101]⟩, 4636737291354636288, [4621819117588971520, 4626322717216342016], ()) = s := Option.some.inj h
    have k : statOk awR awS 0 (⟨#[101]⟩, 4636737291354636288, [4621819117588971520, 4626322717216342016], ()) = true := by kernel_rfl
    exact e ▸ k
  | 1, h =>
    have e : (⟨#[110]⟩, 4616189618054758400, [4616189618054758400], ()) = s := Option.some.inj h
    have k : statOk awR awS 1 (⟨#[110]⟩, 4616189618054758400, [4616189618054758400], ()) = true := by kernel_rfl
    exact e ▸ k
  | n + 2, h => cases h
theorem aw_guess : guessE awR awS [0, 1] = (4647503709213818880, 0) := by
  unfold guessE
  have h : setOk awLs [0, 1] = some [true, true, false, false] := by
    unfold setOk
    have e : setW awLs.length [0, 1] = some [true, true, false, false] := by kernel_rfl
    rw [e]
    exact if_pos (stands_B.2 (by kernel_rfl))
  rw [if_pos aw_err, show awR.2.1 = awLs from rfl, h]
  have e : guessW awS awLs [true, true, false, false] = 4647503709213818880 := by kernel_rfl
  exact congrArg (fun x => (x, 0)) e
theorem aw_best : bestE awR awS = ([2, 0, 1, 3], 4646166703074443264, 0) := by
  refine bestE_some (p := ([2, 0, 1, 3], 4646166703074443264)) aw_err (by decide) ?_
  rw [plan_B]
  kernel_rfl
theorem aw_greedy : ∃ x, greedyE awR awS = ([2, 0, 1, 3], x, 0) := by
  refine ⟨(greedG awS awR.2.1 awR.2.1.length).2.1, (greedyE_ok aw_err).trans ?_⟩
  have e : (greedG awS awR.2.1 awR.2.1.length).1 = [2, 0, 1, 3] := by
    rw [greedG_B]
    kernel_rfl
  rw [e]
end Go.Proofs.YtomeebimmmfmbaaGreat

/- The law of costs: its arguments as they come in. -/
namespace Go.Proofs.YtomeebimmmfmbaaGreat
open Go.RowKit
set_option linter.unusedVariables false
abbrev KnownZ := ByteArray × Int × List Int × Unit
noncomputable def shWord : Shp Tryz.prog Int := shInt 30 .u64 Tryz.underlying30 (by kernel_rfl)
noncomputable def shWords : Shp Tryz.prog (List Int) := shSlice 101 shWord Tryz.underlying101 (by kernel_rfl) (by decide)
noncomputable def shKnown : Shp Tryz.prog KnownZ := shStruct 103 (fdCons (shStr 9 Tryz.underlying9 (by kernel_rfl)) (fdCons shWord (fdCons shWords fdNil))) (fs := _) Tryz.underlying103 ⟨_, _, rfl, rfl, rfl, _, _, rfl, rfl, rfl, _, _, rfl, rfl, rfl, rfl⟩ (by kernel_rfl)
def natK (k : KnownZ) : StatZ := (k.1, k.2.1.toNat, k.2.2.1.map Int.toNat, ())
theorem wf_u64 {z : Int} (h : (Lit.int .u64 z).wf = true) : 0 ≤ z ∧ z < 18446744073709551616 := by
  have h' : (decide (IntKind.u64.min ≤ z) && decide (z ≤ IntKind.u64.max)) = true := h
  rw [Bool.and_eq_true, decide_eq_true_eq, decide_eq_true_eq] at h'
  have h1 : IntKind.u64.min = 0 := by decide
  have h2 : IntKind.u64.max = 18446744073709551615 := by decide
  rw [h1, h2] at h'
  omega
theorem word_cells {w : World} {G : Nat → Prop} {ao : Option Addr} {zs : List Int} (h : ElemsAt shWord w G ao zs) : CellsAt w ao (words (zs.map Int.toNat)) ∧ (∀ x ∈ zs.map Int.toNat, x < 18446744073709551616) ∧ (zs.map Int.toNat ≠ [] → ∀ a, ao = some a → G a.block) := by
  refine ⟨fun i u hu => ?_, fun x hx => ?_, fun hne a ha => ?_⟩
  · rw [words, List.getElem?_map, List.getElem?_map] at hu
    cases hz : zs[i]? with
    | none => rw [hz] at hu; cases hu
    | some z =>
      rw [hz] at hu; cases hu
      obtain ⟨b, off, es, e, _, _, ⟨ha, hw⟩, hc⟩ := h i z hz
      refine ⟨b, off, e, ?_⟩
      have h0 := hc 0 (.int .u64 z) (by rw [ha]; rfl)
      rw [show shWord.n = 1 from rfl, Nat.mul_one, Nat.add_zero] at h0
      rw [h0]
      show some (Value.int .u64 z) = some (.int .u64 ((z.toNat : Nat) : Int))
      rw [Int.toNat_of_nonneg (wf_u64 hw).1]
  · obtain ⟨z, hz, rfl⟩ := List.mem_map.1 hx
    obtain ⟨i, hi⟩ := List.mem_iff_getElem?.1 hz
    obtain ⟨b, off, es, e, _, _, ⟨ha, hw⟩, hc⟩ := h i z hi
    have := wf_u64 hw
    omega
  · cases zs with
    | nil => exact absurd rfl hne
    | cons z zs =>
      obtain ⟨b, off, es, e, hG, _⟩ := h 0 z rfl
      rw [e] at ha; cases ha; exact hG
theorem known_in {w : World} {G : Nat → Prop} {ao : Option Addr} {ks : List KnownZ} (h : ElemsAt shKnown w G ao ks) : KnownIn w G ao (ks.map natK) := fun i s hs => by
  rw [List.getElem?_map] at hs
  cases hk : ks[i]? with
  | none => rw [hk] at hs; cases hs
  | some k =>
    rw [hk] at hs; cases hs
    obtain ⟨b, off, es, e, hG, _, ⟨a1, b1, e1, ⟨e2, _⟩, a3, b3, e3, ⟨e4, hw⟩, a5, b5, e5, ⟨da, dcap, e6, h1, h2, h3⟩, e7⟩, hc⟩ := h i k hk
    have ees : es = [.string k.1, .int .u64 k.2.1, .slice da k.2.2.1.length dcap] := by
      have e7' : b5 = [] := e7
      rw [e1, e2, e3, e4, e5, e6, e7']; rfl
    rw [ees, show shKnown.n = 3 from rfl] at hc
    obtain ⟨w1, w2, w3⟩ := word_cells h3
    refine ⟨b, off, da, dcap, e, hG, w3, (show w.cell? ⟨b, off + i * 3, none⟩ = some (.string k.1) by simpa using hc 0 _ rfl), ?_, ?_, ?_, h2, w1⟩
    · rw [Nat.add_assoc]
      have h0 := hc 1 _ rfl
      rw [h0]
      show some (Value.int .u64 k.2.1) = some (.int .u64 ((k.2.1.toNat : Nat) : Int))
      rw [Int.toNat_of_nonneg (wf_u64 hw).1]
    · rw [Nat.add_assoc]
      have h0 := hc 2 _ rfl
      rw [h0]
      show some (Value.slice da k.2.2.1.length dcap) = some (.slice da (k.2.2.1.map Int.toNat).length dcap)
      rw [List.length_map]
    · show (k.2.2.1.map Int.toNat).length ≤ dcap
      rw [List.length_map]; exact h1
theorem known_fit {w : World} {G : Nat → Prop} {ao : Option Addr} {ks : List KnownZ} (h : ElemsAt shKnown w G ao ks) (hb : bulkL shKnown.bulk ks + 1 ≤ 1048576) : StatsFit (ks.map natK) := by
  have hall : ∀ k ∈ ks, k.2.2.1.length ≤ 1048576 ∧ k.2.1.toNat < 18446744073709551616 ∧ ∀ x ∈ k.2.2.1.map Int.toNat, x < 18446744073709551616 := fun k hk => by
    obtain ⟨i, hi⟩ := List.mem_iff_getElem?.1 hk
    obtain ⟨b, off, es, e, hG, _, ⟨a1, b1, e1, ⟨e2, _⟩, a3, b3, e3, ⟨e4, hw⟩, a5, b5, e5, ⟨da, dcap, e6, h1, h2, h3⟩, e7⟩, hc⟩ := h i k hi
    have hbk := bulkL_mem shKnown.bulk hk
    have hbk' : shKnown.bulk k = ((k.1.size + 1) + (1 + ((bulkL shWord.bulk k.2.2.1 + 1) + 0))) + 1 := rfl
    have hlen := bulkL_len shWord.bulk (fun _ => Nat.le_refl 1) k.2.2.1
    have hwf := wf_u64 hw
    exact ⟨by omega, by omega, (word_cells h3).2.1⟩
  have hlen := bulkL_len shKnown.bulk (fun k => by show 1 ≤ _ + 1; omega) ks
  refine ⟨by rw [List.length_map]; omega, fun s hs => ?_, fun s hs => ?_, fun s hs => ?_⟩
  all_goals obtain ⟨k, hk, rfl⟩ := List.mem_map.1 hs
  · show (k.2.2.1.map Int.toNat).length ≤ _
    rw [List.length_map]; exact (hall k hk).1
  · exact (hall k hk).2.1
  · exact (hall k hk).2.2
theorem rule_fit {r : RuleZ} (hb : shRule.bulk r ≤ 1048576) : r.1.2.1.length ≤ 1048576 ∧ Fit r.2.1 := by
  have e : shRule.bulk r = (shAtom.bulk r.1 + ((bulkL shLit.bulk r.2.1 + 1) + 0)) + 1 := rfl
  have ea : ∀ a : AtomZ, shAtom.bulk a = ((a.1.size + 1) + ((bulkL shTerm.bulk a.2.1 + 1) + 0)) + 1 := fun _ => rfl
  have el : ∀ l : LitZ, shLit.bulk l = (1 + (shAtom.bulk l.2.1 + (1 + (shTerm.bulk l.2.2.2.1 + (shTerm.bulk l.2.2.2.2.1 + 0))))) + 1 := fun _ => rfl
  have et : ∀ ts : List TermZ, ts.length ≤ bulkL shTerm.bulk ts := fun ts => bulkL_len shTerm.bulk (fun t => by show 1 ≤ _ + 1; omega) ts
  have h1 := ea r.1
  have h2 := et r.1.2.1
  have h3 := bulkL_len shLit.bulk (fun l => by show 1 ≤ _ + 1; omega) r.2.1
  refine ⟨by omega, by omega, fun l hl => ?_⟩
  have h4 := bulkL_mem shLit.bulk hl
  have h5 := el l
  have h6 := ea l.2.1
  have h7 := et (termsOf l)
  have h8 : bulkL shTerm.bulk (termsOf l) = bulkL shTerm.bulk l.2.1.2.1 := rfl
  omega
end Go.Proofs.YtomeebimmmfmbaaGreat

/- The law of costs: awake: the chapter's example. -/
namespace Go.Proofs.YtomeebimmmfmbaaGreat
open Go.RowKit
set_option linter.unusedVariables false
attribute [local go_sem] run_store_float
theorem aw_lits : ∀ l ∈ awLs, LitAll l := by
  intro l hl
  have hv : ∀ s : ByteArray, s.size ≤ maxLen → TermFit (1, s, ()) := fun s hs => ⟨(by decide : (Lit.int .i64 1).wf = true), hs⟩
  have h0 : TermFit awNo := ⟨(by decide : (Lit.int .i64 0).wf = true), (by decide : (⟨#[]⟩ : ByteArray).size ≤ maxLen)⟩
  have hx : TermFit awX := hv _ (by decide)
  have hy : TermFit awY := hv _ (by decide)
  have hz : TermFit awZ := hv _ (by decide)
  simp only [awLs, List.mem_cons, List.not_mem_nil, or_false] at hl
  rcases hl with rfl | rfl | rfl | rfl
  · refine ⟨(by decide : (Lit.int .i64 1).wf = true), (by decide : (⟨#[101]⟩ : ByteArray).size ≤ maxLen), fun t ht => ?_, (by decide : (Lit.int .i64 0).wf = true), h0, h0⟩
    have ht' : t ∈ [awX, awY] := ht
    simp only [List.mem_cons, List.not_mem_nil, or_false] at ht'
    rcases ht' with rfl | rfl <;> assumption
  · refine ⟨(by decide : (Lit.int .i64 1).wf = true), (by decide : (⟨#[101]⟩ : ByteArray).size ≤ maxLen), fun t ht => ?_, (by decide : (Lit.int .i64 0).wf = true), h0, h0⟩
    have ht' : t ∈ [awY, awZ] := ht
    simp only [List.mem_cons, List.not_mem_nil, or_false] at ht'
    rcases ht' with rfl | rfl <;> assumption
  · refine ⟨(by decide : (Lit.int .i64 1).wf = true), (by decide : (⟨#[110]⟩ : ByteArray).size ≤ maxLen), fun t ht => ?_, (by decide : (Lit.int .i64 0).wf = true), h0, h0⟩
    have ht' : t ∈ [awX] := ht
    simp only [List.mem_cons, List.not_mem_nil, or_false] at ht'
    rcases ht' with rfl; assumption
  · refine ⟨(by decide : (Lit.int .i64 3).wf = true), (by decide : (⟨#[]⟩ : ByteArray).size ≤ maxLen), fun t ht => ?_, (by decide : (Lit.int .i64 2).wf = true), hx, hz⟩
    have ht' : t ∈ ([] : List TermZ) := ht
    simp at ht'
theorem aw_names {ns : List ByteArray} (h : ns.all (fun s => decide (s.size ≤ 3)) = true) : ∀ s ∈ ns, s.size ≤ maxLen := fun s hs => by
  have h1 := List.all_eq_true.1 h s hs
  rw [decide_eq_true_eq] at h1
  unfold maxLen; omega
theorem aw_stats {w : World} {g d1 d2 c1 c2 : Nat} {e1 e2 e3 : TypeId} (h1 : Blk w d1 (flts [4621819117588971520, 4626322717216342016]) e1) (h2 : Blk w d2 (flts [4616189618054758400]) e2) (hc1 : 2 ≤ c1) (hm1 : c1 ≤ maxLen) (hc2 : 1 ≤ c2) (hm2 : c2 ≤ maxLen)
    (hB : Blk w g [.string ⟨#[101]⟩, .float .f64 4636737291354636288, .slice (some ⟨d1, 0, none⟩) 2 c1, .string ⟨#[110]⟩, .float .f64 4616189618054758400, .slice (some ⟨d2, 0, none⟩) 1 c2] e3) : StatsAt w (some ⟨g, 0, none⟩) awS := by
  intro i s hs
  match i, hs with
  | 0, h =>
    have e : (⟨#[101]⟩, 4636737291354636288, [4621819117588971520, 4626322717216342016], ()) = s := Option.some.inj h
    subst e
    exact ⟨g, 0, some ⟨d1, 0, none⟩, c1, rfl, by rw [hB.cell']; rfl, by rw [hB.cell']; rfl, by rw [hB.cell']; rfl, hc1, hm1, CellsAt.pre (rest := []) (by rw [List.append_nil]; exact h1)⟩
  | 1, h =>
    have e : (⟨#[110]⟩, 4616189618054758400, [4616189618054758400], ()) = s := Option.some.inj h
    subst e
    exact ⟨g, 0, some ⟨d2, 0, none⟩, c2, rfl, by rw [hB.cell']; rfl, by rw [hB.cell']; rfl, by rw [hB.cell']; rfl, hc2, hm2, CellsAt.pre (rest := []) (by rw [List.append_nil]; exact h2)⟩
  | n + 2, h => cases h
theorem aw_fit : Fit awLs := ⟨by decide, fun l hl => by
  simp only [awLs, List.mem_cons, List.not_mem_nil, or_false] at hl
  rcases hl with rfl | rfl | rfl | rfl <;> decide⟩
theorem aw_sfit : StatsFit awS where
  len := by decide
  dist := fun s hs => by
    simp only [awS, List.mem_cons, List.not_mem_nil, or_false] at hs
    rcases hs with rfl | rfl <;> decide
  rows := fun s hs => by
    simp only [awS, List.mem_cons, List.not_mem_nil, or_false] at hs
    rcases hs with rfl | rfl <;> decide
  words := fun s hs x hx => by
    simp only [awS, List.mem_cons, List.not_mem_nil, or_false] at hs
    rcases hs with rfl | rfl
    · simp only [List.mem_cons, List.not_mem_nil, or_false] at hx
      rcases hx with rfl | rfl <;> decide
    · simp only [List.mem_cons, List.not_mem_nil, or_false] at hx
      rcases hx with rfl; decide
set_option maxRecDepth 100000 in
set_option maxHeartbeats 4000000 in
theorem awake_any (w : World) : Calls Tryz.prog 15 #[] w (RetN w fun w' v => v = .bool true) := by
  go_enter Tryz.func15, Tryz.ntmps15
  go_wp2_with fail
  refine (v_any ⟨#[88]⟩ _).mono ?_
  rintro e w1 ⟨v, rfl, hk1, rfl⟩
  go_wp2_with fail
  refine (v_any ⟨#[90]⟩ _).mono ?_
  rintro e w2 ⟨v, rfl, hk2, rfl⟩
  have X2 := Lib.hid (hk1.trans hk2)
  clear hk1 hk2
  obtain ⟨wa, ea⟩ : ∃ x, w2.alloc (.cells #[.int .i64 1, .string ⟨#[88]⟩, .int .i64 1, .string ⟨#[90]⟩] 94) = x := ⟨_, rfl⟩
  have HA := Lib.hid (show Blk wa w2.heap.size (tcells awHs) 94 by rw [← ea]; exact Blk.new w2 (tcells awHs) _)
  have XA := Lib.hid (show Ext w2 wa by rw [← ea]; exact (Kp.refl w2).alloc _)
  obtain ⟨w3, e3⟩ : ∃ x, wa.alloc (.cells #[.string ⟨#[88]⟩, .string ⟨#[89]⟩] 9) = x := ⟨_, rfl⟩
  have HS3 := Lib.hid (show CellsAt w3 (some ⟨wa.heap.size, 0, none⟩) (strs [⟨#[88]⟩, ⟨#[89]⟩]) by rw [← e3]; exact CellsAt.new wa (strs [⟨#[88]⟩, ⟨#[89]⟩]) _)
  have X3 := Lib.hid (show Ext wa w3 by rw [← e3]; exact (Kp.refl wa).alloc _)
  go_wp2_with fail
  refine (atom_any ⟨#[101]⟩ [⟨#[88]⟩, ⟨#[89]⟩] _ 2 2 w3 rfl HS3.out (by decide) (aw_names (by kernel_rfl))).mono ?_
  rintro e w4 ⟨v, rfl, hk4, a1, c1, hv, ht1, hc1, hm1⟩
  have hv' : v = .agg #[.int .i64 1, .string ⟨#[101]⟩, .slice a1 2 c1, .int .i64 0, .int .i64 0, .string ⟨#[]⟩, .int .i64 0, .string ⟨#[]⟩] := hv
  subst hv'
  have HT1 := Lib.hid (show TermsAt w4 (New w) a1 (termsOf awE1) from ht1.mono fun g hg => by have := (X2.out.trans (XA.out.trans X3.out)).size; exact Nat.le_trans this hg)
  have HB4 := Lib.hid ((HA.out.ext X3.out).ext hk4)
  have X4 := Lib.hid ((X2.out.trans (XA.out.trans X3.out)).trans hk4)
  have EG := Lib.hid (show w.heap.size ≤ w2.heap.size from X2.out.size)
  clear hv ht1 hk4 ea e3 HA HS3 X3 XA
  obtain ⟨gh, egh⟩ : ∃ g, w2.heap.size = g := ⟨_, rfl⟩
  rw [egh] at HB4 EG ⊢
  clear egh X2
  obtain ⟨w5, e5⟩ : ∃ x, w4.alloc (.cells #[.string ⟨#[89]⟩, .string ⟨#[90]⟩] 9) = x := ⟨_, rfl⟩
  have HS5 := Lib.hid (show CellsAt w5 (some ⟨w4.heap.size, 0, none⟩) (strs [⟨#[89]⟩, ⟨#[90]⟩]) by rw [← e5]; exact CellsAt.new w4 (strs [⟨#[89]⟩, ⟨#[90]⟩]) _)
  have X5 := Lib.hid (show Ext w4 w5 by rw [← e5]; exact (Kp.refl w4).alloc _)
  go_wp2_with fail
  refine (atom_any ⟨#[101]⟩ [⟨#[89]⟩, ⟨#[90]⟩] _ 2 2 w5 rfl HS5.out (by decide) (aw_names (by kernel_rfl))).mono ?_
  rintro e w6 ⟨v, rfl, hk6, a2, c2, hv, ht2, hc2, hm2⟩
  have hv' : v = .agg #[.int .i64 1, .string ⟨#[101]⟩, .slice a2 2 c2, .int .i64 0, .int .i64 0, .string ⟨#[]⟩, .int .i64 0, .string ⟨#[]⟩] := hv
  subst hv'
  have X46 := Lib.hid (X5.out.trans hk6)
  have HT2 := Lib.hid (show TermsAt w6 (New w) a2 (termsOf awE2) from ht2.mono fun g hg => by have := (X4.out.trans X5.out).size; exact Nat.le_trans this hg)
  have HT12 := Lib.hid (HT1.out.ext X46.out)
  have HB6 := Lib.hid (HB4.out.ext X46.out)
  have X6 := Lib.hid (X4.out.trans X46.out)
  clear hv ht2 hk6 e5 HS5 X5 X46 X4 HT1 HB4
  obtain ⟨w7, e7⟩ : ∃ x, w6.alloc (.cells #[.string ⟨#[88]⟩] 9) = x := ⟨_, rfl⟩
  have HS7 := Lib.hid (show CellsAt w7 (some ⟨w6.heap.size, 0, none⟩) (strs [⟨#[88]⟩]) by rw [← e7]; exact CellsAt.new w6 (strs [⟨#[88]⟩]) _)
  have X7 := Lib.hid (show Ext w6 w7 by rw [← e7]; exact (Kp.refl w6).alloc _)
  go_wp2_with fail
  refine (atom_any ⟨#[110]⟩ [⟨#[88]⟩] _ 1 1 w7 rfl HS7.out (by decide) (aw_names (by kernel_rfl))).mono ?_
  rintro e w8 ⟨v, rfl, hk8, a3, c3, hv, ht3, hc3, hm3⟩
  have hv' : v = .agg #[.int .i64 1, .string ⟨#[110]⟩, .slice a3 1 c3, .int .i64 0, .int .i64 0, .string ⟨#[]⟩, .int .i64 0, .string ⟨#[]⟩] := hv
  subst hv'
  have HT3 := Lib.hid (show TermsAt w8 (New w) a3 (termsOf awN) from ht3.mono fun g hg => by have := (X6.out.trans X7.out).size; exact Nat.le_trans this hg)
  have X78 := Lib.hid (X7.out.trans hk8)
  have X8 := Lib.hid (X6.out.trans X78.out)
  clear hv ht3 hk8 e7 HS7 X7
  go_wp2_with fail
  refine (v_any ⟨#[88]⟩ _).mono ?_
  rintro e w9 ⟨v, rfl, hk9, rfl⟩
  go_wp2_with fail
  refine (v_any ⟨#[90]⟩ _).mono ?_
  rintro e wt ⟨v, rfl, hkt, rfl⟩
  have X8t := Lib.hid (hk9.trans hkt)
  have X6t := Lib.hid (X78.out.trans X8t.out)
  have HC := Lib.hid (And.intro (HT12.out.ext X6t.out) (And.intro (HT2.out.ext X6t.out) (And.intro (HT3.out.ext X8t.out) (HB6.out.ext X6t.out))))
  have HCap := Lib.hid (And.intro hc1 (And.intro hm1 (And.intro hc2 (And.intro hm2 (And.intro hc3 hm3)))))
  have XT := Lib.hid (X8.out.trans X8t.out)
  clear hk9 hkt X8t X6t X8 X78 X6 HT12 HT2 HT3 HB6 hc1 hm1 hc2 hm2 hc3 hm3
  obtain ⟨W1, e1⟩ : ∃ x, wt.alloc (.cells #[.int .i64 1, .string ⟨#[101]⟩, .slice a1 2 c1, .int .i64 0, .int .i64 0, .string ⟨#[]⟩, .int .i64 0, .string ⟨#[]⟩, .int .i64 1, .string ⟨#[101]⟩, .slice a2 2 c2, .int .i64 0, .int .i64 0, .string ⟨#[]⟩, .int .i64 0, .string ⟨#[]⟩, .int .i64 1, .string ⟨#[110]⟩, .slice a3 1 c3, .int .i64 0, .int .i64 0, .string ⟨#[]⟩, .int .i64 0, .string ⟨#[]⟩, .int .i64 3, .string ⟨#[]⟩, .slice none 0 0, .int .i64 2, .int .i64 1, .string ⟨#[88]⟩, .int .i64 1, .string ⟨#[90]⟩] 97) = x := ⟨_, rfl⟩
  have B1 := Lib.hid (show Blk W1 wt.heap.size ((awLs.zip [(a1, c1), (a2, c2), (a3, c3), (none, 0)]).flatMap litC) 97 by rw [← e1]; exact Blk.new wt ((awLs.zip [(a1, c1), (a2, c2), (a3, c3), (none, 0)]).flatMap litC) _)
  have Y1 := Lib.hid (show Ext wt W1 by rw [← e1]; exact (Kp.refl wt).alloc _)
  obtain ⟨W2, e2⟩ : ∃ x, W1.alloc (.cells #[.string ⟨#[116]⟩, .slice (some ⟨gh, 0, none⟩) 2 2, .slice (some ⟨wt.heap.size, 0, none⟩) 4 4] 28) = x := ⟨_, rfl⟩
  have B2 := Lib.hid (show Blk W2 W1.heap.size [.string ⟨#[116]⟩, .slice (some ⟨gh, 0, none⟩) 2 2, .slice (some ⟨wt.heap.size, 0, none⟩) 4 4] 28 by rw [← e2]; exact Blk.new W1 _ _)
  have Y2 := Lib.hid (show Ext W1 W2 by rw [← e2]; exact (Kp.refl W1).alloc _)
  obtain ⟨W3, e3⟩ : ∃ x, W2.alloc (.cells #[.float .f64 4621819117588971520, .float .f64 4626322717216342016] 45) = x := ⟨_, rfl⟩
  have B3 := Lib.hid (show Blk W3 W2.heap.size (flts [4621819117588971520, 4626322717216342016]) 45 by rw [← e3]; exact Blk.new W2 _ _)
  have Y3 := Lib.hid (show Ext W2 W3 by rw [← e3]; exact (Kp.refl W2).alloc _)
  obtain ⟨W4, e4⟩ : ∃ x, W3.alloc (.cells #[.float .f64 4616189618054758400] 45) = x := ⟨_, rfl⟩
  have B4 := Lib.hid (show Blk W4 W3.heap.size (flts [4616189618054758400]) 45 by rw [← e4]; exact Blk.new W3 _ _)
  have Y4 := Lib.hid (show Ext W3 W4 by rw [← e4]; exact (Kp.refl W3).alloc _)
  obtain ⟨W5, e5⟩ : ∃ x, W4.alloc (.cells #[.string ⟨#[101]⟩, .float .f64 4636737291354636288, .slice (some ⟨W2.heap.size, 0, none⟩) 2 2, .string ⟨#[110]⟩, .float .f64 4616189618054758400, .slice (some ⟨W3.heap.size, 0, none⟩) 1 1] 48) = x := ⟨_, rfl⟩
  have B5 := Lib.hid (show Blk W5 W4.heap.size [.string ⟨#[101]⟩, .float .f64 4636737291354636288, .slice (some ⟨W2.heap.size, 0, none⟩) 2 2, .string ⟨#[110]⟩, .float .f64 4616189618054758400, .slice (some ⟨W3.heap.size, 0, none⟩) 1 1] 48 by rw [← e5]; exact Blk.new W4 _ _)
  have Y5 := Lib.hid (show Ext W4 W5 by rw [← e5]; exact (Kp.refl W4).alloc _)
  obtain ⟨W6, e6⟩ : ∃ x, W5.alloc (.cells #[.int .i64 0, .int .i64 1] 3) = x := ⟨_, rfl⟩
  have B6 := Lib.hid (show CellsAt W6 (some ⟨W5.heap.size, 0, none⟩) (ints [0, 1]) by rw [← e6]; exact CellsAt.new W5 (ints [0, 1]) _)
  have Y6 := Lib.hid (show Ext W5 W6 by rw [← e6]; exact (Kp.refl W5).alloc _)
  have r0 : W5.cell? ⟨W1.heap.size, 0, none⟩ = some (.string ⟨#[116]⟩) := by rw [(B2.out.ext (Y3.out.trans (Y4.out.trans Y5.out))).cell']; rfl
  have r1 : W5.cell? ⟨W1.heap.size, 1, none⟩ = some (.slice (some ⟨gh, 0, none⟩) 2 2) := by rw [(B2.out.ext (Y3.out.trans (Y4.out.trans Y5.out))).cell']; rfl
  have r2 : W5.cell? ⟨W1.heap.size, 2, none⟩ = some (.slice (some ⟨wt.heap.size, 0, none⟩) 4 4) := by rw [(B2.out.ext (Y3.out.trans (Y4.out.trans Y5.out))).cell']; rfl
  go_wp2_with fail
  have Y15 := Lib.hid (Y2.out.trans (Y3.out.trans (Y4.out.trans Y5.out)))
  have hHs : TermsAt W5 (New w) (some ⟨gh, 0, none⟩) awHs := elems_of (s := shTerm) (f := termC) (rest := []) (fun x => rfl) (fun i x hi => by
    have hx : x ∈ awHs := List.mem_of_getElem? hi
    simp only [awHs, List.mem_cons, List.not_mem_nil, or_false] at hx
    refine term_mk ?_
    rcases hx with rfl | rfl <;> exact ⟨(by decide : (Lit.int .i64 1).wf = true), by decide⟩) EG.out (by rw [List.append_nil]; exact (HC.out.2.2.2.ext Y1.out).ext Y15.out)
  have hLs : LitsAt W5 (New w) (some ⟨wt.heap.size, 0, none⟩) awLs := lits_cells (vs := [(a1, c1), (a2, c2), (a3, c3), (none, 0)]) (rest := []) rfl aw_lits (fun x hx => by
    have hx' : x ∈ [(awE1, (a1, c1)), (awE2, (a2, c2)), (awN, (a3, c3)), (awC, ((none : Option Addr), 0))] := hx
    have Z := Y1.out.trans Y15.out
    simp only [List.mem_cons, List.not_mem_nil, or_false] at hx'
    rcases hx' with rfl | rfl | rfl | rfl
    · exact ⟨HC.out.1.ext Z, HCap.out.1, HCap.out.2.1⟩
    · exact ⟨HC.out.2.1.ext Z, HCap.out.2.2.1, HCap.out.2.2.2.1⟩
    · exact ⟨HC.out.2.2.1.ext Z, HCap.out.2.2.2.2.1, HCap.out.2.2.2.2.2⟩
    · exact ⟨fun i t ht => by have h : ([] : List TermZ)[i]? = some t := ht; simp at h, Nat.le_refl _, Nat.zero_le _⟩) XT.out.size (by rw [List.append_nil]; exact B1.out.ext Y15.out)
  have hSs : StatsAt W5 (some ⟨W4.heap.size, 0, none⟩) awS := aw_stats (B3.out.ext (Y4.out.trans Y5.out)) (B4.out.ext Y5.out) (Nat.le_refl _) (by decide) (Nat.le_refl _) (by decide) B5.out
  have HAll := Lib.hid (And.intro hHs (And.intro hLs hSs))
  have HRb := Lib.hid (B2.out.ext (Y3.out.trans (Y4.out.trans Y5.out)))
  have XW := Lib.hid (XT.out.trans (Y1.out.trans Y15.out))
  clear hHs hLs hSs B1 B2 B3 B4 B5 Y1 Y2 Y3 Y4 Y5 Y15 XT HC HCap EG e1 e2 e3 e4 e5 r0 r1 r2
  have hg := guessE_any ⟨#[116]⟩ awHs awLs (some ⟨gh, 0, none⟩) 2 2 (some ⟨wt.heap.size, 0, none⟩) 4 4 [0, 1] (some ⟨W5.heap.size, 0, none⟩) 2 2 awS (some ⟨W4.heap.size, 0, none⟩) 2 2 W6 (New w) rfl (HAll.out.1.ext Y6.out) (by decide) rfl (HAll.out.2.1.ext Y6.out) aw_fit rfl B6.out (by decide) rfl (by decide) (HAll.out.2.2.ext Y6.out) aw_sfit
  rw [show guessE ((⟨#[116]⟩, awHs, ()), awLs, ()) awS [0, 1] = (4647503709213818880, 0) from aw_guess] at hg
  refine hg.mono ?_
  rintro e wg ⟨v, rfl, hkg, rfl⟩
  have XG := Lib.hid (Y6.out.trans hkg)
  have HR := Lib.hid (HRb.out.ext XG.out)
  have r0 : wg.cell? ⟨W1.heap.size, 0, none⟩ = some (.string ⟨#[116]⟩) := by rw [HR.out.cell']; rfl
  have r1 : wg.cell? ⟨W1.heap.size, 1, none⟩ = some (.slice (some ⟨gh, 0, none⟩) 2 2) := by rw [HR.out.cell']; rfl
  have r2 : wg.cell? ⟨W1.heap.size, 2, none⟩ = some (.slice (some ⟨wt.heap.size, 0, none⟩) 4 4) := by rw [HR.out.cell']; rfl
  clear hg hkg e6 B6 Y6 HRb
  go_wp2_with fail
  have hb := best_any ⟨#[116]⟩ awHs awLs (some ⟨gh, 0, none⟩) 2 2 (some ⟨wt.heap.size, 0, none⟩) 4 4 awS (some ⟨W4.heap.size, 0, none⟩) 2 2 wg (New w) rfl (HAll.out.1.ext XG.out) (by decide) rfl (HAll.out.2.1.ext XG.out) aw_fit rfl (by decide) (HAll.out.2.2.ext XG.out) aw_sfit
  rw [show bestE ((⟨#[116]⟩, awHs, ()), awLs, ()) awS = ([2, 0, 1, 3], 4646166703074443264, 0) from aw_best] at hb
  refine hb.mono ?_
  rintro e wh ⟨v, rfl, hkh, la, lc, hv, hl1, hl2, hl3⟩
  have hv' : v = .tuple #[.slice la 4 lc, .float .f64 4646166703074443264, .int .i64 0] := hv
  subst hv'
  have XH := Lib.hid (XG.out.trans hkh)
  have HL := Lib.hid (show CellsAt wh la (ints [2, 0, 1, 3]) from hl1)
  have HR2 := Lib.hid (HR.out.ext hkh)
  clear hb hv hl1 hl2 hl3 hkh r0 r1 r2 HR XG
  have r0 : wh.cell? ⟨W1.heap.size, 0, none⟩ = some (.string ⟨#[116]⟩) := by rw [HR2.out.cell']; rfl
  have r1 : wh.cell? ⟨W1.heap.size, 1, none⟩ = some (.slice (some ⟨gh, 0, none⟩) 2 2) := by rw [HR2.out.cell']; rfl
  have r2 : wh.cell? ⟨W1.heap.size, 2, none⟩ = some (.slice (some ⟨wt.heap.size, 0, none⟩) 4 4) := by rw [HR2.out.cell']; rfl
  go_wp2_with fail
  have hb := greedy_any ⟨#[116]⟩ awHs awLs (some ⟨gh, 0, none⟩) 2 2 (some ⟨wt.heap.size, 0, none⟩) 4 4 awS (some ⟨W4.heap.size, 0, none⟩) 2 2 wh (New w) rfl (HAll.out.1.ext XH.out) (by decide) rfl (HAll.out.2.1.ext XH.out) aw_fit rfl (by decide) (HAll.out.2.2.ext XH.out) aw_sfit
  obtain ⟨gx, hgx⟩ := aw_greedy
  rw [show greedyE ((⟨#[116]⟩, awHs, ()), awLs, ()) awS = ([2, 0, 1, 3], gx, 0) from hgx] at hb
  refine hb.mono ?_
  rintro e wi ⟨v, rfl, hki, ma, mc, hv, hm1, hm2, hm3⟩
  have hv' : v = .tuple #[.slice ma 4 mc, .float .f64 gx, .int .i64 0] := hv
  subst hv'
  have XI := Lib.hid (XH.out.trans hki)
  have HL2 := Lib.hid (HL.out.ext hki)
  have HM := Lib.hid (show CellsAt wi ma (ints [2, 0, 1, 3]) from hm1)
  clear hb hv hm1 hm2 hm3 hki r0 r1 r2 HR2 XH HL hgx HAll
  have q1 : ((FloatKind.format .f64).order 4647503709213818880 4647503709213818880 == some .eq) = true := by decide
  have q2 : ((FloatKind.format .f64).order 4646166703074443264 4646166703074443264 == some .eq) = true := by decide
  obtain ⟨wj, ej⟩ : ∃ x, wi.alloc (.cells #[.int .i64 2, .int .i64 0, .int .i64 1, .int .i64 3] 3) = x := ⟨_, rfl⟩
  have HJ := Lib.hid (show CellsAt wj (some ⟨wi.heap.size, 0, none⟩) (ints [2, 0, 1, 3]) by rw [← ej]; exact CellsAt.new wi (ints [2, 0, 1, 3]) _)
  have XJ := Lib.hid (show Ext wi wj by rw [← ej]; exact (Kp.refl wi).alloc _)
  go_wp2_with fail
  refine (ints_any [2, 0, 1, 3] la _ 4 lc 4 wj rfl (HL2.out.ext XJ.out) HJ.out (by decide)).mono ?_
  rintro e wk ⟨v, rfl, hkk, rfl⟩
  have XK := Lib.hid (XJ.out.trans hkk)
  clear hkk ej HJ XJ q1 q2
  go_wp2_with fail
  refine (ints_any [2, 0, 1, 3] ma la 4 mc lc wk rfl (HM.out.ext XK.out) (HL2.out.ext XK.out) (by decide)).mono ?_
  rintro e wl ⟨v, rfl, hkl, rfl⟩
  have XL := Lib.hid (XW.out.trans (XI.out.trans (XK.out.trans hkl)))
  clear hkl
  go_wp2
  go_ret
  exact RetN.mk XL.out rfl
end Go.Proofs.YtomeebimmmfmbaaGreat

/- slices at []string: swapRangeCmpFunc and rotateCmpFunc: what they do to a row of cells. -/
namespace Go.Proofs.YtomeebimmmfmbaaGreat
open Go.RowKit
set_option linter.unusedVariables false
end Go.Proofs.YtomeebimmmfmbaaGreat

/- slices.insertionSortCmpFunc at []string. -/
namespace Go.Proofs.YtomeebimmmfmbaaGreat
open Go.RowKit
set_option linter.unusedVariables false
end Go.Proofs.YtomeebimmmfmbaaGreat

/- slices.symMergeCmpFunc at []string, the right part of one element. -/
namespace Go.Proofs.YtomeebimmmfmbaaGreat
open Go.RowKit
set_option linter.unusedVariables false
end Go.Proofs.YtomeebimmmfmbaaGreat

/- slices.symMergeCmpFunc at []string. -/
namespace Go.Proofs.YtomeebimmmfmbaaGreat
open Go.RowKit
set_option linter.unusedVariables false
end Go.Proofs.YtomeebimmmfmbaaGreat

/- slices.symMergeCmpFunc at []string, the great case. -/
namespace Go.Proofs.YtomeebimmmfmbaaGreat
open Go.RowKit
set_option linter.unusedVariables false
end Go.Proofs.YtomeebimmmfmbaaGreat

/- slices.stableCmpFunc and slices.SortStableFunc at []string. -/
namespace Go.Proofs.YtomeebimmmfmbaaGreat
open Go.RowKit
set_option linter.unusedVariables false
end Go.Proofs.YtomeebimmmfmbaaGreat

/- slices.BinarySearchFunc at []string, slices.Clone, slices.EqualFunc. -/
namespace Go.Proofs.YtomeebimmmfmbaaGreat
open Go.RowKit
set_option linter.unusedVariables false
theorem elemRow : ElemT Tryz.prog 69 76 1 24 (.slice none 0 0) := ⟨by kernel_rfl, by kernel_rfl, rfl, by decide⟩
def CmpToRow (P : Program) (f : FuncId) (first captured : Array Value) (w0 : World) (vs : List Value) (t : Value) (c : Nat → Int) : Prop :=
  (∀ args w, (callFunc f args).run P w = .ok (Next.enter f args) w) ∧ ∀ w, Ext w0 w → ∀ i v, vs[i]? = some v → Calls P f (first ++ (#[v, t] ++ captured)) w fun e w' => e = .returned (.int .i64 (c i)) ∧ Ext w w'
def BinAtRow (n : Nat) (c : Nat → Int) (w0 : World) (iv jv : Value) (w : World) : Prop :=
  ∃ i j : Nat, i ≤ j ∧ j ≤ n ∧ iv = .int .i64 i ∧ jv = .int .i64 j ∧ (i = 0 ∨ c (i - 1) < 0) ∧ (j = n ∨ 0 ≤ c j) ∧ Ext w0 w
set_option maxRecDepth 100000 in
set_option maxHeartbeats 2000000 in
theorem binSearchRow_any (zs : List (Option Addr × Nat × Nat)) (z : Nat → Option Addr × Nat × Nat) (ao : Option Addr) (cap : Nat) (t : Value) (f : FuncId) (first captured : Array Value) (c : Nat → Int) (w : World) (n : Nat)
    (hc : CellsAt w ao ((List.range n).map fun i => (Value.slice (z (i)).1 (z (i)).2.1 (z (i)).2.2))) (hcmp : CmpToRow Tryz.prog f first captured w ((List.range n).map fun i => (Value.slice (z (i)).1 (z (i)).2.1 (z (i)).2.2)) t c) (hm : n ≤ 4611686018427387904) :
    Calls Tryz.prog 165 #[.slice ao n cap, t, .func (Fn.func f) first captured] w
      (RetF (fun _ => False) w fun w' v => ∃ i : Nat, i ≤ n ∧ (i = 0 ∨ c (i - 1) < 0) ∧ (i = n ∨ 0 ≤ c i) ∧ v = .tuple #[.int .i64 i, .bool (decide (i < n ∧ c i = 0))]) := by
  have hent := hcmp.1
  have HC := Lib.hid hcmp.2; clear hcmp
  have cell : ∀ W : World, Ext w W → ∀ i, i < n → ∃ b off, ao = some ⟨b, off, none⟩ ∧ W.cell? ⟨b, off + i, none⟩ = some ((Value.slice (z (i)).1 (z (i)).2.1 (z (i)).2.2)) := fun W hW i hi => by
    have := hc.ext hW
    exact this i _ (by simp [hi])
  have HCELL := Lib.hid cell; clear cell
  go_enter Tryz.func165, Tryz.ntmps165
  go_wp2
  go_loopw [9, 10] (BinAtRow n c w) (fun i j _ => (intOf j).toNat - (intOf i).toNat)
  case atStart => exact ⟨0, n, Nat.zero_le _, Nat.le_refl _, rfl, rfl, .inl rfl, .inl rfl, Kp.refl _⟩
  case round =>
    obtain ⟨i, j, hij, hj, rfl, rfl, hlo, hhi, hkp⟩ := hrel
    have HL := Lib.hid (And.intro hlo hhi); clear hlo hhi
    by_cases hlt : i < j
    · obtain ⟨h, eh⟩ : ∃ h, h = (i + j) / 2 := ⟨_, rfl⟩
      have rh : ((i : Int) + j) / 2 = (h : Int) := by omega
      have hhn : h < n := by omega
      have h1 : i ≤ h := by omega
      have h2 : h < j := by omega
      clear eh
      obtain ⟨b, off, rfl, c1⟩ := HCELL.out _ hkp h hhn
      have hcall := fun W hW => HC.out W hW h ((Value.slice (z (h)).1 (z (h)).2.1 (z (h)).2.2)) (by simp [hhn])
      have HCall := Lib.hid hcall; clear hcall
      generalize hcc : c h = cc at HCall
      have HCC := Lib.hid hcc; clear hcc
      by_cases hneg : cc < 0
      · go_wp2_with fail
        refine (HCall.out _ hkp).mono ?_
        rintro e w1 ⟨rfl, hk2⟩
        have hkp2 := hkp.ext hk2
        clear hk2 c1
        go_wp2
        go_roundw
        case rel => exact ⟨h + 1, j, by omega, hj, by first | rfl | (congr 1; done) | (congr 1; omega), rfl, .inr (by rw [Nat.add_sub_cancel, HCC.out]; omega), HL.out.2, hkp2⟩
        case measure => simp [intOf]; omega
      · go_wp2_with fail
        refine (HCall.out _ hkp).mono ?_
        rintro e w1 ⟨rfl, hk2⟩
        have hkp2 := hkp.ext hk2
        clear hk2 c1
        go_wp2
        go_roundw
        case rel => exact ⟨i, h, by omega, by omega, rfl, by first | rfl | (congr 1; done) | (congr 1; omega), HL.out.1, .inr (by rw [HCC.out]; omega), hkp2⟩
        case measure => simp [intOf]; omega
    · obtain rfl : i = j := by omega
      by_cases hin : i < n
      · obtain ⟨b, off, rfl, c1⟩ := HCELL.out _ hkp i hin
        have hcall := fun W hW => HC.out W hW i ((Value.slice (z (i)).1 (z (i)).2.1 (z (i)).2.2)) (by simp [hin])
        have HCall := Lib.hid hcall; clear hcall
        generalize hcc : c i = cc at HCall
        have HCC := Lib.hid hcc; clear hcc
        have key : decide (i < n ∧ c i = 0) = (cc == 0) := by rw [HCC.out]; simp [hin]; rfl
        have HK := Lib.hid key; clear key
        generalize hbb : (cc == 0) = bb at HK
        go_wp2_with fail
        refine (HCall.out _ hkp).mono ?_
        rintro e w1 ⟨rfl, hk2⟩
        have hkp2 := hkp.ext hk2
        clear hk2 c1
        go_wp2
        go_ret2
        exact RetF.mk hkp2 ⟨i, by omega, HL.out.1, HL.out.2, tup_ib HK.out⟩
      · have key : decide (i < n ∧ c i = 0) = false := by simp; omega
        have HK := Lib.hid key; clear key
        go_wp2
        go_ret2
        exact RetF.mk hkp ⟨i, by omega, HL.out.1, HL.out.2, tup_ib HK.out⟩
end Go.Proofs.YtomeebimmmfmbaaGreat

/- slices.CompactFunc at []string. -/
namespace Go.Proofs.YtomeebimmmfmbaaGreat
open Go.RowKit
set_option linter.unusedVariables false
end Go.Proofs.YtomeebimmmfmbaaGreat

/- slices.Clone, EqualFunc, Grow, Concat at []string. -/
namespace Go.Proofs.YtomeebimmmfmbaaGreat
open Go.RowKit
set_option linter.unusedVariables false
theorem cloneRow_any (vs : List Value) (ao : Option Addr) (cap : Nat) (w : World) (n : Nat) (hn : n = vs.length) (hc : CellsAt w ao vs) (h1 : ∀ u ∈ vs, u.oneCell' = true) (hm : n * 24 ≤ 140737488355328) :
    Calls Tryz.prog 174 #[.slice ao n cap] w (RetN w fun w' v => Row w' 76 1 v n vs (New w)) := by
  have hq : ∀ w : World, (binOp .eql 69 (.slice ao n cap) (.slice none 0 0)).run Tryz.prog w = .ok (.bool ao.isNone) w := fun w => Lib.run_eql_slice_nil w _ _ _ _ _ _ _ Tryz.underlying69
  have HNN := Lib.hid hn; clear hn
  have hl : n ≤ maxLen := by unfold maxLen; omega
  cases ao with
  | none =>
    have hv : vs = [] := by
      cases vs with
      | nil => rfl
      | cons x vs => obtain ⟨b, o, h, _⟩ := hc.off (by simp); cases h
    subst hv
    have h0 : n = 0 := HNN.out
    subst h0
    go_enter Tryz.func174, Tryz.ntmps174
    go_wp2
    go_ret
    exact RetN.mk (Kp.refl _) (Row.nil _ _ _ _)
  | some a =>
    go_enter Tryz.func174, Tryz.ntmps174
    go_wp2_with (first | (at_builtin; refine Halted.out ?_))
    refine Halted.mk (wp_appN elemRow rfl _ _ rfl ((Kp.refl (F := fun _ => False) w).alloc _) rfl (Row.empty w 76 1 (New w) (Nat.le_refl _)) rfl (hc.alloc _) (by rw [HNN.out, Nat.mul_one]) h1 (by omega) (by omega) ?_)
    intro v1 w1 hr1 hk1 _ _
    have HR := Lib.hid hr1; clear hr1
    go_wp2
    go_ret
    exact RetN.mk hk1 (by simpa using HR.out)
end Go.Proofs.YtomeebimmmfmbaaGreat

/- tuple.Set at []string: what a set is in memory; cmp, alike, Len, Items, find. -/
namespace Go.Proofs.YtomeebimmmfmbaaGreat
open Go.RowKit
set_option linter.unusedVariables false
def OrdVRow (P : Program) (S : Nat → Prop) (w0 : World) (ov : Value) (D : Option Addr × Nat × Nat → Prop) (c : Option Addr × Nat × Nat → Option Addr × Nat × Nat → Int) : Prop :=
  (ov = .nilFunc ∧ ∀ x y, D x → D y → c x y = 0) ∨ ∃ f first cap, ov = .func (Fn.func f) first cap ∧ (∀ args w, (callFunc f args).run P w = .ok (Next.enter f args) w) ∧
    ∀ w, Same S w0 w → ∀ x y, D x → D y → Calls P f (first ++ (#[(Value.slice (x).1 (x).2.1 (x).2.2), (Value.slice (y).1 (y).2.1 (y).2.2)] ++ cap)) w fun e w' => e = .returned (.int .i64 (c x y)) ∧ Ext w w'
theorem OrdVRow.same {P : Program} {S : Nat → Prop} {w0 w1 : World} {ov : Value} {D : Option Addr × Nat × Nat → Prop} {c : Option Addr × Nat × Nat → Option Addr × Nat × Nat → Int} (h : OrdVRow P S w0 ov D c) (hs : Same S w0 w1) : OrdVRow P S w1 ov D c := by
  rcases h with h | ⟨f, first, cap, e, he, h⟩
  · exact .inl h
  · exact .inr ⟨f, first, cap, e, he, fun w hw => h w (hs.trans hw)⟩
structure SetAtRow (P : Program) (S : Nat → Prop) (w : World) (b : Nat) (ov iv : Value) (tail : List Value) (te : TypeId) (D : Option Addr × Nat × Nat → Prop) (c : Option Addr × Nat × Nat → Option Addr × Nat × Nat → Int) (zs : List (Option Addr × Nat × Nat)) : Prop where
  blk : Blk w b (ov :: iv :: tail) te
  row : Row w 76 1 iv zs.length (zs.map fun x => (Value.slice (x).1 (x).2.1 (x).2.2)) (fun k => iv.ownBlock = some k)
  apart : iv.ownBlock ≠ some b
  inS : ∀ k, S k → k < w.heap.size
  notS : ∀ k, Owns b iv k → ¬ S k
  ord : OrdVRow P S w ov D c
  all : ∀ x ∈ zs, D x
  len : zs.length ≤ 1048576 * 1048576
section
variable {P : Program} {S : Nat → Prop} {w w' : World} {b : Nat} {ov iv : Value} {tail : List Value} {te : TypeId} {D : Option Addr × Nat × Nat → Prop} {c : Option Addr × Nat × Nat → Option Addr × Nat × Nat → Int} {zs : List (Option Addr × Nat × Nat)}
theorem SetAtRow.kp {F : Nat → Prop} (h : SetAtRow P S w b ov iv tail te D c zs) (hk : Kp F w w') (hF : ∀ k, F k → ¬ Owns b iv k) (hS : ∀ k, F k → ¬ S k) : SetAtRow P S w' b ov iv tail te D c zs :=
  ⟨h.blk.kp hk fun hf => hF _ hf (.inl rfl), h.row.kp hk fun g hg hf => hF _ hf (.inr hg), h.apart, fun k hk' => Nat.lt_of_lt_of_le (h.inS k hk') hk.size, h.notS, h.ord.same (hk.same h.inS fun k hk' hf => hS k hf hk'), h.all, h.len⟩
theorem SetAtRow.ext (h : SetAtRow P S w b ov iv tail te D c zs) (hk : Ext w w') : SetAtRow P S w' b ov iv tail te D c zs := h.kp hk (fun _ x => x.elim) (fun _ x => x.elim)
theorem SetAtRow.cells (h : SetAtRow P S w b ov iv tail te D c zs) : w.cell? ⟨b, 0, none⟩ = some ov ∧ w.cell? ⟨b, 1, none⟩ = some iv := ⟨by rw [h.blk.cell']; rfl, by rw [h.blk.cell']; rfl⟩
end
set_option maxRecDepth 100000 in
theorem setCmpRow_any (S : Nat → Prop) (w : World) (b : Nat) (ov : Value) (cs : List Value) (te : TypeId) (D : Option Addr × Nat × Nat → Prop) (c : Option Addr × Nat × Nat → Option Addr × Nat × Nat → Int) (x y : Option Addr × Nat × Nat) (hx : D x) (hy : D y) (hB : Blk w b (ov :: cs) te)
    (hS : ∀ k, S k → k < w.heap.size) (ho : OrdVRow Tryz.prog S w ov D c) :
    Calls Tryz.prog 166 #[.pointer (some ⟨b, 0, none⟩), (Value.slice (x).1 (x).2.1 (x).2.2), (Value.slice (y).1 (y).2.1 (y).2.2)] w (fun e w' => e = .returned (.int .i64 (c x y)) ∧ Ext w w') := by
  have c1 : w.cell? ⟨b, 0, none⟩ = some ov := by rw [hB.cell']; rfl
  clear hB
  rcases ho with ⟨rfl, h0⟩ | ⟨f, first, cap, rfl, hent, hc⟩
  · have h00 := Lib.hid (h0 x y hx hy); clear h0
    have hq : ∀ w : World, (binOp .eql 176 .nilFunc .nilFunc).run Tryz.prog w = .ok (.bool true) w := fun _ => by kernel_rfl
    go_enter Tryz.func166, Tryz.ntmps166
    go_wp2
    go_ret
    exact ⟨by rw [h00.out]; rfl, Kp.refl _⟩
  · have HC := Lib.hid hc; clear hc
    have hq : ∀ w : World, (binOp .eql 176 (.func (Fn.func f) first cap) .nilFunc).run Tryz.prog w = .ok (.bool false) w := fun _ => by kernel_rfl
    go_enter Tryz.func166, Tryz.ntmps166
    go_wp2_with fail
    refine (HC.out w (Same.refl hS) x y hx hy).mono ?_
    rintro e w1 ⟨rfl, hk⟩
    have HK := Lib.hid hk; clear hk
    go_wp2
    go_ret
    exact ⟨rfl, HK.out⟩
set_option maxRecDepth 100000 in
theorem setLenRow_any {S : Nat → Prop} {w : World} {b : Nat} {ov iv : Value} {tail : List Value} {te : TypeId} {D : Option Addr × Nat × Nat → Prop} {c : Option Addr × Nat × Nat → Option Addr × Nat × Nat → Int} {zs : List (Option Addr × Nat × Nat)} (h : SetAtRow Tryz.prog S w b ov iv tail te D c zs) :
    Calls Tryz.prog 109 #[.pointer (some ⟨b, 0, none⟩)] w (Ret (.int .i64 (zs.length : Nat)) w) := by
  obtain ⟨c1, c2⟩ := h.cells
  obtain ⟨ao, cap, rfl, _, _⟩ := h.row.shape
  clear h
  go_enter Tryz.func109, Tryz.ntmps109
  go_wp2
  go_ret
  exact Ret.mk rfl
theorem setLenRow_nil (w : World) : Calls Tryz.prog 109 #[.pointer none] w (Ret (.int .i64 0) w) := by
  go_enter Tryz.func109, Tryz.ntmps109
  go_wp2
  go_ret
  exact Ret.mk rfl
set_option maxRecDepth 100000 in
theorem setItemsRow_any {S : Nat → Prop} {w : World} {b : Nat} {ov iv : Value} {tail : List Value} {te : TypeId} {D : Option Addr × Nat × Nat → Prop} {c : Option Addr × Nat × Nat → Option Addr × Nat × Nat → Int} {zs : List (Option Addr × Nat × Nat)} (h : SetAtRow Tryz.prog S w b ov iv tail te D c zs) :
    Calls Tryz.prog 160 #[.pointer (some ⟨b, 0, none⟩)] w (RetN w fun w' v => Row w' 76 1 v zs.length (zs.map fun x => (Value.slice (x).1 (x).2.1 (x).2.2)) (New w)) := by
  obtain ⟨c1, c2⟩ := h.cells
  obtain ⟨ao, cap, rfl, hc, _⟩ := h.row.shape
  have hl := h.len
  have HC := Lib.hid hc; clear h hc
  go_enter Tryz.func160, Tryz.ntmps160
  go_wp2_with fail
  refine (cloneRow_any (zs.map fun x => (Value.slice (x).1 (x).2.1 (x).2.2)) ao cap w zs.length (by simp) HC.out (by intro u hu; obtain ⟨x, _, rfl⟩ := List.mem_map.1 hu; rfl) (by omega)).mono ?_
  rintro e w1 ⟨v, rfl, hk, hr⟩
  have HR := Lib.hid (And.intro hk hr); clear hk hr
  go_wp2
  go_ret
  exact RetN.mk HR.out.1 HR.out.2
theorem setItemsRow_nil (w : World) : Calls Tryz.prog 160 #[.pointer none] w (Ret (.slice none 0 0) w) := by
  go_enter Tryz.func160, Tryz.ntmps160
  go_wp2
  go_ret
  exact Ret.mk rfl
set_option maxRecDepth 100000 in
set_option maxHeartbeats 1000000 in
theorem setFindRow_any {S : Nat → Prop} {w : World} {b : Nat} {ov iv : Value} {tail : List Value} {te : TypeId} {D : Option Addr × Nat × Nat → Prop} {c : Option Addr × Nat × Nat → Option Addr × Nat × Nat → Int} {zs : List (Option Addr × Nat × Nat)} (O : OrdLaw c) (x : Option Addr × Nat × Nat) (hx : D x) (hs : Strict c zs) (h : SetAtRow Tryz.prog S w b ov iv tail te D c zs) :
    Calls Tryz.prog 148 #[.pointer (some ⟨b, 0, none⟩), (Value.slice (x).1 (x).2.1 (x).2.2)] w
      (RetF (fun _ => False) w fun w' v => v = .tuple #[.int .i64 (below c zs x : Nat), .bool (isIn c zs x)]) := by
  obtain ⟨c1, c2⟩ := h.cells
  obtain ⟨ao, cap, eiv, hc, _⟩ := h.row.shape
  subst eiv
  have hl := h.len
  obtain ⟨n, en⟩ : ∃ n, n = zs.length := ⟨_, rfl⟩
  have get : ∀ i (hi : i < n), zs.getD i x = zs[i]'(by omega) := fun i hi => by simp [List.getD, show i < zs.length by omega]
  have evals : (List.range n).map (fun i => (Value.slice (zs.getD i x).1 (zs.getD i x).2.1 (zs.getD i x).2.2)) = zs.map fun x => (Value.slice (x).1 (x).2.1 (x).2.2) := by
    refine List.ext_getElem (by simp [en]) fun i h1 h2 => ?_
    simp only [List.getElem_map, List.getElem_range]
    rw [get i (by simpa using h1)]
  have hent : ∀ args w, (callFunc 166 args).run Tryz.prog w = .ok (.enter 166 args) w := enters_of Tryz.func166 (by kernel_rfl) rfl
  have hcmp : CmpToRow Tryz.prog 166 #[.pointer (some ⟨b, 0, none⟩)] #[] w ((List.range n).map fun i => (Value.slice (zs.getD i x).1 (zs.getD i x).2.1 (zs.getD i x).2.2)) ((Value.slice (x).1 (x).2.1 (x).2.2)) (fun i => c (zs.getD i x) x) := by
    refine ⟨hent, fun w' hw i v hv => ?_⟩
    have hi : i < n := by simpa using (List.getElem?_eq_some_iff.1 hv).1
    have ev : v = (Value.slice (zs.getD i x).1 (zs.getD i x).2.1 (zs.getD i x).2.2) := by simp [hi] at hv; rw [← hv, List.getD_eq_getElem?_getD]
    subst ev
    have h' := h.ext hw
    exact setCmpRow_any S w' b ov _ te D c (zs.getD i x) x (by rw [get i hi]; exact h.all _ (List.getElem_mem _)) hx h'.blk h'.inS h'.ord
  have hbin := binSearchRow_any zs (fun i => zs.getD i x) ao cap ((Value.slice (x).1 (x).2.1 (x).2.2)) 166 #[.pointer (some ⟨b, 0, none⟩)] #[] (fun i => c (zs.getD i x) x) w n (by rw [evals]; exact hc) hcmp (by omega)
  rw [en] at hbin
  have HB := Lib.hid hbin
  have HH := Lib.hid (And.intro en get)
  clear hbin hcmp hc evals hent h get
  go_enter Tryz.func148, Tryz.ntmps148
  go_wp2_with fail
  refine HB.out.mono ?_
  rintro e w1 ⟨v, rfl, hk, i, hi, h1, h2, rfl⟩
  have ei : i = below c zs x := by
    refine hs.place O hi (fun y hp hy => ?_) (fun y hy => ?_)
    · have e := (List.getElem?_eq_some_iff.1 hy).2
      rcases h1 with h1 | h1
      · omega
      · rw [HH.out.2 _ (by rw [HH.out.1]; omega), e] at h1; exact h1
    · obtain ⟨hl', e⟩ := List.getElem?_eq_some_iff.1 hy
      rcases h2 with h2 | h2
      · omega
      · rw [HH.out.2 _ (by rw [HH.out.1]; omega), e] at h2; exact h2
  have eb : decide (i < zs.length ∧ c (zs.getD i x) x = 0) = isIn c zs x := by
    rw [Bool.eq_iff_iff, decide_eq_true_iff, hs.there O x, ← ei]
    constructor
    · rintro ⟨a1, a2⟩
      exact ⟨zs[i], List.getElem?_eq_getElem a1, by rw [HH.out.2 _ (by rw [HH.out.1]; omega)] at a2; exact a2⟩
    · rintro ⟨y, hy, hz⟩
      obtain ⟨hl', e⟩ := List.getElem?_eq_some_iff.1 hy
      exact ⟨hl', by rw [HH.out.2 _ (by rw [HH.out.1]; omega), e]; exact hz⟩
  rw [eb, ei]
  have HK := Lib.hid hk
  clear hk h1 h2 eb ei hi
  go_wp2
  go_ret2
  exact RetF.mk HK.out (tup_ib rfl)
end Go.Proofs.YtomeebimmmfmbaaGreat

/- tuple.NewSet at []string. -/
namespace Go.Proofs.YtomeebimmmfmbaaGreat
open Go.RowKit
set_option linter.unusedVariables false
theorem setAtRow_store {P : Program} {S : Nat → Prop} {w : World} {b : Nat} {ov iv0 iv : Value} {tail : List Value} {te : TypeId} {D : Option Addr × Nat × Nat → Prop} {c : Option Addr × Nat × Nat → Option Addr × Nat × Nat → Int} {zs : List (Option Addr × Nat × Nat)} {M : Nat → Prop}
    (hB : Blk w b (ov :: iv0 :: tail) te) (hr : Row w 76 1 iv zs.length (zs.map fun x => (Value.slice (x).1 (x).2.1 (x).2.2)) M) (hap : iv.ownBlock ≠ some b) (hS : ∀ k, S k → k < w.heap.size) (hn : ∀ k, Owns b iv k → ¬ S k)
    (ho : OrdVRow P S w ov D c) (hD : ∀ x ∈ zs, D x) (hl : zs.length ≤ 1048576 * 1048576) : SetAtRow P S (w.setCell ⟨b, 1, none⟩ iv) b ov iv tail te D c zs := by
  have hk : Kp (fun k => k = b) w (w.setCell ⟨b, 1, none⟩ iv) := Kp.setCell (F := fun k => k = b) (Kp.refl w) (fun _ => rfl) iv
  exact ⟨hB.set 1 iv, hr.own.kp hk fun g hg e => hap (by rw [hg, e]), hap, fun k h => Nat.lt_of_lt_of_le (hS k h) hk.size, hn, ho.same (hk.same hS fun k h e => hn k (.inl e) h), hD, hl⟩
end Go.Proofs.YtomeebimmmfmbaaGreat
