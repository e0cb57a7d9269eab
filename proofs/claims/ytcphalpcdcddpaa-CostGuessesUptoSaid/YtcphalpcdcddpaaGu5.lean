/- Texts joined for a claim (Law7, Law8, Law9, Law10, BodyFns, BodyR). -/
import Derived.Test.YtcphalpcdcddpaaGu4
import Derived.Laws.CopyOwn
/- The law of costs: what is known, as the program takes it, with marks behind the lists: stats. -/
namespace Go.Proofs.Ytcphalpcdcddpaa
open Go.RowKit
set_option linter.unusedVariables false
attribute [local go_sem] run_store_float

theorem elem_stat : ElemT Try.prog 35 56 3 48 (.agg #[.string ⟨#[]⟩, .float .f64 0, .slice none 0 0]) := ⟨by kernel_rfl, by kernel_rfl, rfl, by decide⟩
def markS : List Value := [.string ⟨#[109, 97, 114, 107]⟩, .float .f64 0, .slice none 0 0]
abbrev markF : Nat := 4649993003539103744
/-- A list of counts in a block of its own, with a mark behind it. -/
def DistM (w0 w : World) (x : StatZ × (Nat × Nat)) : Prop := ∃ rest, x.1.2.2.1.length + 1 ≤ x.2.2 ∧ x.2.2 ≤ maxLen ∧ w0.heap.size ≤ x.2.1 ∧ Blk w x.2.1 (flts (x.1.2.2.1 ++ [markF]) ++ rest) 37
def statM (x : StatZ × (Nat × Nat)) : List Value := [.string x.1.1, .float .f64 x.1.2.1, .slice (some ⟨x.2.1, 0, none⟩) x.1.2.2.1.length x.2.2]
theorem statM_len (x : StatZ × (Nat × Nat)) : (statM x).length = 3 := rfl
theorem DistM.kp {F : Nat → Prop} {w0 w w' : World} {x : StatZ × (Nat × Nat)} (h : DistM w0 w x) (hk : Kp F w w') (hf : ¬ F x.2.1) : DistM w0 w' x := by
  obtain ⟨rest, h1, h2, h3, h4⟩ := h
  exact ⟨rest, h1, h2, h3, h4.kp hk hf⟩
theorem DistM.ext {w0 w w' : World} {x : StatZ × (Nat × Nat)} (h : DistM w0 w x) (hk : Ext w w') : DistM w0 w' x := h.kp hk id
theorem DistM.blk {w0 w : World} {x : StatZ × (Nat × Nat)} (h : DistM w0 w x) : ∃ cs, Blk w x.2.1 cs 37 := by
  obtain ⟨rest, _, _, _, h4⟩ := h
  exact ⟨_, h4⟩
theorem DistM.at {w0 w : World} {x : StatZ × (Nat × Nat)} (h : DistM w0 w x) : CellsAt w (some ⟨x.2.1, 0, none⟩) (flts x.1.2.2.1) := by
  obtain ⟨rest, h1, h2, h3, h4⟩ := h
  have e : flts (x.1.2.2.1 ++ [markF]) ++ rest = flts x.1.2.2.1 ++ ([.float .f64 markF] ++ rest) := by simp [flts]
  rw [e] at h4
  exact CellsAt.pre h4
theorem DistM.mark {w0 w : World} {x : StatZ × (Nat × Nat)} (h : DistM w0 w x) : w.cell? ⟨x.2.1, x.1.2.2.1.length, none⟩ = some (.float .f64 markF) := by
  obtain ⟨rest, h1, h2, h3, h4⟩ := h
  rw [h4.cell']
  simp [flts]

/-- What is known, in memory of its own, with marks. -/
structure StatsM (w0 w : World) (g n cap : Nat) (S : List StatZ) : Prop where
  body : ∃ (rest : List Value) (vs : List (Nat × Nat)), n = S.length ∧ n + 1 ≤ cap ∧ cap ≤ maxLen ∧ w0.heap.size ≤ g ∧ vs.length = S.length ∧ (vs.map (·.1)).Nodup ∧ Blk w g ((S.zip vs).flatMap statM ++ (markS ++ rest)) 56 ∧ ∀ x ∈ S.zip vs, DistM w0 w x
theorem typ_fc : 37 ≠ 56 := by decide
theorem StatsM.kp {F : Nat → Prop} {w0 w w' : World} {g n cap : Nat} {S : List StatZ} (h : StatsM w0 w g n cap S) (hk : Kp F w w') (hg : ¬ F g) (hf : ∀ k cs, Blk w k cs 37 → ¬ F k) : StatsM w0 w' g n cap S := by
  obtain ⟨rest, vs, h1, h2, h3, h4, h5, h6, h7, h8⟩ := h.body
  exact ⟨rest, vs, h1, h2, h3, h4, h5, h6, h7.kp hk hg, fun x hx => by
    obtain ⟨cs, hb⟩ := (h8 x hx).blk
    exact (h8 x hx).kp hk (hf _ _ hb)⟩
theorem StatsM.ext {w0 w w' : World} {g n cap : Nat} {S : List StatZ} (h : StatsM w0 w g n cap S) (hk : Ext w w') : StatsM w0 w' g n cap S := h.kp hk id fun _ _ _ => id
theorem StatsM.old {w0 w1 w : World} {g n cap : Nat} {S : List StatZ} (h : StatsM w1 w g n cap S) (hs : w0.heap.size ≤ w1.heap.size) : StatsM w0 w g n cap S := by
  obtain ⟨rest, vs, h1, h2, h3, h4, h5, h6, h7, h8⟩ := h.body
  exact ⟨rest, vs, h1, h2, h3, Nat.le_trans hs h4, h5, h6, h7, fun x hx => by
    obtain ⟨r, a, b, c, d⟩ := h8 x hx
    exact ⟨r, a, b, Nat.le_trans hs c, d⟩⟩
theorem StatsM.at {w0 w : World} {g n cap : Nat} {S : List StatZ} (h : StatsM w0 w g n cap S) : StatsAt w (some ⟨g, 0, none⟩) S := fun i s hs => by
  obtain ⟨rest, vs, h1, h2, h3, h4, h5, h6, h7, h8⟩ := h.body
  have hv : i < vs.length := by rw [h5]; exact (List.getElem?_eq_some_iff.1 hs).1
  have hz : (S.zip vs)[i]? = some (s, vs[i]) := by rw [List.getElem?_zip_eq_some]; exact ⟨hs, List.getElem?_eq_getElem hv⟩
  have hd := h8 _ (List.mem_of_getElem? hz)
  have hb : ∀ c, c < 3 → w.cell? ⟨g, 0 + i * 3 + c, none⟩ = (statM (s, vs[i]))[c]? := fun c hc => by
    have hg := flat_get statM 3 statM_len (S.zip vs) i _ c hz hc
    have hlt : i * 3 + c < ((S.zip vs).flatMap statM).length := by
      rw [flat_len statM 3 statM_len, List.length_zip, h5, Nat.min_self]
      have := (List.getElem?_eq_some_iff.1 hs).1
      omega
    rw [h7.cell', Nat.zero_add, List.getElem?_append_left hlt, hg]
  obtain ⟨r, a, b, c, d⟩ := id hd
  refine ⟨g, 0, _, vs[i].2, rfl, hb 0 (by decide), hb 1 (by decide), hb 2 (by decide), ?_, b, hd.at⟩
  exact Nat.le_trans (Nat.le_succ _) a

def StatMTo (S : List StatZ) (w0 : World) (n : Nat) (iv ov : Value) (w : World) : Prop := ∃ i : Nat, i ≤ n ∧ iv = .int .i64 i ∧ Hid (∃ vs : List (Nat × Nat), vs.length = i ∧ (vs.map (·.1)).Nodup ∧ Row w 56 3 ov i (((S.take i).zip vs).flatMap statM) (New w0) ∧ ∀ x ∈ (S.take i).zip vs, DistM w0 w x) ∧ Hid (Ext w0 w)
def FltsTo (ds : List Nat) (w0 : World) (m : Nat) (kv dv : Value) (w : World) : Prop := ∃ k : Nat, k ≤ m ∧ kv = .int .i64 k ∧ Hid (Row w 37 1 dv k (flts (ds.take k)) (New w0)) ∧ Hid (Ext w0 w)
theorem nodup_snoc {xs : List Nat} {x : Nat} (h : xs.Nodup) (hx : ∀ y ∈ xs, y < x) : (xs ++ [x]).Nodup := by
  rw [List.nodup_append]
  refine ⟨h, by simp, ?_⟩
  intro a ha b hb
  rw [List.mem_singleton] at hb
  have := hx a ha
  omega

set_option maxRecDepth 100000 in
set_option maxHeartbeats 4000000 in
theorem stats_any (S : List StatZ) (ao : Option Addr) (n cap : Nat) (w : World) (hn : n = S.length) (h : KnownAt w ao S) (hf : StatsFit S) :
    Calls Try.prog 10 #[.slice ao n cap] w (RetN w fun w' v => ∃ g c, v = .slice (some ⟨g, 0, none⟩) n c ∧ StatsM w w' g n c S) := by
  have HN := Lib.hid hn
  have HK := Lib.hid h
  have HF := Lib.hid hf
  have hl : n ≤ 1048576 := by have := hf.len; omega
  have hq := frombits_run
  clear hn h hf
  go_enter Try.func10, Try.ntmps10
  go_wp2
  go_loopw [4, 3] (fun iv ov wr => StatMTo S w n iv ov wr) (fun iv _ _ => n - (intOf iv).toNat)
  case atStart => exact ⟨0, Nat.zero_le _, rfl, ⟨[], rfl, List.nodup_nil, Row.nil _ _ _ _, fun x hx => by simp at hx⟩, Kp.refl _⟩
  case round =>
    obtain ⟨i, hi, rfl, hin, hex⟩ := hrel
    by_cases hlt : i < n
    · obtain ⟨s, hs⟩ : ∃ s, S[i]? = some s := ⟨_, List.getElem?_eq_getElem (by rw [← HN.out]; exact hlt)⟩
      obtain ⟨b, off, da, dcap, eao, c0, c1, c2, d1, d2, d3⟩ := HK.out i s hs
      subst eao
      have hm : s.2.2.1.length ≤ 1048576 := HF.out.dist s (List.mem_of_getElem? hs)
      replace c0 := hex.out.cell c0 id
      replace c1 := hex.out.cell c1 id
      replace c2 := hex.out.cell c2 id
      have HD := Lib.hid (d3.ext hex.out)
      obtain ⟨p, ep⟩ : ∃ p, p = s.1 := ⟨_, rfl⟩
      obtain ⟨r, er⟩ : ∃ r, r = s.2.1 := ⟨_, rfl⟩
      obtain ⟨ds, eds⟩ : ∃ ds, ds = s.2.2.1 := ⟨_, rfl⟩
      obtain ⟨m, em⟩ : ∃ m, m = ds.length := ⟨_, rfl⟩
      rw [← ep] at c0
      rw [← er] at c1
      rw [← eds] at HD hm d1
      rw [← eds, ← em] at c2
      rw [← em] at hm d1
      have HS := Lib.hid (And.intro hs (And.intro ep (And.intro er eds)))
      have EM := Lib.hid em
      have HC2 := Lib.hid c2
      have HC0 := Lib.hid c0
      have HC1 := Lib.hid c1
      clear hs ep er eds em d3 c0 c1 c2
      go_wp2
      generalize hw5 : wr = w5 at *; clear hw5
      go_loopw [6, 5] (fun kv dv wk => FltsTo ds w5 m kv dv wk) (fun kv _ _ => m - (intOf kv).toNat)
      case atStart => exact ⟨0, Nat.zero_le _, rfl, Row.nil _ _ _ _, Kp.refl _⟩
      case round =>
        obtain ⟨j, hj, rfl, hr, hex2⟩ := hrel
        obtain ⟨ba, bc, edv, _, _⟩ := hr.out.shape
        subst edv
        have c2 := hex2.out.cell HC2.out id
        by_cases hlt2 : j < m
        · obtain ⟨x, hx⟩ : ∃ x, ds[j]? = some x := ⟨_, List.getElem?_eq_getElem (by rw [← EM.out]; exact hlt2)⟩
          obtain ⟨b2, off2, eda, e0⟩ := HD.out.word hx
          subst eda
          replace e0 := hex2.out.cell e0 id
          have HX := Lib.hid hx
          clear hx
          go_wp2_with (first | (at_builtin; refine Halted.out ?_))
          refine Halted.mk (wp_appN (m := 1) (n := j) elem_flt rfl _ _ rfl (hex2.out.alloc _) rfl (hr.out.alloc _) rfl (CellsAt.one wr (.float .f64 x) 37) (by rfl) (by simp [Value.oneCell']) (by omega) (by unfold maxLen; omega) ?_)
          intro v1 w6 hr1 hk1 hk2 _
          have e7 : flts (ds.take (j + 1)) = flts (ds.take j) ++ [.float .f64 x] := by rw [takeSnoc HX.out]; simp [flts]
          rw [← e7] at hr1
          have HR1 := Lib.hid hr1
          have HX1 := Lib.hid hk1
          clear e7 hr1 hk1 hk2 c2 e0
          go_wp2
          go_roundw
          case rel => exact ⟨j + 1, by omega, by first | rfl | (congr 1; done) | (congr 1; omega), HR1.out, HX1.out⟩
          case measure => simp [intOf]; omega
        · obtain rfl : j = m := by omega
          have hall : ds.take j = ds := List.take_of_length_le (by have := EM.out; omega)
          rw [hall] at hr
          go_wp2_with (first | (at_builtin; refine Halted.out ?_))
          refine Halted.mk (wp_appN (m := 1) (n := j) elem_flt rfl _ _ rfl (hex2.out.alloc _) rfl (hr.out.alloc _) rfl (CellsAt.one wr (.float .f64 markF) 37) (by rfl) (by simp [Value.oneCell']) (by omega) (by unfold maxLen; omega) ?_)
          intro v1 w6 hr1 hk1 hk2 _
          obtain ⟨h1, ⟨rfl, h0⟩ | ⟨gd, dc, rest, rfl, hM, hB, hlen, hnc, hcm⟩⟩ := hr1
          · omega
          have X6 := Lib.hid hk1
          have XX := Lib.hid (hex.out.trans hk1)
          have e8 : flts ds ++ [.float .f64 markF] = flts (ds ++ [markF]) := by simp [flts]
          rw [e8] at hB
          have HB := Lib.hid (And.intro hB (And.intro hnc (And.intro hcm (show w5.heap.size ≤ gd from hM))))
          have hcm2 : dc ≤ 9223372036854775807 := hcm
          have i1 : (j : Int) ≤ (dc : Int) := by omega
          have i2 : IntKind.i64.wrap (j : Int) = (j : Int) := IntWalk.i64_in _ (by omega)
          have c0 := hk1.cell HC0.out id
          have c1 := hk1.cell HC1.out id
          obtain ⟨vs, hvs, hnd, hrow, hds⟩ := hin.out
          obtain ⟨oa, oc, eov, _, _⟩ := hrow.shape
          subst eov
          have HV := Lib.hid (And.intro hvs (And.intro hnd hds))
          have HRo := Lib.hid (hrow.ext hk1)
          have HCells := Lib.hid (show ∀ w', Ext w6 w' → (fun w' : World => w'.cell? ⟨b, off + i * 3, none⟩ = some (.string p) ∧ w'.cell? ⟨b, off + i * 3 + 1, none⟩ = some (.int .u64 r)) w' from fun w' hw => ⟨hw.cell c0 id, hw.cell c1 id⟩)
          clear hall h1 hk1 hk2 hB hM hlen e8 hcm hvs hnd hrow hds hin c0 c1 c2
          go_wp2
          refine draw_begin (fun w' : World => w'.cell? ⟨b, off + i * 3, none⟩ = some (.string p) ∧ w'.cell? ⟨b, off + i * 3 + 1, none⟩ = some (.int .u64 r)) [19] (by kernel_rfl) (HCells.out _ (Kp.refl w6).drew) (fun hHeld => ?_)
          (refine draw_free (i := 0) (v := ?_) rfl ?_ ?_; rotate_left; (intro w; go_simp; try with_reducible rfl)); (try simp only [Act.put, List.setIfInBounds_toArray, List.set_cons_zero, List.set_cons_succ])
          (refine draw_free (i := 1) (v := ?_) rfl ?_ ?_; rotate_left; (intro w; go_simp; try with_reducible rfl)); (try simp only [Act.put, List.setIfInBounds_toArray, List.set_cons_zero, List.set_cons_succ])
          (refine draw_free (i := 2) (v := ?_) rfl ?_ ?_; rotate_left; (intro w; go_simp; try with_reducible rfl)); (try simp only [Act.put, List.setIfInBounds_toArray, List.set_cons_zero, List.set_cons_succ])
          (refine draw_in (i := 3) (v := ?_) rfl ?_ ?_; rotate_left; (intro w hSw; (try dsimp only at hSw); go_simp; try with_reducible rfl)); (try simp only [Act.put, List.setIfInBounds_toArray, List.set_cons_zero, List.set_cons_succ])
          (refine draw_free (i := 4) (v := ?_) rfl ?_ ?_; rotate_left; (intro w; go_simp; try with_reducible rfl)); (try simp only [Act.put, List.setIfInBounds_toArray, List.set_cons_zero, List.set_cons_succ])
          (refine draw_in (i := 5) (v := ?_) rfl ?_ ?_; rotate_left; (intro w hSw; (try dsimp only at hSw); go_simp; try with_reducible rfl)); (try simp only [Act.put, List.setIfInBounds_toArray, List.set_cons_zero, List.set_cons_succ])
          (refine draw_free (i := 6) (v := ?_) rfl ?_ ?_; rotate_left; (intro w; go_simp; try with_reducible rfl)); (try simp only [Act.put, List.setIfInBounds_toArray, List.set_cons_zero, List.set_cons_succ])
          (refine draw_free (i := 7) (v := ?_) rfl ?_ ?_; rotate_left; (intro w; go_simp; try with_reducible rfl)); (try simp only [Act.put, List.setIfInBounds_toArray, List.set_cons_zero, List.set_cons_succ])
          (refine draw_in (i := 8) (v := ?_) rfl ?_ ?_; rotate_left; (intro w hSw; (try dsimp only at hSw); go_simp; try with_reducible rfl)); (try simp only [Act.put, List.setIfInBounds_toArray, List.set_cons_zero, List.set_cons_succ])
          (refine draw_free (i := 9) (v := ?_) rfl ?_ ?_; rotate_left; (intro w; go_simp; try with_reducible rfl)); (try simp only [Act.put, List.setIfInBounds_toArray, List.set_cons_zero, List.set_cons_succ])
          (refine draw_in (i := 10) (v := ?_) rfl ?_ ?_; rotate_left; (intro w hSw; (try dsimp only at hSw); go_simp; try with_reducible rfl)); (try simp only [Act.put, List.setIfInBounds_toArray, List.set_cons_zero, List.set_cons_succ])
          (refine draw_free (i := 11) (v := ?_) rfl ?_ ?_; rotate_left; (intro w; go_simp; try with_reducible rfl)); (try simp only [Act.put, List.setIfInBounds_toArray, List.set_cons_zero, List.set_cons_succ])
          (refine draw_free (i := 12) (v := ?_) rfl ?_ ?_; rotate_left; (intro w; go_simp; try with_reducible rfl)); (try simp only [Act.put, List.setIfInBounds_toArray, List.set_cons_zero, List.set_cons_succ])
          (refine draw_free (i := 13) (v := ?_) rfl ?_ ?_; rotate_left; (intro w; go_simp; try with_reducible rfl)); (try simp only [Act.put, List.setIfInBounds_toArray, List.set_cons_zero, List.set_cons_succ])
          (refine draw_in (i := 14) (v := ?_) rfl ?_ ?_; rotate_left; (intro w hSw; (try dsimp only at hSw); go_simp; try with_reducible rfl)); (try simp only [Act.put, List.setIfInBounds_toArray, List.set_cons_zero, List.set_cons_succ])
          (refine draw_free (i := 15) (v := ?_) rfl ?_ ?_; rotate_left; (intro w; go_simp; try with_reducible rfl)); (try simp only [Act.put, List.setIfInBounds_toArray, List.set_cons_zero, List.set_cons_succ])
          (refine draw_in (i := 16) (v := ?_) rfl ?_ ?_; rotate_left; (intro w hSw; (try dsimp only at hSw); go_simp; try with_reducible rfl)); (try simp only [Act.put, List.setIfInBounds_toArray, List.set_cons_zero, List.set_cons_succ])
          (refine draw_free (i := 17) (v := ?_) rfl ?_ ?_; rotate_left; (intro w; go_simp; try with_reducible rfl)); (try simp only [Act.put, List.setIfInBounds_toArray, List.set_cons_zero, List.set_cons_succ])
          refine draw_one (i := 18) ?_
          refine comes_turn (i := 18) rfl (fun K hK => ?_)
          go_simp
          refine hK.out _ _ ?_ (fun hHeld => ?_)
          · (try dsimp only); (exact HCells.out _ ((Kp.refl w6).alloc _).drew)
          clear hK K; (try simp only [Act.put, List.setIfInBounds_toArray, List.set_cons_zero, List.set_cons_succ])
          refine draw_one (i := 19) ?_
          refine comes_late (i := 19) rfl (by kernel_rfl) (fun K hK => ?_)
          refine draw_appN elem_stat rfl _ _ rfl (XX.out.alloc _).drew rfl (HRo.out.alloc _).drew rfl (CellsAt.new w6 [.string p, .float .f64 r, .slice (some ⟨gd, 0, none⟩) j dc] 56) (by rfl) (by simp [Value.oneCell']) (by omega) (by unfold maxLen; omega) ?_; intro v2 w7 hr2 hk3 hk4
          refine hK.out _ _ ?_
          clear hK K; (try simp only [Act.put, List.setIfInBounds_toArray, List.set_cons_zero, List.set_cons_succ])
          (refine draw_free (i := 20) (v := ?_) rfl ?_ ?_; rotate_left; (intro w; go_simp; try with_reducible rfl)); (try simp only [Act.put, List.setIfInBounds_toArray, List.set_cons_zero, List.set_cons_succ])
          refine wpAnyD_done (by kernel_rfl) ?_ _
          have hk5 : Kp (fun g => (Value.slice oa i oc).ownBlock = some g) ((w6.alloc (.cells #[.string p, .float .f64 r, .slice (some ⟨gd, 0, none⟩) j dc] 56)).drew) w7 := hk4
          have HFin := Lib.hid (show ∃ vs : List (Nat × Nat), vs.length = i + 1 ∧ (vs.map (·.1)).Nodup ∧ Row w7 56 3 v2 (i + 1) (((S.take (i + 1)).zip vs).flatMap statM) (New w) ∧ ∀ x ∈ (S.take (i + 1)).zip vs, DistM w w7 x by
            have hlen : (S.take i).length = vs.length := by rw [List.length_take, HV.out.1]; have := HN.out; omega
            have et := takeSnoc HS.out.1
            have hkd : ∀ x, DistM w (w6.alloc (.cells #[.string p, .float .f64 r, .slice (some ⟨gd, 0, none⟩) j dc] 56)) x → DistM w w7 x := fun x hx => DistM.kp (w := (w6.alloc (.cells #[.string p, .float .f64 r, .slice (some ⟨gd, 0, none⟩) j dc] 56)).drew) (hx.ext (Kp.refl _).drew) hk5 fun e => by
              obtain ⟨cs, hb⟩ := (HRo.out.alloc _).blkOf e
              obtain ⟨cs', hb'⟩ := hx.blk
              exact typ_fc (blk_ne hb' hb)
            refine ⟨vs ++ [(gd, dc)], by rw [List.length_append, HV.out.1]; rfl, ?_, ?_, ?_⟩
            · rw [List.map_append]
              refine nodup_snoc HV.out.2.1 fun y hy => ?_
              obtain ⟨q, hq1, rfl⟩ := List.mem_map.1 hy
              obtain ⟨k, hk, ek⟩ := List.mem_iff_getElem.1 hq1
              have hz : ((S.take i).zip vs)[k]? = some ((S.take i)[k]'(by omega), q) := by
                rw [List.getElem?_zip_eq_some]
                exact ⟨List.getElem?_eq_getElem _, by rw [List.getElem?_eq_getElem hk, ek]⟩
              obtain ⟨cs, hb⟩ := (HV.out.2.2 _ (List.mem_of_getElem? hz)).blk
              exact Nat.lt_of_lt_of_le hb.lt HB.out.2.2.2
            · rw [et, List.zip_append hlen, List.flatMap_append]
              have e2 : (([s].zip [(gd, dc)]).flatMap statM) = [.string p, .float .f64 r, .slice (some ⟨gd, 0, none⟩) j dc] := by
                show statM (s, (gd, dc)) ++ [] = _
                rw [List.append_nil, HS.out.2.1, HS.out.2.2.1, EM.out, HS.out.2.2.2]; rfl
              rw [e2]; exact hr2
            · intro x hx
              rw [et, List.zip_append hlen, List.mem_append] at hx
              rcases hx with hx | hx
              · exact hkd _ ((HV.out.2.2 x hx).ext (X6.out.alloc _))
              · simp at hx; subst hx
                refine hkd _ ⟨rest, ?_, HB.out.2.2.1, Nat.le_trans hex.out.size HB.out.2.2.2, ?_⟩
                · show s.2.2.1.length + 1 ≤ dc
                  rw [← HS.out.2.2.2, ← EM.out]; exact HB.out.2.1
                · show Blk _ gd (flts (s.2.2.1 ++ [markF]) ++ rest) _
                  rw [← HS.out.2.2.2]; exact HB.out.1.alloc _)
          have HX7 := Lib.hid hk3
          clear hr2 hk3 hk4 hk5 hHeld
          go_wp2
          go_roundw
          case rel => exact ⟨i + 1, by omega, by first | rfl | (congr 1; done) | (congr 1; omega), HFin.out, HX7.out⟩
          case measure => simp [intOf]; omega
    · obtain rfl : i = n := by omega
      obtain ⟨vs, hvs, hnd, hrow, hds⟩ := hin.out
      have hall : S.take i = S := List.take_of_length_le (by have := HN.out; omega)
      rw [hall] at hrow hds
      obtain ⟨oa, oc, eov, _, _⟩ := hrow.shape
      subst eov
      have HV := Lib.hid (And.intro hvs (And.intro hnd hds))
      have HRo := Lib.hid hrow
      clear hvs hnd hrow hds hin hall
      go_wp2_with (first | (at_builtin; refine Halted.out ?_))
      refine Halted.mk (wp_appN (m := 1) (n := i) elem_stat rfl _ _ rfl (hex.out.alloc _) rfl (HRo.out.alloc _) rfl (CellsAt.new wr markS 56) (by rfl) (by simp [Value.oneCell', markS]) (by omega) (by unfold maxLen; omega) ?_)
      intro v2 w7 hr2 hk3 hk4 _
      have hkd : ∀ x ∈ S.zip vs, DistM w w7 x := fun x hx => by
        have h := (HV.out.2.2 x hx).ext ((Kp.refl wr).alloc (.cells markS.toArray 56))
        refine h.kp hk4 fun e => ?_
        obtain ⟨cs, hb⟩ := (HRo.out.alloc _).blkOf e
        obtain ⟨cs', hb'⟩ := h.blk
        exact typ_fc (blk_ne hb' hb)
      have HKD := Lib.hid hkd
      have X7 := Lib.hid hk3
      obtain ⟨h1, ⟨rfl, h0⟩ | ⟨g, cap2, rest, rfl, hM, hB, hlen, hnc, hcm⟩⟩ := hr2
      · omega
      · have hcm2 : cap2 ≤ 9223372036854775807 := hcm
        have i1 : (i : Int) ≤ (cap2 : Int) := by omega
        have i2 : ((i : Int) + 1 - 1) = (i : Int) := by omega
        have HBB := Lib.hid (And.intro hnc (And.intro hcm (And.intro hM hB)))
        clear h1 hk3 hk4 hkd hB hM hlen hcm
        go_wp2
        go_ret
        refine RetN.mk X7.out ⟨_, _, rfl, rest, vs, HN.out, HBB.out.1, HBB.out.2.1, HBB.out.2.2.1, HV.out.1.trans HN.out, HV.out.2.1, ?_, HKD.out⟩
        have h := HBB.out.2.2.2
        rw [List.append_assoc] at h
        exact h
end Go.Proofs.Ytcphalpcdcddpaa

/- The law of costs: what is known is as it was, the marks too: kept. -/
namespace Go.Proofs.Ytcphalpcdcddpaa
open Go.RowKit
set_option linter.unusedVariables false
attribute [local go_sem] run_store_float

theorem StatsM.cells {w0 w : World} {g n cap : Nat} {S : List StatZ} (h : StatsM w0 w g n cap S) {i : Nat} {s : StatZ} (hs : S[i]? = some s) : ∃ gd dc, w.cell? ⟨g, i * 3, none⟩ = some (.string s.1) ∧ w.cell? ⟨g, i * 3 + 1, none⟩ = some (.float .f64 s.2.1) ∧ w.cell? ⟨g, i * 3 + 2, none⟩ = some (.slice (some ⟨gd, 0, none⟩) s.2.2.1.length dc) ∧ s.2.2.1.length + 1 ≤ dc ∧ dc ≤ maxLen ∧ CellsAt w (some ⟨gd, 0, none⟩) (flts s.2.2.1) ∧ w.cell? ⟨gd, s.2.2.1.length, none⟩ = some (.float .f64 markF) := by
  obtain ⟨rest, vs, h1, h2, h3, h4, h5, h6, h7, h8⟩ := h.body
  have hv : i < vs.length := by rw [h5]; exact (List.getElem?_eq_some_iff.1 hs).1
  have hz : (S.zip vs)[i]? = some (s, vs[i]) := by rw [List.getElem?_zip_eq_some]; exact ⟨hs, List.getElem?_eq_getElem hv⟩
  have hd := h8 _ (List.mem_of_getElem? hz)
  have hb : ∀ c, c < 3 → w.cell? ⟨g, i * 3 + c, none⟩ = (statM (s, vs[i]))[c]? := fun c hc => by
    have hg := flat_get statM 3 statM_len (S.zip vs) i _ c hz hc
    have hlt : i * 3 + c < ((S.zip vs).flatMap statM).length := by
      rw [flat_len statM 3 statM_len, List.length_zip, h5, Nat.min_self]
      have := (List.getElem?_eq_some_iff.1 hs).1
      omega
    rw [h7.cell', List.getElem?_append_left hlt, hg]
  obtain ⟨r, a, b, c, d⟩ := id hd
  exact ⟨_, _, hb 0 (by decide), hb 1 (by decide), hb 2 (by decide), a, b, hd.at, hd.mark⟩
theorem StatsM.mark {w0 w : World} {g n cap : Nat} {S : List StatZ} (h : StatsM w0 w g n cap S) : n + 1 ≤ cap ∧ cap ≤ maxLen ∧ w.cell? ⟨g, n * 3, none⟩ = some (.string ⟨#[109, 97, 114, 107]⟩) := by
  obtain ⟨rest, vs, h1, h2, h3, h4, h5, h6, h7, h8⟩ := h.body
  refine ⟨h2, h3, ?_⟩
  have hfl : ((S.zip vs).flatMap statM).length = n * 3 := by rw [flat_len statM 3 statM_len, List.length_zip, h5, Nat.min_self, h1]
  rw [h7.cell', ← hfl, List.getElem?_append_right (Nat.le_refl _), Nat.sub_self]; rfl

set_option maxRecDepth 100000 in
set_option maxHeartbeats 8000000 in
theorem kept_any (S : List StatZ) (w0 : World) (g n cap : Nat) (ao : Option Addr) (lcap : Nat) (w : World) (hn : n = S.length) (h : KnownAt w ao S) (hf : StatsFit S) (hM : StatsM w0 w g n cap S) :
    Calls Try.prog 19 #[.slice (some ⟨g, 0, none⟩) n cap, .slice ao n lcap] w (RetN w fun w' v => v = .bool true) := by
  have HN := Lib.hid hn
  have HK := Lib.hid h
  have HF := Lib.hid hf
  have HA := Lib.hid (fun (i : Nat) (s : StatZ) (hs : S[i]? = some s) => hM.cells hs)
  have hl : n ≤ 1048576 := by have := hf.len; omega
  obtain ⟨hc1, hc2, hmk⟩ := hM.mark
  have hc3 : cap ≤ 9223372036854775807 := hc2
  have i1 : (n : Int) + 1 ≤ (cap : Int) := by omega
  have hq := bits_run
  have q1 : ((n : Int) != (n : Int)) = false := by simp
  have q3 : ((FloatKind.format .f64).order 4649993003539103744 4649993003539103744 != some .eq) = false := by decide
  clear hn h hf hM hc1 hc2
  go_enter Try.func19, Try.ntmps19
  go_wp2
  clear hmk
  go_loopw [5] (fun iv wr => SameTo w n iv wr) (fun iv _ => n - (intOf iv).toNat)
  case atStart => exact ⟨0, Nat.zero_le _, rfl, Kp.refl _⟩
  case round =>
    obtain ⟨i, hi, rfl, hex⟩ := hrel
    by_cases hlt : i < n
    · obtain ⟨s, hs⟩ : ∃ s, S[i]? = some s := ⟨_, List.getElem?_eq_getElem (by rw [← HN.out]; exact hlt)⟩
      obtain ⟨b, off, da, dcap, eao, c0, c1, c2, d1, d2, d3⟩ := HK.out i s hs
      obtain ⟨gd, dc, k0, k1, k2, k3, k4, k5, k6⟩ := HA.out i s hs
      subst eao
      have hm : s.2.2.1.length ≤ 1048576 := HF.out.dist s (List.mem_of_getElem? hs)
      replace c0 := hex.out.cell c0 id
      replace c1 := hex.out.cell c1 id
      replace c2 := hex.out.cell c2 id
      replace k0 := hex.out.cell k0 id
      replace k1 := hex.out.cell k1 id
      replace k2 := hex.out.cell k2 id
      replace k6 := hex.out.cell k6 id
      have HD := Lib.hid (And.intro (d3.ext hex.out) (k5.ext hex.out))
      have k4' : dc ≤ 9223372036854775807 := k4
      generalize s.1 = p at *
      generalize s.2.1 = r at *
      generalize s.2.2.1 = ds at *
      obtain ⟨m, em⟩ : ∃ m, m = ds.length := ⟨_, rfl⟩
      rw [← em] at c2 k2 k3 k6 hm d1
      have EM := Lib.hid em
      have i2 : (m : Int) + 1 ≤ (dc : Int) := by omega
      have q2 : ((m : Int) != (m : Int)) = false := by simp
      have i5 : (0 : Int) ≤ (m : Int) + 1 := by omega
      have i6 : (m : Int) < (m : Int) + 1 := by omega
      have i4 : IntKind.i64.wrap ((m : Int) + 1) = (m : Int) + 1 := IntWalk.i64_in _ (by omega)
      have q4 : ((r : Int) != (r : Int)) = false := by simp
      have q5 := str_eq p
      obtain ⟨gt, egt⟩ : ∃ gt, gt = wr.heap.size := ⟨_, rfl⟩
      obtain ⟨wx, ewx⟩ : ∃ wx, wr.alloc (.cells #[.string p, .float .f64 r, .slice (some ⟨gd, 0, none⟩) m dc] 56) = wx := ⟨_, rfl⟩
      have hgt := Blk.new wr [.string p, .float .f64 r, .slice (some ⟨gd, 0, none⟩) m dc] 56
      have ewx' : wr.alloc (.cells [Value.string p, .float .f64 r, .slice (some ⟨gd, 0, none⟩) m dc].toArray 56) = wx := ewx
      rw [ewx', ← egt] at hgt
      have hxx : Ext wr wx := by rw [← ewx]; exact (Kp.refl wr).alloc _
      have HXX := Lib.hid hxx
      have HGT := Lib.hid hgt
      have EGT := Lib.hid egt
      have HCells := Lib.hid (show ∀ w', Ext wx w' → (fun w' : World => w'.cell? ⟨gt, 0, none⟩ = some (.string p) ∧ w'.cell? ⟨gt, 1, none⟩ = some (.float .f64 r) ∧ w'.cell? ⟨gt, 2, none⟩ = some (.slice (some ⟨gd, 0, none⟩) m dc) ∧ w'.cell? ⟨b, off + i * 3, none⟩ = some (.string p) ∧ w'.cell? ⟨b, off + i * 3 + 1, none⟩ = some (.int .u64 r) ∧ w'.cell? ⟨b, off + i * 3 + 2, none⟩ = some (.slice da m dcap) ∧ w'.cell? ⟨gd, m, none⟩ = some (.float .f64 4649993003539103744)) w' from fun w' hw => ⟨by rw [(HGT.out.ext hw).cell']; rfl, by rw [(HGT.out.ext hw).cell']; rfl, by rw [(HGT.out.ext hw).cell']; rfl, hw.cell (hxx.cell c0 id) id, hw.cell (hxx.cell c1 id) id, hw.cell (hxx.cell c2 id) id, hw.cell (hxx.cell k6 id) id⟩)
      clear hs em k4 k5 k6 d3 hgt ewx' hxx egt c0 c1 c2
      go_wp2_with fail
      rw [← EGT.out]
      clear ewx k0 k1 k2
      refine draw_begin (fun w' : World => w'.cell? ⟨gt, 0, none⟩ = some (.string p) ∧ w'.cell? ⟨gt, 1, none⟩ = some (.float .f64 r) ∧ w'.cell? ⟨gt, 2, none⟩ = some (.slice (some ⟨gd, 0, none⟩) m dc) ∧ w'.cell? ⟨b, off + i * 3, none⟩ = some (.string p) ∧ w'.cell? ⟨b, off + i * 3 + 1, none⟩ = some (.int .u64 r) ∧ w'.cell? ⟨b, off + i * 3 + 2, none⟩ = some (.slice da m dcap) ∧ w'.cell? ⟨gd, m, none⟩ = some (.float .f64 4649993003539103744)) [] (by kernel_rfl) (HCells.out _ (Kp.refl wx).drew) (fun hHeld => ?_)
      (refine draw_free (i := 0) (v := ?_) rfl ?_ ?_; rotate_left; (intro w; go_simp; try with_reducible rfl)); (try simp only [Act.put, List.setIfInBounds_toArray, List.set_cons_zero, List.set_cons_succ])
      (refine draw_in (i := 1) (v := ?_) rfl ?_ ?_; rotate_left; (intro w hSw; (try dsimp only at hSw); go_simp; try with_reducible rfl)); (try simp only [Act.put, List.setIfInBounds_toArray, List.set_cons_zero, List.set_cons_succ])
      (refine draw_free (i := 2) (v := ?_) rfl ?_ ?_; rotate_left; (intro w; go_simp; try with_reducible rfl)); (try simp only [Act.put, List.setIfInBounds_toArray, List.set_cons_zero, List.set_cons_succ])
      (refine draw_free (i := 3) (v := ?_) rfl ?_ ?_; rotate_left; (intro w; go_simp; try with_reducible rfl)); (try simp only [Act.put, List.setIfInBounds_toArray, List.set_cons_zero, List.set_cons_succ])
      (refine draw_in (i := 4) (v := ?_) rfl ?_ ?_; rotate_left; (intro w hSw; (try dsimp only at hSw); go_simp; try with_reducible rfl)); (try simp only [Act.put, List.setIfInBounds_toArray, List.set_cons_zero, List.set_cons_succ])
      (refine draw_free (i := 5) (v := ?_) rfl ?_ ?_; rotate_left; (intro w; go_simp; try with_reducible rfl)); (try simp only [Act.put, List.setIfInBounds_toArray, List.set_cons_zero, List.set_cons_succ])
      (refine draw_in (i := 6) (v := ?_) rfl ?_ ?_; rotate_left; (intro w hSw; (try dsimp only at hSw); go_simp; try with_reducible rfl)); (try simp only [Act.put, List.setIfInBounds_toArray, List.set_cons_zero, List.set_cons_succ])
      (refine draw_free (i := 7) (v := ?_) rfl ?_ ?_; rotate_left; (intro w; go_simp; try with_reducible rfl)); (try simp only [Act.put, List.setIfInBounds_toArray, List.set_cons_zero, List.set_cons_succ])
      (refine draw_free (i := 8) (v := ?_) rfl ?_ ?_; rotate_left; (intro w; go_simp; try with_reducible rfl)); (try simp only [Act.put, List.setIfInBounds_toArray, List.set_cons_zero, List.set_cons_succ])
      (first | (refine draw_free (i := 9) (v := ?_) rfl ?_ ?_; rotate_left; (intro w; go_simp; try with_reducible rfl)) | (refine draw_out (i := 9) rfl ?_)); (try simp only [Act.put, List.setIfInBounds_toArray, List.set_cons_zero, List.set_cons_succ])
      (first | (refine draw_in (i := 10) (v := ?_) rfl ?_ ?_; rotate_left; (intro w hSw; (try dsimp only at hSw); go_simp; try with_reducible rfl)) | (refine draw_out (i := 10) rfl ?_)); (try simp only [Act.put, List.setIfInBounds_toArray, List.set_cons_zero, List.set_cons_succ])
      (first | (refine draw_free (i := 11) (v := ?_) rfl ?_ ?_; rotate_left; (intro w; go_simp; try with_reducible rfl)) | (refine draw_out (i := 11) rfl ?_)); (try simp only [Act.put, List.setIfInBounds_toArray, List.set_cons_zero, List.set_cons_succ])
      (first | (refine draw_free (i := 12) (v := ?_) rfl ?_ ?_; rotate_left; (intro w; go_simp; try with_reducible rfl)) | (refine draw_out (i := 12) rfl ?_)); (try simp only [Act.put, List.setIfInBounds_toArray, List.set_cons_zero, List.set_cons_succ])
      (first | (refine draw_free (i := 13) (v := ?_) rfl ?_ ?_; rotate_left; (intro w; go_simp; try with_reducible rfl)) | (refine draw_out (i := 13) rfl ?_)); (try simp only [Act.put, List.setIfInBounds_toArray, List.set_cons_zero, List.set_cons_succ])
      (first | (refine draw_in (i := 14) (v := ?_) rfl ?_ ?_; rotate_left; (intro w hSw; (try dsimp only at hSw); go_simp; try with_reducible rfl)) | (refine draw_out (i := 14) rfl ?_)); (try simp only [Act.put, List.setIfInBounds_toArray, List.set_cons_zero, List.set_cons_succ])
      (first | (refine draw_free (i := 15) (v := ?_) rfl ?_ ?_; rotate_left; (intro w; go_simp; try with_reducible rfl)) | (refine draw_out (i := 15) rfl ?_)); (try simp only [Act.put, List.setIfInBounds_toArray, List.set_cons_zero, List.set_cons_succ])
      (first | (refine draw_in (i := 16) (v := ?_) rfl ?_ ?_; rotate_left; (intro w hSw; (try dsimp only at hSw); go_simp; try with_reducible rfl)) | (refine draw_out (i := 16) rfl ?_)); (try simp only [Act.put, List.setIfInBounds_toArray, List.set_cons_zero, List.set_cons_succ])
      (first | (refine draw_free (i := 17) (v := ?_) rfl ?_ ?_; rotate_left; (intro w; go_simp; try with_reducible rfl)) | (refine draw_out (i := 17) rfl ?_)); (try simp only [Act.put, List.setIfInBounds_toArray, List.set_cons_zero, List.set_cons_succ])
      (refine draw_free (i := 18) (v := ?_) rfl ?_ ?_; rotate_left; (intro w; go_simp; try with_reducible rfl)); (try simp only [Act.put, List.setIfInBounds_toArray, List.set_cons_zero, List.set_cons_succ])
      (refine draw_free (i := 19) (v := ?_) rfl ?_ ?_; rotate_left; (intro w; go_simp; try with_reducible rfl)); (try simp only [Act.put, List.setIfInBounds_toArray, List.set_cons_zero, List.set_cons_succ])
      (first | (refine draw_free (i := 20) (v := ?_) rfl ?_ ?_; rotate_left; (intro w; go_simp; try with_reducible rfl)) | (refine draw_out (i := 20) rfl ?_)); (try simp only [Act.put, List.setIfInBounds_toArray, List.set_cons_zero, List.set_cons_succ])
      (first | (refine draw_in (i := 21) (v := ?_) rfl ?_ ?_; rotate_left; (intro w hSw; (try dsimp only at hSw); go_simp; try with_reducible rfl)) | (refine draw_out (i := 21) rfl ?_)); (try simp only [Act.put, List.setIfInBounds_toArray, List.set_cons_zero, List.set_cons_succ])
      (first | (refine draw_in (i := 22) (v := ?_) rfl ?_ ?_; rotate_left; (intro w hSw; (try dsimp only at hSw); go_simp; try with_reducible rfl)) | (refine draw_out (i := 22) rfl ?_)); (try simp only [Act.put, List.setIfInBounds_toArray, List.set_cons_zero, List.set_cons_succ])
      (first | (refine draw_free (i := 23) (v := ?_) rfl ?_ ?_; rotate_left; (intro w; go_simp; try with_reducible rfl)) | (refine draw_out (i := 23) rfl ?_)); (try simp only [Act.put, List.setIfInBounds_toArray, List.set_cons_zero, List.set_cons_succ])
      (first | (refine draw_free (i := 24) (v := ?_) rfl ?_ ?_; rotate_left; (intro w; go_simp; try with_reducible rfl)) | (refine draw_out (i := 24) rfl ?_)); (try simp only [Act.put, List.setIfInBounds_toArray, List.set_cons_zero, List.set_cons_succ])
      (first | (refine draw_in (i := 25) (v := ?_) rfl ?_ ?_; rotate_left; (intro w hSw; (try dsimp only at hSw); go_simp; try with_reducible rfl)) | (refine draw_out (i := 25) rfl ?_)); (try simp only [Act.put, List.setIfInBounds_toArray, List.set_cons_zero, List.set_cons_succ])
      (first | (refine draw_free (i := 26) (v := ?_) rfl ?_ ?_; rotate_left; (intro w; go_simp; try with_reducible rfl)) | (refine draw_out (i := 26) rfl ?_)); (try simp only [Act.put, List.setIfInBounds_toArray, List.set_cons_zero, List.set_cons_succ])
      (first | (refine draw_in (i := 27) (v := ?_) rfl ?_ ?_; rotate_left; (intro w hSw; (try dsimp only at hSw); go_simp; try with_reducible rfl)) | (refine draw_out (i := 27) rfl ?_)); (try simp only [Act.put, List.setIfInBounds_toArray, List.set_cons_zero, List.set_cons_succ])
      (first | (refine draw_in (i := 28) (v := ?_) rfl ?_ ?_; rotate_left; (intro w hSw; (try dsimp only at hSw); go_simp; try with_reducible rfl)) | (refine draw_out (i := 28) rfl ?_)); (try simp only [Act.put, List.setIfInBounds_toArray, List.set_cons_zero, List.set_cons_succ])
      (first | (refine draw_free (i := 29) (v := ?_) rfl ?_ ?_; rotate_left; (intro w; go_simp; try with_reducible rfl)) | (refine draw_out (i := 29) rfl ?_)); (try simp only [Act.put, List.setIfInBounds_toArray, List.set_cons_zero, List.set_cons_succ])
      (refine draw_free (i := 30) (v := ?_) rfl ?_ ?_; rotate_left; (intro w; go_simp; try with_reducible rfl)); (try simp only [Act.put, List.setIfInBounds_toArray, List.set_cons_zero, List.set_cons_succ])
      (refine draw_free (i := 31) (v := ?_) rfl ?_ ?_; rotate_left; (intro w; go_simp; try with_reducible rfl)); (try simp only [Act.put, List.setIfInBounds_toArray, List.set_cons_zero, List.set_cons_succ])
      (first | (refine draw_free (i := 32) (v := ?_) rfl ?_ ?_; rotate_left; (intro w; go_simp; try with_reducible rfl)) | (refine draw_out (i := 32) rfl ?_)); (try simp only [Act.put, List.setIfInBounds_toArray, List.set_cons_zero, List.set_cons_succ])
      (first | (refine draw_in (i := 33) (v := ?_) rfl ?_ ?_; rotate_left; (intro w hSw; (try dsimp only at hSw); go_simp; try with_reducible rfl)) | (refine draw_out (i := 33) rfl ?_)); (try simp only [Act.put, List.setIfInBounds_toArray, List.set_cons_zero, List.set_cons_succ])
      (first | (refine draw_free (i := 34) (v := ?_) rfl ?_ ?_; rotate_left; (intro w; go_simp; try with_reducible rfl)) | (refine draw_out (i := 34) rfl ?_)); (try simp only [Act.put, List.setIfInBounds_toArray, List.set_cons_zero, List.set_cons_succ])
      (first | (refine draw_in (i := 35) (v := ?_) rfl ?_ ?_; rotate_left; (intro w hSw; (try dsimp only at hSw); go_simp; try with_reducible rfl)) | (refine draw_out (i := 35) rfl ?_)); (try simp only [Act.put, List.setIfInBounds_toArray, List.set_cons_zero, List.set_cons_succ])
      (first | (refine draw_in (i := 36) (v := ?_) rfl ?_ ?_; rotate_left; (intro w hSw; (try dsimp only at hSw); go_simp; try with_reducible rfl)) | (refine draw_out (i := 36) rfl ?_)); (try simp only [Act.put, List.setIfInBounds_toArray, List.set_cons_zero, List.set_cons_succ])
      (first | (refine draw_free (i := 37) (v := ?_) rfl ?_ ?_; rotate_left; (intro w; go_simp; try with_reducible rfl)) | (refine draw_out (i := 37) rfl ?_)); (try simp only [Act.put, List.setIfInBounds_toArray, List.set_cons_zero, List.set_cons_succ])
      (first | (refine draw_in (i := 38) (v := ?_) rfl ?_ ?_; rotate_left; (intro w hSw; (try dsimp only at hSw); go_simp; try with_reducible rfl)) | (refine draw_out (i := 38) rfl ?_)); (try simp only [Act.put, List.setIfInBounds_toArray, List.set_cons_zero, List.set_cons_succ])
      (first | (refine draw_free (i := 39) (v := ?_) rfl ?_ ?_; rotate_left; (intro w; go_simp; try with_reducible rfl)) | (refine draw_out (i := 39) rfl ?_)); (try simp only [Act.put, List.setIfInBounds_toArray, List.set_cons_zero, List.set_cons_succ])
      (first | (refine draw_in (i := 40) (v := ?_) rfl ?_ ?_; rotate_left; (intro w hSw; (try dsimp only at hSw); go_simp; try with_reducible rfl)) | (refine draw_out (i := 40) rfl ?_)); (try simp only [Act.put, List.setIfInBounds_toArray, List.set_cons_zero, List.set_cons_succ])
      (first | (refine draw_in (i := 41) (v := ?_) rfl ?_ ?_; rotate_left; (intro w hSw; (try dsimp only at hSw); go_simp; try with_reducible rfl)) | (refine draw_out (i := 41) rfl ?_)); (try simp only [Act.put, List.setIfInBounds_toArray, List.set_cons_zero, List.set_cons_succ])
      (first | (refine draw_in (i := 42) (v := ?_) rfl ?_ ?_; rotate_left; (intro w hSw; (try dsimp only at hSw); go_simp; try with_reducible rfl)) | (refine draw_out (i := 42) rfl ?_)); (try simp only [Act.put, List.setIfInBounds_toArray, List.set_cons_zero, List.set_cons_succ])
      (first | (refine draw_in (i := 43) (v := ?_) rfl ?_ ?_; rotate_left; (intro w hSw; (try dsimp only at hSw); go_simp; try with_reducible rfl)) | (refine draw_out (i := 43) rfl ?_)); (try simp only [Act.put, List.setIfInBounds_toArray, List.set_cons_zero, List.set_cons_succ])
      (first | (refine draw_free (i := 44) (v := ?_) rfl ?_ ?_; rotate_left; (intro w; go_simp; try with_reducible rfl)) | (refine draw_out (i := 44) rfl ?_)); (try simp only [Act.put, List.setIfInBounds_toArray, List.set_cons_zero, List.set_cons_succ])
      (refine draw_free (i := 45) (v := ?_) rfl ?_ ?_; rotate_left; (intro w; go_simp; try with_reducible rfl)); (try simp only [Act.put, List.setIfInBounds_toArray, List.set_cons_zero, List.set_cons_succ])
      refine wpAnyD_done (by kernel_rfl) ?_ _
      go_wp2
      generalize hw5 : wr = w5 at *; clear hw5
      have X5 := Lib.hid (hex.out.trans HXX.out)
      go_loopw [7] (fun kv wk => SameTo wx m kv wk) (fun kv _ => m - (intOf kv).toNat)
      case atStart => exact ⟨0, Nat.zero_le _, rfl, (Kp.refl wx).drew⟩
      case round =>
        obtain ⟨j, hj, rfl, hex2⟩ := hrel
        have g2 := (HCells.out wr hex2.out).2.2.1
        by_cases hlt2 : j < m
        · obtain ⟨x, hx⟩ : ∃ x, ds[j]? = some x := ⟨_, List.getElem?_eq_getElem (by rw [← EM.out]; exact hlt2)⟩
          obtain ⟨b2, off2, eda, e0⟩ := HD.out.1.word hx
          subst eda
          have e1 : w5.cell? ⟨gd, j, none⟩ = some (.float .f64 x) := by
            obtain ⟨_, _, e, h⟩ := HD.out.2 j (.float .f64 x) (by simp [flts, hx])
            cases e
            rw [Nat.zero_add] at h
            exact h
          have q6 : ((x : Int) != (x : Int)) = false := by simp
          have XX := Lib.hid (HXX.out.trans hex2.out)
          have HJ := Lib.hid (show ∀ w', Ext wr w' → (fun w' : World => w'.cell? ⟨gt, 2, none⟩ = some (.slice (some ⟨gd, 0, none⟩) m dc) ∧ w'.cell? ⟨b, off + i * 3 + 2, none⟩ = some (.slice (some ⟨b2, off2, none⟩) m dcap) ∧ w'.cell? ⟨b2, off2 + j, none⟩ = some (.int .u64 x) ∧ w'.cell? ⟨gd, j, none⟩ = some (.float .f64 x)) w' from fun w' hw => ⟨hw.cell g2 id, hw.cell (HCells.out wr hex2.out).2.2.2.2.2.1 id, hw.cell (XX.out.cell e0 id) id, hw.cell (XX.out.cell e1 id) id⟩)
          clear hx e0 e1
          go_wp2
          clear g2
          refine draw_begin (fun w' : World => w'.cell? ⟨gt, 2, none⟩ = some (.slice (some ⟨gd, 0, none⟩) m dc) ∧ w'.cell? ⟨b, off + i * 3 + 2, none⟩ = some (.slice (some ⟨b2, off2, none⟩) m dcap) ∧ w'.cell? ⟨b2, off2 + j, none⟩ = some (.int .u64 x) ∧ w'.cell? ⟨gd, j, none⟩ = some (.float .f64 x)) [] (by kernel_rfl) (HJ.out _ (Kp.refl wr).drew) (fun hHeld => ?_)
          (refine draw_free (i := 0) (v := ?_) rfl ?_ ?_; rotate_left; (intro w; go_simp; try with_reducible rfl)); (try simp only [Act.put, List.setIfInBounds_toArray, List.set_cons_zero, List.set_cons_succ])
          (refine draw_in (i := 1) (v := ?_) rfl ?_ ?_; rotate_left; (intro w hSw; (try dsimp only at hSw); go_simp; try with_reducible rfl)); (try simp only [Act.put, List.setIfInBounds_toArray, List.set_cons_zero, List.set_cons_succ])
          (refine draw_free (i := 2) (v := ?_) rfl ?_ ?_; rotate_left; (intro w; go_simp; try with_reducible rfl)); (try simp only [Act.put, List.setIfInBounds_toArray, List.set_cons_zero, List.set_cons_succ])
          (refine draw_in (i := 3) (v := ?_) rfl ?_ ?_; rotate_left; (intro w hSw; (try dsimp only at hSw); go_simp; try with_reducible rfl)); (try simp only [Act.put, List.setIfInBounds_toArray, List.set_cons_zero, List.set_cons_succ])
          (refine draw_in (i := 4) (v := ?_) rfl ?_ ?_; rotate_left; (intro w hSw; (try dsimp only at hSw); go_simp; try with_reducible rfl)); (try simp only [Act.put, List.setIfInBounds_toArray, List.set_cons_zero, List.set_cons_succ])
          (refine draw_free (i := 5) (v := ?_) rfl ?_ ?_; rotate_left; (intro w; go_simp; try with_reducible rfl)); (try simp only [Act.put, List.setIfInBounds_toArray, List.set_cons_zero, List.set_cons_succ])
          (refine draw_free (i := 6) (v := ?_) rfl ?_ ?_; rotate_left; (intro w; go_simp; try with_reducible rfl)); (try simp only [Act.put, List.setIfInBounds_toArray, List.set_cons_zero, List.set_cons_succ])
          (refine draw_free (i := 7) (v := ?_) rfl ?_ ?_; rotate_left; (intro w; go_simp; try with_reducible rfl)); (try simp only [Act.put, List.setIfInBounds_toArray, List.set_cons_zero, List.set_cons_succ])
          (refine draw_in (i := 8) (v := ?_) rfl ?_ ?_; rotate_left; (intro w hSw; (try dsimp only at hSw); go_simp; try with_reducible rfl)); (try simp only [Act.put, List.setIfInBounds_toArray, List.set_cons_zero, List.set_cons_succ])
          (refine draw_free (i := 9) (v := ?_) rfl ?_ ?_; rotate_left; (intro w; go_simp; try with_reducible rfl)); (try simp only [Act.put, List.setIfInBounds_toArray, List.set_cons_zero, List.set_cons_succ])
          (refine draw_in (i := 10) (v := ?_) rfl ?_ ?_; rotate_left; (intro w hSw; (try dsimp only at hSw); go_simp; try with_reducible rfl)); (try simp only [Act.put, List.setIfInBounds_toArray, List.set_cons_zero, List.set_cons_succ])
          (refine draw_free (i := 11) (v := ?_) rfl ?_ ?_; rotate_left; (intro w; go_simp; try with_reducible rfl)); (try simp only [Act.put, List.setIfInBounds_toArray, List.set_cons_zero, List.set_cons_succ])
          (refine draw_in (i := 12) (v := ?_) rfl ?_ ?_; rotate_left; (intro w hSw; (try dsimp only at hSw); go_simp; try with_reducible rfl)); (try simp only [Act.put, List.setIfInBounds_toArray, List.set_cons_zero, List.set_cons_succ])
          (refine draw_in (i := 13) (v := ?_) rfl ?_ ?_; rotate_left; (intro w hSw; (try dsimp only at hSw); go_simp; try with_reducible rfl)); (try simp only [Act.put, List.setIfInBounds_toArray, List.set_cons_zero, List.set_cons_succ])
          (refine draw_free (i := 14) (v := ?_) rfl ?_ ?_; rotate_left; (intro w; go_simp; try with_reducible rfl)); (try simp only [Act.put, List.setIfInBounds_toArray, List.set_cons_zero, List.set_cons_succ])
          refine wpAnyD_done (by kernel_rfl) ?_ _
          go_wp2
          go_roundw
          case rel => exact ⟨j + 1, by omega, by first | rfl | (congr 1; done) | (congr 1; omega), hex2.out.drew⟩
          case measure => simp [intOf]; omega
        · go_wp2
          go_roundw
          case rel => exact ⟨i + 1, by omega, by first | rfl | (congr 1; done) | (congr 1; omega), X5.out.trans hex2.out⟩
          case measure => simp [intOf]; omega
    · go_wp2
      go_ret
      exact RetN.mk hex.out rfl
end Go.Proofs.Ytcphalpcdcddpaa

/- The law of costs: other counts of the same predicates: others. -/
namespace Go.Proofs.Ytcphalpcdcddpaa
open Go.RowKit
set_option linter.unusedVariables false
attribute [local go_sem] run_store_float

/-- A sum or a product: a word, whatever it is; the world is as it was but for what was drawn. -/
theorem arith_some (op : BinOp) (hop : op = .add ∨ op = .mul) (t : TypeId) (x y : Nat) : ∃ (fb : World → Nat) (fw : World → World), (∀ W, (binOp op t (.float .f64 x) (.float .f64 y)).run Try.prog W = .ok (.float .f64 (fb W)) (fw W)) ∧ (∀ W, fb W < 18446744073709551616) ∧ ∀ W, Ext W (fw W) := by
  have h1 : ∀ W : World, ∃ z : Nat × World, (binOp op t (.float .f64 x) (.float .f64 y)).run Try.prog W = .ok (.float .f64 z.1) z.2 ∧ z.1 < 18446744073709551616 ∧ Ext W z.2 := fun W => by
    cases e : floatBits op .f64 x y with
    | some r =>
      refine ⟨(r, W), run_float_arith W op t .f64 x y r e, ?_, Kp.refl W⟩
      rcases hop with rfl | rfl
      · exact Ieee.Format.add_lt Ieee.double e
      · exact Ieee.Format.mul_lt Ieee.double e
    | none =>
      refine ⟨((Question.nanBits .f64 x y).cut (W.tape W.drawn (.nanBits .f64 x y)), W.drew), ?_, ?_, (Kp.refl W).drew⟩
      · rcases hop with rfl | rfl
        · have h' : (FloatKind.format .f64).add x y = none := e
          simp [binOp, Op.floatArith, h', Question.forced]
        · have h' : (FloatKind.format .f64).mul x y = none := e
          simp [binOp, Op.floatArith, h', Question.forced]
      · generalize W.tape W.drawn (.nanBits .f64 x y) = q
        have hb : (Question.nanBits .f64 x y).cut q = (q % 2) * 9223372036854775808 + 9218868437227405312 + 1 + (q / 2) % 4503599627370495 := rfl
        show (Question.nanBits .f64 x y).cut q < _
        rw [hb]
        have h1 : (q / 2) % 4503599627370495 < 4503599627370495 := Nat.mod_lt _ (by decide)
        have h2 : q % 2 < 2 := Nat.mod_lt _ (by decide)
        omega
  exact ⟨fun W => (Classical.choose (h1 W)).1, fun W => (Classical.choose (h1 W)).2, fun W => (Classical.choose_spec (h1 W)).1, fun W => (Classical.choose_spec (h1 W)).2.1, fun W => (Classical.choose_spec (h1 W)).2.2⟩

theorem elem_known : ElemT Try.prog 29 53 3 48 (.agg #[.string ⟨#[]⟩, .int .u64 0, .slice none 0 0]) := ⟨by kernel_rfl, by kernel_rfl, rfl, by decide⟩
theorem elem_u64 : ElemT Try.prog 51 50 1 8 (.int .u64 0) := ⟨by kernel_rfl, by kernel_rfl, rfl, by decide⟩
theorem typ_uk : 50 ≠ 53 := by decide
def knownC (x : StatZ × (Option Addr × Nat)) : List Value := [.string x.1.1, .int .u64 x.1.2.1, .slice x.2.1 x.1.2.2.1.length x.2.2]
theorem knownC_len (x : StatZ × (Option Addr × Nat)) : (knownC x).length = 3 := rfl
def WordsAt (w0 w : World) (x : StatZ × (Option Addr × Nat)) : Prop := Row w 50 1 (.slice x.2.1 x.1.2.2.1.length x.2.2) x.1.2.2.1.length (words x.1.2.2.1) (New w0)
theorem CellsAt.kpN {F : Nat → Prop} {w w' : World} {ao : Option Addr} {vs : List Value} (h : CellsAt w ao vs) (k : Kp F w w') (hf : vs ≠ [] → Off F ao) : CellsAt w' ao vs := by
  by_cases e : vs = []
  · subst e; exact CellsAt.nil _ _
  · exact h.kp k (hf e)
theorem words_ne {xs : List Nat} (h : words xs ≠ []) : xs ≠ [] := fun e => h (by rw [e]; rfl)
theorem ints_ne {xs : List Int} (h : ints xs ≠ []) : xs ≠ [] := fun e => h (by rw [e]; rfl)
/-- What is known, by bits, in blocks of M. -/
def KnownIn (w : World) (M : Nat → Prop) (ao : Option Addr) (S : List StatZ) : Prop := ∀ (i : Nat) (s : StatZ), S[i]? = some s → ∃ b off da dcap, ao = some ⟨b, off, none⟩ ∧ M b ∧ (s.2.2.1 ≠ [] → ∀ a, da = some a → M a.block) ∧ w.cell? ⟨b, off + i * 3, none⟩ = some (.string s.1) ∧ w.cell? ⟨b, off + i * 3 + 1, none⟩ = some (.int .u64 s.2.1) ∧ w.cell? ⟨b, off + i * 3 + 2, none⟩ = some (.slice da s.2.2.1.length dcap) ∧ s.2.2.1.length ≤ dcap ∧ dcap ≤ maxLen ∧ CellsAt w da (words s.2.2.1)
theorem KnownIn.at {w : World} {M : Nat → Prop} {ao : Option Addr} {S : List StatZ} (h : KnownIn w M ao S) : KnownAt w ao S := fun i s hs => by
  obtain ⟨b, off, da, dcap, e, _, _, h1, h2, h3, h4, h5, h6⟩ := h i s hs
  exact ⟨b, off, da, dcap, e, h1, h2, h3, h4, h5, h6⟩
theorem KnownIn.kp {F : Nat → Prop} {w w' : World} {M : Nat → Prop} {ao : Option Addr} {S : List StatZ} (h : KnownIn w M ao S) (hk : Kp F w w') (hF : ∀ k, M k → ¬ F k) : KnownIn w' M ao S := fun i s hs => by
  obtain ⟨b, off, da, dcap, e, m1, m2, h1, h2, h3, h4, h5, h6⟩ := h i s hs
  exact ⟨b, off, da, dcap, e, m1, m2, hk.cell h1 (hF _ m1), hk.cell h2 (hF _ m1), hk.cell h3 (hF _ m1), h4, h5, h6.kpN hk fun hne a ha => hF _ (m2 (words_ne hne) a ha)⟩
theorem KnownIn.ext {w w' : World} {M : Nat → Prop} {ao : Option Addr} {S : List StatZ} (h : KnownIn w M ao S) (hk : Ext w w') : KnownIn w' M ao S := h.kp hk fun _ _ => id
theorem KnownIn.mono {w : World} {M M' : Nat → Prop} {ao : Option Addr} {S : List StatZ} (h : KnownIn w M ao S) (hM : ∀ k, M k → M' k) : KnownIn w M' ao S := fun i s hs => by
  obtain ⟨b, off, da, dcap, e, m1, m2, h1⟩ := h i s hs
  exact ⟨b, off, da, dcap, e, hM _ m1, fun hne a ha => hM _ (m2 hne a ha), h1⟩
theorem known_cells {w0 w : World} {S : List StatZ} {vs : List (Option Addr × Nat)} {v : Value} {n : Nat} (hl : vs.length = S.length) (hr : Row w 53 3 v n ((S.zip vs).flatMap knownC) (New w0)) (hd : ∀ x ∈ S.zip vs, WordsAt w0 w x) {ao : Option Addr} {cap : Nat} (hv : v = .slice ao n cap) : KnownIn w (New w0) ao S := fun i s hs => by
  obtain ⟨_, _, e0, hc, _, _⟩ := hr.cap
  rw [e0] at hv
  cases hv
  have hv : i < vs.length := by rw [hl]; exact (List.getElem?_eq_some_iff.1 hs).1
  have hz : (S.zip vs)[i]? = some (s, vs[i]) := by rw [List.getElem?_zip_eq_some]; exact ⟨hs, List.getElem?_eq_getElem hv⟩
  have hrow := hd _ (List.mem_of_getElem? hz)
  obtain ⟨_, _, e, q1, q2, q3⟩ := Row.cap hrow
  cases e
  have hg := fun c hcc => flat_get knownC 3 knownC_len (S.zip vs) i _ c hz hcc
  obtain ⟨b, off, rfl, h0⟩ := hc (i * 3 + 0) _ (hg 0 (by decide))
  obtain ⟨_, _, e1, h1⟩ := hc (i * 3 + 1) _ (hg 1 (by decide))
  cases e1
  obtain ⟨_, _, e2, h2⟩ := hc (i * 3 + 2) _ (hg 2 (by decide))
  cases e2
  refine ⟨b, off, _, _, rfl, hr.block b (by rw [e0]; rfl), fun _ a ha => ?_, h0, h1, h2, q2, q3, q1⟩
  refine Row.block hrow a.block ?_
  show (Value.slice vs[i].1 _ _).ownBlock = some a.block
  rw [ha]; rfl

/-- Other counts of the same predicate. -/
def Alike1 (s s' : StatZ) : Prop := s'.1 = s.1 ∧ s'.2.2.1.length = s.2.2.1.length ∧ s'.2.1 < 18446744073709551616 ∧ ∀ x ∈ s'.2.2.1, x < 18446744073709551616
def AlikeTo (S T : List StatZ) (i : Nat) : Prop := ∀ (j : Nat) s s', j < i → S[j]? = some s → T[j]? = some s' → Alike1 s s'
theorem AlikeTo.snoc {S T : List StatZ} {i : Nat} {s s' : StatZ} (h : AlikeTo S T i) (hl : T.length = i) (hs : S[i]? = some s) (ha : Alike1 s s') : AlikeTo S (T ++ [s']) (i + 1) := fun j u u' hj hu hu' => by
  by_cases e : j = i
  · subst e
    rw [hs] at hu; cases hu
    rw [← hl, List.getElem?_append_right (Nat.le_refl _), Nat.sub_self] at hu'
    cases hu'; exact ha
  · rw [List.getElem?_append_left (by omega)] at hu'
    exact h j u u' (by omega) hu hu'
theorem AlikeTo.fit {S T : List StatZ} (h : AlikeTo S T S.length) (hl : T.length = S.length) (hf : StatsFit S) : StatsFit T := by
  have hall : ∀ t ∈ T, ∃ s ∈ S, Alike1 s t := fun t ht => by
    obtain ⟨i, hi⟩ := List.mem_iff_getElem?.1 ht
    have hlt : i < S.length := by rw [← hl]; exact (List.getElem?_eq_some_iff.1 hi).1
    exact ⟨_, List.getElem_mem hlt, h i _ _ hlt (List.getElem?_eq_getElem hlt) hi⟩
  refine ⟨by rw [hl]; exact hf.len, fun t ht => ?_, fun t ht => ?_, fun t ht => ?_⟩
  · obtain ⟨s, hs, ha⟩ := hall t ht
    rw [ha.2.1]; exact hf.dist s hs
  · obtain ⟨s, hs, ha⟩ := hall t ht
    exact ha.2.2.1
  · obtain ⟨s, hs, ha⟩ := hall t ht
    exact ha.2.2.2

def OthersTo (S : List StatZ) (w0 : World) (n : Nat) (iv ov : Value) (w : World) : Prop := ∃ i : Nat, i ≤ n ∧ iv = .int .i64 i ∧ Hid (∃ (T : List StatZ) (vs : List (Option Addr × Nat)), T.length = i ∧ vs.length = i ∧ Row w 53 3 ov i ((T.zip vs).flatMap knownC) (New w0) ∧ (∀ x ∈ T.zip vs, WordsAt w0 w x) ∧ AlikeTo S T i) ∧ Hid (Ext w0 w)
def WordsTo (p : ByteArray) (y gx : Nat) (w0 : World) (m : Nat) (kv : Value) (w : World) : Prop := ∃ k : Nat, k ≤ m ∧ kv = .int .i64 k ∧ Hid (∃ (dv : Value) (zs : List Nat), zs.length = k ∧ (∀ z ∈ zs, z < 18446744073709551616) ∧ Blk w gx [.string p, .int .u64 y, dv] 53 ∧ Row w 50 1 dv k (words zs) (New w0)) ∧ Hid (Ext w0 w)

set_option maxRecDepth 100000 in
set_option maxHeartbeats 4000000 in
theorem others_any (S : List StatZ) (ao : Option Addr) (n cap : Nat) (w : World) (hn : n = S.length) (h : KnownAt w ao S) (hf : StatsFit S) :
    Calls Try.prog 21 #[.slice ao n cap] w (RetN w fun w' v => ∃ a c, ∃ T : List StatZ, v = .slice a n c ∧ n ≤ c ∧ c ≤ maxLen ∧ T.length = n ∧ KnownIn w' (New w) a T ∧ AlikeTo S T n) := by
  have HN := Lib.hid hn
  have HK := Lib.hid h
  have HF := Lib.hid hf
  have hl : n ≤ 1048576 := by have := hf.len; omega
  have hq1 := frombits_run
  have hq2 := bits_run
  clear hn h hf
  go_enter Try.func21, Try.ntmps21
  go_wp2
  go_loopw [4, 3] (fun iv ov wr => OthersTo S w n iv ov wr) (fun iv _ _ => n - (intOf iv).toNat)
  case atStart => exact ⟨0, Nat.zero_le _, rfl, ⟨[], [], rfl, rfl, Row.nil _ _ _ _, fun x hx => by simp at hx, fun j s s' hj => by omega⟩, Kp.refl _⟩
  case round =>
    obtain ⟨i, hi, rfl, hin, hex⟩ := hrel
    by_cases hlt : i < n
    · obtain ⟨s, hs⟩ : ∃ s, S[i]? = some s := ⟨_, List.getElem?_eq_getElem (by rw [← HN.out]; exact hlt)⟩
      obtain ⟨b, off, da, dcap, eao, c0, c1, c2, d1, d2, d3⟩ := HK.out i s hs
      subst eao
      have hm : s.2.2.1.length ≤ 1048576 := HF.out.dist s (List.mem_of_getElem? hs)
      replace c0 := hex.out.cell c0 id
      replace c1 := hex.out.cell c1 id
      replace c2 := hex.out.cell c2 id
      have HD := Lib.hid (d3.ext hex.out)
      obtain ⟨p, ep⟩ : ∃ p, p = s.1 := ⟨_, rfl⟩
      obtain ⟨r, er⟩ : ∃ r, r = s.2.1 := ⟨_, rfl⟩
      obtain ⟨ds, eds⟩ : ∃ ds, ds = s.2.2.1 := ⟨_, rfl⟩
      obtain ⟨m, em⟩ : ∃ m, m = ds.length := ⟨_, rfl⟩
      rw [← ep] at c0
      rw [← er] at c1
      rw [← eds] at HD hm d1
      rw [← eds, ← em] at c2
      rw [← em] at hm d1
      have HS := Lib.hid (And.intro hs (And.intro ep eds))
      have EM := Lib.hid em
      have HCells := Lib.hid (show ∀ w', Ext wr w' → (fun w' : World => w'.cell? ⟨b, off + i * 3, none⟩ = some (.string p) ∧ w'.cell? ⟨b, off + i * 3 + 1, none⟩ = some (.int .u64 r)) w' from fun w' hw => ⟨hw.cell c0 id, hw.cell c1 id⟩)
      have HC2 := Lib.hid c2
      clear hs ep er eds em d3 c0 c1 c2
      obtain ⟨fb, fw, hadd, hfb, hfw⟩ := arith_some .add (.inl rfl) 37 r 4613937818241073152
      have HFB := Lib.hid (And.intro hfb hfw)
      clear hfb hfw
      go_wp2
      refine draw_begin (fun w' : World => w'.cell? ⟨b, off + i * 3, none⟩ = some (.string p) ∧ w'.cell? ⟨b, off + i * 3 + 1, none⟩ = some (.int .u64 r)) [15] (by kernel_rfl) (HCells.out _ (Kp.refl wr).drew) (fun hHeld => ?_)
      (refine draw_free (i := 0) (v := ?_) rfl ?_ ?_; rotate_left; (intro w; go_simp; try with_reducible rfl)); (try simp only [Act.put, List.setIfInBounds_toArray, List.set_cons_zero, List.set_cons_succ])
      (refine draw_free (i := 1) (v := ?_) rfl ?_ ?_; rotate_left; (intro w; go_simp; try with_reducible rfl)); (try simp only [Act.put, List.setIfInBounds_toArray, List.set_cons_zero, List.set_cons_succ])
      (refine draw_in (i := 2) (v := ?_) rfl ?_ ?_; rotate_left; (intro w hSw; (try dsimp only at hSw); go_simp; try with_reducible rfl)); (try simp only [Act.put, List.setIfInBounds_toArray, List.set_cons_zero, List.set_cons_succ])
      (refine draw_free (i := 3) (v := ?_) rfl ?_ ?_; rotate_left; (intro w; go_simp; try with_reducible rfl)); (try simp only [Act.put, List.setIfInBounds_toArray, List.set_cons_zero, List.set_cons_succ])
      (refine draw_in (i := 4) (v := ?_) rfl ?_ ?_; rotate_left; (intro w hSw; (try dsimp only at hSw); go_simp; try with_reducible rfl)); (try simp only [Act.put, List.setIfInBounds_toArray, List.set_cons_zero, List.set_cons_succ])
      (refine draw_free (i := 5) (v := ?_) rfl ?_ ?_; rotate_left; (intro w; go_simp; try with_reducible rfl)); (try simp only [Act.put, List.setIfInBounds_toArray, List.set_cons_zero, List.set_cons_succ])
      (refine draw_free (i := 6) (v := ?_) rfl ?_ ?_; rotate_left; (intro w; go_simp; try with_reducible rfl)); (try simp only [Act.put, List.setIfInBounds_toArray, List.set_cons_zero, List.set_cons_succ])
      (refine draw_in (i := 7) (v := ?_) rfl ?_ ?_; rotate_left; (intro w hSw; (try dsimp only at hSw); go_simp; try with_reducible rfl)); (try simp only [Act.put, List.setIfInBounds_toArray, List.set_cons_zero, List.set_cons_succ])
      (refine draw_free (i := 8) (v := ?_) rfl ?_ ?_; rotate_left; (intro w; go_simp; try with_reducible rfl)); (try simp only [Act.put, List.setIfInBounds_toArray, List.set_cons_zero, List.set_cons_succ])
      (refine draw_in (i := 9) (v := ?_) rfl ?_ ?_; rotate_left; (intro w hSw; (try dsimp only at hSw); go_simp; try with_reducible rfl)); (try simp only [Act.put, List.setIfInBounds_toArray, List.set_cons_zero, List.set_cons_succ])
      (refine draw_free (i := 10) (v := ?_) rfl ?_ ?_; rotate_left; (intro w; go_simp; try with_reducible rfl)); (try simp only [Act.put, List.setIfInBounds_toArray, List.set_cons_zero, List.set_cons_succ])
      refine draw_two (i := 11) (k := 14) ?_ ?_
      · refine comes_turn (i := 11) rfl (fun K hK => ?_)
        go_simp
        refine hK.out _ _ ?_ (fun hHeld => ?_)
        · (try dsimp only); (first | exact HCells.out _ ((Kp.refl wr).drew.trans (HFB.out.2 _)) | exact HCells.out _ ((Kp.refl wr).alloc _).drew | exact HCells.out _ (((Kp.refl wr).drew.trans (HFB.out.2 _)).alloc _) | exact HCells.out _ ((((Kp.refl wr).alloc _).drew).trans (HFB.out.2 _)))
        clear hK K; (try simp only [Act.put, List.setIfInBounds_toArray, List.set_cons_zero, List.set_cons_succ])
        (refine draw_free (i := 12) (v := ?_) rfl ?_ ?_; rotate_left; (intro w; go_simp; try with_reducible rfl)); (try simp only [Act.put, List.setIfInBounds_toArray, List.set_cons_zero, List.set_cons_succ])
        (refine draw_free (i := 13) (v := ?_) rfl ?_ ?_; rotate_left; (intro w; go_simp; try with_reducible rfl)); (try simp only [Act.put, List.setIfInBounds_toArray, List.set_cons_zero, List.set_cons_succ])
        refine draw_one (i := 14) ?_
        refine comes_turn (i := 14) rfl (fun K hK => ?_)
        go_simp
        refine hK.out _ _ ?_ (fun hHeld => ?_)
        · (try dsimp only); (first | exact HCells.out _ ((Kp.refl wr).drew.trans (HFB.out.2 _)) | exact HCells.out _ ((Kp.refl wr).alloc _).drew | exact HCells.out _ (((Kp.refl wr).drew.trans (HFB.out.2 _)).alloc _) | exact HCells.out _ ((((Kp.refl wr).alloc _).drew).trans (HFB.out.2 _)))
        clear hK K; (try simp only [Act.put, List.setIfInBounds_toArray, List.set_cons_zero, List.set_cons_succ])
        refine draw_one (i := 15) ?_
        refine comes_late (i := 15) rfl (by kernel_rfl) (fun K hK => ?_)
        ((first | (obtain ⟨w3, e3⟩ : ∃ x, (fw wr.drew).alloc (.cells #[.string ⟨#[]⟩, .int .u64 0, .slice none 0 0] 53) = x := ⟨_, rfl⟩; rw [e3]; obtain ⟨gx, eg⟩ : ∃ g, g = (fw wr.drew).heap.size := ⟨_, rfl⟩; rw [← eg]; obtain ⟨y, ey⟩ : ∃ y, fb wr.drew = y := ⟨_, rfl⟩; rw [ey]; have HZ := Lib.hid (show Blk w3 gx [.string ⟨#[]⟩, .int .u64 0, .slice none 0 0] 53 from (by rw [← e3, eg]; exact Blk.new _ _ _)); have X3 := Lib.hid (show Ext wr w3 from (by rw [← e3]; exact ((Kp.refl wr).drew.trans (HFB.out.2 _)).alloc _)); have EGX := Lib.hid (show wr.heap.size ≤ gx from (by rw [eg]; exact ((Kp.refl (F := fun _ => False) wr).drew.trans (HFB.out.2 _)).size))) | (obtain ⟨w3, e3⟩ : ∃ x, fw ((wr.alloc (.cells #[.string ⟨#[]⟩, .int .u64 0, .slice none 0 0] 53)).drew) = x := ⟨_, rfl⟩; rw [e3]; obtain ⟨gx, eg⟩ : ∃ g, g = wr.heap.size := ⟨_, rfl⟩; rw [← eg]; obtain ⟨y, ey⟩ : ∃ y, fb ((wr.alloc (.cells #[.string ⟨#[]⟩, .int .u64 0, .slice none 0 0] 53)).drew) = y := ⟨_, rfl⟩; rw [ey]; have HZ := Lib.hid (show Blk w3 gx [.string ⟨#[]⟩, .int .u64 0, .slice none 0 0] 53 from (by rw [← e3, eg]; exact ((Blk.new wr _ _).drew).ext (HFB.out.2 _))); have X3 := Lib.hid (show Ext wr w3 from (by rw [← e3]; exact (((Kp.refl wr).alloc _).drew).trans (HFB.out.2 _))); have EGX := Lib.hid (show wr.heap.size ≤ gx from (by rw [eg]; exact Nat.le_refl _)))); have HY := Lib.hid (show y < 18446744073709551616 from (by rw [← ey]; exact HFB.out.1 _)); clear e3 eg ey; have z0 : w3.cell? ⟨gx, 0, none⟩ = some (.string ⟨#[]⟩) := (by rw [HZ.out.cell']; rfl); have z1 : w3.cell? ⟨gx, 1, none⟩ = some (.int .u64 0) := (by rw [HZ.out.cell']; rfl); have z2 : w3.cell? ⟨gx, 2, none⟩ = some (.slice none 0 0) := (by rw [HZ.out.cell']; rfl); have f0 := HZ.out.free 0; have f1 := HZ.out.free 1; have f2 := HZ.out.free 2)
        go_simp
        refine hK.out _ _ ?_
        clear hK K; (try simp only [Act.put, List.setIfInBounds_toArray, List.set_cons_zero, List.set_cons_succ])
        refine wpAnyD_done (by kernel_rfl) ?_ _
        obtain ⟨w2, ew2⟩ : ∃ x, ((w3.setCell ⟨gx, 0, none⟩ (.string p)).setCell ⟨gx, 1, none⟩ (.int .u64 y)).setCell ⟨gx, 2, none⟩ (.slice none 0 0) = x := ⟨_, rfl⟩
        rw [ew2]
        have HGX := Lib.hid (show Blk w2 gx [.string p, .int .u64 y, .slice none 0 0] 53 by rw [← ew2]; exact ((HZ.out.set 0 _).set 1 _).set 2 _)
        have X2 := Lib.hid (show Ext wr w2 from by
          rw [← ew2]
          have hno : ∀ c, (⟨gx, c, none⟩ : Addr).block < wr.heap.size → False := fun c h => by have := EGX.out; simp only at h; omega
          exact ((X3.out.setCell (fun h => hno 0 h) _).setCell (fun h => hno 1 h) _).setCell (fun h => hno 2 h) _)
        clear ew2 hHeld z0 z1 z2 f0 f1 f2 HZ X3 hadd HFB
        go_wp2
        generalize hw5 : wr = w5 at *; clear hw5
        go_loopw [6] (fun kv wk => WordsTo p y gx w5 m kv wk) (fun kv _ => m - (intOf kv).toNat)
        case atStart => exact ⟨0, Nat.zero_le _, rfl, ⟨_, [], rfl, fun z hz => by simp at hz, HGX.out, Row.nil _ _ _ _⟩, X2.out⟩
        case round =>
          obtain ⟨j, hj, rfl, hin2, hex2⟩ := hrel
          obtain ⟨dv, zs, hzl, hzw, hB, hr⟩ := hin2.out
          obtain ⟨ba, bc, edv, _, _⟩ := hr.shape
          subst edv
          have c2 := hex2.out.cell HC2.out id
          have HBj := Lib.hid hB
          have HRj := Lib.hid hr
          have HZs := Lib.hid (And.intro hzl hzw)
          clear hin2 hB hr hzl hzw
          by_cases hlt2 : j < m
          · obtain ⟨x, hx⟩ : ∃ x, ds[j]? = some x := ⟨_, List.getElem?_eq_getElem (by rw [← EM.out]; exact hlt2)⟩
            obtain ⟨b2, off2, eda, e0⟩ := HD.out.word hx
            subst eda
            replace e0 := hex2.out.cell e0 id
            have g2 : wr.cell? ⟨gx, 2, none⟩ = some (.slice ba j bc) := by rw [HBj.out.cell']; rfl
            have g2f := HBj.out.free 2
            clear hx
            obtain ⟨fb, fw, hmul, hfb, hfw⟩ := arith_some .mul (.inr rfl) 37 x 4611686018427387904
            have HFB := Lib.hid (And.intro hfb hfw)
            clear hfb hfw
            go_wp2
            have HJ := Lib.hid (show ∀ w', Ext wr w' → (fun w' : World => w'.cell? ⟨gx, 2, none⟩ = some (.slice ba j bc) ∧ w'.cell? ⟨b, off + i * 3 + 2, none⟩ = some (.slice (some ⟨b2, off2, none⟩) m dcap) ∧ w'.cell? ⟨b2, off2 + j, none⟩ = some (.int .u64 x)) w' from fun w' hw => ⟨hw.cell g2 id, hw.cell c2 id, hw.cell e0 id⟩)
            clear g2 c2 e0
            have XM := Lib.hid (show Ext wr (fw wr.drew) from (Kp.refl wr).drew.trans (HFB.out.2 _))
            refine draw_begin (fun w' : World => w'.cell? ⟨gx, 2, none⟩ = some (.slice ba j bc) ∧ w'.cell? ⟨b, off + i * 3 + 2, none⟩ = some (.slice (some ⟨b2, off2, none⟩) m dcap) ∧ w'.cell? ⟨b2, off2 + j, none⟩ = some (.int .u64 x)) [14, 16] (by kernel_rfl) (HJ.out _ (Kp.refl wr).drew) (fun hHeld => ?_)
            (refine draw_free (i := 0) (v := ?_) rfl ?_ ?_; rotate_left; (intro w; go_simp; try with_reducible rfl)); (try simp only [Act.put, List.setIfInBounds_toArray, List.set_cons_zero, List.set_cons_succ])
            (refine draw_in (i := 1) (v := ?_) rfl ?_ ?_; rotate_left; (intro w hSw; (try dsimp only at hSw); go_simp; try with_reducible rfl)); (try simp only [Act.put, List.setIfInBounds_toArray, List.set_cons_zero, List.set_cons_succ])
            (refine draw_free (i := 2) (v := ?_) rfl ?_ ?_; rotate_left; (intro w; go_simp; try with_reducible rfl)); (try simp only [Act.put, List.setIfInBounds_toArray, List.set_cons_zero, List.set_cons_succ])
            (refine draw_free (i := 3) (v := ?_) rfl ?_ ?_; rotate_left; (intro w; go_simp; try with_reducible rfl)); (try simp only [Act.put, List.setIfInBounds_toArray, List.set_cons_zero, List.set_cons_succ])
            (refine draw_in (i := 4) (v := ?_) rfl ?_ ?_; rotate_left; (intro w hSw; (try dsimp only at hSw); go_simp; try with_reducible rfl)); (try simp only [Act.put, List.setIfInBounds_toArray, List.set_cons_zero, List.set_cons_succ])
            (refine draw_free (i := 5) (v := ?_) rfl ?_ ?_; rotate_left; (intro w; go_simp; try with_reducible rfl)); (try simp only [Act.put, List.setIfInBounds_toArray, List.set_cons_zero, List.set_cons_succ])
            (refine draw_in (i := 6) (v := ?_) rfl ?_ ?_; rotate_left; (intro w hSw; (try dsimp only at hSw); go_simp; try with_reducible rfl)); (try simp only [Act.put, List.setIfInBounds_toArray, List.set_cons_zero, List.set_cons_succ])
            (refine draw_free (i := 7) (v := ?_) rfl ?_ ?_; rotate_left; (intro w; go_simp; try with_reducible rfl)); (try simp only [Act.put, List.setIfInBounds_toArray, List.set_cons_zero, List.set_cons_succ])
            (refine draw_in (i := 8) (v := ?_) rfl ?_ ?_; rotate_left; (intro w hSw; (try dsimp only at hSw); go_simp; try with_reducible rfl)); (try simp only [Act.put, List.setIfInBounds_toArray, List.set_cons_zero, List.set_cons_succ])
            (refine draw_in (i := 9) (v := ?_) rfl ?_ ?_; rotate_left; (intro w hSw; (try dsimp only at hSw); go_simp; try with_reducible rfl)); (try simp only [Act.put, List.setIfInBounds_toArray, List.set_cons_zero, List.set_cons_succ])
            (refine draw_free (i := 10) (v := ?_) rfl ?_ ?_; rotate_left; (intro w; go_simp; try with_reducible rfl)); (try simp only [Act.put, List.setIfInBounds_toArray, List.set_cons_zero, List.set_cons_succ])
            refine draw_one (i := 11) ?_
            refine comes_turn (i := 11) rfl (fun K hK => ?_)
            go_simp
            refine hK.out _ _ ?_ (fun hHeld => ?_)
            · (try dsimp only); (first | exact HJ.out _ XM.out | exact HJ.out _ (XM.out.alloc _))
            clear hK K; (try simp only [Act.put, List.setIfInBounds_toArray, List.set_cons_zero, List.set_cons_succ])
            (refine draw_free (i := 12) (v := ?_) rfl ?_ ?_; rotate_left; (intro w; go_simp; try with_reducible rfl)); (try simp only [Act.put, List.setIfInBounds_toArray, List.set_cons_zero, List.set_cons_succ])
            refine draw_one (i := 13) ?_
            refine comes_turn (i := 13) rfl (fun K hK => ?_)
            go_simp
            refine hK.out _ _ ?_ (fun hHeld => ?_)
            · (try dsimp only); (first | exact HJ.out _ XM.out | exact HJ.out _ (XM.out.alloc _))
            clear hK K; (try simp only [Act.put, List.setIfInBounds_toArray, List.set_cons_zero, List.set_cons_succ])
            refine draw_one (i := 14) ?_
            refine comes_late (i := 14) rfl (by kernel_rfl) (fun K hK => ?_)
            refine draw_appN elem_u64 rfl _ _ rfl ((hex2.out.trans XM.out).alloc _) rfl ((HRj.out.ext XM.out).alloc _) rfl (CellsAt.one (fw wr.drew) (.int .u64 (fb wr.drew)) 50) (by rfl) (by simp [Value.oneCell']) (by omega) (by unfold maxLen; omega) ?_; intro v1 w6 hr1 hk1 hk2
            refine hK.out _ _ ?_
            clear hK K; (try simp only [Act.put, List.setIfInBounds_toArray, List.set_cons_zero, List.set_cons_succ])
            (refine draw_free (i := 15) (v := ?_) rfl ?_ ?_; rotate_left; (intro w; go_simp; try with_reducible rfl)); (try simp only [Act.put, List.setIfInBounds_toArray, List.set_cons_zero, List.set_cons_succ])
            refine draw_one (i := 16) ?_
            refine comes_late (i := 16) rfl (by kernel_rfl) (fun K hK => ?_)
            (obtain ⟨b6, c6, ev6, _, _⟩ := hr1.shape; subst ev6; have hB6 : Blk w6 gx [.string p, .int .u64 y, .slice ba j bc] 53 := ((HBj.out.ext XM.out).alloc _).kp hk2 (fun e => (by obtain ⟨cs, hb⟩ := HRj.out.blkOf e; exact typ_uk (blk_ne hb HBj.out))); have x6 : w6.cell? ⟨gx, 2, none⟩ = some (.slice ba j bc) := (by rw [hB6.cell']; rfl); have x6f := hB6.free 2; have HA := Lib.hid (And.intro hr1 (And.intro hk1 hB6)); clear hr1 hk1 hk2 hB6)
            go_simp
            refine hK.out _ _ ?_
            clear hK K; (try simp only [Act.put, List.setIfInBounds_toArray, List.set_cons_zero, List.set_cons_succ])
            refine wpAnyD_done (by kernel_rfl) ?_ _
            obtain ⟨hr1, hk1, hB6⟩ := HA.out
            obtain ⟨w7, ew7⟩ : ∃ w7, w6.setCell ⟨gx, 2, none⟩ (.slice b6 (j + 1) c6) = w7 := ⟨_, rfl⟩
            have hk67 : Kp (fun k => k = gx) w6 w7 := by rw [← ew7]; exact Kp.setCell (F := fun k => k = gx) (Kp.refl w6) (fun _ => rfl) _
            have hB7 : Blk w7 gx [.string p, .int .u64 y, .slice b6 (j + 1) c6] 53 := by rw [← ew7]; exact hB6.set 2 _
            have hx7 : Ext w5 w7 := by rw [← ew7]; exact Kp.setCell (F := fun _ => False) hk1 (fun h => by have := EGX.out; simp only at h; omega) _
            have hr7 := hr1.kp' hk67 fun g hg _ e => by
              obtain ⟨cs, hb⟩ := hr1.blkOf hg
              subst e
              exact typ_uk (blk_ne hb hB6)
            have e7 : words (zs ++ [fb wr.drew]) = words zs ++ [.int .u64 (fb wr.drew)] := by simp [words]
            rw [← e7] at hr7
            clear e7
            have HFin := Lib.hid (show ∃ (dv : Value) (zs : List Nat), zs.length = j + 1 ∧ (∀ z ∈ zs, z < 18446744073709551616) ∧ Blk w7 gx [.string p, .int .u64 y, dv] 53 ∧ Row w7 50 1 dv (j + 1) (words zs) (New w5) from ⟨_, _, by rw [List.length_append, HZs.out.1]; rfl, fun z hz => by
              rcases List.mem_append.1 hz with hz | hz
              · exact HZs.out.2 z hz
              · rw [List.mem_singleton] at hz; subst hz; exact HFB.out.1 _, hB7, hr7⟩)
            have HX7 := Lib.hid hx7
            rw [ew7]
            clear hr1 hk1 hB6 hk67 hB7 hx7 hr7 g2f x6 x6f HA ew7 hHeld hmul HFB
            go_wp2
            go_roundw
            case rel => exact ⟨j + 1, by omega, by first | rfl | (congr 1; done) | (congr 1; omega), HFin.out, HX7.out⟩
            case measure => simp [intOf]; omega
          · obtain rfl : j = m := by omega
            obtain ⟨T, vs, hT, hvs, hrow, hds, hal⟩ := hin.out
            obtain ⟨oa, oc, eov, _, _⟩ := hrow.shape
            subst eov
            have l0 : wr.cell? ⟨gx, 0, none⟩ = some (.string p) := by rw [HBj.out.cell']; rfl
            have l1 : wr.cell? ⟨gx, 1, none⟩ = some (.int .u64 y) := by rw [HBj.out.cell']; rfl
            have l2 : wr.cell? ⟨gx, 2, none⟩ = some (.slice ba j bc) := by rw [HBj.out.cell']; rfl
            have HRo := Lib.hid (hrow.ext hex2.out)
            have HDs := Lib.hid (And.intro hvs (And.intro hT (And.intro hal (fun x hx => Row.ext (hds x hx) hex2.out))))
            have hXw := hex.out.trans hex2.out
            clear hvs hT hrow hds hal hin
            go_wp2_with (first | (at_builtin; refine Halted.out ?_))
            refine Halted.mk (wp_appN (m := 1) (n := i) elem_known rfl _ _ rfl (hXw.alloc _) rfl (HRo.out.alloc _) rfl (CellsAt.new wr [.string p, .int .u64 y, .slice ba j bc] 53) (by rfl) (by simp [Value.oneCell']) (by omega) (by unfold maxLen; omega) ?_)
            intro v1 w6 hr1 hk1 hk2 _
            have HFin := Lib.hid (show ∃ (T : List StatZ) (vs : List (Option Addr × Nat)), T.length = i + 1 ∧ vs.length = i + 1 ∧ Row w6 53 3 v1 (i + 1) ((T.zip vs).flatMap knownC) (New w) ∧ (∀ x ∈ T.zip vs, WordsAt w w6 x) ∧ AlikeTo S T (i + 1) by
              have hlen : T.length = vs.length := by rw [HDs.out.1, HDs.out.2.1]
              have hkd : ∀ x, WordsAt w (wr.alloc (.cells #[.string p, .int .u64 y, .slice ba j bc] 53)) x → WordsAt w w6 x := fun x hx => Row.kp' hx hk2 fun g hg _ e => by
                obtain ⟨cs, hb⟩ := (HRo.out.alloc _).blkOf e
                obtain ⟨cs', hb'⟩ := Row.blkOf hx hg
                exact typ_uk (blk_ne hb' hb)
              refine ⟨T ++ [(p, y, zs, ())], vs ++ [(ba, bc)], by rw [List.length_append, HDs.out.2.1]; rfl, by rw [List.length_append, HDs.out.1]; rfl, ?_, ?_, ?_⟩
              · rw [List.zip_append hlen, List.flatMap_append]
                have e2 : (([((p, y, zs, ()) : StatZ)].zip [(ba, bc)]).flatMap knownC) = [.string p, .int .u64 y, .slice ba j bc] := by
                  show [Value.string p, .int .u64 y, .slice ba zs.length bc] ++ [] = _
                  rw [List.append_nil, HZs.out.1]
                rw [e2]; exact hr1
              · intro x hx
                rw [List.zip_append hlen, List.mem_append] at hx
                rcases hx with hx | hx
                · exact hkd _ (Row.alloc (HDs.out.2.2.2 x hx) _)
                · simp at hx; subst hx
                  refine hkd _ (Row.alloc (show Row wr 50 1 (.slice ba zs.length bc) zs.length (words zs) (New w) from ?_) _)
                  rw [HZs.out.1]
                  exact HRj.out.mono (M' := New w) fun g hg => Nat.le_trans hex.out.size hg
              · refine AlikeTo.snoc HDs.out.2.2.1 HDs.out.2.1 HS.out.1 ⟨HS.out.2.1, ?_, HY.out, HZs.out.2⟩
                show zs.length = _
                rw [HZs.out.1, EM.out, HS.out.2.2])
            have HX6 := Lib.hid hk1
            clear hr1 hk1 hk2 l0 l1 l2 hXw c2
            go_wp2
            go_roundw
            case rel => exact ⟨i + 1, by omega, by first | rfl | (congr 1; done) | (congr 1; omega), HFin.out, HX6.out⟩
            case measure => simp [intOf]; omega
      · refine comes_turn (i := 14) rfl (fun K hK => ?_)
        go_simp
        refine hK.out _ _ ?_ (fun hHeld => ?_)
        · (try dsimp only); (first | exact HCells.out _ ((Kp.refl wr).drew.trans (HFB.out.2 _)) | exact HCells.out _ ((Kp.refl wr).alloc _).drew | exact HCells.out _ (((Kp.refl wr).drew.trans (HFB.out.2 _)).alloc _) | exact HCells.out _ ((((Kp.refl wr).alloc _).drew).trans (HFB.out.2 _)))
        clear hK K; (try simp only [Act.put, List.setIfInBounds_toArray, List.set_cons_zero, List.set_cons_succ])
        refine draw_one (i := 11) ?_
        refine comes_turn (i := 11) rfl (fun K hK => ?_)
        go_simp
        refine hK.out _ _ ?_ (fun hHeld => ?_)
        · (try dsimp only); (first | exact HCells.out _ ((Kp.refl wr).drew.trans (HFB.out.2 _)) | exact HCells.out _ ((Kp.refl wr).alloc _).drew | exact HCells.out _ (((Kp.refl wr).drew.trans (HFB.out.2 _)).alloc _) | exact HCells.out _ ((((Kp.refl wr).alloc _).drew).trans (HFB.out.2 _)))
        clear hK K; (try simp only [Act.put, List.setIfInBounds_toArray, List.set_cons_zero, List.set_cons_succ])
        (refine draw_free (i := 12) (v := ?_) rfl ?_ ?_; rotate_left; (intro w; go_simp; try with_reducible rfl)); (try simp only [Act.put, List.setIfInBounds_toArray, List.set_cons_zero, List.set_cons_succ])
        (refine draw_free (i := 13) (v := ?_) rfl ?_ ?_; rotate_left; (intro w; go_simp; try with_reducible rfl)); (try simp only [Act.put, List.setIfInBounds_toArray, List.set_cons_zero, List.set_cons_succ])
        refine draw_one (i := 15) ?_
        refine comes_late (i := 15) rfl (by kernel_rfl) (fun K hK => ?_)
        ((first | (obtain ⟨w3, e3⟩ : ∃ x, (fw wr.drew).alloc (.cells #[.string ⟨#[]⟩, .int .u64 0, .slice none 0 0] 53) = x := ⟨_, rfl⟩; rw [e3]; obtain ⟨gx, eg⟩ : ∃ g, g = (fw wr.drew).heap.size := ⟨_, rfl⟩; rw [← eg]; obtain ⟨y, ey⟩ : ∃ y, fb wr.drew = y := ⟨_, rfl⟩; rw [ey]; have HZ := Lib.hid (show Blk w3 gx [.string ⟨#[]⟩, .int .u64 0, .slice none 0 0] 53 from (by rw [← e3, eg]; exact Blk.new _ _ _)); have X3 := Lib.hid (show Ext wr w3 from (by rw [← e3]; exact ((Kp.refl wr).drew.trans (HFB.out.2 _)).alloc _)); have EGX := Lib.hid (show wr.heap.size ≤ gx from (by rw [eg]; exact ((Kp.refl (F := fun _ => False) wr).drew.trans (HFB.out.2 _)).size))) | (obtain ⟨w3, e3⟩ : ∃ x, fw ((wr.alloc (.cells #[.string ⟨#[]⟩, .int .u64 0, .slice none 0 0] 53)).drew) = x := ⟨_, rfl⟩; rw [e3]; obtain ⟨gx, eg⟩ : ∃ g, g = wr.heap.size := ⟨_, rfl⟩; rw [← eg]; obtain ⟨y, ey⟩ : ∃ y, fb ((wr.alloc (.cells #[.string ⟨#[]⟩, .int .u64 0, .slice none 0 0] 53)).drew) = y := ⟨_, rfl⟩; rw [ey]; have HZ := Lib.hid (show Blk w3 gx [.string ⟨#[]⟩, .int .u64 0, .slice none 0 0] 53 from (by rw [← e3, eg]; exact ((Blk.new wr _ _).drew).ext (HFB.out.2 _))); have X3 := Lib.hid (show Ext wr w3 from (by rw [← e3]; exact (((Kp.refl wr).alloc _).drew).trans (HFB.out.2 _))); have EGX := Lib.hid (show wr.heap.size ≤ gx from (by rw [eg]; exact Nat.le_refl _)))); have HY := Lib.hid (show y < 18446744073709551616 from (by rw [← ey]; exact HFB.out.1 _)); clear e3 eg ey; have z0 : w3.cell? ⟨gx, 0, none⟩ = some (.string ⟨#[]⟩) := (by rw [HZ.out.cell']; rfl); have z1 : w3.cell? ⟨gx, 1, none⟩ = some (.int .u64 0) := (by rw [HZ.out.cell']; rfl); have z2 : w3.cell? ⟨gx, 2, none⟩ = some (.slice none 0 0) := (by rw [HZ.out.cell']; rfl); have f0 := HZ.out.free 0; have f1 := HZ.out.free 1; have f2 := HZ.out.free 2)
        go_simp
        refine hK.out _ _ ?_
        clear hK K; (try simp only [Act.put, List.setIfInBounds_toArray, List.set_cons_zero, List.set_cons_succ])
        refine wpAnyD_done (by kernel_rfl) ?_ _
        obtain ⟨w2, ew2⟩ : ∃ x, ((w3.setCell ⟨gx, 0, none⟩ (.string p)).setCell ⟨gx, 1, none⟩ (.int .u64 y)).setCell ⟨gx, 2, none⟩ (.slice none 0 0) = x := ⟨_, rfl⟩
        rw [ew2]
        have HGX := Lib.hid (show Blk w2 gx [.string p, .int .u64 y, .slice none 0 0] 53 by rw [← ew2]; exact ((HZ.out.set 0 _).set 1 _).set 2 _)
        have X2 := Lib.hid (show Ext wr w2 from by
          rw [← ew2]
          have hno : ∀ c, (⟨gx, c, none⟩ : Addr).block < wr.heap.size → False := fun c h => by have := EGX.out; simp only at h; omega
          exact ((X3.out.setCell (fun h => hno 0 h) _).setCell (fun h => hno 1 h) _).setCell (fun h => hno 2 h) _)
        clear ew2 hHeld z0 z1 z2 f0 f1 f2 HZ X3 hadd HFB
        go_wp2
        generalize hw5 : wr = w5 at *; clear hw5
        go_loopw [6] (fun kv wk => WordsTo p y gx w5 m kv wk) (fun kv _ => m - (intOf kv).toNat)
        case atStart => exact ⟨0, Nat.zero_le _, rfl, ⟨_, [], rfl, fun z hz => by simp at hz, HGX.out, Row.nil _ _ _ _⟩, X2.out⟩
        case round =>
          obtain ⟨j, hj, rfl, hin2, hex2⟩ := hrel
          obtain ⟨dv, zs, hzl, hzw, hB, hr⟩ := hin2.out
          obtain ⟨ba, bc, edv, _, _⟩ := hr.shape
          subst edv
          have c2 := hex2.out.cell HC2.out id
          have HBj := Lib.hid hB
          have HRj := Lib.hid hr
          have HZs := Lib.hid (And.intro hzl hzw)
          clear hin2 hB hr hzl hzw
          by_cases hlt2 : j < m
          · obtain ⟨x, hx⟩ : ∃ x, ds[j]? = some x := ⟨_, List.getElem?_eq_getElem (by rw [← EM.out]; exact hlt2)⟩
            obtain ⟨b2, off2, eda, e0⟩ := HD.out.word hx
            subst eda
            replace e0 := hex2.out.cell e0 id
            have g2 : wr.cell? ⟨gx, 2, none⟩ = some (.slice ba j bc) := by rw [HBj.out.cell']; rfl
            have g2f := HBj.out.free 2
            clear hx
            obtain ⟨fb, fw, hmul, hfb, hfw⟩ := arith_some .mul (.inr rfl) 37 x 4611686018427387904
            have HFB := Lib.hid (And.intro hfb hfw)
            clear hfb hfw
            go_wp2
            have HJ := Lib.hid (show ∀ w', Ext wr w' → (fun w' : World => w'.cell? ⟨gx, 2, none⟩ = some (.slice ba j bc) ∧ w'.cell? ⟨b, off + i * 3 + 2, none⟩ = some (.slice (some ⟨b2, off2, none⟩) m dcap) ∧ w'.cell? ⟨b2, off2 + j, none⟩ = some (.int .u64 x)) w' from fun w' hw => ⟨hw.cell g2 id, hw.cell c2 id, hw.cell e0 id⟩)
            clear g2 c2 e0
            have XM := Lib.hid (show Ext wr (fw wr.drew) from (Kp.refl wr).drew.trans (HFB.out.2 _))
            refine draw_begin (fun w' : World => w'.cell? ⟨gx, 2, none⟩ = some (.slice ba j bc) ∧ w'.cell? ⟨b, off + i * 3 + 2, none⟩ = some (.slice (some ⟨b2, off2, none⟩) m dcap) ∧ w'.cell? ⟨b2, off2 + j, none⟩ = some (.int .u64 x)) [14, 16] (by kernel_rfl) (HJ.out _ (Kp.refl wr).drew) (fun hHeld => ?_)
            (refine draw_free (i := 0) (v := ?_) rfl ?_ ?_; rotate_left; (intro w; go_simp; try with_reducible rfl)); (try simp only [Act.put, List.setIfInBounds_toArray, List.set_cons_zero, List.set_cons_succ])
            (refine draw_in (i := 1) (v := ?_) rfl ?_ ?_; rotate_left; (intro w hSw; (try dsimp only at hSw); go_simp; try with_reducible rfl)); (try simp only [Act.put, List.setIfInBounds_toArray, List.set_cons_zero, List.set_cons_succ])
            (refine draw_free (i := 2) (v := ?_) rfl ?_ ?_; rotate_left; (intro w; go_simp; try with_reducible rfl)); (try simp only [Act.put, List.setIfInBounds_toArray, List.set_cons_zero, List.set_cons_succ])
            (refine draw_free (i := 3) (v := ?_) rfl ?_ ?_; rotate_left; (intro w; go_simp; try with_reducible rfl)); (try simp only [Act.put, List.setIfInBounds_toArray, List.set_cons_zero, List.set_cons_succ])
            (refine draw_in (i := 4) (v := ?_) rfl ?_ ?_; rotate_left; (intro w hSw; (try dsimp only at hSw); go_simp; try with_reducible rfl)); (try simp only [Act.put, List.setIfInBounds_toArray, List.set_cons_zero, List.set_cons_succ])
            (refine draw_free (i := 5) (v := ?_) rfl ?_ ?_; rotate_left; (intro w; go_simp; try with_reducible rfl)); (try simp only [Act.put, List.setIfInBounds_toArray, List.set_cons_zero, List.set_cons_succ])
            (refine draw_in (i := 6) (v := ?_) rfl ?_ ?_; rotate_left; (intro w hSw; (try dsimp only at hSw); go_simp; try with_reducible rfl)); (try simp only [Act.put, List.setIfInBounds_toArray, List.set_cons_zero, List.set_cons_succ])
            (refine draw_free (i := 7) (v := ?_) rfl ?_ ?_; rotate_left; (intro w; go_simp; try with_reducible rfl)); (try simp only [Act.put, List.setIfInBounds_toArray, List.set_cons_zero, List.set_cons_succ])
            (refine draw_in (i := 8) (v := ?_) rfl ?_ ?_; rotate_left; (intro w hSw; (try dsimp only at hSw); go_simp; try with_reducible rfl)); (try simp only [Act.put, List.setIfInBounds_toArray, List.set_cons_zero, List.set_cons_succ])
            (refine draw_in (i := 9) (v := ?_) rfl ?_ ?_; rotate_left; (intro w hSw; (try dsimp only at hSw); go_simp; try with_reducible rfl)); (try simp only [Act.put, List.setIfInBounds_toArray, List.set_cons_zero, List.set_cons_succ])
            (refine draw_free (i := 10) (v := ?_) rfl ?_ ?_; rotate_left; (intro w; go_simp; try with_reducible rfl)); (try simp only [Act.put, List.setIfInBounds_toArray, List.set_cons_zero, List.set_cons_succ])
            refine draw_one (i := 11) ?_
            refine comes_turn (i := 11) rfl (fun K hK => ?_)
            go_simp
            refine hK.out _ _ ?_ (fun hHeld => ?_)
            · (try dsimp only); (first | exact HJ.out _ XM.out | exact HJ.out _ (XM.out.alloc _))
            clear hK K; (try simp only [Act.put, List.setIfInBounds_toArray, List.set_cons_zero, List.set_cons_succ])
            (refine draw_free (i := 12) (v := ?_) rfl ?_ ?_; rotate_left; (intro w; go_simp; try with_reducible rfl)); (try simp only [Act.put, List.setIfInBounds_toArray, List.set_cons_zero, List.set_cons_succ])
            refine draw_one (i := 13) ?_
            refine comes_turn (i := 13) rfl (fun K hK => ?_)
            go_simp
            refine hK.out _ _ ?_ (fun hHeld => ?_)
            · (try dsimp only); (first | exact HJ.out _ XM.out | exact HJ.out _ (XM.out.alloc _))
            clear hK K; (try simp only [Act.put, List.setIfInBounds_toArray, List.set_cons_zero, List.set_cons_succ])
            refine draw_one (i := 14) ?_
            refine comes_late (i := 14) rfl (by kernel_rfl) (fun K hK => ?_)
            refine draw_appN elem_u64 rfl _ _ rfl ((hex2.out.trans XM.out).alloc _) rfl ((HRj.out.ext XM.out).alloc _) rfl (CellsAt.one (fw wr.drew) (.int .u64 (fb wr.drew)) 50) (by rfl) (by simp [Value.oneCell']) (by omega) (by unfold maxLen; omega) ?_; intro v1 w6 hr1 hk1 hk2
            refine hK.out _ _ ?_
            clear hK K; (try simp only [Act.put, List.setIfInBounds_toArray, List.set_cons_zero, List.set_cons_succ])
            (refine draw_free (i := 15) (v := ?_) rfl ?_ ?_; rotate_left; (intro w; go_simp; try with_reducible rfl)); (try simp only [Act.put, List.setIfInBounds_toArray, List.set_cons_zero, List.set_cons_succ])
            refine draw_one (i := 16) ?_
            refine comes_late (i := 16) rfl (by kernel_rfl) (fun K hK => ?_)
            (obtain ⟨b6, c6, ev6, _, _⟩ := hr1.shape; subst ev6; have hB6 : Blk w6 gx [.string p, .int .u64 y, .slice ba j bc] 53 := ((HBj.out.ext XM.out).alloc _).kp hk2 (fun e => (by obtain ⟨cs, hb⟩ := HRj.out.blkOf e; exact typ_uk (blk_ne hb HBj.out))); have x6 : w6.cell? ⟨gx, 2, none⟩ = some (.slice ba j bc) := (by rw [hB6.cell']; rfl); have x6f := hB6.free 2; have HA := Lib.hid (And.intro hr1 (And.intro hk1 hB6)); clear hr1 hk1 hk2 hB6)
            go_simp
            refine hK.out _ _ ?_
            clear hK K; (try simp only [Act.put, List.setIfInBounds_toArray, List.set_cons_zero, List.set_cons_succ])
            refine wpAnyD_done (by kernel_rfl) ?_ _
            obtain ⟨hr1, hk1, hB6⟩ := HA.out
            obtain ⟨w7, ew7⟩ : ∃ w7, w6.setCell ⟨gx, 2, none⟩ (.slice b6 (j + 1) c6) = w7 := ⟨_, rfl⟩
            have hk67 : Kp (fun k => k = gx) w6 w7 := by rw [← ew7]; exact Kp.setCell (F := fun k => k = gx) (Kp.refl w6) (fun _ => rfl) _
            have hB7 : Blk w7 gx [.string p, .int .u64 y, .slice b6 (j + 1) c6] 53 := by rw [← ew7]; exact hB6.set 2 _
            have hx7 : Ext w5 w7 := by rw [← ew7]; exact Kp.setCell (F := fun _ => False) hk1 (fun h => by have := EGX.out; simp only at h; omega) _
            have hr7 := hr1.kp' hk67 fun g hg _ e => by
              obtain ⟨cs, hb⟩ := hr1.blkOf hg
              subst e
              exact typ_uk (blk_ne hb hB6)
            have e7 : words (zs ++ [fb wr.drew]) = words zs ++ [.int .u64 (fb wr.drew)] := by simp [words]
            rw [← e7] at hr7
            clear e7
            have HFin := Lib.hid (show ∃ (dv : Value) (zs : List Nat), zs.length = j + 1 ∧ (∀ z ∈ zs, z < 18446744073709551616) ∧ Blk w7 gx [.string p, .int .u64 y, dv] 53 ∧ Row w7 50 1 dv (j + 1) (words zs) (New w5) from ⟨_, _, by rw [List.length_append, HZs.out.1]; rfl, fun z hz => by
              rcases List.mem_append.1 hz with hz | hz
              · exact HZs.out.2 z hz
              · rw [List.mem_singleton] at hz; subst hz; exact HFB.out.1 _, hB7, hr7⟩)
            have HX7 := Lib.hid hx7
            rw [ew7]
            clear hr1 hk1 hB6 hk67 hB7 hx7 hr7 g2f x6 x6f HA ew7 hHeld hmul HFB
            go_wp2
            go_roundw
            case rel => exact ⟨j + 1, by omega, by first | rfl | (congr 1; done) | (congr 1; omega), HFin.out, HX7.out⟩
            case measure => simp [intOf]; omega
          · obtain rfl : j = m := by omega
            obtain ⟨T, vs, hT, hvs, hrow, hds, hal⟩ := hin.out
            obtain ⟨oa, oc, eov, _, _⟩ := hrow.shape
            subst eov
            have l0 : wr.cell? ⟨gx, 0, none⟩ = some (.string p) := by rw [HBj.out.cell']; rfl
            have l1 : wr.cell? ⟨gx, 1, none⟩ = some (.int .u64 y) := by rw [HBj.out.cell']; rfl
            have l2 : wr.cell? ⟨gx, 2, none⟩ = some (.slice ba j bc) := by rw [HBj.out.cell']; rfl
            have HRo := Lib.hid (hrow.ext hex2.out)
            have HDs := Lib.hid (And.intro hvs (And.intro hT (And.intro hal (fun x hx => Row.ext (hds x hx) hex2.out))))
            have hXw := hex.out.trans hex2.out
            clear hvs hT hrow hds hal hin
            go_wp2_with (first | (at_builtin; refine Halted.out ?_))
            refine Halted.mk (wp_appN (m := 1) (n := i) elem_known rfl _ _ rfl (hXw.alloc _) rfl (HRo.out.alloc _) rfl (CellsAt.new wr [.string p, .int .u64 y, .slice ba j bc] 53) (by rfl) (by simp [Value.oneCell']) (by omega) (by unfold maxLen; omega) ?_)
            intro v1 w6 hr1 hk1 hk2 _
            have HFin := Lib.hid (show ∃ (T : List StatZ) (vs : List (Option Addr × Nat)), T.length = i + 1 ∧ vs.length = i + 1 ∧ Row w6 53 3 v1 (i + 1) ((T.zip vs).flatMap knownC) (New w) ∧ (∀ x ∈ T.zip vs, WordsAt w w6 x) ∧ AlikeTo S T (i + 1) by
              have hlen : T.length = vs.length := by rw [HDs.out.1, HDs.out.2.1]
              have hkd : ∀ x, WordsAt w (wr.alloc (.cells #[.string p, .int .u64 y, .slice ba j bc] 53)) x → WordsAt w w6 x := fun x hx => Row.kp' hx hk2 fun g hg _ e => by
                obtain ⟨cs, hb⟩ := (HRo.out.alloc _).blkOf e
                obtain ⟨cs', hb'⟩ := Row.blkOf hx hg
                exact typ_uk (blk_ne hb' hb)
              refine ⟨T ++ [(p, y, zs, ())], vs ++ [(ba, bc)], by rw [List.length_append, HDs.out.2.1]; rfl, by rw [List.length_append, HDs.out.1]; rfl, ?_, ?_, ?_⟩
              · rw [List.zip_append hlen, List.flatMap_append]
                have e2 : (([((p, y, zs, ()) : StatZ)].zip [(ba, bc)]).flatMap knownC) = [.string p, .int .u64 y, .slice ba j bc] := by
                  show [Value.string p, .int .u64 y, .slice ba zs.length bc] ++ [] = _
                  rw [List.append_nil, HZs.out.1]
                rw [e2]; exact hr1
              · intro x hx
                rw [List.zip_append hlen, List.mem_append] at hx
                rcases hx with hx | hx
                · exact hkd _ (Row.alloc (HDs.out.2.2.2 x hx) _)
                · simp at hx; subst hx
                  refine hkd _ (Row.alloc (show Row wr 50 1 (.slice ba zs.length bc) zs.length (words zs) (New w) from ?_) _)
                  rw [HZs.out.1]
                  exact HRj.out.mono (M' := New w) fun g hg => Nat.le_trans hex.out.size hg
              · refine AlikeTo.snoc HDs.out.2.2.1 HDs.out.2.1 HS.out.1 ⟨HS.out.2.1, ?_, HY.out, HZs.out.2⟩
                show zs.length = _
                rw [HZs.out.1, EM.out, HS.out.2.2])
            have HX6 := Lib.hid hk1
            clear hr1 hk1 hk2 l0 l1 l2 hXw c2
            go_wp2
            go_roundw
            case rel => exact ⟨i + 1, by omega, by first | rfl | (congr 1; done) | (congr 1; omega), HFin.out, HX6.out⟩
            case measure => simp [intOf]; omega
    · obtain rfl : i = n := by omega
      obtain ⟨T, vs, hT, hvs, hrow, hds, hal⟩ := hin.out
      obtain ⟨oa, oc, eov, h2, h1, h3⟩ := hrow.cap
      have HSt := Lib.hid (And.intro (known_cells (hvs.trans hT.symm) hrow hds eov) (And.intro hT hal))
      subst eov
      clear hvs hT hrow hds hin hal h2
      go_wp2
      go_ret
      exact RetN.mk hex.out ⟨_, _, T, rfl, h1, h3, HSt.out.2.1, HSt.out.1, HSt.out.2.2⟩
end Go.Proofs.Ytcphalpcdcddpaa

/- The law of costs: memory of one's own that is written over: copy, counts one by one. -/
namespace Go.Proofs.Ytcphalpcdcddpaa
open Go.RowKit
set_option linter.unusedVariables false

section
variable {P : Program} {w : World} {t e : TypeId} {bytes : Nat} {z : Value}
theorem blk_setRow {g : Nat} {cur cs : List Value} (h : Blk w g cur e) : Blk (w.setRow g cs.toArray) g cs e := setRow_heap w g _ _ e _ h
theorem kp_setRow (g : Nat) (cs : Array Value) : Kp (fun k => k = g) w (w.setRow g cs) :=
  ⟨rfl, rfl, rfl, by simp [World.setRow], fun k _ hf => setRow_other w g k cs hf⟩
/-- copy(d, s) into a known block. -/
theorem run_copyB (E : ElemT P t e 1 bytes z) {g off dLen dCap : Nat} {cur : List Value} {e' : TypeId} (hB : Blk w g cur e') {dp sp : Option Addr} {sLen sCap : Nat}
    {cs : List Value} (hl : cs.length = Nat.min sLen dLen) (hdp : 0 < cs.length → dp = some ⟨g, off, none⟩) (hsrc : CellsAt w sp cs) (hfit : off + cs.length ≤ cur.length) (h1 : ∀ u ∈ cs, u.oneCell' = true) :
    ∃ w', (∀ ty, (Builtin.copy_ #[t, t] ty #[.slice dp dLen dCap, .slice sp sLen sCap]).run P w = .ok (goInt cs.length) w') ∧ Kp (fun k => k = g) w w' ∧ Blk w' g (splice cur off cs) e' := by
  obtain ⟨ht, hi, hz, hk⟩ := E
  obtain ⟨i, hi, hz1, hz2, hz3⟩ := info_parts hi
  have hsz : (P.info? e).map (·.size) = some 1 := by rw [hi]; simp [hz2]
  by_cases h0 : cs.length = 0
  · obtain rfl : cs = [] := List.eq_nil_of_length_eq_zero h0
    exact ⟨w, fun ty => run_copy_none (P := P) w t t ty e dp sp dLen dCap sLen sCap ht hsz (by simpa using hl.symm), Kp.refl w, hB.congrL (by simp [splice])⟩
  · have hdp := hdp (by omega)
    subst hdp
    obtain ⟨b, off', rfl, hlt⟩ := hsrc.off (by rintro rfl; simp at h0)
    have hb := blk_setRow (cs := cur.take off ++ (cs ++ cur.drop (off + cs.length))) hB
    refine ⟨_, fun ty => run_copy_row (P := P) w t t ty e g off dLen dCap ⟨b, off', none⟩ sLen sCap cur.toArray e' cs ht hsz hB hl (fun j v hj => ?_) (by simpa using hfit) h1, kp_setRow g _, by simpa [splice] using hb⟩
    obtain ⟨b', o', he, hc⟩ := hsrc j v hj
    cases he
    rw [Addr.add_lit]; exact hc
end

/-- Numbers with a mark, all of them written over. -/
theorem IntsM.copied {w0 w w' : World} {g n cap : Nat} {xs ys : List Int} (h : IntsM w0 w g n cap xs) (hl : ys.length = n) (hB : ∀ cur, Blk w g cur 3 → Blk w' g (splice cur 0 (ints ys)) 3) : IntsM w0 w' g n cap ys := by
  obtain ⟨rest, hn, h1, h2, hg, hb, hlen⟩ := h
  have hb' := hB _ hb
  have e : splice (ints (xs ++ [-77]) ++ rest) 0 (ints ys) = ints (ys ++ [-77]) ++ rest := by
    unfold splice
    have h1 : ints (xs ++ [-77]) = ints xs ++ ints [-77] := by simp [ints]
    have h2 : ints (ys ++ [-77]) = ints ys ++ ints [-77] := by simp [ints]
    have h3 : (ints xs).length = (ints ys).length := by rw [ints_len, ints_len, hl, hn]
    rw [h1, h2, List.take_zero, List.nil_append, Nat.zero_add, List.append_assoc, ← h3, List.drop_left, List.append_assoc]
  rw [e] at hb'
  refine ⟨rest, hl.symm, h1, h2, hg, hb', ?_⟩
  rw [← hlen]
  simp only [List.length_append, ints_len, hl, hn, List.length_cons, List.length_nil]

/-- What is known in memory of its own, by what lies where. -/
structure StatsZ (w0 w : World) (g n cap : Nat) (Z : List (StatZ × (Nat × Nat))) : Prop where
  body : ∃ rest : List Value, n = Z.length ∧ n + 1 ≤ cap ∧ cap ≤ maxLen ∧ w0.heap.size ≤ g ∧ (Z.map (·.2.1)).Nodup ∧ Blk w g (Z.flatMap statM ++ (markS ++ rest)) 56 ∧ ∀ x ∈ Z, DistM w0 w x
theorem StatsZ.m {w0 w : World} {g n cap : Nat} {Z : List (StatZ × (Nat × Nat))} (h : StatsZ w0 w g n cap Z) : StatsM w0 w g n cap (Z.map (·.1)) := by
  obtain ⟨rest, h1, h2, h3, h4, h5, h6, h7⟩ := h.body
  have e : (Z.map (·.1)).zip (Z.map (·.2)) = Z := by
    rw [List.zip_map']; simp
  exact ⟨rest, Z.map (·.2), by rw [List.length_map]; exact h1, h2, h3, h4, by rw [List.length_map, List.length_map], by rw [List.map_map]; exact h5, by rw [e]; exact h6, by rw [e]; exact h7⟩
theorem StatsM.z {w0 w : World} {g n cap : Nat} {S : List StatZ} (h : StatsM w0 w g n cap S) : ∃ Z, Z.map (·.1) = S ∧ StatsZ w0 w g n cap Z := by
  obtain ⟨rest, vs, h1, h2, h3, h4, h5, h6, h7, h8⟩ := h.body
  refine ⟨S.zip vs, List.map_fst_zip (by omega), rest, by rw [List.length_zip, h5, Nat.min_self, h1], h2, h3, h4, ?_, h7, h8⟩
  have e : (S.zip vs).map (·.2.1) = ((S.zip vs).map (·.2)).map (·.1) := by rw [List.map_map]; rfl
  rw [e, List.map_snd_zip (by omega)]; exact h6
/-- The blocks in which it lies. -/
def blksZ (g : Nat) (vs : List (Nat × Nat)) (k : Nat) : Prop := k = g ∨ ∃ v ∈ vs, v.1 = k
theorem StatsZ.kp {F : Nat → Prop} {w0 w w' : World} {g n cap : Nat} {Z : List (StatZ × (Nat × Nat))} (h : StatsZ w0 w g n cap Z) (hk : Kp F w w') (hF : ∀ k, blksZ g (Z.map (·.2)) k → ¬ F k) : StatsZ w0 w' g n cap Z := by
  obtain ⟨rest, h1, h2, h3, h4, h5, h6, h7⟩ := h.body
  exact ⟨rest, h1, h2, h3, h4, h5, h6.kp hk (hF g (.inl rfl)), fun x hx => (h7 x hx).kp hk (hF _ (.inr ⟨x.2, List.mem_map.2 ⟨x, hx, rfl⟩, rfl⟩))⟩
theorem StatsZ.lt {w0 w : World} {g n cap : Nat} {Z : List (StatZ × (Nat × Nat))} (h : StatsZ w0 w g n cap Z) : ∀ k, blksZ g (Z.map (·.2)) k → k < w.heap.size ∧ w0.heap.size ≤ k := by
  obtain ⟨rest, h1, h2, h3, h4, h5, h6, h7⟩ := h.body
  rintro k (rfl | ⟨v, hv, rfl⟩)
  · exact ⟨h6.lt, h4⟩
  · obtain ⟨x, hx, rfl⟩ := List.mem_map.1 hv
    obtain ⟨cs, hb⟩ := (h7 x hx).blk
    obtain ⟨_, _, _, h, _⟩ := h7 x hx
    exact ⟨hb.lt, h⟩
theorem StatsZ.ty {w0 w : World} {g n cap : Nat} {Z : List (StatZ × (Nat × Nat))} (h : StatsZ w0 w g n cap Z) : ∀ k, blksZ g (Z.map (·.2)) k → ∃ cs e, Blk w k cs e ∧ (e = 56 ∨ e = 37) := by
  obtain ⟨rest, h1, h2, h3, h4, h5, h6, h7⟩ := h.body
  rintro k (rfl | ⟨v, hv, rfl⟩)
  · exact ⟨_, _, h6, .inl rfl⟩
  · obtain ⟨x, hx, rfl⟩ := List.mem_map.1 hv
    obtain ⟨cs, hb⟩ := (h7 x hx).blk
    exact ⟨cs, _, hb, .inr rfl⟩

theorem flat_set {α : Type} (f : α → List Value) (k : Nat) (hk : ∀ x, (f x).length = k) : ∀ (L : List α) (i : Nat) (x y : α) (c : Nat) (v : Value), L[i]? = some x → c < k → f y = (f x).set c v → (L.flatMap f).set (i * k + c) v = (L.set i y).flatMap f
  | a :: L, 0, x, y, c, v, hi, hc, he => by
    cases hi
    rw [List.flatMap_cons, List.set_cons_zero, List.flatMap_cons, he, Nat.zero_mul, Nat.zero_add, List.set_append_left _ _ (by rw [hk]; exact hc)]
  | a :: L, i + 1, x, y, c, v, hi, hc, he => by
    have hi' : L[i]? = some x := by simpa using hi
    rw [List.flatMap_cons, List.set_cons_succ, List.flatMap_cons, ← flat_set f k hk L i x y c v hi' hc he, List.set_append_right _ _ (by rw [hk, Nat.succ_mul]; omega)]
    congr 2
    rw [hk, Nat.succ_mul]; omega

theorem set_same {α : Type} {xs : List α} {i : Nat} {x : α} (h : xs[i]? = some x) : xs.set i x = xs := by
  have hlt := (List.getElem?_eq_some_iff.1 h).1
  apply List.ext_getElem?
  intro j
  rw [List.getElem?_set]
  by_cases e : i = j
  · subst e; rw [if_pos rfl, if_pos hlt, h]
  · rw [if_neg e]
theorem StatsZ.setRows {w0 w : World} {g n cap : Nat} {Z : List (StatZ × (Nat × Nat))} (h : StatsZ w0 w g n cap Z) {i : Nat} {z : StatZ × (Nat × Nat)} (hi : Z[i]? = some z) (r : Nat) : StatsZ w0 (w.setCell ⟨g, i * 3 + 1, none⟩ (.float .f64 r)) g n cap (Z.set i ((z.1.1, r, z.1.2.2), z.2)) := by
  obtain ⟨rest, h1, h2, h3, h4, h5, h6, h7⟩ := h.body
  have hlt : i < Z.length := (List.getElem?_eq_some_iff.1 hi).1
  have hk : Kp (fun k => k = g) w (w.setCell ⟨g, i * 3 + 1, none⟩ (.float .f64 r)) := Kp.setCell (F := fun k => k = g) (Kp.refl w) (fun _ => rfl) _
  have hd : ∀ x ∈ Z, DistM w0 (w.setCell ⟨g, i * 3 + 1, none⟩ (.float .f64 r)) x := fun x hx => (h7 x hx).kp hk fun e => by
    obtain ⟨cs, hb⟩ := (h7 x hx).blk
    rw [e] at hb
    exact typ_fc (blk_ne hb h6)
  refine ⟨rest, by rw [List.length_set]; exact h1, h2, h3, h4, ?_, ?_, fun x hx => ?_⟩
  · have e : (Z.set i ((z.1.1, r, z.1.2.2), z.2)).map (·.2.1) = Z.map (·.2.1) := by
      rw [List.map_set]
      have := List.getElem?_map (f := fun x : StatZ × (Nat × Nat) => x.2.1) (l := Z) (i := i)
      rw [hi] at this
      exact set_same this
    rw [e]; exact h5
  · have hb := h6.set (i * 3 + 1) (.float .f64 r)
    rw [List.set_append_left _ _ (by rw [flat_len statM 3 statM_len]; omega), flat_set statM 3 statM_len Z i z ((z.1.1, r, z.1.2.2), z.2) 1 _ hi (by decide) rfl] at hb
    exact hb
  · rcases List.mem_or_eq_of_mem_set hx with hx | rfl
    · exact hd x hx
    · exact hd z (List.mem_of_getElem? hi)
theorem nodup_at {xs : List Nat} (h : xs.Nodup) {i j a : Nat} (hi : xs[i]? = some a) (hj : xs[j]? = some a) : i = j := by
  have h1 := (List.getElem?_eq_some_iff.1 hi)
  obtain ⟨hi1, hi2⟩ := h1
  obtain ⟨hj1, hj2⟩ := List.getElem?_eq_some_iff.1 hj
  rcases Nat.lt_trichotomy i j with c | c | c
  · exact absurd (hi2.trans hj2.symm) (List.pairwise_iff_getElem.1 h i j hi1 hj1 c)
  · exact c
  · exact absurd (hj2.trans hi2.symm) (List.pairwise_iff_getElem.1 h j i hj1 hi1 c)
theorem StatsZ.setDist {w0 w : World} {g n cap : Nat} {Z : List (StatZ × (Nat × Nat))} (h : StatsZ w0 w g n cap Z) {i : Nat} {z : StatZ × (Nat × Nat)} (hi : Z[i]? = some z) {m : Nat} (hm : m < z.1.2.2.1.length) (x : Nat) : StatsZ w0 (w.setCell ⟨z.2.1, m, none⟩ (.float .f64 x)) g n cap (Z.set i ((z.1.1, z.1.2.1, z.1.2.2.1.set m x, ()), z.2)) := by
  obtain ⟨rest, h1, h2, h3, h4, h5, h6, h7⟩ := h.body
  have hlt : i < Z.length := (List.getElem?_eq_some_iff.1 hi).1
  have hk : Kp (fun k => k = z.2.1) w (w.setCell ⟨z.2.1, m, none⟩ (.float .f64 x)) := Kp.setCell (F := fun k => k = z.2.1) (Kp.refl w) (fun _ => rfl) _
  have hz := h7 z (List.mem_of_getElem? hi)
  refine ⟨rest, by rw [List.length_set]; exact h1, h2, h3, h4, ?_, ?_, fun y hy => ?_⟩
  · have e : (Z.set i ((z.1.1, z.1.2.1, z.1.2.2.1.set m x, ()), z.2)).map (·.2.1) = Z.map (·.2.1) := by
      rw [List.map_set]
      have := List.getElem?_map (f := fun x : StatZ × (Nat × Nat) => x.2.1) (l := Z) (i := i)
      rw [hi] at this
      exact set_same this
    rw [e]; exact h5
  · have e : (Z.set i ((z.1.1, z.1.2.1, z.1.2.2.1.set m x, ()), z.2)).flatMap statM = Z.flatMap statM := by
      have hs := flat_set statM 3 statM_len Z i z ((z.1.1, z.1.2.1, z.1.2.2.1.set m x, ()), z.2) 0 (.string z.1.1) hi (by decide) (by
        show statM _ = _
        simp [statM])
      rw [← hs]
      refine set_same ?_
      have hg := flat_get statM 3 statM_len Z i z 0 hi (by decide)
      exact hg
    rw [e]
    exact h6.kp hk fun e => by
      obtain ⟨cs, hb⟩ := hz.blk
      rw [← e] at hb
      exact typ_fc (blk_ne hb h6)
  · obtain ⟨j, hj⟩ := List.mem_iff_getElem?.1 hy
    rw [List.getElem?_set] at hj
    by_cases e : i = j
    · rw [if_pos e, if_pos hlt] at hj
      cases hj
      obtain ⟨r, a, b, c, d⟩ := hz
      refine ⟨r, by show (z.1.2.2.1.set m x).length + 1 ≤ _; rw [List.length_set]; exact a, b, c, ?_⟩
      have hb := d.set m (.float .f64 x)
      have e2 : (flts (z.1.2.2.1 ++ [markF]) ++ r).set m (.float .f64 x) = flts (z.1.2.2.1.set m x ++ [markF]) ++ r := by
        rw [List.set_append_left _ _ (by rw [flts_len, List.length_append]; omega)]
        congr 1
        unfold flts
        rw [← List.map_set, List.set_append_left _ _ hm]
      rw [e2] at hb
      exact hb
    · rw [if_neg e] at hj
      refine (h7 y (List.mem_of_getElem? hj)).kp hk fun e' => e ?_
      refine nodup_at h5 (a := z.2.1) ?_ ?_
      · rw [List.getElem?_map, hi]; rfl
      · rw [List.getElem?_map, hj, ← e']; rfl

/-- The counts before place i are those of K, behind it they are of the same predicates. -/
def Part (K : List StatZ) (Z : List (StatZ × (Nat × Nat))) (i : Nat) : Prop := Z.length = K.length ∧ ∀ (j : Nat) z k, Z[j]? = some z → K[j]? = some k → (j < i → z.1 = k) ∧ z.1.1 = k.1 ∧ z.1.2.2.1.length = k.2.2.1.length
theorem Part.all {K : List StatZ} {Z : List (StatZ × (Nat × Nat))} (h : Part K Z K.length) : Z.map (·.1) = K := by
  apply List.ext_getElem?
  intro j
  rw [List.getElem?_map]
  cases e : Z[j]? with
  | none =>
    have := List.getElem?_eq_none_iff.1 e
    rw [Option.map_none, eq_comm, List.getElem?_eq_none_iff, ← h.1]; exact this
  | some z =>
    have hj : j < K.length := by rw [← h.1]; exact (List.getElem?_eq_some_iff.1 e).1
    have hk := List.getElem?_eq_getElem hj
    rw [hk, Option.map_some, (h.2 j z _ e hk).1 hj]
/-- ... and at place i the rows too, and m of the counts. -/
def PartIn (K : List StatZ) (Z : List (StatZ × (Nat × Nat))) (i m : Nat) : Prop := Part K Z i ∧ ∀ z k, Z[i]? = some z → K[i]? = some k → z.1.2.1 = k.2.1 ∧ ∀ c, c < m → z.1.2.2.1[c]? = k.2.2.1[c]?
theorem Part.rows {K : List StatZ} {Z : List (StatZ × (Nat × Nat))} {i : Nat} {z : StatZ × (Nat × Nat)} {k : StatZ} (h : Part K Z i) (hz : Z[i]? = some z) (hk : K[i]? = some k) : PartIn K (Z.set i ((z.1.1, k.2.1, z.1.2.2), z.2)) i 0 := by
  have hlt : i < Z.length := (List.getElem?_eq_some_iff.1 hz).1
  have h0 := h.2 i z k hz hk
  refine ⟨⟨by rw [List.length_set]; exact h.1, fun j y u hy hu => ?_⟩, fun y u hy hu => ?_⟩
  · rw [List.getElem?_set] at hy
    by_cases e : i = j
    · subst e
      rw [if_pos rfl, if_pos hlt] at hy
      cases hy
      rw [hk] at hu; cases hu
      exact ⟨fun h => absurd h (Nat.lt_irrefl _), h0.2⟩
    · rw [if_neg e] at hy
      exact h.2 j y u hy hu
  · rw [List.getElem?_set, if_pos rfl, if_pos hlt] at hy
    cases hy
    rw [hk] at hu; cases hu
    exact ⟨rfl, fun c hc => by omega⟩
theorem PartIn.dist {K : List StatZ} {Z : List (StatZ × (Nat × Nat))} {i m : Nat} {z : StatZ × (Nat × Nat)} {k : StatZ} {x : Nat} (h : PartIn K Z i m) (hz : Z[i]? = some z) (hk : K[i]? = some k) (hx : k.2.2.1[m]? = some x) : PartIn K (Z.set i ((z.1.1, z.1.2.1, z.1.2.2.1.set m x, ()), z.2)) i (m + 1) := by
  have hlt : i < Z.length := (List.getElem?_eq_some_iff.1 hz).1
  have h0 := h.1.2 i z k hz hk
  have hml : m < k.2.2.1.length := (List.getElem?_eq_some_iff.1 hx).1
  refine ⟨⟨by rw [List.length_set]; exact h.1.1, fun j y u hy hu => ?_⟩, fun y u hy hu => ?_⟩
  · rw [List.getElem?_set] at hy
    by_cases e : i = j
    · subst e
      rw [if_pos rfl, if_pos hlt] at hy
      cases hy
      rw [hk] at hu; cases hu
      exact ⟨fun h => absurd h (Nat.lt_irrefl _), h0.2.1, by show (z.1.2.2.1.set m x).length = _; rw [List.length_set]; exact h0.2.2⟩
    · rw [if_neg e] at hy
      exact h.1.2 j y u hy hu
  · rw [List.getElem?_set, if_pos rfl, if_pos hlt] at hy
    cases hy
    rw [hk] at hu; cases hu
    have h1 := h.2 z k hz hk
    refine ⟨h1.1, fun c hc => ?_⟩
    show (z.1.2.2.1.set m x)[c]? = _
    rw [List.getElem?_set]
    by_cases e : m = c
    · subst e
      rw [if_pos rfl, if_pos (by rw [h0.2.2]; exact hml), hx]
    · rw [if_neg e]
      exact h1.2 c (by omega)
theorem PartIn.done {K : List StatZ} {Z : List (StatZ × (Nat × Nat))} {i m : Nat} {k : StatZ} (h : PartIn K Z i m) (hk : K[i]? = some k) (hm : m = k.2.2.1.length) : Part K Z (i + 1) := by
  refine ⟨h.1.1, fun j z u hz hu => ?_⟩
  have h0 := h.1.2 j z u hz hu
  refine ⟨fun hj => ?_, h0.2⟩
  by_cases e : j = i
  · subst e
    rw [hk] at hu; cases hu
    have h1 := h.2 z k hz hk
    have h2 : z.1.2.2.1 = k.2.2.1 := by
      apply List.ext_getElem?
      intro c
      by_cases hc : c < m
      · exact h1.2 c hc
      · rw [List.getElem?_eq_none_iff.2 (by omega), List.getElem?_eq_none_iff.2 (by omega)]
    obtain ⟨⟨zp, zr, zd, ⟨⟩⟩, zv⟩ := z
    obtain ⟨kp, kr, kd, ⟨⟩⟩ := k
    simp only at h2 h1 h0 ⊢
    rw [h0.2.1, h1.1, h2]
  · exact h0.1 (by omega)
end Go.Proofs.Ytcphalpcdcddpaa

/- cost: share, named, the closure that looks a predicate up. -/
namespace Go.Proofs.Ytcphalpcdcddpaa
open Go.RowKit
set_option linter.unusedVariables false
attribute [local go_sem] run_store_float

/-- A step of a drawn region that appends, by what it runs to. -/
theorem step_run {P : Program} {ops : Array Oper} {o : Oper} {a : Act} {w : World} {K : Act → World → Prop} {Q : Exit → Act → World → Prop} {E : Prop} (hgd : o.guard = none) (s x : Operand) {t1 t2 : TypeId}
    (ho : o.op = .call { callee := .builtin .append, args := #[s, x], argTypes := #[t1, t2] }) {v u v' : Value} {w' : World} (hs : a.eval s = v) (hx : a.eval x = u)
    (hr : (Builtin.append_ #[t1, t2] o.type #[v, u]).run P w = .ok v' w') (h : K (a.put o.dst v') w') :
    if Region.wanted o (yielded ops a.tmps) = true then Oper.wp P o a w K Q else E := by
  have hw : Region.wanted o (yielded ops a.tmps) = true := by simp [Region.wanted, hgd]
  rw [if_pos hw]
  unfold Oper.wp execOp
  simp only [ho, resolve, invoke, builtin, Sem.run_bind, Sem.run_pure, Result.andThen_ok, List.map_toArray, List.map_cons, List.map_nil, hs, hx, hr]
  exact h

theorem share_any (l : LitZ) (k : Int) (p : ByteArray) (a : Option Addr) (m cap : Nat) (op lk : Int) (lt : ByteArray) (rk : Int) (rt : ByteArray) (w : World) (hk : l.1 = k) (ho : opOf l = op) :
    Calls Try.prog 57 #[litV k p a m cap op lk lt rk rt] w (RetN w fun w' v => v = .float .f64 (shareW l)) := by
  have hsh : shareW l = if k = 2 then 4602678819172646912 else if op = 1 then 4591870180066957722 else if op = 2 then 4606281698874543309 else 4600877379321698714 := by unfold shareW; rw [hk, ho]
  rw [hsh]
  clear hsh hk ho
  by_cases a1 : k = 2
  · rw [if_pos a1]
    have m1 : (k == 2) = true := by simp [a1]
    have HA := Lib.hid a1; clear a1
    go_enter Try.func57, Try.ntmps57
    go_wp2
    go_ret
    exact RetN.mk ((Kp.refl w).alloc _) rfl
  · rw [if_neg a1]
    have m1 : (k == 2) = false := by simp [a1]
    by_cases a2 : op = 1
    · rw [if_pos a2]
      have m2 : (op == 1) = true := by simp [a2]
      have HA := Lib.hid (And.intro a1 a2); clear a1 a2
      go_enter Try.func57, Try.ntmps57
      go_wp2
      go_ret
      exact RetN.mk ((Kp.refl w).alloc _) rfl
    · rw [if_neg a2]
      have m2 : (op == 1) = false := by simp [a2]
      by_cases a3 : op = 2
      · rw [if_pos a3]
        have m3 : (op == 2) = true := by simp [a3]
        have HA := Lib.hid (And.intro a1 (And.intro a2 a3)); clear a1 a2 a3
        go_enter Try.func57, Try.ntmps57
        go_wp2
        go_ret
        exact RetN.mk ((Kp.refl w).alloc _) rfl
      · rw [if_neg a3]
        have m3 : (op == 2) = false := by simp [a3]
        have HA := Lib.hid (And.intro a1 (And.intro a2 a3)); clear a1 a2 a3
        go_enter Try.func57, Try.ntmps57
        go_wp2
        go_ret
        exact RetN.mk ((Kp.refl w).alloc _) rfl

theorem varsT_take {ts : List TermZ} {i : Nat} {t : TermZ} (h : ts[i]? = some t) : varsT (ts.take (i + 1)) = varsT (ts.take i) ++ if t.1 = 1 then [t.2.1] else [] := by
  unfold varsT
  rw [filterMap_take _ h]
  congr 1
  split <;> rfl
theorem varsT_len (ts : List TermZ) : (varsT ts).length ≤ ts.length := List.length_filterMap_le _ _
def NamedTo (w0 : World) (ts : List TermZ) (n : Nat) (iv lv : Value) (w : World) : Prop := ∃ i : Nat, i ≤ n ∧ iv = .int .i64 i ∧ Hid (Row w 9 1 lv (varsT (ts.take i)).length (strs (varsT (ts.take i))) (New w0)) ∧ Hid (Ext w0 w)
set_option maxRecDepth 100000 in
set_option maxHeartbeats 1000000 in
theorem named_any (ts : List TermZ) (ao : Option Addr) (n cap : Nat) (w : World) (G : Nat → Prop) (hn : n = ts.length) (h : TermsAt w G ao ts) (hl : n ≤ 1048576) :
    Calls Try.prog 58 #[.slice ao n cap] w (RetN w fun w' v => Row w' 9 1 v (varsT ts).length (strs (varsT ts)) (New w)) := by
  have HN := Lib.hid hn; have HE := Lib.hid h; clear hn h
  go_enter Try.func58, Try.ntmps58
  go_wp2
  go_loopw [8, 3] (fun iv lv wr => NamedTo w ts n iv lv wr) (fun iv _ _ => n - (intOf iv).toNat)
  case atStart => exact ⟨0, Nat.zero_le _, rfl, Row.nil _ _ _ _, Kp.refl w⟩
  case round =>
    obtain ⟨i, hi, rfl, hrow, hex⟩ := hrel
    by_cases hlt : i < n
    · obtain ⟨t, ht⟩ : ∃ t, ts[i]? = some t := ⟨_, List.getElem?_eq_getElem (by rw [← HN.out]; exact hlt)⟩
      obtain ⟨b, off, eao, hc0, hc1, _⟩ := term_at (HE.out.ext hex.out) ht
      subst eao
      obtain ⟨k, s, ⟨⟩⟩ := t
      simp only at hc0 hc1
      have HT := Lib.hid (varsT_take ht)
      have hlen : (varsT (ts.take i)).length ≤ i := by have := varsT_len (ts.take i); rw [List.length_take] at this; omega
      clear ht
      by_cases h1 : k = 1
      · subst h1
        obtain ⟨M, eM⟩ : ∃ M, varsT (ts.take i) = M := ⟨_, rfl⟩
        rw [eM] at hrow hlen HT
        have HR := Lib.hid hrow.out
        obtain ⟨aw, capw, elv, hcw, hlw⟩ := hrow.out.shape
        subst elv
        clear hrow hcw hlw eM
        go_wp2_with (first | (at_builtin; refine Halted.out ?_))
        refine Halted.mk (wp_appN (m := 1) (n := M.length) elem_str rfl _ _ rfl ((hex.out.alloc _).alloc _) rfl ((HR.out.alloc _).alloc _) rfl (by have h := CellsAt.one (wr.alloc (.cells #[.int .i64 1, .string s] 68)) (.string s) 9; rw [alloc_size] at h; exact h) (by rfl) (by simp [Value.oneCell']) (by omega) (by unfold maxLen; omega) ?_)
        intro v1 w3 hr1 hk1 hk2 _
        have HR5 := Lib.hid (And.intro hr1 hk1)
        clear hr1 hk1 hk2 hc0 hc1
        go_wp2
        go_roundw
        case rel =>
          refine ⟨i + 1, by omega, by first | rfl | (congr 1; done) | (congr 1; omega), ?_, HR5.out.2⟩
          have h := HR5.out.1
          rw [HT.out, if_pos (by first | rfl | trivial), ← strs_snoc, List.length_append]
          exact h
        case measure => simp [intOf]; omega
      · have n1 : (k == 1) = false := by simp [h1]
        have HH := Lib.hid h1; clear h1
        go_wp2
        go_roundw
        case rel => exact ⟨i + 1, by omega, by first | rfl | (congr 1; done) | (congr 1; omega), by rw [HT.out, if_neg HH.out, List.append_nil]; exact hrow.out.alloc _, hex.out.alloc _⟩
        case measure => simp [intOf]; omega
    · have e : ts.take i = ts := List.take_of_length_le (by have := HN.out; omega)
      have HR := hrow
      rw [e] at HR
      clear e hrow
      go_wp2
      go_ret
      exact RetN.mk hex.out HR.out

theorem lookFn_any (p : ByteArray) (x : Nat) (da : Option Addr) (m dcap : Nat) (g : Nat) (s : ByteArray) (w : World) (hc : w.cell? ⟨g, 1, none⟩ = some (.string s)) :
    Calls Try.prog 60 #[statV p x da m dcap, .pointer (some ⟨g, 0, none⟩)] w (RetN w fun w' v => v = .bool (decide (p = s))) := by
  have e0 : (w.alloc (.cells #[.string p, .float .f64 x, .slice da m dcap] 56)).cell? ⟨g, 1, none⟩ = some (.string s) := ((Kp.refl (F := fun _ => False) w).alloc _).cell hc id
  clear hc
  by_cases h : p = s
  · have hb := str_eq s
    subst h
    go_enter Try.func60, Try.ntmps60
    go_wp2
    go_ret
    exact RetN.mk ((Kp.refl w).alloc _) (congrArg Value.bool (by simp))
  · have hb := str_ne h
    have H := Lib.hid h; clear h
    go_enter Try.func60, Try.ntmps60
    go_wp2
    go_ret
    exact RetN.mk ((Kp.refl w).alloc _) (congrArg Value.bool (decide_eq_false H.out).symm)
end Go.Proofs.Ytcphalpcdcddpaa

/- cost: a body, read. -/
namespace Go.Proofs.Ytcphalpcdcddpaa
open Go.RowKit
set_option linter.unusedVariables false

/-- A body of a rule, and what is known. -/
def BodyAt (w : World) (gb : Nat) (S : List StatZ) (ls : List LitZ) : Prop := ∃ w0 gm na ncap col pv cv m, BodyIn w0 w gb gm (.slice na (namesB ls).length ncap) col S ls (fun v => spotsP S v 0 ls) (constsP S 0 ls) pv cv m ∧ CellsAt w na (strs (namesB ls)) ∧ (namesB ls).length ≤ ncap
/-- What bodyOf answers. -/
def BodyV (w : World) (r : RuleZ) (S : List StatZ) (w' : World) (v : Value) : Prop := (errR r S = 0 → ∃ gb, v = .tuple #[.pointer (some ⟨gb, 0, none⟩), .int .i64 0] ∧ w.heap.size ≤ gb ∧ BodyAt w' gb S r.2.1) ∧ (errR r S ≠ 0 → v = .tuple #[.pointer none, .int .i64 (errR r S)])
theorem BodyAt.ext {w w' : World} {gb : Nat} {S : List StatZ} {ls : List LitZ} (h : BodyAt w gb S ls) (hk : Ext w w') : BodyAt w' gb S ls := by
  obtain ⟨w0, gm, na, ncap, col, pv, cv, m, h1, h2, h3⟩ := h
  exact ⟨w0, gm, na, ncap, col, pv, cv, m, h1.on hk, h2.ext hk, h3⟩

/-- Spots from an address on. -/
def SpotsAt (w : World) (ao : Option Addr) (xs : List (Nat × Nat)) : Prop := ∀ (j : Nat) (x : Nat × Nat), xs[j]? = some x → ∃ g off, ao = some ⟨g, off, none⟩ ∧ w.cell? ⟨g, off + j * 2, none⟩ = some (.int .i64 x.1) ∧ w.cell? ⟨g, off + j * 2 + 1, none⟩ = some (.float .f64 x.2)
theorem SpotsAt.ext {w w' : World} {ao : Option Addr} {xs : List (Nat × Nat)} (h : SpotsAt w ao xs) (hk : Ext w w') : SpotsAt w' ao xs := fun j x hj => by
  obtain ⟨g, off, e, h1, h2⟩ := h j x hj
  exact ⟨g, off, e, hk.cell h1 id, hk.cell h2 id⟩
theorem Row.spotsAt {w : World} {e : TypeId} {v : Value} {xs : List (Nat × Nat)} {M : Nat → Prop} (h : Row w e 2 v xs.length (xs.flatMap spotC) M) : ∃ ao cap, v = .slice ao xs.length cap ∧ SpotsAt w ao xs := by
  obtain ⟨ao, cap, ev, hc, _⟩ := h.shape
  refine ⟨ao, cap, ev, fun j x hj => ?_⟩
  have h0 := flat_get spotC 2 spotC_len xs j x 0 hj (by decide)
  have h1 := flat_get spotC 2 spotC_len xs j x 1 hj (by decide)
  obtain ⟨g, off, e0, c0⟩ := hc _ _ (h0.trans rfl)
  obtain ⟨g', off', e1, c1⟩ := hc _ _ (h1.trans rfl)
  rw [e0] at e1; cases e1
  exact ⟨g, off, e0, by simpa using c0, by rw [Nat.add_assoc]; exact c1⟩
/-- Parts from an address on. -/
def PartsAt (w : World) (ao : Option Addr) (S : List StatZ) (ls : List LitZ) : Prop := ∀ (i : Nat) (l : LitZ), ls[i]? = some l → ∃ g off va vcap, ao = some ⟨g, off, none⟩ ∧ w.cell? ⟨g, off + i * 4, none⟩ = some (.bool (decide (l.1 = 1))) ∧ w.cell? ⟨g, off + i * 4 + 1, none⟩ = some (.float .f64 (rowsP S l)) ∧ w.cell? ⟨g, off + i * 4 + 2, none⟩ = some (.float .f64 (shareP l)) ∧ w.cell? ⟨g, off + i * 4 + 3, none⟩ = some (.slice va (varsL l).length vcap) ∧ CellsAt w va (strs (varsL l))
theorem PartsAt.ext {w w' : World} {ao : Option Addr} {S : List StatZ} {ls : List LitZ} (h : PartsAt w ao S ls) (hk : Ext w w') : PartsAt w' ao S ls := fun i l hi => by
  obtain ⟨g, off, va, vcap, e, h0, h1, h2, h3, h4⟩ := h i l hi
  exact ⟨g, off, va, vcap, e, hk.cell h0 id, hk.cell h1 id, hk.cell h2 id, hk.cell h3 id, h4.ext hk⟩

/-- A body as it is read. -/
structure BodyR (w : World) (gb : Nat) (S : List StatZ) (ls : List LitZ) (pa : Option Addr) (pcap : Nat) (na : Option Addr) (ncap gm : Nat) (m : List (ByteArray × Value)) (ca : Option Addr) (ccap : Nat) : Prop where
  blk : Blk w gb [.slice pa ls.length pcap, .slice na (namesB ls).length ncap, .map (some gm), .slice ca (constsP S 0 ls).length ccap] 91
  parts : PartsAt w pa S ls
  names : CellsAt w na (strs (namesB ls))
  map : MapIs w gm m
  spots : ∀ v, ∃ ua ucap, (getM m v).getD (.slice none 0 0) = .slice ua (spotsP S v 0 ls).length ucap ∧ SpotsAt w ua (spotsP S v 0 ls)
  consts : SpotsAt w ca (constsP S 0 ls)
theorem BodyR.ext {w w' : World} {gb : Nat} {S : List StatZ} {ls : List LitZ} {pa : Option Addr} {pcap : Nat} {na : Option Addr} {ncap gm : Nat} {m : List (ByteArray × Value)} {ca : Option Addr} {ccap : Nat} (h : BodyR w gb S ls pa pcap na ncap gm m ca ccap) (hk : Ext w w') : BodyR w' gb S ls pa pcap na ncap gm m ca ccap :=
  ⟨h.blk.ext hk, h.parts.ext hk, h.names.ext hk, h.map.ext hk, fun v => by
    obtain ⟨ua, ucap, e, hs⟩ := h.spots v
    exact ⟨ua, ucap, e, hs.ext hk⟩, h.consts.ext hk⟩
theorem BodyAt.read {w : World} {gb : Nat} {S : List StatZ} {ls : List LitZ} (h : BodyAt w gb S ls) : ∃ pa pcap na ncap gm m ca ccap, BodyR w gb S ls pa pcap na ncap gm m ca ccap := by
  obtain ⟨w0, gm, na, ncap, col, pv, cv, m, h1, h2, h3⟩ := h
  obtain ⟨_, _, _, hB, hM, ⟨vs, h6, h7, h8⟩, h9, h10⟩ := h1
  obtain ⟨pa, pcap, rfl, hpc, _⟩ := h7.shape
  obtain ⟨ca, ccap, rfl, hcs⟩ := h9.spotsAt
  refine ⟨pa, pcap, na, ncap, gm, m, ca, ccap, hB, fun i l hi => ?_, h2, hM, fun v => (h10 v).spotsAt, hcs⟩
  have hv : i < vs.length := by rw [h6]; exact (List.getElem?_eq_some_iff.1 hi).1
  have hz : (ls.zip vs)[i]? = some (l, vs[i]) := by rw [List.getElem?_zip_eq_some]; exact ⟨hi, List.getElem?_eq_getElem hv⟩
  have c := fun k (hk : k < 4) => flat_get (partC S) 4 (partC_len S) (ls.zip vs) i (l, vs[i]) k hz hk
  obtain ⟨g, off, e0, c0⟩ := hpc _ _ ((c 0 (by decide)).trans rfl)
  obtain ⟨g1, off1, e1, c1⟩ := hpc _ _ ((c 1 (by decide)).trans rfl)
  obtain ⟨g2, off2, e2, c2⟩ := hpc _ _ ((c 2 (by decide)).trans rfl)
  obtain ⟨g3, off3, e3, c3⟩ := hpc _ _ ((c 3 (by decide)).trans rfl)
  rw [e0] at e1 e2 e3; cases e1; cases e2; cases e3
  obtain ⟨va, vcap, ev, hvc, _⟩ := (h8 _ (List.mem_of_getElem? hz)).shape
  cases ev
  exact ⟨g, off, _, _, e0, by simpa using c0, by rw [Nat.add_assoc]; exact c1, by rw [Nat.add_assoc]; exact c2, by rw [Nat.add_assoc]; exact c3, hvc⟩

/-- The builtin min of two words. -/
theorem min_run {x y : Nat} (hx : x ≤ infW) (hy : y ≤ infW) (at_ : Array TypeId) (ty : TypeId) (W : World) : (Builtin.min_ at_ ty #[.float .f64 x, .float .f64 y]).run Try.prog W = .ok (.float .f64 (if y < x then y else x)) W := by
  have h := order_pos hx hy
  have h' : (FloatKind.format .f64).order x y = some (compare x y) := h
  rcases Nat.lt_trichotomy x y with k | k | k
  · rw [Nat.compare_eq_lt.2 k] at h'
    rw [if_neg (by omega)]
    simp [Builtin.min_, Builtin.min2, h']
  · subst k
    rw [Nat.compare_eq_eq.2 rfl] at h'
    rw [if_neg (Nat.lt_irrefl _)]
    simp [Builtin.min_, Builtin.min2, h']
  · rw [Nat.compare_eq_gt.2 k] at h'
    rw [if_pos k]
    simp [Builtin.min_, Builtin.min2, h']
theorem eq_order {x y : Nat} (hx : x ≤ infW) (hy : y ≤ infW) : ((FloatKind.format .f64).order x y == some .eq) = decide (x = y) := by
  show (Ieee.double.order x y == some .eq) = _
  rw [order_pos hx hy]
  rcases Nat.lt_trichotomy x y with h | h | h
  · rw [Nat.compare_eq_lt.2 h, decide_eq_false (by omega)]; rfl
  · subst h; rw [Nat.compare_eq_eq.2 rfl, decide_eq_true rfl]; rfl
  · rw [Nat.compare_eq_gt.2 h, decide_eq_false (by omega)]; rfl

def MinTo (w0 : World) (L : List Nat) (n : Nat) (iv mv : Value) (w : World) : Prop := ∃ i : Nat, 1 ≤ i ∧ i ≤ n ∧ iv = .int .i64 i ∧ mv = .float .f64 (L.getD (leastTo L i) 0) ∧ Hid (Ext w0 w)
theorem getD_at {L : List Nat} {i : Nat} (h : i < L.length) : L.getD i 0 = L[i] := by rw [List.getD_eq_getElem?_getD, List.getElem?_eq_getElem h]; rfl
set_option maxRecDepth 100000 in
set_option maxHeartbeats 1000000 in
theorem minF_any (L : List Nat) (ao : Option Addr) (n cap : Nat) (w : World) (hn : n = L.length) (h : CellsAt w ao (flts L)) (hL : ∀ x ∈ L, x ≤ infW) (hl : n ≤ 4611686018427387904) (h1 : 1 ≤ n) :
    Calls Try.prog 62 #[.slice ao n cap] w (RetN w fun w' v => v = .float .f64 (L.getD (leastI L) 0)) := by
  have HN := Lib.hid hn; have HE := Lib.hid h; have HL := Lib.hid hL
  obtain ⟨g, off, eao, d0⟩ := h.flt (k := 0) (by omega)
  subst eao
  have hz : L[0]'(by omega) = L.getD (leastTo L 1) 0 := by
    have e : leastTo L 1 = 0 := by unfold leastTo; split <;> rfl
    rw [e, getD_at (by omega)]
  rw [hz, Nat.add_zero] at d0
  generalize hx0 : L.getD (leastTo L 1) 0 = x0 at d0
  have HX0 := Lib.hid hx0
  clear hn h hL hz hx0
  have g1 : ¬ (n : Int) < 1 := by omega
  go_enter Try.func62, Try.ntmps62
  go_wp2
  go_loopw [4, 3] (fun iv mv wr => MinTo w L n iv mv wr) (fun iv _ _ => n - (intOf iv).toNat)
  case atStart => exact ⟨1, Nat.le_refl _, h1, rfl, by rw [HX0.out], Kp.refl w⟩
  case round =>
    obtain ⟨i, hi1, hi, rfl, rfl, hex⟩ := hrel
    by_cases hlt : i < n
    · have hli : i < L.length := by rw [← HN.out]; exact hlt
      obtain ⟨g, off, eao, d1⟩ := (HE.out.ext hex.out).flt (k := i) hli
      cases eao
      have hk : leastTo L i < L.length := by have := leastTo_le L i hi1; omega
      have hmin := fun at_ ty W => min_run (x := L.getD (leastTo L i) 0) (y := L[i]) (by rw [getD_at hk]; exact HL.out _ (List.getElem_mem hk)) (HL.out _ (List.getElem_mem hli)) at_ ty W
      have hst : L.getD (leastTo L (i + 1)) 0 = if L[i] < L.getD (leastTo L i) 0 then L[i] else L.getD (leastTo L i) 0 := by
        show L.getD (if L.getD i 0 < L.getD (leastTo L i) 0 then i else leastTo L i) 0 = _
        rw [getD_at hli]
        split
        · exact getD_at hli
        · rfl
      generalize hX : L.getD (leastTo L i) 0 = X at *
      generalize L[i] = Y at *
      have HSt := Lib.hid hst
      clear hst hk hli hX
      go_wp2
      go_roundw
      case rel => exact ⟨i + 1, by omega, by omega, by first | rfl | (congr 1; done) | (congr 1; omega), by rw [HSt.out], hex⟩
      case measure => simp [intOf]; omega
    · have HF := Lib.hid (show leastTo L i = leastI L by unfold leastI; congr 1; have := HN.out; omega)
      go_wp2
      go_ret
      exact RetN.mk hex.out (by rw [← HF.out]; rfl)

def NoEq (w0 : World) (L : List Nat) (x : Nat) (n : Nat) (iv : Value) (w : World) : Prop := ∃ i : Nat, i ≤ n ∧ iv = .int .i64 i ∧ Hid (∀ j, j < i → L.getD j 0 ≠ x) ∧ Hid (Ext w0 w)
set_option maxRecDepth 100000 in
set_option maxHeartbeats 1000000 in
theorem indexLeast_any (L : List Nat) (ao : Option Addr) (n cap : Nat) (w : World) (hn : n = L.length) (h : CellsAt w ao (flts L)) (hL : ∀ x ∈ L, x ≤ infW) (hl : n ≤ 4611686018427387904) (h1 : 1 ≤ n) :
    Calls Try.prog 61 #[.slice ao n cap, .float .f64 (L.getD (leastI L) 0)] w (RetN w fun w' v => v = .int .i64 (leastI L)) := by
  have HN := Lib.hid hn; have HE := Lib.hid h; have HL := Lib.hid hL
  have hk : leastI L < L.length := leastTo_le L _ (by omega)
  have hX : L.getD (leastI L) 0 ≤ infW := by rw [getD_at hk]; exact hL _ (List.getElem_mem hk)
  obtain ⟨x, ex⟩ : ∃ x, x = L.getD (leastI L) 0 := ⟨_, rfl⟩
  rw [← ex] at hX ⊢
  have EX := Lib.hid (And.intro ex hk)
  clear hn h hL ex hk
  go_enter Try.func61, Try.ntmps61
  go_wp2
  go_loopw [8] (fun iv wr => NoEq w L x n iv wr) (fun iv _ => n - (intOf iv).toNat)
  case atStart => exact ⟨0, Nat.zero_le _, rfl, fun j hj => by omega, Kp.refl w⟩
  case round =>
    obtain ⟨i, hi, rfl, hno, hex⟩ := hrel
    by_cases hlt : i < n
    · have hli : i < L.length := by rw [← HN.out]; exact hlt
      obtain ⟨g, off, eao, d1⟩ := (HE.out.ext hex.out).flt (k := i) hli
      subst eao
      have ho := eq_order hX (HL.out _ (List.getElem_mem hli))
      have hg := getD_at hli
      generalize L[i] = y at *
      have HG := Lib.hid hg
      clear hg hli
      by_cases hxy : x = y
      · rw [decide_eq_true hxy] at ho
        have hleast : leastI L = i := by
          rcases Nat.lt_trichotomy (leastI L) i with k | k | k
          · exact absurd EX.out.1.symm (hno.out _ k)
          · exact k
          · have := leastTo_first L L.length i k
            rw [HG.out] at this
            have e := EX.out.1
            unfold leastI at e
            omega
        have HLe := Lib.hid hleast
        have HXY := Lib.hid hxy
        clear hleast hxy
        go_wp2
        go_ret
        exact RetN.mk hex.out (by rw [HLe.out]; rfl)
      · rw [decide_eq_false hxy] at ho
        have HXY := Lib.hid hxy
        clear hxy
        go_wp2
        go_roundw
        case rel =>
          refine ⟨i + 1, by omega, by first | rfl | (congr 1; done) | (congr 1; omega), fun j hj => ?_, hex⟩
          by_cases e : j = i
          · rw [e, HG.out]; exact fun q => HXY.out q.symm
          · exact hno.out j (by omega)
        case measure => simp [intOf]; omega
    · exact absurd EX.out.1.symm (hno.out _ (by have := EX.out.2; have := HN.out; omega))
end Go.Proofs.Ytcphalpcdcddpaa
