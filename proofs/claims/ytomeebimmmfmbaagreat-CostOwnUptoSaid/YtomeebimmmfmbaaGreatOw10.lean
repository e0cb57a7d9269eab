/- Proved here: the statement CostOwnUptoSaid: the law returns true for every input of the bound that the row names and leaves its arguments as they were. No condition of its own. -/
import Derived.Test.YtomeebimmmfmbaaGreatOw9
import Derived.StillTailTactics
import Derived.Deep.CondSized
/- The document's Base: FromRelations. -/
namespace Go.Proofs.YtomeebimmmfmbaaGreat
open Go.RowKit
set_option linter.unusedVariables false
theorem same_lenC {C D : List CntZ} (hC : (C.map (·.1)).Nodup) (hD : (D.map (·.1)).Nodup) (h : SameC C D) : C.length = D.length := by
  have h1 := (names_perm C).length_eq
  have h2 := (names_perm D).length_eq
  rw [names_same hC hD h] at h1
  rw [List.length_map] at h1 h2
  omega
theorem len_declC (C : List CntZ) (s : ByteArray) (a : Int) : (declC C s a).length ≤ C.length + 1 := by
  unfold declC
  split
  · simp
  · omega
theorem len_addC {C : List CntZ} {s : ByteArray} (row : List ByteArray) (h : ∃ v, getC C s = some v) : (addC C s row).length = C.length ∧ ∃ v, getC (addC C s row) s = some v := by
  obtain ⟨v, hv⟩ := h
  unfold addC
  split
  · refine ⟨?_, (row.length, addS cmpRow (rowsC C s) row), by rw [getC_set, if_pos rfl]⟩
    unfold setC
    rw [hv]; simp
  · exact ⟨rfl, v, hv⟩
theorem cntR_len (G : List REnt) : (cntR G).length = G.length := by unfold cntR; simp
def RefFromV (w : World) (L : List RelZ) (w' : World) (v : Value) : Prop :=
  ((fromC [] L).2 = 0 → ∃ cb S G, v = .tuple #[.pointer (some ⟨cb, 0, none⟩), .int .i64 0] ∧ RefB S w' cb G ∧ RefOk G ∧ SameC (cntR G) (fromC [] L).1 ∧ G.length ≤ L.length ∧ (∀ k, S k → w.heap.size ≤ k) ∧ ∀ k, OwnG cb G k → w.heap.size ≤ k) ∧
  ((fromC [] L).2 ≠ 0 → v = .tuple #[.pointer none, .int .i64 (((fromC [] L).2 : Nat) : Int)])
structure MyRef (w0 : World) (S : Nat → Prop) (w : World) (cb : Nat) (G : List REnt) (C : List CntZ) : Prop where
  base : RefB S w cb G
  ok : RefOk G
  same : SameC (cntR G) C
  okC : BaseOk C
  ext : Ext w0 w
  pool : ∀ k, S k → w0.heap.size ≤ k
  own : ∀ k, OwnG cb G k → w0.heap.size ≤ k
theorem MyRef.len {w0 w : World} {S : Nat → Prop} {cb : Nat} {G : List REnt} {C : List CntZ} (h : MyRef w0 S w cb G C) : G.length = C.length := by
  rw [← cntR_len, same_lenC h.ok.ok.nodup h.okC.nodup h.same]
theorem MyRef.drew {w0 w w' : World} {S : Nat → Prop} {cb : Nat} {G : List REnt} {C : List CntZ} (h : MyRef w0 S w cb G C) (hk : Ext w w') : MyRef w0 S w' cb G C :=
  ⟨h.base.ext hk, h.ok, h.same, h.okC, h.ext.trans hk, h.pool, h.own⟩
theorem MyRef.next {w0 w w' : World} {S : Nat → Prop} {cb : Nat} {G : List REnt} {C D C' : List CntZ} {F : Nat → Prop} (h : MyRef w0 S w cb G C) (hk : Kp F w w') (hF : ∀ k, F k → OwnG cb G k) (ht : RefBTo S w cb G C' w') (hs : SameC C' D) (hD : BaseOk D) : ∃ S' G', MyRef w0 S' w' cb G' D := by
  obtain ⟨S', G', h1, h2, h3, h4, h5, h6⟩ := ht
  have hz := h.ext.size
  refine ⟨S', G', h2, h3, h4.trans hs, hD, h.ext.trans' hk fun k hk f => absurd (h.own k (hF k f)) (by omega), fun k hk => ?_, fun k hk => ?_⟩
  · rcases h1.2 k hk with h | h'
    · exact MyRef.pool ‹_› k h
    · omega
  · rcases h6 k hk with h' | h'
    · exact h.own k h'
    · omega
def RefFromTo (w0 : World) (cb : Nat) (L : List RelZ) (n : Nat) (iv : Value) (w : World) : Prop := ∃ i : Nat, i ≤ n ∧ iv = .int .i64 i ∧ Hid (∃ S G C, MyRef w0 S w cb G C ∧ C.length ≤ i ∧ fromC C (L.drop i) = fromC [] L)
def RefFromIn (w0 : World) (cb : Nat) (q : RelZ) (R : List CntZ × Nat) (i m : Nat) (jv : Value) (w : World) : Prop := ∃ j : Nat, j ≤ m ∧ jv = .int .i64 j ∧ Hid (∃ S G C, MyRef w0 S w cb G C ∧ C.length ≤ i + 1 ∧ (∃ v, getC C q.1 = some v) ∧ addAll C q.1 (q.2.2.1.drop j) = R)
set_option maxRecDepth 100000 in
set_option maxHeartbeats 4000000 in
theorem refFrom_any (L : List RelZ) (ao : Option Addr) (n cap : Nat) (w : World) (S0 : Nat → Prop) (hn : n = L.length) (hL : RelsIn S0 w ao L) (hl : n ≤ 2097152) (hr : ∀ q ∈ L, q.2.2.1.length ≤ 1048576) :
    Calls Tryz.prog 24 #[.slice ao n cap] w (RetN w (RefFromV w L)) := by
  have HN := Lib.hid hn
  have HL := Lib.hid hL
  have HR := Lib.hid hr
  clear hn hL hr
  go_enter Tryz.func24, Tryz.ntmps24
  go_wp2_with fail
  refine (refBNew_any (fun _ => False) w (fun _ x => x.elim)).mono ?_
  rintro e w1 ⟨v, rfl, hk1, rfl, hB⟩
  obtain ⟨cb, ecb⟩ : ∃ cb, w.heap.size = cb := ⟨_, rfl⟩
  have HM0 := Lib.hid (show MyRef w (fun _ => False) w1 cb [] [] from
    { base := by rw [← ecb]; exact hB
      ok := ⟨ok_nil, List.Pairwise.nil⟩
      same := SameC.refl _
      okC := ok_nil
      ext := hk1, pool := fun _ x => x.elim
      own := fun k hk => by
        rcases hk with rfl | ⟨e, he, _⟩
        · omega
        · simp at he })
  rw [ecb]
  clear hB hk1 ecb
  go_wp2
  go_loopw [5] (fun iv wr => RefFromTo w cb L n iv wr) (fun iv _ => n - (intOf iv).toNat)
  case atStart => exact ⟨0, Nat.zero_le _, rfl, _, [], [], HM0.out, Nat.le_refl _, rfl⟩
  case round =>
    clear HM0
    obtain ⟨i, hi, rfl, hin⟩ := hrel
    obtain ⟨S, G, C, hM, hlen, hF⟩ := hin.out
    have HM := Lib.hid hM
    have HF := Lib.hid (And.intro hF hlen)
    clear hin hM hF hlen
    by_cases hlt : i < n
    · obtain ⟨q, hq⟩ : ∃ q, L[i]? = some q := ⟨_, List.getElem?_eq_getElem (by rw [← HN.out]; exact hlt)⟩
      obtain ⟨b, off, ra, rcap, eao, hSb, c0, c1, c2, hrl, hrm, hrows⟩ := HL.out i q hq
      subst eao
      obtain ⟨s, es⟩ : ∃ s, q.1 = s := ⟨_, rfl⟩
      obtain ⟨a, ea⟩ : ∃ a, q.2.1 = a := ⟨_, rfl⟩
      obtain ⟨m, em⟩ : ∃ m, q.2.2.1.length = m := ⟨_, rfl⟩
      rw [es] at c0
      rw [ea] at c1
      rw [em] at c2 hrl
      have hm1 : m ≤ 1048576 := by rw [← em]; exact HR.out q (List.mem_of_getElem? hq)
      have HQ := Lib.hid (And.intro hq (And.intro es (And.intro ea em)))
      have HRows := Lib.hid hrows
      have HC := Lib.hid (fun W (hW : Ext w W) => (⟨hW.cell c0 id, hW.cell c1 id, hW.cell c2 id⟩ : W.cell? ⟨b, off + i * 3, none⟩ = some (.string s) ∧ W.cell? ⟨b, off + i * 3 + 1, none⟩ = some (.int .i64 a) ∧ W.cell? ⟨b, off + i * 3 + 2, none⟩ = some (.slice ra m rcap)))
      clear hq es ea em hrows hSb c0 c1 c2
      obtain ⟨c0, c1, c2⟩ := HC.out wr HM.out.ext
      go_wp2
      go_still_tail 11, (by kernel_rfl)
      go_wp2_with fail
      obtain ⟨wd, ewd⟩ : ∃ wd, wr.drew = wd := ⟨_, rfl⟩
      rw [ewd]
      have HMd := Lib.hid (show MyRef w S wd cb G C by rw [← ewd]; exact HM.out.drew (Kp.refl wr).drew)
      clear ewd
      refine (refBDecl_any HMd.out.base HMd.out.ok s a (by rw [HMd.out.len]; have := HF.out.2; omega)).mono ?_
      rintro e w2 ⟨v, rfl, hk2, rfl, hT2⟩
      obtain ⟨S1, G1, hM1⟩ := HMd.out.next hk2 (fun k e => .inl e) hT2 (same_declC HMd.out.same s a) (ok_decl HMd.out.okC s a)
      have HM1 := Lib.hid hM1
      clear hk2 hT2 hM1 c0 c1 c2
      rw [same_declR HMd.out.same]
      obtain ⟨d, ed⟩ : ∃ d, declR C s a = d := ⟨_, rfl⟩
      rw [ed]
      have ED := Lib.hid ed
      clear ed
      by_cases hd : d = 0
      · have q1 : ((d : Int) != 0) = false := by simp [hd]
        have HD := Lib.hid hd
        clear hd
        have hdr : (L.drop i) = q :: L.drop (i + 1) := drop_at HQ.out.1
        have HDr := Lib.hid hdr
        clear hdr
        go_wp2
        clear q1
        generalize hw5 : w2 = w5 at *; clear hw5
        go_loopw [7] (fun jv wk => RefFromIn w cb q (addAll (declC C s a) s q.2.2.1) i m jv wk) (fun jv _ => m - (intOf jv).toNat)
        case atStart =>
          have h0 := decl_ar (C := C) (s := s) (a := a) (by rw [ED.out]; exact HD.out)
          exact ⟨0, Nat.zero_le _, rfl, S1, G1, _, HM1.out, by have := len_declC C s a; have := HF.out.2; omega, by obtain ⟨LL, e, _⟩ := h0; exact ⟨_, by rw [HQ.out.2.1]; exact e⟩, by rw [HQ.out.2.1]; rfl⟩
        case round =>
          clear HM1 HM HMd
          obtain ⟨j, hj, rfl, hin⟩ := hrel
          obtain ⟨S2, G2, C2, hM2, hl2, hv2, hA2⟩ := hin.out
          have HM2 := Lib.hid (And.intro hM2 (And.intro hl2 (And.intro hv2 hA2)))
          clear hin hM2 hl2 hv2 hA2
          obtain ⟨c0, c1, c2⟩ := HC.out wr HM2.out.1.ext
          by_cases hlt2 : j < m
          · obtain ⟨ss, hss⟩ : ∃ ss, q.2.2.1[j]? = some ss := ⟨_, List.getElem?_eq_getElem (by rw [HQ.out.2.2.2]; exact hlt2)⟩
            obtain ⟨g, o, xa, xcap, era, d0, d1, d2, d3⟩ := HRows.out.get hss
            subst era
            obtain ⟨k, ek⟩ : ∃ k, ss.length = k := ⟨_, rfl⟩
            rw [ek] at d0
            have d0w := d0
            replace d0 := HM2.out.1.ext.cell d0 id
            obtain ⟨c0w, _, c2w⟩ := HC.out w (Kp.refl w)
            have HMd := Lib.hid (HM2.out.1.drew (Kp.refl wr).drew)
            have HSS := Lib.hid (And.intro hss ek)
            have HRow := Lib.hid (And.intro d1 (And.intro d2 d3))
            clear hss ek d1 d2 d3
            go_wp2
            have HCd := Lib.hid (fun W (hW : Ext w W) => (⟨hW.cell c0w id, hW.cell c2w id, hW.cell d0w id⟩ : W.cell? ⟨b, off + i * 3, none⟩ = some (.string s) ∧ W.cell? ⟨b, off + i * 3 + 2, none⟩ = some (.slice (some ⟨g, o, none⟩) m rcap) ∧ W.cell? ⟨g, o + j, none⟩ = some (.slice xa k xcap)))
            clear c0w c2w d0w
            refine draw_begin (fun w' : World => w'.cell? ⟨b, off + i * 3, none⟩ = some (.string s) ∧ w'.cell? ⟨b, off + i * 3 + 2, none⟩ = some (.slice (some ⟨g, o, none⟩) m rcap) ∧ w'.cell? ⟨g, o + j, none⟩ = some (.slice xa k xcap)) [] (by kernel_rfl) (HCd.out _ (HM2.out.1.ext.drew)) (fun hHeld => ?_)
            (refine draw_free (i := 0) (v := ?_) rfl ?_ ?_; rotate_left; (intro w; go_simp; try with_reducible rfl)); (try simp only [Act.put, List.setIfInBounds_toArray, List.set_cons_zero, List.set_cons_succ])
            (refine draw_free (i := 1) (v := ?_) rfl ?_ ?_; rotate_left; (intro w; go_simp; try with_reducible rfl)); (try simp only [Act.put, List.setIfInBounds_toArray, List.set_cons_zero, List.set_cons_succ])
            (refine draw_free (i := 2) (v := ?_) rfl ?_ ?_; rotate_left; (intro w; go_simp; try with_reducible rfl)); (try simp only [Act.put, List.setIfInBounds_toArray, List.set_cons_zero, List.set_cons_succ])
            (refine draw_in (i := 3) (v := ?_) rfl ?_ ?_; rotate_left; (intro w hSw; (try dsimp only at hSw); go_simp; try with_reducible rfl)); (try simp only [Act.put, List.setIfInBounds_toArray, List.set_cons_zero, List.set_cons_succ])
            (refine draw_free (i := 4) (v := ?_) rfl ?_ ?_; rotate_left; (intro w; go_simp; try with_reducible rfl)); (try simp only [Act.put, List.setIfInBounds_toArray, List.set_cons_zero, List.set_cons_succ])
            (refine draw_in (i := 5) (v := ?_) rfl ?_ ?_; rotate_left; (intro w hSw; (try dsimp only at hSw); go_simp; try with_reducible rfl)); (try simp only [Act.put, List.setIfInBounds_toArray, List.set_cons_zero, List.set_cons_succ])
            (refine draw_free (i := 6) (v := ?_) rfl ?_ ?_; rotate_left; (intro w; go_simp; try with_reducible rfl)); (try simp only [Act.put, List.setIfInBounds_toArray, List.set_cons_zero, List.set_cons_succ])
            (refine draw_free (i := 7) (v := ?_) rfl ?_ ?_; rotate_left; (intro w; go_simp; try with_reducible rfl)); (try simp only [Act.put, List.setIfInBounds_toArray, List.set_cons_zero, List.set_cons_succ])
            (refine draw_in (i := 8) (v := ?_) rfl ?_ ?_; rotate_left; (intro w hSw; (try dsimp only at hSw); go_simp; try with_reducible rfl)); (try simp only [Act.put, List.setIfInBounds_toArray, List.set_cons_zero, List.set_cons_succ])
            (refine draw_free (i := 9) (v := ?_) rfl ?_ ?_; rotate_left; (intro w; go_simp; try with_reducible rfl)); (try simp only [Act.put, List.setIfInBounds_toArray, List.set_cons_zero, List.set_cons_succ])
            (refine draw_in (i := 10) (v := ?_) rfl ?_ ?_; rotate_left; (intro w hSw; (try dsimp only at hSw); go_simp; try with_reducible rfl)); (try simp only [Act.put, List.setIfInBounds_toArray, List.set_cons_zero, List.set_cons_succ])
            (refine draw_free (i := 11) (v := ?_) rfl ?_ ?_; rotate_left; (intro w; go_simp; try with_reducible rfl)); (try simp only [Act.put, List.setIfInBounds_toArray, List.set_cons_zero, List.set_cons_succ])
            (refine draw_in (i := 12) (v := ?_) rfl ?_ ?_; rotate_left; (intro w hSw; (try dsimp only at hSw); go_simp; try with_reducible rfl)); (try simp only [Act.put, List.setIfInBounds_toArray, List.set_cons_zero, List.set_cons_succ])
            (refine draw_in (i := 13) (v := ?_) rfl ?_ ?_; rotate_left; (intro w hSw; (try dsimp only at hSw); go_simp; try with_reducible rfl)); (try simp only [Act.put, List.setIfInBounds_toArray, List.set_cons_zero, List.set_cons_succ])
            refine draw_one (i := 14) ?_
            refine comes_turn (i := 14) rfl (fun K hK => ?_)
            go_simp
            (refine (refBAdd_anyE HMd.out.base HMd.out.ok s (xo := xa) (m := k) (xc := xcap) (ss := ss) HSS.out.2.symm (HRow.out.1.ext HMd.out.ext) HRow.out.2.1 (fun hne a e ho => by have h1 := HMd.out.own _ (.inl ho); have h2 := cells_lt HRow.out.1 hne a e; omega) (by rw [HMd.out.len]; have := HM2.out.2.1; omega)).mono ?_; rintro e w3 ⟨v, rfl, hk3, rfl, hT3⟩; obtain ⟨S3, G3, hM3⟩ := HMd.out.next hk3 (fun k e => e) hT3 (same_addC HMd.out.ok.ok HMd.out.okC HMd.out.same s ss) (ok_add HMd.out.okC s ss); have HM3 := Lib.hid hM3; clear hk3 hT3 hM3; rw [same_addR HMd.out.ok.ok HMd.out.okC HMd.out.same]; obtain ⟨x1, ex1⟩ : ∃ x, (addR C2 s ss).1 = x := ⟨_, rfl⟩; obtain ⟨x2, ex2⟩ : ∃ x, (addR C2 s ss).2 = x := ⟨_, rfl⟩; rw [ex1, ex2]; have EX := Lib.hid ex2; clear ex1 ex2)
            go_wp2_with fail
            refine hK.out _ _ ?_ (fun hHeld => ?_)
            · (try dsimp only); (exact HCd.out _ HM3.out.ext)
            clear hK K; (try simp only [Act.put, List.setIfInBounds_toArray, List.set_cons_zero, List.set_cons_succ])
            (refine draw_free (i := 15) (v := ?_) rfl ?_ ?_; rotate_left; (intro w; go_simp; try with_reducible rfl)); (try simp only [Act.put, List.setIfInBounds_toArray, List.set_cons_zero, List.set_cons_succ])
            (refine draw_free (i := 16) (v := ?_) rfl ?_ ?_; rotate_left; (intro w; go_simp; try with_reducible rfl)); (try simp only [Act.put, List.setIfInBounds_toArray, List.set_cons_zero, List.set_cons_succ])
            (refine draw_free (i := 17) (v := ?_) rfl ?_ ?_; rotate_left; (intro w; go_simp; try with_reducible rfl)); (try simp only [Act.put, List.setIfInBounds_toArray, List.set_cons_zero, List.set_cons_succ])
            (refine draw_free (i := 18) (v := ?_) rfl ?_ ?_; rotate_left; (intro w; go_simp; try with_reducible rfl)); (try simp only [Act.put, List.setIfInBounds_toArray, List.set_cons_zero, List.set_cons_succ])
            (refine draw_free (i := 19) (v := ?_) rfl ?_ ?_; rotate_left; (intro w; go_simp; try with_reducible rfl)); (try simp only [Act.put, List.setIfInBounds_toArray, List.set_cons_zero, List.set_cons_succ])
            refine wpAnyD_done (by kernel_rfl) ?_ _
            clear hHeld
            have hdj : q.2.2.1.drop j = ss :: q.2.2.1.drop (j + 1) := drop_at HSS.out.1
            have HDj := Lib.hid hdj
            clear hdj
            by_cases hx : x2 = 0
            · have q1 : ((x2 : Int) != 0) = false := by simp [hx]
              have HX := Lib.hid hx
              clear hx
              go_wp2
              go_roundw
              case rel =>
                have hla := len_addC (C := C2) (s := s) ss (by rw [← HQ.out.2.1]; exact HM2.out.2.2.1)
                refine ⟨j + 1, by omega, by first | rfl | (congr 1; done) | (congr 1; omega), S3, G3, _, HM3.out, by rw [hla.1]; exact HM2.out.2.1, by rw [HQ.out.2.1]; exact hla.2, ?_⟩
                rw [← HM2.out.2.2.2, HDj.out, HQ.out.2.1]
                exact (addAll_go (by rw [EX.out]; exact HX.out)).symm
              case measure => simp [intOf]; omega
            · have q1 : ((x2 : Int) != 0) = true := by simp; omega
              have HX := Lib.hid hx
              clear hx
              go_wp2
              go_ret2
              have hall := HM2.out.2.2.2
              rw [HDj.out, HQ.out.2.1, addAll_bad (by rw [EX.out]; exact HX.out), EX.out] at hall
              have hfr : fromC [] L = (C2, x2) := by
                rw [← HF.out.1, HDr.out, from_err (by rw [HQ.out.2.1, HQ.out.2.2.1, ED.out]; exact HD.out) (by rw [HQ.out.2.1, HQ.out.2.2.1, ← hall]; exact HX.out), HQ.out.2.1, HQ.out.2.2.1, ← hall]
              exact RetN.mk HM3.out.ext ⟨fun h0 => by rw [hfr] at h0; exact absurd h0 HX.out, fun _ => by rw [hfr]; rfl⟩
          · obtain rfl : j = m := by omega
            have hall := HM2.out.2.2.2
            rw [List.drop_of_length_le (by rw [HQ.out.2.2.2]; exact Nat.le_refl _)] at hall
            have hall' : addAll (declC C s a) s q.2.2.1 = (C2, 0) := hall.symm
            have HAll := Lib.hid hall'
            clear hall hall'
            go_wp2
            go_roundw
            case rel =>
              refine ⟨i + 1, by omega, by first | rfl | (congr 1; done) | (congr 1; omega), S2, G2, C2, HM2.out.1, HM2.out.2.1, ?_⟩
              rw [← HF.out.1, HDr.out, from_go (by rw [HQ.out.2.1, HQ.out.2.2.1, ED.out]; exact HD.out) (by rw [HQ.out.2.1, HQ.out.2.2.1, HAll.out]), HQ.out.2.1, HQ.out.2.2.1, HAll.out]
            case measure => simp [intOf]; omega
      · have q1 : ((d : Int) != 0) = true := by simp; omega
        have HD := Lib.hid hd
        clear hd
        go_wp2
        go_ret2
        have hfr : fromC [] L = (C, d) := by
          rw [← HF.out.1, drop_at HQ.out.1, from_bad (by rw [HQ.out.2.1, HQ.out.2.2.1, ED.out]; exact HD.out), HQ.out.2.1, HQ.out.2.2.1, ED.out]
        exact RetN.mk HM1.out.ext ⟨fun h0 => by rw [hfr] at h0; exact absurd h0 HD.out, fun _ => by rw [hfr]; rfl⟩
    · obtain rfl : i = n := by omega
      have hfr : fromC [] L = (C, 0) := by
        rw [← HF.out.1, List.drop_of_length_le (by rw [← HN.out]; exact Nat.le_refl _)]; rfl
      have HFr := Lib.hid hfr
      clear hfr
      go_wp2
      go_ret2
      exact RetN.mk HM.out.ext ⟨fun _ => ⟨cb, S, G, rfl, HM.out.base, HM.out.ok, by rw [HFr.out]; exact HM.out.same, by rw [HM.out.len, ← HN.out]; exact HF.out.2, HM.out.pool, HM.out.own⟩, fun h0 => absurd (by rw [HFr.out]) h0⟩
end Go.Proofs.YtomeebimmmfmbaaGreat

/- The law of counts: many, base, Gather of none. -/
namespace Go.Proofs.YtomeebimmmfmbaaGreat
open Go.RowKit Go.Shelf
set_option linter.unusedVariables false
def sumR (L : List RelZ) : Nat := (L.map fun q => q.2.2.1.length).sum
theorem sumR_take {L : List RelZ} {i : Nat} {q : RelZ} (h : L[i]? = some q) : sumR (L.take (i + 1)) = sumR (L.take i) + q.2.2.1.length := by
  unfold sumR
  rw [List.take_add_one, h, List.map_append, List.sum_append]; simp
theorem sumR_le (L : List RelZ) (i : Nat) : sumR (L.take i) ≤ sumR L := by
  have h : sumR L = sumR (L.take i) + sumR (L.drop i) := by unfold sumR; rw [← List.sum_append, ← List.map_append, List.take_append_drop]
  omega
def ManyTo (w0 : World) (L : List RelZ) (n : Nat) (iv nv : Value) (w : World) : Prop := ∃ i : Nat, i ≤ n ∧ iv = .int .i64 i ∧ nv = .int .i64 (sumR (L.take i) : Nat) ∧ Hid (Ext w0 w)
set_option maxRecDepth 100000 in
theorem many_any (L : List RelZ) (ao : Option Addr) (n cap : Nat) (w : World) (S0 : Nat → Prop) (hn : n = L.length) (hL : RelsIn S0 w ao L) (hl : n ≤ 1048576) (hs : sumR L ≤ 1048576) :
    Calls Tryz.prog 5 #[.slice ao n cap] w (RetN w fun w' v => v = .bool (decide (400 < sumR L))) := by
  have HN := Lib.hid hn
  have HL := Lib.hid hL
  clear hn hL
  go_enter Tryz.func5, Tryz.ntmps5
  go_wp2
  go_loopw [4, 3] (fun iv nv wr => ManyTo w L n iv nv wr) (fun iv _ _ => n - (intOf iv).toNat)
  case atStart => exact ⟨0, Nat.zero_le _, rfl, rfl, Lib.hid (Kp.refl _)⟩
  case round =>
    obtain ⟨i, hi, rfl, rfl, hex⟩ := hrel
    by_cases hlt : i < n
    · obtain ⟨q, hq⟩ : ∃ q, L[i]? = some q := ⟨_, List.getElem?_eq_getElem (by rw [← HN.out]; exact hlt)⟩
      obtain ⟨b, off, ra, rcap, eao, -, -, -, c2, -, -, -⟩ := HL.out i q hq
      subst eao
      replace c2 := hex.out.cell c2 id
      have hst := sumR_take hq
      have hle := sumR_le L (i + 1)
      obtain ⟨s, es⟩ : ∃ s, sumR (L.take i) = s := ⟨_, rfl⟩
      obtain ⟨k, ek⟩ : ∃ k, q.2.2.1.length = k := ⟨_, rfl⟩
      rw [es, ek] at hst
      rw [ek] at c2
      rw [es]
      have HS := Lib.hid hst
      have hsk : s + k ≤ 1048576 := by omega
      clear hst hle es ek hq
      go_wp2
      go_roundw
      case rel => exact ⟨i + 1, by omega, by first | rfl | (congr 1; done) | (congr 1; omega), (by rw [HS.out]; congr 1), hex⟩
      case measure => simp [intOf]; omega
    · have ei : n = i := by omega
      subst ei
      have hall : L.take n = L := List.take_of_length_le (by rw [← HN.out]; exact Nat.le_refl _)
      rw [hall]
      obtain ⟨s, es⟩ : ∃ s, sumR L = s := ⟨_, rfl⟩
      rw [es]
      have HS := Lib.hid es
      clear hall
      by_cases h4 : 400 < s
      · have q1 : (400 : Int) < (s : Int) := by omega
        go_wp2
        go_ret
        exact RetN.mk hex.out (by first | rfl | (rw [HS.out, decide_eq_true h4]; rfl))
      · have q1 : ¬ (400 : Int) < (s : Int) := by omega
        go_wp2
        go_ret
        exact RetN.mk hex.out (by first | rfl | (rw [HS.out, decide_eq_false h4]; rfl))
theorem gather_nil (w : World) : Calls Tryz.prog 8 #[.pointer none] w (RetN w fun w' v => v = .tuple #[.slice none 0 0, .int .i64 1]) := by
  have hq : ∀ w : World, (binOp .eql 35 (.pointer none) (.pointer none)).run Tryz.prog w = .ok (.bool true) w := fun _ => by kernel_rfl
  go_enter Tryz.func8, Tryz.ntmps8
  go_wp2
  go_ret2
  exact RetN.mk (Kp.refl _) rfl
def BothV (w : World) (L : List RelZ) (w' : World) (v : Value) : Prop :=
  ((fromC [] L).2 = 0 → ∃ bb r cb S S' E G, v = .tuple #[.pointer (some ⟨bb, 0, none⟩), .pointer (some ⟨cb, 0, none⟩)] ∧ BaseAt S w' bb r E ∧ RefB S' w' cb G ∧ RefOk G ∧ cntE E = (fromC [] L).1 ∧ SameC (cntR G) (fromC [] L).1 ∧ G.length ≤ L.length) ∧
  ((fromC [] L).2 ≠ 0 → v = .tuple #[.pointer none, .pointer none])
theorem base25_any (L : List RelZ) (ao : Option Addr) (n cap : Nat) (w : World) (S0 : Nat → Prop) (hn : n = L.length) (hL : RelsIn S0 w ao L) (hl : n ≤ 1048576) (hr : ∀ q ∈ L, q.2.2.1.length ≤ 1048576) :
    Calls Tryz.prog 7 #[.slice ao n cap] w (RetN w (BothV w L)) := by
  have HF := Lib.hid (from_any L ao n cap w S0 hn hL (by omega) hr)
  have HM := Lib.hid (fun (W : World) (hW : Ext w W) => refFrom_any L ao n cap W S0 hn (hL.ext hW) (by omega) hr)
  clear hn hL hr
  go_enter Tryz.func7, Tryz.ntmps7
  go_wp2_with fail
  refine HF.out.mono ?_
  rintro e w1 ⟨v1, rfl, hk1, h0, hne⟩
  by_cases hz : (fromC [] L).2 = 0
  · obtain ⟨bb, r, S, E, rfl, hB, hC, -, -⟩ := h0 hz
    have H1 := Lib.hid (And.intro hk1 (And.intro hB hC))
    clear h0 hne hB hC hk1
    go_wp2_with fail
    refine (HM.out w1 H1.out.1).mono ?_
    rintro e w2 ⟨v2, rfl, hk2, m0, -⟩
    obtain ⟨cb, S', G, rfl, hR, hok, hC2, hlen, -, -⟩ := m0 hz
    have H2 := Lib.hid (And.intro hk2 (And.intro hR (And.intro hok (And.intro hC2 hlen))))
    have HZ := Lib.hid hz
    clear m0 hR hok hC2 hk2 hlen hz
    go_wp2
    go_ret2
    exact RetN.mk (H1.out.1.trans H2.out.1) ⟨fun _ => ⟨bb, r, cb, S, S', E, G, rfl, H1.out.2.1.ext H2.out.1, H2.out.2.1, H2.out.2.2.1, H1.out.2.2, H2.out.2.2.2.1, H2.out.2.2.2.2⟩, fun h => absurd HZ.out h⟩
  · obtain rfl := hne hz
    have H1 := Lib.hid hk1
    clear h0 hne hk1
    go_wp2_with fail
    refine (HM.out w1 H1.out).mono ?_
    rintro e w2 ⟨v2, rfl, hk2, -, m1⟩
    obtain rfl := m1 hz
    have H2 := Lib.hid hk2
    have HZ := Lib.hid hz
    clear m1 hk2 hz
    go_wp2
    go_ret2
    exact RetN.mk (H1.out.trans H2.out) ⟨fun h => absurd h HZ.out, fun _ => rfl⟩
theorem GathV.stats {S : List StatZ} {w W : World} {v : Value} (h : GathV S w v W) : ∃ a c, v = .slice a S.length c ∧ StatsAt W a S := by
  obtain ⟨vs, h1, h2, h3, -⟩ := h
  obtain ⟨oa, oc, eov, q1, _, _⟩ := h2.cap
  exact ⟨oa, oc, eov, stats_cells h1 q1 h3⟩
end Go.Proofs.YtomeebimmmfmbaaGreat

/- The law of one's own memory: named. -/
namespace Go.Proofs.YtomeebimmmfmbaaGreat
open Go.RowKit Go.Shelf
set_option linter.unusedVariables false
def NamedLTo (w0 : World) (L : List RelZ) (p : ByteArray) (n : Nat) (iv : Value) (w : World) : Prop := ∃ i : Nat, i ≤ n ∧ iv = .int .i64 i ∧ (∀ q ∈ L.take i, q.1 ≠ p) ∧ Hid (Ext w0 w)
set_option maxRecDepth 100000 in
theorem namedL_any (L : List RelZ) (ao : Option Addr) (n cap : Nat) (p : ByteArray) (w : World) (S0 : Nat → Prop) (hn : n = L.length) (hL : RelsIn S0 w ao L) (hl : n ≤ 1048576) :
    Calls Tryz.prog 19 #[.slice ao n cap, .string p] w (RetN w fun w' v => v = .bool (decide (∃ q ∈ L, q.1 = p))) := by
  have HN := Lib.hid hn
  have HL := Lib.hid hL
  clear hn hL
  go_enter Tryz.func19, Tryz.ntmps19
  go_wp2
  go_loopw [5] (fun iv wr => NamedLTo w L p n iv wr) (fun iv _ => n - (intOf iv).toNat)
  case atStart => exact ⟨0, Nat.zero_le _, rfl, by simp, Lib.hid (Kp.refl _)⟩
  case round =>
    obtain ⟨i, hi, rfl, hno, hex⟩ := hrel
    have HNo := Lib.hid hno
    clear hno
    by_cases hlt : i < n
    · obtain ⟨q, hq⟩ : ∃ q, L[i]? = some q := ⟨_, List.getElem?_eq_getElem (by rw [← HN.out]; exact hlt)⟩
      obtain ⟨b, off, ra, rcap, eao, -, c0, -, -, -, -, -⟩ := HL.out i q hq
      subst eao
      replace c0 := hex.out.cell c0 id
      have HQ := Lib.hid hq
      clear hq
      by_cases h : q.1 = p
      · have HE := Lib.hid h
        rw [h] at c0
        have hb := str_eq p
        clear h
        go_wp2
        go_ret
        exact RetN.mk hex.out (by rw [decide_eq_true ⟨q, List.mem_of_getElem? HQ.out, HE.out⟩]; rfl)
      · have hb := str_ne h
        have HE := Lib.hid h
        clear h
        go_wp2
        go_roundw
        case rel =>
          refine ⟨i + 1, by omega, by first | rfl | (congr 1; done) | (congr 1; omega), fun x hx => ?_, hex⟩
          rw [List.take_add_one, HQ.out, List.mem_append] at hx
          rcases hx with hx | hx
          · exact HNo.out x hx
          · simp at hx; subst hx; exact HE.out
        case measure => simp [intOf]; omega
    · have ei : n = i := by omega
      subst ei
      have hall : L.take n = L := List.take_of_length_le (by rw [← HN.out]; exact Nat.le_refl _)
      rw [hall] at HNo
      clear hall
      go_wp2
      go_ret
      exact RetN.mk hex.out (by rw [decide_eq_false (fun ⟨q, h1, h2⟩ => HNo.out q h1 h2)]; rfl)
end Go.Proofs.YtomeebimmmfmbaaGreat

/- The law of one's own memory: what Gather answers, written over. -/
namespace Go.Proofs.YtomeebimmmfmbaaGreat
open Go.RowKit Go.Shelf
set_option linter.unusedVariables false
structure ListsW (w : World) (M : Nat → Prop) (ba : Option Addr) (n bc : Nat) (f : Nat → SlZ) : Prop where
  row : ∃ cs, Row w 48 3 (.slice ba n bc) n cs M ∧ ∀ i, i < n → cs[i * 3 + 2]? = some (slV (f i))
  terms : ∀ i, i < n → ∃ xs, Row w 45 1 (slV (f i)) (f i).2.1 xs M
  far : ∀ i j, i < n → j < n → i ≠ j → ∀ a b, (f i).1 = some a → (f j).1 = some b → a.block ≠ b.block
theorem ListsW.kp {w w' : World} {M F : Nat → Prop} {ba : Option Addr} {n bc : Nat} {f : Nat → SlZ} (h : ListsW w M ba n bc f) (hk : Kp F w w') (h1 : ∀ a, ba = some a → ¬ F a.block) (h2 : ∀ i, i < n → ∀ a, (f i).1 = some a → ¬ F a.block) : ListsW w' M ba n bc f := by
  obtain ⟨⟨cs, hr, hc⟩, ht, hf⟩ := h
  exact ⟨⟨cs, hr.kpA hk h1, hc⟩, fun i hi => by obtain ⟨xs, hx⟩ := ht i hi; exact ⟨xs, Row.kpA hx hk (h2 i hi)⟩, hf⟩
theorem ListsW.ext {w w' : World} {M : Nat → Prop} {ba : Option Addr} {n bc : Nat} {f : Nat → SlZ} (h : ListsW w M ba n bc f) (hk : Ext w w') : ListsW w' M ba n bc f := h.kp hk (fun _ _ => id) fun _ _ _ _ => id
theorem ListsW.term {w w' : World} {M : Nat → Prop} {ba : Option Addr} {n bc : Nat} {f : Nat → SlZ} (h : ListsW w M ba n bc f) {i : Nat} (hi : i < n) {g : Nat} {o : Nat} {r : Option Nat} (hg : (f i).1 = some ⟨g, o, r⟩) (hk : Kp (fun k => k = g) w w') (hr : ∃ xs, Row w' 45 1 (slV (f i)) (f i).2.1 xs M) : ListsW w' M ba n bc f := by
  obtain ⟨⟨cs, hrow, hc⟩, ht, hf⟩ := h
  obtain ⟨xs, hxi⟩ := ht i hi
  obtain ⟨cs1, hb1⟩ := row_addrE hxi hg
  refine ⟨⟨cs, hrow.kpA hk fun a ha e => ?_, hc⟩, fun j hj => ?_, hf⟩
  · obtain ⟨cs2, hb2⟩ := row_addrE (q := (ba, n, bc)) hrow ha
    rw [e] at hb2
    exact typ_fc (blk_ne hb1 hb2)
  · by_cases e : j = i
    · subst e; exact hr
    · obtain ⟨ys, hy⟩ := ht j hj
      exact ⟨ys, Row.kpA hy hk fun a ha e2 => hf j i hj hi e a _ ha hg e2⟩
theorem ListsW.app {w w1 : World} {M : Nat → Prop} {g n bc : Nat} {f : Nat → SlZ} (h : ListsW w M (some ⟨g, 0, none⟩) n bc f) {i : Nat} (hi : i < n) {q : SlZ} {xs : List Value} (hk : Kp (fun k => (slV (f i)).ownBlock = some k) w w1) (hr : Row w1 45 1 (slV q) q.2.1 xs (fun k => (slV (f i)).ownBlock = some k ∨ w.heap.size ≤ k)) (hM : ∀ k, w.heap.size ≤ k → M k) :
    ListsW (w1.setCell ⟨g, i * 3 + 2, none⟩ (slV q)) M (some ⟨g, 0, none⟩) n bc (updF f i q) ∧ ∃ cs, Row w1 48 3 (.slice (some ⟨g, 0, none⟩) n bc) n cs M ∧ ∀ j, j < n → cs[j * 3 + 2]? = some (slV (f j)) := by
  obtain ⟨⟨cs, hrow, hc⟩, ht, hf⟩ := h
  obtain ⟨xs0, hxi⟩ := ht i hi
  have hrow1 : Row w1 48 3 (.slice (some ⟨g, 0, none⟩) n bc) n cs M := hrow.kpA hk fun a ha e => by
    obtain ⟨cs1, hb1⟩ := hxi.blkOf e
    obtain ⟨cs2, hb2⟩ := row_addrE (q := (some ⟨g, 0, none⟩, n, bc)) hrow ha
    exact typ_fc (blk_ne hb1 hb2)
  have hgb : ∃ cs2, Blk w1 g cs2 48 := row_addrE (q := (some ⟨g, 0, none⟩, n, bc)) hrow1 rfl
  obtain ⟨cs2, hgb⟩ := hgb
  have hks : Kp (fun k => k = g) w1 (w1.setCell ⟨g, i * 3 + 2, none⟩ (slV q)) := Kp.setCell (F := fun k => k = g) (Kp.refl w1) (fun _ => rfl) _
  have hlen : i * 3 + 2 < cs.length := (List.getElem?_eq_some_iff.1 (hc i hi)).1
  have hj1 : ∀ j, j < n → j ≠ i → ∃ ys, Row w1 45 1 (slV (f j)) (f j).2.1 ys M := fun j hj e => by
    obtain ⟨ys, hy⟩ := ht j hj
    refine ⟨ys, Row.kpA hy hk fun a ha e2 => ?_⟩
    obtain ⟨b, hb, eb⟩ := own_addr e2
    exact hf j i hj hi e a b ha hb eb.symm
  have hof : ∀ {q' : SlZ} {m : Nat} {ys : List Value} {M' : Nat → Prop}, Row w1 45 1 (slV q') m ys M' → Row (w1.setCell ⟨g, i * 3 + 2, none⟩ (slV q)) 45 1 (slV q') m ys M' := fun hy => Row.kpA hy hks fun a ha e => by
    obtain ⟨cs3, hb3⟩ := row_addrE hy ha
    rw [e] at hb3
    exact typ_fc (blk_ne hb3 hgb)
  refine ⟨⟨⟨_, hrow1.putO _ hlen _, fun j hj => ?_⟩, fun j hj => ?_, fun j l hj hl hne a b ha hb => ?_⟩, cs, hrow1, hc⟩
  · by_cases e : j = i
    · subst e
      rw [List.getElem?_set_self hlen, updF, if_pos rfl]
    · rw [List.getElem?_set_ne (by omega), updF, if_neg e]; exact hc j hj
  · by_cases e : j = i
    · subst e
      rw [updF, if_pos rfl]
      refine ⟨_, (hof hr).mono fun k hk => ?_⟩
      rcases hk with hk | hk
      · exact hxi.block k hk
      · exact hM k hk
    · rw [updF, if_neg e]
      obtain ⟨ys, hy⟩ := hj1 j hj e
      exact ⟨ys, hof hy⟩
  · have key : ∀ j, j < n → j ≠ i → ∀ a b, (f j).1 = some a → q.1 = some b → a.block ≠ b.block := fun j hj e a b ha hb => by
      obtain ⟨ys, hy⟩ := ht j hj
      have h1 := (row_addr (ao := (f j).1) hy ha).1
      have h2 := (row_addr (ao := q.1) hr hb).2
      rcases h2 with h2 | h2
      · obtain ⟨c, hc2, ec⟩ := own_addr h2
        rw [← ec]
        exact hf j i hj hi e a c ha hc2
      · omega
    unfold updF at ha hb
    by_cases e1 : j = i
    · rw [if_pos e1] at ha
      have e2 : l ≠ i := fun e => hne (e1.trans e.symm)
      rw [if_neg e2] at hb
      exact (key l hl e2 b a hb ha).symm
    · rw [if_neg e1] at ha
      by_cases e2 : l = i
      · rw [if_pos e2] at hb
        exact key j hj e1 a b ha hb
      · rw [if_neg e2] at hb
        exact hf j l hj hl hne a b ha hb
theorem ListsW.kind {w : World} {M : Nat → Prop} {g n bc : Nat} {f : Nat → SlZ} (h : ListsW w M (some ⟨g, 0, none⟩) n bc f) {i : Nat} (hi : i < n) (v : Value) : ListsW (w.setCell ⟨g, i * 3, none⟩ v) M (some ⟨g, 0, none⟩) n bc f := by
  obtain ⟨⟨cs, hrow, hc⟩, ht, hf⟩ := h
  have hlen : i * 3 + 2 < cs.length := (List.getElem?_eq_some_iff.1 (hc i hi)).1
  obtain ⟨cs2, hgb⟩ := row_addrE (q := (some ⟨g, 0, none⟩, n, bc)) hrow rfl
  have hks : Kp (fun k => k = g) w (w.setCell ⟨g, i * 3, none⟩ v) := Kp.setCell (F := fun k => k = g) (Kp.refl w) (fun _ => rfl) _
  refine ⟨⟨_, hrow.putO _ (by omega) v, fun j hj => by rw [List.getElem?_set_ne (by omega)]; exact hc j hj⟩, fun j hj => ?_, hf⟩
  obtain ⟨ys, hy⟩ := ht j hj
  exact ⟨ys, Row.kpA hy hks fun a ha e => by
    obtain ⟨cs3, hb3⟩ := row_addrE hy ha
    rw [e] at hb3
    exact typ_fc (blk_ne hb3 hgb)⟩
theorem GathV.lists {S : List StatZ} {w W : World} {v : Value} (h : GathV S w v W) {M : Nat → Prop} (hM : ∀ k, w.heap.size ≤ k → k < W.heap.size → M k) (hl : ∀ s ∈ S, s.2.2.1.length ≤ 1048576) : ∃ a c f, v = .slice a S.length c ∧ ListsW W M a S.length c f ∧ ∀ i, i < S.length → (f i).2.1 ≤ 1048576 := by
  obtain ⟨vs, hv, hr, ht, hf⟩ := h
  have hlt : ∀ {e : TypeId} {k : Nat} {v : Value} {n : Nat} {xs : List Value}, Row W e k v n xs (New w) → Row W e k v n xs M := fun hr => by
    obtain ⟨h1, h2 | ⟨g, cap, rest, a, b, c, d⟩⟩ := hr
    · exact ⟨h1, .inl h2⟩
    · exact ⟨h1, .inr ⟨g, cap, rest, a, hM g b c.lt, c, d⟩⟩
  obtain ⟨a, c, rfl, -, -⟩ := hr.shape
  have hz : ∀ i, i < S.length → ∃ x, (S.zip vs)[i]? = some x := fun i hi => ⟨_, List.getElem?_eq_getElem (by rw [List.length_zip]; omega)⟩
  refine ⟨a, c, fun i => match (S.zip vs)[i]? with | some x => (x.2.1, x.1.2.2.1.length, x.2.2) | none => (none, 0, 0), rfl, ⟨⟨_, hlt hr, fun i hi => ?_⟩, fun i hi => ?_, fun i j hi hj hne a b ha hb => ?_⟩, fun i hi => ?_⟩
  · obtain ⟨x, hx⟩ := hz i hi
    rw [flat_get statC 3 statC_len (S.zip vs) i x 2 hx (by decide), hx]; rfl
  · obtain ⟨x, hx⟩ := hz i hi
    simp only [hx]
    exact ⟨_, hlt (ht x (List.mem_of_getElem? hx))⟩
  · obtain ⟨x, hx⟩ := hz i hi
    obtain ⟨y, hy⟩ := hz j hj
    simp only [hx, hy] at ha hb
    have gx := (List.getElem?_zip_eq_some.1 hx).2
    have gy := (List.getElem?_zip_eq_some.1 hy).2
    have hp := List.pairwise_iff_getElem.1 hf
    have lx := (List.getElem?_eq_some_iff.1 gx)
    have ly := (List.getElem?_eq_some_iff.1 gy)
    rcases Nat.lt_or_gt_of_ne hne with h | h
    · exact hp i j lx.1 ly.1 h a b (by rw [lx.2]; exact ha) (by rw [ly.2]; exact hb)
    · exact (hp j i ly.1 lx.1 h b a (by rw [ly.2]; exact hb) (by rw [lx.2]; exact ha)).symm
  · obtain ⟨x, hx⟩ := hz i hi
    simp only [hx]
    exact hl _ (List.mem_of_getElem? (List.getElem?_zip_eq_some.1 hx).1)
theorem GathV.keep {S : List StatZ} {w W W' : World} {F : Nat → Prop} {v : Value} (h : GathV S w v W) (hk : Kp F W W') (hF : ∀ k, w.heap.size ≤ k → k < W.heap.size → ¬ F k) : GathV S w v W' := by
  obtain ⟨vs, h1, h2, h3, h4⟩ := h
  refine ⟨vs, h1, h2.kp' hk fun g hg hb f => ?_, fun x hx => Row.kp' (h3 x hx) hk fun g hg hb f => ?_, h4⟩
  · obtain ⟨cs, hb2⟩ := h2.blkOf hg; exact hF _ hb hb2.lt f
  · obtain ⟨cs, hb2⟩ := Row.blkOf (h3 x hx) hg; exact hF _ hb hb2.lt f
theorem flt_le (n : Nat) : fltN n ≤ infW := by
  have h : fltN n = roundW (n * 2 ^ 1074) := by
    rw [← nearest_round n 1074]
    unfold fltN floatOfInt
    have : ¬ ((n : Int) < 0) := by omega
    simp [this]
    rfl
  rw [h]
  unfold roundW
  split <;> omega
theorem not_below {d : Nat} (h : d ≤ infW) : ((FloatKind.format .f64).order d 0 == some .lt) = false := by
  have h1 : (FloatKind.format .f64).order d 0 = some (compare d 0) := order_pos h (by decide)
  rw [h1]
  cases hc : compare d 0 with
  | lt => exact absurd (Nat.compare_eq_lt.1 hc) (Nat.not_lt_zero _)
  | eq => rfl
  | gt => rfl
abbrev goneT : ByteArray := ⟨#[103, 111, 110, 101]⟩
theorem gone_list : goneT.toList = [103, 111, 110, 101] := by
  first | rfl | decide | simp
theorem not_gone {sp : ByteArray} (h : ¬ sp = goneT) : ¬ sp.toList = [103, 111, 110, 101] := fun e => by
  have h2 := str_ne h
  rw [gone_list, e] at h2
  cases h2
structure StOk (L : List RelZ) (S : List StatZ) : Prop where
  few : S.length ≤ 1048576
  name : ∀ s ∈ S, s.1 = goneT → ∃ q ∈ L, q.1 = goneT
  dist : ∀ s ∈ S, s.2.2.1.length ≤ 1048576
  pos : ∀ s ∈ S, ∀ d ∈ s.2.2.1, d ≤ infW
def GathF (bv : Value) (L : List RelZ) (w : World) : Prop := ∃ S, StOk L S ∧ ∀ W, Ext w W → Calls Tryz.prog 8 #[bv] W (RetN W fun w' u => ∃ g e, u = .tuple #[g, .int .i64 e] ∧ GathV S W g w')
theorem BothV.gath {w w' : World} {L : List RelZ} {v : Value} (h : BothV w L w' v) (hl : L.length ≤ 1048576) : ∃ bv rv, v = .tuple #[bv, rv] ∧ GathF bv L w' := by
  by_cases hz : (fromC [] L).2 = 0
  · obtain ⟨bb, r, cb, S, S', E, Gr, rfl, hbase, href, hrok, hce, hcr, hlen⟩ := h.1 hz
    have hsame : SameC (cntE E) (cntR Gr) := by rw [hce]; exact hcr.symm
    have hEl : E.length = Gr.length := by
      have h := same_lenC hbase.ok.nodup hrok.ok.nodup hsame
      rw [show (cntE E).length = E.length from by unfold cntE; simp, show (cntR Gr).length = Gr.length from by unfold cntR; simp] at h
      exact h
    refine ⟨_, _, rfl, (relsC (cntE E)).map gatS, ⟨?_, fun s hs he => ?_, fun s hs => ?_, fun s hs d hd => ?_⟩, fun W hW => ?_⟩
    · rw [List.length_map, show (relsC (cntE E)).length = E.length from by unfold relsC; rw [List.length_map, (names_perm _).length_eq]; unfold cntE; simp]
      omega
    · obtain ⟨q, hq, rfl⟩ := List.mem_map.1 hs
      obtain ⟨u, hu, -, -⟩ := rels_mem hq
      rw [hce] at hu
      rcases (from_res ok_nil hz).2.2.2 _ _ hu with ⟨x, hx⟩ | ⟨r, hr, er⟩
      · simp [getC] at hx
      · exact ⟨r, hr, er.trans he⟩
    · obtain ⟨q, hq, rfl⟩ := List.mem_map.1 hs
      obtain ⟨u, hu, ha, -⟩ := rels_mem hq
      have hm := (hbase.ok.all _ ((getC_mem hbase.ok.nodup).1 hu)).ar
      have h1 : u.1 ≤ 64 := hm
      show (colsN q.2.2.1 q.2.1.toNat).length ≤ _
      rw [colsN_len]; omega
    · obtain ⟨q, hq, rfl⟩ := List.mem_map.1 hs
      obtain ⟨c, hc, rfl⟩ := List.mem_map.1 (show d ∈ (List.range q.2.1.toNat).map fun c => fltN (distN q.2.2.1 c) from hd)
      exact flt_le _
    · refine (gather_any (hbase.ext hW) (by omega)).mono ?_
      rintro e w2 ⟨u, rfl, hk, g, rfl, hg⟩
      exact ⟨_, rfl, hk, g, 0, rfl, hg⟩
  · obtain rfl := h.2 hz
    refine ⟨_, _, rfl, [], ⟨by simp, by simp, by simp, by simp⟩, fun W hW => ?_⟩
    refine (gather_nil W).mono ?_
    rintro e w2 ⟨u, rfl, hk, rfl⟩
    exact ⟨_, rfl, hk, _, 1, rfl, [], rfl, Row.nil _ _ _ _, by simp, List.Pairwise.nil⟩
end Go.Proofs.YtomeebimmmfmbaaGreat

/- The law of one's own memory: what Ordered answers, ready to be written over; relations of the loops over counts. -/
namespace Go.Proofs.YtomeebimmmfmbaaGreat
open Go.RowKit
set_option linter.unusedVariables false
theorem Row.young {w : World} {e : TypeId} {k : Nat} {v : Value} {n : Nat} {xs : List Value} {M : Nat → Prop} (h : Row w e k v n xs M) : Row w e k v n xs (fun g => M g ∧ g < w.heap.size) := by
  obtain ⟨h2, h3 | ⟨g, cap, rest, a, b, c, d⟩⟩ := h
  · exact ⟨h2, .inl h3⟩
  · exact ⟨h2, .inr ⟨g, cap, rest, a, ⟨b, c.lt⟩, c, d⟩⟩
theorem OrdO.any {w : World} {p : ByteArray} {hs : List TermZ} {ls : List LitZ} {xs : List Int} {w' : World} {v : Value} (h : OrdO w p hs ls xs w' v) : ∃ p' a1 n1 c1 a2 n2 c2, ∃ o : Int, v = .tuple #[ruleV p' a1 n1 c1 a2 n2 c2, .int .i64 o] := by
  by_cases h0 : ordE ((p, hs, ()), ls, ()) xs = 0
  · obtain ⟨ha, hc, ba, bc, vs, rfl, _⟩ := h.2 h0
    exact ⟨_, _, _, _, _, _, _, _, rfl⟩
  · exact ⟨_, _, _, _, _, _, _, _, h.1 h0⟩
structure OrdS (w w' : World) (gm : Nat) (hs : List TermZ) (Ls : List LitZ) (ha : Option Addr) (hn hc : Nat) (ba : Option Addr) (n bc : Nat) (f : Nat → SlZ) : Prop where
  head : ∃ xs, Row w' 94 2 (.slice ha hn hc) hn xs (fun k => w.heap.size ≤ k ∧ k < gm)
  body : BodyW w' (fun k => w.heap.size ≤ k ∧ k < gm) ba n bc f
  apart : ∀ i, i < n → ∀ a, ha = some a → ∀ b, (f i).1 = some b → a.block ≠ b.block
  few : ∀ i, i < n → (f i).2.1 ≤ 1048576
  terms : TermsAt w' (fun k => w.heap.size ≤ k) ha hs
  lits : LitsAt w' (fun k => w.heap.size ≤ k) ba Ls
theorem OrdO.own {w : World} {p : ByteArray} {hs : List TermZ} {ls : List LitZ} {xs : List Int} {w' : World} {v : Value} (h : OrdO w p hs ls xs w' v) (h0 : ordE ((p, hs, ()), ls, ()) xs = 0) (h1 : ∀ t ∈ hs, TermFit t) (h2 : ∀ l ∈ ls, LitAll l) (hf : Fit ls) :
    ∃ ha hc ba bc f, v = .tuple #[ruleV p ha hs.length hc ba xs.length bc, .int .i64 0] ∧ ∀ gm, w'.heap.size ≤ gm → OrdS w w' gm hs (ordL ls xs) ha hs.length hc ba xs.length bc f := by
  obtain ⟨ha', hc', ba', bc', e', ht, hl⟩ := (h.v h1 fun h0 l hl => h2 l (ordL_mem (ordE_ok h0) l hl)).2 h0
  obtain ⟨ha, hc, ba, bc, vs, e, hr, hvs, hrb, hds, hfar⟩ := h.2 h0
  have e2 := e'.symm.trans e
  simp only [Value.tuple.injEq, ruleV, Array.mk.injEq, List.cons.injEq, Value.agg.injEq, Value.slice.injEq, and_true, true_and] at e2
  obtain ⟨⟨e3, e4⟩, e5, e6⟩ := e2
  subst e3; subst e4; subst e5; subst e6
  obtain ⟨f, hb, ha1, hfew⟩ := BodyW.of (w0 := w) (M := fun k => w.heap.size ≤ k ∧ k < w'.heap.size) (by rw [ordL_len]) hvs hrb.young (fun x hx => Row.young (hds x hx)) hfar
  refine ⟨_, _, _, _, f, e, fun gm hgm => ⟨⟨_, hr.young.mono fun k hk => ⟨hk.1, Nat.lt_of_lt_of_le hk.2 hgm⟩⟩, ?_, ha1, fun i hi => ?_, ht, hl⟩⟩
  · obtain ⟨⟨cs, hrow, hc⟩, ht, hf⟩ := hb
    exact ⟨⟨cs, hrow.mono fun k hk => ⟨hk.1, Nat.lt_of_lt_of_le hk.2 hgm⟩, hc⟩, fun i hi => by
      obtain ⟨xs, hx⟩ := ht i hi
      exact ⟨xs, Row.mono hx fun k hk => ⟨hk.1, Nat.lt_of_lt_of_le hk.2 hgm⟩⟩, hf⟩
  · obtain ⟨l, h3, h4⟩ := hfew i hi
    rw [h4]
    exact hf.terms l (ordL_mem (ordE_ok h0) l h3)
def GoneTo (w18 : World) (M : Nat → Prop) (ga : Option Addr) (n gc : Nat) (iv : Value) (w : World) : Prop := ∃ i : Nat, i ≤ n ∧ iv = .int .i64 i ∧ Hid (∃ f, ListsW w M ga n gc f ∧ ∀ j, j < n → (f j).2.1 ≤ 1048576 + i) ∧ Hid (Kp M w18 w)
def GoneIn (w18 : World) (M : Nat → Prop) (ga : Option Addr) (n gc m : Nat) (f : Nat → SlZ) (iv : Value) (w : World) : Prop := ∃ k : Nat, k ≤ m ∧ iv = .int .i64 k ∧ Hid (ListsW w M ga n gc f) ∧ Hid (Kp M w18 w)
end Go.Proofs.YtomeebimmmfmbaaGreat

/- The law of one's own memory: CostOwn walked. NOT WHOLE YET. -/
namespace Go.Proofs.YtomeebimmmfmbaaGreat
open Go.RowKit Go.Shelf
set_option linter.unusedVariables false
attribute [local go_sem] run_store_float
structure OwnIn (L : List RelZ) (la : Option Addr) (nl : Nat) (hs : List TermZ) (ls : List LitZ) (ha : Option Addr) (hn : Nat) (ba : Option Addr) (n : Nat) (K : List StatZ) (ka : Option Addr) (nk : Nat) (w : World) (G : Nat → Prop) : Prop where
  enl : nl = L.length
  rel : RelsIn (fun _ => True) w la L
  few : nl ≤ 1048576
  sum : sumR L ≤ 1048576
  rows : ∀ q ∈ L, q.2.2.1.length ≤ 1048576
  ehn : hn = hs.length
  heads : TermsAt w G ha hs
  hfew : hn ≤ 1048576
  en : n = ls.length
  lits : LitsAt w G ba ls
  fit : Fit ls
  ek : nk = K.length
  known : KnownAt w ka K
  kfit : StatsFit K
set_option maxRecDepth 100000 in
set_option maxHeartbeats 16000000 in
theorem owns_any (L : List RelZ) (la : Option Addr) (nl lcap : Nat) (p : ByteArray) (hs : List TermZ) (ls : List LitZ) (ha : Option Addr) (hn hcap : Nat) (ba : Option Addr) (n bcap : Nat) (K : List StatZ) (ka : Option Addr) (nk kc : Nat) (w : World) (G : Nat → Prop) (h : OwnIn L la nl hs ls ha hn ba n K ka nk w G) :
    Calls Tryz.prog 4 #[.slice la nl lcap, ruleV p ha hn hcap ba n bcap, .slice ka nk kc] w (RetN w fun w' v => v = .bool true) := by
  have HS := Lib.hid h
  have hl : n ≤ 1048576 := by have h1 := h.fit.len; have h2 := h.en; omega
  clear h
  go_enter Tryz.func4, Tryz.ntmps4
  obtain ⟨w1, e1⟩ : ∃ w1, w.alloc (.cells #[.string p, .slice ha hn hcap, .slice ba n bcap] 28) = w1 := ⟨_, rfl⟩
  obtain ⟨g0, eg0⟩ : ∃ g, w.heap.size = g := ⟨_, rfl⟩
  have HB := Lib.hid (show Blk w1 g0 [.string p, .slice ha hn hcap, .slice ba n bcap] 28 ∧ Ext w w1 ∧ w.heap.size = g0 from ⟨by rw [← e1, ← eg0]; exact Blk.new w _ _, by rw [← e1]; exact (Kp.refl w).alloc _, eg0⟩)
  have EG := Lib.hid eg0
  clear eg0
  have HR := Lib.hid (show ∀ W, Ext w1 W → W.cell? ⟨g0, 0, none⟩ = some (.string p) ∧ W.cell? ⟨g0, 1, none⟩ = some (.slice ha hn hcap) ∧ W.cell? ⟨g0, 2, none⟩ = some (.slice ba n bcap) from fun W hW => by
    have q0 := HB.out.1.ext hW
    exact ⟨by rw [q0.cell']; rfl, by rw [q0.cell']; rfl, by rw [q0.cell']; rfl⟩)
  go_wp2_with fail
  rw [EG.out]
  clear e1
  refine (awake_any w1).mono ?_
  rintro e w2 ⟨v, rfl, hk2, rfl⟩
  have H2 := Lib.hid hk2
  clear hk2
  go_wp2_with fail
  refine (many_any L la nl lcap w2 _ HS.out.enl (HS.out.rel.ext (HB.out.2.1.trans H2.out)) HS.out.few HS.out.sum).mono ?_
  rintro e w3 ⟨v, rfl, hk3, rfl⟩
  have H3 := Lib.hid (H2.out.trans hk3)
  obtain ⟨r0, r1, r2⟩ := HR.out w3 H3.out
  clear hk3 H2
  by_cases h4 : 400 < sumR L
  · rw [decide_eq_true h4]
    go_wp2
    go_ret
    exact RetN.mk (HB.out.2.1.trans H3.out) rfl
  rw [decide_eq_false h4]
  clear h4
  by_cases h6 : 6 < n
  · have hgd : decide ((n : Int) > 6) = true := decide_eq_true (by omega)
    go_wp2
    go_ret
    exact RetN.mk (HB.out.2.1.trans H3.out) rfl
  have hgd : decide ((n : Int) > 6) = false := decide_eq_false (by omega)
  have h6' : n ≤ 6 := by omega
  clear h6
  go_wp2_with fail
  clear hgd r0 r1 r2
  refine (base25_any L la nl lcap w3 _ HS.out.enl (HS.out.rel.ext (HB.out.2.1.trans H3.out)) HS.out.few HS.out.rows).mono ?_
  rintro e w4 ⟨v, rfl, hk4, hv⟩
  obtain ⟨bv, rv, rfl, hG⟩ := hv.gath (by have h1 := HS.out.enl; have h2 := HS.out.few; omega)
  have H4 := Lib.hid (And.intro (H3.out.trans hk4) hG)
  clear hk4 hv hG H3
  go_wp2_with fail
  refine (stats_any K ka nk kc w4 HS.out.ek (HS.out.known.ext (HB.out.2.1.trans H4.out.1)) HS.out.kfit).mono ?_
  rintro e w5 ⟨v, rfl, hk5, sg, sc, rfl, hsm⟩
  have hw15 : Ext w1 w5 := H4.out.1.trans hk5
  have hw05 : Ext w w5 := HB.out.2.1.trans hw15
  have hsc : nk ≤ sc := by obtain ⟨rest, vs, h1, h2, h3, -⟩ := hsm.body; omega
  obtain ⟨r, er⟩ : ∃ r : RuleZ, ((p, hs, ()), ls, ()) = r := ⟨_, rfl⟩
  obtain ⟨⟨x1, f1, q1⟩, eE1⟩ : ∃ E, bestE r K = E := ⟨_, rfl⟩
  obtain ⟨⟨x2, f2, q2⟩, eE2⟩ : ∃ E, greedyE r K = E := ⟨_, rfl⟩
  obtain ⟨n1, en1⟩ : ∃ n, x1.length = n := ⟨_, rfl⟩
  obtain ⟨n2, en2⟩ : ∃ n, x2.length = n := ⟨_, rfl⟩
  have HBest := Lib.hid (show ∀ W, Ext w5 W → Calls Tryz.prog 17 #[ruleV p ha hn hcap ba n bcap, .slice (some ⟨sg, 0, none⟩) nk sc] W (RetN W (BestO (New W) (x1, f1, q1))) from fun W hW => by
    have h := best_own p hs ls ha hn hcap ba n bcap K (some ⟨sg, 0, none⟩) nk sc W G HS.out.ehn (HS.out.heads.ext (hw05.trans hW)) HS.out.hfew HS.out.en (HS.out.lits.ext (hw05.trans hW)) HS.out.fit HS.out.ek hsc (hsm.at.ext hW) HS.out.kfit
    rw [er, eE1] at h; exact h)
  have HGr := Lib.hid (show ∀ W, Ext w5 W → Calls Tryz.prog 18 #[ruleV p ha hn hcap ba n bcap, .slice (some ⟨sg, 0, none⟩) nk sc] W (RetN W (BestO (New W) (x2, f2, q2))) from fun W hW => by
    have h := greedy_own p hs ls ha hn hcap ba n bcap K (some ⟨sg, 0, none⟩) nk sc W G HS.out.ehn (HS.out.heads.ext (hw05.trans hW)) HS.out.hfew HS.out.en (HS.out.lits.ext (hw05.trans hW)) HS.out.fit HS.out.ek hsc (hsm.at.ext hW) HS.out.kfit
    rw [er, eE2] at h; exact h)
  have HOrd := Lib.hid (show ∀ W, Ext w5 W → ∀ (xs : List Int) (na : Option Addr) (m mcap : Nat), m = xs.length → CellsAt W na (ints xs) → m ≤ 1048576 → m ≤ mcap → mcap ≤ maxLen → Calls Tryz.prog 20 #[ruleV p ha hn hcap ba n bcap, .slice na m mcap] W (RetN W (OrdO W p hs ls xs)) from fun W hW xs na m mcap h1 h2 h3 h4 h5 => ordered_own p hs ls ha hn hcap ba n bcap xs na m mcap W G HS.out.ehn (HS.out.heads.ext (hw05.trans hW)) HS.out.hfew HS.out.en (HS.out.lits.ext (hw05.trans hW)) HS.out.fit h1 h2 h3 h4 h5)
  have HNm := Lib.hid (show ∀ W, Ext w5 W → (∃ q ∈ L, q.1 = goneT) → Calls Tryz.prog 19 #[.slice la nl lcap, .string goneT] W (RetN W fun w' v => v = .bool true) from fun W hW he => by
    have h := namedL_any L la nl lcap goneT W _ HS.out.enl (HS.out.rel.ext (hw05.trans hW)) HS.out.few
    rw [decide_eq_true he] at h; exact h)
  have HGath := Lib.hid (show ∃ S, StOk L S ∧ ∀ W, Ext w5 W → Calls Tryz.prog 8 #[bv] W (RetN W fun w' u => ∃ g e, u = .tuple #[g, .int .i64 e] ∧ GathV S W g w') from by
    obtain ⟨S, h1, h2⟩ := H4.out.2
    exact ⟨S, h1, fun W hW => h2 W (hk5.trans hW)⟩)
  have HR5 := Lib.hid (show ∀ W, Ext w5 W → W.cell? ⟨g0, 0, none⟩ = some (.string p) ∧ W.cell? ⟨g0, 1, none⟩ = some (.slice ha hn hcap) ∧ W.cell? ⟨g0, 2, none⟩ = some (.slice ba n bcap) from fun W hW => HR.out W (hw15.trans hW))
  have HW5 := Lib.hid hw05
  have hfew := bestE_few (r := r) (S := K) (by rw [← er]; have := HS.out.en; show ¬ 6 < ls.length; omega)
  rw [eE1, eE2] at hfew
  obtain ⟨hf1, hf2, hf3⟩ := hfew
  have hf1 : x1.length ≤ 6 := hf1
  have hf3 : x2.length ≤ 6 := hf3
  rw [en1] at hf1
  rw [en2] at hf3
  rw [← er] at hf2
  have HE := Lib.hid (show q1 = 0 → ordE ((p, hs, ()), ls, ()) x1 = 0 from hf2)
  have HX1 := Lib.hid en1
  have HX2 := Lib.hid en2
  clear hf2 en1 en2 hsm hk5 hw15 hw05 er eE1 eE2 H4 HR HB EG
  obtain ⟨r0, r1, r2⟩ := HR5.out w5 (Kp.refl _)
  go_wp2_with fail
  refine (HBest.out w5 (Kp.refl _)).mono ?_
  rintro e w6 ⟨v, rfl, hk6, lv1, rfl, hl1⟩
  dsimp only at hl1 ⊢
  rw [HX1.out] at hl1
  obtain ⟨a1, c1, rfl, -, -⟩ := hl1.shape
  have H6 := Lib.hid (And.intro hk6 hl1)
  clear hk6 hl1 r0 r1 r2
  obtain ⟨r0, r1, r2⟩ := HR5.out w6 H6.out.1
  go_wp2_with fail
  refine (HGr.out w6 H6.out.1).mono ?_
  rintro e w7 ⟨v, rfl, hk7, lv2, rfl, hl2⟩
  dsimp only at hl2 ⊢
  rw [HX2.out] at hl2
  obtain ⟨a2, c2, rfl, -, -⟩ := hl2.shape
  have H7 := Lib.hid (And.intro hk7 (And.intro hl2 (H6.out.1.trans hk7)))
  clear hk7 hl2 r0 r1 r2
  obtain ⟨r0, r1, r2⟩ := HR5.out w7 H7.out.2.2
  go_wp2_with fail
  refine (HBest.out w7 H7.out.2.2).mono ?_
  rintro e w8 ⟨v, rfl, hk8, lv3, rfl, hl3⟩
  dsimp only at hl3 ⊢
  rw [HX1.out] at hl3
  obtain ⟨a3, c3, rfl, -, -⟩ := hl3.shape
  have H8 := Lib.hid (And.intro hk8 (And.intro hl3 (H7.out.2.2.trans hk8)))
  clear hk8 hl3 r0 r1 r2
  obtain ⟨r0, r1, r2⟩ := HR5.out w8 H8.out.2.2
  go_wp2_with fail
  refine (HGr.out w8 H8.out.2.2).mono ?_
  rintro e w9 ⟨v, rfl, hk9, lv4, rfl, hl4⟩
  dsimp only at hl4 ⊢
  rw [HX2.out] at hl4
  obtain ⟨a4, c4, rfl, -, -⟩ := hl4.shape
  have H9 := Lib.hid (And.intro hk9 (And.intro hl4 (H8.out.2.2.trans hk9)))
  clear hk9 hl4 r0 r1 r2
  have HAll := Lib.hid (all_four (v1 := (a1, n1, c1)) (v2 := (a2, n2, c2)) (v3 := (a3, n1, c3)) (v4 := (a4, n2, c4)) H6.out.1 H7.out.1 H8.out.1 H9.out.1 H6.out.2 H7.out.2.1 H8.out.2.1 H9.out.2.1)
  have HCW := Lib.hid (show CellsAt w9 a1 (ints x1) ∧ (∃ c, c1 = c) from by
    obtain ⟨a, c, e, hc, -, -⟩ := H6.out.2.cap
    cases e
    exact ⟨hc.ext (H7.out.1.trans (H8.out.1.trans H9.out.1)), _, rfl⟩)
  have HEm := Lib.hid (show Row ((w9.alloc (.cells #[.slice a1 n1 c1, .slice a2 n2 c2, .slice a3 n1 c3, .slice a4 n2 c4] 29)).alloc (.cells #[] 3)) 3 1 (.slice (some ⟨w9.heap.size + 1, 0, none⟩) 0 0) 0 [] (fun k => k = w9.heap.size + 1) from by
    have h := Row.empty (w9.alloc (.cells #[.slice a1 n1 c1, .slice a2 n2 c2, .slice a3 n1 c3, .slice a4 n2 c4] 29)) 3 1 (fun k => k = w9.heap.size + 1) (alloc_size _ _)
    rw [alloc_size] at h
    exact h)
  go_wp2_with (first | (at_builtin; refine Halted.out ?_))
  refine Halted.mk (wp_appP (m := n1) (n := 0) (xs := []) (v := .slice (some ⟨w9.heap.size + 1, 0, none⟩) 0 0) elem_int rfl _ _ rfl rfl HEm.out rfl ((HCW.out.1.alloc _).alloc _) (by rw [ints_len, HX1.out]; omega) (ints_one _) (by omega) (by unfold maxLen; omega) ?_)
  intro wv w12 hrw hkw
  obtain ⟨wa, wc, rfl, hwc1, hwc2, hwc3⟩ := hrw.cap
  simp only [Nat.zero_add, List.nil_append] at hrw hwc1 hwc2 ⊢
  obtain ⟨ga, ega⟩ : ∃ g, w9.heap.size = g := ⟨_, rfl⟩
  have s59 := H9.out.2.2.size
  have hk912 : Kp (fun k => k = ga + 1) ((w9.alloc (.cells #[.slice a1 n1 c1, .slice a2 n2 c2, .slice a3 n1 c3, .slice a4 n2 c4] 29)).alloc (.cells #[] 3)) w12 := hkw.mono fun k _ e => by
    have e2 : some (w9.heap.size + 1) = some k := e
    rw [ega] at e2
    exact (Option.some.inj e2).symm
  have h512 : Ext w5 w12 := (((H9.out.2.2).alloc _).alloc _).trans' hk912 fun k h1 h2 => by omega
  obtain ⟨vs, evs⟩ : ∃ vs, vs = four (a1, n1, c1) (a2, n2, c2) (a3, n1, c3) (a4, n2, c4) := ⟨_, rfl⟩
  obtain ⟨C, eC⟩ : ∃ C, C = four x1 x2 x1 x2 := ⟨_, rfl⟩
  obtain ⟨M, eM⟩ : ∃ M : Nat → Prop, M = fun k => w5.heap.size ≤ k ∧ k < ga := ⟨_, rfl⟩
  have HM := Lib.hid eM
  have hall : AllW w12 M ga vs C := by
    have h := HAll.out
    rw [ega, ← evs, ← eC, ← eM] at h
    refine (h.ext ((Kp.refl _).alloc (.cells #[] 3))).kp hk912 (by omega) fun i hi a ha e => ?_
    have h2 := (h.at hi ha).2.1
    rw [eM] at h2
    have h3 : w5.heap.size ≤ a.block ∧ a.block < ga := h2
    omega
  have HA12 := Lib.hid hall
  have HWant := Lib.hid (show CellsAt w12 wa (ints x1) ∧ n1 ≤ wc ∧ wc ≤ maxLen ∧ ∀ a, wa = some a → ga ≤ a.block from ⟨hwc1, hwc2, hwc3, fun a ha => by
    have h := (row_addr (ao := wa) hrw ha).2
    rcases h with h | h
    · have e2 : some (w9.heap.size + 1) = some a.block := h
      have := Option.some.inj e2
      omega
    · rw [alloc_size, alloc_size] at h
      omega⟩)
  have HX12 := Lib.hid h512
  have HLen := Lib.hid (show ∀ i, i < 4 → (C i).length = (vs i).2.1 ∧ (vs i).2.1 ≤ 6 from fun i hi => ⟨hall.len hi, by
    rw [evs]
    rcases (show i = 0 ∨ i = 1 ∨ i = 2 ∨ i = 3 by omega) with rfl | rfl | rfl | rfl
    · exact hf1
    · exact hf3
    · exact hf1
    · exact hf3⟩)
  have HGa := Lib.hid ega
  rw [ega]
  clear hrw hkw hwc1 hwc2 hwc3 hk912 h512 evs eC eM hall s59 H6 H7 H8 H9 HAll HCW HEm ega
  go_wp2
  go_loopw [24] (fun iv wr => FillToO w12 M ga vs C iv wr) (fun iv _ => 4 - (intOf iv).toNat)
  case atStart => exact ⟨0, by omega, rfl, Lib.hid (by rw [fillC_zero]; exact HA12.out), Lib.hid (Kp.refl _)⟩
  case round =>
    clear HA12
    obtain ⟨i, hi, rfl, hA, hK⟩ := hrel
    by_cases hlt : i < 4
    · have hli := HLen.out i hlt
      obtain ⟨⟨va, vm, vc⟩, ev⟩ : ∃ v, vs i = v := ⟨_, rfl⟩
      have HEv := Lib.hid ev
      rw [ev] at hli
      have hvm : vm ≤ 6 := hli.2
      have HCi := Lib.hid (show (C i).length = vm from hli.1)
      have HCx := Lib.hid (fun (W : World) (D : Nat → List Int) (h : AllW W M ga vs D) => show W.cell? ⟨ga, i, none⟩ = some (.slice va vm vc) from by
        have h2 := h.cell hlt
        rw [ev] at h2; exact h2)
      have hcell := HCx.out wr _ hA.out
      obtain ⟨D, eD⟩ : ∃ D, D = fillC C i := ⟨_, rfl⟩
      have HD := Lib.hid eD
      have HA1 := Lib.hid (show AllW wr M ga vs D from by rw [eD]; exact hA.out)
      have HDl := Lib.hid (show (D i).length = vm from by rw [eD, fillC_len]; exact HCi.out)
      generalize hwx : wr = wx at *
      clear hwx eD ev hli hA
      go_wp2
      go_loopw [25] (fun kv wr => FillInO w12 M ga vs D i vm kv wr) (fun kv _ => vm - (intOf kv).toNat)
      case atStart => exact ⟨0, Nat.zero_le _, rfl, Lib.hid (by rw [partF_zero, updC_self]; exact HA1.out), hK⟩
      case round =>
        clear hcell HA1 hK
        obtain ⟨k, hk, rfl, hA, hK⟩ := hrel
        have hcell := HCx.out wr _ hA.out
        by_cases hlt2 : k < vm
        · obtain ⟨g, y, eg, hg1, hg2⟩ : ∃ g y, va = some ⟨g, 0, none⟩ ∧ wr.cell? ⟨g, k, none⟩ = some y ∧ wr.frozen? ⟨g, k, none⟩ = false := by
            have h := hA.out.rows i hlt
            rw [HEv.out] at h
            obtain ⟨g, e, -⟩ := Row.lies (ao := va) (m := vm) (c := vc) h (show 0 < vm by omega)
            subst e
            have hlen : k < (ints (updC D i (partF (D i) k (-5000 - (i : Int))) i)).length := by
              rw [ints_len, updC_at, partF_len (by rw [HDl.out]; omega), HDl.out]; exact hlt2
            exact ⟨g, _, rfl, Row.cellR (m := vm) (c := vc) h (List.getElem?_eq_getElem hlen)⟩
          subst eg
          go_wp2
          generalize hw4 : World.setCell _ _ _ = w4
          have HN := Lib.hid (show AllW w4 M ga vs (updC D i (partF (D i) (k + 1) (-5000 - (i : Int)))) from by
            have h := hA.out.put hlt (g := g) (by rw [HEv.out]) (k := k) (by rw [updC_at, partF_len (by rw [HDl.out]; omega), HDl.out]; exact hlt2) (-5000 - (i : Int))
            rw [updC_at, updC_twice, partF_next (by rw [HDl.out]; exact hlt2)] at h
            rw [← hw4]
            exact h)
          have HK := Lib.hid (show Kp M w12 w4 from by
            rw [← hw4]
            exact Kp.setCell (p := ⟨g, k, none⟩) hK.out (fun _ => (hA.out.at hlt (a := ⟨g, 0, none⟩) (by rw [HEv.out])).2.1) _)
          clear hw4 hA hK hcell hg1 hg2
          go_roundw
          case rel => exact ⟨k + 1, by omega, by first | rfl | (congr 1; done) | (congr 1; omega), HN, HK⟩
          case measure => simp [intOf]; omega
        · have ek : vm = k := by omega
          subst ek
          have HN := Lib.hid (show AllW wr M ga vs (fillC C (i + 1)) from by
            have h := hA.out
            rw [HD.out, fillC_next HCi.out] at h; exact h)
          clear hA
          go_wp2
          go_roundw
          case rel => exact ⟨i + 1, by omega, by first | rfl | (congr 1; done) | (congr 1; omega), HN, hK⟩
          case measure => simp [intOf]; omega
    · have HI4 := Lib.hid (show i = 4 by omega)
      generalize hw13 : wr = w13 at *
      clear hw13
      have HA13 := Lib.hid (show AllW w13 M ga vs (fillC C 4) from by rw [← HI4.out]; exact hA.out)
      have HX13 := Lib.hid (show Ext w5 w13 from HX12.out.trans' hK.out fun k h1 h2 => by
        rw [HM.out] at h2
        have h3 : w5.heap.size ≤ k ∧ k < ga := h2
        omega)
      have HW13 := Lib.hid (show CellsAt w13 wa (ints x1) from HWant.out.1.kp hK.out fun a ha h2 => by
        rw [HM.out] at h2
        have h3 : w5.heap.size ≤ a.block ∧ a.block < ga := h2
        have := HWant.out.2.2.2 a ha
        omega)
      clear hA hK
      go_wp2
      clear hlt hi HI4
      obtain ⟨s0, es0⟩ : ∃ s, w13.heap.size = s := ⟨_, rfl⟩
      have hga0 : ga < s0 := by have := HA13.out.blk.lt; omega
      have HS0 := Lib.hid (And.intro es0 hga0)
      have HAt := Lib.hid (fun (i : Nat) (hi : i < 4) (a : Addr) (ha : (vs i).1 = some a) => HA13.out.at hi ha)
      have HL4 := Lib.hid (show ∀ i, i < 4 → (fillC C 4 i) = List.replicate (vs i).2.1 (-5000 - (i : Int)) from fun i hi => by
        unfold fillC
        rw [if_pos hi, (HLen.out i hi).1])
      obtain ⟨D, eD⟩ : ∃ D, D = fillC C 4 := ⟨_, rfl⟩
      rw [← eD] at HA13 HL4
      have HDl := Lib.hid (show ∀ i, i < 4 → (D i).length = (vs i).2.1 from fun i hi => by rw [HL4.out i hi, List.length_replicate])
      have HG13 := Lib.hid (show GrowAll w13 M ga vs D grownY (fun _ => (none, 0, 0)) 0 s0 from
        ⟨HA13.out.blk, fun j hj => by omega, fun j _ hj => HA13.out.rows j hj, HA13.out.far, fun i hi a ha => by
          have h := HAt.out i hi a ha
          exact ⟨by omega, h.1⟩⟩)
      clear es0 hga0 eD
      go_loopw [27, 26] (fun iv gv wr => GrowToO w13 (fun k => M k) ga vs D grownY s0 iv gv wr) (fun iv _ _ => 4 - (intOf iv).toNat)
      case atStart => exact ⟨0, by omega, rfl, _, none, 0, rfl, Lib.hid ⟨HG13.out, Row.nil _ _ _ _, fun j hj => by omega⟩, Lib.hid (Kp.refl _)⟩
      case round =>
        clear HG13
        obtain ⟨i, hi, rfl, gs, gla, glc, rfl, hG, hK⟩ := hrel
        by_cases hlt : i < 4
        · obtain ⟨⟨va, vm, vc⟩, ev⟩ : ∃ v, vs i = v := ⟨_, rfl⟩
          have hvm : vm ≤ 6 := by have h := (HLen.out i hlt).2; rw [ev] at h; exact h
          have hcell : wr.cell? ⟨ga, i, none⟩ = some (.slice va vm vc) := by
            have h : wr.cell? ⟨ga, i, none⟩ = some (.slice (vs i).1 (vs i).2.1 (vs i).2.2) := by
              rw [hG.out.1.blk.cell']
              rcases (show i = 0 ∨ i = 1 ∨ i = 2 ∨ i = 3 by omega) with rfl | rfl | rfl | rfl <;> rfl
            rw [ev] at h; exact h
          have hss : s0 ≤ wr.heap.size := by rw [← HS0.out.1]; exact hK.out.size
          have hDi : (D i).length = vm := by rw [HDl.out i hlt, ev]
          have HEv := Lib.hid (And.intro ev hDi)
          obtain ⟨s1, es1⟩ : ∃ s, wr.heap.size = s := ⟨_, rfl⟩
          have HS1 := Lib.hid es1
          have HOne := Lib.hid (show GrowOne wr M ga vs D grownY gs i s0 s1 (va, vm, vc) [] from by
            have h := hG.out.1.one hlt hss
            rw [ev, es1] at h; exact h)
          have HRow := Lib.hid (And.intro hG.out.2.1 hG.out.2.2)
          generalize hwx : wr = wx at *
          clear hwx ev hDi hss es1 hG
          go_wp2
          rename_i hcond _ _ _ _
          clear hcond
          have HLt := Lib.hid hlt
          have hi3 : i ≤ 5 := by omega
          clear hlt hi
          go_loopw [29, 28] (fun kv lv wr => GrowInO wx M ga vs D grownY s0 s1 gs (gla, i, glc) i kv lv wr) (fun kv _ _ => 12 - (intOf kv).toNat)
          case atStart => exact ⟨0, by omega, rfl, va, vc, by rw [HEv.out.2]; rfl, Lib.hid ⟨by rw [HEv.out.2]; exact HOne.out, HRow.out.1⟩, Lib.hid (Kp.refl _)⟩
          case round =>
            clear HOne hcell
            obtain ⟨k, hk, rfl, la', lc', rfl, hO, hK2⟩ := hrel
            have HK2 := Lib.hid (show Kp M w13 wr from hK.out.trans' hK2.out fun k _ h => h)
            rw [HEv.out.2] at hO ⊢
            by_cases hlt2 : k < 12
            · have HSrc := Lib.hid (hO.out.1.one.row)
              have HO := Lib.hid (And.intro hO.out (And.intro hK2.out HRow.out.2))
              clear hO hK2
              go_wp2_with (first | (at_builtin; refine Halted.out ?_))
              refine Halted.mk (wp_appQ (m := 1) (n := vm + k) (v := .slice la' (vm + k) lc') elem_int rfl _ _ rfl rfl (HSrc.out.alloc _) rfl (CellsAt.one wr (.int .i64 (-600000 - (i : Int))) 3) (by rfl) (by simp [Value.oneCell']) (by omega) (by unfold maxLen; omega) ?_)
              intro v9 w9 hr9 hk9 he9
              obtain ⟨a9, c9, rfl, -, -⟩ := hr9.shape
              have HN := Lib.hid (GrowOne.step (q := (a9, vm + k + 1, c9)) (HO.out.1.1.ext ((Kp.refl wr).alloc (.cells #[.int .i64 (-600000 - (i : Int))] 3)) HLt.out) ((Row.alloc HO.out.1.2 (.cells #[.int .i64 (-600000 - (i : Int))] 3))) (HO.out.2.1.alloc _) HS1.out (fun a ha => (HAt.out i HLt.out a ha).2.1) HLt.out hk9 hr9 he9)
              clear hr9 hk9 he9 HSrc HO
              go_wp2
              go_roundw
              case rel => exact ⟨k + 1, by omega, by first | rfl | (congr 1; done) | (congr 1; omega), a9, c9, by rw [HEv.out.2]; rfl, Lib.hid ⟨by rw [HEv.out.2, List.replicate_succ']; exact HN.out.1, HN.out.2.1⟩, Lib.hid HN.out.2.2⟩
              case measure => simp [intOf]; omega
            · have ek : k = 12 := by omega
              subst ek
              have HO := Lib.hid (show GrowAll wr M ga vs D grownY (updF gs i (la', vm + 12, lc')) (i + 1) s0 ∧ GrownRow wr s0 (gla, i, glc) i gs ∧ ∀ j, j < i + 1 → (updF gs i (la', vm + 12, lc') j).2.1 = (D j).length + 12 from ⟨hO.out.1.all rfl, hO.out.2, fun j hj => by
                unfold updF
                by_cases e : j = i
                · subst e; rw [if_pos rfl, HEv.out.2]
                · rw [if_neg e]; exact HRow.out.2 j (by omega)⟩)
              clear hO hK2 hK
              go_wp2_with (first | (at_builtin; refine Halted.out ?_))
              refine Halted.mk (wp_appQ (m := 1) (n := i) (v := .slice gla i glc) elem_listsO rfl _ _ rfl rfl (Row.alloc HO.out.2.1 _) rfl (CellsAt.one wr (.slice la' (vm + 12) lc') 29) (by rfl) (by simp [Value.oneCell']) (by omega) (by unfold maxLen; omega) ?_)
              intro v9 w9 hr9 hk9 he9
              obtain ⟨a9, c9, rfl, -, -⟩ := hr9.shape
              have HN := Lib.hid (show GrowAll w9 M ga vs D grownY (updF gs i (la', vm + 12, lc')) (i + 1) s0 ∧ GrownRow w9 s0 (a9, i + 1, c9) (i + 1) (updF gs i (la', vm + 12, lc')) from ⟨(HO.out.1.ext ((Kp.refl wr).alloc (.cells #[.slice la' (vm + 12) lc'] 29)) (by have := HLt.out; omega)).outer (g := (gla, i, glc)) (Row.alloc HO.out.2.1 _) HS0.out.2 hk9 (by have := HLt.out; omega), by
                unfold GrownRow
                rw [grown_next]
                refine Row.mono hr9 fun k hk => ?_
                rcases hk with hk | hk
                · exact HO.out.2.1.block k hk
                · rw [alloc_size] at hk
                  have h1 := HK2.out.size
                  have h2 := HS0.out.1
                  omega⟩)
              have HK9 := Lib.hid (show Kp M w13 w9 from (HK2.out.alloc _).trans' hk9 fun k h1 h2 => by
                have h3 := HO.out.2.1.block k h2
                have h4 := HS0.out.1
                omega)
              have HY := Lib.hid HO.out.2.2
              clear hr9 hk9 he9 HO HK2
              go_wp2
              go_roundw
              case rel => exact ⟨i + 1, by have := HLt.out; omega, by first | rfl | (congr 1; done) | (congr 1; omega), _, a9, c9, rfl, Lib.hid ⟨HN.out.1, HN.out.2, HY.out⟩, HK9⟩
              case measure => have := HLt.out; simp [intOf]; omega
        · have HI5 := Lib.hid (show i = 4 by omega)
          generalize hw14 : wr = w14 at *
          clear hw14
          have HG14 := hG
          have HX14 := Lib.hid (show Ext w5 w14 from HX13.out.trans' hK.out fun k h1 h2 => by
            rw [HM.out] at h2
            have h3 : w5.heap.size ≤ k ∧ k < ga := h2
            omega)
          have HW14 := Lib.hid (show CellsAt w14 wa (ints x1) from HW13.out.kp hK.out fun a ha h2 => by
            rw [HM.out] at h2
            have h3 : w5.heap.size ≤ a.block ∧ a.block < ga := h2
            have := HWant.out.2.2.2 a ha
            omega)
          clear hG hK HW13 HX13 HA13
          go_wp2
          clear hlt hi
          obtain ⟨n4, en4⟩ : ∃ n, n = i := ⟨_, rfl⟩
          subst en4
          have HSn := Lib.hid (show ∀ j, j < 4 → w14.cell? ⟨ga, j, none⟩ = some (slV (vs j)) ∧ (∃ b, gla = some ⟨b, 0, none⟩ ∧ w14.cell? ⟨b, j, none⟩ = some (slV (gs j))) ∧ (gs j).2.1 = (vs j).2.1 + 12 ∧ (∀ k, k < (vs j).2.1 → ∃ g, (vs j).1 = some ⟨g, 0, none⟩ ∧ w14.cell? ⟨g, k, none⟩ = some (.int .i64 (-5000 - (j : Int)))) ∧
              ∀ k, k < (vs j).2.1 + 12 → ∃ g, (gs j).1 = some ⟨g, 0, none⟩ ∧ w14.cell? ⟨g, k, none⟩ = some (.int .i64 (if k < (vs j).2.1 then -5000 - (j : Int) else -600000 - (j : Int))) from fun j hj => by
            have h := HG14.out
            rw [HI5.out] at h
            have h2 := h.1.seen HL4.out hj
            exact ⟨h.1.seenA hj, h.2.1.seen hj, by rw [h.2.2 j hj, HDl.out j hj], h2.1, h2.2⟩)
          go_loopw [30] (fun iv wr => ∃ i : Nat, i ≤ 4 ∧ iv = .int .i64 i ∧ wr = w14) (fun iv _ => 4 - (intOf iv).toNat)
          case atStart => exact ⟨0, by omega, rfl, rfl⟩
          case round =>
            obtain ⟨i, hi, rfl, rfl⟩ := hrel
            by_cases hlt : i < 4
            · obtain ⟨hc1, ⟨gb, egb, hc2⟩, hgl, hv1, hv2⟩ := HSn.out i hlt
              subst egb
              obtain ⟨⟨va, vm, vc⟩, ev⟩ : ∃ v, vs i = v := ⟨_, rfl⟩
              obtain ⟨⟨ua, um, uc⟩, eu⟩ : ∃ v, gs i = v := ⟨_, rfl⟩
              rw [ev] at hc1 hgl hv1 hv2
              rw [eu] at hc2 hgl hv2
              unfold slV at hc1 hc2
              dsimp only at hc1 hc2 hgl hv1 hv2
              subst hgl
              have hvm : vm ≤ 6 := by have h := (HLen.out i hlt).2; rw [ev] at h; exact h
              have hin4 : i < n4 := by have := HI5.out; omega
              have HV := Lib.hid (And.intro hv1 hv2)
              clear hv1 hv2 ev eu
              generalize hw15 : wr = w15 at *
              clear hw15
              go_wp2
              rename_i hcond _ _
              clear hcond
              go_loopw [31] (fun kv wr => ∃ k : Nat, k ≤ vm + 12 ∧ kv = .int .i64 k ∧ wr = w15) (fun kv _ => vm + 12 - (intOf kv).toNat)
              case atStart => exact ⟨0, by omega, rfl, rfl⟩
              case round =>
                obtain ⟨k, hk, rfl, rfl⟩ := hrel
                by_cases hlt2 : k < vm + 12
                · obtain ⟨gu, egu, hu⟩ := HV.out.2 k hlt2
                  subst egu
                  by_cases hlt3 : k < vm
                  · obtain ⟨gv, egv, hv⟩ := HV.out.1 k hlt3
                    subst egv
                    rw [if_pos hlt3] at hu
                    go_wp2
                    go_roundw
                    case rel => exact ⟨k + 1, by omega, by first | rfl | (congr 1; done) | (congr 1; omega), trivial⟩
                    case measure => simp [intOf]; omega
                  · rw [if_neg hlt3] at hu
                    go_wp2
                    go_roundw
                    case rel => exact ⟨k + 1, by omega, by first | rfl | (congr 1; done) | (congr 1; omega), trivial⟩
                    case measure => simp [intOf]; omega
                · go_wp2
                  go_roundw
                  case rel => exact ⟨i + 1, by omega, by first | rfl | (congr 1; done) | (congr 1; omega), trivial⟩
                  case measure => simp [intOf]; omega
            · generalize hw15 : wr = w15 at *
              clear hw15
              obtain ⟨r0, r1, r2⟩ := HR5.out w15 HX14.out
              clear HSn HG14 HAt HL4 HDl
              go_wp2_with fail
              clear hi hlt
              refine (HBest.out w15 HX14.out).mono ?_
              rintro e w16 ⟨v, rfl, hk16, lv5, rfl, hl5⟩
              dsimp only at hl5 ⊢
              rw [HX1.out] at hl5
              obtain ⟨a5, c5, rfl, hc5, hc51, hc52⟩ := hl5.cap
              obtain ⟨S, hSt, hGa⟩ := HGath.out
              have HG := Lib.hid hGa
              have HSt := Lib.hid hSt
              have H16 := Lib.hid (And.intro (HX14.out.trans hk16) (And.intro (HW14.out.ext hk16) (And.intro hc5 (And.intro hc51 hc52))))
              clear hk16 hl5 hc5 hc51 hc52 hGa hSt r0 r1 r2 HX14 HW14
              go_wp2_with fail
              refine (HG.out w16 H16.out.1).mono ?_
              rintro e w17 ⟨v, rfl, hk17, gv, ge, rfl, hg17⟩
              have H17 := Lib.hid (And.intro hk17 (And.intro hg17 (H16.out.1.trans hk17)))
              clear hk17 hg17
              go_wp2_with fail
              refine (HG.out w17 H17.out.2.2).mono ?_
              rintro e w18 ⟨v, rfl, hk18, mv, me, rfl, hm18⟩
              obtain ⟨M2, eM2⟩ : ∃ M2 : Nat → Prop, M2 = fun k => (w16.heap.size ≤ k ∧ k < w17.heap.size) ∨ w18.heap.size ≤ k := ⟨_, rfl⟩
              obtain ⟨sn, esn⟩ : ∃ n, S.length = n := ⟨_, rfl⟩
              have HM2 := Lib.hid eM2
              have hLF : ∃ f, ∃ a c, gv = .slice a sn c ∧ ListsW w18 M2 a sn c f ∧ ∀ j, j < sn → (f j).2.1 ≤ 1048576 + 0 := by
                obtain ⟨a, c, f, e, h1, h2⟩ := H17.out.2.1.lists (M := M2) (fun k h1 h2 => by rw [eM2]; exact .inl ⟨h1, h2⟩) HSt.out.dist
                rw [esn] at e h1 h2
                exact ⟨f, a, c, e, h1.ext hk18, fun j hj => by have := h2 j hj; omega⟩
              obtain ⟨f0, gla, glc, rfl, hLs, hfl⟩ := hLF
              have HL18 := Lib.hid (show ∃ f, ListsW w18 M2 gla sn glc f ∧ ∀ j, j < sn → (f j).2.1 ≤ 1048576 + 0 from ⟨f0, hLs, hfl⟩)
              have H18 := Lib.hid (show Ext w16 w18 ∧ GathV S w17 mv w18 from ⟨H17.out.1.trans hk18, hm18⟩)
              have hsn : sn ≤ 1048576 := by rw [← esn]; exact HSt.out.few
              have HSn := Lib.hid esn
              clear hk18 hm18 eM2 esn hLs hfl
              go_wp2
              go_loopw [39] (fun iv wr => GoneTo w18 M2 gla sn glc iv wr) (fun iv _ => sn - (intOf iv).toNat)
              case atStart => exact ⟨0, Nat.zero_le _, rfl, HL18, Lib.hid (Kp.refl _)⟩
              case round =>
                clear HL18
                obtain ⟨i, hi, rfl, hL, hK⟩ := hrel
                by_cases hlt : i < sn
                · obtain ⟨f, hLs, hfl⟩ := hL.out
                  obtain ⟨cs, hrow, hcs⟩ := hLs.row
                  obtain ⟨gb, egb, -, -, -⟩ := hrow.lies (by omega)
                  subst egb
                  obtain ⟨⟨fa, fm, fc⟩, ef⟩ : ∃ q, f i = q := ⟨_, rfl⟩
                  have hcell : wr.cell? ⟨gb, i * 3 + 2, none⟩ = some (.slice fa fm fc) := by
                    have h := (hrow.cellR (hcs i hlt)).1
                    rw [ef] at h; exact h
                  have hfm : fm ≤ 1048576 + i := by have h := hfl i hlt; rw [ef] at h; exact h
                  have HF := Lib.hid (And.intro hfl (And.intro ef hLs))
                  clear hLs hfl hrow hcs ef hL
                  generalize hwx : wr = wx at *
                  clear hwx
                  go_wp2
                  go_loopw [40] (fun kv wr => GoneIn w18 M2 (some ⟨gb, 0, none⟩) sn glc fm f kv wr) (fun kv _ => fm - (intOf kv).toNat)
                  case atStart => exact ⟨0, Nat.zero_le _, rfl, Lib.hid HF.out.2.2, hK⟩
                  case round =>
                    clear hcell hK
                    obtain ⟨k, hk, rfl, hL2, hK2⟩ := hrel
                    obtain ⟨cs, hrow, hcs⟩ := hL2.out.row
                    have hcell : wr.cell? ⟨gb, i * 3 + 2, none⟩ = some (.slice fa fm fc) := by
                      have h := (hrow.cellR (hcs i hlt)).1
                      rw [HF.out.2.1] at h; exact h
                    have hcellf := (hrow.cellR (hcs i hlt)).2
                    obtain ⟨y0, hy0, hy0f⟩ : ∃ y, wr.cell? ⟨gb, i * 3, none⟩ = some y ∧ wr.frozen? ⟨gb, i * 3, none⟩ = false := by
                      have hl := hrow.1
                      have h2 := (List.getElem?_eq_some_iff.1 (hcs i hlt)).1
                      exact ⟨_, hrow.cellR (List.getElem?_eq_getElem (show i * 3 < cs.length by omega))⟩
                    have HGB := Lib.hid (show M2 gb from hrow.block gb rfl)
                    obtain ⟨xs, hx⟩ : ∃ xs, Row wr 45 1 (.slice fa fm fc) fm xs M2 := by
                      obtain ⟨xs, hx⟩ := hL2.out.terms i hlt
                      rw [HF.out.2.1] at hx
                      exact ⟨xs, hx⟩
                    clear hrow hcs
                    by_cases hlt2 : k < fm
                    · clear hcellf hy0 hy0f
                      obtain ⟨gt, eta, hgt, -, -⟩ := hx.lies (by omega)
                      subst eta
                      have hxl : xs.length = fm * 1 := hx.1
                      obtain ⟨y, h0⟩ : ∃ y, xs[k]? = some y := ⟨_, List.getElem?_eq_getElem (by omega)⟩
                      obtain ⟨z0, f0⟩ := hx.cellR h0
                      have HX := Lib.hid (And.intro hx (And.intro hxl hgt))
                      clear hx hxl h0 hgt
                      go_wp2
                      generalize hw8 : World.setCell _ _ _ = w8
                      have hk8 : Kp (fun k => k = gt) wr w8 := by rw [← hw8]; exact Kp.setCell (F := fun k => k = gt) (p := ⟨gt, k, none⟩) (Kp.refl wr) (fun _ => rfl) _
                      have H8 := Lib.hid (show ListsW w8 M2 (some ⟨gb, 0, none⟩) sn glc f from hL2.out.term hlt (by rw [HF.out.2.1]) hk8 (by
                        rw [HF.out.2.1, ← hw8]
                        have hl := HX.out.2.1
                        exact ⟨_, HX.out.1.putO k (by omega) _⟩))
                      have K8 := Lib.hid (show Kp M2 w18 w8 from hK2.out.trans' hk8 fun q _ e => by rw [e]; exact HX.out.2.2)
                      clear hw8 hk8 hL2 hK2 z0 f0
                      go_roundw
                      case rel => exact ⟨k + 1, by omega, by first | rfl | (congr 1; done) | (congr 1; omega), H8, K8⟩
                      case measure => simp [intOf]; omega
                    · have HX := Lib.hid hx
                      have HF2 := Lib.hid (And.intro hcellf (And.intro hy0 hy0f))
                      clear hx hcellf hy0 hy0f
                      go_wp2_with (first | (at_builtin; refine Halted.out ?_))
                      refine Halted.mk (wp_appP (m := 1) (n := fm) (v := .slice fa fm fc) elem_flt rfl _ _ rfl rfl (HX.out.alloc _) rfl (CellsAt.one wr (.float .f64 13835058055282163712) 45) (by rfl) (by simp [Value.oneCell']) (by omega) (by unfold maxLen; omega) ?_)
                      intro v9 w9 hr9 hk9
                      obtain ⟨a9, c9, rfl, -, -⟩ := hr9.shape
                      have HAp := Lib.hid ((hL2.out.ext ((Kp.refl wr).alloc (.cells #[.float .f64 13835058055282163712] 45))).app hlt (q := (a9, fm + 1, c9)) (by rw [HF.out.2.1]; exact hk9) (by rw [HF.out.2.1]; exact hr9) (fun k hk => by
                        rw [HM2.out]
                        have h1 := hK2.out.size
                        rw [alloc_size] at hk
                        exact .inr (by omega)))
                      have HK9 := Lib.hid (show Kp M2 w18 w9 from (hK2.out.alloc _).trans' hk9 fun q _ e => HX.out.block q e)
                      obtain ⟨z9, f9⟩ : w9.cell? ⟨gb, i * 3 + 2, none⟩ = some (.slice fa fm fc) ∧ w9.frozen? ⟨gb, i * 3 + 2, none⟩ = false := by
                        obtain ⟨cs, h2, h3⟩ := HAp.out.2
                        have h := h2.cellR (h3 i hlt)
                        rw [HF.out.2.1] at h; exact h
                      obtain ⟨w10, e10⟩ : ∃ x, w9.setCell ⟨gb, i * 3 + 2, none⟩ (.slice a9 (fm + 1) c9) = x := ⟨_, rfl⟩
                      have H10 := Lib.hid (show ListsW w10 M2 (some ⟨gb, 0, none⟩) sn glc (updF f i (a9, fm + 1, c9)) from by rw [← e10]; exact HAp.out.1)
                      have K10 := Lib.hid (show Kp M2 w18 w10 from by rw [← e10]; exact Kp.setCell (p := ⟨gb, i * 3 + 2, none⟩) HK9.out (fun _ => HGB.out) _)
                      obtain ⟨y1, hy1, hy1f⟩ : ∃ y, w10.cell? ⟨gb, i * 3, none⟩ = some y ∧ w10.frozen? ⟨gb, i * 3, none⟩ = false := by
                        obtain ⟨cs, hrow, hcs⟩ := H10.out.row
                        have hl := hrow.1
                        have h2 := (List.getElem?_eq_some_iff.1 (hcs i hlt)).1
                        exact ⟨_, hrow.cellR (List.getElem?_eq_getElem (show i * 3 < cs.length by omega))⟩
                      clear hr9 hk9 HAp HK9 hL2 hK2 hcell HF2
                      go_wp2
                      generalize hw11 : w10.setCell _ _ = w11
                      have H11 := Lib.hid (show ListsW w11 M2 (some ⟨gb, 0, none⟩) sn glc (updF f i (a9, fm + 1, c9)) from by rw [← hw11]; exact H10.out.kind hlt _)
                      have K11 := Lib.hid (show Kp M2 w18 w11 from by rw [← hw11]; exact Kp.setCell (p := ⟨gb, i * 3, none⟩) K10.out (fun _ => HGB.out) _)
                      clear hw11 e10 hy1 hy1f z9 f9 H10 K10
                      go_roundw
                      case rel =>
                        refine ⟨i + 1, by omega, by first | rfl | (congr 1; done) | (congr 1; omega), Lib.hid ⟨_, H11.out, fun j hj => ?_⟩, K11⟩
                        unfold updF
                        split
                        · show fm + 1 ≤ _
                          omega
                        · have := HF.out.1 j hj
                          omega
                      case measure => simp [intOf]; omega
                · generalize hw19 : wr = w19 at *
                  clear hw19
                  have HX19 := Lib.hid (show Ext w16 w19 from H18.out.1.trans' hK.out fun k h1 h2 => by
                    rw [HM2.out] at h2
                    have h3 := H18.out.1.size
                    rcases h2 with h2 | h2 <;> omega)
                  obtain ⟨ma, mc, rfl, hst⟩ := (H18.out.2.keep hK.out fun k h1 h2 h3 => by
                    rw [HM2.out] at h3
                    rcases h3 with h3 | h3 <;> omega).stats
                  rw [HSn.out]
                  have HSt19 := Lib.hid hst
                  clear hst hK hL
                  go_wp2
                  clear hi hlt
                  go_loopw [41] (fun iv wr => ∃ i : Nat, i ≤ sn ∧ iv = .int .i64 i ∧ Hid (Ext w19 wr)) (fun iv _ => sn - (intOf iv).toNat)
                  case atStart => exact ⟨0, Nat.zero_le _, rfl, Lib.hid (Kp.refl _)⟩
                  case round =>
                    obtain ⟨i, hi, rfl, hex⟩ := hrel
                    generalize hw20 : wr = w20 at *
                    clear hw20
                    by_cases hlt : i < sn
                    · obtain ⟨s, hs⟩ : ∃ s, S[i]? = some s := ⟨_, List.getElem?_eq_getElem (by rw [HSn.out]; exact hlt)⟩
                      obtain ⟨bl, ol, da, dc, ea1, l0, -, l2, le1, -, hda⟩ := (HSt19.out.ext hex.out) i s hs
                      subst ea1
                      have hmem := List.mem_of_getElem? hs
                      have hnm := HSt.out.name s hmem
                      have hsd := HSt.out.dist s hmem
                      have HPos := Lib.hid (HSt.out.pos s hmem)
                      obtain ⟨sp, esp⟩ : ∃ y, s.1 = y := ⟨_, rfl⟩
                      obtain ⟨sl, esl⟩ : ∃ y, s.2.2.1 = y := ⟨_, rfl⟩
                      rw [esp] at l0 hnm
                      rw [esl] at l2 hda hsd le1 HPos
                      obtain ⟨sd, esd⟩ : ∃ y, sl.length = y := ⟨_, rfl⟩
                      rw [esd] at l2 hsd le1
                      have HD := Lib.hid (And.intro hda esd)
                      have HNa := Lib.hid hnm
                      have HL2 := Lib.hid (show ∀ W, Ext w20 W → W.cell? ⟨bl, ol + i * 3 + 2, none⟩ = some (.slice da sd dc) from fun W hW => hW.cell l2 id)
                      clear hs esp esl esd hda hnm hmem le1
                      by_cases hq : sp = goneT
                      · subst hq
                        have hb := str_eq goneT
                        have HNt := Lib.hid (HNm.out w20 ((H16.out.1.trans HX19.out).trans hex.out) (HNa.out rfl))
                        go_wp2_with (go_at_call 19; refine Halted.out ?_)
                        refine Halted.mk (HNt.out.mono ?_)
                        rintro e w21 ⟨v, rfl, hk21, rfl⟩
                        have HX21 := Lib.hid (And.intro (hex.out.trans hk21) hk21)
                        have l2 := HL2.out w21 hk21
                        clear hk21 hb l0
                        go_wp2
                        go_loopw [42] (fun kv wr => ∃ k : Nat, k ≤ sd ∧ kv = .int .i64 k ∧ wr = w21) (fun kv _ => sd - (intOf kv).toNat)
                        case atStart => exact ⟨0, Nat.zero_le _, rfl, rfl⟩
                        case round =>
                          obtain ⟨k, hk, rfl, rfl⟩ := hrel
                          by_cases hlt2 : k < sd
                          · obtain ⟨dx, hdx⟩ : ∃ dx, sl[k]? = some dx := ⟨_, List.getElem?_eq_getElem (by rw [HD.out.2]; exact hlt2)⟩
                            obtain ⟨ea, eo, eda, ca⟩ := HD.out.1 k (.float .f64 dx) (by simp [flts, hdx])
                            have hz := not_below (HPos.out dx (List.mem_of_getElem? hdx))
                            subst eda
                            replace ca := HX21.out.2.cell ca id
                            clear hdx
                            go_wp2
                            go_roundw
                            case rel => exact ⟨k + 1, by omega, by first | rfl | (congr 1; done) | (congr 1; omega), trivial⟩
                            case measure => simp [intOf]; omega
                          · go_wp2
                            go_roundw
                            case rel => exact ⟨i + 1, by omega, by first | rfl | (congr 1; done) | (congr 1; omega), Lib.hid HX21.out.1⟩
                            case measure => simp [intOf]; omega
                      · have hb := not_gone hq
                        clear hq
                        go_wp2
                        go_loopw [42] (fun kv wr => ∃ k : Nat, k ≤ sd ∧ kv = .int .i64 k ∧ wr = w20) (fun kv _ => sd - (intOf kv).toNat)
                        case atStart => exact ⟨0, Nat.zero_le _, rfl, rfl⟩
                        case round =>
                          obtain ⟨k, hk, rfl, rfl⟩ := hrel
                          by_cases hlt2 : k < sd
                          · obtain ⟨dx, hdx⟩ : ∃ dx, sl[k]? = some dx := ⟨_, List.getElem?_eq_getElem (by rw [HD.out.2]; exact hlt2)⟩
                            obtain ⟨ea, eo, eda, ca⟩ := HD.out.1 k (.float .f64 dx) (by simp [flts, hdx])
                            have hz := not_below (HPos.out dx (List.mem_of_getElem? hdx))
                            subst eda
                            skip
                            clear hdx
                            go_wp2
                            go_roundw
                            case rel => exact ⟨k + 1, by omega, by first | rfl | (congr 1; done) | (congr 1; omega), trivial⟩
                            case measure => simp [intOf]; omega
                          · go_wp2
                            go_roundw
                            case rel => exact ⟨i + 1, by omega, by first | rfl | (congr 1; done) | (congr 1; omega), hex⟩
                            case measure => simp [intOf]; omega
                    · have HX20 := Lib.hid (show Ext w16 w20 from HX19.out.trans hex.out)
                      clear hex HX19
                      obtain ⟨r0, r1, r2⟩ := HR5.out w20 (H16.out.1.trans HX20.out)
                      have HX520 := Lib.hid (show Ext w5 w20 from H16.out.1.trans HX20.out)
                      have HW20 := Lib.hid (show CellsAt w20 wa (ints x1) ∧ CellsAt w20 a5 (ints x1) from ⟨H16.out.2.1.ext HX20.out, H16.out.2.2.1.ext HX20.out⟩)
                      by_cases hq : q1 = 0
                      · have hs0 := HE.out hq
                        subst hq
                        have hl := HX1.out
                        have HO1 := Lib.hid (HOrd.out w20 HX520.out x1 wa n1 wc hl.symm HW20.out.1 (by omega) HWant.out.2.1 HWant.out.2.2.1)
                        have HTf := Lib.hid (show (∀ t ∈ hs, TermFit t) ∧ (∀ l ∈ ls, LitAll l) from ⟨terms_fit HS.out.heads, lits_all HS.out.lits⟩)
                        have HE0 := Lib.hid hs0
                        have HLn := Lib.hid hl
                        clear hs0 hl
                        go_wp2_with fail
                        clear hi hlt
                        refine HO1.out.mono ?_
                        rintro e w21 ⟨v, rfl, hk21, ho⟩
                        obtain ⟨xa, xc, xb, xbc, f, rfl, hos⟩ := ho.own HE0.out HTf.out.1 HTf.out.2 HS.out.fit
                        rw [HLn.out] at hos ⊢
                        have H21 := Lib.hid (And.intro hk21 hos)
                        obtain ⟨wC, eC⟩ : ∃ wC, w21.alloc (.cells #[.string ⟨#[]⟩, .slice none 0 0, .slice none 0 0] 28) = wC := ⟨_, rfl⟩
                        obtain ⟨g5, eg5⟩ : ∃ g, w21.heap.size = g := ⟨_, rfl⟩
                        have hz : Blk wC g5 [.string ⟨#[]⟩, .slice none 0 0, .slice none 0 0] 28 := by rw [← eC, ← eg5]; exact Blk.new w21 _ _
                        have hXC : Ext w21 wC := by rw [← eC]; exact (Kp.refl w21).alloc _
                        have z0 : wC.cell? ⟨g5, 0, none⟩ = some (.string ⟨#[]⟩) := by rw [hz.cell']; rfl
                        have z1 : wC.cell? ⟨g5, 1, none⟩ = some (.slice none 0 0) := by rw [hz.cell']; rfl
                        have z2 : wC.cell? ⟨g5, 2, none⟩ = some (.slice none 0 0) := by rw [hz.cell']; rfl
                        have f0 := hz.free 0
                        have f1 := hz.free 1
                        have f2 := hz.free 2
                        obtain ⟨w22, e22⟩ : ∃ x, ((wC.setCell ⟨g5, 0, none⟩ (.string p)).setCell ⟨g5, 1, none⟩ (.slice xa hs.length xc)).setCell ⟨g5, 2, none⟩ (.slice xb n1 xbc) = x := ⟨_, rfl⟩
                        obtain ⟨hD, hk22⟩ : Blk w22 g5 [.string p, .slice xa hs.length xc, .slice xb n1 xbc] 28 ∧ Kp (fun k => k = g5) wC w22 := by rw [← e22]; exact rule_set hz
                        have hX22 : Ext w21 w22 := hXC.trans' hk22 fun k h1 h2 => by omega
                        have H22 := Lib.hid (And.intro hD (And.intro hX22 ((HX520.out.trans hk21).trans hX22)))
                        obtain ⟨r0', r1', r2'⟩ := HR5.out w22 ((HX520.out.trans hk21).trans hX22)
                        clear hz hXC hD hk22 hX22 hk21 hos ho r0 r1 r2
                        go_wp2_with fail
                        have HO2 := Lib.hid (HOrd.out w22 H22.out.2.2 x1 wa n1 wc HLn.out.symm (HW20.out.1.ext (H21.out.1.trans H22.out.2.1)) (by omega) HWant.out.2.1 HWant.out.2.2.1)
                        refine HO2.out.mono ?_
                        rintro e w23 ⟨v, rfl, hk23, ho⟩
                        obtain ⟨ya, yc, yb, ybc, fy, rfl, hos⟩ := ho.own HE0.out HTf.out.1 HTf.out.2 HS.out.fit
                        rw [HLn.out] at hos ⊢
                        have H23 := Lib.hid (And.intro hk23 hos)
                        clear r0' r1' r2' e22 eC z0 z1 z2 f0 f1 f2 eg5
                        obtain ⟨wC, eC⟩ : ∃ wC, w23.alloc (.cells #[.string ⟨#[]⟩, .slice none 0 0, .slice none 0 0] 28) = wC := ⟨_, rfl⟩
                        obtain ⟨g6, eg6⟩ : ∃ g, w23.heap.size = g := ⟨_, rfl⟩
                        have hz : Blk wC g6 [.string ⟨#[]⟩, .slice none 0 0, .slice none 0 0] 28 := by rw [← eC, ← eg6]; exact Blk.new w23 _ _
                        have hXC : Ext w23 wC := by rw [← eC]; exact (Kp.refl w23).alloc _
                        have z0 : wC.cell? ⟨g6, 0, none⟩ = some (.string ⟨#[]⟩) := by rw [hz.cell']; rfl
                        have z1 : wC.cell? ⟨g6, 1, none⟩ = some (.slice none 0 0) := by rw [hz.cell']; rfl
                        have z2 : wC.cell? ⟨g6, 2, none⟩ = some (.slice none 0 0) := by rw [hz.cell']; rfl
                        have f0 := hz.free 0
                        have f1 := hz.free 1
                        have f2 := hz.free 2
                        obtain ⟨w24, e24⟩ : ∃ x, ((wC.setCell ⟨g6, 0, none⟩ (.string p)).setCell ⟨g6, 1, none⟩ (.slice ya hs.length yc)).setCell ⟨g6, 2, none⟩ (.slice yb n1 ybc) = x := ⟨_, rfl⟩
                        obtain ⟨hD, hk24⟩ : Blk w24 g6 [.string p, .slice ya hs.length yc, .slice yb n1 ybc] 28 ∧ Kp (fun k => k = g6) wC w24 := by rw [← e24]; exact rule_set hz
                        have hX24 : Ext w23 w24 := hXC.trans' hk24 fun k h1 h2 => by omega
                        have hX22 : Ext w22 w24 := hk23.trans hX24
                        have H24 := Lib.hid (And.intro (H22.out.1.ext hX22) (And.intro hD (And.intro hX24 (And.intro hX22 (H22.out.2.2.trans hX22)))))
                        have HIn := Lib.hid (ints_any x1 a5 wa n1 c5 wc w24 HLn.out.symm (HW20.out.2.ext ((H21.out.1.trans H22.out.2.1).trans hX22)) (HW20.out.1.ext ((H21.out.1.trans H22.out.2.1).trans hX22)) (by omega))
                        clear hz hXC hD hk24 hX24 hX22 hk23 hos ho
                        go_wp2_with fail
                        clear z0 z1 z2 f0 f1 f2 e24 eC eg6
                        refine HIn.out.mono ?_
                        rintro e w25 ⟨v, rfl, hk25, rfl⟩
                        have H25 := Lib.hid hk25
                        have hb1 := H24.out.1.ext hk25
                        have hb2 := H24.out.2.1.ext hk25
                        have p0 : w25.cell? ⟨g5, 0, none⟩ = some (.string p) := by rw [hb1.cell']; rfl
                        have p1 : w25.cell? ⟨g5, 1, none⟩ = some (.slice xa hs.length xc) := by rw [hb1.cell']; rfl
                        have p2 : w25.cell? ⟨g5, 2, none⟩ = some (.slice xb n1 xbc) := by rw [hb1.cell']; rfl
                        have o0 : w25.cell? ⟨g6, 0, none⟩ = some (.string p) := by rw [hb2.cell']; rfl
                        have o1 : w25.cell? ⟨g6, 1, none⟩ = some (.slice ya hs.length yc) := by rw [hb2.cell']; rfl
                        have o2 : w25.cell? ⟨g6, 2, none⟩ = some (.slice yb n1 ybc) := by rw [hb2.cell']; rfl
                        have hx1 : Ext w21 w25 := (H22.out.2.1.trans H24.out.2.2.2.1).trans hk25
                        have hx2 : Ext w23 w25 := H24.out.2.2.1.trans hk25
                        have s1 := H22.out.2.1.size
                        have s2 := hx2.size
                        have s3 := H23.out.1.size
                        have s5 := (hx2.size : w23.heap.size ≤ w25.heap.size) |> Nat.le_trans s3
                        have HXe := Lib.hid (show Ext w20 w25 from H21.out.1.trans hx1)
                        have HAp := Lib.hid (apart_any p hs (ordL ls x1) xa hs.length xc xb n1 xbc f w20.heap.size w22.heap.size ya yc yb ybc w25 rfl (by have := HS.out.hfew; have := HS.out.ehn; omega) (by rw [ordL_len, HLn.out]) (ordL_fit (ordE_ok HE0.out) HS.out.fit) s5
                          (by obtain ⟨xs, h⟩ := (H21.out.2 _ s1).head; exact ⟨xs, h.ext hx1⟩) ((H21.out.2 _ s1).body.ext hx1) (H21.out.2 _ s1).apart (H21.out.2 _ s1).few
                          ((H23.out.2 _ (Nat.le_refl _)).terms.ext hx2) ((H23.out.2 _ (Nat.le_refl _)).lits.ext hx2))
                        clear hk25 hb1 hb2 hx1 hx2 s1 s2 s3 s5
                        go_wp2_with fail
                        refine HAp.out.mono ?_
                        rintro e w26 ⟨rfl, hk26⟩
                        have HFin := Lib.hid (show Ext w w26 from (HW5.out.trans (HX520.out.trans HXe.out)).trans' hk26 fun k h1 h2 => by
                          have h3 := (HW5.out.trans HX520.out).size
                          omega)
                        clear hk26 p0 p1 p2 o0 o1 o2
                        go_wp2
                        go_ret
                        exact RetN.mk HFin.out rfl
                      · have HO1 := Lib.hid (HOrd.out w20 HX520.out x1 wa n1 wc HX1.out.symm HW20.out.1 (by omega) HWant.out.2.1 HWant.out.2.2.1)
                        have HQ := Lib.hid hq
                        clear hq
                        go_wp2_with fail
                        clear hi hlt
                        refine HO1.out.mono ?_
                        rintro e w21 ⟨v, rfl, hk21, ho⟩
                        obtain ⟨p1', ra, rn, rc, rb, rm, rbc, o1, rfl⟩ := ho.any
                        obtain ⟨wC, eC⟩ : ∃ wC, w21.alloc (.cells #[.string ⟨#[]⟩, .slice none 0 0, .slice none 0 0] 28) = wC := ⟨_, rfl⟩
                        obtain ⟨g5, eg5⟩ : ∃ g, w21.heap.size = g := ⟨_, rfl⟩
                        have hz : Blk wC g5 [.string ⟨#[]⟩, .slice none 0 0, .slice none 0 0] 28 := by rw [← eC, ← eg5]; exact Blk.new w21 _ _
                        have hXC : Ext w21 wC := by rw [← eC]; exact (Kp.refl w21).alloc _
                        have z0 : wC.cell? ⟨g5, 0, none⟩ = some (.string ⟨#[]⟩) := by rw [hz.cell']; rfl
                        have z1 : wC.cell? ⟨g5, 1, none⟩ = some (.slice none 0 0) := by rw [hz.cell']; rfl
                        have z2 : wC.cell? ⟨g5, 2, none⟩ = some (.slice none 0 0) := by rw [hz.cell']; rfl
                        have f0 := hz.free 0
                        have f1 := hz.free 1
                        have f2 := hz.free 2
                        obtain ⟨w22, e22⟩ : ∃ x, ((wC.setCell ⟨g5, 0, none⟩ (.string p1')).setCell ⟨g5, 1, none⟩ (.slice ra rn rc)).setCell ⟨g5, 2, none⟩ (.slice rb rm rbc) = x := ⟨_, rfl⟩
                        have hX22 : Ext w21 w22 := hXC.trans' (F := fun _ => False) (G := fun k => k = g5) (by rw [← e22]; exact (rule_set hz).2) fun k h1 h2 => by omega
                        have H22 := Lib.hid ((HX520.out.trans hk21).trans hX22)
                        have HX21 := Lib.hid (hk21.trans hX22)
                        obtain ⟨r0', r1', r2'⟩ := HR5.out w22 ((HX520.out.trans hk21).trans hX22)
                        clear hz hXC hX22 hk21 ho r0 r1 r2
                        go_wp2_with fail
                        have HO2 := Lib.hid (HOrd.out w22 H22.out x1 wa n1 wc HX1.out.symm (HW20.out.1.ext HX21.out) (by omega) HWant.out.2.1 HWant.out.2.2.1)
                        refine HO2.out.mono ?_
                        rintro e w23 ⟨v, rfl, hk23, ho⟩
                        obtain ⟨p2', sa, sn', sc', sb, sm, sbc, o2, rfl⟩ := ho.any
                        clear r0' r1' r2' e22 eC z0 z1 z2 f0 f1 f2 eg5
                        obtain ⟨wC, eC⟩ : ∃ wC, w23.alloc (.cells #[.string ⟨#[]⟩, .slice none 0 0, .slice none 0 0] 28) = wC := ⟨_, rfl⟩
                        obtain ⟨g6, eg6⟩ : ∃ g, w23.heap.size = g := ⟨_, rfl⟩
                        have hz : Blk wC g6 [.string ⟨#[]⟩, .slice none 0 0, .slice none 0 0] 28 := by rw [← eC, ← eg6]; exact Blk.new w23 _ _
                        have hXC : Ext w23 wC := by rw [← eC]; exact (Kp.refl w23).alloc _
                        have z0 : wC.cell? ⟨g6, 0, none⟩ = some (.string ⟨#[]⟩) := by rw [hz.cell']; rfl
                        have z1 : wC.cell? ⟨g6, 1, none⟩ = some (.slice none 0 0) := by rw [hz.cell']; rfl
                        have z2 : wC.cell? ⟨g6, 2, none⟩ = some (.slice none 0 0) := by rw [hz.cell']; rfl
                        have f0 := hz.free 0
                        have f1 := hz.free 1
                        have f2 := hz.free 2
                        obtain ⟨w24, e24⟩ : ∃ x, ((wC.setCell ⟨g6, 0, none⟩ (.string p2')).setCell ⟨g6, 1, none⟩ (.slice sa sn' sc')).setCell ⟨g6, 2, none⟩ (.slice sb sm sbc) = x := ⟨_, rfl⟩
                        have hX24 : Ext w23 w24 := hXC.trans' (F := fun _ => False) (G := fun k => k = g6) (by rw [← e24]; exact (rule_set hz).2) fun k h1 h2 => by omega
                        have HFin := Lib.hid (show Ext w w24 from HW5.out.trans (H22.out.trans (hk23.trans hX24)))
                        have hq : ¬ (q1 : Int) = 0 := by have := HQ.out; omega
                        clear hz hXC hX24 hk23 ho
                        go_wp2
                        go_ret
                        exact RetN.mk HFin.out (by simp)
end Go.Proofs.YtomeebimmmfmbaaGreat

/- Proved here: the statement CostOwnUptoSaid: the law returns true for every input of the bound that the row names and leaves its arguments as they were. No condition of its own. -/
namespace Go.Proofs.YtomeebimmmfmbaaGreat.lawCostOwn
open Go.ChangeShapes Go.WideShapes Go.ChangeAt Go.RowKit
set_option linter.unusedVariables false
theorem own : ownKnob Tryz.prog.godebug = none := by kernel_rfl
theorem laidOut : laidOutB Tryz.prog = true := by kernel_rfl
theorem sumR_bulk : ∀ L : List RelZ, sumR L ≤ bulkL shRel.bulk L
  | [] => Nat.zero_le _
  | q :: L => by
    have h1 := sumR_bulk L
    have h2 : shRel.bulk q = (shT.bulk q.1 + (1 + ((bulkL shTs.bulk q.2.2.1 + 1) + 0))) + 1 := rfl
    have h3 := bulkL_len shTs.bulk (fun x => by show 1 ≤ _ + 1; omega) q.2.2.1
    have h4 : sumR (q :: L) = q.2.2.1.length + sumR L := by unfold sumR; simp
    have h5 : bulkL shRel.bulk (q :: L) = shRel.bulk q + bulkL shRel.bulk L := by simp [bulkL]
    omega
theorem owns_walk {v o u : Value} {W : World} (hv : ∃ ao cap xs, v = .slice ao xs.length cap ∧ xs.length ≤ cap ∧ ElemsAt shRel W (fun k => k < W.heap.size) ao xs ∧ bulkL shRel.bulk xs + 1 ≤ 1048576)
    (ho : ∃ cs x, o = .agg cs ∧ shRule.At W (fun k => k < W.heap.size) cs.toList x ∧ shRule.bulk x ≤ 1048576)
    (hu : ∃ ao cap xs, u = .slice ao xs.length cap ∧ xs.length ≤ cap ∧ ElemsAt shKnown W (fun k => k < W.heap.size) ao xs ∧ bulkL shKnown.bulk xs + 1 ≤ 1048576) :
    Calls Tryz.prog 4 #[v, o, u] W (fun e w' => e = .returned (.bool true) ∧ Below W.heap.size W w') := by
  obtain ⟨ra, rc, rs, rfl, r2, r3, rb⟩ := hv
  obtain ⟨cs, x, rfl, h1, hb⟩ := ho
  obtain ⟨ka, kc, ks, rfl, k2, k3, kb⟩ := hu
  obtain ⟨ha, hcap, ba, bcap, hR, ec⟩ := rule_cells h1
  have ecs : cs = #[.string x.1.1, .slice ha x.1.2.1.length hcap, .slice ba x.2.1.length bcap] := by
    rw [← Array.toList_inj, ec]
  obtain ⟨f1, f2⟩ := rule_fit (r := x) hb
  have l2 := sumR_bulk rs
  obtain ⟨j1, j2⟩ := rel_bulk (L := rs) (N := 1048576) (by omega)
  rw [ecs]
  refine (owns_any rs ra rs.length rc x.1.1 x.1.2.1 x.2.1 ha _ hcap ba _ bcap (ks.map natK) ka ks.length kc W (fun k => k < W.heap.size)
    { enl := rfl, rel := elems_rels r3 (fun q hq ss hs => by have := (j2 q hq).2 ss hs; omega), few := j1, sum := by omega, rows := fun q hq => (j2 q hq).1, ehn := rfl, heads := hR.head, hfew := f1, en := rfl, lits := hR.body, fit := f2, ek := by rw [List.length_map], known := (known_in k3).at, kfit := known_fit k3 kb }).mono ?_
  rintro e w' ⟨v, rfl, hk, rfl⟩
  exact ⟨rfl, hk.below⟩
set_option maxRecDepth 100000 in
theorem lifted (os : Os) (started : os.Started) (H : Type) (enc : TypeId × Value → H) (F : Stop.Interp) :
    ReturnsInHanded {} Tryz.checked os 4 .any ((Rows.OpenSpec.upto Rows.costOwnSpec).pre6 enc Tryz.prog Tryz.f4 Rows.costOwnUptoRow.domain false) (((Rows.OpenSpec.upto Rows.costOwnSpec).at F).post enc Tryz.prog Tryz.f4 false true false false) := by
  refine returnsInHanded_of_cond (C := Tryz.checked) (s := Rows.OpenSpec.upto Rows.costOwnSpec) (k := Rows.uptoSmall) rfl own started (by kernel_rfl) Tryz.func4
    (OpenSpec.witness (enc := enc) (C := Tryz.checked) (s := Rows.OpenSpec.upto Rows.costOwnSpec) (k := Rows.uptoSmall) rfl false ⟨#[], #[.slice none 0 0, .agg #[.string ⟨#[]⟩, .slice none 0 0, .slice none 0 0], .slice none 0 0], []⟩ 8 (by kernel_rfl) (by kernel_rfl) (by kernel_rfl)
      (x := ([.nil, .agg [.agg [.lit (.string []), .nil], .nil], .nil], [], [])) (by kernel_rfl) rfl (by kernel_rfl)) ?_
  intro W base args ds gs before hval0 hW hcnd hk0 _
  have hk : Rows.uptoSmall H (ds ++ gs) = true := hk0
  clear hk0
  have hval : ∀ (j : Nat) t v, Tryz.f4.params[j]? = some t → args[j]? = some v → Value.okWide Tryz.prog W .any base t v := hval0
  have hW' := hW
  obtain ⟨p, q, hA0, hV, rfl, hfz, hnd⟩ := hW
  have hA : DataW.TrodAll enc Tryz.prog W 0 (fun _ => true) true Tryz.f4.params.toList args.toList ds p := hA0
  rw [Tryz.params4] at hA hval
  obtain ⟨v0, vs0, d0, ds0, p0, q0, hargs, rfl, rfl, h0, r0⟩ := trodAll_cons hA
  obtain ⟨v1, vs1, d1, ds1, p1, q1, rfl, rfl, rfl, h1, r1⟩ := trodAll_cons r0
  obtain ⟨v2, vs2, d2, ds2, p2, q2, rfl, rfl, rfl, h2, r2⟩ := trodAll_cons r1
  obtain ⟨rfl, rfl, rfl⟩ := trodAll_nil r2
  obtain rfl : args = #[v0, v1, v2] := by cases args; simp_all
  obtain ⟨rfl, rfl⟩ := trodVars_none hV
  have lt0 : ∀ x ∈ p0, x.block < W.heap.size := by obtain ⟨m, hm⟩ := h0; exact DataW.trod_lt m _ _ _ hm
  have lt1 : ∀ x ∈ p1, x.block < W.heap.size := by obtain ⟨m, hm⟩ := h1; exact DataW.trod_lt m _ _ _ hm
  have lt2 : ∀ x ∈ p2, x.block < W.heap.size := by obtain ⟨m, hm⟩ := h2; exact DataW.trod_lt m _ _ _ hm
  clear hA0 hval0
  simp only [List.append_nil] at hk
  have hk1 : Rows.uptoBulkAll [d0, d1, d2] ≤ 1048576 := of_decide_eq_true hk
  clear hk
  have x0 := arg_slice (s := shRel) Tryz.underlying22 (by kernel_rfl) (by decide) (hval 0 22 v0 rfl rfl) h0 (N := 1048576) (bulk_in hk1 (by simp))
  have x1 : ∃ cs x, v1 = .agg cs ∧ shRule.At W (fun k => k < W.heap.size) cs.toList x ∧ shRule.bulk x ≤ 1048576 := by
    obtain ⟨cs, rfl, hcs⟩ := okWide_struct Tryz.underlying28 (hval 1 28 v1 rfl rfl)
    obtain ⟨x, hx, hb⟩ := shRule.arg h1 (bulk_in hk1 (by simp))
    exact ⟨cs, x, rfl, hx, hb⟩
  have x2 := arg_slice (s := shKnown) Tryz.underlying57 (by kernel_rfl) (by decide) (hval 2 57 v2 rfl rfl) h2 (N := 1048576) (bulk_in hk1 (by simp))
  refine (owns_walk x0 x1 x2).mono fun e W' ⟨he, bel⟩ => ?_
  subst he
  exact ⟨_, rfl, _, _, _, [], _, [], hW', trodAll_mk1 (shut_bool Tryz.underlying4 _), (trodAll_cons_mk (Below.trod laidOut (by kernel_rfl) (of_decide_eq_true (by kernel_rfl)) h0 bel lt0) (trodAll_cons_mk (Below.trod laidOut (by kernel_rfl) (of_decide_eq_true (by kernel_rfl)) h1 bel lt1) (trodAll_cons_mk (Below.trod laidOut (by kernel_rfl) (of_decide_eq_true (by kernel_rfl)) h2 bel lt2) trodAll_mk0))), rfl, bel.frame _, fun h => by cases h⟩
theorem over : Rows.costOwnUptoRow.holds Tryz.pinned (Rows.OpenSpec.upto Rows.costOwnSpec) :=
  OpenClaim.holds_of_cond 4 Tryz.f4 rfl rfl rfl rfl rfl rfl rfl ⟨rfl, rfl, rfl, rfl, rfl⟩ rfl rfl rfl rfl rfl (by kernel_rfl) Tryz.func4 (by kernel_rfl)
    (of_decide_eq_true (by kernel_rfl)) (by unfold Func.isWrapper; first | (rw [if_pos (by decide +kernel)]; kernel_rfl) | (rw [if_neg (by decide +kernel)]; exact ⟨rfl, rfl⟩))
    (fun os started H enc _ F => lifted os started H enc F)
theorem proved : Rows.CostOwnUptoSaid := over
#print axioms proved
end Go.Proofs.YtomeebimmmfmbaaGreat.lawCostOwn
