/- Texts joined for a claim (Stands, Guess). -/
import Derived.Test.YtcphalpcdcddpaaGu5
/- cost: stands; slices.IndexFunc, ContainsFunc at texts. -/
namespace Go.Proofs.Ytcphalpcdcddpaa
open Go.RowKit
set_option linter.unusedVariables false
attribute [local go_sem] run_store_float

def TellS (f : FuncId) (first captured : Array Value) (w0 : World) (q : ByteArray → Bool) : Prop :=
  (∀ args w, (callFunc f args).run Try.prog w = .ok (Next.enter f args) w) ∧ ∀ w, Ext w0 w → ∀ (x : ByteArray), Calls Try.prog f (first.push (.string x) ++ captured) w (RetN w fun w' v => v = .bool (q x))
def NoneSF (w0 : World) (ts : List ByteArray) (q : ByteArray → Bool) (n : Nat) (iv : Value) (w : World) : Prop := ∃ i : Nat, i ≤ n ∧ iv = .int .i64 i ∧ Hid (∀ (j : Nat) u, j < i → ts[j]? = some u → q u = false) ∧ Hid (Ext w0 w)
set_option maxRecDepth 100000 in
set_option maxHeartbeats 1000000 in
theorem indexSF_any (ts : List ByteArray) (ao : Option Addr) (n cap : Nat) (f : FuncId) (first captured : Array Value) (q : ByteArray → Bool) (w : World) (hn : n = ts.length) (h : CellsAt w ao (strs ts)) (hq : TellS f first captured w q) (hl : n ≤ 4611686018427387904) :
    Calls Try.prog 90 #[.slice ao n cap, .func (Fn.func f) first captured] w (RetN w fun w' v => ∃ z : Int, v = .int .i64 z ∧ decide (0 ≤ z) = ts.any q) := by
  have HN := Lib.hid hn; have HE := Lib.hid h; clear hn h
  have hent := hq.1
  have HQ := Lib.hid hq.2; clear hq
  go_enter Try.func90, Try.ntmps90
  go_wp2
  go_loopw [8] (fun iv wr => NoneSF w ts q n iv wr) (fun iv _ => n - (intOf iv).toNat)
  case atStart => exact ⟨0, Nat.zero_le _, rfl, fun j u h => by omega, Kp.refl w⟩
  case round =>
    obtain ⟨i, hi, rfl, hno, hex⟩ := hrel
    by_cases hlt : i < n
    · have hlt' : i < ts.length := by rw [← HN.out]; exact hlt
      obtain ⟨b, off, eao, hc0⟩ := (HE.out.ext hex.out).str hlt'
      subst eao
      have ht : ts[i]? = some ts[i] := List.getElem?_eq_getElem hlt'
      generalize ts[i] = t at *
      obtain ⟨r, er⟩ : ∃ r : Bool, q t = r := ⟨_, rfl⟩
      have HC0 := HQ.out wr hex.out t
      rw [er] at HC0
      have HC := Lib.hid HC0
      have HT := Lib.hid (And.intro ht er)
      clear ht hlt' er HC0
      cases r
      · go_wp2_with fail
        refine HC.out.mono ?_
        rintro e w1 ⟨v, rfl, hk1, rfl⟩
        have HX := Lib.hid (hex.out.trans hk1); clear hk1 hc0
        go_wp2
        go_roundw
        case rel =>
          refine ⟨i + 1, by omega, by first | rfl | (congr 1; done) | (congr 1; omega), fun j u hj hu => ?_, HX⟩
          by_cases e : j = i
          · subst e; rw [HT.out.1] at hu; cases hu; exact HT.out.2
          · exact hno.out j u (by omega) hu
        case measure => simp [intOf]; omega
      · go_wp2_with fail
        refine HC.out.mono ?_
        rintro e w1 ⟨v, rfl, hk1, rfl⟩
        have HX := Lib.hid (hex.out.trans hk1); clear hk1 hc0
        go_wp2
        go_ret
        exact RetN.mk HX.out ⟨i, rfl, by rw [any_true HT.out.1 HT.out.2]; simp⟩
    · go_wp2
      go_ret
      exact RetN.mk hex.out ⟨-1, rfl, by rw [any_false HN.out fun j u hj => hno.out j u (by omega)]; decide⟩
set_option maxRecDepth 100000 in
theorem containsSF_any (ts : List ByteArray) (ao : Option Addr) (n cap : Nat) (f : FuncId) (first captured : Array Value) (q : ByteArray → Bool) (w : World) (hn : n = ts.length) (h : CellsAt w ao (strs ts)) (hq : TellS f first captured w q) (hl : n ≤ 4611686018427387904) :
    Calls Try.prog 71 #[.slice ao n cap, .func (Fn.func f) first captured] w (RetN w fun w' v => v = .bool (ts.any q)) := by
  have HI := Lib.hid (indexSF_any ts ao n cap f first captured q w hn h hq hl)
  clear hn h hq hl
  go_enter Try.func71, Try.ntmps71
  go_wp2_with fail
  refine HI.out.mono ?_
  rintro e w1 ⟨v, rfl, hk, z, rfl, hz⟩
  go_wp2
  go_ret
  exact RetN.mk hk (congrArg Value.bool (by first | exact hz | simp [← hz]))

theorem varsL_pos {l : LitZ} (h : l.1 = 1) : varsL l = varsT (termsOf l) := if_pos h
/-- The variables that a set binds, literal by literal. -/
def bindsL (p : LitZ × Bool) : List ByteArray := if p.2 = true ∧ p.1.1 = 1 then varsL p.1 else []
def bindsTo (ps : Pairs) (i : Nat) : List ByteArray := (ps.take i).flatMap bindsL
theorem bindsTo_succ {ps : Pairs} {i : Nat} {p : LitZ × Bool} (h : ps[i]? = some p) : bindsTo ps (i + 1) = bindsTo ps i ++ bindsL p := flat_take _ h
theorem binds_iff {ls : List LitZ} {inn : List Bool} (hin : inn.length = ls.length) {v : ByteArray} {n : Nat} (hn : ls.length ≤ n) : v ∈ bindsTo (ls.zip inn) n ↔ boundIn ls inn v := by
  unfold bindsTo
  rw [List.take_of_length_le (by rw [zip_len hin]; exact hn), List.mem_flatMap]
  constructor
  · rintro ⟨⟨l, b⟩, hp, hv⟩
    obtain ⟨i, hi⟩ := List.mem_iff_getElem?.1 hp
    rw [List.getElem?_zip_eq_some] at hi
    unfold bindsL at hv
    split at hv
    · rename_i h
      obtain ⟨rfl, h1⟩ := h
      exact ⟨i, l, hi.1, hi.2, h1, by rw [← varsL_pos h1]; exact hv⟩
    · cases hv
  · rintro ⟨i, l, h1, h2, h3, h4⟩
    refine ⟨(l, true), List.mem_of_getElem? (zip_at h1 h2), ?_⟩
    unfold bindsL
    rw [if_pos ⟨rfl, h3⟩]
    rw [varsL_pos h3]; exact h4
theorem stands_vars {ls : List LitZ} {inn : List Bool} : stands ls inn ↔ ∀ (i : Nat) (l : LitZ), ls[i]? = some l → inn[i]? = some true → ∀ v ∈ varsL l, boundIn ls inn v := by
  constructor
  · intro h i l h1 h2 v hv
    by_cases hl : l.1 = 1
    · rw [varsL_pos hl] at hv
      exact ⟨i, l, h1, h2, hl, hv⟩
    · exact h i l h1 h2 hl v (by unfold varsL at hv; rw [if_neg hl] at hv; exact hv)
  · intro h i l h1 h2 h3 v hv
    exact h i l h1 h2 v (by unfold varsL; rw [if_neg h3]; exact hv)

/-- A map that tells just these. -/
def TellsM (m : List (ByteArray × Value)) (bs : List ByteArray) : Prop := ∀ v, getM m v = if hasT bs v = true then some (Value.bool true) else none
theorem take_snoc2 {α : Type} {l : List α} {i : Nat} {x : α} (h : l[i]? = some x) : l.take (i + 1) = l.take i ++ [x] := by rw [List.take_add_one, h]; rfl
theorem hasT_snoc (bs : List ByteArray) (s v : ByteArray) : hasT (bs ++ [s]) v = (hasT bs v || decide (s = v)) := by
  unfold hasT; rw [List.any_append]; simp
theorem TellsM.put {m : List (ByteArray × Value)} {bs : List ByteArray} (h : TellsM m bs) (s : ByteArray) : TellsM (putM m s (.bool true)) (bs ++ [s]) := fun v => by
  rw [getM_put, h v, hasT_snoc]
  by_cases hv : v = s
  · rw [if_pos hv, decide_eq_true hv.symm, Bool.or_true]; rfl
  · rw [if_neg hv, decide_eq_false (Ne.symm hv), Bool.or_false]
theorem TellsM.nil : TellsM [] [] := fun v => rfl

theorem boundFn_any (g2 gc : Nat) (m : List (ByteArray × Value)) (bs : List ByteArray) (s : ByteArray) (w : World) (hc : Blk w gc [.map (some g2)] 127) (hm : MapIs w g2 m) (ht : TellsM m bs) :
    Calls Try.prog 72 #[.string s, .pointer (some ⟨gc, 0, none⟩)] w (RetN w fun w' v => v = .bool (!hasT bs s)) := by
  have c0 : w.cell? ⟨gc, 0, none⟩ = some (.map (some g2)) := by rw [hc.cell']; rfl
  have hlk := run_lookup_str (P := Try.prog) (w := w) Try.underlying127 Try.underlying9 (z := .bool false) (by kernel_rfl) hm s
  rw [ht s] at hlk
  clear hc hm ht
  cases h : hasT bs s
  · rw [h] at hlk
    have hl2 : (Instr.lookup 127 (.map (some g2)) (.string s) false).run Try.prog w = .ok (.bool false) w := hlk
    clear h hlk
    go_enter Try.func72, Try.ntmps72
    go_wp2
    go_ret
    exact RetN.mk (Kp.refl w) rfl
  · rw [h] at hlk
    have hl2 : (Instr.lookup 127 (.map (some g2)) (.string s) false).run Try.prog w = .ok (.bool true) w := hlk
    clear h hlk
    go_enter Try.func72, Try.ntmps72
    go_wp2
    go_ret
    exact RetN.mk (Kp.refl w) rfl

def BindTo (w0 : World) (g2 gc : Nat) (ps : Pairs) (n : Nat) (iv : Value) (w : World) : Prop := ∃ i : Nat, i ≤ n ∧ iv = .int .i64 i ∧ Hid (∃ m, MapIs w g2 m ∧ TellsM m (bindsTo ps i)) ∧ Hid (Blk w gc [.map (some g2)] 127) ∧ Hid (Ext w0 w)
def BindIn (w0 : World) (g2 gc : Nat) (A : List ByteArray) (V : List ByteArray) (on : Bool) (n : Nat) (iv : Value) (gp : Nat) (pv : List Value) (w : World) : Prop := ∃ j : Nat, j ≤ n ∧ iv = .int .i64 j ∧ Hid (∃ m, MapIs w g2 m ∧ TellsM m (A ++ if on = true then V.take j else [])) ∧ Hid (Blk w gc [.map (some g2)] 127) ∧ Hid (Ext w0 w) ∧ Hid (Blk w gp pv 113)
theorem map_lt_ext {w0 w w' : World} {g2 : Nat} (h : Ext w0 w) (hg : w0.heap.size ≤ g2) (hk : Kp (fun k => k = g2) w w') : Ext w0 w' := h.trans' hk fun i hi e => by omega

open Classical in
set_option maxRecDepth 100000 in
set_option maxHeartbeats 8000000 in
theorem stands_any (gb : Nat) (S : List StatZ) (ls : List LitZ) (n : Nat) (inn : List Bool) (ia : Option Addr) (icap : Nat) (w : World) (hn : n = ls.length) (hl : n ≤ 1048576) (hv : ∀ l ∈ ls, (varsL l).length ≤ 1048576) (hB : BodyAt w gb S ls) (hin : inn.length = n) (hI : CellsAt w ia (bools inn)) :
    Calls Try.prog 43 #[.pointer (some ⟨gb, 0, none⟩), .slice ia n icap] w (RetN w fun w' v => v = .bool (decide (stands ls inn))) := by
  obtain ⟨pa, pcap, na, ncap, gm, mm, ca, ccap, hR⟩ := hB.read
  have HR := Lib.hid hR
  have HN := Lib.hid hn
  have HV := Lib.hid hv
  have HI := Lib.hid (And.intro hin hI)
  obtain ⟨c1v, ec1⟩ : ∃ v, v = Value.slice na (namesB ls).length ncap := ⟨_, rfl⟩
  obtain ⟨c3v, ec3⟩ : ∃ v, v = Value.slice ca (constsP S 0 ls).length ccap := ⟨_, rfl⟩
  have b0 : w.cell? ⟨gb, 0, none⟩ = some (.slice pa n pcap) := by rw [hR.blk.cell', hn]; rfl
  have HB0 := Lib.hid b0
  have hmm := @run_makeMap Try.prog
  have b0' : ((w.alloc (.map #[] 0)).alloc (.cells #[.map (some w.heap.size)] 127)).cell? ⟨gb, 0, none⟩ = some (.slice pa n pcap) := (((Kp.refl (F := fun _ => False) w).alloc _).alloc _).cell b0 id
  clear hB hR hn hv hin hI ec1 ec3
  go_enter Try.func43, Try.ntmps43
  go_wp2
  obtain ⟨w4, ew4⟩ : ∃ w4, (w.alloc (.map #[] 0)).alloc (.cells #[.map (some w.heap.size)] 127) = w4 := ⟨_, rfl⟩
  rw [ew4]
  obtain ⟨g2, eg2⟩ : ∃ g2, g2 = w.heap.size := ⟨_, rfl⟩
  obtain ⟨gc, egc⟩ : ∃ gc, gc = g2 + 1 := ⟨_, rfl⟩
  have hx4 : Ext w w4 := by rw [← ew4]; exact ((Kp.refl w).alloc _).alloc _
  have hc4 : Blk w4 gc [.map (some g2)] 127 := by
    have h := Blk.new (w.alloc (.map #[] 0)) [.map (some w.heap.size)] 127
    rw [alloc_size] at h
    have ew4' : (w.alloc (.map #[] 0)).alloc (.cells [Value.map (some w.heap.size)].toArray 127) = w4 := ew4
    rw [ew4', ← eg2, ← egc] at h; exact h
  have hm4 : MapIs w4 g2 [] := by
    have h := (MapIs.new w).ext ((Kp.refl _).alloc (.cells #[.map (some w.heap.size)] 127))
    rw [ew4, ← eg2] at h; exact h
  have HC4 := Lib.hid hc4
  have HM4 := Lib.hid hm4
  have HX4 := Lib.hid hx4
  have HG2 := Lib.hid (show w.heap.size ≤ g2 ∧ gc ≠ g2 by omega)
  rw [← eg2]
  rw [← egc]
  clear ew4 hx4 hc4 hm4 eg2 egc hmm b0' b0
  go_loopw [18] (fun iv wr => BindTo w g2 gc (ls.zip inn) n iv wr) (fun iv _ => n - (intOf iv).toNat)
  case atStart => exact ⟨0, Nat.zero_le _, rfl, ⟨[], HM4.out, TellsM.nil⟩, HC4.out, HX4.out⟩
  case round =>
    obtain ⟨i, hi, rfl, hm, hc, hex⟩ := hrel
    by_cases hlt : i < n
    · obtain ⟨l, hli⟩ : ∃ l, ls[i]? = some l := ⟨_, List.getElem?_eq_getElem (by rw [← HN.out]; exact hlt)⟩
      obtain ⟨bi, ebi⟩ : ∃ bi, inn[i]? = some bi := ⟨_, List.getElem?_eq_getElem (by have := HI.out.1; omega)⟩
      obtain ⟨pg, poff, va, vcap, epa, p0, p1, p2, p3, hvc⟩ := HR.out.parts i l hli
      subst epa
      replace p0 := hex.out.cell p0 id
      replace p1 := hex.out.cell p1 id
      replace p2 := hex.out.cell p2 id
      replace p3 := hex.out.cell p3 id
      obtain ⟨po, epo⟩ : ∃ po, po = decide (l.1 = 1) := ⟨_, rfl⟩
      rw [← epo] at p0
      obtain ⟨V, eV⟩ : ∃ V, V = varsL l := ⟨_, rfl⟩
      rw [← eV] at p3 hvc
      obtain ⟨vn, evn⟩ : ∃ vn, vn = V.length := ⟨_, rfl⟩
      rw [← evn] at p3
      have hvn : vn ≤ 1048576 := by rw [evn, eV]; exact HV.out l (List.mem_of_getElem? hli)
      generalize rowsP S l = r1 at p1
      generalize shareP l = r2 at p2
      have HL := Lib.hid (And.intro hli (And.intro ebi (And.intro epo (And.intro eV (And.intro evn hvc)))))
      have HZ := Lib.hid (zip_at hli ebi)
      clear hli ebi epo eV evn hvc
      obtain ⟨wx, ewx⟩ : ∃ wx, wr.alloc (.cells #[.bool po, .float .f64 r1, .float .f64 r2, .slice va vn vcap] 113) = wx := ⟨_, rfl⟩
      obtain ⟨gp, egp⟩ : ∃ gp, gp = wr.heap.size := ⟨_, rfl⟩
      have hgp := Blk.new wr [.bool po, .float .f64 r1, .float .f64 r2, .slice va vn vcap] 113
      have ewx' : wr.alloc (.cells [Value.bool po, .float .f64 r1, .float .f64 r2, .slice va vn vcap].toArray 113) = wx := ewx
      rw [ewx', ← egp] at hgp
      have HGP := Lib.hid hgp
      have hxx : Ext wr wx := by rw [← ewx]; exact (Kp.refl wr).alloc _
      have EGP := Lib.hid (And.intro egp ewx)
      obtain ⟨m, hm1, hm2⟩ := hm.out
      have HMx := Lib.hid (show ∃ m, MapIs wx g2 m ∧ TellsM m (bindsTo (ls.zip inn) i ++ if (bi && po) = true then V.take 0 else []) from ⟨m, hm1.ext hxx, by simpa using hm2⟩)
      have HCx := Lib.hid (hc.out.ext hxx)
      have HXx := Lib.hid (hex.out.trans hxx)
      clear hgp ewx ewx' hxx hm1 hm2 egp hm
      go_wp2
      rw [EGP.out.2, ← EGP.out.1]
      clear p0 p1 p2 p3
      go_loopw [26] (fun iv wr => BindIn w g2 gc (bindsTo (ls.zip inn) i) V (bi && po) vn iv gp [.bool po, .float .f64 r1, .float .f64 r2, .slice va vn vcap] wr) (fun iv _ => vn - (intOf iv).toNat)
      case atStart => exact ⟨0, Nat.zero_le _, rfl, HMx.out, HCx.out, HXx.out, HGP.out⟩
      case round =>
        obtain ⟨j, hj, rfl, hmj, hcj, hexj, hgpj⟩ := hrel
        by_cases hlt2 : j < vn
        · have hjl : j < V.length := by rw [← HL.out.2.2.2.2.1]; exact hlt2
          obtain ⟨sb, soff, eva, s0⟩ := (HL.out.2.2.2.2.2.ext hexj.out).str hjl
          subst eva
          have hvj : V[j]? = some V[j] := List.getElem?_eq_getElem hjl
          generalize V[j] = v at *
          have HVj := Lib.hid hvj
          obtain ⟨ib, ioff, eia, d0⟩ := (HI.out.2.ext hexj.out).bool HL.out.2.1
          subst eia
          have q0 : wr.cell? ⟨gp, 0, none⟩ = some (.bool po) := by rw [hgpj.out.cell']; rfl
          have cc : wr.cell? ⟨gc, 0, none⟩ = some (.map (some g2)) := by rw [hcj.out.cell']; rfl
          obtain ⟨m, hm1, hm2⟩ := hmj.out
          clear hvj hjl hmj
          by_cases hon : bi = true ∧ po = true
          · obtain ⟨rfl, rfl⟩ := hon
            obtain ⟨w2, hrun, hM2, hk2⟩ := run_update_str (P := Try.prog) Try.underlying127 Try.underlying9 hm1 v (.bool true)
            have HM2 := Lib.hid (show ∃ m, MapIs w2 g2 m ∧ TellsM m (bindsTo (ls.zip inn) i ++ if (true && true) = true then V.take (j + 1) else []) from ⟨_, hM2, by
              have h := hm2.put v
              simp only [Bool.and_self, if_true] at h ⊢
              rw [List.append_assoc] at h
              rw [take_snoc2 HVj.out]; exact h⟩)
            have hne : gp ≠ g2 := fun e => by have := hgpj.out; rw [e] at this; exact blk_map this hm1
            have HC2 := Lib.hid (hcj.out.kp hk2 HG2.out.2)
            have HX2 := Lib.hid (map_lt_ext hexj.out HG2.out.1 hk2)
            have HP2 := Lib.hid (hgpj.out.kp hk2 hne)
            clear hM2 hk2 hne hm1 hm2
            go_wp2
            go_roundw
            case rel => exact ⟨j + 1, by omega, by first | rfl | (congr 1; done) | (congr 1; omega), HM2.out, HC2.out, HX2.out, HP2.out⟩
            case measure => simp [intOf]; omega
          · have hoff : (bi && po) = false := by cases bi <;> cases po <;> simp_all
            have HM2 := Lib.hid (show ∃ m, MapIs wr g2 m ∧ TellsM m (bindsTo (ls.zip inn) i ++ if (bi && po) = true then V.take (j + 1) else []) from ⟨m, hm1, by rw [hoff] at hm2 ⊢; exact hm2⟩)
            have HOff := Lib.hid hoff
            clear hm1 hm2 hoff
            cases bi
            · clear hon
              go_wp2
              go_roundw
              case rel => exact ⟨j + 1, by omega, by first | rfl | (congr 1; done) | (congr 1; omega), HM2.out, hcj.out, hexj.out, hgpj.out⟩
              case measure => simp [intOf]; omega
            · obtain rfl : po = false := by cases po <;> simp_all
              clear hon
              go_wp2
              go_roundw
              case rel => exact ⟨j + 1, by omega, by first | rfl | (congr 1; done) | (congr 1; omega), HM2.out, hcj.out, hexj.out, hgpj.out⟩
              case measure => simp [intOf]; omega
        · have HM2 := Lib.hid (show ∃ m, MapIs wr g2 m ∧ TellsM m (bindsTo (ls.zip inn) (i + 1)) by
            obtain ⟨m, hm1, hm2⟩ := hmj.out
            refine ⟨m, hm1, ?_⟩
            rw [bindsTo_succ HZ.out]
            have e : (if (bi && po) = true then V.take j else []) = bindsL (l, bi) := by
              unfold bindsL
              rw [HL.out.2.2.1, List.take_of_length_le (by have := HL.out.2.2.2.2.1; omega), HL.out.2.2.2.1]
              cases bi <;> simp
            rw [e] at hm2; exact hm2)
          have hcm : ¬ (j : Int) < (vn : Int) := by omega
          clear hmj
          go_wp2
          go_roundw
          case rel => exact ⟨i + 1, by omega, by first | rfl | (congr 1; done) | (congr 1; omega), HM2.out, hcj.out, hexj.out⟩
          case measure => simp [intOf]; omega
    · obtain ⟨m, hm1, hm2⟩ := hm.out
      have HB := Lib.hid (fun (v : ByteArray) => (binds_iff (ls := ls) (inn := inn) (by have := HI.out.1; have := HN.out; omega) (v := v) (n := i) (by have := HN.out; omega)))
      generalize hbs : bindsTo (ls.zip inn) i = bs at *
      have hent : ∀ args w, (callFunc 72 args).run Try.prog w = .ok (Next.enter 72 args) w := enters_of Try.func72 (by kernel_rfl) rfl
      have HFn := Lib.hid (fun (W0 : World) (hW0 : Ext wr W0) => (show TellS 72 #[] #[.pointer (some ⟨gc, 0, none⟩)] W0 (fun v => !hasT bs v) from ⟨hent, fun w' hw' x => boundFn_any g2 gc m bs x w' ((hc.out.ext hW0).ext hw') ((hm1.ext hW0).ext hw') hm2⟩))
      have b0 := hex.out.cell HB0.out id
      generalize hw5 : wr = w5 at *
      clear hw5 hent hm hm1 hm2 hbs
      go_wp2
      go_loopw [47] (fun iv wr => ∃ q : Nat, q ≤ n ∧ iv = .int .i64 q ∧ Hid (∀ (j : Nat) (l : LitZ), j < q → ls[j]? = some l → inn[j]? = some true → ∀ v ∈ varsL l, v ∈ bs) ∧ Hid (Ext w5 wr)) (fun iv _ => n - (intOf iv).toNat)
      case atStart => exact ⟨0, Nat.zero_le _, rfl, fun j l hj => by omega, Kp.refl _⟩
      case round =>
        obtain ⟨q, hq, rfl, hall, hexq⟩ := hrel
        have XQ := Lib.hid (hex.out.trans hexq.out)
        by_cases hlt2 : q < n
        · obtain ⟨l, hli⟩ : ∃ l, ls[q]? = some l := ⟨_, List.getElem?_eq_getElem (by rw [← HN.out]; exact hlt2)⟩
          obtain ⟨bi, ebi⟩ : ∃ bi, inn[q]? = some bi := ⟨_, List.getElem?_eq_getElem (by have := HI.out.1; omega)⟩
          obtain ⟨pg, poff, va, vcap, epa, p0, p1, p2, p3, hvc⟩ := HR.out.parts q l hli
          subst epa
          replace p0 := XQ.out.cell p0 id
          replace p1 := XQ.out.cell p1 id
          replace p2 := XQ.out.cell p2 id
          replace p3 := XQ.out.cell p3 id
          generalize decide (l.1 = 1) = po at p0
          obtain ⟨V, eV⟩ : ∃ V, V = varsL l := ⟨_, rfl⟩
          rw [← eV] at p3 hvc
          obtain ⟨vn, evn⟩ : ∃ vn, vn = V.length := ⟨_, rfl⟩
          rw [← evn] at p3
          have hvn : vn ≤ 1048576 := by rw [evn, eV]; exact HV.out l (List.mem_of_getElem? hli)
          generalize rowsP S l = r1 at p1
          generalize shareP l = r2 at p2
          obtain ⟨ib, ioff, eia, d0⟩ := (HI.out.2.ext XQ.out).bool ebi
          subst eia
          have d1 : (wr.alloc (.cells #[.bool po, .float .f64 r1, .float .f64 r2, .slice va vn vcap] 113)).cell? ⟨ib, ioff + q, none⟩ = some (.bool bi) := ((Kp.refl (F := fun _ => False) wr).alloc _).cell d0 id
          have HL := Lib.hid (And.intro hli (And.intro ebi (And.intro eV evn)))
          have HCF := Lib.hid (fun (W : World) (hW : Ext wr W) => containsSF_any V va vn vcap 72 #[] #[.pointer (some ⟨gc, 0, none⟩)] (fun v => !hasT bs v) W evn (hvc.ext (XQ.out.trans hW)) (HFn.out W (hexq.out.trans hW)) (by omega))
          clear hli ebi eV evn hvc
          cases bi
          · go_wp2
            go_roundw
            case rel =>
              refine ⟨q + 1, by omega, by first | rfl | (congr 1; done) | (congr 1; omega), fun j l' hj hl' hb v hv => ?_, hexq.out.alloc _⟩
              by_cases e : j = q
              · subst e; rw [HL.out.2.1] at hb; cases hb
              · exact hall.out j l' (by omega) hl' hb v hv
            case measure => simp [intOf]; omega
          · go_wp2_with fail
            refine (HCF.out _ ((Kp.refl wr).alloc _)).mono ?_
            rintro e w6 ⟨v, rfl, hk6, rfl⟩
            have X6 := Lib.hid ((hexq.out.alloc _).trans hk6)
            clear hk6 p0 p1 p2 p3 d0 d1
            cases hany : V.any fun v => !hasT bs v
            · have HY := Lib.hid (show ∀ v ∈ varsL l, v ∈ bs from fun v hv => by
                rw [← HL.out.2.2.1] at hv
                have := List.any_eq_false.1 hany v hv
                exact hasT_iff.1 (by simpa using this))
              clear hany
              go_wp2
              go_roundw
              case rel =>
                refine ⟨q + 1, by omega, by first | rfl | (congr 1; done) | (congr 1; omega), fun j l' hj hl' hb v hv => ?_, X6⟩
                by_cases e : j = q
                · subst e; rw [HL.out.1] at hl'; cases hl'; exact HY.out v hv
                · exact hall.out j l' (by omega) hl' hb v hv
              case measure => simp [intOf]; omega
            · have HY := Lib.hid (show ¬ stands ls inn from fun hs => by
                obtain ⟨v, hv, hd⟩ := List.any_eq_true.1 hany
                rw [HL.out.2.2.1] at hv
                rw [hasT_iff.2 ((HB.out v).2 (stands_vars.1 hs q l HL.out.1 HL.out.2.1 v hv))] at hd; cases hd)
              clear hany
              go_wp2
              go_ret
              exact RetN.mk (hex.out.trans X6.out) (congrArg Value.bool (decide_eq_false HY.out).symm)
        · have HY := Lib.hid (show stands ls inn from stands_vars.2 fun j l h1 h2 v hv => (HB.out v).1 (hall.out j l (by have := (List.getElem?_eq_some_iff.1 h1).1; have := HN.out; omega) h1 h2 v hv))
          clear hall
          go_wp2
          go_ret
          exact RetN.mk XQ.out (congrArg Value.bool (decide_eq_true HY.out).symm)
end Go.Proofs.Ytcphalpcdcddpaa

/- cost: the guess of a set. -/
namespace Go.Proofs.Ytcphalpcdcddpaa
open Go.RowKit
set_option linter.unusedVariables false
attribute [local go_sem] run_store_float

theorem inSet_take {inn : List Bool} {xs : List (Nat × Nat)} {q : Nat} {x : Nat × Nat} (h : xs[q]? = some x) : inSet inn (xs.take (q + 1)) = inSet inn (xs.take q) ++ if inn[x.1]? = some true then [x.2] else [] := by
  unfold inSet
  rw [filterMap_take _ h]
  congr 1
  split <;> rfl
theorem inSet_len (inn : List Bool) (xs : List (Nat × Nat)) : (inSet inn xs).length ≤ xs.length := List.length_filterMap_le _ _
theorem spots_in0 (S : List StatZ) (v : ByteArray) {ls : List LitZ} {inn : List Bool} (h : inn.length = ls.length) : inSet inn (spotsP S v 0 ls) = spotsIn S (ls.zip inn) v := spots_in S v ls 0 [] inn rfl h
theorem consts_in0 (S : List StatZ) {ls : List LitZ} {inn : List Bool} (h : inn.length = ls.length) : inSet inn (constsP S 0 ls) = constsIn S (ls.zip inn) := consts_in S ls 0 [] inn rfl h
theorem spots_len0 {S : List StatZ} {v : ByteArray} {ls : List LitZ} (hf : Fit ls) : (spotsP S v 0 ls).length ≤ 1099511627776 := by
  have h1 := spotsP_len' S v 1048576 ls 0 hf.terms
  have h2 := Nat.mul_le_mul_right 1048576 hf.len
  omega
theorem consts_len0 {S : List StatZ} {ls : List LitZ} (hf : Fit ls) : (constsP S 0 ls).length ≤ 1099511627776 := by
  have h1 := constsP_len' S 1048576 ls 0 hf.terms
  have h2 := Nat.mul_le_mul_right 1048576 hf.len
  omega
theorem rowsP_pos {S : List StatZ} {l : LitZ} (h : l.1 = 1) : rowsP S l = rowsW S l := if_pos h
theorem shareP_no {l : LitZ} (h : l.1 ≠ 1) : shareP l = shareW l := if_neg h

def MulZ (w0 : World) (S : List StatZ) (ps : Pairs) (n : Nat) (iv sv : Value) (w : World) : Prop := ∃ i x : Nat, i ≤ n ∧ iv = .int .i64 i ∧ sv = .float .f64 x ∧ Hid (x = mulTo S ps i ∧ x ≤ infW ∧ ∀ j, j < i → ¬ ∃ l : LitZ, ps[j]? = some (l, true) ∧ l.1 = 1 ∧ zeroW (rowsW S l) = true) ∧ Hid (Ext w0 w)
def SelTo (w0 : World) (inn : List Bool) (xs : List (Nat × Nat)) (n : Nat) (iv lv : Value) (w : World) : Prop := ∃ q : Nat, q ≤ n ∧ iv = .int .i64 q ∧ Hid (Row w 37 1 lv (inSet inn (xs.take q)).length (flts (inSet inn (xs.take q))) (New w0)) ∧ Hid (Ext w0 w)

set_option maxRecDepth 100000 in
set_option maxHeartbeats 20000000 in
theorem guess_any (gb : Nat) (S : List StatZ) (ls : List LitZ) (n : Nat) (inn : List Bool) (ia : Option Addr) (icap : Nat) (w : World) (hn : n = ls.length) (hf : Fit ls) (K : Known S ls) (hB : BodyAt w gb S ls) (hin : inn.length = n) (hI : CellsAt w ia (bools inn)) :
    Calls Try.prog 32 #[.pointer (some ⟨gb, 0, none⟩), .slice ia n icap] w (RetN w fun w' v => v = .float .f64 (guessW S ls inn)) := by
  obtain ⟨pa, pcap, na, ncap, gm, mm, ca, ccap, hR⟩ := hB.read
  have hl : n ≤ 1048576 := by have := hf.len; omega
  have HR := Lib.hid hR
  have HN := Lib.hid hn
  have HF := Lib.hid hf
  have HK := Lib.hid K
  have HI := Lib.hid (And.intro hin hI)
  have HPL := Lib.hid (show (ls.zip inn).length = n by rw [zip_len (by omega)]; omega)
  have HIL := Lib.hid (show inn.length = ls.length by omega)
  obtain ⟨m, em⟩ : ∃ m, m = (namesB ls).length := ⟨_, rfl⟩
  have hm1 : m ≤ 1099511627776 := by
    have h1 := namesB_len hf.terms
    have h2 := hf.len
    have h3 := Nat.mul_le_mul_right 1048576 h2
    omega
  have EM := Lib.hid em
  obtain ⟨cn, ecn⟩ : ∃ cn, cn = (constsP S 0 ls).length := ⟨_, rfl⟩
  have hcn : cn ≤ 1099511627776 := by rw [ecn]; exact consts_len0 hf
  have ECN := Lib.hid ecn
  have b0 : w.cell? ⟨gb, 0, none⟩ = some (.slice pa n pcap) := by rw [hR.blk.cell', hn]; rfl
  have b1 : w.cell? ⟨gb, 1, none⟩ = some (.slice na m ncap) := by rw [hR.blk.cell', em]; rfl
  have b2 : w.cell? ⟨gb, 2, none⟩ = some (.map (some gm)) := by rw [hR.blk.cell']; rfl
  have b3 : w.cell? ⟨gb, 3, none⟩ = some (.slice ca cn ccap) := by rw [hR.blk.cell', ecn]; rfl
  have HB := Lib.hid (And.intro b0 (And.intro b1 (And.intro b2 b3)))
  clear hB hR hn hin hI em ecn b1 b2 b3 hf K
  go_enter Try.func32, Try.ntmps32
  go_wp2
  clear b0
  go_loopw [25, 5] (fun iv sv wr => MulZ w S (ls.zip inn) n iv sv wr) (fun iv _ _ => n - (intOf iv).toNat)
  case atStart => exact ⟨0, _, Nat.zero_le _, rfl, rfl, ⟨rfl, by decide, fun j hj => by omega⟩, Kp.refl _⟩
  case round =>
    obtain ⟨i, x, hi, rfl, rfl, hx, hex⟩ := hrel
    by_cases hlt : i < n
    · obtain ⟨l, hli⟩ : ∃ l, ls[i]? = some l := ⟨_, List.getElem?_eq_getElem (by rw [← HN.out]; exact hlt)⟩
      obtain ⟨bi, ebi⟩ : ∃ bi, inn[i]? = some bi := ⟨_, List.getElem?_eq_getElem (by have := HI.out.1; omega)⟩
      obtain ⟨pg, poff, va, vcap, epa, p0, p1, p2, p3, _⟩ := HR.out.parts i l hli
      subst epa
      replace p0 := hex.out.cell p0 id
      replace p1 := hex.out.cell p1 id
      replace p2 := hex.out.cell p2 id
      replace p3 := hex.out.cell p3 id
      generalize shareP l = r2 at p2
      generalize (varsL l).length = vn at p3
      obtain ⟨ib, ioff, eia, d0⟩ := (HI.out.2.ext hex.out).bool ebi
      subst eia
      have HZ := Lib.hid (zip_at hli ebi)
      clear hli ebi
      by_cases h1 : l.1 = 1
      · have H1 := Lib.hid h1
        rw [decide_eq_true h1] at p0
        rw [rowsP_pos h1] at p1
        have hfin := HK.out.rowsFin l
        obtain ⟨y, ey⟩ : ∃ y, y = rowsW S l := ⟨_, rfl⟩
        rw [← ey] at p1 hfin
        have EY := Lib.hid ey
        have d1 : (wr.alloc (.cells #[.bool true, .float .f64 y, .float .f64 r2, .slice va vn vcap] 113)).cell? ⟨ib, ioff + i, none⟩ = some (.bool bi) := ((Kp.refl (F := fun _ => False) wr).alloc _).cell d0 id
        clear ey h1
        cases bi
        · clear hfin
          go_wp2
          go_roundw
          case rel => exact ⟨i + 1, _, by omega, by first | rfl | (congr 1; done) | (congr 1; omega), by first | rfl | trivial, Lib.hid ⟨by rw [mulTo_succ S HZ.out, mulRows_off (fun e => by cases e.1)]; exact hx.out.1, hx.out.2.1, none_succ (fun ⟨l', q, _⟩ => by rw [HZ.out] at q; cases q) hx.out.2.2⟩, hex.out.alloc _⟩
          case measure => simp [intOf]; omega
        · cases hz : zeroW y
          · have hq := eq_zero_run hfin hz
            have hpos := fin_lt hfin hz
            have hrun := fun t W => mul_run (s := x) hx.out.2.1 hpos.1 hpos.2 t W
            have HP := Lib.hid (And.intro hpos hz)
            clear hfin hz hpos
            go_wp2
            go_roundw
            case rel =>
              refine ⟨i + 1, _, by omega, by first | rfl | (congr 1; done) | (congr 1; omega), by first | rfl | trivial, Lib.hid ⟨?_, fmul_le hx.out.2.1 HP.out.1.1 HP.out.1.2, none_succ ?_ hx.out.2.2⟩, hex.out.alloc _⟩
              · rw [mulTo_succ S HZ.out, mulRows_on H1.out, ← hx.out.1, EY.out]
              · rintro ⟨l', q, _, r⟩
                rw [HZ.out] at q; cases q
                rw [← EY.out, HP.out.2] at r; cases r
            case measure => simp [intOf]; omega
          · have hq := eq_zero_run hfin hz
            have HP := Lib.hid hz
            clear hfin hz
            go_wp2
            go_ret
            exact RetN.mk (hex.out.alloc _) (congrArg (Value.float .f64) (guessW_zero HZ.out H1.out (by rw [← EY.out]; exact HP.out)).symm)
      · have H1 := Lib.hid h1
        rw [decide_eq_false h1] at p0
        generalize rowsP S l = r1 at p1
        have d1 : (wr.alloc (.cells #[.bool false, .float .f64 r1, .float .f64 r2, .slice va vn vcap] 113)).cell? ⟨ib, ioff + i, none⟩ = some (.bool bi) := ((Kp.refl (F := fun _ => False) wr).alloc _).cell d0 id
        clear h1
        cases bi
        · go_wp2
          go_roundw
          case rel => exact ⟨i + 1, _, by omega, by first | rfl | (congr 1; done) | (congr 1; omega), by first | rfl | trivial, Lib.hid ⟨by rw [mulTo_succ S HZ.out, mulRows_off (fun e => H1.out e.2)]; exact hx.out.1, hx.out.2.1, none_succ (fun ⟨l', q, r, _⟩ => by rw [HZ.out] at q; cases q) hx.out.2.2⟩, hex.out.alloc _⟩
          case measure => simp [intOf]; omega
        · go_wp2
          go_roundw
          case rel => exact ⟨i + 1, _, by omega, by first | rfl | (congr 1; done) | (congr 1; omega), by first | rfl | trivial, Lib.hid ⟨by rw [mulTo_succ S HZ.out, mulRows_off (fun e => H1.out e.2)]; exact hx.out.1, hx.out.2.1, none_succ (fun ⟨l', q, r, _⟩ => by rw [HZ.out] at q; cases q; exact H1.out r) hx.out.2.2⟩, hex.out.alloc _⟩
          case measure => simp [intOf]; omega
    · obtain rfl : i = n := by omega
      have hz0 : zeroIn S (ls.zip inn) = false := zeroIn_no (n := i) (by have := HPL.out; omega) hx.out.2.2
      have HZ0 := Lib.hid hz0
      have HX1 := Lib.hid (And.intro hx.out.1 hx.out.2.1)
      have b1 := hex.out.cell HB.out.2.1 id
      clear hz0 hx
      go_wp2
      clear b1
      go_loopw [53, 5] (fun iv sv wr => FoldTo w (sharTo S (ls.zip inn) (namesB ls) x) m iv sv wr) (fun iv _ _ => m - (intOf iv).toNat)
      case atStart => exact ⟨0, _, Nat.zero_le _, rfl, rfl, rfl, hex⟩
      case round =>
        obtain ⟨j, y, hj, rfl, rfl, hy, hexj⟩ := hrel
        by_cases hlt : j < m
        · have hltv : j < (namesB ls).length := by rw [← EM.out]; exact hlt
          obtain ⟨vb, voff, eao, v0⟩ := (HR.out.names.ext hexj.out).str hltv
          subst eao
          have hvj : (namesB ls)[j]? = some (namesB ls)[j] := List.getElem?_eq_getElem hltv
          generalize (namesB ls)[j] = v at *
          have HV := Lib.hid hvj
          have b2 := hexj.out.cell HB.out.2.2.1 id
          obtain ⟨ua, ucap, eu, hsp⟩ := HR.out.spots v
          have hlk := run_lookup_str (P := Try.prog) (w := wr) Try.underlying88 Try.underlying9 (z := .slice none 0 0) (by kernel_rfl) (HR.out.map.ext hexj.out) v
          rw [eu] at hlk
          obtain ⟨xs, exs⟩ : ∃ xs, xs = spotsP S v 0 ls := ⟨_, rfl⟩
          rw [← exs] at hlk hsp
          obtain ⟨un, eun⟩ : ∃ un, un = xs.length := ⟨_, rfl⟩
          rw [← eun] at hlk
          have hun : un ≤ 1099511627776 := by rw [eun, exs]; exact spots_len0 HF.out
          have HXS := Lib.hid (And.intro exs (And.intro eun hsp))
          have HLt := Lib.hid (show ∀ z ∈ xs, z.1 < ls.length ∧ oneW ≤ z.2 ∧ z.2 < infW by rw [exs]; intro z hz; have := spotsP_lt S v ls 0 z hz; simpa using this)
          clear hvj hltv eu hsp exs eun
          go_wp2
          clear b2 v0 hlk
          go_loopw [64, 10] (fun iv lv wr => SelTo w inn xs un iv lv wr) (fun iv _ _ => un - (intOf iv).toNat)
          case atStart => exact ⟨0, Nat.zero_le _, rfl, Row.nil _ _ _ _, hexj⟩
          case round =>
            obtain ⟨q, hq, rfl, hrow, hexq⟩ := hrel
            by_cases hlt2 : q < un
            · obtain ⟨z, hz⟩ : ∃ z, xs[q]? = some z := ⟨_, List.getElem?_eq_getElem (by rw [← HXS.out.2.1]; exact hlt2)⟩
              obtain ⟨sg, soff, eua, s0, s1⟩ := (HXS.out.2.2.ext hexq.out) q z hz
              subst eua
              obtain ⟨hz1, hz2, hz3⟩ := HLt.out z (List.mem_of_getElem? hz)
              have hStep := inSet_take (inn := inn) hz
              obtain ⟨zi, zd⟩ := z
              simp only at s0 s1 hz1 hz2 hz3 hStep
              obtain ⟨bi, ebi⟩ : ∃ bi, inn[zi]? = some bi := ⟨_, List.getElem?_eq_getElem (by rw [HIL.out]; exact hz1)⟩
              obtain ⟨ib, ioff, eia, d0⟩ := (HI.out.2.ext hexq.out).bool ebi
              subst eia
              have hzn : zi < i := by rw [HN.out]; exact hz1
              have d1 : (wr.alloc (.cells #[.int .i64 zi, .float .f64 zd] 117)).cell? ⟨ib, ioff + zi, none⟩ = some (.bool bi) := ((Kp.refl (F := fun _ => False) wr).alloc _).cell d0 id
              rw [ebi] at hStep
              have HSt := Lib.hid hStep
              have hlen := inSet_len inn (xs.take q)
              rw [List.length_take] at hlen
              generalize inSet inn (xs.take q) = M at *
              clear hz hStep ebi hz1 hz2 hz3
              cases bi
              · have HS2 := Lib.hid (HSt.out.trans (by rw [if_neg (by simp), List.append_nil]))
                go_wp2
                go_roundw
                case rel => exact ⟨q + 1, by omega, by first | rfl | (congr 1; done) | (congr 1; omega), by rw [HS2.out]; exact hrow.out.alloc _, hexq.out.alloc _⟩
                case measure => simp [intOf]; omega
              · have HS2 := Lib.hid (HSt.out.trans (by rw [if_pos rfl]))
                have HR2 := Lib.hid hrow.out
                obtain ⟨aw, capw, elv, hcw, hlw⟩ := hrow.out.shape
                subst elv
                clear hrow hcw hlw
                go_wp2_with (first | (at_builtin; refine Halted.out ?_))
                refine Halted.mk (wp_appN (m := 1) (n := M.length) elem_flt rfl _ _ rfl ((hexq.out.alloc _).alloc _) rfl ((HR2.out.alloc _).alloc _) rfl (by have h := CellsAt.one (wr.alloc (.cells #[.int .i64 zi, .float .f64 zd] 117)) (.float .f64 zd) 37; rw [alloc_size] at h; exact h) (by rfl) (by simp [Value.oneCell']) (by omega) (by unfold maxLen; omega) ?_)
                intro v1 w3 hr1 hk1 hk2 _
                have HR5 := Lib.hid (And.intro hr1 hk1)
                clear hr1 hk1 hk2 s0 s1 d0 d1
                go_wp2
                go_roundw
                case rel =>
                  refine ⟨q + 1, by omega, by first | rfl | (congr 1; done) | (congr 1; omega), ?_, HR5.out.2⟩
                  have h := HR5.out.1
                  rw [HS2.out, ← flts_snoc, List.length_append]
                  exact h
                case measure => simp [intOf]; omega
            · have hall : xs.take q = xs := List.take_of_length_le (by have := HXS.out.2.1; omega)
              have hrow3 := hrow.out
              rw [hall] at hrow3
              have hL : inSet inn xs = spotsIn S (ls.zip inn) v := by rw [HXS.out.1]; exact spots_in0 S v HIL.out
              rw [hL] at hrow3
              have HOk := Lib.hid (spotsIn_ok S v (ls.zip inn))
              have HSuc := Lib.hid (show sharTo S (ls.zip inn) (namesB ls) x (j + 1) = sharedW (spotsIn S (ls.zip inn) v) y by rw [sharTo_succ S _ HV.out, hy.out])
              have hyle : y ≤ infW := by rw [hy.out]; exact sharTo_le _ _ _ HX1.out.2 j
              have hlen : (spotsIn S (ls.zip inn) v).length ≤ 1099511627776 := by
                rw [← hL]; have := inSet_len inn xs; have := HXS.out.2.1; omega
              obtain ⟨L, eL⟩ : ∃ L, L = spotsIn S (ls.zip inn) v := ⟨_, rfl⟩
              rw [← eL] at hrow3 hlen HOk HSuc
              obtain ⟨k, ek⟩ : ∃ k, k = L.length := ⟨_, rfl⟩
              rw [← ek] at hrow3 hlen
              obtain ⟨ao, cap4, eov, hcells, hle⟩ := hrow3.shape
              subst eov
              have HC := Lib.hid (And.intro ek hcells)
              have HYL := Lib.hid hyle
              clear hall hrow hrow3 hcells hle ek eL hL hyle
              by_cases hk2 : k < 2
              · have HSh := Lib.hid (sharedW_short (l := L) (by have := HC.out.1; omega) y)
                go_wp2
                go_roundw
                case rel => exact ⟨j + 1, _, by omega, by first | rfl | (congr 1; done) | (congr 1; omega), by first | rfl | trivial, Lib.hid (by rw [HSuc.out, HSh.out]), hexq⟩
                case measure => simp [intOf]; omega
              · have hk2' : ¬ (k : Int) < 2 := by omega
                have HMin := Lib.hid (fun (W : World) (hW : Ext wr W) => minF_any L ao k cap4 W HC.out.1 (HC.out.2.ext hW) (fun z hz => by have := HOk.out z hz; omega) (by omega) (by omega))
                have HIdx := Lib.hid (fun (W : World) (hW : Ext wr W) => indexLeast_any L ao k cap4 W HC.out.1 (HC.out.2.ext hW) (fun z hz => by have := HOk.out z hz; omega) (by omega) (by omega))
                generalize hw5 : wr = w5 at *
                clear hw5
                go_wp2_with fail
                refine (HMin.out _ (Kp.refl _)).mono ?_
                rintro e w6 ⟨_, rfl, hk6, rfl⟩
                go_wp2_with fail
                refine (HIdx.out _ hk6).mono ?_
                rintro e w7 ⟨_, rfl, hk7, rfl⟩
                have X7 := Lib.hid (hk6.trans hk7)
                clear hk6 hk7
                go_wp2
                go_loopw [88, 5] (fun iv sv wx => DivTo w5 (leastI L) L y k iv sv wx) (fun iv _ _ => k - (intOf iv).toNat)
                case atStart => exact ⟨0, y, Nat.zero_le _, rfl, rfl, rfl, X7⟩
                case round =>
                  obtain ⟨c, s, hc, rfl, rfl, hs, hexc⟩ := hrel
                  by_cases hlt3 : c < k
                  · have hsuc : divAll (leastI L) L y (c + 1) = if c = leastI L then s else fdiv s (L.getD c 0) := by rw [hs.out]; rfl
                    obtain ⟨g1, o1, eao, d1⟩ := (HC.out.2.ext hexc.out).flt (k := c) (by rw [← HC.out.1]; exact hlt3)
                    subst eao
                    have x1 := HOk.out _ (List.getElem_mem (by rw [← HC.out.1]; exact hlt3 : c < L.length))
                    have y1 : L.getD c 0 = L[c]'(by rw [← HC.out.1]; exact hlt3) := getD_at _
                    rw [← y1] at x1 d1
                    by_cases hqk : c = leastI L
                    · rw [if_pos hqk] at hsuc
                      have HS3 := Lib.hid hsuc
                      generalize L.getD c 0 = z1 at *
                      have q1 : ((c : Int) != (leastI L : Int)) = false := by simp [hqk]
                      have q2 : ((c : Int) == (leastI L : Int)) = true := by simp [hqk]
                      have HQ := Lib.hid hqk
                      clear hqk hsuc y1 x1
                      go_wp2
                      go_roundw
                      case rel => exact ⟨c + 1, s, by omega, by first | rfl | (congr 1; done) | (congr 1; omega), by first | rfl | trivial, HS3.out.symm, hexc⟩
                      case measure => simp [intOf]; omega
                    · rw [if_neg hqk] at hsuc
                      have xle : s ≤ infW := by rw [hs.out]; exact divAll_le HOk.out _ HYL.out c (by have := HC.out.1; omega)
                      have HS3 := Lib.hid hsuc
                      clear hsuc y1
                      generalize L.getD c 0 = z1 at *
                      have q1 : ((c : Int) != (leastI L : Int)) = true := by simp; omega
                      have q2 : ((c : Int) == (leastI L : Int)) = false := by simp; omega
                      have hrun := fun t W => div_run xle x1.1 x1.2 t W
                      have HQ := Lib.hid hqk
                      clear x1 xle hqk
                      go_wp2
                      go_roundw
                      case rel => exact ⟨c + 1, _, by omega, by first | rfl | (congr 1; done) | (congr 1; omega), by first | rfl | trivial, HS3.out.symm, hexc⟩
                      case measure => simp [intOf]; omega
                  · have HS3 := Lib.hid (show s = sharedW L y by rw [hs.out]; unfold sharedW; congr 1; have := HC.out.1; omega)
                    clear hs
                    go_wp2
                    go_roundw
                    case rel => exact ⟨j + 1, _, by omega, by first | rfl | (congr 1; done) | (congr 1; omega), by first | rfl | trivial, Lib.hid (by rw [HSuc.out, HS3.out]), hexq.out.trans hexc.out⟩
                    case measure => simp [intOf]; omega
        · obtain rfl : j = m := by omega
          obtain ⟨X2, eX2⟩ : ∃ X2, X2 = sharTo S (ls.zip inn) (namesB ls) x j := ⟨_, rfl⟩
          have hX2 : X2 ≤ infW := by rw [eX2]; exact sharTo_le _ _ _ HX1.out.2 j
          obtain rfl : y = X2 := by rw [hy.out, eX2]
          have HX2 := Lib.hid (And.intro eX2 hX2)
          have b3 := hexj.out.cell HB.out.2.2.2 id
          have HCL := Lib.hid (show ∀ z ∈ constsP S 0 ls, z.1 < ls.length ∧ oneW ≤ z.2 ∧ z.2 < infW by intro z hz; have := constsP_lt S ls 0 z hz; simpa using this)
          have HCS := Lib.hid HR.out.consts
          have HCI := Lib.hid (consts_in0 S HIL.out)
          generalize hcs : constsP S 0 ls = cs at *
          clear eX2 hX2 hy hcs
          go_wp2
          clear b3
          go_loopw [106, 5] (fun iv sv wr => FoldTo w (fun q => (inSet inn (cs.take q)).foldl fdiv y) cn iv sv wr) (fun iv _ _ => cn - (intOf iv).toNat)
          case atStart => exact ⟨0, _, Nat.zero_le _, rfl, rfl, rfl, hexj⟩
          case round =>
            obtain ⟨q, t, hq, rfl, rfl, ht, hexq⟩ := hrel
            by_cases hlt2 : q < cn
            · obtain ⟨z, hz⟩ : ∃ z, cs[q]? = some z := ⟨_, List.getElem?_eq_getElem (by rw [← ECN.out]; exact hlt2)⟩
              obtain ⟨sg, soff, eua, s0, s1⟩ := (HCS.out.ext hexq.out) q z hz
              subst eua
              obtain ⟨hz1, hz2, hz3⟩ := HCL.out z (List.mem_of_getElem? hz)
              have hStep := inSet_take (inn := inn) hz
              have htle : t ≤ infW := by
                rw [ht.out]
                exact foldl_div_le HX2.out.2 _ (inSet_ok fun u hu => (HCL.out u (List.mem_of_mem_take hu)).2)
              obtain ⟨zi, zd⟩ := z
              simp only at s0 s1 hz1 hz2 hz3 hStep
              obtain ⟨bi, ebi⟩ : ∃ bi, inn[zi]? = some bi := ⟨_, List.getElem?_eq_getElem (by rw [HIL.out]; exact hz1)⟩
              obtain ⟨ib, ioff, eia, d0⟩ := (HI.out.2.ext hexq.out).bool ebi
              subst eia
              have hzn : zi < i := by rw [HN.out]; exact hz1
              have d1 : (wr.alloc (.cells #[.int .i64 zi, .float .f64 zd] 117)).cell? ⟨ib, ioff + zi, none⟩ = some (.bool bi) := ((Kp.refl (F := fun _ => False) wr).alloc _).cell d0 id
              rw [ebi] at hStep
              have HSt := Lib.hid hStep
              have hrun := fun tt W => div_run htle hz2 hz3 tt W
              clear hz hStep ebi hz1 hz2 hz3 htle
              cases bi
              · have HS2 := Lib.hid (HSt.out.trans (by rw [if_neg (by simp), List.append_nil]))
                clear hrun
                go_wp2
                go_roundw
                case rel => exact ⟨q + 1, _, by omega, by first | rfl | (congr 1; done) | (congr 1; omega), by first | rfl | trivial, Lib.hid (by simp only; rw [HS2.out]; exact ht.out), hexq.out.alloc _⟩
                case measure => simp [intOf]; omega
              · have HS2 := Lib.hid (HSt.out.trans (by rw [if_pos rfl]))
                go_wp2
                go_roundw
                case rel => exact ⟨q + 1, _, by omega, by first | rfl | (congr 1; done) | (congr 1; omega), by first | rfl | trivial, Lib.hid (by simp only; rw [HS2.out, List.foldl_append]; exact congrArg (fun u => fdiv u zd) ht.out), hexq.out.alloc _⟩
                case measure => simp [intOf]; omega
            · have hall : cs.take q = cs := List.take_of_length_le (by have := ECN.out; omega)
              have ht2 : t = constTo S (ls.zip inn) y i := by
                rw [ht.out]
                unfold constTo
                simp only
                rw [hall, HCI.out, List.take_of_length_le (Nat.le_of_eq HPL.out)]
              have HT2 := Lib.hid (And.intro ht2 (show t ≤ infW by rw [ht2]; exact constTo_le _ _ HX2.out.2 _))
              have b0 := hexq.out.cell HB.out.1 id
              clear ht ht2 hall
              go_wp2
              clear b0
              go_loopw [125, 5] (fun iv sv wr => FoldTo w (shareTo (ls.zip inn) t) i iv sv wr) (fun iv _ _ => i - (intOf iv).toNat)
              case atStart => exact ⟨0, _, Nat.zero_le _, rfl, rfl, rfl, hexq⟩
              case round =>
                obtain ⟨d, s, hd, rfl, rfl, hs, hexd⟩ := hrel
                by_cases hlt3 : d < i
                · obtain ⟨l, hli⟩ : ∃ l, ls[d]? = some l := ⟨_, List.getElem?_eq_getElem (by rw [← HN.out]; exact hlt3)⟩
                  obtain ⟨bi, ebi⟩ : ∃ bi, inn[d]? = some bi := ⟨_, List.getElem?_eq_getElem (by have := HI.out.1; omega)⟩
                  obtain ⟨pg, poff, va, vcap, epa, p0, p1, p2, p3, _⟩ := HR.out.parts d l hli
                  subst epa
                  replace p0 := hexd.out.cell p0 id
                  replace p1 := hexd.out.cell p1 id
                  replace p2 := hexd.out.cell p2 id
                  replace p3 := hexd.out.cell p3 id
                  generalize rowsP S l = r1 at p1
                  generalize (varsL l).length = vn at p3
                  obtain ⟨ib, ioff, eia, d0⟩ := (HI.out.2.ext hexd.out).bool ebi
                  subst eia
                  have HZ := Lib.hid (zip_at hli ebi)
                  have hsle : s ≤ infW := by rw [hs.out]; exact shareTo_le _ HT2.out.2 d
                  clear hli ebi
                  by_cases h1 : l.1 = 1
                  · have H1 := Lib.hid h1
                    rw [decide_eq_true h1] at p0
                    generalize shareP l = r2 at p2
                    have d1 : (wr.alloc (.cells #[.bool true, .float .f64 r1, .float .f64 r2, .slice va vn vcap] 113)).cell? ⟨ib, ioff + d, none⟩ = some (.bool bi) := ((Kp.refl (F := fun _ => False) wr).alloc _).cell d0 id
                    have HS2 := Lib.hid (mulShare_off (s := s) (p := (l, bi)) (fun e => e.2 h1))
                    clear h1 hsle
                    cases bi
                    · go_wp2
                      go_roundw
                      case rel => exact ⟨d + 1, _, by omega, by first | rfl | (congr 1; done) | (congr 1; omega), by first | rfl | trivial, Lib.hid (by rw [shareTo_succ HZ.out, ← hs.out, HS2.out]), hexd.out.alloc _⟩
                      case measure => simp [intOf]; omega
                    · go_wp2
                      go_roundw
                      case rel => exact ⟨d + 1, _, by omega, by first | rfl | (congr 1; done) | (congr 1; omega), by first | rfl | trivial, Lib.hid (by rw [shareTo_succ HZ.out, ← hs.out, HS2.out]), hexd.out.alloc _⟩
                      case measure => simp [intOf]; omega
                  · have H1 := Lib.hid h1
                    rw [decide_eq_false h1] at p0
                    rw [shareP_no h1] at p2
                    have hrun := fun tt W => mul_run hsle (shareW_pos l).1 (shareW_pos l).2 tt W
                    obtain ⟨r2, er2⟩ : ∃ r2, r2 = shareW l := ⟨_, rfl⟩
                    rw [← er2] at p2 hrun
                    have HE2 := Lib.hid er2
                    have d1 : (wr.alloc (.cells #[.bool false, .float .f64 r1, .float .f64 r2, .slice va vn vcap] 113)).cell? ⟨ib, ioff + d, none⟩ = some (.bool bi) := ((Kp.refl (F := fun _ => False) wr).alloc _).cell d0 id
                    clear h1 hsle er2
                    cases bi
                    · clear hrun
                      go_wp2
                      go_roundw
                      case rel => exact ⟨d + 1, _, by omega, by first | rfl | (congr 1; done) | (congr 1; omega), by first | rfl | trivial, Lib.hid (by rw [shareTo_succ HZ.out, ← hs.out, mulShare_off (fun e => by cases e.1)]), hexd.out.alloc _⟩
                      case measure => simp [intOf]; omega
                    · go_wp2
                      go_roundw
                      case rel => exact ⟨d + 1, _, by omega, by first | rfl | (congr 1; done) | (congr 1; omega), by first | rfl | trivial, Lib.hid (by rw [shareTo_succ HZ.out, ← hs.out, mulShare_on H1.out, HE2.out]), hexd.out.alloc _⟩
                      case measure => simp [intOf]; omega
                · obtain rfl : d = i := by omega
                  have hfin : s = guessW S ls inn := by
                    rw [hs.out, HT2.out.1, HX2.out.1, HX1.out.1, guessW_eq HZ0.out (Nat.le_of_eq HPL.out) (Nat.le_of_eq EM.out.symm)]
                  have HFin := Lib.hid hfin
                  clear hfin hs
                  go_wp2
                  go_ret
                  exact RetN.mk hexd.out (congrArg (Value.float .f64) HFin.out)
end Go.Proofs.Ytcphalpcdcddpaa
