/- Texts joined for a claim (BodyOf, Cost). -/
import Derived.Test.YtomeebimmmfmbaaGreatOw3
/- cost: bodyOf. -/
namespace Go.Proofs.YtomeebimmmfmbaaGreat
open Go.RowKit
set_option linter.unusedVariables false
attribute [local go_sem] run_store_float
def BodyTo (w0 : World) (gb gm : Nat) (nv : Value) (S : List StatZ) (ls : List LitZ) (n : Nat) (iv : Value) (w : World) : Prop := ∃ i : Nat, i ≤ n ∧ iv = .int .i64 i ∧ Hid (∃ col pv cv m, BodyIn w0 w gb gm nv col S (ls.take i) (fun v => spotsP S v 0 (ls.take i)) (constsP S 0 (ls.take i)) pv cv m)
theorem take_snoc {α : Type} {l : List α} {i : Nat} {x : α} (h : l[i]? = some x) : l.take (i + 1) = l.take i ++ [x] := by rw [List.take_add_one, h]; rfl
theorem spotsP_off {S : List StatZ} {v : ByteArray} {ls : List LitZ} {i : Nat} {l : LitZ} (h : ls[i]? = some l) (h1 : l.1 ≠ 1) : spotsP S v 0 (ls.take (i + 1)) = spotsP S v 0 (ls.take i) := by
  rw [spotsP_take S v h]; unfold spotsOne; rw [if_neg h1, List.append_nil]
theorem constsP_off {S : List StatZ} {ls : List LitZ} {i : Nat} {l : LitZ} (h : ls[i]? = some l) (h1 : l.1 ≠ 1) : constsP S 0 (ls.take (i + 1)) = constsP S 0 (ls.take i) := by
  rw [constsP_take S h]; unfold constsOne; rw [if_neg h1, List.append_nil]
theorem BodyIn.pshape {w0 w : World} {gb gm : Nat} {nv : Value} {col : Nat → Option ByteArray} {S : List StatZ} {pl : List LitZ} {sp : ByteArray → List (Nat × Nat)} {cn : List (Nat × Nat)} {pv cv : Value} {m : List (ByteArray × Value)} (h : BodyIn w0 w gb gm nv col S pl sp cn pv cv m) : ∃ pa pcap, pv = .slice pa pl.length pcap := by
  obtain ⟨vs, _, h7, _⟩ := h.parts
  obtain ⟨pa, pcap, e, _⟩ := h7.shape
  exact ⟨pa, pcap, e⟩
theorem BodyIn.pshape2 {w0 w : World} {gb gm : Nat} {nv : Value} {col : Nat → Option ByteArray} {S : List StatZ} {pl : List LitZ} {sp : ByteArray → List (Nat × Nat)} {cn : List (Nat × Nat)} {pv cv : Value} {m : List (ByteArray × Value)} (h : BodyIn w0 w gb gm nv col S pl sp cn pv cv m) : ∃ pa n pcap, pv = .slice pa n pcap := by
  obtain ⟨pa, pcap, e⟩ := h.pshape
  exact ⟨pa, _, pcap, e⟩
theorem BodyIn.cshape {w0 w : World} {gb gm : Nat} {nv : Value} {col : Nat → Option ByteArray} {S : List StatZ} {pl : List LitZ} {sp : ByteArray → List (Nat × Nat)} {cn : List (Nat × Nat)} {pv cv : Value} {m : List (ByteArray × Value)} (h : BodyIn w0 w gb gm nv col S pl sp cn pv cv m) : ∃ pa n pcap, cv = .slice pa n pcap := by
  obtain ⟨pa, pcap, e, _⟩ := h.consts.shape
  exact ⟨pa, _, pcap, e⟩
theorem checkR_parts {r : RuleZ} (h : checkR r = 0) : r.2.1.all litOk = true := by
  unfold checkR at h
  split at h
  · rename_i hp
    unfold parted at hp
    rw [Bool.and_eq_true] at hp
    exact hp.2
  · cases h
theorem max_one_run {y : Nat} (h : finW y = true) (at_ : Array TypeId) (ty : TypeId) (W : World) : (Builtin.max_ at_ ty #[.float .f64 4607182418800017408, .float .f64 y]).run Tryz.prog W = .ok (.float .f64 (atLeast y)) W := by
  obtain ⟨o, ho, he⟩ := one_order h
  have ho' : (FloatKind.format .f64).order 4607182418800017408 y = some o := ho
  rw [← he]
  cases o <;> simp [Builtin.max_, Builtin.max2, ho'] <;> rfl
def TermTo (w0 : World) (gb gm : Nat) (nv : Value) (S : List StatZ) (ls : List LitZ) (i : Nat) (l : LitZ) (gt : Nat) (tv : List Value) (gd : Nat) (dv : List Value) (n : Nat) (iv : Value) (w : World) : Prop := ∃ c : Nat, c ≤ n ∧ iv = .int .i64 c ∧ Hid (∃ col pv cv m, BodyIn w0 w gb gm nv col S (ls.take i ++ [l]) (fun v => spotsP S v 0 (ls.take i) ++ spotsCol S v l i c) (constsP S 0 (ls.take i) ++ constsCol S l i c) pv cv m) ∧ Hid (Blk w gt tv 48) ∧ Hid (Blk w gd dv 45)
theorem spotsOne_len (S : List StatZ) (v : ByteArray) (l : LitZ) (i : Nat) : (spotsOne S v l i).length ≤ (termsOf l).length := by
  unfold spotsOne; split
  · rw [List.length_map]; exact Nat.le_trans (List.length_filterMap_le _ _) (Nat.le_of_eq (cols_len S l))
  · simp
theorem constsOne_len (S : List StatZ) (l : LitZ) (i : Nat) : (constsOne S l i).length ≤ (termsOf l).length := by
  unfold constsOne; split
  · rw [List.length_map]; exact Nat.le_trans (List.length_filterMap_le _ _) (Nat.le_of_eq (cols_len S l))
  · simp
theorem spotsP_len (S : List StatZ) (v : ByteArray) (M : Nat) : ∀ (ls : List LitZ) (i : Nat), (∀ l ∈ ls, (termsOf l).length ≤ M) → (spotsP S v i ls).length ≤ ls.length * M
  | [], i, _ => by simp [spotsP]
  | l :: ls, i, h => by
    have h1 := spotsP_len S v M ls (i + 1) fun x hx => h x (List.mem_cons_of_mem _ hx)
    have h2 := spotsOne_len S v l i
    have h3 := h l List.mem_cons_self
    rw [spotsP, List.length_append, List.length_cons, Nat.succ_mul]; omega
theorem constsP_len (S : List StatZ) (M : Nat) : ∀ (ls : List LitZ) (i : Nat), (∀ l ∈ ls, (termsOf l).length ≤ M) → (constsP S i ls).length ≤ ls.length * M
  | [], i, _ => by simp [constsP]
  | l :: ls, i, h => by
    have h1 := constsP_len S M ls (i + 1) fun x hx => h x (List.mem_cons_of_mem _ hx)
    have h2 := constsOne_len S l i
    have h3 := h l List.mem_cons_self
    rw [constsP, List.length_append, List.length_cons, Nat.succ_mul]; omega
theorem spotsCol_len (S : List StatZ) (v : ByteArray) (l : LitZ) (i c : Nat) : (spotsCol S v l i c).length ≤ c := by
  unfold spotsCol
  rw [List.length_map]
  refine Nat.le_trans (List.length_filterMap_le _ _) ?_
  rw [List.length_take]; omega
theorem constsCol_len (S : List StatZ) (l : LitZ) (i c : Nat) : (constsCol S l i c).length ≤ c := by
  unfold constsCol
  rw [List.length_map]
  refine Nat.le_trans (List.length_filterMap_le _ _) ?_
  rw [List.length_take]; omega
theorem spots_len_all {S : List StatZ} {v : ByteArray} {ls : List LitZ} {l : LitZ} (hf : Fit ls) {i c k : Nat} (h : (ls.take i).length ≤ k) (hk : k ≤ 1048576) (hc : c ≤ 1048576) : (spotsP S v 0 (ls.take i) ++ spotsCol S v l i c).length ≤ 1099513724928 := by
  have h1 := spotsP_len S v 1048576 (ls.take i) 0 fun x hx => hf.terms x (List.mem_of_mem_take hx)
  have h2 := spotsCol_len S v l i c
  have h3 := Nat.mul_le_mul_right 1048576 (Nat.le_trans h hk)
  rw [List.length_append]; omega
theorem consts_len_all {S : List StatZ} {ls : List LitZ} {l : LitZ} (hf : Fit ls) {i c k : Nat} (h : (ls.take i).length ≤ k) (hk : k ≤ 1048576) (hc : c ≤ 1048576) : (constsP S 0 (ls.take i) ++ constsCol S l i c).length ≤ 1099513724928 := by
  have h1 := constsP_len S 1048576 (ls.take i) 0 fun x hx => hf.terms x (List.mem_of_mem_take hx)
  have h2 := constsCol_len S l i c
  have h3 := Nat.mul_le_mul_right 1048576 (Nat.le_trans h hk)
  rw [List.length_append]; omega
section
variable {w0 w : World} {gb gm : Nat} {nv : Value} {col : Nat → Option ByteArray} {S : List StatZ} {ls : List LitZ} {i c : Nat} {l : LitZ} {t : TermZ} {pv cv : Value} {m : List (ByteArray × Value)} {D : Nat}
theorem BodyIn.alter {pl : List LitZ} {sp sp' : ByteArray → List (Nat × Nat)} {cn cn' : List (Nat × Nat)} (h : BodyIn w0 w gb gm nv col S pl sp cn pv cv m) (h1 : ∀ u, sp u = sp' u) (h2 : cn = cn') : BodyIn w0 w gb gm nv col S pl sp' cn' pv cv m := by
  have e : sp = sp' := funext h1
  rw [← e, ← h2]; exact h
theorem term_any (h : BodyIn w0 w gb gm nv col S (ls.take i ++ [l]) (fun v => spotsP S v 0 (ls.take i) ++ spotsCol S v l i c) (constsP S 0 (ls.take i) ++ constsCol S l i c) pv cv m) (ht : (termsOf l)[c]? = some t) (h1 : ¬ t.1 = 1) (h3 : ¬ t.1 = 3) :
    BodyIn w0 w gb gm nv col S (ls.take i ++ [l]) (fun v => spotsP S v 0 (ls.take i) ++ spotsCol S v l i (c + 1)) (constsP S 0 (ls.take i) ++ constsCol S l i (c + 1)) pv cv m :=
  h.alter (fun u => by rw [spotsCol_succ S u i ht, if_neg (fun e => h1 e.1), List.append_nil]) (by rw [constsCol_succ S i ht, if_neg h3, List.append_nil])
theorem term_var {s : ByteArray} (h : BodyIn w0 w gb gm nv col S (ls.take i ++ [l]) (fun u => if u = s then (spotsP S s 0 (ls.take i) ++ spotsCol S s l i c) ++ [(i, D)] else spotsP S u 0 (ls.take i) ++ spotsCol S u l i c) (constsP S 0 (ls.take i) ++ constsCol S l i c) pv cv m) (ht : (termsOf l)[c]? = some (1, s, ())) (hD : D = distW S l c) :
    BodyIn w0 w gb gm nv col S (ls.take i ++ [l]) (fun v => spotsP S v 0 (ls.take i) ++ spotsCol S v l i (c + 1)) (constsP S 0 (ls.take i) ++ constsCol S l i (c + 1)) pv cv m :=
  h.alter (fun u => by
    rw [spotsCol_succ S u i ht]
    by_cases hu : u = s
    · rw [if_pos hu, if_pos ⟨rfl, hu.symm⟩, hu, hD, List.append_assoc]
    · rw [if_neg hu, if_neg (fun e => hu e.2.symm), List.append_nil]) (by rw [constsCol_succ S i ht, if_neg (show ¬ (1 : Int) = 3 by decide), List.append_nil])
theorem term_const {s : ByteArray} (h : BodyIn w0 w gb gm nv col S (ls.take i ++ [l]) (fun v => spotsP S v 0 (ls.take i) ++ spotsCol S v l i c) ((constsP S 0 (ls.take i) ++ constsCol S l i c) ++ [(i, D)]) pv cv m) (ht : (termsOf l)[c]? = some (3, s, ())) (hD : D = distW S l c) :
    BodyIn w0 w gb gm nv col S (ls.take i ++ [l]) (fun v => spotsP S v 0 (ls.take i) ++ spotsCol S v l i (c + 1)) (constsP S 0 (ls.take i) ++ constsCol S l i (c + 1)) pv cv m :=
  h.alter (fun u => by rw [spotsCol_succ S u i ht, if_neg (fun e => absurd (show (3 : Int) = 1 from e.1) (by decide)), List.append_nil]) (by rw [constsCol_succ S i ht, if_pos rfl, hD, List.append_assoc])
theorem term_end (h : BodyIn w0 w gb gm nv col S (ls.take i ++ [l]) (fun v => spotsP S v 0 (ls.take i) ++ spotsCol S v l i c) (constsP S 0 (ls.take i) ++ constsCol S l i c) pv cv m) (hli : ls[i]? = some l) (h1 : l.1 = 1) (hc : (termsOf l).length ≤ c) :
    BodyIn w0 w gb gm nv col S (ls.take (i + 1)) (fun v => spotsP S v 0 (ls.take (i + 1))) (constsP S 0 (ls.take (i + 1))) pv cv m := by
  have h2 := h.alter (sp' := fun v => spotsP S v 0 (ls.take (i + 1))) (cn' := constsP S 0 (ls.take (i + 1))) (fun u => by rw [spotsCol_all S u i hc h1, spotsP_take S u hli]) (by rw [constsCol_all S i hc h1, constsP_take S hli])
  rw [take_snoc hli] at h2 ⊢
  exact h2
end
theorem varsL_one {l : LitZ} (h : l.1 = 1) : varsL l = varsT (termsOf l) := if_pos h
theorem varsL_two {l : LitZ} (h : l.1 = 2) : varsL l = varsT (termsOf l) := by unfold varsL asks; rw [if_neg (by omega), if_pos h]
theorem varsL_cmp {l : LitZ} (h1 : l.1 ≠ 1) (h2 : l.1 ≠ 2) : varsL l = varsT [leftOf l, rightOf l] := by unfold varsL asks; rw [if_neg h1, if_neg h2]
theorem part_cells (w : World) (S : List StatZ) (l : LitZ) (x : Option Addr × Nat) {b : Bool} {r s : Nat} {n : Nat} (hb : b = decide (l.1 = 1)) (hr : r = rowsP S l) (hs : s = shareP l) (hn : n = (varsL l).length) (e : TypeId) :
    CellsAt (w.alloc (.cells #[.bool b, .float .f64 r, .float .f64 s, .slice x.1 n x.2] e)) (some ⟨w.heap.size, 0, none⟩) (partC S (l, x)) := by
  have h := Blk.new w [.bool b, .float .f64 r, .float .f64 s, .slice x.1 n x.2] e
  subst hb; subst hr; subst hs; subst hn
  exact CellsAt.pre (rest := []) h
theorem BodyIn.offTo {w0 w : World} {gb gm : Nat} {nv : Value} {col : Nat → Option ByteArray} {S : List StatZ} {ls : List LitZ} {i : Nat} {l : LitZ} {pv cv : Value} {m : List (ByteArray × Value)} (h : BodyIn w0 w gb gm nv col S (ls.take i ++ [l]) (fun v => spotsP S v 0 (ls.take i)) (constsP S 0 (ls.take i)) pv cv m) (hli : ls[i]? = some l) (h1 : l.1 ≠ 1) :
    ∃ col pv cv m, BodyIn w0 w gb gm nv col S (ls.take (i + 1)) (fun v => spotsP S v 0 (ls.take (i + 1))) (constsP S 0 (ls.take (i + 1))) pv cv m := by
  refine ⟨col, pv, cv, m, ?_⟩
  rw [take_snoc hli] at *
  rw [← take_snoc hli, constsP_off hli h1]
  have e : (fun v => spotsP S v 0 (ls.take (i + 1))) = fun v => spotsP S v 0 (ls.take i) := funext fun v => spotsP_off hli h1
  rw [e, take_snoc hli]; exact h
open Classical in
set_option maxRecDepth 100000 in
set_option maxHeartbeats 20000000 in
theorem bodyOf_any (p : ByteArray) (hs : List TermZ) (ls : List LitZ) (ha : Option Addr) (hn hcap : Nat) (ba : Option Addr) (n bcap : Nat) (S : List StatZ) (sa : Option Addr) (sn scap : Nat) (w : World) (G : Nat → Prop) (hhn : hn = hs.length) (hh : TermsAt w G ha hs) (hhl : hn ≤ 1048576) (hbn : n = ls.length) (h : LitsAt w G ba ls) (hf : Fit ls)
    (hsn : sn = S.length) (hsc : sn ≤ scap) (hS : StatsAt w sa S) (hSf : StatsFit S) :
    Calls Tryz.prog 43 #[ruleV p ha hn hcap ba n bcap, .slice sa sn scap] w (RetN w (BodyV w ((p, hs, ()), ls, ()) S)) := by
  have HN := Lib.hid hbn; have HE := Lib.hid h; have HF := Lib.hid hf; have hl : n ≤ 1048576 := by have := hf.len; omega
  have HSN := Lib.hid hsn; have HSE := Lib.hid hS; have HSF := Lib.hid hSf; have hsl : sn ≤ 1048576 := by have := hSf.len; omega
  obtain ⟨c, ec⟩ : ∃ c, c = checkR ((p, hs, ()), ls, ()) := ⟨_, rfl⟩
  have hck := fun (W : World) (hW : Ext w W) => check_any p hs ls ha hn hcap ba n bcap W G hhn (hh.ext hW) hhl hbn (h.ext hW) hf
  rw [← ec] at hck
  have HC := Lib.hid hck
  have HR := Lib.hid (fun (W : World) (hW : Ext w W) => right_any p hs ls ha hn hcap ba n bcap S sa sn scap W G hbn (h.ext hW) hf hsn hsc (hS.ext hW) hSf)
  have HV := Lib.hid (fun (hc : c = 0) (W : World) (hW : Ext w W) => joinVars_any p hs ls ha hn hcap ba n bcap W G hhn (hh.ext hW) hhl hbn (h.ext hW) hf (ec.symm.trans hc))
  have EC := Lib.hid ec
  have hmm := @run_makeMap Tryz.prog
  clear hck ec hbn h hf hsn hS hSf hhn hh
  go_enter Tryz.func43, Tryz.ntmps43
  go_wp2_with fail
  obtain ⟨wb, eb⟩ : ∃ wb, w.alloc (.cells #[.string p, .slice ha hn hcap, .slice ba n bcap] 28) = wb := ⟨_, rfl⟩
  rw [eb]
  have HB := Lib.hid (Blk.new w [.string p, .slice ha hn hcap, .slice ba n bcap] 28)
  have HX := Lib.hid ((Kp.refl (F := fun _ => False) w).alloc (.cells #[.string p, .slice ha hn hcap, .slice ba n bcap] 28))
  have eb2 : w.alloc (.cells [Value.string p, .slice ha hn hcap, .slice ba n bcap].toArray 28) = wb := eb
  rw [eb2] at HB
  rw [eb] at HX
  clear eb eb2
  refine (HC.out _ HX.out).mono ?_
  rintro e w1 ⟨v, rfl, hk1, rfl⟩
  have X1 := Lib.hid (HX.out.trans hk1)
  have B1 := Lib.hid (HB.out.ext hk1)
  clear hk1 HX HB
  by_cases hc : c = 0
  · subst hc
    have r0 : w1.cell? ⟨w.heap.size, 0, none⟩ = some (.string p) := by rw [B1.out.cell']; rfl
    have r1 : w1.cell? ⟨w.heap.size, 1, none⟩ = some (.slice ha hn hcap) := by rw [B1.out.cell']; rfl
    have r2 : w1.cell? ⟨w.heap.size, 2, none⟩ = some (.slice ba n bcap) := by rw [B1.out.cell']; rfl
    go_wp2_with fail
    refine (HR.out _ X1.out).mono ?_
    rintro e w2 ⟨v, rfl, hk2, rfl⟩
    have X2 := Lib.hid (X1.out.trans hk2)
    have B2 := Lib.hid (B1.out.ext hk2)
    clear hk2 r0 r1 r2
    by_cases hok : statsOk ((p, hs, ()), ls, ()) S
    · rw [decide_eq_true hok]
      have HErr := Lib.hid (show errR ((p, hs, ()), ls, ()) S = 0 by unfold errR; rw [if_pos EC.out.symm, if_pos hok])
      have HKn := Lib.hid (Known.of hok)
      have HPt := Lib.hid (checkR_parts EC.out.symm)
      clear hok
      have r0 : w2.cell? ⟨w.heap.size, 0, none⟩ = some (.string p) := by rw [B2.out.cell']; rfl
      have r1 : w2.cell? ⟨w.heap.size, 1, none⟩ = some (.slice ha hn hcap) := by rw [B2.out.cell']; rfl
      have r2 : w2.cell? ⟨w.heap.size, 2, none⟩ = some (.slice ba n bcap) := by rw [B2.out.cell']; rfl
      go_wp2_with fail
      refine (HV.out (by first | rfl | trivial) _ X2.out).mono ?_
      rintro e w3 ⟨v, rfl, hk3, na, ncap, rfl, hncap, hnames⟩
      have X3 := Lib.hid (X2.out.trans hk3)
      have B3 := Lib.hid (B2.out.ext hk3)
      clear hk3 r0 r1 r2
      obtain ⟨nn, enn⟩ : ∃ nn, (namesB ls).length = nn := ⟨_, rfl⟩
      rw [enn] at hncap
      rw [enn]
      have HNm := Lib.hid (And.intro hncap hnames)
      have HNN := Lib.hid enn
      clear hncap hnames enn
      have r2 : w3.cell? ⟨w.heap.size, 2, none⟩ = some (.slice ba n bcap) := by rw [B3.out.cell']; rfl
      have s2 : ((w3.alloc (.map #[] 0)).alloc (.cells #[.slice none 0 0, .slice na nn ncap, .map (some w3.heap.size), .slice none 0 0] 121)).cell? ⟨w.heap.size, 2, none⟩ = some (.slice ba n bcap) := (((Kp.refl (F := fun _ => False) w3).alloc _).alloc _).cell r2 id
      go_wp2
      obtain ⟨w4, ew4⟩ : ∃ w4, (w3.alloc (.map #[] 0)).alloc (.cells #[.slice none 0 0, .slice na nn ncap, .map (some w3.heap.size), .slice none 0 0] 121) = w4 := ⟨_, rfl⟩
      rw [ew4]
      obtain ⟨gm, egm⟩ : ∃ gm, gm = w3.heap.size := ⟨_, rfl⟩
      obtain ⟨gb, egb⟩ : ∃ gb, gb = w3.heap.size + 1 := ⟨_, rfl⟩
      have hbody : BodyIn w3 w4 gb gm (.slice na nn ncap) (fun _ => none) S [] (fun _ => []) [] (.slice none 0 0) (.slice none 0 0) [] := by
        have hB := Blk.new (w3.alloc (.map #[] 0)) [.slice none 0 0, .slice na nn ncap, .map (some w3.heap.size), .slice none 0 0] 121
        rw [alloc_size] at hB
        have hM := (MapIs.new w3).ext ((Kp.refl _).alloc (.cells #[.slice none 0 0, .slice na nn ncap, .map (some w3.heap.size), .slice none 0 0] 121))
        rw [ew4, ← egm] at hM
        have ew4' : (w3.alloc (.map #[] 0)).alloc (.cells [Value.slice none 0 0, .slice na nn ncap, .map (some w3.heap.size), .slice none 0 0].toArray 121) = w4 := ew4
        rw [ew4', ← egb, ← egm] at hB
        exact BodyIn.zero (by rw [← ew4]; exact ((Kp.refl w3).alloc _).alloc _) (by omega) (by omega) hB hM
      have HB0 := Lib.hid hbody
      rw [← egb]
      rw [← egm]
      have EGB := Lib.hid (show w.heap.size ≤ gb by have := X3.out.size; omega)
      clear hbody ew4 egm egb s2 r2 hmm
      go_loopw [32] (fun iv wr => BodyTo w3 gb gm (.slice na nn ncap) S ls n iv wr) (fun iv _ => n - (intOf iv).toNat)
      case atStart => exact ⟨0, Nat.zero_le _, rfl, _, _, _, _, HB0.out⟩
      case round =>
        obtain ⟨i, hi, rfl, hbody⟩ := hrel
        obtain ⟨col, pv, cv, m, hbody⟩ := hbody.out
        have hex := Lib.hid hbody.ext
        have XR := Lib.hid (X3.out.trans hex.out)
        by_cases hlt : i < n
        · have hltl : i < ls.length := by rw [← HN.out]; exact hlt
          obtain ⟨l, hli⟩ : ∃ l, ls[i]? = some l := ⟨_, List.getElem?_eq_getElem hltl⟩
          obtain ⟨b, off, a2, cap2, eao, hG, hb, hL, c0, c1, c2, c3, c4, c5, c6, c7⟩ := lit_at HE.out hli
          subst eao
          replace c0 := XR.out.cell c0 id
          replace c1 := XR.out.cell c1 id
          replace c2 := XR.out.cell c2 id
          replace c3 := XR.out.cell c3 id
          replace c4 := XR.out.cell c4 id
          replace c5 := XR.out.cell c5 id
          replace c6 := XR.out.cell c6 id
          replace c7 := XR.out.cell c7 id
          obtain ⟨mm, emm⟩ : ∃ mm, mm = (termsOf l).length := ⟨_, rfl⟩
          rw [← emm] at c2
          have hmm : mm ≤ 1048576 := by rw [emm]; exact HF.out.terms l (List.mem_of_getElem? hli)
          obtain ⟨k, ek⟩ : ∃ k, k = l.1 := ⟨_, rfl⟩
          rw [← ek] at c0
          clear hltl hG hb
          obtain ⟨o, eo⟩ : ∃ o, o = opOf l := ⟨_, rfl⟩
          rw [← eo] at c3
          obtain ⟨lk, elk⟩ : ∃ lk, lk = (leftOf l).1 := ⟨_, rfl⟩
          rw [← elk] at c4
          obtain ⟨lt, elt⟩ : ∃ lt, lt = (leftOf l).2.1 := ⟨_, rfl⟩
          rw [← elt] at c5
          obtain ⟨rk, erk⟩ : ∃ rk, rk = (rightOf l).1 := ⟨_, rfl⟩
          rw [← erk] at c6
          obtain ⟨rt, ert⟩ : ∃ rt, rt = (rightOf l).2.1 := ⟨_, rfl⟩
          rw [← ert] at c7
          have eleft : leftOf l = (lk, lt, ()) := by rw [elk, elt]
          have eright : rightOf l = (rk, rt, ()) := by rw [erk, ert]
          obtain ⟨pl, epl⟩ : ∃ pl, pl = predOf l := ⟨_, rfl⟩
          rw [← epl] at c1
          have HK1 := Lib.hid (And.intro (show (Lit.int .i64 lk).wf = true ∧ lt.size ≤ maxLen by have := hL.left; rw [eleft] at this; exact this) (show (Lit.int .i64 rk).wf = true ∧ rt.size ≤ maxLen by have := hL.right; rw [eright] at this; exact this))
          have HL := Lib.hid (And.intro hli (And.intro emm (And.intro ek (And.intro eo (And.intro epl (And.intro eleft (And.intro eright hL)))))))
          have HIdx := Lib.hid (show (ls.take i).length = i by rw [List.length_take]; have := HN.out; omega)
          obtain ⟨wx, ewx⟩ : ∃ wx, wr.alloc (.cells #[.int .i64 k, .string pl, .slice a2 mm cap2, .int .i64 o, .int .i64 lk, .string lt, .int .i64 rk, .string rt] 97) = wx := ⟨_, rfl⟩
          obtain ⟨gl, egl⟩ : ∃ gl, gl = wr.heap.size := ⟨_, rfl⟩
          have hgl := Blk.new wr [.int .i64 k, .string pl, .slice a2 mm cap2, .int .i64 o, .int .i64 lk, .string lt, .int .i64 rk, .string rt] 97
          have ewx' : wr.alloc (.cells [Value.int .i64 k, .string pl, .slice a2 mm cap2, .int .i64 o, .int .i64 lk, .string lt, .int .i64 rk, .string rt].toArray 97) = wx := ewx
          rw [ewx', ← egl] at hgl
          have HGL := Lib.hid hgl
          have hxx : Ext wr wx := by rw [← ewx]; exact (Kp.refl wr).alloc _
          have HBX := Lib.hid (hbody.on hxx)
          have XX := Lib.hid (XR.out.trans hxx)
          have EGL := Lib.hid (And.intro egl ewx)
          have b0 : wx.cell? ⟨gb, 0, none⟩ = some pv := by rw [HBX.out.blk.cell']; rfl
          have g0 : wx.cell? ⟨gl, 0, none⟩ = some (.int .i64 k) := by rw [hgl.cell']; rfl
          have g1 : wx.cell? ⟨gl, 1, none⟩ = some (.string pl) := by rw [hgl.cell']; rfl
          have g2 : wx.cell? ⟨gl, 2, none⟩ = some (.slice a2 mm cap2) := by rw [hgl.cell']; rfl
          have g3 : wx.cell? ⟨gl, 3, none⟩ = some (.int .i64 o) := by rw [hgl.cell']; rfl
          have g4 : wx.cell? ⟨gl, 4, none⟩ = some (.int .i64 lk) := by rw [hgl.cell']; rfl
          have g5 : wx.cell? ⟨gl, 5, none⟩ = some (.string lt) := by rw [hgl.cell']; rfl
          have g6 : wx.cell? ⟨gl, 6, none⟩ = some (.int .i64 rk) := by rw [hgl.cell']; rfl
          have g7 : wx.cell? ⟨gl, 7, none⟩ = some (.string rt) := by rw [hgl.cell']; rfl
          obtain ⟨pa, pcap, epv⟩ := HBX.out.pshape
          rw [HIdx.out] at epv
          subst epv
          clear hli emm ek eo epl elk elt erk ert eleft eright hL ewx' hgl hxx hbody egl ewx
          by_cases h3 : k = 3
          · have n3 : (k == 3) = true := by simp [h3]
            have H3 := Lib.hid h3; clear h3
            go_wp2
            rw [EGL.out.2, ← EGL.out.1]
            clear c0 c1 c2 c3 c4 c5 c6 c7
            have HCells := Lib.hid (show ∀ w', Ext wx w' → (fun w' => w'.cell? ⟨gb, 0, none⟩ = some (.slice pa i pcap) ∧ w'.cell? ⟨gl, 0, none⟩ = some (.int .i64 k) ∧ w'.cell? ⟨gl, 1, none⟩ = some (.string pl) ∧ w'.cell? ⟨gl, 2, none⟩ = some (.slice a2 mm cap2) ∧ w'.cell? ⟨gl, 3, none⟩ = some (.int .i64 o) ∧ w'.cell? ⟨gl, 4, none⟩ = some (.int .i64 lk) ∧ w'.cell? ⟨gl, 5, none⟩ = some (.string lt) ∧ w'.cell? ⟨gl, 6, none⟩ = some (.int .i64 rk) ∧ w'.cell? ⟨gl, 7, none⟩ = some (.string rt)) w' from fun w' hw => ⟨hw.cell b0 id, hw.cell g0 id, hw.cell g1 id, hw.cell g2 id, hw.cell g3 id, hw.cell g4 id, hw.cell g5 id, hw.cell g6 id, hw.cell g7 id⟩)
            have HVs := Lib.hid (show varsL l = varsT [(lk, lt, ()), (rk, rt, ())] by rw [varsL_cmp (by have := HL.out.2.2.1; have := H3.out; omega) (by have := HL.out.2.2.1; have := H3.out; omega), HL.out.2.2.2.2.2.1, HL.out.2.2.2.2.2.2.1])
            have HPr := Lib.hid (show false = decide (l.1 = 1) ∧ 0 = rowsP S l ∧ shareW l = shareP l by
              have h1 : l.1 ≠ 1 := by have := HL.out.2.2.1; have := H3.out; omega
              exact ⟨(decide_eq_false h1).symm, (if_neg h1).symm, (if_neg h1).symm⟩)
            refine draw_begin (fun w' => w'.cell? ⟨gb, 0, none⟩ = some (.slice pa i pcap) ∧ w'.cell? ⟨gl, 0, none⟩ = some (.int .i64 k) ∧ w'.cell? ⟨gl, 1, none⟩ = some (.string pl) ∧ w'.cell? ⟨gl, 2, none⟩ = some (.slice a2 mm cap2) ∧ w'.cell? ⟨gl, 3, none⟩ = some (.int .i64 o) ∧ w'.cell? ⟨gl, 4, none⟩ = some (.int .i64 lk) ∧ w'.cell? ⟨gl, 5, none⟩ = some (.string lt) ∧ w'.cell? ⟨gl, 6, none⟩ = some (.int .i64 rk) ∧ w'.cell? ⟨gl, 7, none⟩ = some (.string rt)) [15, 18] (by kernel_rfl) (HCells.out _ (Kp.refl wx).drew) (fun hHeld => ?_)
            (refine draw_free (i := 0) (v := ?_) rfl ?_ ?_; rotate_left; (intro w; go_simp; try with_reducible rfl)); (try simp only [Act.put, List.setIfInBounds_toArray, List.set_cons_zero, List.set_cons_succ])
            (refine draw_free (i := 1) (v := ?_) rfl ?_ ?_; rotate_left; (intro w; go_simp; try with_reducible rfl)); (try simp only [Act.put, List.setIfInBounds_toArray, List.set_cons_zero, List.set_cons_succ])
            (refine draw_free (i := 2) (v := ?_) rfl ?_ ?_; rotate_left; (intro w; go_simp; try with_reducible rfl)); (try simp only [Act.put, List.setIfInBounds_toArray, List.set_cons_zero, List.set_cons_succ])
            (refine draw_free (i := 3) (v := ?_) rfl ?_ ?_; rotate_left; (intro w; go_simp; try with_reducible rfl)); (try simp only [Act.put, List.setIfInBounds_toArray, List.set_cons_zero, List.set_cons_succ])
            (refine draw_in (i := 4) (v := ?_) rfl ?_ ?_; rotate_left; (intro w hSw; (try dsimp only at hSw); go_simp; try with_reducible rfl)); (try simp only [Act.put, List.setIfInBounds_toArray, List.set_cons_zero, List.set_cons_succ])
            (refine draw_in (i := 5) (v := ?_) rfl ?_ ?_; rotate_left; (intro w hSw; (try dsimp only at hSw); go_simp; try with_reducible rfl)); (try simp only [Act.put, List.setIfInBounds_toArray, List.set_cons_zero, List.set_cons_succ])
            (refine draw_free (i := 7) (v := ?_) rfl ?_ ?_; rotate_left; (intro w; go_simp; try with_reducible rfl)); (try simp only [Act.put, List.setIfInBounds_toArray, List.set_cons_zero, List.set_cons_succ])
            (refine draw_in (i := 8) (v := ?_) rfl ?_ ?_; rotate_left; (intro w hSw; (try dsimp only at hSw); go_simp; try with_reducible rfl)); (try simp only [Act.put, List.setIfInBounds_toArray, List.set_cons_zero, List.set_cons_succ])
            (refine draw_free (i := 9) (v := ?_) rfl ?_ ?_; rotate_left; (intro w; go_simp; try with_reducible rfl)); (try simp only [Act.put, List.setIfInBounds_toArray, List.set_cons_zero, List.set_cons_succ])
            (refine draw_in (i := 10) (v := ?_) rfl ?_ ?_; rotate_left; (intro w hSw; (try dsimp only at hSw); go_simp; try with_reducible rfl)); (try simp only [Act.put, List.setIfInBounds_toArray, List.set_cons_zero, List.set_cons_succ])
            refine draw_two (i := 6) (k := 11) ?_ ?_
            · refine comes_turn (i := 6) rfl (fun K hK => ?_)
              go_simp
              ((with_reducible refine (share_any l _ _ _ _ _ _ _ _ _ _ _ HL.out.2.2.1.symm HL.out.2.2.2.1.symm).mono ?_); rintro e ws ⟨_, rfl, hks, rfl⟩; have XS := Lib.hid (show Ext wx ws by first | exact ((Kp.refl wx).drew).trans hks | exact (((Kp.refl wx).drew).alloc _).trans hks); (try have HT1 := Lib.hid ((terms_two wx lk lt rk rt HK1.out.1.1 HK1.out.2.1 HK1.out.1.2 HK1.out.2.2 94).ext (((Kp.refl _).drew).trans hks))); clear hks)
              go_wp2_with fail
              refine hK.out _ _ ?_ (fun hHeld => ?_)
              · (try dsimp only); (exact HCells.out _ (by first | exact (Kp.refl wx).drew | exact (Kp.refl wx).drew.alloc _ | exact XN.out.alloc _ | exact XN.out | exact XS.out.alloc _ | exact XS.out))
              clear hK K; (try simp only [Act.put, List.setIfInBounds_toArray, List.set_cons_zero, List.set_cons_succ])
              refine draw_one (i := 11) ?_
              refine comes_turn (i := 11) rfl (fun K hK => ?_)
              go_simp
              refine hK.out _ _ ?_ (fun hHeld => ?_)
              · (try dsimp only); (exact HCells.out _ (by first | exact (Kp.refl wx).drew | exact (Kp.refl wx).drew.alloc _ | exact XN.out.alloc _ | exact XN.out | exact XS.out.alloc _ | exact XS.out))
              clear hK K; (try simp only [Act.put, List.setIfInBounds_toArray, List.set_cons_zero, List.set_cons_succ])
              refine draw_one (i := 12) ?_
              refine comes_turn (i := 12) rfl (fun K hK => ?_)
              go_simp
              ((with_reducible refine (namedC_any [(lk, lt, ()), (rk, rt, ())] _ 2 2 _ (fun _ => True) rfl (by first | exact HT1.out | exact terms_two ws lk lt rk rt HK1.out.1.1 HK1.out.2.1 HK1.out.1.2 HK1.out.2.2 94) (by decide)).mono ?_); rintro e wn ⟨vn, rfl, hkn, hrow⟩; have XN := Lib.hid (show Ext wx wn by first | exact XS.out.trans hkn | exact (XS.out.alloc _).trans hkn); have hrow2 := hrow.mono (M' := New w3) (fun g hg => Nat.le_trans (by have h1 := hex.out.size; have h2 := EGL.out.1; have h3 := XS.out.size; have h4 : wr.heap.size ≤ wx.heap.size := (by rw [← EGL.out.2, alloc_size]; omega); (try rw [alloc_size]); omega) hg); obtain ⟨va, vcap, evn, _⟩ := hrow.shape; subst evn; rw [← HVs.out] at hrow2; obtain ⟨pv', w', hrun, hc', hfr, hkp, hbody'⟩ := BodyIn.part (HBX.out.on (XN.out.alloc (.cells #[.bool false, .float .f64 0, .float .f64 (shareW l), .slice va (varsT [(lk, lt, ()), (rk, rt, ())]).length vcap] 164))) l (va, vcap) (hrow2.alloc _) (part_cells wn S l (va, vcap) HPr.out.1 HPr.out.2.1 HPr.out.2.2 (by rw [HVs.out]) 164) (c := 1) (by rw [HIdx.out]; omega) 117; obtain ⟨pa', pn', pcap', epv'⟩ := hbody'.pshape2; subst epv'; have HFin := Lib.hid hbody'; clear hbody' hkp hrow hrow2 hkn)
              go_wp2_with fail
              refine hK.out _ _ ?_ (fun hHeld => ?_)
              · (try dsimp only); (exact HCells.out _ (by first | exact (Kp.refl wx).drew | exact (Kp.refl wx).drew.alloc _ | exact XN.out.alloc _ | exact XN.out | exact XS.out.alloc _ | exact XS.out))
              clear hK K; (try simp only [Act.put, List.setIfInBounds_toArray, List.set_cons_zero, List.set_cons_succ])
              (refine draw_free (i := 13) (v := ?_) rfl ?_ ?_; rotate_left; (intro w; go_simp; try with_reducible rfl)); (try simp only [Act.put, List.setIfInBounds_toArray, List.set_cons_zero, List.set_cons_succ])
              refine draw_one (i := 14) ?_
              refine comes_turn (i := 14) rfl (fun K hK => ?_)
              go_simp
              refine hK.out _ _ ?_ (fun hHeld => ?_)
              · (try dsimp only); (exact HCells.out _ (by first | exact (Kp.refl wx).drew | exact (Kp.refl wx).drew.alloc _ | exact XN.out.alloc _ | exact XN.out | exact XS.out.alloc _ | exact XS.out))
              clear hK K; (try simp only [Act.put, List.setIfInBounds_toArray, List.set_cons_zero, List.set_cons_succ])
              refine draw_one (i := 15) ?_
              refine comes_late (i := 15) rfl (by kernel_rfl) (fun K hK => ?_)
              refine draw_app rfl _ _ rfl rfl rfl hrun ?_
              refine hK.out _ _ ?_
              clear hK K; (try simp only [Act.put, List.setIfInBounds_toArray, List.set_cons_zero, List.set_cons_succ])
              (refine draw_free (i := 16) (v := ?_) rfl ?_ ?_; rotate_left; (intro w; go_simp; try with_reducible rfl)); (try simp only [Act.put, List.setIfInBounds_toArray, List.set_cons_zero, List.set_cons_succ])
              (refine draw_free (i := 17) (v := ?_) rfl ?_ ?_; rotate_left; (intro w; go_simp; try with_reducible rfl)); (try simp only [Act.put, List.setIfInBounds_toArray, List.set_cons_zero, List.set_cons_succ])
              refine draw_one (i := 18) ?_
              refine comes_late (i := 18) rfl (by kernel_rfl) (fun K hK => ?_)
              go_simp
              refine hK.out _ _ ?_
              clear hK K; (try simp only [Act.put, List.setIfInBounds_toArray, List.set_cons_zero, List.set_cons_succ])
              refine wpAnyD_done (by kernel_rfl) ?_ _
              go_wp2
              go_roundw
              case rel => exact ⟨i + 1, by omega, by first | rfl | (congr 1; done) | (congr 1; omega), Lib.hid (HFin.out.offTo HL.out.1 (by have := HL.out.2.2.1; have := H3.out; omega))⟩
              case measure => simp [intOf]; omega
            · refine comes_turn (i := 11) rfl (fun K hK => ?_)
              go_simp
              refine hK.out _ _ ?_ (fun hHeld => ?_)
              · (try dsimp only); (exact HCells.out _ (by first | exact (Kp.refl wx).drew | exact (Kp.refl wx).drew.alloc _ | exact XN.out.alloc _ | exact XN.out | exact XS.out.alloc _ | exact XS.out))
              clear hK K; (try simp only [Act.put, List.setIfInBounds_toArray, List.set_cons_zero, List.set_cons_succ])
              refine draw_one (i := 6) ?_
              refine comes_turn (i := 6) rfl (fun K hK => ?_)
              go_simp
              ((with_reducible refine (share_any l _ _ _ _ _ _ _ _ _ _ _ HL.out.2.2.1.symm HL.out.2.2.2.1.symm).mono ?_); rintro e ws ⟨_, rfl, hks, rfl⟩; have XS := Lib.hid (show Ext wx ws by first | exact ((Kp.refl wx).drew).trans hks | exact (((Kp.refl wx).drew).alloc _).trans hks); (try have HT1 := Lib.hid ((terms_two wx lk lt rk rt HK1.out.1.1 HK1.out.2.1 HK1.out.1.2 HK1.out.2.2 94).ext (((Kp.refl _).drew).trans hks))); clear hks)
              go_wp2_with fail
              refine hK.out _ _ ?_ (fun hHeld => ?_)
              · (try dsimp only); (exact HCells.out _ (by first | exact (Kp.refl wx).drew | exact (Kp.refl wx).drew.alloc _ | exact XN.out.alloc _ | exact XN.out | exact XS.out.alloc _ | exact XS.out))
              clear hK K; (try simp only [Act.put, List.setIfInBounds_toArray, List.set_cons_zero, List.set_cons_succ])
              refine draw_one (i := 12) ?_
              refine comes_turn (i := 12) rfl (fun K hK => ?_)
              go_simp
              ((with_reducible refine (namedC_any [(lk, lt, ()), (rk, rt, ())] _ 2 2 _ (fun _ => True) rfl (by first | exact HT1.out | exact terms_two ws lk lt rk rt HK1.out.1.1 HK1.out.2.1 HK1.out.1.2 HK1.out.2.2 94) (by decide)).mono ?_); rintro e wn ⟨vn, rfl, hkn, hrow⟩; have XN := Lib.hid (show Ext wx wn by first | exact XS.out.trans hkn | exact (XS.out.alloc _).trans hkn); have hrow2 := hrow.mono (M' := New w3) (fun g hg => Nat.le_trans (by have h1 := hex.out.size; have h2 := EGL.out.1; have h3 := XS.out.size; have h4 : wr.heap.size ≤ wx.heap.size := (by rw [← EGL.out.2, alloc_size]; omega); (try rw [alloc_size]); omega) hg); obtain ⟨va, vcap, evn, _⟩ := hrow.shape; subst evn; rw [← HVs.out] at hrow2; obtain ⟨pv', w', hrun, hc', hfr, hkp, hbody'⟩ := BodyIn.part (HBX.out.on (XN.out.alloc (.cells #[.bool false, .float .f64 0, .float .f64 (shareW l), .slice va (varsT [(lk, lt, ()), (rk, rt, ())]).length vcap] 164))) l (va, vcap) (hrow2.alloc _) (part_cells wn S l (va, vcap) HPr.out.1 HPr.out.2.1 HPr.out.2.2 (by rw [HVs.out]) 164) (c := 1) (by rw [HIdx.out]; omega) 117; obtain ⟨pa', pn', pcap', epv'⟩ := hbody'.pshape2; subst epv'; have HFin := Lib.hid hbody'; clear hbody' hkp hrow hrow2 hkn)
              go_wp2_with fail
              refine hK.out _ _ ?_ (fun hHeld => ?_)
              · (try dsimp only); (exact HCells.out _ (by first | exact (Kp.refl wx).drew | exact (Kp.refl wx).drew.alloc _ | exact XN.out.alloc _ | exact XN.out | exact XS.out.alloc _ | exact XS.out))
              clear hK K; (try simp only [Act.put, List.setIfInBounds_toArray, List.set_cons_zero, List.set_cons_succ])
              (refine draw_free (i := 13) (v := ?_) rfl ?_ ?_; rotate_left; (intro w; go_simp; try with_reducible rfl)); (try simp only [Act.put, List.setIfInBounds_toArray, List.set_cons_zero, List.set_cons_succ])
              refine draw_one (i := 14) ?_
              refine comes_turn (i := 14) rfl (fun K hK => ?_)
              go_simp
              refine hK.out _ _ ?_ (fun hHeld => ?_)
              · (try dsimp only); (exact HCells.out _ (by first | exact (Kp.refl wx).drew | exact (Kp.refl wx).drew.alloc _ | exact XN.out.alloc _ | exact XN.out | exact XS.out.alloc _ | exact XS.out))
              clear hK K; (try simp only [Act.put, List.setIfInBounds_toArray, List.set_cons_zero, List.set_cons_succ])
              refine draw_one (i := 15) ?_
              refine comes_late (i := 15) rfl (by kernel_rfl) (fun K hK => ?_)
              refine draw_app rfl _ _ rfl rfl rfl hrun ?_
              refine hK.out _ _ ?_
              clear hK K; (try simp only [Act.put, List.setIfInBounds_toArray, List.set_cons_zero, List.set_cons_succ])
              (refine draw_free (i := 16) (v := ?_) rfl ?_ ?_; rotate_left; (intro w; go_simp; try with_reducible rfl)); (try simp only [Act.put, List.setIfInBounds_toArray, List.set_cons_zero, List.set_cons_succ])
              (refine draw_free (i := 17) (v := ?_) rfl ?_ ?_; rotate_left; (intro w; go_simp; try with_reducible rfl)); (try simp only [Act.put, List.setIfInBounds_toArray, List.set_cons_zero, List.set_cons_succ])
              refine draw_one (i := 18) ?_
              refine comes_late (i := 18) rfl (by kernel_rfl) (fun K hK => ?_)
              go_simp
              refine hK.out _ _ ?_
              clear hK K; (try simp only [Act.put, List.setIfInBounds_toArray, List.set_cons_zero, List.set_cons_succ])
              refine wpAnyD_done (by kernel_rfl) ?_ _
              go_wp2
              go_roundw
              case rel => exact ⟨i + 1, by omega, by first | rfl | (congr 1; done) | (congr 1; omega), Lib.hid (HFin.out.offTo HL.out.1 (by have := HL.out.2.2.1; have := H3.out; omega))⟩
              case measure => simp [intOf]; omega
          · have n3 : (k == 3) = false := by simp [h3]
            have H3 := Lib.hid h3; clear h3
            have HCells := Lib.hid (show ∀ w', Ext wx w' → (fun w' => w'.cell? ⟨gb, 0, none⟩ = some (.slice pa i pcap) ∧ w'.cell? ⟨gl, 0, none⟩ = some (.int .i64 k) ∧ w'.cell? ⟨gl, 1, none⟩ = some (.string pl) ∧ w'.cell? ⟨gl, 2, none⟩ = some (.slice a2 mm cap2) ∧ w'.cell? ⟨gl, 3, none⟩ = some (.int .i64 o) ∧ w'.cell? ⟨gl, 4, none⟩ = some (.int .i64 lk) ∧ w'.cell? ⟨gl, 5, none⟩ = some (.string lt) ∧ w'.cell? ⟨gl, 6, none⟩ = some (.int .i64 rk) ∧ w'.cell? ⟨gl, 7, none⟩ = some (.string rt)) w' from fun w' hw => ⟨hw.cell b0 id, hw.cell g0 id, hw.cell g1 id, hw.cell g2 id, hw.cell g3 id, hw.cell g4 id, hw.cell g5 id, hw.cell g6 id, hw.cell g7 id⟩)
            by_cases h2 : k = 2
            · have n2 : (k == 2) = true := by simp [h2]
              have H2 := Lib.hid h2; clear h2
              go_wp2
              rw [EGL.out.2, ← EGL.out.1]
              clear c0 c1 c2 c3 c4 c5 c6 c7
              have HVs := Lib.hid (show varsL l = varsT (termsOf l) from varsL_two (by have := HL.out.2.2.1; have := H2.out; omega))
              have HPr := Lib.hid (show false = decide (l.1 = 1) ∧ 0 = rowsP S l ∧ shareW l = shareP l by
                have h1 : l.1 ≠ 1 := by have := HL.out.2.2.1; have := H2.out; omega
                exact ⟨(decide_eq_false h1).symm, (if_neg h1).symm, (if_neg h1).symm⟩)
              refine draw_begin (fun w' => w'.cell? ⟨gb, 0, none⟩ = some (.slice pa i pcap) ∧ w'.cell? ⟨gl, 0, none⟩ = some (.int .i64 k) ∧ w'.cell? ⟨gl, 1, none⟩ = some (.string pl) ∧ w'.cell? ⟨gl, 2, none⟩ = some (.slice a2 mm cap2) ∧ w'.cell? ⟨gl, 3, none⟩ = some (.int .i64 o) ∧ w'.cell? ⟨gl, 4, none⟩ = some (.int .i64 lk) ∧ w'.cell? ⟨gl, 5, none⟩ = some (.string lt) ∧ w'.cell? ⟨gl, 6, none⟩ = some (.int .i64 rk) ∧ w'.cell? ⟨gl, 7, none⟩ = some (.string rt)) [13, 16] (by kernel_rfl) (HCells.out _ (Kp.refl wx).drew) (fun hHeld => ?_)
              (refine draw_free (i := 0) (v := ?_) rfl ?_ ?_; rotate_left; (intro w; go_simp; try with_reducible rfl)); (try simp only [Act.put, List.setIfInBounds_toArray, List.set_cons_zero, List.set_cons_succ])
              (refine draw_free (i := 1) (v := ?_) rfl ?_ ?_; rotate_left; (intro w; go_simp; try with_reducible rfl)); (try simp only [Act.put, List.setIfInBounds_toArray, List.set_cons_zero, List.set_cons_succ])
              (refine draw_free (i := 2) (v := ?_) rfl ?_ ?_; rotate_left; (intro w; go_simp; try with_reducible rfl)); (try simp only [Act.put, List.setIfInBounds_toArray, List.set_cons_zero, List.set_cons_succ])
              (refine draw_free (i := 3) (v := ?_) rfl ?_ ?_; rotate_left; (intro w; go_simp; try with_reducible rfl)); (try simp only [Act.put, List.setIfInBounds_toArray, List.set_cons_zero, List.set_cons_succ])
              (refine draw_in (i := 4) (v := ?_) rfl ?_ ?_; rotate_left; (intro w hSw; (try dsimp only at hSw); go_simp; try with_reducible rfl)); (try simp only [Act.put, List.setIfInBounds_toArray, List.set_cons_zero, List.set_cons_succ])
              (refine draw_in (i := 5) (v := ?_) rfl ?_ ?_; rotate_left; (intro w hSw; (try dsimp only at hSw); go_simp; try with_reducible rfl)); (try simp only [Act.put, List.setIfInBounds_toArray, List.set_cons_zero, List.set_cons_succ])
              (refine draw_free (i := 7) (v := ?_) rfl ?_ ?_; rotate_left; (intro w; go_simp; try with_reducible rfl)); (try simp only [Act.put, List.setIfInBounds_toArray, List.set_cons_zero, List.set_cons_succ])
              (refine draw_free (i := 8) (v := ?_) rfl ?_ ?_; rotate_left; (intro w; go_simp; try with_reducible rfl)); (try simp only [Act.put, List.setIfInBounds_toArray, List.set_cons_zero, List.set_cons_succ])
              (refine draw_in (i := 9) (v := ?_) rfl ?_ ?_; rotate_left; (intro w hSw; (try dsimp only at hSw); go_simp; try with_reducible rfl)); (try simp only [Act.put, List.setIfInBounds_toArray, List.set_cons_zero, List.set_cons_succ])
              refine draw_one (i := 6) ?_
              refine comes_turn (i := 6) rfl (fun K hK => ?_)
              go_simp
              ((with_reducible refine (share_any l _ _ _ _ _ _ _ _ _ _ _ HL.out.2.2.1.symm HL.out.2.2.2.1.symm).mono ?_); rintro e ws ⟨_, rfl, hks, rfl⟩; have XS := Lib.hid (((Kp.refl wx).drew).trans hks); clear hks)
              go_wp2_with fail
              refine hK.out _ _ ?_ (fun hHeld => ?_)
              · (try dsimp only); (exact HCells.out _ (by first | exact XN.out.alloc _ | exact XN.out | exact XS.out))
              clear hK K; (try simp only [Act.put, List.setIfInBounds_toArray, List.set_cons_zero, List.set_cons_succ])
              refine draw_one (i := 10) ?_
              refine comes_turn (i := 10) rfl (fun K hK => ?_)
              go_simp
              ((with_reducible refine (namedC_any (termsOf l) a2 mm cap2 _ G HL.out.2.1 (HL.out.2.2.2.2.2.2.2.terms.ext (XX.out.trans XS.out)) hmm).mono ?_); rintro e wn ⟨vn, rfl, hkn, hrow⟩; have XN := Lib.hid (XS.out.trans hkn); have hrow2 := hrow.mono (M' := New w3) (fun g hg => Nat.le_trans (by have h1 := hex.out.size; have h3 := XS.out.size; have h4 : wr.heap.size ≤ wx.heap.size := (by rw [← EGL.out.2, alloc_size]; omega); omega) hg); obtain ⟨va, vcap, evn, _⟩ := hrow.shape; subst evn; rw [← HVs.out] at hrow2; obtain ⟨pv', w', hrun, hc', hfr, hkp, hbody'⟩ := BodyIn.part (HBX.out.on (XN.out.alloc (.cells #[.bool false, .float .f64 0, .float .f64 (shareW l), .slice va (varsT (termsOf l)).length vcap] 164))) l (va, vcap) (hrow2.alloc _) (part_cells wn S l (va, vcap) HPr.out.1 HPr.out.2.1 HPr.out.2.2 (by rw [HVs.out]) 164) (c := 1) (by rw [HIdx.out]; omega) 117; obtain ⟨pa', pn', pcap', epv'⟩ := hbody'.pshape2; subst epv'; have HFin := Lib.hid hbody'; clear hbody' hkp hrow hrow2 hkn)
              go_wp2_with fail
              refine hK.out _ _ ?_ (fun hHeld => ?_)
              · (try dsimp only); (exact HCells.out _ (by first | exact XN.out.alloc _ | exact XN.out | exact XS.out))
              clear hK K; (try simp only [Act.put, List.setIfInBounds_toArray, List.set_cons_zero, List.set_cons_succ])
              (refine draw_free (i := 11) (v := ?_) rfl ?_ ?_; rotate_left; (intro w; go_simp; try with_reducible rfl)); (try simp only [Act.put, List.setIfInBounds_toArray, List.set_cons_zero, List.set_cons_succ])
              refine draw_one (i := 12) ?_
              refine comes_turn (i := 12) rfl (fun K hK => ?_)
              go_simp
              refine hK.out _ _ ?_ (fun hHeld => ?_)
              · (try dsimp only); (exact HCells.out _ (by first | exact XN.out.alloc _ | exact XN.out | exact XS.out))
              clear hK K; (try simp only [Act.put, List.setIfInBounds_toArray, List.set_cons_zero, List.set_cons_succ])
              refine draw_one (i := 13) ?_
              refine comes_late (i := 13) rfl (by kernel_rfl) (fun K hK => ?_)
              refine draw_app rfl _ _ rfl rfl rfl hrun ?_
              refine hK.out _ _ ?_
              clear hK K; (try simp only [Act.put, List.setIfInBounds_toArray, List.set_cons_zero, List.set_cons_succ])
              (refine draw_free (i := 14) (v := ?_) rfl ?_ ?_; rotate_left; (intro w; go_simp; try with_reducible rfl)); (try simp only [Act.put, List.setIfInBounds_toArray, List.set_cons_zero, List.set_cons_succ])
              (refine draw_free (i := 15) (v := ?_) rfl ?_ ?_; rotate_left; (intro w; go_simp; try with_reducible rfl)); (try simp only [Act.put, List.setIfInBounds_toArray, List.set_cons_zero, List.set_cons_succ])
              refine draw_one (i := 16) ?_
              refine comes_late (i := 16) rfl (by kernel_rfl) (fun K hK => ?_)
              go_simp
              refine hK.out _ _ ?_
              clear hK K; (try simp only [Act.put, List.setIfInBounds_toArray, List.set_cons_zero, List.set_cons_succ])
              refine wpAnyD_done (by kernel_rfl) ?_ _
              go_wp2
              go_roundw
              case rel => exact ⟨i + 1, by omega, by first | rfl | (congr 1; done) | (congr 1; omega), Lib.hid (HFin.out.offTo HL.out.1 (by have := HL.out.2.2.1; have := H2.out; omega))⟩
              case measure => simp [intOf]; omega
            · have n2 : (k == 2) = false := by simp [h2]
              have hk1 : l.1 = 1 := by
                have h := List.all_eq_true.1 HPt.out l (List.mem_of_getElem? HL.out.1)
                have e := HL.out.2.2.1
                have h3 := H3.out
                unfold litOk at h
                by_cases q : l.1 = 1 ∨ l.1 = 2
                · omega
                · rw [if_neg q] at h
                  by_cases q3 : l.1 = 3
                  · omega
                  · rw [if_neg q3] at h; cases h
              have H1 := Lib.hid hk1
              have H2 := Lib.hid h2; clear h2 hk1
              have hmk := run_make_row' (P := Tryz.prog) 46 45 (.float .f64 0) 8 Tryz.underlying46 (by kernel_rfl) rfl .i64 .i64 mm (by omega) (by omega)
              have hent : ∀ args w, (callFunc 82 args).run Tryz.prog w = .ok (Next.enter 82 args) w := enters_of Tryz.func82 (by kernel_rfl) rfl
              obtain ⟨wd, ewd⟩ : ∃ wd, wx.alloc (.cells (madeCells #[.float .f64 0] mm) 45) = wd := ⟨_, rfl⟩
              have hsx : wx.heap.size = gl + 1 := by rw [← EGL.out.2, alloc_size, EGL.out.1]
              obtain ⟨gd, egd⟩ : ∃ gd, gd = gl + 1 := ⟨_, rfl⟩
              have hgd := blk_made wx (.float .f64 0) mm 45
              rw [ewd, hsx, ← egd] at hgd
              have hxd : Ext wx wd := by rw [← ewd]; exact (Kp.refl wx).alloc _
              have hsd : wd.heap.size = gd + 1 := by rw [← ewd, alloc_size, hsx, egd]
              obtain ⟨wy, ewy⟩ : ∃ wy, wd.alloc (.cells #[.string ⟨#[]⟩, .float .f64 0, .slice (some ⟨gd, 0, none⟩) mm mm] 48) = wy := ⟨_, rfl⟩
              have hgt := Blk.new wd [.string ⟨#[]⟩, .float .f64 0, .slice (some ⟨gd, 0, none⟩) mm mm] 48
              have ewy' : wd.alloc (.cells [Value.string ⟨#[]⟩, .float .f64 0, .slice (some ⟨gd, 0, none⟩) mm mm].toArray 48) = wy := ewy
              rw [ewy'] at hgt
              obtain ⟨gt, egt⟩ : ∃ gt, gt = gd + 1 := ⟨_, rfl⟩
              rw [hsd, ← egt] at hgt
              have hdy : Ext wd wy := by rw [← ewy]; exact (Kp.refl wd).alloc _
              have HGT := Lib.hid hgt
              have HGD := Lib.hid (hgd.ext hdy)
              have HXY := Lib.hid (hxd.trans hdy)
              have EGD := Lib.hid (And.intro egd (And.intro ewd (And.intro egt ewy)))
              have HIx := Lib.hid (indexC_any S sa sn scap 82 #[] #[.pointer (some ⟨gl, 0, none⟩)] (fun y => decide (y = pl)) wy HSN.out (HSE.out.ext (XX.out.trans (hxd.trans hdy))) ⟨hent, fun w' hw' y a b c d => lookFn_any y a b c d gl pl w' (by rw [((HGL.out.ext (hxd.trans hdy)).ext hw').cell']; rfl)⟩ (by omega))
              clear hsx hent hgd hxd hsd hgt ewy' hdy egd ewd egt ewy
              go_wp2_with fail
              rw [EGL.out.2, ← EGL.out.1]
              rw [EGD.out.2.1]
              rw [← EGD.out.1]
              rw [EGD.out.2.2.2]
              rw [← EGD.out.2.2.1]
              refine HIx.out.mono ?_
              rintro e wz ⟨vz, rfl, hkz, z, rfl, hz⟩
              have XZ := Lib.hid (HXY.out.trans hkz)
              have HGTz := Lib.hid (HGT.out.ext hkz)
              have HGDz := Lib.hid (HGD.out.ext hkz)
              have HBZ := Lib.hid (HBX.out.on XZ.out)
              have HGLz := Lib.hid (HGL.out.ext XZ.out)
              clear hkz c0 c1 c2 c3 c4 c5 c6 c7 b0 g0 g1 g2 g3 g4 g5 g6 g7 hmk
              rcases hz with ⟨q0, s, rfl, hq1, hq2, hq3⟩ | ⟨rfl, hz⟩
              · have hst : statOf S l = some s := statOf_first hq1 ((of_decide_eq_true hq2).trans HL.out.2.2.2.2.1) fun j u hj hu e => by
                  have := hq3 j u hj hu
                  rw [decide_eq_false_iff_not] at this
                  exact this (e.trans HL.out.2.2.2.2.1.symm)
                have hq4 : q0 < sn := by rw [HSN.out]; exact (List.getElem?_eq_some_iff.1 hq1).1
                obtain ⟨sb, soff, da, dcap, esa, d0, d1, d2, hdl, hdm, hd⟩ := HSE.out q0 s hq1
                subst esa
                have XZ0 := XX.out.trans XZ.out
                replace d0 := XZ0.cell d0 id
                replace d1 := XZ0.cell d1 id
                replace d2 := XZ0.cell d2 id
                have hfit := HKn.out.fit s (List.mem_of_getElem? hq1) l (List.mem_of_getElem? HL.out.1) H1.out ((of_decide_eq_true hq2).trans HL.out.2.2.2.2.1).symm
                have HSt := Lib.hid (And.intro hst (And.intro hq1 (And.intro hfit hd)))
                generalize hs0 : s.1 = ps at d0
                generalize hs1 : s.2.1 = px at d1
                generalize hs2 : s.2.2.1.length = dn at d2 hdl
                have HS1 := Lib.hid (And.intro hs1 hs2)
                clear hst hq1 hq2 hq3 hfit hd hs0 hs1 hs2 XZ0
                have f0 := HGTz.out.free 0
                have f1 := HGTz.out.free 1
                have f2 := HGTz.out.free 2
                have e0 : wz.cell? ⟨gt, 0, none⟩ = some (.string ⟨#[]⟩) := by rw [HGTz.out.cell']; rfl
                have e1 : wz.cell? ⟨gt, 1, none⟩ = some (.float .f64 0) := by rw [HGTz.out.cell']; rfl
                have e2 : wz.cell? ⟨gt, 2, none⟩ = some (.slice (some ⟨gd, 0, none⟩) mm mm) := by rw [HGTz.out.cell']; rfl
                go_wp2
                obtain ⟨w5, ew5⟩ : ∃ w5, ((wz.setCell ⟨gt, 0, none⟩ (.string ps)).setCell ⟨gt, 1, none⟩ (.float .f64 px)).setCell ⟨gt, 2, none⟩ (.slice da dn dcap) = w5 := ⟨_, rfl⟩
                rw [ew5]
                have hgw : wx.heap.size ≤ gt := by have := EGD.out.1; have := EGD.out.2.2.1; have h : wx.heap.size = gl + 1 := (by rw [← EGL.out.2, alloc_size, EGL.out.1]); omega
                have hx5 : Ext wx w5 := by
                  rw [← ew5]
                  exact ((Kp.setCell (F := fun _ => False) XZ.out (p := ⟨gt, 0, none⟩) (fun h => by simp only at h; omega) _).setCell (p := ⟨gt, 1, none⟩) (fun h => by simp only at h; omega) _).setCell (p := ⟨gt, 2, none⟩) (fun h => by simp only at h; omega) _
                have ht5 : Blk w5 gt [.string ps, .float .f64 px, .slice da dn dcap] 48 := by
                  rw [← ew5]; exact ((HGTz.out.set 0 _).set 1 _).set 2 _
                have hd5 : Blk w5 gd (List.replicate mm (.float .f64 0)) 45 := by
                  rw [← ew5]
                  have hne : gd ≠ gt := by have := EGD.out.2.2.1; omega
                  exact ((HGDz.out.other (p := ⟨gt, 0, none⟩) hne _).other (p := ⟨gt, 1, none⟩) hne _).other (p := ⟨gt, 2, none⟩) hne _
                have hrw : px = rowsW S l := by unfold rowsW; rw [HSt.out.1]; exact HS1.out.1.symm
                obtain ⟨ds, eds⟩ : ∃ ds, ds = s.2.2.1 := ⟨_, rfl⟩
                have HDs := Lib.hid (show (∀ W, Ext w W → Blk W gd (List.replicate mm (.float .f64 0)) 45 → CellsAt W da (flts ds)) ∧ dn = ds.length ∧ dn ≤ 1048576 ∧ ∀ c, c < mm → c < ds.length ∧ (∀ y, ds[c]? = some y → finW y = true ∧ atLeast y = distW S l c) from
                  ⟨fun W hW _ => by rw [eds]; exact HSt.out.2.2.2.ext hW, by rw [eds, HS1.out.2], by rw [← HS1.out.2]; exact HSF.out.dist s (List.mem_of_getElem? HSt.out.2.1), fun c hc => by
                    have hlen : c < s.2.2.1.length := by rw [← HSt.out.2.2.1, ← HL.out.2.1]; exact hc
                    refine ⟨by rw [eds]; exact hlen, fun y hy => ?_⟩
                    rw [eds] at hy
                    refine ⟨HKn.out.dist s (List.mem_of_getElem? HSt.out.2.1) y (List.mem_of_getElem? hy), ?_⟩
                    rw [distW_at HSt.out.1, List.getD_eq_getElem?_getD, hy]; rfl⟩)
                obtain ⟨xa, exa⟩ : ∃ xa, xa = da := ⟨_, rfl⟩
                obtain ⟨xn, exn⟩ : ∃ xn, xn = dn := ⟨_, rfl⟩
                obtain ⟨xcap, excap⟩ : ∃ xcap, xcap = dcap := ⟨_, rfl⟩
                rw [← exa] at HDs ht5
                rw [← exn] at HDs ht5
                rw [← excap] at ht5
                have X5 := Lib.hid hx5
                have T5 := Lib.hid ht5
                have D5 := Lib.hid hd5
                have HRW := Lib.hid hrw
                clear ew5 hgw hx5 ht5 hd5 hrw eds exa exn excap d0 d1 d2 f0 f1 f2 e0 e1 e2 hdl hdm hq4
                have b0 : w5.cell? ⟨gb, 0, none⟩ = some (.slice pa i pcap) := by rw [(HBX.out.blk.ext X5.out).cell']; rfl
                have g2 : w5.cell? ⟨gl, 2, none⟩ = some (.slice a2 mm cap2) := by rw [(HGL.out.ext X5.out).cell']; rfl
                have t1 : w5.cell? ⟨gt, 1, none⟩ = some (.float .f64 px) := by rw [T5.out.cell']; rfl
                have HVs := Lib.hid (varsL_one H1.out)
                have HPr := Lib.hid (show true = decide (l.1 = 1) ∧ px = rowsP S l ∧ 0 = shareP l from ⟨(decide_eq_true H1.out).symm, by rw [HRW.out]; exact (if_pos H1.out).symm, (if_pos H1.out).symm⟩)
                have HC5 := Lib.hid (show ∀ w', Ext w5 w' → (fun w' => w'.cell? ⟨gb, 0, none⟩ = some (.slice pa i pcap) ∧ w'.cell? ⟨gl, 2, none⟩ = some (.slice a2 mm cap2) ∧ w'.cell? ⟨gt, 1, none⟩ = some (.float .f64 px)) w' from fun w' hw => ⟨hw.cell b0 id, hw.cell g2 id, hw.cell t1 id⟩)
                refine draw_begin (fun w' => w'.cell? ⟨gb, 0, none⟩ = some (.slice pa i pcap) ∧ w'.cell? ⟨gl, 2, none⟩ = some (.slice a2 mm cap2) ∧ w'.cell? ⟨gt, 1, none⟩ = some (.float .f64 px)) [13, 16] (by kernel_rfl) (HC5.out _ (Kp.refl w5).drew) (fun hHeld => ?_)
                (refine draw_free (i := 0) (v := ?_) rfl ?_ ?_; rotate_left; (intro w; go_simp; try with_reducible rfl)); (try simp only [Act.put, List.setIfInBounds_toArray, List.set_cons_zero, List.set_cons_succ])
                (refine draw_free (i := 1) (v := ?_) rfl ?_ ?_; rotate_left; (intro w; go_simp; try with_reducible rfl)); (try simp only [Act.put, List.setIfInBounds_toArray, List.set_cons_zero, List.set_cons_succ])
                (refine draw_free (i := 2) (v := ?_) rfl ?_ ?_; rotate_left; (intro w; go_simp; try with_reducible rfl)); (try simp only [Act.put, List.setIfInBounds_toArray, List.set_cons_zero, List.set_cons_succ])
                (refine draw_free (i := 3) (v := ?_) rfl ?_ ?_; rotate_left; (intro w; go_simp; try with_reducible rfl)); (try simp only [Act.put, List.setIfInBounds_toArray, List.set_cons_zero, List.set_cons_succ])
                (refine draw_in (i := 4) (v := ?_) rfl ?_ ?_; rotate_left; (intro w hSw; (try dsimp only at hSw); go_simp; try with_reducible rfl)); (try simp only [Act.put, List.setIfInBounds_toArray, List.set_cons_zero, List.set_cons_succ])
                (refine draw_free (i := 5) (v := ?_) rfl ?_ ?_; rotate_left; (intro w; go_simp; try with_reducible rfl)); (try simp only [Act.put, List.setIfInBounds_toArray, List.set_cons_zero, List.set_cons_succ])
                (refine draw_in (i := 6) (v := ?_) rfl ?_ ?_; rotate_left; (intro w hSw; (try dsimp only at hSw); go_simp; try with_reducible rfl)); (try simp only [Act.put, List.setIfInBounds_toArray, List.set_cons_zero, List.set_cons_succ])
                (refine draw_free (i := 7) (v := ?_) rfl ?_ ?_; rotate_left; (intro w; go_simp; try with_reducible rfl)); (try simp only [Act.put, List.setIfInBounds_toArray, List.set_cons_zero, List.set_cons_succ])
                (refine draw_free (i := 8) (v := ?_) rfl ?_ ?_; rotate_left; (intro w; go_simp; try with_reducible rfl)); (try simp only [Act.put, List.setIfInBounds_toArray, List.set_cons_zero, List.set_cons_succ])
                (refine draw_in (i := 9) (v := ?_) rfl ?_ ?_; rotate_left; (intro w hSw; (try dsimp only at hSw); go_simp; try with_reducible rfl)); (try simp only [Act.put, List.setIfInBounds_toArray, List.set_cons_zero, List.set_cons_succ])
                refine draw_one (i := 10) ?_
                refine comes_turn (i := 10) rfl (fun K hK => ?_)
                go_simp
                ((with_reducible refine (namedC_any (termsOf l) a2 mm cap2 _ G HL.out.2.1 (HL.out.2.2.2.2.2.2.2.terms.ext (XX.out.trans X5.out.drew)) hmm).mono ?_); rintro e wn ⟨vn, rfl, hkn, hrow⟩; have XN := Lib.hid (((Kp.refl w5).drew).trans hkn); have hrow2 := hrow.mono (M' := New w3) (fun g hg => Nat.le_trans (by have h1 := hex.out.size; have h3 := X5.out.size; have h4 : wr.heap.size ≤ wx.heap.size := (by rw [← EGL.out.2, alloc_size]; omega); have h5 : w5.drew.heap.size = w5.heap.size := rfl; omega) hg); obtain ⟨va, vcap, evn, _⟩ := hrow.shape; subst evn; rw [← HVs.out] at hrow2; have XV := Lib.hid (show Ext w5 (wn.alloc (.cells #[.bool true, .float .f64 px, .float .f64 0, .slice va (varsT (termsOf l)).length vcap] 164)) from XN.out.alloc _); have HBV := HBX.out.on (X5.out.trans XV.out); obtain ⟨pv', w', hrun, hc', hfr, hkp, hbody'⟩ := BodyIn.part HBV l (va, vcap) (hrow2.alloc _) (part_cells wn S l (va, vcap) HPr.out.1 HPr.out.2.1 HPr.out.2.2 (by rw [HVs.out]) 164) (c := 1) (by rw [HIdx.out]; omega) 117; obtain ⟨pa', pn', pcap', epv'⟩ := hbody'.pshape2; subst epv'; have HFin := Lib.hid hbody'; have HT6 := Lib.hid (HBV.keepB hkp (T5.out.ext XV.out) (by decide) (by decide)); have HD6 := Lib.hid (HBV.keepB hkp (D5.out.ext XV.out) (by decide) (by decide)); have HG6 := Lib.hid (HBV.keepB hkp (HGL.out.ext (X5.out.trans XV.out)) (by decide) (by decide)); clear hbody' hkp hrow hrow2 hkn HBV)
                go_wp2_with fail
                refine hK.out _ _ ?_ (fun hHeld => ?_)
                · (try dsimp only); (exact HC5.out _ (by first | exact XN.out.alloc _ | exact XN.out))
                clear hK K; (try simp only [Act.put, List.setIfInBounds_toArray, List.set_cons_zero, List.set_cons_succ])
                (refine draw_free (i := 11) (v := ?_) rfl ?_ ?_; rotate_left; (intro w; go_simp; try with_reducible rfl)); (try simp only [Act.put, List.setIfInBounds_toArray, List.set_cons_zero, List.set_cons_succ])
                refine draw_one (i := 12) ?_
                refine comes_turn (i := 12) rfl (fun K hK => ?_)
                go_simp
                refine hK.out _ _ ?_ (fun hHeld => ?_)
                · (try dsimp only); (exact HC5.out _ (by first | exact XN.out.alloc _ | exact XN.out))
                clear hK K; (try simp only [Act.put, List.setIfInBounds_toArray, List.set_cons_zero, List.set_cons_succ])
                refine draw_one (i := 13) ?_
                refine comes_late (i := 13) rfl (by kernel_rfl) (fun K hK => ?_)
                refine draw_app rfl _ _ rfl rfl rfl hrun ?_
                refine hK.out _ _ ?_
                clear hK K; (try simp only [Act.put, List.setIfInBounds_toArray, List.set_cons_zero, List.set_cons_succ])
                (refine draw_free (i := 14) (v := ?_) rfl ?_ ?_; rotate_left; (intro w; go_simp; try with_reducible rfl)); (try simp only [Act.put, List.setIfInBounds_toArray, List.set_cons_zero, List.set_cons_succ])
                (refine draw_free (i := 15) (v := ?_) rfl ?_ ?_; rotate_left; (intro w; go_simp; try with_reducible rfl)); (try simp only [Act.put, List.setIfInBounds_toArray, List.set_cons_zero, List.set_cons_succ])
                refine draw_one (i := 16) ?_
                refine comes_late (i := 16) rfl (by kernel_rfl) (fun K hK => ?_)
                go_simp
                refine hK.out _ _ ?_
                clear hK K; (try simp only [Act.put, List.setIfInBounds_toArray, List.set_cons_zero, List.set_cons_succ])
                refine wpAnyD_done (by kernel_rfl) ?_ _
                generalize hw6 : w'.setCell ⟨gb, 0, none⟩ (.slice pa' pn' pcap') = w6 at *
                clear hw6
                have q2 : w6.cell? ⟨gl, 2, none⟩ = some (.slice a2 mm cap2) := by rw [HG6.out.cell']; rfl
                clear b0 g2 t1
                go_wp2
                clear q2
                go_loopw [112] (fun iv wr => TermTo w3 gb gm (.slice na nn ncap) S ls i l gt [.string ps, .float .f64 px, .slice xa xn xcap] gd (List.replicate mm (.float .f64 0)) mm iv wr) (fun iv _ => mm - (intOf iv).toNat)
                case atStart => exact ⟨0, Nat.zero_le _, rfl, ⟨_, _, _, _, by have h := HFin.out; simpa [spotsCol_zero, constsCol_zero] using h⟩, HT6.out, HD6.out⟩
                case round =>
                  obtain ⟨c, hc, rfl, hb7, ht7, hd7⟩ := hrel
                  obtain ⟨col7, pv7, cv7, m7, hb7⟩ := hb7.out
                  have X7 := Lib.hid (X3.out.trans hb7.ext)
                  by_cases hlt7 : c < mm
                  · obtain ⟨t, ht⟩ : ∃ t, (termsOf l)[c]? = some t := ⟨_, List.getElem?_eq_getElem (by rw [← HL.out.2.1]; exact hlt7)⟩
                    obtain ⟨bt, offt, eaot, u0, u1, _⟩ := term_at (HL.out.2.2.2.2.2.2.2.terms.ext X7.out) ht
                    subst eaot
                    obtain ⟨kt, st, ⟨⟩⟩ := t
                    simp only at u0 u1
                    have HT := Lib.hid ht
                    obtain ⟨hcl, hcf⟩ := HDs.out.2.2.2 c hlt7
                    obtain ⟨xb, xoff, exa, v0⟩ := (HDs.out.1 _ X7.out hd7.out).flt hcl
                    subst exa
                    have hyd := hcf _ (List.getElem?_eq_getElem hcl)
                    have hcx : c < xn := by rw [HDs.out.2.1]; exact hcl
                    generalize ds[c] = y at *
                    have hmax := fun (at_ : Array TypeId) (ty : TypeId) (W : World) => max_one_run hyd.1 at_ ty W
                    rw [hyd.2] at hmax
                    obtain ⟨D, eD⟩ : ∃ D, D = distW S l c := ⟨_, rfl⟩
                    rw [← eD] at hmax
                    have HD := Lib.hid eD
                    have t2 : wr.cell? ⟨gt, 2, none⟩ = some (.slice (some ⟨xb, xoff, none⟩) xn xcap) := by rw [ht7.out.cell']; rfl
                    obtain ⟨gq, egq⟩ : ∃ gq, gq = wr.heap.size := ⟨_, rfl⟩
                    obtain ⟨wq, ewq⟩ : ∃ wq, wr.alloc (.cells #[.int .i64 kt, .string st] 94) = wq := ⟨_, rfl⟩
                    have hgq := Blk.new wr [.int .i64 kt, .string st] 94
                    have ewq' : wr.alloc (.cells [Value.int .i64 kt, .string st].toArray 94) = wq := ewq
                    rw [ewq', ← egq] at hgq
                    have hsq : wq.heap.size = gq + 1 := by rw [← ewq, alloc_size, egq]
                    obtain ⟨gs, egs⟩ : ∃ gs, gs = gq + 1 := ⟨_, rfl⟩
                    obtain ⟨w7, ew7⟩ : ∃ w7, wq.alloc (.cells #[.int .i64 i, .float .f64 D] 168) = w7 := ⟨_, rfl⟩
                    have hgs := Blk.new wq [.int .i64 i, .float .f64 D] 168
                    have ew7' : wq.alloc (.cells [Value.int .i64 i, .float .f64 D].toArray 168) = w7 := ew7
                    rw [ew7', hsq, ← egs] at hgs
                    have hx7 : Ext wr w7 := by rw [← ew7, ← ewq]; exact ((Kp.refl wr).alloc _).alloc _
                    have HQ := Lib.hid (show Blk w7 gq [.int .i64 kt, .string st] 94 from hgq.ext (by rw [← ew7]; exact (Kp.refl wq).alloc _))
                    have HG := Lib.hid hgs
                    have HB7 := Lib.hid (hb7.on hx7)
                    have HOwn := Lib.hid (fun (v : ByteArray) (g : Nat) (hg : ((getM m7 v).getD (.slice none 0 0)).ownBlock = some g) => (hb7.spots v).ltB hg)
                    have HT7 := Lib.hid (ht7.out.ext hx7)
                    have HD7 := Lib.hid (hd7.out.ext hx7)
                    have HX7 := Lib.hid (X7.out.trans hx7)
                    have EG7 := Lib.hid (And.intro egq (And.intro ewq (And.intro egs ew7)))
                    have t2q : (wr.alloc (.cells #[.int .i64 kt, .string st] 94)).cell? ⟨gt, 2, none⟩ = some (.slice (some ⟨xb, xoff, none⟩) xn xcap) := ((Kp.refl (F := fun _ => False) wr).alloc _).cell t2 id
                    have v0q : (wr.alloc (.cells #[.int .i64 kt, .string st] 94)).cell? ⟨xb, xoff + c, none⟩ = some (.float .f64 y) := ((Kp.refl (F := fun _ => False) wr).alloc _).cell v0 id
                    have k0q : ((wr.alloc (.cells #[.int .i64 kt, .string st] 94)).alloc (.cells #[.int .i64 i, .float .f64 D] 168)).cell? ⟨wr.heap.size, 0, none⟩ = some (.int .i64 kt) := by rw [ewq, ew7, ← egq, HQ.out.cell']; rfl
                    have s0 : w7.cell? ⟨gs, 0, none⟩ = some (.int .i64 i) := by rw [hgs.cell']; rfl
                    have s1 : w7.cell? ⟨gs, 1, none⟩ = some (.float .f64 D) := by rw [hgs.cell']; rfl
                    have k0 : w7.cell? ⟨gq, 0, none⟩ = some (.int .i64 kt) := by rw [HQ.out.cell']; rfl
                    have k1 : w7.cell? ⟨gq, 1, none⟩ = some (.string st) := by rw [HQ.out.cell']; rfl
                    have m2 : w7.cell? ⟨gb, 2, none⟩ = some (.map (some gm)) := by rw [HB7.out.blk.cell']; rfl
                    have m3 : w7.cell? ⟨gb, 3, none⟩ = some cv7 := by rw [HB7.out.blk.cell']; rfl
                    have xn1 : xn ≤ 1048576 := HDs.out.2.2.1
                    clear ht hcl hcf hyd eD egq ewq' hgq hsq egs ew7' hgs hx7 hb7 ht7 hd7 ewq ew7
                    by_cases k1' : kt = 1
                    · subst k1'
                      go_wp2
                      rw [EG7.out.2.1]
                      rw [← EG7.out.1]
                      rw [EG7.out.2.2.2]
                      rw [← EG7.out.2.2.1]
                      obtain ⟨ua, uw, eu, _⟩ := (HB7.out.spots st).shape
                      have hul : (spotsP S st 0 (ls.take i) ++ spotsCol S st l i c).length ≤ 1099513724928 := spots_len_all HF.out (List.length_take_le _ _) (by have := HN.out; omega) (by omega)
                      generalize hun : (spotsP S st 0 (ls.take i) ++ spotsCol S st l i c).length = un at eu
                      have HLk := Lib.hid (fun (W : World) (hW : Ext w7 W) => (show (Instr.lookup 118 (.map (some gm)) (.string st) false).run Tryz.prog W = .ok (.slice ua un uw) W by
                        rw [← eu]; exact run_lookup_str (P := Tryz.prog) Tryz.underlying118 Tryz.underlying9 (z := .slice none 0 0) (by kernel_rfl) (HB7.out.map.ext hW) st))
                      have HC7 := Lib.hid (show ∀ w', Ext w7 w' → (fun w' => w'.cell? ⟨gb, 2, none⟩ = some (.map (some gm)) ∧ w'.cell? ⟨gq, 1, none⟩ = some (.string st) ∧ w'.cell? ⟨gs, 0, none⟩ = some (.int .i64 i) ∧ w'.cell? ⟨gs, 1, none⟩ = some (.float .f64 D) ∧ (Instr.lookup 118 (.map (some gm)) (.string st) false).run Tryz.prog w' = .ok (.slice ua un uw) w') w' from fun w' hw => ⟨hw.cell m2 id, hw.cell k1 id, hw.cell s0 id, hw.cell s1 id, HLk.out _ hw⟩)
                      have XV := (Kp.refl (F := fun _ => False) w7).drew.alloc (.cells #[.int .i64 i, .float .f64 D] 168)
                      obtain ⟨v', w', w'', hrun, hrun2, hkw, hmw, hkp, col', hbody'⟩ := BodyIn.spot (HB7.out.on XV) st (i, D) (c := 1) (CellsAt.two w7.drew (.int .i64 i) (.float .f64 D) 168) hul 119
                      have hlt7' : ∀ g, ((getM m7 st).getD (.slice none 0 0)).ownBlock = some g → g < wr.heap.size := fun g hg => HOwn.out st g hg
                      have hqs : gq = wr.heap.size := EG7.out.1
                      have hss : gs = gq + 1 := EG7.out.2.2.1
                      have hB7' : Blk w' gb _ 121 := (HB7.out.blk.ext XV).kp hkw fun e => by
                        obtain ⟨cs, hb⟩ := ((HB7.out.on XV).spots st).blkOf e
                        exact typ_sb (blk_ne hb (HB7.out.blk.ext XV))
                      have HSW := Lib.hid (show w'.cell? ⟨gb, 2, none⟩ = some (.map (some gm)) ∧ w'.cell? ⟨gq, 1, none⟩ = some (.string st) ∧ w'.cell? ⟨gs, 0, none⟩ = some (.int .i64 i) ∧ w'.cell? ⟨gs, 1, none⟩ = some (.float .f64 D) ∧ (Instr.lookup 118 (.map (some gm)) (.string st) false).run Tryz.prog w' = .ok (.slice ua un uw) w' from
                        ⟨by rw [hB7'.cell']; rfl, hkw.cell (XV.cell k1 id) (fun e => by have := hlt7' _ e; omega), hkw.cell (XV.cell s0 id) (fun e => by have := hlt7' _ e; omega), hkw.cell (XV.cell s1 id) (fun e => by have := hlt7' _ e; omega), by rw [← eu]; exact run_lookup_str (P := Tryz.prog) Tryz.underlying118 Tryz.underlying9 (z := .slice none 0 0) (by kernel_rfl) hmw st⟩)
                      rw [eu] at hrun
                      have HFin7 := Lib.hid hbody'
                      have HT8 := Lib.hid ((HB7.out.on XV).keepM hkp (HT7.out.ext XV) (by decide))
                      have HD8 := Lib.hid ((HB7.out.on XV).keepM hkp (HD7.out.ext XV) (by decide))
                      clear hbody' hkp hkw hmw hlt7' hqs hss hB7' hul hun eu XV t2 v0 t2q v0q k0q u0 u1 hmax m3 k0
                      refine draw_begin (fun w' => w'.cell? ⟨gb, 2, none⟩ = some (.map (some gm)) ∧ w'.cell? ⟨gq, 1, none⟩ = some (.string st) ∧ w'.cell? ⟨gs, 0, none⟩ = some (.int .i64 i) ∧ w'.cell? ⟨gs, 1, none⟩ = some (.float .f64 D) ∧ (Instr.lookup 118 (.map (some gm)) (.string st) false).run Tryz.prog w' = .ok (.slice ua un uw) w') [16] (by kernel_rfl) (HC7.out _ (Kp.refl w7).drew) (fun hHeld => ?_)
                      (refine draw_free (i := 0) (v := ?_) rfl ?_ ?_; rotate_left; (intro w; go_simp; try with_reducible rfl)); (try simp only [Act.put, List.setIfInBounds_toArray, List.set_cons_zero, List.set_cons_succ])
                      (refine draw_free (i := 1) (v := ?_) rfl ?_ ?_; rotate_left; (intro w; go_simp; try with_reducible rfl)); (try simp only [Act.put, List.setIfInBounds_toArray, List.set_cons_zero, List.set_cons_succ])
                      (refine draw_free (i := 2) (v := ?_) rfl ?_ ?_; rotate_left; (intro w; go_simp; try with_reducible rfl)); (try simp only [Act.put, List.setIfInBounds_toArray, List.set_cons_zero, List.set_cons_succ])
                      (refine draw_in (i := 3) (v := ?_) rfl ?_ ?_; rotate_left; (intro w hSw; (try dsimp only at hSw); go_simp; try with_reducible rfl)); (try simp only [Act.put, List.setIfInBounds_toArray, List.set_cons_zero, List.set_cons_succ])
                      (refine draw_free (i := 4) (v := ?_) rfl ?_ ?_; rotate_left; (intro w; go_simp; try with_reducible rfl)); (try simp only [Act.put, List.setIfInBounds_toArray, List.set_cons_zero, List.set_cons_succ])
                      (refine draw_in (i := 5) (v := ?_) rfl ?_ ?_; rotate_left; (intro w hSw; (try dsimp only at hSw); go_simp; try with_reducible rfl)); (try simp only [Act.put, List.setIfInBounds_toArray, List.set_cons_zero, List.set_cons_succ])
                      (refine draw_free (i := 6) (v := ?_) rfl ?_ ?_; rotate_left; (intro w; go_simp; try with_reducible rfl)); (try simp only [Act.put, List.setIfInBounds_toArray, List.set_cons_zero, List.set_cons_succ])
                      (refine draw_free (i := 7) (v := ?_) rfl ?_ ?_; rotate_left; (intro w; go_simp; try with_reducible rfl)); (try simp only [Act.put, List.setIfInBounds_toArray, List.set_cons_zero, List.set_cons_succ])
                      (refine draw_free (i := 8) (v := ?_) rfl ?_ ?_; rotate_left; (intro w; go_simp; try with_reducible rfl)); (try simp only [Act.put, List.setIfInBounds_toArray, List.set_cons_zero, List.set_cons_succ])
                      (refine draw_in (i := 9) (v := ?_) rfl ?_ ?_; rotate_left; (intro w hSw; (try dsimp only at hSw); go_simp; try with_reducible rfl)); (try simp only [Act.put, List.setIfInBounds_toArray, List.set_cons_zero, List.set_cons_succ])
                      (refine draw_free (i := 10) (v := ?_) rfl ?_ ?_; rotate_left; (intro w; go_simp; try with_reducible rfl)); (try simp only [Act.put, List.setIfInBounds_toArray, List.set_cons_zero, List.set_cons_succ])
                      (refine draw_in (i := 11) (v := ?_) rfl ?_ ?_; rotate_left; (intro w hSw; (try dsimp only at hSw); go_simp; try with_reducible rfl)); (try simp only [Act.put, List.setIfInBounds_toArray, List.set_cons_zero, List.set_cons_succ])
                      (refine draw_in (i := 12) (v := ?_) rfl ?_ ?_; rotate_left; (intro w hSw; (try dsimp only at hSw); go_simp; try with_reducible rfl)); (try simp only [Act.put, List.setIfInBounds_toArray, List.set_cons_zero, List.set_cons_succ])
                      (refine draw_in (i := 13) (v := ?_) rfl ?_ ?_; rotate_left; (intro w hSw; (try dsimp only at hSw); go_simp; try with_reducible rfl)); (try simp only [Act.put, List.setIfInBounds_toArray, List.set_cons_zero, List.set_cons_succ])
                      refine draw_one (i := 14) ?_
                      refine comes_turn (i := 14) rfl (fun K hK => ?_)
                      go_simp
                      refine hK.out _ _ ?_ (fun hHeld => ?_)
                      · (try dsimp only); (exact HC7.out _ ((Kp.refl w7).drew.alloc _))
                      clear hK K; (try simp only [Act.put, List.setIfInBounds_toArray, List.set_cons_zero, List.set_cons_succ])
                      refine draw_one (i := 15) ?_
                      refine comes_turn (i := 15) rfl (fun K hK => ?_)
                      refine draw_app rfl _ _ rfl rfl rfl hrun ?_
                      refine hK.out _ _ ?_ (fun hHeld => ?_)
                      · (try dsimp only); (exact HSW.out)
                      clear hK K; (try simp only [Act.put, List.setIfInBounds_toArray, List.set_cons_zero, List.set_cons_succ])
                      refine draw_one (i := 16) ?_
                      refine comes_late (i := 16) rfl (by kernel_rfl) (fun K hK => ?_)
                      go_simp
                      refine hK.out _ _ ?_
                      clear hK K; (try simp only [Act.put, List.setIfInBounds_toArray, List.set_cons_zero, List.set_cons_succ])
                      refine wpAnyD_done (by kernel_rfl) ?_ _
                      go_wp2
                      go_roundw
                      case rel => exact ⟨c + 1, by omega, by first | rfl | (congr 1; done) | (congr 1; omega), Lib.hid ⟨_, _, _, _, term_var HFin7.out HT.out HD.out⟩, HT8.out, HD8.out⟩
                      case measure => simp [intOf]; omega
                    · have n1 : (kt == 1) = false := by simp [k1']
                      by_cases k3' : kt = 3
                      · subst k3'
                        obtain ⟨ca, cnn, ccap, ecv⟩ := HB7.out.cshape
                        subst ecv
                        have hul : (constsP S 0 (ls.take i) ++ constsCol S l i c).length ≤ 1099513724928 := consts_len_all HF.out (List.length_take_le _ _) (by have := HN.out; omega) (by omega)
                        have HC7 := Lib.hid (show ∀ w', Ext w7 w' → (fun w' => w'.cell? ⟨gb, 3, none⟩ = some (.slice ca cnn ccap) ∧ w'.cell? ⟨gs, 0, none⟩ = some (.int .i64 i) ∧ w'.cell? ⟨gs, 1, none⟩ = some (.float .f64 D)) w' from fun w' hw => ⟨hw.cell m3 id, hw.cell s0 id, hw.cell s1 id⟩)
                        have XV := (Kp.refl (F := fun _ => False) w7).drew.alloc (.cells #[.int .i64 i, .float .f64 D] 168)
                        obtain ⟨cv', w', hrun, hc', hfr, hkp, col', hbody'⟩ := BodyIn.const (HB7.out.on XV) (i, D) (c := 1) (CellsAt.two w7.drew (.int .i64 i) (.float .f64 D) 168) hul 119
                        obtain ⟨ca', cn', ccap', ecv'⟩ := hbody'.cshape
                        subst ecv'
                        have HFin7 := Lib.hid hbody'
                        have HT8 := Lib.hid ((HB7.out.on XV).keepB hkp (HT7.out.ext XV) (by decide) (by decide))
                        have HD8 := Lib.hid ((HB7.out.on XV).keepB hkp (HD7.out.ext XV) (by decide) (by decide))
                        go_wp2
                        rw [EG7.out.2.1]
                        rw [← EG7.out.1]
                        rw [EG7.out.2.2.2]
                        rw [← EG7.out.2.2.1]
                        clear hbody' hkp hul XV t2 v0 t2q v0q k0q u0 u1 hmax m2 k0 k1
                        refine draw_begin (fun w' => w'.cell? ⟨gb, 3, none⟩ = some (.slice ca cnn ccap) ∧ w'.cell? ⟨gs, 0, none⟩ = some (.int .i64 i) ∧ w'.cell? ⟨gs, 1, none⟩ = some (.float .f64 D)) [7, 10] (by kernel_rfl) (HC7.out _ (Kp.refl w7).drew) (fun hHeld => ?_)
                        (refine draw_free (i := 0) (v := ?_) rfl ?_ ?_; rotate_left; (intro w; go_simp; try with_reducible rfl)); (try simp only [Act.put, List.setIfInBounds_toArray, List.set_cons_zero, List.set_cons_succ])
                        (refine draw_free (i := 1) (v := ?_) rfl ?_ ?_; rotate_left; (intro w; go_simp; try with_reducible rfl)); (try simp only [Act.put, List.setIfInBounds_toArray, List.set_cons_zero, List.set_cons_succ])
                        (refine draw_free (i := 2) (v := ?_) rfl ?_ ?_; rotate_left; (intro w; go_simp; try with_reducible rfl)); (try simp only [Act.put, List.setIfInBounds_toArray, List.set_cons_zero, List.set_cons_succ])
                        (refine draw_free (i := 3) (v := ?_) rfl ?_ ?_; rotate_left; (intro w; go_simp; try with_reducible rfl)); (try simp only [Act.put, List.setIfInBounds_toArray, List.set_cons_zero, List.set_cons_succ])
                        (refine draw_in (i := 4) (v := ?_) rfl ?_ ?_; rotate_left; (intro w hSw; (try dsimp only at hSw); go_simp; try with_reducible rfl)); (try simp only [Act.put, List.setIfInBounds_toArray, List.set_cons_zero, List.set_cons_succ])
                        (refine draw_in (i := 5) (v := ?_) rfl ?_ ?_; rotate_left; (intro w hSw; (try dsimp only at hSw); go_simp; try with_reducible rfl)); (try simp only [Act.put, List.setIfInBounds_toArray, List.set_cons_zero, List.set_cons_succ])
                        refine draw_one (i := 6) ?_
                        refine comes_turn (i := 6) rfl (fun K hK => ?_)
                        go_simp
                        refine hK.out _ _ ?_ (fun hHeld => ?_)
                        · (try dsimp only); (exact HC7.out _ ((Kp.refl w7).drew.alloc _))
                        clear hK K; (try simp only [Act.put, List.setIfInBounds_toArray, List.set_cons_zero, List.set_cons_succ])
                        refine draw_one (i := 7) ?_
                        refine comes_late (i := 7) rfl (by kernel_rfl) (fun K hK => ?_)
                        refine draw_app rfl _ _ rfl rfl rfl hrun ?_
                        refine hK.out _ _ ?_
                        clear hK K; (try simp only [Act.put, List.setIfInBounds_toArray, List.set_cons_zero, List.set_cons_succ])
                        (refine draw_free (i := 8) (v := ?_) rfl ?_ ?_; rotate_left; (intro w; go_simp; try with_reducible rfl)); (try simp only [Act.put, List.setIfInBounds_toArray, List.set_cons_zero, List.set_cons_succ])
                        (refine draw_free (i := 9) (v := ?_) rfl ?_ ?_; rotate_left; (intro w; go_simp; try with_reducible rfl)); (try simp only [Act.put, List.setIfInBounds_toArray, List.set_cons_zero, List.set_cons_succ])
                        refine draw_one (i := 10) ?_
                        refine comes_late (i := 10) rfl (by kernel_rfl) (fun K hK => ?_)
                        go_simp
                        refine hK.out _ _ ?_
                        clear hK K; (try simp only [Act.put, List.setIfInBounds_toArray, List.set_cons_zero, List.set_cons_succ])
                        refine wpAnyD_done (by kernel_rfl) ?_ _
                        go_wp2
                        go_roundw
                        case rel => exact ⟨c + 1, by omega, by first | rfl | (congr 1; done) | (congr 1; omega), Lib.hid ⟨_, _, _, _, term_const HFin7.out HT.out HD.out⟩, HT8.out, HD8.out⟩
                        case measure => simp [intOf]; omega
                      · have n3 : (kt == 3) = false := by simp [k3']
                        have HNo := Lib.hid (And.intro k1' k3')
                        have HW7 := Lib.hid (EG7.out.2.2.2.symm.trans (by rw [← EG7.out.2.1]))
                        clear k1' k3'
                        go_wp2
                        go_roundw
                        case rel =>
                          rw [← HW7.out]
                          exact ⟨c + 1, by omega, by first | rfl | (congr 1; done) | (congr 1; omega), Lib.hid ⟨_, _, _, _, term_any HB7.out HT.out HNo.out.1 HNo.out.2⟩, HT7.out, HD7.out⟩
                        case measure => simp [intOf]; omega
                  · have HFin7 := Lib.hid (term_end hb7 HL.out.1 H1.out (by have := HL.out.2.1; omega))
                    have hcm : ¬ (c : Int) < (mm : Int) := by omega
                    clear hb7
                    go_wp2
                    go_roundw
                    case rel => exact ⟨i + 1, by omega, by first | rfl | (congr 1; done) | (congr 1; omega), Lib.hid ⟨_, _, _, _, HFin7.out⟩⟩
                    case measure => simp [intOf]; omega
              · have hst : statOf S l = none := statOf_none fun u hu e => by
                  have := hz u hu
                  rw [decide_eq_false_iff_not] at this
                  exact this (e.trans HL.out.2.2.2.2.1.symm)
                go_wp2
                obtain ⟨w5, ew5⟩ : ∃ w5, wz = w5 := ⟨_, rfl⟩
                rw [ew5]
                have hx5 : Ext wx w5 := by rw [← ew5]; exact XZ.out
                obtain ⟨ps, eps⟩ : ∃ ps : ByteArray, ps = ⟨#[]⟩ := ⟨_, rfl⟩
                obtain ⟨px, epx⟩ : ∃ px : Nat, px = 0 := ⟨_, rfl⟩
                have ht5 : Blk w5 gt [.string ps, .float .f64 px, .slice (some ⟨gd, 0, none⟩) mm mm] 48 := by
                  rw [← ew5, eps, epx]; exact HGTz.out
                have hd5 : Blk w5 gd (List.replicate mm (.float .f64 0)) 45 := by
                  rw [← ew5]; exact HGDz.out
                have hrw : px = rowsW S l := by unfold rowsW; rw [hst, epx]
                obtain ⟨ds, eds⟩ : ∃ ds : List Nat, ds = List.replicate mm 0 := ⟨_, rfl⟩
                obtain ⟨xa, exa⟩ : ∃ xa : Option Addr, xa = some ⟨gd, 0, none⟩ := ⟨_, rfl⟩
                obtain ⟨xn, exn⟩ : ∃ xn, xn = mm := ⟨_, rfl⟩
                obtain ⟨xcap, excap⟩ : ∃ xcap, xcap = mm := ⟨_, rfl⟩
                have HDs := Lib.hid (show (∀ W, Ext w W → Blk W gd (List.replicate mm (.float .f64 0)) 45 → CellsAt W xa (flts ds)) ∧ xn = ds.length ∧ xn ≤ 1048576 ∧ ∀ c, c < mm → c < ds.length ∧ (∀ y, ds[c]? = some y → finW y = true ∧ atLeast y = distW S l c) from
                  ⟨fun W _ hB => by
                    rw [eds, exa]
                    have e : flts (List.replicate mm 0) = List.replicate mm (.float .f64 0) := by simp [flts]
                    rw [e]; exact CellsAt.pre (rest := []) (by rw [List.append_nil]; exact hB), by rw [exn, eds, List.length_replicate], by rw [exn]; exact hmm, fun c hc => by
                    refine ⟨by rw [eds, List.length_replicate]; exact hc, fun y hy => ?_⟩
                    rw [eds, List.getElem?_replicate, if_pos hc] at hy
                    cases hy
                    rw [distW_none hst]; decide⟩)
                rw [← exa] at ht5
                rw [show Value.slice xa mm mm = .slice xa xn xcap by rw [exn, excap]] at ht5
                have X5 := Lib.hid hx5
                have T5 := Lib.hid ht5
                have D5 := Lib.hid hd5
                have HRW := Lib.hid hrw
                clear ew5 hx5 ht5 hd5 hrw eds exa exn excap eps epx hst hz
                have b0 : w5.cell? ⟨gb, 0, none⟩ = some (.slice pa i pcap) := by rw [(HBX.out.blk.ext X5.out).cell']; rfl
                have g2 : w5.cell? ⟨gl, 2, none⟩ = some (.slice a2 mm cap2) := by rw [(HGL.out.ext X5.out).cell']; rfl
                have t1 : w5.cell? ⟨gt, 1, none⟩ = some (.float .f64 px) := by rw [T5.out.cell']; rfl
                have HVs := Lib.hid (varsL_one H1.out)
                have HPr := Lib.hid (show true = decide (l.1 = 1) ∧ px = rowsP S l ∧ 0 = shareP l from ⟨(decide_eq_true H1.out).symm, by rw [HRW.out]; exact (if_pos H1.out).symm, (if_pos H1.out).symm⟩)
                have HC5 := Lib.hid (show ∀ w', Ext w5 w' → (fun w' => w'.cell? ⟨gb, 0, none⟩ = some (.slice pa i pcap) ∧ w'.cell? ⟨gl, 2, none⟩ = some (.slice a2 mm cap2) ∧ w'.cell? ⟨gt, 1, none⟩ = some (.float .f64 px)) w' from fun w' hw => ⟨hw.cell b0 id, hw.cell g2 id, hw.cell t1 id⟩)
                refine draw_begin (fun w' => w'.cell? ⟨gb, 0, none⟩ = some (.slice pa i pcap) ∧ w'.cell? ⟨gl, 2, none⟩ = some (.slice a2 mm cap2) ∧ w'.cell? ⟨gt, 1, none⟩ = some (.float .f64 px)) [13, 16] (by kernel_rfl) (HC5.out _ (Kp.refl w5).drew) (fun hHeld => ?_)
                (refine draw_free (i := 0) (v := ?_) rfl ?_ ?_; rotate_left; (intro w; go_simp; try with_reducible rfl)); (try simp only [Act.put, List.setIfInBounds_toArray, List.set_cons_zero, List.set_cons_succ])
                (refine draw_free (i := 1) (v := ?_) rfl ?_ ?_; rotate_left; (intro w; go_simp; try with_reducible rfl)); (try simp only [Act.put, List.setIfInBounds_toArray, List.set_cons_zero, List.set_cons_succ])
                (refine draw_free (i := 2) (v := ?_) rfl ?_ ?_; rotate_left; (intro w; go_simp; try with_reducible rfl)); (try simp only [Act.put, List.setIfInBounds_toArray, List.set_cons_zero, List.set_cons_succ])
                (refine draw_free (i := 3) (v := ?_) rfl ?_ ?_; rotate_left; (intro w; go_simp; try with_reducible rfl)); (try simp only [Act.put, List.setIfInBounds_toArray, List.set_cons_zero, List.set_cons_succ])
                (refine draw_in (i := 4) (v := ?_) rfl ?_ ?_; rotate_left; (intro w hSw; (try dsimp only at hSw); go_simp; try with_reducible rfl)); (try simp only [Act.put, List.setIfInBounds_toArray, List.set_cons_zero, List.set_cons_succ])
                (refine draw_free (i := 5) (v := ?_) rfl ?_ ?_; rotate_left; (intro w; go_simp; try with_reducible rfl)); (try simp only [Act.put, List.setIfInBounds_toArray, List.set_cons_zero, List.set_cons_succ])
                (refine draw_in (i := 6) (v := ?_) rfl ?_ ?_; rotate_left; (intro w hSw; (try dsimp only at hSw); go_simp; try with_reducible rfl)); (try simp only [Act.put, List.setIfInBounds_toArray, List.set_cons_zero, List.set_cons_succ])
                (refine draw_free (i := 7) (v := ?_) rfl ?_ ?_; rotate_left; (intro w; go_simp; try with_reducible rfl)); (try simp only [Act.put, List.setIfInBounds_toArray, List.set_cons_zero, List.set_cons_succ])
                (refine draw_free (i := 8) (v := ?_) rfl ?_ ?_; rotate_left; (intro w; go_simp; try with_reducible rfl)); (try simp only [Act.put, List.setIfInBounds_toArray, List.set_cons_zero, List.set_cons_succ])
                (refine draw_in (i := 9) (v := ?_) rfl ?_ ?_; rotate_left; (intro w hSw; (try dsimp only at hSw); go_simp; try with_reducible rfl)); (try simp only [Act.put, List.setIfInBounds_toArray, List.set_cons_zero, List.set_cons_succ])
                refine draw_one (i := 10) ?_
                refine comes_turn (i := 10) rfl (fun K hK => ?_)
                go_simp
                ((with_reducible refine (namedC_any (termsOf l) a2 mm cap2 _ G HL.out.2.1 (HL.out.2.2.2.2.2.2.2.terms.ext (XX.out.trans X5.out.drew)) hmm).mono ?_); rintro e wn ⟨vn, rfl, hkn, hrow⟩; have XN := Lib.hid (((Kp.refl w5).drew).trans hkn); have hrow2 := hrow.mono (M' := New w3) (fun g hg => Nat.le_trans (by have h1 := hex.out.size; have h3 := X5.out.size; have h4 : wr.heap.size ≤ wx.heap.size := (by rw [← EGL.out.2, alloc_size]; omega); have h5 : w5.drew.heap.size = w5.heap.size := rfl; omega) hg); obtain ⟨va, vcap, evn, _⟩ := hrow.shape; subst evn; rw [← HVs.out] at hrow2; have XV := Lib.hid (show Ext w5 (wn.alloc (.cells #[.bool true, .float .f64 px, .float .f64 0, .slice va (varsT (termsOf l)).length vcap] 164)) from XN.out.alloc _); have HBV := HBX.out.on (X5.out.trans XV.out); obtain ⟨pv', w', hrun, hc', hfr, hkp, hbody'⟩ := BodyIn.part HBV l (va, vcap) (hrow2.alloc _) (part_cells wn S l (va, vcap) HPr.out.1 HPr.out.2.1 HPr.out.2.2 (by rw [HVs.out]) 164) (c := 1) (by rw [HIdx.out]; omega) 117; obtain ⟨pa', pn', pcap', epv'⟩ := hbody'.pshape2; subst epv'; have HFin := Lib.hid hbody'; have HT6 := Lib.hid (HBV.keepB hkp (T5.out.ext XV.out) (by decide) (by decide)); have HD6 := Lib.hid (HBV.keepB hkp (D5.out.ext XV.out) (by decide) (by decide)); have HG6 := Lib.hid (HBV.keepB hkp (HGL.out.ext (X5.out.trans XV.out)) (by decide) (by decide)); clear hbody' hkp hrow hrow2 hkn HBV)
                go_wp2_with fail
                refine hK.out _ _ ?_ (fun hHeld => ?_)
                · (try dsimp only); (exact HC5.out _ (by first | exact XN.out.alloc _ | exact XN.out))
                clear hK K; (try simp only [Act.put, List.setIfInBounds_toArray, List.set_cons_zero, List.set_cons_succ])
                (refine draw_free (i := 11) (v := ?_) rfl ?_ ?_; rotate_left; (intro w; go_simp; try with_reducible rfl)); (try simp only [Act.put, List.setIfInBounds_toArray, List.set_cons_zero, List.set_cons_succ])
                refine draw_one (i := 12) ?_
                refine comes_turn (i := 12) rfl (fun K hK => ?_)
                go_simp
                refine hK.out _ _ ?_ (fun hHeld => ?_)
                · (try dsimp only); (exact HC5.out _ (by first | exact XN.out.alloc _ | exact XN.out))
                clear hK K; (try simp only [Act.put, List.setIfInBounds_toArray, List.set_cons_zero, List.set_cons_succ])
                refine draw_one (i := 13) ?_
                refine comes_late (i := 13) rfl (by kernel_rfl) (fun K hK => ?_)
                refine draw_app rfl _ _ rfl rfl rfl hrun ?_
                refine hK.out _ _ ?_
                clear hK K; (try simp only [Act.put, List.setIfInBounds_toArray, List.set_cons_zero, List.set_cons_succ])
                (refine draw_free (i := 14) (v := ?_) rfl ?_ ?_; rotate_left; (intro w; go_simp; try with_reducible rfl)); (try simp only [Act.put, List.setIfInBounds_toArray, List.set_cons_zero, List.set_cons_succ])
                (refine draw_free (i := 15) (v := ?_) rfl ?_ ?_; rotate_left; (intro w; go_simp; try with_reducible rfl)); (try simp only [Act.put, List.setIfInBounds_toArray, List.set_cons_zero, List.set_cons_succ])
                refine draw_one (i := 16) ?_
                refine comes_late (i := 16) rfl (by kernel_rfl) (fun K hK => ?_)
                go_simp
                refine hK.out _ _ ?_
                clear hK K; (try simp only [Act.put, List.setIfInBounds_toArray, List.set_cons_zero, List.set_cons_succ])
                refine wpAnyD_done (by kernel_rfl) ?_ _
                generalize hw6 : w'.setCell ⟨gb, 0, none⟩ (.slice pa' pn' pcap') = w6 at *
                clear hw6
                have q2 : w6.cell? ⟨gl, 2, none⟩ = some (.slice a2 mm cap2) := by rw [HG6.out.cell']; rfl
                clear b0 g2 t1
                go_wp2
                clear q2
                go_loopw [112] (fun iv wr => TermTo w3 gb gm (.slice na nn ncap) S ls i l gt [.string ps, .float .f64 px, .slice xa xn xcap] gd (List.replicate mm (.float .f64 0)) mm iv wr) (fun iv _ => mm - (intOf iv).toNat)
                case atStart => exact ⟨0, Nat.zero_le _, rfl, ⟨_, _, _, _, by have h := HFin.out; simpa [spotsCol_zero, constsCol_zero] using h⟩, HT6.out, HD6.out⟩
                case round =>
                  obtain ⟨c, hc, rfl, hb7, ht7, hd7⟩ := hrel
                  obtain ⟨col7, pv7, cv7, m7, hb7⟩ := hb7.out
                  have X7 := Lib.hid (X3.out.trans hb7.ext)
                  by_cases hlt7 : c < mm
                  · obtain ⟨t, ht⟩ : ∃ t, (termsOf l)[c]? = some t := ⟨_, List.getElem?_eq_getElem (by rw [← HL.out.2.1]; exact hlt7)⟩
                    obtain ⟨bt, offt, eaot, u0, u1, _⟩ := term_at (HL.out.2.2.2.2.2.2.2.terms.ext X7.out) ht
                    subst eaot
                    obtain ⟨kt, st, ⟨⟩⟩ := t
                    simp only at u0 u1
                    have HT := Lib.hid ht
                    obtain ⟨hcl, hcf⟩ := HDs.out.2.2.2 c hlt7
                    obtain ⟨xb, xoff, exa, v0⟩ := (HDs.out.1 _ X7.out hd7.out).flt hcl
                    subst exa
                    have hyd := hcf _ (List.getElem?_eq_getElem hcl)
                    have hcx : c < xn := by rw [HDs.out.2.1]; exact hcl
                    generalize ds[c] = y at *
                    have hmax := fun (at_ : Array TypeId) (ty : TypeId) (W : World) => max_one_run hyd.1 at_ ty W
                    rw [hyd.2] at hmax
                    obtain ⟨D, eD⟩ : ∃ D, D = distW S l c := ⟨_, rfl⟩
                    rw [← eD] at hmax
                    have HD := Lib.hid eD
                    have t2 : wr.cell? ⟨gt, 2, none⟩ = some (.slice (some ⟨xb, xoff, none⟩) xn xcap) := by rw [ht7.out.cell']; rfl
                    obtain ⟨gq, egq⟩ : ∃ gq, gq = wr.heap.size := ⟨_, rfl⟩
                    obtain ⟨wq, ewq⟩ : ∃ wq, wr.alloc (.cells #[.int .i64 kt, .string st] 94) = wq := ⟨_, rfl⟩
                    have hgq := Blk.new wr [.int .i64 kt, .string st] 94
                    have ewq' : wr.alloc (.cells [Value.int .i64 kt, .string st].toArray 94) = wq := ewq
                    rw [ewq', ← egq] at hgq
                    have hsq : wq.heap.size = gq + 1 := by rw [← ewq, alloc_size, egq]
                    obtain ⟨gs, egs⟩ : ∃ gs, gs = gq + 1 := ⟨_, rfl⟩
                    obtain ⟨w7, ew7⟩ : ∃ w7, wq.alloc (.cells #[.int .i64 i, .float .f64 D] 168) = w7 := ⟨_, rfl⟩
                    have hgs := Blk.new wq [.int .i64 i, .float .f64 D] 168
                    have ew7' : wq.alloc (.cells [Value.int .i64 i, .float .f64 D].toArray 168) = w7 := ew7
                    rw [ew7', hsq, ← egs] at hgs
                    have hx7 : Ext wr w7 := by rw [← ew7, ← ewq]; exact ((Kp.refl wr).alloc _).alloc _
                    have HQ := Lib.hid (show Blk w7 gq [.int .i64 kt, .string st] 94 from hgq.ext (by rw [← ew7]; exact (Kp.refl wq).alloc _))
                    have HG := Lib.hid hgs
                    have HB7 := Lib.hid (hb7.on hx7)
                    have HOwn := Lib.hid (fun (v : ByteArray) (g : Nat) (hg : ((getM m7 v).getD (.slice none 0 0)).ownBlock = some g) => (hb7.spots v).ltB hg)
                    have HT7 := Lib.hid (ht7.out.ext hx7)
                    have HD7 := Lib.hid (hd7.out.ext hx7)
                    have HX7 := Lib.hid (X7.out.trans hx7)
                    have EG7 := Lib.hid (And.intro egq (And.intro ewq (And.intro egs ew7)))
                    have t2q : (wr.alloc (.cells #[.int .i64 kt, .string st] 94)).cell? ⟨gt, 2, none⟩ = some (.slice (some ⟨xb, xoff, none⟩) xn xcap) := ((Kp.refl (F := fun _ => False) wr).alloc _).cell t2 id
                    have v0q : (wr.alloc (.cells #[.int .i64 kt, .string st] 94)).cell? ⟨xb, xoff + c, none⟩ = some (.float .f64 y) := ((Kp.refl (F := fun _ => False) wr).alloc _).cell v0 id
                    have k0q : ((wr.alloc (.cells #[.int .i64 kt, .string st] 94)).alloc (.cells #[.int .i64 i, .float .f64 D] 168)).cell? ⟨wr.heap.size, 0, none⟩ = some (.int .i64 kt) := by rw [ewq, ew7, ← egq, HQ.out.cell']; rfl
                    have s0 : w7.cell? ⟨gs, 0, none⟩ = some (.int .i64 i) := by rw [hgs.cell']; rfl
                    have s1 : w7.cell? ⟨gs, 1, none⟩ = some (.float .f64 D) := by rw [hgs.cell']; rfl
                    have k0 : w7.cell? ⟨gq, 0, none⟩ = some (.int .i64 kt) := by rw [HQ.out.cell']; rfl
                    have k1 : w7.cell? ⟨gq, 1, none⟩ = some (.string st) := by rw [HQ.out.cell']; rfl
                    have m2 : w7.cell? ⟨gb, 2, none⟩ = some (.map (some gm)) := by rw [HB7.out.blk.cell']; rfl
                    have m3 : w7.cell? ⟨gb, 3, none⟩ = some cv7 := by rw [HB7.out.blk.cell']; rfl
                    have xn1 : xn ≤ 1048576 := HDs.out.2.2.1
                    clear ht hcl hcf hyd eD egq ewq' hgq hsq egs ew7' hgs hx7 hb7 ht7 hd7 ewq ew7
                    by_cases k1' : kt = 1
                    · subst k1'
                      go_wp2
                      rw [EG7.out.2.1]
                      rw [← EG7.out.1]
                      rw [EG7.out.2.2.2]
                      rw [← EG7.out.2.2.1]
                      obtain ⟨ua, uw, eu, _⟩ := (HB7.out.spots st).shape
                      have hul : (spotsP S st 0 (ls.take i) ++ spotsCol S st l i c).length ≤ 1099513724928 := spots_len_all HF.out (List.length_take_le _ _) (by have := HN.out; omega) (by omega)
                      generalize hun : (spotsP S st 0 (ls.take i) ++ spotsCol S st l i c).length = un at eu
                      have HLk := Lib.hid (fun (W : World) (hW : Ext w7 W) => (show (Instr.lookup 118 (.map (some gm)) (.string st) false).run Tryz.prog W = .ok (.slice ua un uw) W by
                        rw [← eu]; exact run_lookup_str (P := Tryz.prog) Tryz.underlying118 Tryz.underlying9 (z := .slice none 0 0) (by kernel_rfl) (HB7.out.map.ext hW) st))
                      have HC7 := Lib.hid (show ∀ w', Ext w7 w' → (fun w' => w'.cell? ⟨gb, 2, none⟩ = some (.map (some gm)) ∧ w'.cell? ⟨gq, 1, none⟩ = some (.string st) ∧ w'.cell? ⟨gs, 0, none⟩ = some (.int .i64 i) ∧ w'.cell? ⟨gs, 1, none⟩ = some (.float .f64 D) ∧ (Instr.lookup 118 (.map (some gm)) (.string st) false).run Tryz.prog w' = .ok (.slice ua un uw) w') w' from fun w' hw => ⟨hw.cell m2 id, hw.cell k1 id, hw.cell s0 id, hw.cell s1 id, HLk.out _ hw⟩)
                      have XV := (Kp.refl (F := fun _ => False) w7).drew.alloc (.cells #[.int .i64 i, .float .f64 D] 168)
                      obtain ⟨v', w', w'', hrun, hrun2, hkw, hmw, hkp, col', hbody'⟩ := BodyIn.spot (HB7.out.on XV) st (i, D) (c := 1) (CellsAt.two w7.drew (.int .i64 i) (.float .f64 D) 168) hul 119
                      have hlt7' : ∀ g, ((getM m7 st).getD (.slice none 0 0)).ownBlock = some g → g < wr.heap.size := fun g hg => HOwn.out st g hg
                      have hqs : gq = wr.heap.size := EG7.out.1
                      have hss : gs = gq + 1 := EG7.out.2.2.1
                      have hB7' : Blk w' gb _ 121 := (HB7.out.blk.ext XV).kp hkw fun e => by
                        obtain ⟨cs, hb⟩ := ((HB7.out.on XV).spots st).blkOf e
                        exact typ_sb (blk_ne hb (HB7.out.blk.ext XV))
                      have HSW := Lib.hid (show w'.cell? ⟨gb, 2, none⟩ = some (.map (some gm)) ∧ w'.cell? ⟨gq, 1, none⟩ = some (.string st) ∧ w'.cell? ⟨gs, 0, none⟩ = some (.int .i64 i) ∧ w'.cell? ⟨gs, 1, none⟩ = some (.float .f64 D) ∧ (Instr.lookup 118 (.map (some gm)) (.string st) false).run Tryz.prog w' = .ok (.slice ua un uw) w' from
                        ⟨by rw [hB7'.cell']; rfl, hkw.cell (XV.cell k1 id) (fun e => by have := hlt7' _ e; omega), hkw.cell (XV.cell s0 id) (fun e => by have := hlt7' _ e; omega), hkw.cell (XV.cell s1 id) (fun e => by have := hlt7' _ e; omega), by rw [← eu]; exact run_lookup_str (P := Tryz.prog) Tryz.underlying118 Tryz.underlying9 (z := .slice none 0 0) (by kernel_rfl) hmw st⟩)
                      rw [eu] at hrun
                      have HFin7 := Lib.hid hbody'
                      have HT8 := Lib.hid ((HB7.out.on XV).keepM hkp (HT7.out.ext XV) (by decide))
                      have HD8 := Lib.hid ((HB7.out.on XV).keepM hkp (HD7.out.ext XV) (by decide))
                      clear hbody' hkp hkw hmw hlt7' hqs hss hB7' hul hun eu XV t2 v0 t2q v0q k0q u0 u1 hmax m3 k0
                      refine draw_begin (fun w' => w'.cell? ⟨gb, 2, none⟩ = some (.map (some gm)) ∧ w'.cell? ⟨gq, 1, none⟩ = some (.string st) ∧ w'.cell? ⟨gs, 0, none⟩ = some (.int .i64 i) ∧ w'.cell? ⟨gs, 1, none⟩ = some (.float .f64 D) ∧ (Instr.lookup 118 (.map (some gm)) (.string st) false).run Tryz.prog w' = .ok (.slice ua un uw) w') [16] (by kernel_rfl) (HC7.out _ (Kp.refl w7).drew) (fun hHeld => ?_)
                      (refine draw_free (i := 0) (v := ?_) rfl ?_ ?_; rotate_left; (intro w; go_simp; try with_reducible rfl)); (try simp only [Act.put, List.setIfInBounds_toArray, List.set_cons_zero, List.set_cons_succ])
                      (refine draw_free (i := 1) (v := ?_) rfl ?_ ?_; rotate_left; (intro w; go_simp; try with_reducible rfl)); (try simp only [Act.put, List.setIfInBounds_toArray, List.set_cons_zero, List.set_cons_succ])
                      (refine draw_free (i := 2) (v := ?_) rfl ?_ ?_; rotate_left; (intro w; go_simp; try with_reducible rfl)); (try simp only [Act.put, List.setIfInBounds_toArray, List.set_cons_zero, List.set_cons_succ])
                      (refine draw_in (i := 3) (v := ?_) rfl ?_ ?_; rotate_left; (intro w hSw; (try dsimp only at hSw); go_simp; try with_reducible rfl)); (try simp only [Act.put, List.setIfInBounds_toArray, List.set_cons_zero, List.set_cons_succ])
                      (refine draw_free (i := 4) (v := ?_) rfl ?_ ?_; rotate_left; (intro w; go_simp; try with_reducible rfl)); (try simp only [Act.put, List.setIfInBounds_toArray, List.set_cons_zero, List.set_cons_succ])
                      (refine draw_in (i := 5) (v := ?_) rfl ?_ ?_; rotate_left; (intro w hSw; (try dsimp only at hSw); go_simp; try with_reducible rfl)); (try simp only [Act.put, List.setIfInBounds_toArray, List.set_cons_zero, List.set_cons_succ])
                      (refine draw_free (i := 6) (v := ?_) rfl ?_ ?_; rotate_left; (intro w; go_simp; try with_reducible rfl)); (try simp only [Act.put, List.setIfInBounds_toArray, List.set_cons_zero, List.set_cons_succ])
                      (refine draw_free (i := 7) (v := ?_) rfl ?_ ?_; rotate_left; (intro w; go_simp; try with_reducible rfl)); (try simp only [Act.put, List.setIfInBounds_toArray, List.set_cons_zero, List.set_cons_succ])
                      (refine draw_free (i := 8) (v := ?_) rfl ?_ ?_; rotate_left; (intro w; go_simp; try with_reducible rfl)); (try simp only [Act.put, List.setIfInBounds_toArray, List.set_cons_zero, List.set_cons_succ])
                      (refine draw_in (i := 9) (v := ?_) rfl ?_ ?_; rotate_left; (intro w hSw; (try dsimp only at hSw); go_simp; try with_reducible rfl)); (try simp only [Act.put, List.setIfInBounds_toArray, List.set_cons_zero, List.set_cons_succ])
                      (refine draw_free (i := 10) (v := ?_) rfl ?_ ?_; rotate_left; (intro w; go_simp; try with_reducible rfl)); (try simp only [Act.put, List.setIfInBounds_toArray, List.set_cons_zero, List.set_cons_succ])
                      (refine draw_in (i := 11) (v := ?_) rfl ?_ ?_; rotate_left; (intro w hSw; (try dsimp only at hSw); go_simp; try with_reducible rfl)); (try simp only [Act.put, List.setIfInBounds_toArray, List.set_cons_zero, List.set_cons_succ])
                      (refine draw_in (i := 12) (v := ?_) rfl ?_ ?_; rotate_left; (intro w hSw; (try dsimp only at hSw); go_simp; try with_reducible rfl)); (try simp only [Act.put, List.setIfInBounds_toArray, List.set_cons_zero, List.set_cons_succ])
                      (refine draw_in (i := 13) (v := ?_) rfl ?_ ?_; rotate_left; (intro w hSw; (try dsimp only at hSw); go_simp; try with_reducible rfl)); (try simp only [Act.put, List.setIfInBounds_toArray, List.set_cons_zero, List.set_cons_succ])
                      refine draw_one (i := 14) ?_
                      refine comes_turn (i := 14) rfl (fun K hK => ?_)
                      go_simp
                      refine hK.out _ _ ?_ (fun hHeld => ?_)
                      · (try dsimp only); (exact HC7.out _ ((Kp.refl w7).drew.alloc _))
                      clear hK K; (try simp only [Act.put, List.setIfInBounds_toArray, List.set_cons_zero, List.set_cons_succ])
                      refine draw_one (i := 15) ?_
                      refine comes_turn (i := 15) rfl (fun K hK => ?_)
                      refine draw_app rfl _ _ rfl rfl rfl hrun ?_
                      refine hK.out _ _ ?_ (fun hHeld => ?_)
                      · (try dsimp only); (exact HSW.out)
                      clear hK K; (try simp only [Act.put, List.setIfInBounds_toArray, List.set_cons_zero, List.set_cons_succ])
                      refine draw_one (i := 16) ?_
                      refine comes_late (i := 16) rfl (by kernel_rfl) (fun K hK => ?_)
                      go_simp
                      refine hK.out _ _ ?_
                      clear hK K; (try simp only [Act.put, List.setIfInBounds_toArray, List.set_cons_zero, List.set_cons_succ])
                      refine wpAnyD_done (by kernel_rfl) ?_ _
                      go_wp2
                      go_roundw
                      case rel => exact ⟨c + 1, by omega, by first | rfl | (congr 1; done) | (congr 1; omega), Lib.hid ⟨_, _, _, _, term_var HFin7.out HT.out HD.out⟩, HT8.out, HD8.out⟩
                      case measure => simp [intOf]; omega
                    · have n1 : (kt == 1) = false := by simp [k1']
                      by_cases k3' : kt = 3
                      · subst k3'
                        obtain ⟨ca, cnn, ccap, ecv⟩ := HB7.out.cshape
                        subst ecv
                        have hul : (constsP S 0 (ls.take i) ++ constsCol S l i c).length ≤ 1099513724928 := consts_len_all HF.out (List.length_take_le _ _) (by have := HN.out; omega) (by omega)
                        have HC7 := Lib.hid (show ∀ w', Ext w7 w' → (fun w' => w'.cell? ⟨gb, 3, none⟩ = some (.slice ca cnn ccap) ∧ w'.cell? ⟨gs, 0, none⟩ = some (.int .i64 i) ∧ w'.cell? ⟨gs, 1, none⟩ = some (.float .f64 D)) w' from fun w' hw => ⟨hw.cell m3 id, hw.cell s0 id, hw.cell s1 id⟩)
                        have XV := (Kp.refl (F := fun _ => False) w7).drew.alloc (.cells #[.int .i64 i, .float .f64 D] 168)
                        obtain ⟨cv', w', hrun, hc', hfr, hkp, col', hbody'⟩ := BodyIn.const (HB7.out.on XV) (i, D) (c := 1) (CellsAt.two w7.drew (.int .i64 i) (.float .f64 D) 168) hul 119
                        obtain ⟨ca', cn', ccap', ecv'⟩ := hbody'.cshape
                        subst ecv'
                        have HFin7 := Lib.hid hbody'
                        have HT8 := Lib.hid ((HB7.out.on XV).keepB hkp (HT7.out.ext XV) (by decide) (by decide))
                        have HD8 := Lib.hid ((HB7.out.on XV).keepB hkp (HD7.out.ext XV) (by decide) (by decide))
                        go_wp2
                        rw [EG7.out.2.1]
                        rw [← EG7.out.1]
                        rw [EG7.out.2.2.2]
                        rw [← EG7.out.2.2.1]
                        clear hbody' hkp hul XV t2 v0 t2q v0q k0q u0 u1 hmax m2 k0 k1
                        refine draw_begin (fun w' => w'.cell? ⟨gb, 3, none⟩ = some (.slice ca cnn ccap) ∧ w'.cell? ⟨gs, 0, none⟩ = some (.int .i64 i) ∧ w'.cell? ⟨gs, 1, none⟩ = some (.float .f64 D)) [7, 10] (by kernel_rfl) (HC7.out _ (Kp.refl w7).drew) (fun hHeld => ?_)
                        (refine draw_free (i := 0) (v := ?_) rfl ?_ ?_; rotate_left; (intro w; go_simp; try with_reducible rfl)); (try simp only [Act.put, List.setIfInBounds_toArray, List.set_cons_zero, List.set_cons_succ])
                        (refine draw_free (i := 1) (v := ?_) rfl ?_ ?_; rotate_left; (intro w; go_simp; try with_reducible rfl)); (try simp only [Act.put, List.setIfInBounds_toArray, List.set_cons_zero, List.set_cons_succ])
                        (refine draw_free (i := 2) (v := ?_) rfl ?_ ?_; rotate_left; (intro w; go_simp; try with_reducible rfl)); (try simp only [Act.put, List.setIfInBounds_toArray, List.set_cons_zero, List.set_cons_succ])
                        (refine draw_free (i := 3) (v := ?_) rfl ?_ ?_; rotate_left; (intro w; go_simp; try with_reducible rfl)); (try simp only [Act.put, List.setIfInBounds_toArray, List.set_cons_zero, List.set_cons_succ])
                        (refine draw_in (i := 4) (v := ?_) rfl ?_ ?_; rotate_left; (intro w hSw; (try dsimp only at hSw); go_simp; try with_reducible rfl)); (try simp only [Act.put, List.setIfInBounds_toArray, List.set_cons_zero, List.set_cons_succ])
                        (refine draw_in (i := 5) (v := ?_) rfl ?_ ?_; rotate_left; (intro w hSw; (try dsimp only at hSw); go_simp; try with_reducible rfl)); (try simp only [Act.put, List.setIfInBounds_toArray, List.set_cons_zero, List.set_cons_succ])
                        refine draw_one (i := 6) ?_
                        refine comes_turn (i := 6) rfl (fun K hK => ?_)
                        go_simp
                        refine hK.out _ _ ?_ (fun hHeld => ?_)
                        · (try dsimp only); (exact HC7.out _ ((Kp.refl w7).drew.alloc _))
                        clear hK K; (try simp only [Act.put, List.setIfInBounds_toArray, List.set_cons_zero, List.set_cons_succ])
                        refine draw_one (i := 7) ?_
                        refine comes_late (i := 7) rfl (by kernel_rfl) (fun K hK => ?_)
                        refine draw_app rfl _ _ rfl rfl rfl hrun ?_
                        refine hK.out _ _ ?_
                        clear hK K; (try simp only [Act.put, List.setIfInBounds_toArray, List.set_cons_zero, List.set_cons_succ])
                        (refine draw_free (i := 8) (v := ?_) rfl ?_ ?_; rotate_left; (intro w; go_simp; try with_reducible rfl)); (try simp only [Act.put, List.setIfInBounds_toArray, List.set_cons_zero, List.set_cons_succ])
                        (refine draw_free (i := 9) (v := ?_) rfl ?_ ?_; rotate_left; (intro w; go_simp; try with_reducible rfl)); (try simp only [Act.put, List.setIfInBounds_toArray, List.set_cons_zero, List.set_cons_succ])
                        refine draw_one (i := 10) ?_
                        refine comes_late (i := 10) rfl (by kernel_rfl) (fun K hK => ?_)
                        go_simp
                        refine hK.out _ _ ?_
                        clear hK K; (try simp only [Act.put, List.setIfInBounds_toArray, List.set_cons_zero, List.set_cons_succ])
                        refine wpAnyD_done (by kernel_rfl) ?_ _
                        go_wp2
                        go_roundw
                        case rel => exact ⟨c + 1, by omega, by first | rfl | (congr 1; done) | (congr 1; omega), Lib.hid ⟨_, _, _, _, term_const HFin7.out HT.out HD.out⟩, HT8.out, HD8.out⟩
                        case measure => simp [intOf]; omega
                      · have n3 : (kt == 3) = false := by simp [k3']
                        have HNo := Lib.hid (And.intro k1' k3')
                        have HW7 := Lib.hid (EG7.out.2.2.2.symm.trans (by rw [← EG7.out.2.1]))
                        clear k1' k3'
                        go_wp2
                        go_roundw
                        case rel =>
                          rw [← HW7.out]
                          exact ⟨c + 1, by omega, by first | rfl | (congr 1; done) | (congr 1; omega), Lib.hid ⟨_, _, _, _, term_any HB7.out HT.out HNo.out.1 HNo.out.2⟩, HT7.out, HD7.out⟩
                        case measure => simp [intOf]; omega
                  · have HFin7 := Lib.hid (term_end hb7 HL.out.1 H1.out (by have := HL.out.2.1; omega))
                    have hcm : ¬ (c : Int) < (mm : Int) := by omega
                    clear hb7
                    go_wp2
                    go_roundw
                    case rel => exact ⟨i + 1, by omega, by first | rfl | (congr 1; done) | (congr 1; omega), Lib.hid ⟨_, _, _, _, HFin7.out⟩⟩
                    case measure => simp [intOf]; omega
        · obtain rfl : i = n := by omega
          have hall : ls.take i = ls := List.take_of_length_le (by have := HN.out; omega)
          rw [hall] at hbody
          have HFin := Lib.hid hbody
          clear hbody hall
          go_wp2
          go_ret2
          refine RetN.mk XR.out ⟨fun _ => ⟨gb, rfl, EGB.out, w3, gm, na, ncap, col, pv, cv, m, ?_, HNm.out.2.ext hex.out, by rw [HNN.out]; exact HNm.out.1⟩, fun h => absurd HErr.out h⟩
          rw [HNN.out]; exact HFin.out
    · rw [decide_eq_false hok]
      have HErr := Lib.hid (show errR ((p, hs, ()), ls, ()) S = 2 by unfold errR; rw [if_pos EC.out.symm, if_neg hok])
      clear hok
      go_wp2
      go_ret2
      exact RetN.mk X2.out ⟨fun h => absurd h (by rw [HErr.out]; decide), fun _ => by rw [HErr.out]; rfl⟩
  · have b1 : ((c : Int) == 0) = false := by simp; omega
    have b2 : ((c : Int) != 0) = true := by simp; omega
    have HErr := Lib.hid (show errR ((p, hs, ()), ls, ()) S = c by unfold errR; rw [← EC.out, if_neg hc])
    have HH := Lib.hid hc
    clear hc
    go_wp2
    go_ret2
    exact RetN.mk X1.out ⟨fun h => absurd (HErr.out.symm.trans h) HH.out, fun _ => by rw [HErr.out]; first | done | rfl⟩
end Go.Proofs.YtomeebimmmfmbaaGreat

/- cost: setOf, cost, Guess, Cost. -/
namespace Go.Proofs.YtomeebimmmfmbaaGreat
open Go.RowKit
set_option linter.unusedVariables false
attribute [local go_sem] run_store_float
theorem varsL_fit {ls : List LitZ} (hf : Fit ls) : ∀ l ∈ ls, (varsL l).length ≤ 1048576 := fun l hl => by
  have h := hf.terms l hl
  unfold varsL
  split
  · exact Nat.le_trans (varsT_len _) h
  · unfold asks
    split
    · exact Nat.le_trans (varsT_len _) h
    · exact Nat.le_trans (varsT_len _) (show [leftOf l, rightOf l].length ≤ 1048576 by simp)
open Classical in
set_option maxRecDepth 100000 in
set_option maxHeartbeats 4000000 in
theorem setOf_any (gb : Nat) (S : List StatZ) (ls : List LitZ) (n : Nat) (xs : List Int) (na : Option Addr) (m mcap : Nat) (w : World) (hn : n = ls.length) (hf : Fit ls) (hB : BodyAt w gb S ls) (hm : m = xs.length) (hx : CellsAt w na (ints xs)) (hml : m ≤ 4611686018427387904) :
    Calls Tryz.prog 75 #[.pointer (some ⟨gb, 0, none⟩), .slice na m mcap] w (RetN w (SetV (setOk ls xs) n)) := by
  obtain ⟨pa, pcap, na', ncap, gm, mm, ca, ccap, hR⟩ := hB.read
  have hl : n ≤ 1048576 := by have := hf.len; omega
  have b0 : w.cell? ⟨gb, 0, none⟩ = some (.slice pa n pcap) := by rw [hR.blk.cell', hn]; rfl
  have HN := Lib.hid hn
  have HM := Lib.hid (And.intro hm hx)
  have HSt := Lib.hid (fun (inn : List Bool) (ia : Option Addr) (icap : Nat) (W : World) (hW : Ext w W) (hin : inn.length = n) (hI : CellsAt W ia (bools inn)) => stands_any gb S ls n inn ia icap W hn hl (varsL_fit hf) (hB.ext hW) hin hI)
  have hmk := run_make_row' (P := Tryz.prog) 111 4 (.bool false) 1 Tryz.underlying111 (by kernel_rfl) rfl .i64 .i64 n (by omega) (by omega)
  clear hR hn hf hB hm hx
  go_enter Tryz.func75, Tryz.ntmps75
  go_wp2
  obtain ⟨g, eg⟩ : ∃ g, g = w.heap.size := ⟨_, rfl⟩
  have hBk := blk_made w (.bool false) n 4
  rw [← eg, ← bools_rep] at hBk
  have HG := Lib.hid hBk
  have EG := Lib.hid eg
  rw [← eg]
  clear hBk eg hmk b0
  generalize hwc : w.alloc (.cells (madeCells #[.bool false] n) 4) = wc at *
  have HWC := Lib.hid (show Ext w wc by rw [← hwc]; exact (Kp.refl w).alloc _)
  clear hwc
  go_loopw [17] (fun iv wr => NumsTo w g n xs m iv wr) (fun iv _ => m - (intOf iv).toNat)
  case atStart => exact ⟨0, _, Nat.zero_le _, rfl, rfl, HG.out, Lib.hid (by simp), HWC.out⟩
  case round =>
    obtain ⟨i, inn, hi, rfl, hput, hblk, hlen, hex⟩ := hrel
    by_cases hlt : i < m
    · have hltx : i < xs.length := by rw [← HM.out.1]; exact hlt
      obtain ⟨nb, noff, ena, d0⟩ := (HM.out.2.ext hex.out).int hltx
      subst ena
      have hxi : xs[i]? = some xs[i] := List.getElem?_eq_getElem hltx
      generalize xs[i] = x at *
      have HXi := Lib.hid hxi
      have HStep := Lib.hid (show (xs.take (i + 1)).foldl putNum (some (List.replicate n false)) = putNum (some inn) x by rw [fold_take _ _ hxi, hput.out])
      clear hxi hltx
      have hbad : putNum (some inn) x = none → SetV (setOk ls xs) n wr (.tuple #[.slice none 0 0, .bool false]) := fun e => by
        have : setOk ls xs = none := setOk_none (by rw [← HN.out]; exact setTo_no HXi.out (by rw [HStep.out, e]))
        rw [this]
        exact ⟨_, _, _, rfl, fun inn h => by cases h⟩
      have HBad := Lib.hid hbad; clear hbad
      by_cases hx0 : x < 0
      · go_wp2
        go_ret2
        exact RetN.mk hex.out (HBad.out (putNum_neg (by omega)))
      · obtain ⟨q, rfl⟩ : ∃ q : Nat, x = q := ⟨x.toNat, by omega⟩
        by_cases hqn : q < n
        · obtain ⟨b, hb⟩ : ∃ b, inn[q]? = some b := ⟨_, List.getElem?_eq_getElem (by have := hlen.out; omega)⟩
          have e0 : wr.cell? ⟨g, q, none⟩ = some (.bool b) := by rw [hblk.out.cell']; simp [bools, hb]
          have hfr := hblk.out.free q
          have HBq := Lib.hid hb
          clear hb
          cases b
          · go_wp2
            go_roundw
            case rel =>
              refine ⟨i + 1, inn.set q true, by omega, by first | rfl | (congr 1; done) | (congr 1; omega), Lib.hid (by rw [HStep.out, putNum_on HBq.out]), ?_, Lib.hid (by rw [List.length_set]; exact hlen.out), hex.out.setCell (fun h => ?_) _⟩
              · have h := hblk.out.set q (.bool true)
                rw [bools_set] at h
                exact h
              · have h : g < w.heap.size := h
                rw [EG.out] at h; omega
            case measure => simp [intOf]; omega
          · go_wp2
            go_ret2
            exact RetN.mk hex.out (HBad.out (putNum_off (by rw [HBq.out]; simp)))
        · go_wp2
          go_ret2
          exact RetN.mk hex.out (HBad.out (putNum_off (by rw [List.getElem?_eq_none (by have := hlen.out; omega)]; simp)))
    · have hall : setW ls.length xs = some inn := by
        have h := hput.out
        rw [List.take_of_length_le (by have := HM.out.1; omega), HN.out] at h
        exact h
      have HAll := Lib.hid (setOk_some hall)
      clear hall
      go_wp2_with fail
      refine (HSt.out inn _ _ _ hex.out hlen.out hblk.out.bools).mono ?_
      rintro e w1 ⟨v, rfl, hk1, rfl⟩
      have X1 := Lib.hid (And.intro (hex.out.trans hk1) (hblk.out.ext hk1).bools)
      clear hk1
      by_cases hst : stands ls inn
      · rw [decide_eq_true hst]
        have HA2 := Lib.hid (HAll.out.trans (if_pos hst))
        clear hst
        go_wp2
        go_ret2
        refine RetN.mk X1.out.1 ⟨some ⟨g, 0, none⟩, n, n, ?_, fun inn' h => ?_⟩
        · rw [HA2.out]; rfl
        · rw [HA2.out] at h; cases h
          exact ⟨rfl, X1.out.2, hlen.out⟩
      · rw [decide_eq_false hst]
        have HA2 := Lib.hid (HAll.out.trans (if_neg hst))
        clear hst
        go_wp2
        go_ret2
        refine RetN.mk X1.out.1 ⟨some ⟨g, 0, none⟩, n, n, ?_, fun inn' h => ?_⟩
        · rw [HA2.out]; rfl
        · rw [HA2.out] at h; cases h
theorem setOk_nil (ls : List LitZ) : (setOk ls []).isSome = true := by
  rw [setOk_some (inn := List.replicate ls.length false) rfl, if_pos]
  · rfl
  · intro i l h1 h2
    rw [List.getElem?_replicate] at h2
    split at h2 <;> simp at h2
open Classical in
noncomputable def costB (S : List StatZ) (ls : List LitZ) (xs : List Int) : Nat := if orderOk ls xs then costTo S ls xs xs.length else 0
theorem costB_yes {S : List StatZ} {ls : List LitZ} {xs : List Int} (h : orderOk ls xs) : costB S ls xs = costTo S ls xs xs.length := if_pos h
theorem costB_no {S : List StatZ} {ls : List LitZ} {xs : List Int} (h : ¬ orderOk ls xs) : costB S ls xs = 0 := if_neg h
theorem order_of {ls : List LitZ} {xs : List Int} (h : xs.length = ls.length) (ha : ∀ i, i < xs.length → (setOk ls (xs.take (i + 1))).isSome = true) : orderOk ls xs := ⟨h, fun i hi => by
  match i with
  | 0 => rw [List.take_zero]; exact setOk_nil ls
  | i + 1 => exact ha i hi⟩
open Classical in
set_option maxRecDepth 100000 in
set_option maxHeartbeats 4000000 in
theorem bodyCost_any (gb : Nat) (S : List StatZ) (ls : List LitZ) (n : Nat) (xs : List Int) (na : Option Addr) (m mcap : Nat) (w : World) (hn : n = ls.length) (hf : Fit ls) (K : Known S ls) (hB : BodyAt w gb S ls) (hm : m = xs.length) (hx : CellsAt w na (ints xs)) (hml : m ≤ 4611686018427387904) (hmc : m ≤ mcap) (hmx : mcap ≤ maxLen) :
    Calls Tryz.prog 52 #[.pointer (some ⟨gb, 0, none⟩), .slice na m mcap] w (RetN w fun w' v => v = .tuple #[.float .f64 (costB S ls xs), .bool (decide (orderOk ls xs))]) := by
  have hmx2 : mcap ≤ 9223372036854775807 := hmx
  obtain ⟨pa, pcap, na', ncap, gm, mm, ca, ccap, hR⟩ := hB.read
  have hl : n ≤ 1048576 := by have := hf.len; omega
  have b0 : w.cell? ⟨gb, 0, none⟩ = some (.slice pa n pcap) := by rw [hR.blk.cell', hn]; rfl
  have HN := Lib.hid hn
  have HM := Lib.hid hm
  have HK := Lib.hid K
  have HSet := Lib.hid (fun (i : Nat) (hi : i ≤ m) (W : World) (hW : Ext w W) => setOf_any gb S ls n (xs.take i) na i mcap W hn hf (hB.ext hW) (by rw [List.length_take]; omega) ((hx.intsTake i).ext hW) (by omega))
  have HG := Lib.hid (fun (inn : List Bool) (ia : Option Addr) (icap : Nat) (W : World) (hW : Ext w W) (hin : inn.length = n) (hI : CellsAt W ia (bools inn)) => guess_any gb S ls n inn ia icap W hn hf K (hB.ext hW) hin hI)
  clear hR hn hf K hB hm hx hmx
  go_enter Tryz.func52, Tryz.ntmps52
  by_cases hne : m = n
  · have q1 : ((m : Int) != (n : Int)) = false := by simp [hne]
    have q2 : ((m : Int) == (n : Int)) = true := by simp [hne]
    have HNe := Lib.hid hne
    clear hne
    go_wp2
    clear q1 q2 b0
    go_loopw [20, 6] (fun iv sv wr => ∃ i x : Nat, i ≤ m ∧ iv = .int .i64 i ∧ sv = .float .f64 x ∧ Hid (x = costTo S ls xs i) ∧ Hid (∀ j, j < i → (setOk ls (xs.take (j + 1))).isSome = true) ∧ Hid (Ext w wr)) (fun iv _ _ => m - (intOf iv).toNat)
    case atStart => exact ⟨0, 0, Nat.zero_le _, rfl, rfl, rfl, fun j hj => by omega, Kp.refl _⟩
    case round =>
      obtain ⟨i, x, hi, rfl, rfl, hxx, hall, hex⟩ := hrel
      by_cases hlt : i < m
      · have i1 : (i : Int) + 1 ≤ (mcap : Int) := by omega
        have i2 : (i : Int) + 1 ≤ (m : Int) := by omega
        have i3 : ((i : Int) + 1).toNat = i + 1 := by omega
        have i4 : (0 : Int) ≤ (i : Int) + 1 := by omega
        have i5 : i + 1 ≤ mcap := by omega
        have HSi := Lib.hid (HSet.out (i + 1) hlt)
        go_wp2_with fail
        refine (HSi.out _ hex.out).mono ?_
        rintro e w1 ⟨v, rfl, hk1, a, mm, c, rfl, hso⟩
        have X1 := Lib.hid (hex.out.trans hk1)
        clear hk1
        cases hs : setOk ls (xs.take (i + 1)) with
        | none =>
          have HS := Lib.hid hs
          have hq : (none : Option (List Bool)).isSome = false := rfl
          rw [hq]
          clear hs hq hso
          go_wp2
          go_ret2
          have hno : ¬ orderOk ls xs := fun ho => by
            have := ho.2 (i + 1) (by have := HM.out; omega)
            rw [HS.out] at this; cases this
          exact RetN.mk X1.out (by rw [costB_no hno, decide_eq_false hno]; first | done | rfl)
        | some inn =>
          have HS := Lib.hid hs
          obtain ⟨rfl, hI, hin⟩ := hso inn hs
          have HI := Lib.hid (And.intro hin hI)
          have hq : (some inn).isSome = true := rfl
          rw [hq]
          have hrun := fun t W => add_run (s := x) (d := guessW S ls inn) (by rw [hxx.out]; exact costTo_le HK.out xs i) (guessW_le HK.out inn) t W
          clear hs hq hso hI hin
          go_wp2_with fail
          refine (HG.out inn _ _ _ X1.out HI.out.1 HI.out.2).mono ?_
          rintro e w2 ⟨v, rfl, hk2, rfl⟩
          have X2 := Lib.hid (X1.out.trans hk2)
          clear hk2
          go_wp2
          go_roundw
          case rel =>
            refine ⟨i + 1, _, by omega, by first | rfl | (congr 1; done) | (congr 1; omega), by first | rfl | trivial, Lib.hid (by rw [hxx.out, ← guessOf_some HS.out]; rfl), fun j hj => ?_, X2⟩
            by_cases e : j = i
            · rw [e, HS.out]; rfl
            · exact hall.out j (by omega)
          case measure => simp [intOf]; omega
      · obtain rfl : i = m := by omega
        have ho : orderOk ls xs := order_of (by have := HM.out; have := HN.out; have := HNe.out; omega) (by rw [← HM.out]; exact hall.out)
        have HFin := Lib.hid (And.intro ho (hxx.out.trans (by rw [HM.out])))
        clear ho hxx
        go_wp2
        go_ret2
        exact RetN.mk hex.out (by rw [costB_yes HFin.out.1, decide_eq_true HFin.out.1, HFin.out.2]; first | done | rfl)
  · have q1 : ((m : Int) != (n : Int)) = true := by simp; omega
    have q2 : ((m : Int) == (n : Int)) = false := by simp; omega
    have HNe := Lib.hid hne
    clear hne
    go_wp2
    go_ret2
    have hno : ¬ orderOk ls xs := fun ho => HNe.out (by have := ho.1; have := HM.out; have := HN.out; omega)
    exact RetN.mk (Kp.refl _) (by rw [costB_no hno, decide_eq_false hno]; first | done | rfl)
theorem BodyV.yes {w w' : World} {r : RuleZ} {S : List StatZ} {v : Value} (h : BodyV w r S w' v) (he : errR r S = 0) : ∃ gb, v = .tuple #[.pointer (some ⟨gb, 0, none⟩), .int .i64 0] ∧ w.heap.size ≤ gb ∧ BodyAt w' gb S r.2.1 := h.1 he
theorem BodyV.no {w w' : World} {r : RuleZ} {S : List StatZ} {v : Value} (h : BodyV w r S w' v) (he : errR r S ≠ 0) : v = .tuple #[.pointer none, .int .i64 (errR r S)] := h.2 he
open Classical in
set_option maxRecDepth 100000 in
set_option maxHeartbeats 4000000 in
theorem guessE_any (p : ByteArray) (hs : List TermZ) (ls : List LitZ) (ha : Option Addr) (hn hcap : Nat) (ba : Option Addr) (n bcap : Nat) (xs : List Int) (na : Option Addr) (m mcap : Nat) (S : List StatZ) (sa : Option Addr) (sn scap : Nat) (w : World) (G : Nat → Prop) (hhn : hn = hs.length) (hh : TermsAt w G ha hs) (hhl : hn ≤ 1048576) (hbn : n = ls.length) (h : LitsAt w G ba ls) (hf : Fit ls)
    (hm : m = xs.length) (hx : CellsAt w na (ints xs)) (hml : m ≤ 4611686018427387904) (hsn : sn = S.length) (hsc : sn ≤ scap) (hS : StatsAt w sa S) (hSf : StatsFit S) :
    Calls Tryz.prog 42 #[ruleV p ha hn hcap ba n bcap, .slice na m mcap, .slice sa sn scap] w (RetN w fun w' v => v = .tuple #[.float .f64 (guessE ((p, hs, ()), ls, ()) S xs).1, .int .i64 (guessE ((p, hs, ()), ls, ()) S xs).2]) := by
  obtain ⟨e, ee⟩ : ∃ e, e = errR ((p, hs, ()), ls, ()) S := ⟨_, rfl⟩
  have HBo := Lib.hid (fun (W : World) (hW : Ext w W) => bodyOf_any p hs ls ha hn hcap ba n bcap S sa sn scap W G hhn (hh.ext hW) hhl hbn (h.ext hW) hf hsn hsc (hS.ext hW) hSf)
  have HSet := Lib.hid (fun (gb : Nat) (W : World) (hW : Ext w W) (hB : BodyAt W gb S ls) => setOf_any gb S ls n xs na m mcap W hbn hf hB hm (hx.ext hW) hml)
  have HG := Lib.hid (fun (he : e = 0) (gb : Nat) (inn : List Bool) (ia : Option Addr) (icap : Nat) (W : World) (hB : BodyAt W gb S ls) (hin : inn.length = n) (hI : CellsAt W ia (bools inn)) => guess_any gb S ls n inn ia icap W hbn hf (Known.of (errR_zero (ee.symm.trans he)).2) hB hin hI)
  have EE := Lib.hid ee
  clear hhn hh hbn h hf hm hx hsn hS hSf ee
  go_enter Tryz.func42, Tryz.ntmps42
  go_wp2_with fail
  obtain ⟨wb, eb⟩ : ∃ wb, w.alloc (.cells #[.string p, .slice ha hn hcap, .slice ba n bcap] 28) = wb := ⟨_, rfl⟩
  rw [eb]
  have HB := Lib.hid (Blk.new w [.string p, .slice ha hn hcap, .slice ba n bcap] 28)
  have HX := Lib.hid ((Kp.refl (F := fun _ => False) w).alloc (.cells #[.string p, .slice ha hn hcap, .slice ba n bcap] 28))
  have eb2 : w.alloc (.cells [Value.string p, .slice ha hn hcap, .slice ba n bcap].toArray 28) = wb := eb
  rw [eb2] at HB
  rw [eb] at HX
  clear eb eb2
  refine (HBo.out _ HX.out).mono ?_
  rintro e1 w1 ⟨v, rfl, hk1, hbv⟩
  have X1 := Lib.hid (HX.out.trans hk1)
  clear hk1 HX HB
  by_cases he : e = 0
  · obtain ⟨gb, rfl, _, hB⟩ := hbv.yes (EE.out.symm.trans he)
    have HB := Lib.hid hB
    have HE := Lib.hid (EE.out.symm.trans he)
    have HG2 := Lib.hid (HG.out he gb)
    clear hbv hB he
    go_wp2_with fail
    refine (HSet.out gb _ X1.out HB.out).mono ?_
    rintro e1 w2 ⟨v, rfl, hk2, a, mm, c, rfl, hso⟩
    have X2 := Lib.hid (And.intro (X1.out.trans hk2) (HB.out.ext hk2))
    clear hk2
    cases hs : setOk ls xs with
    | none =>
      have HS := Lib.hid hs
      have hq : (none : Option (List Bool)).isSome = false := rfl
      rw [hq]
      clear hs hq hso
      go_wp2
      go_ret2
      exact RetN.mk X2.out.1 (by rw [guessE_none HE.out HS.out]; rfl)
    | some inn =>
      have HS := Lib.hid hs
      obtain ⟨rfl, hI, hin⟩ := hso inn hs
      have HI := Lib.hid (And.intro hin hI)
      have hq : (some inn).isSome = true := rfl
      rw [hq]
      clear hs hq hso hI hin
      go_wp2_with fail
      refine (HG2.out inn _ _ _ X2.out.2 HI.out.1 HI.out.2).mono ?_
      rintro e1 w3 ⟨v, rfl, hk3, rfl⟩
      have X3 := Lib.hid (X2.out.1.trans hk3)
      clear hk3
      go_wp2
      go_ret2
      exact RetN.mk X3.out (by rw [guessE_some HE.out HS.out]; rfl)
  · have hv := hbv.no (fun q => he (EE.out.trans q))
    rw [← EE.out] at hv
    subst hv
    have b1 : ((e : Int) == 0) = false := by simp; omega
    have b2 : ((e : Int) != 0) = true := by simp; omega
    have HH := Lib.hid he
    clear he hbv
    go_wp2
    go_ret2
    exact RetN.mk X1.out (by rw [guessE_bad (fun q => HH.out (EE.out.trans q)), ← EE.out]; first | done | rfl)
end Go.Proofs.YtomeebimmmfmbaaGreat
