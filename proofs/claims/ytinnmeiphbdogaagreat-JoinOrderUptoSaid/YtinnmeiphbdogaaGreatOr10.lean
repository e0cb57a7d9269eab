/- Proved here: the statement JoinOrderUptoSaid: the law returns true for every input of the bound that the row names and leaves its arguments as they were. No condition of its own. -/
import Derived.Test.YtinnmeiphbdogaaGreatOr9
import Derived.Deep.CondSized
set_option linter.unusedVariables false
set_option linter.unusedSimpArgs false
/- The law of joins: JoinOrder: its rules: turned, twice, back. -/
namespace Go.Proofs.YtinnmeiphbdogaaGreat
open Go.RowKit Go.Shelf
attribute [local go_sem] Oper.semAt_some
theorem yG {α : Type} (f : α -> List Value) (k : Nat) (hk : ∀ x, (f x).length = k) : ∀ (i : Nat) (L : List α), (L.flatMap f).drop (i * k) = (L.drop i).flatMap f
 | 0, L => by rw [Nat.zero_mul]; rfl
 | i + 1, [] => by simp
 | i + 1, x :: L => by
  rw [List.flatMap_cons, Nat.succ_mul, Nat.add_comm, <- List.drop_drop, List.drop_left' (hk x)]
  exact yG f k hk i L
theorem vM {α : Type} (f : α -> List Value) (k : Nat) (hk : ∀ x, (f x).length = k) : ∀ (i : Nat) (L : List α), (L.flatMap f).take (i * k) = (L.take i).flatMap f
 | 0, L => by rw [Nat.zero_mul]; rfl
 | i + 1, [] => by simp
 | i + 1, x :: L => by
  rw [List.flatMap_cons, Nat.succ_mul, Nat.add_comm, List.take_add, List.take_left' (hk x), List.drop_left' (hk x), vM f k hk i L]
  rfl
theorem aHi {w : World} {g off : Nat} {vs : List Value} (h : CellsAt w (some ⟨g, off, none⟩) vs) (k : Nat) : CellsAt w (some ⟨g, off + k, none⟩) (vs.drop k) := by
 intro i u hu
 rw [List.getElem?_drop] at hu
 obtain ⟨b, o, e, hc⟩ := h (k + i) u hu
 cases e
 exact ⟨g, off + k, rfl, by rw [Nat.add_assoc]; exact hc⟩
theorem aEq {w : World} {ao : Option Addr} {vs : List Value} (h : CellsAt w ao vs) (k : Nat) : CellsAt w ao (vs.take k) := by
 intro i u hu
 rw [List.getElem?_take] at hu
 split at hu
 ·exact h i u hu
 ·cases hu
abbrev aJm := aJ × (Option Addr × Nat)
theorem mU (Z : List aJm) : ∀ u ∈ Z.flatMap bU, u.oneCell' = true := fun u hu => by
 obtain ⟨x, _, hx⟩ := List.mem_flatMap.1 hu
 exact jH x u hx
theorem eI {w : World} {e : TypeId} {k g : Nat} {M : Nat -> Prop} (h : Blk w g [] e) (hM : M g) : Row w e k (.slice (some ⟨g, 0, none⟩) 0 0) 0 [] M := ⟨by simp, .inr ⟨g, 0, [], rfl, hM, h, by simp, Nat.le_refl _, Nat.zero_le _⟩⟩
theorem eH {W : World} {G M : Nat -> Prop} {Z : List aJm} {v : Value} {m : Nat} (h : Row W 40 8 v m (Z.flatMap bU) M) (hall : ∀ x ∈ Z, LitAll x.1) (hin : ∀ x ∈ Z, LitIn W G x.1 x.2.1 x.2.2) : ∃ a c, v = .slice a m c /\ m = (Z.map Prod.fst).length /\ bQ W TT a (Z.map Prod.fst) := by
 have hl : m = Z.length := by have h1 := h.1; rw [iA bU 8 dD] at h1; omega
 have hz : (Z.map Prod.fst).zip (Z.map Prod.snd) = Z := by
  rw [List.zip_map']
  exact List.map_id' _
 obtain ⟨h1, ⟨e, h0⟩ | ⟨g, cap, rest, e, hM, hB, _⟩⟩ := h
 ·have : Z = [] := List.eq_nil_of_length_eq_zero (by omega)
  subst this
  exact ⟨none, 0, by rw [e, h0], by rw [h0]; rfl, uX _ _⟩
 ·refine ⟨_, cap, e, by rw [List.length_map]; exact hl, lP (vs := Z.map Prod.snd) (by rw [List.length_map, List.length_map]) (fun l hl => ?_) (fun x hx => ?_) trivial (by rw [hz]; exact hB)⟩
  ·obtain ⟨x, hx, rfl⟩ := List.mem_map.1 hl
   exact hall x hx
  ·rw [hz] at hx
   have h := hin x hx
   exact ⟨fun i t ht => by
    obtain ⟨b, off, es, e, hG, hr⟩ := h.terms i t ht
    exact ⟨b, off, es, e, trivial, hr⟩, h.len, h.cap⟩
noncomputable def oA : Code := qB 14 (Tryz.f3.body.getD .skip)
def aK7 (W : World) (g3 : Nat) (r3 : List Value) (ge : Nat) (p : ByteArray) (hv : Value) (Z : List aJm) (n : Nat) (iv : Value) (X : World) : Prop := ∃ j i : Nat, j + i = n /\ iv = .int .i64 ((j : Int) - 1) /\ Hid (Ext W X) /\ ∃ ea ec, Hid (Blk X ge [.string p, hv, .slice ea i ec] 27 /\ Row X 40 8 (.slice ea i ec) i ((Z.reverse.take i).flatMap bU) (New W))
set_option maxRecDepth 100000 in
set_option maxHeartbeats 16000000 in
theorem oV {W : World} {p : ByteArray} {ha va wa : Option Addr} {hn hcap n bcap vq vc wq wc g3 gt gu b off : Nat} {o : Option Addr} {t : Array Value} {Z : List aJm} {R : Ending -> World -> Prop}
 (hZ : Z.length = n) (hcs : CellsAt W (some ⟨b, off, none⟩) (Z.flatMap bU)) (hnc : n ≤ bcap) (hl : n ≤ 1048575)
 (h3 : Blk W g3 [.string p, .slice ha hn hcap, .slice (some ⟨b, off, none⟩) n bcap] 27)
 (hEnd : ∀ W' ge ea ec (t' : Array Value), Ext W W' -> Blk W' ge [.string p, .slice ha hn hcap, .slice ea n ec] 27 -> Row W' 40 8 (.slice ea n ec) n (Z.reverse.flatMap bU) (New W) ->
  t'.size = 171 -> t'.getD 3 undef = .pointer (some ⟨g3, 0, none⟩) -> t'.getD 7 undef = .pointer o -> t'.getD 9 undef = .slice va vq vc -> t'.getD 10 undef = .slice wa wq wc -> t'.getD 13 undef = .pointer (some ⟨gt, 0, none⟩) -> t'.getD 14 undef = .pointer (some ⟨gu, 0, none⟩) -> t'.getD 15 undef = .pointer (some ⟨ge, 0, none⟩) ->
  pN.wp Tryz.prog (bodyPost Tryz.prog Tryz.f3 R) { tmps := t', defers := [] } W')
 (hz : t.size = 171) (t3 : t.getD 3 undef = .pointer (some ⟨g3, 0, none⟩)) (t7 : t.getD 7 undef = .pointer o) (t9 : t.getD 9 undef = .slice va vq vc) (t10 : t.getD 10 undef = .slice wa wq wc) (t11 : t.getD 11 undef = .int .i64 n) (t13 : t.getD 13 undef = .pointer (some ⟨gt, 0, none⟩)) (t14 : t.getD 14 undef = .pointer (some ⟨gu, 0, none⟩)) :
 oA.wp Tryz.prog (bodyPost Tryz.prog Tryz.f3 R) { tmps := t, defers := [] } W := by
 obtain ⟨u, hu', rfl⟩ := aDz t hz
 have e3 := (hu' 3).symm.trans t3
 have e7 := (hu' 7).symm.trans t7
 have e9 := (hu' 9).symm.trans t9
 have e10 := (hu' 10).symm.trans t10
 have e11 := (hu' 11).symm.trans t11
 have e13 := (hu' 13).symm.trans t13
 have e14 := (hu' 14).symm.trans t14
 rw [e3, e7, e9, e10, e11, e13, e14]
 clear hz t3 t7 t9 t10 t11 t13 t14 e3 e7 e9 e10 e11 e13 e14 hu'
 have HZ := qH hZ
 have HCs := qH hcs
 have HE := qH hEnd
 have H3 := qH h3
 clear hZ hcs hEnd h3
 conv => arg 2; whnf
 obtain ⟨ge, ege⟩ : ∃ g, W.heap.size = g := ⟨_, rfl⟩
 obtain ⟨w1, e1⟩ : ∃ x, W.alloc (.cells #[.string ⟨#[]⟩, .slice none 0 0, .slice none 0 0] 27) = x := ⟨_, rfl⟩
 have hb1 : Blk w1 ge [.string ⟨#[]⟩, .slice none 0 0, .slice none 0 0] 27 := by rw [<- e1, <- ege]; exact Blk.new W _ _
 have x1 : Ext W w1 := by rw [<- e1]; exact (Kp.refl W).alloc _
 have a0 : w1.cell? ⟨g3, 0, none⟩ = some (.string p) := by rw [(H3.out.ext x1).cell']; rfl
 have a1 : w1.cell? ⟨g3, 1, none⟩ = some (.slice ha hn hcap) := by rw [(H3.out.ext x1).cell']; rfl
 have d0 : w1.cell? ⟨ge, 0, none⟩ = some (.string ⟨#[]⟩) := by rw [hb1.cell']; rfl
 have d1 : w1.cell? ⟨ge, 1, none⟩ = some (.slice none 0 0) := by rw [hb1.cell']; rfl
 have f0 := hb1.free 0
 have f1 := hb1.free 1
 obtain ⟨w2, e2⟩ : ∃ x, (w1.setCell ⟨ge, 0, none⟩ (.string p)).setCell ⟨ge, 1, none⟩ (.slice ha hn hcap) = x := ⟨_, rfl⟩
 have k2 : Kp (fun k => k = ge) w1 w2 := by rw [<- e2]; exact Kp.setCell (F := fun k => k = ge) (p := ⟨ge, 1, none⟩) (Kp.setCell (F := fun k => k = ge) (p := ⟨ge, 0, none⟩) (Kp.refl w1) (fun _ => rfl) _) (fun _ => rfl) _
 have hb2 : Blk w2 ge [.string p, .slice ha hn hcap, .slice none 0 0] 27 := by rw [<- e2]; exact (hb1.set 0 _).set 1 _
 have x2 : Ext W w2 := x1.trans' k2 fun i hi e => by have e' : i = ge := e; omega
 have H2 := qH (show Ext W w2 /\ Blk w2 ge [.string p, .slice ha hn hcap, .slice none 0 0] 27 /\ W.heap.size = ge from ⟨x2, hb2, ege⟩)
 have e5 : IntKind.i64.wrap ((n : Int) - 1) = (n : Int) - 1 := IntWalk.i64_in _ (by omega)
 clear hb1 x1 k2 hb2 x2
 go_wp2
 rename_i KK hKK
 have HKK := qH hKK
 clear hKK e1 e2 ege a0 a1 d0 d1 f0 f1 e5
 go_loopw [16] (fun iv X => aK7 W g3 [] ge p (.slice ha hn hcap) Z n iv X) (fun iv _ => (intOf iv + 1).toNat)
 case atStart => exact ⟨n, 0, rfl, rfl, qH H2.out.1, none, 0, qH ⟨H2.out.2.1, by rw [List.take_zero]; exact Row.nil _ _ _ _⟩⟩
 case round =>
  obtain ⟨j, i, hji, rfl, hex, ea, ec, hin⟩ := hrel
  cases j with
  | zero =>
   obtain rfl : n = i := by omega
   have hall : Z.reverse.take n = Z.reverse := List.take_of_length_le (by rw [List.length_reverse, HZ.out]; exact Nat.le_refl _)
   rw [hall] at hin
   have c1 : ¬ (0 : Int) ≤ ((0 : Nat) : Int) - 1 := by omega
   clear hall
   go_wp2
   refine HKK.out _ _ ?_
   show Code.wp _ pN _ _ _
   refine HE.out wr ge ea ec _ hex.out hin.out.1 hin.out.2 ?_ ?_ ?_ ?_ ?_ ?_ ?_ ?_ <;> rfl
  | succ k =>
   have ek : (((k + 1 : Nat) : Int) - 1) = (k : Int) := by omega
   rw [ek]
   obtain ⟨⟨l, la, lc⟩, hz⟩ : ∃ z, Z[k]? = some z := ⟨_, qG (by rw [HZ.out]; omega)⟩
   have HR := qH (show Z.reverse.take (i + 1) = Z.reverse.take i ++ [(l, (la, lc))] from by
    rw [List.take_add_one, List.getElem?_reverse (by rw [HZ.out]; omega), HZ.out, show n - 1 - i = k by omega, hz]; rfl)
   obtain ⟨kd, ekd⟩ : ∃ kd, l.1 = kd := ⟨_, rfl⟩
   obtain ⟨pl, epl⟩ : ∃ x, aU l = x := ⟨_, rfl⟩
   obtain ⟨mm, emm⟩ : ∃ x, (aA l).length = x := ⟨_, rfl⟩
   obtain ⟨s3, es3⟩ : ∃ x, fC l = x := ⟨_, rfl⟩
   obtain ⟨s4, es4⟩ : ∃ x, (leftOf l).1 = x := ⟨_, rfl⟩
   obtain ⟨s5, es5⟩ : ∃ x, (leftOf l).2.1 = x := ⟨_, rfl⟩
   obtain ⟨s6, es6⟩ : ∃ x, (aL l).1 = x := ⟨_, rfl⟩
   obtain ⟨s7, es7⟩ : ∃ x, (aL l).2.1 = x := ⟨_, rfl⟩
   have HLc := qH (show bU (l, (la, lc)) = [.int .i64 kd, .string pl, .slice la mm lc, .int .i64 s3, .int .i64 s4, .string s5, .int .i64 s6, .string s7] from by unfold bU; rw [ekd, epl, emm, es3, es4, es5, es6, es7])
   have hcell : ∀ (c : Nat) (x : Value), [.int .i64 kd, .string pl, .slice la mm lc, .int .i64 s3, .int .i64 s4, .string s5, .int .i64 s6, .string s7][c]? = some x -> ∀ X, Ext W X -> X.cell? ⟨b, off + k * 8 + c, none⟩ = some x := fun c x hx X hX => by
    rw [<- HLc.out] at hx
    have hg := flat_get bU 8 dD Z k _ c hz (List.getElem?_eq_some_iff.1 hx).1
    obtain ⟨b', off', e, hc⟩ := (HCs.out.ext hX) (k * 8 + c) x (hg.trans hx)
    cases e
    rw [Nat.add_assoc]; exact hc
   have HJ := qH (show ∀ X, Ext wr X -> (fun X : World => X.cell? ⟨ge, 2, none⟩ = some (.slice ea i ec) /\ X.cell? ⟨g3, 2, none⟩ = some (.slice (some ⟨b, off, none⟩) n bcap) /\ X.cell? ⟨b, off + k * 8, none⟩ = some (.int .i64 kd) /\ X.cell? ⟨b, off + k * 8 + 1, none⟩ = some (.string pl) /\ X.cell? ⟨b, off + k * 8 + 2, none⟩ = some (.slice la mm lc) /\ X.cell? ⟨b, off + k * 8 + 3, none⟩ = some (.int .i64 s3) /\ X.cell? ⟨b, off + k * 8 + 4, none⟩ = some (.int .i64 s4) /\ X.cell? ⟨b, off + k * 8 + 5, none⟩ = some (.string s5) /\ X.cell? ⟨b, off + k * 8 + 6, none⟩ = some (.int .i64 s6) /\ X.cell? ⟨b, off + k * 8 + 7, none⟩ = some (.string s7)) X from fun X hX => ⟨by rw [(hin.out.1.ext hX).cell']; rfl, by rw [(H3.out.ext (hex.out.trans hX)).cell']; rfl, hcell 0 _ rfl X (hex.out.trans hX), hcell 1 _ rfl X (hex.out.trans hX), hcell 2 _ rfl X (hex.out.trans hX), hcell 3 _ rfl X (hex.out.trans hX), hcell 4 _ rfl X (hex.out.trans hX), hcell 5 _ rfl X (hex.out.trans hX), hcell 6 _ rfl X (hex.out.trans hX), hcell 7 _ rfl X (hex.out.trans hX)⟩)
   have k1 : (k : Int) < (n : Int) := by omega
   have k0 : (0 : Int) ≤ (k : Int) := by omega
   have e5 : IntKind.i64.wrap ((k : Int) - 1) = (k : Int) - 1 := IntWalk.i64_in _ (by omega)
   clear ekd epl emm es3 es4 es5 es6 es7 hcell hz ek
   go_wp2
   refine aW (fun X : World => X.cell? ⟨ge, 2, none⟩ = some (.slice ea i ec) /\ X.cell? ⟨g3, 2, none⟩ = some (.slice (some ⟨b, off, none⟩) n bcap) /\ X.cell? ⟨b, off + k * 8, none⟩ = some (.int .i64 kd) /\ X.cell? ⟨b, off + k * 8 + 1, none⟩ = some (.string pl) /\ X.cell? ⟨b, off + k * 8 + 2, none⟩ = some (.slice la mm lc) /\ X.cell? ⟨b, off + k * 8 + 3, none⟩ = some (.int .i64 s3) /\ X.cell? ⟨b, off + k * 8 + 4, none⟩ = some (.int .i64 s4) /\ X.cell? ⟨b, off + k * 8 + 5, none⟩ = some (.string s5) /\ X.cell? ⟨b, off + k * 8 + 6, none⟩ = some (.int .i64 s6) /\ X.cell? ⟨b, off + k * 8 + 7, none⟩ = some (.string s7)) [8, 10] (by kernel_rfl) (HJ.out _ (Kp.refl wr).drew) (fun hHeld => ?_)
   refine dF 0 ?_; try simp only [Act.put,sI,sZ,sS]
   refine dI 1 ?_; try simp only [Act.put,sI,sZ,sS]
   refine dF 2 ?_; try simp only [Act.put,sI,sZ,sS]
   refine dI 3 ?_; try simp only [Act.put,sI,sZ,sS]
   refine dF 4 ?_; try simp only [Act.put,sI,sZ,sS]
   refine dI 5 ?_; try simp only [Act.put,sI,sZ,sS]
   refine dI 6 ?_; try simp only [Act.put,sI,sZ,sS]
   refine aD (i := 7) ?_
   refine aG (i := 7) rfl (fun K hK => ?_)
   go_simp
   refine hK.out _ _ ?_ (fun hHeld => ?_)
   ·(try dsimp only); (first | exact HJ.out _ HA5.out.2.1 | exact HJ.out _ ((Kp.refl wr).drew.alloc _))
   clear hK K; (try simp only [Act.put,sI,sZ,sS])
   refine aD (i := 8) ?_
   refine aI (i := 8) rfl (by kernel_rfl) (fun K hK => ?_)
   refine eO (F := fun _ => False) (w0 := W) eF rfl _ _ rfl (hex.out.drew.alloc _) rfl (hin.out.2.drew.alloc _) rfl (CellsAt.new wr.drew [.int .i64 kd, .string pl, .slice la mm lc, .int .i64 s3, .int .i64 s4, .string s5, .int .i64 s6, .string s7] 40) (by rfl) (by rw [<- HLc.out]; exact jH _) (by omega) (by unfold maxLen; omega) ?_; intro v5 w5 hr5 hk5 hk5b; obtain ⟨ya, yc, rfl, _, _⟩ := hr5.shape; have HA5 := qH (show Ext W w5 /\ Blk w5 ge [.string p, .slice ha hn hcap, .slice ea i ec] 27 /\ Blk w5 g3 [.string p, .slice ha hn hcap, .slice (some ⟨b, off, none⟩) n bcap] 27 /\ Row w5 40 8 (.slice ya (i + 1) yc) (i + 1) ((Z.reverse.take (i + 1)).flatMap bU) (New W) from ⟨hk5, (hin.out.1.drew.alloc _).kp hk5b fun e => (by obtain ⟨cs, hb⟩ := hin.out.2.blkOf e; exact dK (cO hb hin.out.1)), H3.out.ext hk5, by rw [HR.out, List.flatMap_append, List.flatMap_singleton, HLc.out]; exact hr5⟩); clear hr5 hk5 hk5b
   refine hK.out _ _ ?_
   clear hK K; (try simp only [Act.put,sI,sZ,sS])
   refine dF 9 ?_; try simp only [Act.put,sI,sZ,sS]
   refine aD (i := 10) ?_
   refine aI (i := 10) rfl (by kernel_rfl) (fun K hK => ?_)
   (have y0 : w5.cell? ⟨ge, 2, none⟩ = some (.slice ea i ec) := (by rw [HA5.out.2.1.cell']; rfl); have y1 := HA5.out.2.1.free 2)
   go_simp
   refine hK.out _ _ ?_
   clear hK K; (try simp only [Act.put,sI,sZ,sS])
   refine aM (by kernel_rfl) ?_ _
   obtain ⟨w6, e6⟩ : ∃ x, w5.setCell ⟨ge, 2, none⟩ (.slice ya (i + 1) yc) = x := ⟨_, rfl⟩
   rw [e6]
   have k6 : Kp (fun k => k = ge) w5 w6 := by rw [<- e6]; exact Kp.setCell (F := fun k => k = ge) (p := ⟨ge, 2, none⟩) (Kp.refl w5) (fun _ => rfl) _
   have H6 := qH (show Ext W w6 /\ Blk w6 ge [.string p, .slice ha hn hcap, .slice ya (i + 1) yc] 27 /\ Row w6 40 8 (.slice ya (i + 1) yc) (i + 1) ((Z.reverse.take (i + 1)).flatMap bU) (New W) from
    ⟨HA5.out.1.trans' k6 fun i hi e => by have e' : i = ge := e; have := H2.out.2.2; omega, by rw [<- e6]; exact HA5.out.2.1.set 2 _, HA5.out.2.2.2.kp' k6 fun g hg _ e => by
     obtain ⟨cs, hb⟩ := HA5.out.2.2.2.blkOf hg
     have e' : g = ge := e
     rw [e'] at hb
     exact dK (cO hb HA5.out.2.1)⟩)
   clear e6 k6 y0 y1 HA5 HJ hHeld
   go_wp2
   go_roundw
   case rel => exact ⟨k, i + 1, by omega, by first | rfl | (congr 1; done) | (congr 1; omega), qH H6.out.1, ya, yc, qH H6.out.2⟩
   case measure => simp [intOf]
set_option maxRecDepth 100000 in
set_option maxHeartbeats 16000000 in
theorem aGe {W : World} {p : ByteArray} {hs : List aF} {ls : List aJ} {ha ba va wa : Option Addr} {hn hcap n bcap vq vc wq wc g3 kn : Nat} {o : Option Addr} {t : Array Value} {G : Nat -> Prop} {R : Ending -> World -> Prop}
 (hbn : n = ls.length) (h : bQ W G ba ls) (hnc : n ≤ bcap) (hcm : bcap ≤ maxLen) (hl : n ≤ 1048575) (hk : kn < n)
 (h3 : Blk W g3 [.string p, .slice ha hn hcap, .slice ba n bcap] 27)
 (hEnd : ∀ W' gt gu ge ta tn tc ua un uc ea en ec (t' : Array Value), Ext W W' -> Blk W' gt [.string p, .slice ha hn hcap, .slice ta tn tc] 27 -> Blk W' gu [.string p, .slice ha hn hcap, .slice ua un uc] 27 -> Blk W' ge [.string p, .slice ha hn hcap, .slice ea en ec] 27 ->
  tn = (ls.drop kn ++ ls.take kn).length -> bQ W' TT ta (ls.drop kn ++ ls.take kn) -> (∃ l, ls[kn]? = some l /\ un = (ls ++ [l]).length /\ bQ W' TT ua (ls ++ [l])) -> en = ls.reverse.length -> bQ W' TT ea ls.reverse ->
  t'.size = 171 -> t'.getD 3 undef = .pointer (some ⟨g3, 0, none⟩) -> t'.getD 7 undef = .pointer o -> t'.getD 9 undef = .slice va vq vc -> t'.getD 10 undef = .slice wa wq wc -> t'.getD 13 undef = .pointer (some ⟨gt, 0, none⟩) -> t'.getD 14 undef = .pointer (some ⟨gu, 0, none⟩) -> t'.getD 15 undef = .pointer (some ⟨ge, 0, none⟩) ->
  pN.wp Tryz.prog (bodyPost Tryz.prog Tryz.f3 R) { tmps := t', defers := [] } W')
 (hz : t.size = 171) (t3 : t.getD 3 undef = .pointer (some ⟨g3, 0, none⟩)) (t7 : t.getD 7 undef = .pointer o) (t9 : t.getD 9 undef = .slice va vq vc) (t10 : t.getD 10 undef = .slice wa wq wc) (t11 : t.getD 11 undef = .int .i64 n) (t12 : t.getD 12 undef = .int .i64 kn) :
 uN.wp Tryz.prog (bodyPost Tryz.prog Tryz.f3 R) { tmps := t, defers := [] } W := by
 obtain ⟨u, hu', rfl⟩ := aDz t hz
 have e3 := (hu' 3).symm.trans t3
 have e7 := (hu' 7).symm.trans t7
 have e9 := (hu' 9).symm.trans t9
 have e10 := (hu' 10).symm.trans t10
 have e11 := (hu' 11).symm.trans t11
 have e12 := (hu' 12).symm.trans t12
 rw [e3, e7, e9, e10, e11, e12]
 clear hz t3 t7 t9 t10 t11 t12 e3 e7 e9 e10 e11 e12 hu'
 obtain ⟨vs, hvl, hcs, hin⟩ := xV h
 obtain ⟨l0, hl0⟩ : ∃ l0, ls[kn]? = some l0 := ⟨_, qG (by omega)⟩
 obtain ⟨b, off, _, _, eba, -⟩ := mV h hl0
 subst eba
 obtain ⟨Z, eZ⟩ : ∃ Z, ls.zip vs = Z := ⟨_, rfl⟩
 rw [eZ] at hcs hin
 have hZ : Z.map Prod.fst = ls := by rw [<- eZ, List.map_fst_zip]; omega
 have hZn : Z.length = n := by rw [hbn, <- hZ, List.length_map]
 have hall : ∀ x ∈ Z, LitAll x.1 := fun x hx => uY h x.1 (by rw [<- hZ]; exact List.mem_map_of_mem hx)
 obtain ⟨z0, hz0⟩ : ∃ z, Z[kn]? = some z := ⟨_, qG (by omega)⟩
 have HZ := qH (show Z.map Prod.fst = ls /\ Z.length = n /\ (∀ x ∈ Z, LitAll x.1) /\ (∀ x ∈ Z, LitIn W G x.1 x.2.1 x.2.2) /\ Z[kn]? = some z0 from ⟨hZ, hZn, hall, hin, hz0⟩)
 have HCs := qH hcs
 have HCd := qH (show CellsAt W (some ⟨b, off + kn * 8, none⟩) ((Z.drop kn).flatMap bU) from by rw [<- yG bU 8 dD]; exact aHi hcs _)
 have HCt := qH (show CellsAt W (some ⟨b, off, none⟩) ((Z.take kn).flatMap bU) from by rw [<- vM bU 8 dD]; exact aEq hcs _)
 have HE := qH hEnd
 have H3 := qH h3
 have hcm2 : bcap ≤ 9223372036854775807 := hcm
 clear hbn h hEnd h3 hvl hcs hin hl0 eZ hZ hZn hall hz0 hcm
 conv => arg 2; whnf
 obtain ⟨gt, egt⟩ : ∃ g, W.heap.size = g := ⟨_, rfl⟩
 obtain ⟨w1, e1⟩ : ∃ x, W.alloc (.cells #[.string ⟨#[]⟩, .slice none 0 0, .slice none 0 0] 27) = x := ⟨_, rfl⟩
 have hb1 : Blk w1 gt [.string ⟨#[]⟩, .slice none 0 0, .slice none 0 0] 27 := by rw [<- e1, <- egt]; exact Blk.new W _ _
 have x1 : Ext W w1 := by rw [<- e1]; exact (Kp.refl W).alloc _
 have a0 : w1.cell? ⟨g3, 0, none⟩ = some (.string p) := by rw [(H3.out.ext x1).cell']; rfl
 have a1 : w1.cell? ⟨g3, 1, none⟩ = some (.slice ha hn hcap) := by rw [(H3.out.ext x1).cell']; rfl
 have d0 : w1.cell? ⟨gt, 0, none⟩ = some (.string ⟨#[]⟩) := by rw [hb1.cell']; rfl
 have d1 : w1.cell? ⟨gt, 1, none⟩ = some (.slice none 0 0) := by rw [hb1.cell']; rfl
 have f0 := hb1.free 0
 have f1 := hb1.free 1
 obtain ⟨w2, e2⟩ : ∃ x, (w1.setCell ⟨gt, 0, none⟩ (.string p)).setCell ⟨gt, 1, none⟩ (.slice ha hn hcap) = x := ⟨_, rfl⟩
 have k2 : Kp (fun k => k = gt) w1 w2 := by rw [<- e2]; exact Kp.setCell (F := fun k => k = gt) (p := ⟨gt, 1, none⟩) (Kp.setCell (F := fun k => k = gt) (p := ⟨gt, 0, none⟩) (Kp.refl w1) (fun _ => rfl) _) (fun _ => rfl) _
 have hb2 : Blk w2 gt [.string p, .slice ha hn hcap, .slice none 0 0] 27 := by rw [<- e2]; exact (hb1.set 0 _).set 1 _
 have x2 : Ext W w2 := x1.trans' k2 fun i hi e => by have e' : i = gt := e; omega
 have H2 := qH (show Ext W w2 /\ Blk w2 gt [.string p, .slice ha hn hcap, .slice none 0 0] 27 /\ W.heap.size = gt from ⟨x2, hb2, egt⟩)
 clear hb1 x1 k2 hb2 x2
 go_wp2
 clear e1 e2 egt a0 a1 d0 d1 f0 f1
 have i1 : (kn : Int) ≤ (n : Int) := by omega
 have i2 : (n : Int) ≤ (bcap : Int) := by omega
 have i3 : (kn : Int) < (bcap : Int) := by omega
 have i4 : (kn : Int) ≤ (bcap : Int) := by omega
 have i5 : kn < bcap := by omega
 have i6 : bcap ≠ kn := by omega
 have hb3 := H3.out.ext H2.out.1
 have HJ := qH (show ∀ X, Ext w2 X -> (fun X : World => X.cell? ⟨gt, 2, none⟩ = some (.slice none 0 0) /\ X.cell? ⟨g3, 2, none⟩ = some (.slice (some ⟨b, off, none⟩) n bcap)) X from fun X hX => ⟨by rw [(H2.out.2.1.ext hX).cell']; rfl, by rw [(hb3.ext hX).cell']; rfl⟩)
 clear hb3
 refine aW (fun X : World => X.cell? ⟨gt, 2, none⟩ = some (.slice none 0 0) /\ X.cell? ⟨g3, 2, none⟩ = some (.slice (some ⟨b, off, none⟩) n bcap)) [8] (by kernel_rfl) (HJ.out _ (Kp.refl w2).drew) (fun hHeld => ?_)
 refine dF 0 ?_; try simp only [Act.put,sI,sZ,sS]
 refine dI 1 ?_; try simp only [Act.put,sI,sZ,sS]
 refine dF 2 ?_; try simp only [Act.put,sI,sZ,sS]
 refine dI 3 ?_; try simp only [Act.put,sI,sZ,sS]
 refine dF 4 ?_; try simp only [Act.put,sI,sZ,sS]
 refine dI 5 ?_; try simp only [Act.put,sI,sZ,sS]
 refine aD (i := 6) ?_
 refine aG (i := 6) rfl (fun K hK => ?_)
 refine eO (F := fun _ => False) (w0 := W) eF rfl _ _ rfl H2.out.1.drew rfl (Row.nil _ _ _ (New W)) rfl (HCd.out.ext H2.out.1.drew) (by rw [iA bU 8 dD, List.length_drop, HZ.out.2.1]) (mU _) (by omega) (by unfold maxLen; omega) ?_; intro v3 w3 hr3 hk3 hk3b; rw [Nat.zero_add, List.nil_append] at hr3; obtain ⟨ta, tc, rfl, _, _⟩ := hr3.shape; have HA3 := qH (show Ext W w3 /\ Ext w2.drew w3 /\ Row w3 40 8 (.slice ta (n - kn) tc) (n - kn) ((Z.drop kn).flatMap bU) (New W) from ⟨hk3, hk3b.mono (fun _ _ h => by cases h), hr3⟩); clear hr3 hk3 hk3b
 refine hK.out _ _ ?_ (fun hHeld => ?_)
 ·(try dsimp only); (exact HJ.out _ ((Kp.refl w2).drew.trans HA3.out.2.1))
 clear hK K; (try simp only [Act.put,sI,sZ,sS])
 refine dF 7 ?_; try simp only [Act.put,sI,sZ,sS]
 refine aD (i := 8) ?_
 refine aI (i := 8) rfl (by kernel_rfl) (fun K hK => ?_)
 (have hx23 := (Kp.refl w2).drew.trans HA3.out.2.1; have y0 : w3.cell? ⟨gt, 2, none⟩ = some (.slice none 0 0) := (HJ.out _ hx23).1; have y1 := (H2.out.2.1.ext hx23).free 2; clear hx23)
 go_simp
 refine hK.out _ _ ?_
 clear hK K; (try simp only [Act.put,sI,sZ,sS])
 refine aM (by kernel_rfl) ?_ _
 obtain ⟨w4, e4⟩ : ∃ x, w3.setCell ⟨gt, 2, none⟩ (.slice ta (n - kn) tc) = x := ⟨_, rfl⟩
 rw [e4]
 have hx23 := (Kp.refl w2).drew.trans HA3.out.2.1
 have hb3 := H2.out.2.1.ext hx23
 have hb4 : Blk w4 gt [.string p, .slice ha hn hcap, .slice ta (n - kn) tc] 27 := by rw [<- e4]; exact hb3.set 2 _
 have k4 : Kp (fun k => k = gt) w3 w4 := by rw [<- e4]; exact Kp.setCell (F := fun k => k = gt) (p := ⟨gt, 2, none⟩) (Kp.refl w3) (fun _ => rfl) _
 have H4 := qH (show Ext W w4 /\ Blk w4 gt [.string p, .slice ha hn hcap, .slice ta (n - kn) tc] 27 /\ Row w4 40 8 (.slice ta (n - kn) tc) (n - kn) ((Z.drop kn).flatMap bU) (New W) from
  ⟨HA3.out.1.trans' k4 fun i hi e => by have e' : i = gt := e; have := H2.out.2.2; omega, hb4, HA3.out.2.2.kp' k4 fun g hg _ e => by
   obtain ⟨cs, hb⟩ := HA3.out.2.2.blkOf hg
   have e' : g = gt := e
   rw [e'] at hb
   exact dK (cO hb hb3)⟩)
 clear e4 hx23 hb3 hb4 k4 y0 y1 HA3 HJ hHeld
 go_wp2
 have hb3 := H3.out.ext H4.out.1
 have HJ := qH (show ∀ X, Ext w4 X -> (fun X : World => X.cell? ⟨gt, 2, none⟩ = some (.slice ta (n - kn : Nat) tc) /\ X.cell? ⟨g3, 2, none⟩ = some (.slice (some ⟨b, off, none⟩) n bcap)) X from fun X hX => ⟨by rw [(H4.out.2.1.ext hX).cell']; rfl, by rw [(hb3.ext hX).cell']; rfl⟩)
 have j1 : n - kn + kn = n := by omega
 clear hb3
 refine aW (fun X : World => X.cell? ⟨gt, 2, none⟩ = some (.slice ta (n - kn : Nat) tc) /\ X.cell? ⟨g3, 2, none⟩ = some (.slice (some ⟨b, off, none⟩) n bcap)) [8] (by kernel_rfl) (HJ.out _ (Kp.refl w4).drew) (fun hHeld => ?_)
 refine dF 0 ?_; try simp only [Act.put,sI,sZ,sS]
 refine dI 1 ?_; try simp only [Act.put,sI,sZ,sS]
 refine dF 2 ?_; try simp only [Act.put,sI,sZ,sS]
 refine dI 3 ?_; try simp only [Act.put,sI,sZ,sS]
 refine dF 4 ?_; try simp only [Act.put,sI,sZ,sS]
 refine dI 5 ?_; try simp only [Act.put,sI,sZ,sS]
 refine aD (i := 6) ?_
 refine aG (i := 6) rfl (fun K hK => ?_)
 refine eO (F := fun _ => False) (w0 := W) eF rfl _ _ rfl H4.out.1.drew rfl H4.out.2.2.drew rfl (HCt.out.ext H4.out.1.drew) (by rw [iA bU 8 dD, List.length_take, HZ.out.2.1, Nat.min_eq_left (Nat.le_of_lt hk)]) (mU _) (by omega) (by unfold maxLen; omega) ?_; intro v5 w5 hr5 hk5 hk5b; rw [j1, <- List.flatMap_append] at hr5; obtain ⟨ra, rc, rfl, _, _⟩ := hr5.shape; have HA5 := qH (show Ext W w5 /\ Blk w5 gt [.string p, .slice ha hn hcap, .slice ta (n - kn) tc] 27 /\ Blk w5 g3 [.string p, .slice ha hn hcap, .slice (some ⟨b, off, none⟩) n bcap] 27 /\ Row w5 40 8 (.slice ra n rc) n ((Z.drop kn ++ Z.take kn).flatMap bU) (New W) from ⟨hk5, H4.out.2.1.drew.kp hk5b fun e => (by obtain ⟨cs, hb⟩ := H4.out.2.2.blkOf e; exact dK (cO hb H4.out.2.1)), H3.out.ext hk5, hr5⟩); clear hr5 hk5 hk5b
 refine hK.out _ _ ?_ (fun hHeld => ?_)
 ·(try dsimp only); (exact ⟨by rw [HA5.out.2.1.cell']; rfl, by rw [HA5.out.2.2.1.cell']; rfl⟩)
 clear hK K; (try simp only [Act.put,sI,sZ,sS])
 refine dF 7 ?_; try simp only [Act.put,sI,sZ,sS]
 refine aD (i := 8) ?_
 refine aI (i := 8) rfl (by kernel_rfl) (fun K hK => ?_)
 (have y0 : w5.cell? ⟨gt, 2, none⟩ = some (.slice ta (n - kn : Nat) tc) := (by rw [HA5.out.2.1.cell']; rfl); have y1 := HA5.out.2.1.free 2)
 go_simp
 refine hK.out _ _ ?_
 clear hK K; (try simp only [Act.put,sI,sZ,sS])
 refine aM (by kernel_rfl) ?_ _
 obtain ⟨w6, e6⟩ : ∃ x, w5.setCell ⟨gt, 2, none⟩ (.slice ra n rc) = x := ⟨_, rfl⟩
 rw [e6]
 have hb6 : Blk w6 gt [.string p, .slice ha hn hcap, .slice ra n rc] 27 := by rw [<- e6]; exact HA5.out.2.1.set 2 _
 have k6 : Kp (fun k => k = gt) w5 w6 := by rw [<- e6]; exact Kp.setCell (F := fun k => k = gt) (p := ⟨gt, 2, none⟩) (Kp.refl w5) (fun _ => rfl) _
 have H6 := qH (show Ext W w6 /\ Blk w6 gt [.string p, .slice ha hn hcap, .slice ra n rc] 27 /\ Row w6 40 8 (.slice ra n rc) n ((Z.drop kn ++ Z.take kn).flatMap bU) (New W) from
  ⟨HA5.out.1.trans' k6 fun i hi e => by have e' : i = gt := e; have := H2.out.2.2; omega, hb6, HA5.out.2.2.2.kp' k6 fun g hg _ e => by
   obtain ⟨cs, hb⟩ := HA5.out.2.2.2.blkOf hg
   have e' : g = gt := e
   rw [e'] at hb
   exact dK (cO hb HA5.out.2.1)⟩)
 clear e6 hb6 k6 y0 y1 HA5 HJ hHeld H4
 obtain ⟨gu, egu⟩ : ∃ g, w6.heap.size = g := ⟨_, rfl⟩
 obtain ⟨w7, e7⟩ : ∃ x, w6.alloc (.cells #[.string p, .slice ha hn hcap, .slice (some ⟨b, off, none⟩) n bcap] 27) = x := ⟨_, rfl⟩
 have hb7 : Blk w7 gu [.string p, .slice ha hn hcap, .slice (some ⟨b, off, none⟩) n bcap] 27 := by rw [<- e7, <- egu]; exact Blk.new w6 _ _
 have x7 : Ext w6 w7 := by rw [<- e7]; exact (Kp.refl w6).alloc _
 have hb3 := H3.out.ext H6.out.1
 have a0 : w6.cell? ⟨g3, 0, none⟩ = some (.string p) := by rw [hb3.cell']; rfl
 have a1 : w6.cell? ⟨g3, 1, none⟩ = some (.slice ha hn hcap) := by rw [hb3.cell']; rfl
 have a2 : w6.cell? ⟨g3, 2, none⟩ = some (.slice (some ⟨b, off, none⟩) n bcap) := by rw [hb3.cell']; rfl
 have H7 := qH (show Ext W w7 /\ Blk w7 gt [.string p, .slice ha hn hcap, .slice ra n rc] 27 /\ Row w7 40 8 (.slice ra n rc) n ((Z.drop kn ++ Z.take kn).flatMap bU) (New W) /\ Blk w7 gu [.string p, .slice ha hn hcap, .slice (some ⟨b, off, none⟩) n bcap] 27 /\ W.heap.size ≤ gu /\ gu ≠ gt from
  ⟨H6.out.1.trans x7, H6.out.2.1.ext x7, H6.out.2.2.ext x7, hb7, by rw [<- egu]; exact H6.out.1.size, by have := H6.out.2.1.lt; omega⟩)
 clear hb7 x7 hb3 H6
 go_wp2
 rename_i KK hKK
 have HKK := qH hKK
 clear hKK e7 egu a0 a1 a2
 obtain ⟨⟨l, la, lc⟩, rfl⟩ : ∃ x : aJm, z0 = x := ⟨_, rfl⟩
 obtain ⟨kd, ekd⟩ : ∃ kd, l.1 = kd := ⟨_, rfl⟩
 obtain ⟨pl, epl⟩ : ∃ x, aU l = x := ⟨_, rfl⟩
 obtain ⟨mm, emm⟩ : ∃ x, (aA l).length = x := ⟨_, rfl⟩
 obtain ⟨s3, es3⟩ : ∃ x, fC l = x := ⟨_, rfl⟩
 obtain ⟨s4, es4⟩ : ∃ x, (leftOf l).1 = x := ⟨_, rfl⟩
 obtain ⟨s5, es5⟩ : ∃ x, (leftOf l).2.1 = x := ⟨_, rfl⟩
 obtain ⟨s6, es6⟩ : ∃ x, (aL l).1 = x := ⟨_, rfl⟩
 obtain ⟨s7, es7⟩ : ∃ x, (aL l).2.1 = x := ⟨_, rfl⟩
 have HLc := qH (show bU (l, (la, lc)) = [.int .i64 kd, .string pl, .slice la mm lc, .int .i64 s3, .int .i64 s4, .string s5, .int .i64 s6, .string s7] from by unfold bU; rw [ekd, epl, emm, es3, es4, es5, es6, es7])
 have hcell : ∀ (c : Nat) (x : Value), [.int .i64 kd, .string pl, .slice la mm lc, .int .i64 s3, .int .i64 s4, .string s5, .int .i64 s6, .string s7][c]? = some x -> ∀ X, Ext W X -> X.cell? ⟨b, off + kn * 8 + c, none⟩ = some x := fun c x hx X hX => by
  rw [<- HLc.out] at hx
  have hg := flat_get bU 8 dD Z kn _ c HZ.out.2.2.2.2 (List.getElem?_eq_some_iff.1 hx).1
  obtain ⟨b', off', e, hc⟩ := (HCs.out.ext hX) (kn * 8 + c) x (hg.trans hx)
  cases e
  rw [Nat.add_assoc]; exact hc
 have hb3 := H3.out.ext H7.out.1
 have HJ := qH (show ∀ X, Ext w7 X -> (fun X : World => X.cell? ⟨g3, 2, none⟩ = some (.slice (some ⟨b, off, none⟩) n bcap) /\ X.cell? ⟨b, off + kn * 8, none⟩ = some (.int .i64 kd) /\ X.cell? ⟨b, off + kn * 8 + 1, none⟩ = some (.string pl) /\ X.cell? ⟨b, off + kn * 8 + 2, none⟩ = some (.slice la mm lc) /\ X.cell? ⟨b, off + kn * 8 + 3, none⟩ = some (.int .i64 s3) /\ X.cell? ⟨b, off + kn * 8 + 4, none⟩ = some (.int .i64 s4) /\ X.cell? ⟨b, off + kn * 8 + 5, none⟩ = some (.string s5) /\ X.cell? ⟨b, off + kn * 8 + 6, none⟩ = some (.int .i64 s6) /\ X.cell? ⟨b, off + kn * 8 + 7, none⟩ = some (.string s7)) X from fun X hX => ⟨by rw [(hb3.ext hX).cell']; rfl, hcell 0 _ rfl X (H7.out.1.trans hX), hcell 1 _ rfl X (H7.out.1.trans hX), hcell 2 _ rfl X (H7.out.1.trans hX), hcell 3 _ rfl X (H7.out.1.trans hX), hcell 4 _ rfl X (H7.out.1.trans hX), hcell 5 _ rfl X (H7.out.1.trans hX), hcell 6 _ rfl X (H7.out.1.trans hX), hcell 7 _ rfl X (H7.out.1.trans hX)⟩)
 have HCl := qH hcell
 clear ekd epl emm es3 es4 es5 es6 es7 hcell hb3
 refine aW (fun X : World => X.cell? ⟨g3, 2, none⟩ = some (.slice (some ⟨b, off, none⟩) n bcap) /\ X.cell? ⟨b, off + kn * 8, none⟩ = some (.int .i64 kd) /\ X.cell? ⟨b, off + kn * 8 + 1, none⟩ = some (.string pl) /\ X.cell? ⟨b, off + kn * 8 + 2, none⟩ = some (.slice la mm lc) /\ X.cell? ⟨b, off + kn * 8 + 3, none⟩ = some (.int .i64 s3) /\ X.cell? ⟨b, off + kn * 8 + 4, none⟩ = some (.int .i64 s4) /\ X.cell? ⟨b, off + kn * 8 + 5, none⟩ = some (.string s5) /\ X.cell? ⟨b, off + kn * 8 + 6, none⟩ = some (.int .i64 s6) /\ X.cell? ⟨b, off + kn * 8 + 7, none⟩ = some (.string s7)) [12] (by kernel_rfl) (HJ.out _ (Kp.refl w7).drew) (fun hHeld => ?_)
 refine dF 1 ?_; try simp only [Act.put,sI,sZ,sS]
 refine dI 2 ?_; try simp only [Act.put,sI,sZ,sS]
 refine dF 4 ?_; try simp only [Act.put,sI,sZ,sS]
 refine dI 5 ?_; try simp only [Act.put,sI,sZ,sS]
 refine dF 6 ?_; try simp only [Act.put,sI,sZ,sS]
 refine dI 7 ?_; try simp only [Act.put,sI,sZ,sS]
 refine dI 8 ?_; try simp only [Act.put,sI,sZ,sS]
 refine qC (i := 0) (k := 9) ?_ ?_
 ·refine aG (i := 0) rfl (fun K hK => ?_)
  go_simp
  refine hK.out _ _ ?_ (fun hHeld => ?_)
  ·(try dsimp only); (first | exact HJ.out _ HA9.out.1 | exact HJ.out _ HA8.out.1 | exact HJ.out _ (HA8.out.1.alloc _) | exact HJ.out _ ((Kp.refl w7).drew.alloc _) | exact HJ.out _ (((Kp.refl w7).drew.alloc _).alloc _))
  clear hK K; (try simp only [Act.put,sI,sZ,sS])
  refine qC (i := 3) (k := 9) ?_ ?_
  ·refine aG (i := 3) rfl (fun K hK => ?_)
   refine eO (F := fun _ => False) (w0 := w7) eF rfl _ _ rfl (by first | exact (Kp.refl w7).drew.alloc _ | exact ((Kp.refl w7).drew.alloc _).alloc _) rfl (by first | exact eI (Blk.new w7 [] 40).drew (Nat.le_refl _) | exact eI ((Blk.new w7 [] 40).alloc _).drew (Nat.le_refl _) | exact eI (Blk.drew (by have h := Blk.new (w7.alloc (.cells #[.int .i64 kd, .string pl, .slice la mm lc, .int .i64 s3, .int .i64 s4, .string s5, .int .i64 s6, .string s7] 40)) [] 40; rw [aK] at h; exact h)) (Nat.le_succ _)) rfl (HCs.out.ext (H7.out.1.trans (by first | exact (Kp.refl w7).drew.alloc _ | exact ((Kp.refl w7).drew.alloc _).alloc _))) (by rw [iA bU 8 dD, HZ.out.2.1]) (mU _) (by omega) (by unfold maxLen; omega) ?_; intro v8 w8 hr8 hk8 hk8b; rw [Nat.zero_add, List.nil_append] at hr8; obtain ⟨qa, qc, rfl, _, _⟩ := hr8.shape; have HA8 := qH (show Ext w7 w8 /\ Row w8 40 8 (.slice qa n qc) n (Z.flatMap bU) (New w7) from ⟨hk8, hr8⟩); (try have HLt := qH (show CellsAt w8 (some ⟨w7.heap.size + 1, 0, none⟩) [.int .i64 kd, .string pl, .slice la mm lc, .int .i64 s3, .int .i64 s4, .string s5, .int .i64 s6, .string s7] from CellsAt.kp (F := fun g => g = w7.heap.size) (CellsAt.ext (by have h := CellsAt.new (w7.alloc (.cells #[] 40)) [.int .i64 kd, .string pl, .slice la mm lc, .int .i64 s3, .int .i64 s4, .string s5, .int .i64 s6, .string s7] 40; rw [aK] at h; exact h) (Kp.refl _).drew) (hk8b.mono fun k _ h => (Option.some.inj h).symm) (fun a ea hf => by cases ea; have hf' : w7.heap.size + 1 = w7.heap.size := hf; omega))); (try have HLt := qH (show CellsAt w8 (some ⟨w7.heap.size, 0, none⟩) [.int .i64 kd, .string pl, .slice la mm lc, .int .i64 s3, .int .i64 s4, .string s5, .int .i64 s6, .string s7] from CellsAt.kp (F := fun g => g = w7.heap.size + 1) (CellsAt.ext ((CellsAt.new w7 [.int .i64 kd, .string pl, .slice la mm lc, .int .i64 s3, .int .i64 s4, .string s5, .int .i64 s6, .string s7] 40).alloc _) (Kp.refl _).drew) (hk8b.mono fun k _ h => (Option.some.inj h).symm) (fun a ea hf => by cases ea; have hf' : w7.heap.size = w7.heap.size + 1 := hf; omega))); clear hr8 hk8 hk8b
   refine hK.out _ _ ?_ (fun hHeld => ?_)
   ·(try dsimp only); (first | exact HJ.out _ HA9.out.1 | exact HJ.out _ HA8.out.1 | exact HJ.out _ (HA8.out.1.alloc _) | exact HJ.out _ ((Kp.refl w7).drew.alloc _) | exact HJ.out _ (((Kp.refl w7).drew.alloc _).alloc _))
   clear hK K; (try simp only [Act.put,sI,sZ,sS])
   refine aD (i := 9) ?_
   refine aG (i := 9) rfl (fun K hK => ?_)
   go_simp
   refine hK.out _ _ ?_ (fun hHeld => ?_)
   ·(try dsimp only); (first | exact HJ.out _ HA9.out.1 | exact HJ.out _ HA8.out.1 | exact HJ.out _ (HA8.out.1.alloc _) | exact HJ.out _ ((Kp.refl w7).drew.alloc _) | exact HJ.out _ (((Kp.refl w7).drew.alloc _).alloc _))
   clear hK K; (try simp only [Act.put,sI,sZ,sS])
   refine aD (i := 10) ?_
   refine aG (i := 10) rfl (fun K hK => ?_)
   refine eO (F := fun _ => False) (w0 := w7) eF rfl _ _ rfl (by first | exact HA8.out.1.alloc _ | exact HA8.out.1) rfl (by first | exact HA8.out.2.alloc _ | exact HA8.out.2) rfl (by first | exact HLt.out | exact CellsAt.new w8 [.int .i64 kd, .string pl, .slice la mm lc, .int .i64 s3, .int .i64 s4, .string s5, .int .i64 s6, .string s7] 40) (by rfl) (by rw [<- HLc.out]; exact jH _) (by omega) (by unfold maxLen; omega) ?_; intro v9 w9 hr9 hk9 hk9b; obtain ⟨ya, yc, rfl, _, _⟩ := hr9.shape; have HA9 := qH (show Ext w7 w9 /\ Row w9 40 8 (.slice ya (n + 1) yc) (n + 1) ((Z ++ [(l, (la, lc))]).flatMap bU) (New w7) from ⟨hk9, by rw [List.flatMap_append, List.flatMap_singleton, HLc.out]; exact hr9⟩); clear hr9 hk9 hk9b
   refine hK.out _ _ ?_ (fun hHeld => ?_)
   ·(try dsimp only); (first | exact HJ.out _ HA9.out.1 | exact HJ.out _ HA8.out.1 | exact HJ.out _ (HA8.out.1.alloc _) | exact HJ.out _ ((Kp.refl w7).drew.alloc _) | exact HJ.out _ (((Kp.refl w7).drew.alloc _).alloc _))
   clear hK K; (try simp only [Act.put,sI,sZ,sS])
   refine dF 11 ?_; try simp only [Act.put,sI,sZ,sS]
   refine aD (i := 12) ?_
   refine aI (i := 12) rfl (by kernel_rfl) (fun K hK => ?_)
   (have y0 : w9.cell? ⟨gu, 2, none⟩ = some (.slice (some ⟨b, off, none⟩) n bcap) := (by rw [(H7.out.2.2.2.1.ext HA9.out.1).cell']; rfl); have y1 := (H7.out.2.2.2.1.ext HA9.out.1).free 2)
   go_simp
   refine hK.out _ _ ?_
   clear hK K; (try simp only [Act.put,sI,sZ,sS])
   refine aM (by kernel_rfl) ?_ _
   obtain ⟨wA, eA⟩ : ∃ x, w9.setCell ⟨gu, 2, none⟩ (.slice ya (n + 1 : Nat) yc) = x := ⟨_, rfl⟩
   have hbu := H7.out.2.2.2.1.ext HA9.out.1
   have kA : Kp (fun k => k = gu) w9 wA := by rw [<- eA]; exact Kp.setCell (F := fun k => k = gu) (p := ⟨gu, 2, none⟩) (Kp.refl w9) (fun _ => rfl) _
   have hbA : Blk wA gu [.string p, .slice ha hn hcap, .slice ya (n + 1) yc] 27 := by rw [<- eA]; exact hbu.set 2 _
   have xA : Ext W wA := (H7.out.1.trans HA9.out.1).trans' kA fun i hi e => by have e' : i = gu := e; have := H7.out.2.2.2.2.1; omega
   have hrT := H7.out.2.2.1.ext HA9.out.1
   have hrU := HA9.out.2
   have hrT2 : Row wA 40 8 (.slice ra n rc) n ((Z.drop kn ++ Z.take kn).flatMap bU) (New W) := hrT.kp' kA fun g hg _ e => by
    obtain ⟨cs, hb⟩ := hrT.blkOf hg
    have e' : g = gu := e
    rw [e'] at hb
    exact dK (cO hb hbu)
   have hrU2 : Row wA 40 8 (.slice ya (n + 1) yc) (n + 1) ((Z ++ [(l, (la, lc))]).flatMap bU) (New w7) := hrU.kp' kA fun g hg _ e => by
    obtain ⟨cs, hb⟩ := hrU.blkOf hg
    have e' : g = gu := e
    rw [e'] at hb
    exact dK (cO hb hbu)
   have hgtA : Blk wA gt [.string p, .slice ha hn hcap, .slice ra n rc] 27 := (H7.out.2.1.ext HA9.out.1).kp kA fun e => H7.out.2.2.2.2.2 e.symm
   rw [eA]
   clear eA y0 y1
   refine HKK.out _ _ ?_
   show Code.wp _ oA _ _ _
   refine oV (W := wA) (Z := Z) (n := n) (gt := gt) (gu := gu) (b := b) (off := off) HZ.out.2.1 (HCs.out.ext xA) hnc hl (H3.out.ext xA) (fun W' ge ea ec t' hW' hbE hrE z1 z2 z3 z4 z5 z6 z7 z8 => ?_) rfl rfl rfl rfl rfl rfl rfl rfl
   have hmT : ∀ x ∈ Z.drop kn ++ Z.take kn, x ∈ Z := fun x hx => by
    rcases List.mem_append.1 hx with h | h
    ·exact List.mem_of_mem_drop h
    ·exact List.mem_of_mem_take h
   have hzm : (l, (la, lc)) ∈ Z := List.mem_of_getElem? HZ.out.2.2.2.2
   have hmU : ∀ x ∈ Z ++ [(l, (la, lc))], x ∈ Z := fun x hx => by
    rcases List.mem_append.1 hx with h | h
    ·exact h
    ·rw [List.mem_singleton.1 h]; exact hzm
   have hmE : ∀ x ∈ Z.reverse, x ∈ Z := fun x hx => List.mem_reverse.1 hx
   have hin : ∀ x ∈ Z, LitIn W' G x.1 x.2.1 x.2.2 := fun x hx => (HZ.out.2.2.2.1 x hx).kp (xA.trans hW') fun _ _ => id
   obtain ⟨a1, c1, q1, q2, q3⟩ := eH (hrT2.ext hW') (fun x hx => HZ.out.2.2.1 x (hmT x hx)) (fun x hx => hin x (hmT x hx))
   obtain ⟨a2, c2, q4, q5, q6⟩ := eH (hrU2.ext hW') (fun x hx => HZ.out.2.2.1 x (hmU x hx)) (fun x hx => hin x (hmU x hx))
   obtain ⟨a3, c3, q7, q8, q9⟩ := eH hrE (fun x hx => HZ.out.2.2.1 x (hmE x hx)) (fun x hx => hin x (hmE x hx))
   cases q1; cases q4; cases q7
   rw [List.map_append, List.map_drop, List.map_take, HZ.out.1] at q2 q3
   rw [List.map_append, HZ.out.1] at q5 q6
   rw [List.map_reverse, HZ.out.1] at q8 q9
   have hl0 : ls[kn]? = some l := by rw [<- HZ.out.1, List.getElem?_map, HZ.out.2.2.2.2]; rfl
   exact HE.out W' gt gu ge _ n _ _ (n + 1) _ _ n _ t' (xA.trans hW') (hgtA.ext hW') (hbA.ext hW') hbE q2 q3 ⟨l, hl0, q5, q6⟩ q8 q9 z1 z2 z3 z4 z5 z6 z7 z8
  ·refine aG (i := 9) rfl (fun K hK => ?_)
   go_simp
   refine hK.out _ _ ?_ (fun hHeld => ?_)
   ·(try dsimp only); (first | exact HJ.out _ HA9.out.1 | exact HJ.out _ HA8.out.1 | exact HJ.out _ (HA8.out.1.alloc _) | exact HJ.out _ ((Kp.refl w7).drew.alloc _) | exact HJ.out _ (((Kp.refl w7).drew.alloc _).alloc _))
   clear hK K; (try simp only [Act.put,sI,sZ,sS])
   refine aD (i := 3) ?_
   refine aG (i := 3) rfl (fun K hK => ?_)
   refine eO (F := fun _ => False) (w0 := w7) eF rfl _ _ rfl (by first | exact (Kp.refl w7).drew.alloc _ | exact ((Kp.refl w7).drew.alloc _).alloc _) rfl (by first | exact eI (Blk.new w7 [] 40).drew (Nat.le_refl _) | exact eI ((Blk.new w7 [] 40).alloc _).drew (Nat.le_refl _) | exact eI (Blk.drew (by have h := Blk.new (w7.alloc (.cells #[.int .i64 kd, .string pl, .slice la mm lc, .int .i64 s3, .int .i64 s4, .string s5, .int .i64 s6, .string s7] 40)) [] 40; rw [aK] at h; exact h)) (Nat.le_succ _)) rfl (HCs.out.ext (H7.out.1.trans (by first | exact (Kp.refl w7).drew.alloc _ | exact ((Kp.refl w7).drew.alloc _).alloc _))) (by rw [iA bU 8 dD, HZ.out.2.1]) (mU _) (by omega) (by unfold maxLen; omega) ?_; intro v8 w8 hr8 hk8 hk8b; rw [Nat.zero_add, List.nil_append] at hr8; obtain ⟨qa, qc, rfl, _, _⟩ := hr8.shape; have HA8 := qH (show Ext w7 w8 /\ Row w8 40 8 (.slice qa n qc) n (Z.flatMap bU) (New w7) from ⟨hk8, hr8⟩); (try have HLt := qH (show CellsAt w8 (some ⟨w7.heap.size + 1, 0, none⟩) [.int .i64 kd, .string pl, .slice la mm lc, .int .i64 s3, .int .i64 s4, .string s5, .int .i64 s6, .string s7] from CellsAt.kp (F := fun g => g = w7.heap.size) (CellsAt.ext (by have h := CellsAt.new (w7.alloc (.cells #[] 40)) [.int .i64 kd, .string pl, .slice la mm lc, .int .i64 s3, .int .i64 s4, .string s5, .int .i64 s6, .string s7] 40; rw [aK] at h; exact h) (Kp.refl _).drew) (hk8b.mono fun k _ h => (Option.some.inj h).symm) (fun a ea hf => by cases ea; have hf' : w7.heap.size + 1 = w7.heap.size := hf; omega))); (try have HLt := qH (show CellsAt w8 (some ⟨w7.heap.size, 0, none⟩) [.int .i64 kd, .string pl, .slice la mm lc, .int .i64 s3, .int .i64 s4, .string s5, .int .i64 s6, .string s7] from CellsAt.kp (F := fun g => g = w7.heap.size + 1) (CellsAt.ext ((CellsAt.new w7 [.int .i64 kd, .string pl, .slice la mm lc, .int .i64 s3, .int .i64 s4, .string s5, .int .i64 s6, .string s7] 40).alloc _) (Kp.refl _).drew) (hk8b.mono fun k _ h => (Option.some.inj h).symm) (fun a ea hf => by cases ea; have hf' : w7.heap.size = w7.heap.size + 1 := hf; omega))); clear hr8 hk8 hk8b
   refine hK.out _ _ ?_ (fun hHeld => ?_)
   ·(try dsimp only); (first | exact HJ.out _ HA9.out.1 | exact HJ.out _ HA8.out.1 | exact HJ.out _ (HA8.out.1.alloc _) | exact HJ.out _ ((Kp.refl w7).drew.alloc _) | exact HJ.out _ (((Kp.refl w7).drew.alloc _).alloc _))
   clear hK K; (try simp only [Act.put,sI,sZ,sS])
   refine aD (i := 10) ?_
   refine aG (i := 10) rfl (fun K hK => ?_)
   refine eO (F := fun _ => False) (w0 := w7) eF rfl _ _ rfl (by first | exact HA8.out.1.alloc _ | exact HA8.out.1) rfl (by first | exact HA8.out.2.alloc _ | exact HA8.out.2) rfl (by first | exact HLt.out | exact CellsAt.new w8 [.int .i64 kd, .string pl, .slice la mm lc, .int .i64 s3, .int .i64 s4, .string s5, .int .i64 s6, .string s7] 40) (by rfl) (by rw [<- HLc.out]; exact jH _) (by omega) (by unfold maxLen; omega) ?_; intro v9 w9 hr9 hk9 hk9b; obtain ⟨ya, yc, rfl, _, _⟩ := hr9.shape; have HA9 := qH (show Ext w7 w9 /\ Row w9 40 8 (.slice ya (n + 1) yc) (n + 1) ((Z ++ [(l, (la, lc))]).flatMap bU) (New w7) from ⟨hk9, by rw [List.flatMap_append, List.flatMap_singleton, HLc.out]; exact hr9⟩); clear hr9 hk9 hk9b
   refine hK.out _ _ ?_ (fun hHeld => ?_)
   ·(try dsimp only); (first | exact HJ.out _ HA9.out.1 | exact HJ.out _ HA8.out.1 | exact HJ.out _ (HA8.out.1.alloc _) | exact HJ.out _ ((Kp.refl w7).drew.alloc _) | exact HJ.out _ (((Kp.refl w7).drew.alloc _).alloc _))
   clear hK K; (try simp only [Act.put,sI,sZ,sS])
   refine dF 11 ?_; try simp only [Act.put,sI,sZ,sS]
   refine aD (i := 12) ?_
   refine aI (i := 12) rfl (by kernel_rfl) (fun K hK => ?_)
   (have y0 : w9.cell? ⟨gu, 2, none⟩ = some (.slice (some ⟨b, off, none⟩) n bcap) := (by rw [(H7.out.2.2.2.1.ext HA9.out.1).cell']; rfl); have y1 := (H7.out.2.2.2.1.ext HA9.out.1).free 2)
   go_simp
   refine hK.out _ _ ?_
   clear hK K; (try simp only [Act.put,sI,sZ,sS])
   refine aM (by kernel_rfl) ?_ _
   obtain ⟨wA, eA⟩ : ∃ x, w9.setCell ⟨gu, 2, none⟩ (.slice ya (n + 1 : Nat) yc) = x := ⟨_, rfl⟩
   have hbu := H7.out.2.2.2.1.ext HA9.out.1
   have kA : Kp (fun k => k = gu) w9 wA := by rw [<- eA]; exact Kp.setCell (F := fun k => k = gu) (p := ⟨gu, 2, none⟩) (Kp.refl w9) (fun _ => rfl) _
   have hbA : Blk wA gu [.string p, .slice ha hn hcap, .slice ya (n + 1) yc] 27 := by rw [<- eA]; exact hbu.set 2 _
   have xA : Ext W wA := (H7.out.1.trans HA9.out.1).trans' kA fun i hi e => by have e' : i = gu := e; have := H7.out.2.2.2.2.1; omega
   have hrT := H7.out.2.2.1.ext HA9.out.1
   have hrU := HA9.out.2
   have hrT2 : Row wA 40 8 (.slice ra n rc) n ((Z.drop kn ++ Z.take kn).flatMap bU) (New W) := hrT.kp' kA fun g hg _ e => by
    obtain ⟨cs, hb⟩ := hrT.blkOf hg
    have e' : g = gu := e
    rw [e'] at hb
    exact dK (cO hb hbu)
   have hrU2 : Row wA 40 8 (.slice ya (n + 1) yc) (n + 1) ((Z ++ [(l, (la, lc))]).flatMap bU) (New w7) := hrU.kp' kA fun g hg _ e => by
    obtain ⟨cs, hb⟩ := hrU.blkOf hg
    have e' : g = gu := e
    rw [e'] at hb
    exact dK (cO hb hbu)
   have hgtA : Blk wA gt [.string p, .slice ha hn hcap, .slice ra n rc] 27 := (H7.out.2.1.ext HA9.out.1).kp kA fun e => H7.out.2.2.2.2.2 e.symm
   rw [eA]
   clear eA y0 y1
   refine HKK.out _ _ ?_
   show Code.wp _ oA _ _ _
   refine oV (W := wA) (Z := Z) (n := n) (gt := gt) (gu := gu) (b := b) (off := off) HZ.out.2.1 (HCs.out.ext xA) hnc hl (H3.out.ext xA) (fun W' ge ea ec t' hW' hbE hrE z1 z2 z3 z4 z5 z6 z7 z8 => ?_) rfl rfl rfl rfl rfl rfl rfl rfl
   have hmT : ∀ x ∈ Z.drop kn ++ Z.take kn, x ∈ Z := fun x hx => by
    rcases List.mem_append.1 hx with h | h
    ·exact List.mem_of_mem_drop h
    ·exact List.mem_of_mem_take h
   have hzm : (l, (la, lc)) ∈ Z := List.mem_of_getElem? HZ.out.2.2.2.2
   have hmU : ∀ x ∈ Z ++ [(l, (la, lc))], x ∈ Z := fun x hx => by
    rcases List.mem_append.1 hx with h | h
    ·exact h
    ·rw [List.mem_singleton.1 h]; exact hzm
   have hmE : ∀ x ∈ Z.reverse, x ∈ Z := fun x hx => List.mem_reverse.1 hx
   have hin : ∀ x ∈ Z, LitIn W' G x.1 x.2.1 x.2.2 := fun x hx => (HZ.out.2.2.2.1 x hx).kp (xA.trans hW') fun _ _ => id
   obtain ⟨a1, c1, q1, q2, q3⟩ := eH (hrT2.ext hW') (fun x hx => HZ.out.2.2.1 x (hmT x hx)) (fun x hx => hin x (hmT x hx))
   obtain ⟨a2, c2, q4, q5, q6⟩ := eH (hrU2.ext hW') (fun x hx => HZ.out.2.2.1 x (hmU x hx)) (fun x hx => hin x (hmU x hx))
   obtain ⟨a3, c3, q7, q8, q9⟩ := eH hrE (fun x hx => HZ.out.2.2.1 x (hmE x hx)) (fun x hx => hin x (hmE x hx))
   cases q1; cases q4; cases q7
   rw [List.map_append, List.map_drop, List.map_take, HZ.out.1] at q2 q3
   rw [List.map_append, HZ.out.1] at q5 q6
   rw [List.map_reverse, HZ.out.1] at q8 q9
   have hl0 : ls[kn]? = some l := by rw [<- HZ.out.1, List.getElem?_map, HZ.out.2.2.2.2]; rfl
   exact HE.out W' gt gu ge _ n _ _ (n + 1) _ _ n _ t' (xA.trans hW') (hgtA.ext hW') (hbA.ext hW') hbE q2 q3 ⟨l, hl0, q5, q6⟩ q8 q9 z1 z2 z3 z4 z5 z6 z7 z8
 ·refine aG (i := 9) rfl (fun K hK => ?_)
  go_simp
  refine hK.out _ _ ?_ (fun hHeld => ?_)
  ·(try dsimp only); (first | exact HJ.out _ HA9.out.1 | exact HJ.out _ HA8.out.1 | exact HJ.out _ (HA8.out.1.alloc _) | exact HJ.out _ ((Kp.refl w7).drew.alloc _) | exact HJ.out _ (((Kp.refl w7).drew.alloc _).alloc _))
  clear hK K; (try simp only [Act.put,sI,sZ,sS])
  refine aD (i := 0) ?_
  refine aG (i := 0) rfl (fun K hK => ?_)
  go_simp
  refine hK.out _ _ ?_ (fun hHeld => ?_)
  ·(try dsimp only); (first | exact HJ.out _ HA9.out.1 | exact HJ.out _ HA8.out.1 | exact HJ.out _ (HA8.out.1.alloc _) | exact HJ.out _ ((Kp.refl w7).drew.alloc _) | exact HJ.out _ (((Kp.refl w7).drew.alloc _).alloc _))
  clear hK K; (try simp only [Act.put,sI,sZ,sS])
  refine aD (i := 3) ?_
  refine aG (i := 3) rfl (fun K hK => ?_)
  refine eO (F := fun _ => False) (w0 := w7) eF rfl _ _ rfl (by first | exact (Kp.refl w7).drew.alloc _ | exact ((Kp.refl w7).drew.alloc _).alloc _) rfl (by first | exact eI (Blk.new w7 [] 40).drew (Nat.le_refl _) | exact eI ((Blk.new w7 [] 40).alloc _).drew (Nat.le_refl _) | exact eI (Blk.drew (by have h := Blk.new (w7.alloc (.cells #[.int .i64 kd, .string pl, .slice la mm lc, .int .i64 s3, .int .i64 s4, .string s5, .int .i64 s6, .string s7] 40)) [] 40; rw [aK] at h; exact h)) (Nat.le_succ _)) rfl (HCs.out.ext (H7.out.1.trans (by first | exact (Kp.refl w7).drew.alloc _ | exact ((Kp.refl w7).drew.alloc _).alloc _))) (by rw [iA bU 8 dD, HZ.out.2.1]) (mU _) (by omega) (by unfold maxLen; omega) ?_; intro v8 w8 hr8 hk8 hk8b; rw [Nat.zero_add, List.nil_append] at hr8; obtain ⟨qa, qc, rfl, _, _⟩ := hr8.shape; have HA8 := qH (show Ext w7 w8 /\ Row w8 40 8 (.slice qa n qc) n (Z.flatMap bU) (New w7) from ⟨hk8, hr8⟩); (try have HLt := qH (show CellsAt w8 (some ⟨w7.heap.size + 1, 0, none⟩) [.int .i64 kd, .string pl, .slice la mm lc, .int .i64 s3, .int .i64 s4, .string s5, .int .i64 s6, .string s7] from CellsAt.kp (F := fun g => g = w7.heap.size) (CellsAt.ext (by have h := CellsAt.new (w7.alloc (.cells #[] 40)) [.int .i64 kd, .string pl, .slice la mm lc, .int .i64 s3, .int .i64 s4, .string s5, .int .i64 s6, .string s7] 40; rw [aK] at h; exact h) (Kp.refl _).drew) (hk8b.mono fun k _ h => (Option.some.inj h).symm) (fun a ea hf => by cases ea; have hf' : w7.heap.size + 1 = w7.heap.size := hf; omega))); (try have HLt := qH (show CellsAt w8 (some ⟨w7.heap.size, 0, none⟩) [.int .i64 kd, .string pl, .slice la mm lc, .int .i64 s3, .int .i64 s4, .string s5, .int .i64 s6, .string s7] from CellsAt.kp (F := fun g => g = w7.heap.size + 1) (CellsAt.ext ((CellsAt.new w7 [.int .i64 kd, .string pl, .slice la mm lc, .int .i64 s3, .int .i64 s4, .string s5, .int .i64 s6, .string s7] 40).alloc _) (Kp.refl _).drew) (hk8b.mono fun k _ h => (Option.some.inj h).symm) (fun a ea hf => by cases ea; have hf' : w7.heap.size = w7.heap.size + 1 := hf; omega))); clear hr8 hk8 hk8b
  refine hK.out _ _ ?_ (fun hHeld => ?_)
  ·(try dsimp only); (first | exact HJ.out _ HA9.out.1 | exact HJ.out _ HA8.out.1 | exact HJ.out _ (HA8.out.1.alloc _) | exact HJ.out _ ((Kp.refl w7).drew.alloc _) | exact HJ.out _ (((Kp.refl w7).drew.alloc _).alloc _))
  clear hK K; (try simp only [Act.put,sI,sZ,sS])
  refine aD (i := 10) ?_
  refine aG (i := 10) rfl (fun K hK => ?_)
  refine eO (F := fun _ => False) (w0 := w7) eF rfl _ _ rfl (by first | exact HA8.out.1.alloc _ | exact HA8.out.1) rfl (by first | exact HA8.out.2.alloc _ | exact HA8.out.2) rfl (by first | exact HLt.out | exact CellsAt.new w8 [.int .i64 kd, .string pl, .slice la mm lc, .int .i64 s3, .int .i64 s4, .string s5, .int .i64 s6, .string s7] 40) (by rfl) (by rw [<- HLc.out]; exact jH _) (by omega) (by unfold maxLen; omega) ?_; intro v9 w9 hr9 hk9 hk9b; obtain ⟨ya, yc, rfl, _, _⟩ := hr9.shape; have HA9 := qH (show Ext w7 w9 /\ Row w9 40 8 (.slice ya (n + 1) yc) (n + 1) ((Z ++ [(l, (la, lc))]).flatMap bU) (New w7) from ⟨hk9, by rw [List.flatMap_append, List.flatMap_singleton, HLc.out]; exact hr9⟩); clear hr9 hk9 hk9b
  refine hK.out _ _ ?_ (fun hHeld => ?_)
  ·(try dsimp only); (first | exact HJ.out _ HA9.out.1 | exact HJ.out _ HA8.out.1 | exact HJ.out _ (HA8.out.1.alloc _) | exact HJ.out _ ((Kp.refl w7).drew.alloc _) | exact HJ.out _ (((Kp.refl w7).drew.alloc _).alloc _))
  clear hK K; (try simp only [Act.put,sI,sZ,sS])
  refine dF 11 ?_; try simp only [Act.put,sI,sZ,sS]
  refine aD (i := 12) ?_
  refine aI (i := 12) rfl (by kernel_rfl) (fun K hK => ?_)
  (have y0 : w9.cell? ⟨gu, 2, none⟩ = some (.slice (some ⟨b, off, none⟩) n bcap) := (by rw [(H7.out.2.2.2.1.ext HA9.out.1).cell']; rfl); have y1 := (H7.out.2.2.2.1.ext HA9.out.1).free 2)
  go_simp
  refine hK.out _ _ ?_
  clear hK K; (try simp only [Act.put,sI,sZ,sS])
  refine aM (by kernel_rfl) ?_ _
  obtain ⟨wA, eA⟩ : ∃ x, w9.setCell ⟨gu, 2, none⟩ (.slice ya (n + 1 : Nat) yc) = x := ⟨_, rfl⟩
  have hbu := H7.out.2.2.2.1.ext HA9.out.1
  have kA : Kp (fun k => k = gu) w9 wA := by rw [<- eA]; exact Kp.setCell (F := fun k => k = gu) (p := ⟨gu, 2, none⟩) (Kp.refl w9) (fun _ => rfl) _
  have hbA : Blk wA gu [.string p, .slice ha hn hcap, .slice ya (n + 1) yc] 27 := by rw [<- eA]; exact hbu.set 2 _
  have xA : Ext W wA := (H7.out.1.trans HA9.out.1).trans' kA fun i hi e => by have e' : i = gu := e; have := H7.out.2.2.2.2.1; omega
  have hrT := H7.out.2.2.1.ext HA9.out.1
  have hrU := HA9.out.2
  have hrT2 : Row wA 40 8 (.slice ra n rc) n ((Z.drop kn ++ Z.take kn).flatMap bU) (New W) := hrT.kp' kA fun g hg _ e => by
   obtain ⟨cs, hb⟩ := hrT.blkOf hg
   have e' : g = gu := e
   rw [e'] at hb
   exact dK (cO hb hbu)
  have hrU2 : Row wA 40 8 (.slice ya (n + 1) yc) (n + 1) ((Z ++ [(l, (la, lc))]).flatMap bU) (New w7) := hrU.kp' kA fun g hg _ e => by
   obtain ⟨cs, hb⟩ := hrU.blkOf hg
   have e' : g = gu := e
   rw [e'] at hb
   exact dK (cO hb hbu)
  have hgtA : Blk wA gt [.string p, .slice ha hn hcap, .slice ra n rc] 27 := (H7.out.2.1.ext HA9.out.1).kp kA fun e => H7.out.2.2.2.2.2 e.symm
  rw [eA]
  clear eA y0 y1
  refine HKK.out _ _ ?_
  show Code.wp _ oA _ _ _
  refine oV (W := wA) (Z := Z) (n := n) (gt := gt) (gu := gu) (b := b) (off := off) HZ.out.2.1 (HCs.out.ext xA) hnc hl (H3.out.ext xA) (fun W' ge ea ec t' hW' hbE hrE z1 z2 z3 z4 z5 z6 z7 z8 => ?_) rfl rfl rfl rfl rfl rfl rfl rfl
  have hmT : ∀ x ∈ Z.drop kn ++ Z.take kn, x ∈ Z := fun x hx => by
   rcases List.mem_append.1 hx with h | h
   ·exact List.mem_of_mem_drop h
   ·exact List.mem_of_mem_take h
  have hzm : (l, (la, lc)) ∈ Z := List.mem_of_getElem? HZ.out.2.2.2.2
  have hmU : ∀ x ∈ Z ++ [(l, (la, lc))], x ∈ Z := fun x hx => by
   rcases List.mem_append.1 hx with h | h
   ·exact h
   ·rw [List.mem_singleton.1 h]; exact hzm
  have hmE : ∀ x ∈ Z.reverse, x ∈ Z := fun x hx => List.mem_reverse.1 hx
  have hin : ∀ x ∈ Z, LitIn W' G x.1 x.2.1 x.2.2 := fun x hx => (HZ.out.2.2.2.1 x hx).kp (xA.trans hW') fun _ _ => id
  obtain ⟨a1, c1, q1, q2, q3⟩ := eH (hrT2.ext hW') (fun x hx => HZ.out.2.2.1 x (hmT x hx)) (fun x hx => hin x (hmT x hx))
  obtain ⟨a2, c2, q4, q5, q6⟩ := eH (hrU2.ext hW') (fun x hx => HZ.out.2.2.1 x (hmU x hx)) (fun x hx => hin x (hmU x hx))
  obtain ⟨a3, c3, q7, q8, q9⟩ := eH hrE (fun x hx => HZ.out.2.2.1 x (hmE x hx)) (fun x hx => hin x (hmE x hx))
  cases q1; cases q4; cases q7
  rw [List.map_append, List.map_drop, List.map_take, HZ.out.1] at q2 q3
  rw [List.map_append, HZ.out.1] at q5 q6
  rw [List.map_reverse, HZ.out.1] at q8 q9
  have hl0 : ls[kn]? = some l := by rw [<- HZ.out.1, List.getElem?_map, HZ.out.2.2.2.2]; rfl
  exact HE.out W' gt gu ge _ n _ _ (n + 1) _ _ n _ t' (xA.trans hW') (hgtA.ext hW') (hbA.ext hW') hbE q2 q3 ⟨l, hl0, q5, q6⟩ q8 q9 z1 z2 z3 z4 z5 z6 z7 z8
end Go.Proofs.YtinnmeiphbdogaaGreat
/- The law of joins: JoinOrder. -/
namespace Go.Proofs.YtinnmeiphbdogaaGreat
open Go.RowKit Go.Shelf
attribute [local go_sem] Oper.semAt_some
theorem oT {p : ByteArray} {hs : List aF} {ls ls' : List aJ} {C : List bG} (hf : Fit ls) (hnv : (aB ls).length ≤ 1048576) (hm : ∀ l, l ∈ ls' ↔ l ∈ ls) (hl : ls'.length ≤ 1048576) :
 Fit ls' /\ (aB ls').length ≤ 1048576 /\ aS ((p, hs, ()), ls', ()) = aS ((p, hs, ()), ls, ()) /\ ∀ names, dT ((p, hs, ()), ls', ()) C names = dT ((p, hs, ()), ls, ()) C names :=
 ⟨⟨hl, fun l h => hf.terms l ((hm l).1 h)⟩, Nat.le_trans ((bE ls').length_le_of_subset fun s hs => (mS hm s).2 hs) hnv, vZ (r := ((p, hs, ()), ls, ())) (r' := ((p, hs, ()), ls', ())) rfl hm, fun names => aBf (r := ((p, hs, ()), ls, ())) (r' := ((p, hs, ()), ls', ())) rfl hm names⟩
set_option maxRecDepth 100000 in
set_option maxHeartbeats 4000000 in
theorem uM {S1 : Nat -> Prop} {w W : World} {p : ByteArray} {hs : List aF} {ls : List aJ} {ha ba va wa : Option Addr} {hn hcap n bcap vc wc g3 kn b1 : Nat} {G : Nat -> Prop} {E1 : List Ent} {t : Array Value} (hx : Ext w W)
 (hhn : hn = hs.length) (hh : aQ W G ha hs) (hhl : hn ≤ 1048576) (hbn : n = ls.length) (h : bQ W G ba ls) (hf : Fit ls) (hnv : (aB ls).length ≤ 1048576) (hnc : n ≤ bcap) (hcm : bcap ≤ maxLen) (hl : n ≤ 1048575)
 (hts : ∀ t ∈ hs, t.2.1.size ≤ 1048576) (hls : ∀ l ∈ ls, ∀ t ∈ leftOf l :: aL l :: aA l, t.2.1.size ≤ 1048576)
 (hB : BaseV S1 W (.pointer (some ⟨b1, 0, none⟩)) E1) (hfew : wP (aO E1) ls = true) (hk : kn < n)
 (h3 : Blk W g3 [.string p, .slice ha hn hcap, .slice ba n bcap] 27)
 (hva : CellsAt W va (strs (bL ((p, hs, ()), ls, ())))) (hwa : CellsAt W wa (strs (dT ((p, hs, ()), ls, ()) (aO E1) (bL ((p, hs, ()), ls, ())))))
 (hz : t.size = 171) (t3 : t.getD 3 undef = .pointer (some ⟨g3, 0, none⟩)) (t7 : t.getD 7 undef = .pointer (some ⟨b1, 0, none⟩)) (t9 : t.getD 9 undef = .slice va (bL ((p, hs, ()), ls, ())).length vc) (t10 : t.getD 10 undef = .slice wa (dT ((p, hs, ()), ls, ()) (aO E1) (bL ((p, hs, ()), ls, ()))).length wc) (t11 : t.getD 11 undef = .int .i64 n) (t12 : t.getD 12 undef = .int .i64 kn) :
 uN.wp Tryz.prog (bodyPost Tryz.prog Tryz.f3 (RetN w fun w' v => v = .bool true)) { tmps := t, defers := [] } W := by
 have hvl : (bL ((p, hs, ()), ls, ())).length ≤ 1048576 := by
  unfold bL
  split
  ·exact hnv
  ·exact Nat.zero_le _
 have hb0 := Nat.le_trans (kV ((p, hs, ()), ls, ()) (aO E1)) (qA hfew)
 have hTl : (dT ((p, hs, ()), ls, ()) (aO E1) (bL ((p, hs, ()), ls, ()))).length ≤ 20000 := by
  unfold dT
  refine Nat.le_trans (uP _) ?_
  rw [List.length_map]; exact hb0
 refine aGe (W := W) (hs := hs) (G := G) (kn := kn) hbn h hnc hcm hl hk h3 ?_ hz t3 t7 t9 t10 t11 t12
 rintro W' gt gu ge ta tn tc ua un uc ea en ec t' hW' hbt hbu hbe htn hLt ⟨l, hlk, hun, hLu⟩ hen hLe z1 z2 z3 z4 z5 z6 z7 z8
 have hmT : ∀ x, x ∈ ls.drop kn ++ ls.take kn ↔ x ∈ ls := fun x => by
  rw [List.mem_append, or_comm, <- List.mem_append, List.take_append_drop]
 have hmU : ∀ x, x ∈ ls ++ [l] ↔ x ∈ ls := fun x => by
  rw [List.mem_append, List.mem_singleton]
  exact ⟨fun h => h.elim id fun e => e ▸ List.mem_of_getElem? hlk, .inl⟩
 have hmE : ∀ x, x ∈ ls.reverse ↔ x ∈ ls := fun x => List.mem_reverse
 have hlT : (ls.drop kn ++ ls.take kn).length ≤ 1048576 := by rw [List.length_append, List.length_drop, List.length_take]; omega
 have hlU : (ls ++ [l]).length ≤ 1048576 := by rw [List.length_append, List.length_singleton]; omega
 have hlE : ls.reverse.length ≤ 1048576 := by rw [List.length_reverse]; omega
 obtain ⟨fT, nT, cT, sT⟩ := oT (p := p) (hs := hs) (C := aO E1) hf hnv hmT hlT
 obtain ⟨fU, nU, cU, sU⟩ := oT (p := p) (hs := hs) (C := aO E1) hf hnv hmU hlU
 obtain ⟨fE, nE, cE, sE⟩ := oT (p := p) (hs := hs) (C := aO E1) hf hnv hmE hlE
 have hh' : ∀ X, Ext W' X -> aQ X G ha hs := fun X hX => hh.ext (hW'.trans hX)
 have hhT : ∀ X, Ext W' X -> aQ X TT ha hs := fun X hX i t ht => by
  obtain ⟨b, off, es, e, hG, hr⟩ := hh' X hX i t ht
  exact ⟨b, off, es, e, trivial, hr⟩
 have hB' : ∀ X, Ext W' X -> BaseV S1 X (.pointer (some ⟨b1, 0, none⟩)) E1 := fun X hX => hB.ext (hW'.trans hX)
 have pT := kV ((p, hs, ()), ls.drop kn ++ ls.take kn, ()) (aO E1)
 have eT : dV (aO E1) (ls.drop kn ++ ls.take kn) = dV (aO E1) ls := by rw [aDh, List.take_append_drop]
 have pE := kV ((p, hs, ()), ls.reverse, ()) (aO E1)
 have eE : dV (aO E1) ls.reverse = dV (aO E1) ls := xI _ _
 have pR := qA hfew
 simp only at pT pE
 have hfr : Fit (ls.map cM) := ⟨by rw [List.length_map]; omega, fun l hl => by
  obtain ⟨u, hu, rfl⟩ := List.mem_map.1 hl
  show ((aA u).map bA).length ≤ 1048576
  rw [List.length_map]; exact hf.terms u hu⟩
 have hnr : (aB (ls.map cM)).length ≤ 1048576 := by rw [oZ, List.length_map]; exact hnv
 have cR : aS ((p, hs.map bA, ()), ls.map cM, ()) = aS ((p, hs, ()), ls, ()) := yU ((p, hs, ()), ls, ())
 have bR : bV ((p, hs.map bA, ()), ls.map cM, ()) (aO E1) = bV ((p, hs, ()), ls, ()) (aO E1) := aHk ((p, hs, ()), ls, ()) (aO E1)
 have hDl : ((bV ((p, hs, ()), ls, ()) (aO E1)).map gZ).length ≤ 1048576 * 1048576 := by rw [List.length_map]; omega
 refine aGf (w := w) (W := W') (hs := hs) (ls := ls) (T := dT ((p, hs, ()), ls, ()) (aO E1) (bL ((p, hs, ()), ls, ()))) (D := (bV ((p, hs, ()), ls, ()) (aO E1)).map gZ) (fb := wP (aO E1) (ls ++ [l])) (c := aS ((p, hs, ()), ls, ())) (M := fun _ => True) (hx.trans hW') (h3.ext hW') hbt hbu hbe
  (fun X hX => iT p hs ls ha hn hcap ba n bcap X G hhn (hh' X hX) hhl hbn (h.ext (hW'.trans hX)) hf)
  (fun X hX => by rw [<- cT]; exact iT p hs _ ha hn hcap ta tn tc X TT hhn (hhT X hX) hhl htn (hLt.ext hX) fT)
  (fun X hX => aA4 p hs ls ha hn hcap ba n bcap X G hhn (hh' X hX) hhl hbn (h.ext (hW'.trans hX)) hf hts hls)
  (fun X a' c' b' d' hT hL => by rw [<- cR]; exact iT p _ _ a' hn c' b' n d' X TT (by rw [List.length_map]; exact hhn) hT hhl (by rw [List.length_map]; exact hbn) hL hfr)
  (fun X hX => by rw [<- sT]; exact jQ hhn (hhT X hX) hhl htn (hLt.ext hX) fT nT (by omega) (hB' X hX) rfl (hva.ext (hW'.trans hX)) hvl (by omega))
  (fun X hX => by rw [<- sE]; exact jQ hhn (hhT X hX) hhl hen (hLe.ext hX) fE nE (by omega) (hB' X hX) rfl (hva.ext (hW'.trans hX)) hvl (by omega))
  (fun X hX => yL (hs := hs) hun (hLu.ext hX) fU (hB' X hX))
  (fun hfb X hX => by
   have pU := Nat.le_trans (kV ((p, hs, ()), ls ++ [l], ()) (aO E1)) (qA hfb)
   rw [<- sU]; exact jQ hhn (hhT X hX) hhl hun (hLu.ext hX) fU nU (by omega) (hB' X hX) rfl (hva.ext (hW'.trans hX)) hvl (by omega))
  (fun X hX => by
   have h1 := pB (p := p) (hcap := hcap) (bcap := bcap) hhn (hh' X hX) hhl hbn (h.ext (hW'.trans hX)) hf hnv (by omega) (hB' X hX) (lV ((p, hs, ()), ls, ()) E1) (by omega)
   rw [List.length_map]; exact h1)
  (fun X a' c' b' d' hX hT hL => by
   have h1 := pB (p := p) (hs := hs.map bA) (ls := ls.map cM) (hn := hn) (n := n) (ha := a') (ba := b') (hcap := c') (bcap := d') (by rw [List.length_map]; exact hhn) hT hhl (by rw [List.length_map]; exact hbn) hL hfr hnr (by omega) (hB' X hX) (lV ((p, hs.map bA, ()), ls.map cM, ()) E1) (by rw [bR]; omega)
   rw [bR] at h1
   rw [List.length_map]; exact h1)
  (hwa.ext hW') (by omega) hDl z1 z2 z3 z4 z5 z6 z7 z8
theorem BaseIn.valO {w w' : World} {L : List jN} {v : Value} (h : BaseIn w L w' v) : ∃ o c, v = .tuple #[.pointer o, .bool c] /\ (c = true -> ∃ bb r S E, o = some ⟨bb, 0, none⟩ /\ BaseAt S w' bb r E) := by
 rcases h with ⟨h0, bb, r, S, E, rfl, h1, h2, h3, h4⟩ | ⟨_, rfl⟩
 ·exact ⟨_, _, rfl, fun _ => ⟨bb, r, S, E, rfl, h1⟩⟩
 ·exact ⟨none, false, rfl, fun h => by cases h⟩
def uJ (x : Int) (n : Nat) : Nat := (if x.tmod n < 0 then x.tmod n + n else x.tmod n).toNat
theorem aF9 (x : Int) (n : Nat) (hn : 0 < n) : ((uJ x n : Nat) : Int) = (if x.tmod n < 0 then x.tmod n + n else x.tmod n) /\ uJ x n < n := by
 have b1 : x.tmod n < n := Int.tmod_lt_of_pos x (by omega)
 have b2 : -(n : Int) < x.tmod n := by
  have h1 := Int.tmod_eq_emod (a := x) (b := n)
  have h3 := Int.emod_lt_of_pos x (show (0 : Int) < n by omega)
  have h4 := Int.emod_nonneg x (show (n : Int) ≠ 0 by omega)
  have h5 : (n : Int).natAbs = n := by omega
  rw [h5] at h1
  split at h1 <;> omega
 unfold uJ
 split <;> omega
set_option maxRecDepth 100000 in
set_option maxHeartbeats 16000000 in
theorem aBg {w : World} {p : ByteArray} {hs : List aF} {ls : List aJ} {ha ba la : Option Addr} {hn hcap n bcap ln lc : Nat} {G : Nat -> Prop} {L1 : List jN} {k : Int} (hhn : hn = hs.length) (hh : aQ w G ha hs) (hhl : hn ≤ 1048576) (hbn : n = ls.length) (h : bQ w G ba ls) (hf : Fit ls) (hnv : (aB ls).length ≤ 1048576)
 (hnc : n ≤ bcap) (hcm : bcap ≤ maxLen) (hl : n ≤ 1048575) (hts : ∀ t ∈ hs, t.2.1.size ≤ 1048576) (hls : ∀ l ∈ ls, ∀ t ∈ leftOf l :: aL l :: aA l, t.2.1.size ≤ 1048576)
 (hln : ln = L1.length) (hL1 : RelsIn TT w la L1) (hll : ln ≤ 1048576) (hr1 : ∀ q ∈ L1, q.2.2.1.length ≤ 1048576) :
 Calls Tryz.prog 3 #[cP p ha hn hcap ba n bcap, .slice la ln lc, .int .i64 k] w (RetN w fun w' v => v = .bool true) := by
 have HE := qH h; have HF := qH hf; have HN := qH hbn
 have HH := qH (And.intro hh (And.intro hhn hhl))
 have HM := qH (And.intro hnv (And.intro hnc (And.intro hcm (And.intro hl (And.intro hts hls)))))
 have HB1 := qH (fun (W : World) (hW : Ext w W) => aEv L1 la ln lc W TT hln (hL1.ext hW) (by omega) hr1)
 have HFw := qH (fun (W : World) (hW : Ext w W) (S : Nat -> Prop) (v : Value) (E : List Ent) (hB : BaseV S W v E) => yL (p := p) (hs := hs) (hn := hn) (hcap := hcap) (bcap := bcap) (ha := ha) hbn (h.ext hW) hf hB)
 have HVa := qH (fun W (hW : Ext w W) => wV p hs ls ha hn hcap ba n bcap W G hhn (hh.ext hW) hhl hbn (h.ext hW) hf)
 obtain ⟨g0, eg0⟩ : ∃ g, w.heap.size = g := ⟨_, rfl⟩
 obtain ⟨w1, e1⟩ : ∃ x, w.alloc (.cells #[.string p, .slice ha hn hcap, .slice ba n bcap] 27) = x := ⟨_, rfl⟩
 have hB1 : Blk w1 g0 [.string p, .slice ha hn hcap, .slice ba n bcap] 27 := by rw [<- e1, <- eg0]; exact Blk.new w _ _
 have hx1 : Ext w w1 := by rw [<- e1]; exact (Kp.refl w).alloc _
 have H1 := qH (And.intro hx1 hB1)
 have hnl : n ≤ 1048575 := hl
 clear hB1 hx1 hhn hh hhl hbn h hf hnv hnc hcm hl hts hls hln hL1 hll hr1
 go_enter Tryz.func3, Tryz.ntmps3
 go_wp2_with fail
 clear e1 eg0
 refine (HB1.out w1 H1.out.1).mono ?_
 rintro e w2 ⟨v2, rfl, hk2, hv2⟩
 obtain ⟨o1, c1, rfl, hc1⟩ := hv2.valO
 have H2 := qH (And.intro (H1.out.1.trans hk2) (And.intro (H1.out.2.ext hk2) hc1))
 clear hv2 hc1 hk2
 cases c1
 ·go_wp2_with fail
  refine (jY w2).mono ?_
  rintro e w4 ⟨v, rfl, hk4, rfl⟩
  have X4 := qH (H2.out.1.trans hk4)
  clear hk4
  go_wp2
  go_ret
  exact RetN.mk X4.out rfl
 obtain ⟨b1, m1, S1, E1, rfl, hA1⟩ := H2.out.2.2 (by first | rfl | trivial)
 have HA := qH hA1
 have HFe := qH (HFw.out w2 H2.out.1 S1 (.pointer (some ⟨b1, 0, none⟩)) E1 (.full b1 m1 E1 hA1))
 have r0 : w2.cell? ⟨g0, 0, none⟩ = some (.string p) := by rw [H2.out.2.1.cell']; rfl
 have r1 : w2.cell? ⟨g0, 1, none⟩ = some (.slice ha hn hcap) := by rw [H2.out.2.1.cell']; rfl
 have r2 : w2.cell? ⟨g0, 2, none⟩ = some (.slice ba n bcap) := by rw [H2.out.2.1.cell']; rfl
 obtain ⟨fb, efb⟩ : ∃ b, wP (aO E1) ls = b := ⟨_, rfl⟩
 rw [efb] at HFe
 have HFb := qH efb
 clear hA1 efb
 go_wp2_with fail
 refine HFe.out.mono ?_
 rintro e w3 ⟨v, rfl, hk3, rfl⟩
 have H3 := qH (show Ext w w3 /\ Blk w3 g0 [.string p, .slice ha hn hcap, .slice ba n bcap] 27 /\ BaseAt S1 w3 b1 m1 E1 from ⟨H2.out.1.trans hk3, H2.out.2.1.ext hk3, HA.out.ext hk3⟩)
 clear hk3 r0 r1 r2
 cases fb
 ·go_wp2_with fail
  refine (jY w3).mono ?_
  rintro e w4 ⟨v, rfl, hk4, rfl⟩
  have X4 := qH (H3.out.1.trans hk4)
  clear hk4
  go_wp2
  go_ret
  exact RetN.mk X4.out rfl
 go_wp2_with fail
 refine (jY w3).mono ?_
 rintro e w4 ⟨v, rfl, hk4, rfl⟩
 have H4 := qH (show Ext w w4 /\ Blk w4 g0 [.string p, .slice ha hn hcap, .slice ba n bcap] 27 /\ BaseAt S1 w4 b1 m1 E1 from ⟨H3.out.1.trans hk4, H3.out.2.1.ext hk4, H3.out.2.2.ext hk4⟩)
 have r2 : w4.cell? ⟨g0, 2, none⟩ = some (.slice ba n bcap) := by rw [H4.out.2.1.cell']; rfl
 clear hk4
 by_cases hn0 : n = 0
 ·have hn1 : ((n : Int) == 0) = true := by simp; omega
  clear hn0
  go_wp2_with fail
  refine (jY w4).mono ?_
  rintro e w5 ⟨v, rfl, hk5, rfl⟩
  have X5 := qH (H4.out.1.trans hk5)
  clear hk5
  go_wp2
  go_ret
  exact RetN.mk X5.out rfl
 have hn1 : ((n : Int) == 0) = false := by simp; omega
 have r0 : w4.cell? ⟨g0, 0, none⟩ = some (.string p) := by rw [H4.out.2.1.cell']; rfl
 have r1 : w4.cell? ⟨g0, 1, none⟩ = some (.slice ha hn hcap) := by rw [H4.out.2.1.cell']; rfl
 go_wp2_with fail
 refine (HVa.out w4 H4.out.1).mono ?_
 rintro e w5 ⟨v, rfl, hk5, va, vc, rfl, hva⟩
 have hb5 := H4.out.2.1.ext hk5
 have hA5 := H4.out.2.2.ext hk5
 have hvl : (bL ((p, hs, ()), ls, ())).length ≤ 1048576 := by
  unfold bL
  split
  ·exact HM.out.1
  ·exact Nat.zero_le _
 have hb0 := Nat.le_trans (kV ((p, hs, ()), ls, ()) (aO E1)) (qA HFb.out)
 have HNm := qH (jQ (S := S1) (p := p) (hcap := hcap) (bcap := bcap) (nc := vc) HH.out.2.1 (HH.out.1.ext (H4.out.1.trans hk5)) HH.out.2.2 HN.out (HE.out.ext (H4.out.1.trans hk5)) HF.out HM.out.1 (by omega) (.full b1 m1 E1 hA5) rfl hva hvl (by omega))
 have H5 := qH (show Ext w w5 /\ Blk w5 g0 [.string p, .slice ha hn hcap, .slice ba n bcap] 27 /\ BaseAt S1 w5 b1 m1 E1 /\ CellsAt w5 va (strs (bL ((p, hs, ()), ls, ()))) from ⟨H4.out.1.trans hk5, hb5, hA5, hva⟩)
 have s0 : w5.cell? ⟨g0, 0, none⟩ = some (.string p) := by rw [hb5.cell']; rfl
 have s1 : w5.cell? ⟨g0, 1, none⟩ = some (.slice ha hn hcap) := by rw [hb5.cell']; rfl
 have s2 : w5.cell? ⟨g0, 2, none⟩ = some (.slice ba n bcap) := by rw [hb5.cell']; rfl
 clear hk5 hva hb5 hA5 hvl hb0 r0 r1 r2
 go_wp2_with fail
 refine HNm.out.mono ?_
 rintro e w8 ⟨v, rfl, hk8, hr8⟩
 obtain ⟨wa, wc, rfl, hwa, _⟩ := hr8.shape
 have X8 := qH (H5.out.1.trans hk8)
 have H8 := qH (show BaseAt S1 w8 b1 m1 E1 /\ Blk w8 g0 [.string p, .slice ha hn hcap, .slice ba n bcap] 27 /\ CellsAt w8 va (strs (bL ((p, hs, ()), ls, ()))) /\ CellsAt w8 wa (strs (dT ((p, hs, ()), ls, ()) (aO E1) (bL ((p, hs, ()), ls, ())))) from ⟨H5.out.2.2.1.ext hk8, H5.out.2.1.ext hk8, H5.out.2.2.2.ext hk8, hwa⟩)
 have r2 : w8.cell? ⟨g0, 2, none⟩ = some (.slice ba n bcap) := by rw [H8.out.2.1.cell']; rfl
 clear hk8 hr8 hwa s0 s1 s2
 obtain ⟨hkk, hkn⟩ := aF9 k n (by omega)
 have hn00 : (n : Int) ≠ 0 := by omega
 have b1x : k.tmod n < n := Int.tmod_lt_of_pos k (by omega)
 have b2x : -(n : Int) < k.tmod n := by
  have h1 := Int.tmod_eq_emod (a := k) (b := n)
  have h3 := Int.emod_lt_of_pos k (show (0 : Int) < n by omega)
  have h4 := Int.emod_nonneg k hn00
  have h5 : (n : Int).natAbs = n := by omega
  rw [h5] at h1
  split at h1 <;> omega
 have e1 : IntKind.i64.wrap (k.tmod n) = k.tmod n := IntWalk.i64_in _ (by omega)
 have HKk := qH (And.intro hkk hkn)
 clear hkk hkn
 rename_i K1 hK1 K0 hK0 hrt
 have HKK := qH hK1
 clear hK1 hrt
 go_wp2_with fail
 refine HKK.out _ _ ?_
 show Code.wp _ (Code.seq _ (Code.seq _ (Code.seq _ uN))) _ _ _
 by_cases hk0 : k.tmod n < 0
 ·have e2 : IntKind.i64.wrap (k.tmod n + n) = k.tmod n + n := IntWalk.i64_in _ (by omega)
  go_wp2_with fail
  obtain ⟨kn, hkn, hkn2⟩ : ∃ kn : Nat, k.tmod n + n = (kn : Int) /\ kn < n := ⟨uJ k n, by rw [HKk.out.1, if_pos hk0], HKk.out.2⟩
  rw [hkn]
  exact uM (S1 := S1) (G := G) X8.out HH.out.2.1 (HH.out.1.ext X8.out) HH.out.2.2 HN.out (HE.out.ext X8.out) HF.out HM.out.1 HM.out.2.1 HM.out.2.2.1 HM.out.2.2.2.1 HM.out.2.2.2.2.1 HM.out.2.2.2.2.2 (.full b1 m1 E1 H8.out.1) HFb.out hkn2 H8.out.2.1 H8.out.2.2.1 H8.out.2.2.2 rfl rfl rfl rfl rfl rfl rfl
 ·have hk0' : 0 ≤ k.tmod n := by omega
  go_wp2_with fail
  obtain ⟨kn, hkn, hkn2⟩ : ∃ kn : Nat, k.tmod n = (kn : Int) /\ kn < n := ⟨uJ k n, by rw [HKk.out.1, if_neg (Int.not_lt.2 hk0')], HKk.out.2⟩
  rw [hkn]
  exact uM (S1 := S1) (G := G) X8.out HH.out.2.1 (HH.out.1.ext X8.out) HH.out.2.2 HN.out (HE.out.ext X8.out) HF.out HM.out.1 HM.out.2.1 HM.out.2.2.1 HM.out.2.2.2.1 HM.out.2.2.2.2.1 HM.out.2.2.2.2.2 (.full b1 m1 E1 H8.out.1) HFb.out hkn2 H8.out.2.1 H8.out.2.2.1 H8.out.2.2.2 rfl rfl rfl rfl rfl rfl rfl
end Go.Proofs.YtinnmeiphbdogaaGreat
/- Relations that came in: how they lie. -/
namespace Go.Proofs.YtinnmeiphbdogaaGreat
open Go.ChangeShapes Go.WideShapes Go.ChangeAt Go.RowKit
noncomputable def shT : Shp Tryz.prog ByteArray := aAu 9 Tryz.underlying9 (by kernel_rfl)
noncomputable def aAt : Shp Tryz.prog (List ByteArray) := pG 34 shT Tryz.underlying34 (by kernel_rfl) (by decide)
noncomputable def shTss : Shp Tryz.prog (List (List ByteArray)) := pG 69 aAt Tryz.underlying69 (by kernel_rfl) (by decide)
noncomputable def oH : Shp Tryz.prog jN := mG 116 (gF shT (gF (aFc 3 .i64 Tryz.underlying3 (by kernel_rfl)) (gF shTss aCd))) (fs := _) Tryz.underlying116 ⟨_, _, rfl, rfl, rfl, _, _, rfl, rfl, rfl, _, _, rfl, rfl, rfl, rfl⟩ (by kernel_rfl)
theorem aBt {α β : Type} {P : Nat -> α -> β -> Prop} : ∀ (L : List α), (∀ i x, L[i]? = some x -> ∃ y, P i x y) -> ∃ ys : List β, ys.length = L.length /\ ∀ (i : Nat) (x : α) (y : β), L[i]? = some x -> ys[i]? = some y -> P i x y := by
 intro L
 induction L generalizing P with
 | nil => exact fun _ => ⟨[], rfl, fun i x y h => by simp at h⟩
 | cons a L ih =>
  intro h
  obtain ⟨y0, h0⟩ := h 0 a rfl
  obtain ⟨ys, h1, h2⟩ := ih (P := fun i x y => P (i + 1) x y) fun i x hx => h (i + 1) x (by simpa using hx)
  refine ⟨y0 :: ys, by simp [h1], fun i x y hx hy => ?_⟩
  cases i with
  | zero => simp at hx hy; subst hx; subst hy; exact h0
  | succ i => exact h2 i x y (by simpa using hx) (by simpa using hy)
theorem aEf {w : World} {G : Nat -> Prop} {ao : Option Addr} {LL : List (List ByteArray)} (h : ElemsAt aAt w G ao LL) (hl : ∀ ss ∈ LL, ss.length ≤ 8796093021952) : RowsIn (fun _ => True) w ao LL := by
 have h1 : ∀ (i : Nat) (ss : List ByteArray), LL[i]? = some ss -> ∃ p : Option Addr × Nat × Nat, ∃ b off, ao = some ⟨b, off, none⟩ /\ w.cell? ⟨b, off + i, none⟩ = some (.slice p.1 p.2.1 p.2.2) /\ p.2.1 = ss.length /\ CellsAt w p.1 (strs ss) := fun i ss hi => by
  obtain ⟨b, off, es, e, _, _, ⟨a1, c1, ee, hl, _, hc⟩, hcell⟩ := h i ss hi
  refine ⟨(a1, ss.length, c1), b, off, e, ?_, rfl, aEe (hu := Tryz.underlying9) (hc := by kernel_rfl) hc⟩
  have := hcell 0 (.slice a1 ss.length c1) (by rw [ee]; rfl)
  rw [show aAt.n = 1 from rfl, Nat.mul_one, Nat.add_zero] at this
  exact this
 obtain ⟨qs, hq, hP⟩ := aBt LL h1
 have hz : ∀ p ∈ qs.zip LL, ReadsAs w p.1 p.2 /\ p.2.length ≤ 8796093021952 /\ ∀ a, p.1.1 = some a -> True := fun p hp => by
  obtain ⟨i, hi, e⟩ := List.getElem_of_mem hp
  have h2 : (qs.zip LL)[i]? = some p := by rw [qG hi, e]
  obtain ⟨h3, h4⟩ := List.getElem?_zip_eq_some.1 h2
  obtain ⟨b, off, _, _, h5, h6⟩ := hP i _ _ h4 h3
  exact ⟨⟨h5, h6⟩, hl _ (List.mem_of_getElem? h4), fun _ _ => trivial⟩
 refine ⟨qs.zip LL, ?_, fun i u hu => ?_, fun _ _ => trivial, hz⟩
 ·rw [List.map_snd_zip (by omega)]
 ·cases hp : (qs.zip LL)[i]? with
  | none => rw [show (fH (qs.zip LL))[i]? = ((qs.zip LL)[i]?).map _ from List.getElem?_map .., hp] at hu; cases hu
  | some p =>
   rw [xH _ _ _ hp] at hu
   cases hu
   obtain ⟨h3, h4⟩ := List.getElem?_zip_eq_some.1 hp
   obtain ⟨b, off, e, hc, _⟩ := hP i _ _ h4 h3
   exact ⟨b, off, e, hc⟩
theorem aEg {w : World} {G : Nat -> Prop} {ao : Option Addr} {L : List jN} (h : ElemsAt oH w G ao L) (hl : ∀ q ∈ L, ∀ ss ∈ q.2.2.1, ss.length ≤ 8796093021952) : RelsIn (fun _ => True) w ao L := fun i q hq => by
 obtain ⟨b, off, es, e, _, _, hat, hcell⟩ := h i q hq
 obtain ⟨x1, y1, e1, ⟨ex1, _⟩, x2, y2, e2, ⟨ex2, _⟩, x3, y3, e3, ⟨ra, rcap, ex3, r1, r2, r3⟩, e4⟩ := hat
 have e4' : y3 = [] := e4
 have ee : es = [.string q.1, .int .i64 q.2.1, .slice ra q.2.2.1.length rcap] := by
  rw [e1, ex1, e2, ex2, e3, ex3, e4']; rfl
 have hc : ∀ c u, es[c]? = some u -> w.cell? ⟨b, off + i * 3 + c, none⟩ = some u := fun c u hu => by
  have := hcell c u hu
  rw [show oH.n = 3 from rfl, <- Nat.add_assoc] at this
  exact this
 exact ⟨b, off, ra, rcap, e, trivial, hc 0 _ (by rw [ee]; rfl), hc 1 _ (by rw [ee]; rfl), hc 2 _ (by rw [ee]; rfl), r1, r2, aEf r3 (hl q (List.mem_of_getElem? hq))⟩
theorem aIc {L : List jN} {N : Nat} (h : dH oH.bulk L ≤ N) : L.length ≤ N /\ ∀ q ∈ L, q.2.2.1.length ≤ N /\ ∀ ss ∈ q.2.2.1, ss.length ≤ N := by
 refine ⟨Nat.le_trans (fX oH.bulk (fun x => by show 1 ≤ _ + 1; omega) L) h, fun q hq => ?_⟩
 have h1 : oH.bulk q ≤ N := Nat.le_trans (gP oH.bulk hq) h
 have h2 : shT.bulk q.1 + (1 + ((dH aAt.bulk q.2.2.1 + 1) + 0)) + 1 ≤ N := h1
 have h3 := fX aAt.bulk (fun x => by show 1 ≤ _ + 1; omega) q.2.2.1
 refine ⟨by omega, fun ss hs => ?_⟩
 have h4 : aAt.bulk ss ≤ _ := gP aAt.bulk hs
 have h5 : dH shT.bulk ss + 1 ≤ dH aAt.bulk q.2.2.1 := h4
 have h6 := fX shT.bulk (fun x => by show 1 ≤ _ + 1; omega) ss
 omega
end Go.Proofs.YtinnmeiphbdogaaGreat
/- Proved here: the statement JoinOrderUptoSaid: the law returns true for every input of the bound that the row names and leaves its arguments as they were. No condition of its own. -/
namespace Go.Proofs.YtinnmeiphbdogaaGreat.lawJoinOrder
open Go.ChangeShapes Go.WideShapes Go.ChangeAt Go.RowKit
open Go.ChangeMaps (open_string shut_string)
theorem own : ownKnob Tryz.prog.godebug = none := by kernel_rfl
theorem laidOut : laidOutB Tryz.prog = true := by kernel_rfl
theorem aDa {r : cK} (hb : iI.bulk r ≤ 1048576) : r.2.1.length ≤ 1048575 /\ (∀ t ∈ r.1.2.1, t.2.1.size ≤ 1048576) /\ ∀ l ∈ r.2.1, ∀ t ∈ leftOf l :: aL l :: aA l, t.2.1.size ≤ 1048576 := by
 have e : iI.bulk r = (jB.bulk r.1 + ((dH gA.bulk r.2.1 + 1) + 0)) + 1 := rfl
 have ea : ∀ a : aCz, jB.bulk a = ((a.1.size + 1) + ((dH bY.bulk a.2.1 + 1) + 0)) + 1 := fun _ => rfl
 have el : ∀ l : aJ, gA.bulk l = (1 + (jB.bulk l.2.1 + (1 + (bY.bulk l.2.2.2.1 + (bY.bulk l.2.2.2.2.1 + 0))))) + 1 := fun _ => rfl
 have et : ∀ t : aF, bY.bulk t = (1 + ((t.2.1.size + 1) + 0)) + 1 := fun _ => rfl
 have h1 := ea r.1
 have h3 := fX gA.bulk (fun l => by show 1 ≤ _ + 1; omega) r.2.1
 refine ⟨by omega, fun t ht => ?_, fun l hl t ht => ?_⟩
 ·have h4 := gP bY.bulk ht
  have h5 := et t
  omega
 ·have h4 := gP gA.bulk hl
  have h5 := el l
  have h6 := ea l.2.1
  have h7 := et t
  have hq1 := et l.2.2.2.1
  have hq2 := et l.2.2.2.2.1
  rcases List.mem_cons.1 ht with h | ht
  ·rw [h]; show l.2.2.2.1.2.1.size ≤ 1048576; omega
  ·rcases List.mem_cons.1 ht with h | ht
   ·rw [h]; show l.2.2.2.2.1.2.1.size ≤ 1048576; omega
   ·have h8 := gP bY.bulk (show t ∈ l.2.1.2.1 from ht)
    omega
theorem aDp {v u1 z : Value} {W : World} (hv : ∃ cs x, v = .agg cs /\ iI.At W (fun k => k < W.heap.size) cs.toList x /\ iI.bulk x ≤ 1048576)
 (h1 : ∃ ao cap xs, u1 = .slice ao xs.length cap /\ xs.length ≤ cap /\ ElemsAt oH W (fun k => k < W.heap.size) ao xs /\ dH oH.bulk xs + 1 ≤ 1048576)
 (hz : ∃ k : Int, z = .int .i64 k) :
 Calls Tryz.prog 3 #[v, u1, z] W (fun e w' => e = .returned (.bool true) /\ Below W.heap.size W w') := by
 obtain ⟨cs, x, rfl, hx, hb⟩ := hv
 obtain ⟨a1, c1, x1, rfl, _, e1, b1⟩ := h1
 obtain ⟨k, rfl⟩ := hz
 obtain ⟨ha, hcap, ba, bcap, hR, ec⟩ := aDb hx
 have ecs : cs = #[.string x.1.1, .slice ha x.1.2.1.length hcap, .slice ba x.2.1.length bcap] := by
  rw [<- Array.toList_inj, ec]
 obtain ⟨f1, f2⟩ := aH8 (r := x) hb
 obtain ⟨f3, f4, f5⟩ := aDa hb
 obtain ⟨l1, l3⟩ := aIc (N := 1048576) (by omega : dH oH.bulk x1 ≤ 1048576)
 rw [ecs]
 refine (aBg (p := x.1.1) (hcap := hcap) (bcap := bcap) (lc := c1) (k := k) rfl hR.head f1 rfl hR.body f2 (aGo hb) hR.blen hR.bmax f3 f4 f5 rfl (aEg e1 fun q hq ss hs => by have := (l3 q hq).2 ss hs; omega) l1 (fun q hq => (l3 q hq).1)).mono ?_
 rintro e w' ⟨v, rfl, hk, rfl⟩
 exact ⟨rfl, hk.below⟩
set_option maxRecDepth 100000 in
theorem lifted (os : Os) (started : os.Started) (H : Type) (enc : TypeId × Value -> H) (F : Stop.Interp) :
 ReturnsInHanded {} Tryz.checked os 3 .any ((Rows.OpenSpec.upto Rows.joinOrderSpec).pre6 enc Tryz.prog Tryz.f3 Rows.joinOrderUptoRow.domain false) (((Rows.OpenSpec.upto Rows.joinOrderSpec).at F).post enc Tryz.prog Tryz.f3 false true false false) := by
 refine returnsInHanded_of_cond (C := Tryz.checked) (s := Rows.OpenSpec.upto Rows.joinOrderSpec) (k := Rows.uptoSmall) rfl own started (by kernel_rfl) Tryz.func3
  (OpenSpec.witness (enc := enc) (C := Tryz.checked) (s := Rows.OpenSpec.upto Rows.joinOrderSpec) (k := Rows.uptoSmall) rfl false ⟨#[], #[.agg #[.string ⟨#[]⟩,   .slice none 0 0,   .slice none 0 0], .slice none 0 0, .int .i64 0], []⟩ 8 (by kernel_rfl) (by kernel_rfl) (by kernel_rfl)
   (x := (([.agg [.agg [.lit (.string []), .nil], .nil], .nil, .lit (.int .i64 0)]), [], [])) (by kernel_rfl) rfl (by kernel_rfl)) ?_
 intro W base args ds gs before hval0 hW hcnd hk0 _
 have hk : Rows.uptoSmall H (ds ++ gs) = true := hk0
 clear hk0
 have hval : ∀ (j : Nat) t v, Tryz.f3.params[j]? = some t -> args[j]? = some v -> Value.okWide Tryz.prog W .any base t v := hval0
 have hW' := hW
 obtain ⟨p, q, hA0, hV, rfl, hfz, hnd⟩ := hW
 have hA : DataW.TrodAll enc Tryz.prog W 0 (fun _ => true) true Tryz.f3.params.toList args.toList ds p := hA0
 rw [Tryz.params3] at hA hval
 obtain ⟨v0, vs0, d0, ds0, p0, q0, hargs, rfl, rfl, h0, r0⟩ := trodAll_cons hA
 obtain ⟨v1, vs1, d1, ds1, p1, q1, rfl, rfl, rfl, h1, r1⟩ := trodAll_cons r0
 obtain ⟨v2, vs2, d2, ds2, p2, q2, rfl, rfl, rfl, h2, r2⟩ := trodAll_cons r1
 obtain ⟨rfl, rfl, rfl⟩ := trodAll_nil r2
 obtain rfl : args = #[v0, v1, v2] := by cases args; simp_all
 obtain ⟨rfl, rfl⟩ := trodVars_none hV
 have lt0 : ∀ x ∈ p0, x.block < W.heap.size := by obtain ⟨m, hm⟩ := h0; exact DataW.trod_lt m _ _ _ hm
 have lt1 : ∀ x ∈ p1, x.block < W.heap.size := by obtain ⟨m, hm⟩ := h1; exact DataW.trod_lt m _ _ _ hm
 have lt2 : ∀ x ∈ p2, x.block < W.heap.size := by obtain ⟨m, hm⟩ := h2; exact DataW.trod_lt m _ _ _ hm
 clear hA0 hval0
 simp only [List.append_nil] at hk
 have hk1 : Rows.uptoBulkAll [d0, d1, d2] ≤ 1048576 := of_decide_eq_true hk
 clear hk
 have x0 : ∃ cs x, v0 = .agg cs /\ iI.At W (fun k => k < W.heap.size) cs.toList x /\ iI.bulk x ≤ 1048576 := by
  obtain ⟨cs, rfl, hcs⟩ := okWide_struct Tryz.underlying27 (hval 0 27 v0 rfl rfl)
  obtain ⟨x, hx, hb⟩ := iI.arg h0 (aFn hk1 (by simp))
  exact ⟨cs, x, rfl, hx, hb⟩
 have x1 := aHq (s := oH) Tryz.underlying28 (by kernel_rfl) (by exact (by decide : 0 < 3)) (hval 1 28 v1 rfl rfl) h1 (N := 1048576) (aFn hk1 (by simp))
 have x2 := (open_int Tryz.underlying3 (hval 2 3 v2 rfl rfl) h2).imp fun n h => h.1
 refine (aDp x0 x1 x2).mono fun e W' ⟨he, bel⟩ => ?_
 subst he
 exact ⟨_, rfl, _, _, _, [], _, [], hW', trodAll_mk1 (shut_bool Tryz.underlying4 _), (trodAll_cons_mk (Below.trod laidOut (by kernel_rfl) (of_decide_eq_true (by kernel_rfl)) h0 bel lt0) (trodAll_cons_mk (Below.trod laidOut (by kernel_rfl) (of_decide_eq_true (by kernel_rfl)) h1 bel lt1) (trodAll_cons_mk (Below.trod laidOut (by kernel_rfl) (of_decide_eq_true (by kernel_rfl)) h2 bel lt2) trodAll_mk0))), rfl, bel.frame _, fun h => by cases h⟩
theorem over : Rows.joinOrderUptoRow.holds Tryz.pinned (Rows.OpenSpec.upto Rows.joinOrderSpec) :=
 OpenClaim.holds_of_cond 3 Tryz.f3 rfl rfl rfl rfl rfl rfl rfl ⟨rfl, rfl, rfl, rfl, rfl⟩ rfl rfl rfl rfl rfl (by kernel_rfl) Tryz.func3 (by kernel_rfl)
  (of_decide_eq_true (by kernel_rfl)) (by unfold Func.isWrapper; first | (rw [if_pos (by decide +kernel)]; kernel_rfl) | (rw [if_neg (by decide +kernel)]; exact ⟨rfl, rfl⟩))
  (fun os started H enc _ F => lifted os started H enc F)
theorem proved : Rows.JoinOrderUptoSaid := over
#print axioms proved
end Go.Proofs.YtinnmeiphbdogaaGreat.lawJoinOrder
