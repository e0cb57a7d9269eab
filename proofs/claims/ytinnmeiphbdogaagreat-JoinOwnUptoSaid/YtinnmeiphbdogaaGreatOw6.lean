/- Texts joined for a claim (LaidRound, Proj, ProjSort, Laid, ProjAny, TrieWidth, TrieLev, TrieBuild). -/
import Derived.Test.YtinnmeiphbdogaaGreatOw5
set_option linter.unusedVariables false
set_option linter.unusedSimpArgs false
/- join: laid: a round of its range over a relation's rows. -/
namespace Go.Proofs.YtinnmeiphbdogaaGreat
open Go.RowKit Go.Shelf
attribute [local go_sem] Oper.semAt_some
structure LaidAt (w X : World) (g0 : Nat) (pr : ByteArray) (ta : Option Addr) (m cap : Nat) (na : Option Addr) (nn nc : Nat) (vv rp : Value) : Prop where
 atom : Blk X g0 [.string pr, .slice ta m cap] 24
 names : Blk X (g0 + 1) [.slice na nn nc] 34
 res : Blk X (g0 + 1 + 1) [.slice none 0 0, .pointer none] 175
 tab : Blk X (g0 + 1 + 1 + 1) [vv, rp] 175
 kp : Ext w X
section
variable {w X Y : World} {g0 : Nat} {pr : ByteArray} {ta : Option Addr} {m cap : Nat} {na : Option Addr} {nn nc : Nat} {vv rp : Value}
theorem LaidAt.kpF {F : Nat -> Prop} (h : LaidAt w X g0 pr ta m cap na nn nc vv rp) (hk : Kp F X Y) (hF : ∀ k, F k -> g0 + 1 + 1 + 1 < k) (hlo : w.heap.size ≤ g0) : LaidAt w Y g0 pr ta m cap na nn nc vv rp :=
 ⟨h.atom.kp hk fun hf => by have := hF _ hf; omega, h.names.kp hk fun hf => by have := hF _ hf; omega, h.res.kp hk fun hf => by have := hF _ hf; omega, h.tab.kp hk fun hf => by have := hF _ hf; omega, h.kp.trans' hk fun i hi hf => by have := hF _ hf; omega⟩
theorem LaidAt.ext (h : LaidAt w X g0 pr ta m cap na nn nc vv rp) (hk : Ext X Y) : LaidAt w Y g0 pr ta m cap na nn nc vv rp :=
 ⟨h.atom.ext hk, h.names.ext hk, h.res.ext hk, h.tab.ext hk, h.kp.trans hk⟩
theorem LaidAt.putV (h : LaidAt w X g0 pr ta m cap na nn nc vv rp) (hlo : w.heap.size ≤ g0) (v2 : Value) : LaidAt w (X.setCell ⟨g0 + 1 + 1 + 1, 0, none⟩ v2) g0 pr ta m cap na nn nc v2 rp :=
 ⟨h.atom.other (by show g0 ≠ g0 + 1 + 1 + 1; omega) _, h.names.other (by show g0 + 1 ≠ g0 + 1 + 1 + 1; omega) _, h.res.other (by show g0 + 1 + 1 ≠ g0 + 1 + 1 + 1; omega) _, h.tab.set 0 _, h.kp.setCell (p := ⟨g0 + 1 + 1 + 1, 0, none⟩) (fun h2 => by have h3 : g0 + 1 + 1 + 1 < w.heap.size := h2; omega) _⟩
theorem LaidAt.putR (h : LaidAt w X g0 pr ta m cap na nn nc vv rp) (hlo : w.heap.size ≤ g0) (r2 : Value) : LaidAt w (X.setCell ⟨g0 + 1 + 1 + 1, 1, none⟩ r2) g0 pr ta m cap na nn nc vv r2 :=
 ⟨h.atom.other (by show g0 ≠ g0 + 1 + 1 + 1; omega) _, h.names.other (by show g0 + 1 ≠ g0 + 1 + 1 + 1; omega) _, h.res.other (by show g0 + 1 + 1 ≠ g0 + 1 + 1 + 1; omega) _, h.tab.set 1 _, h.kp.setCell (p := ⟨g0 + 1 + 1 + 1, 1, none⟩) (fun h2 => by have h3 : g0 + 1 + 1 + 1 < w.heap.size := h2; omega) _⟩
end
theorem iJ : cO Tryz.prog 173 3 1 8 (.int .i64 0) := ⟨by kernel_rfl, by kernel_rfl, rfl, by decide⟩
def yV (vs : List Nat) : List Value := ints (vs.map fun (v : Nat) => (v : Int))
theorem aF9 (vs : List Nat) (i : Nat) : yV vs ++ [.int .i64 i] = yV (vs ++ [i]) := by unfold yV ints; simp
def cC : Code -> Option Code
 | .rangeFunc _ _ _ c => some c
 | .seq a b => match cC a with
  | some c => some c
  | none => cC b
 | .block _ c => cC c
 | .loop c => cC c
 | .scope c => cC c
 | .cond _ a b => match cC a with
  | some c => some c
  | none => cC b
 | _ => none
noncomputable def aA7 : Code := ((Tryz.f117.body.bind cC).getD .skip)
theorem nU (l : List Value) : ∀ n, l.length = n -> l = (List.range n).map fun i => l.getD i undef := fun n h => by
 subst h
 refine List.ext_getElem (by simp) fun i h1 h2 => ?_
 simp [List.getElem_map, List.getD_eq_getElem?_getD, h1]
set_option maxRecDepth 100000 in
theorem aKs (t : Array Value) (h : t.size = 122) : ∃ u : Nat -> Value, (∀ i, t.getD i undef = u i) /\ t = #[u 0, u 1, u 2, u 3, u 4, u 5, u 6, u 7, u 8, u 9, u 10, u 11, u 12, u 13, u 14, u 15, u 16, u 17, u 18, u 19, u 20, u 21, u 22, u 23, u 24, u 25, u 26, u 27, u 28, u 29, u 30, u 31, u 32, u 33, u 34, u 35, u 36, u 37, u 38, u 39, u 40, u 41, u 42, u 43, u 44, u 45, u 46, u 47, u 48, u 49, u 50, u 51, u 52, u 53, u 54, u 55, u 56, u 57, u 58, u 59, u 60, u 61, u 62, u 63, u 64, u 65, u 66, u 67, u 68, u 69, u 70, u 71, u 72, u 73, u 74, u 75, u 76, u 77, u 78, u 79, u 80, u 81, u 82, u 83, u 84, u 85, u 86, u 87, u 88, u 89, u 90, u 91, u 92, u 93, u 94, u 95, u 96, u 97, u 98, u 99, u 100, u 101, u 102, u 103, u 104, u 105, u 106, u 107, u 108, u 109, u 110, u 111, u 112, u 113, u 114, u 115, u 116, u 117, u 118, u 119, u 120, u 121] := by
 refine ⟨fun i => t.toList.getD i undef, fun i => by simp [Array.getD_eq_getD_getElem?, List.getD_eq_getElem?_getD], ?_⟩
 apply Array.ext'
 have := nU t.toList 122 (by simpa using h)
 exact this
def kC (Qn Qr : World -> Prop) : Exit -> Act -> World -> Prop
 | .normal, _, W => Qn W
 | .ret, _, W => Qr W
 | _, _, _ => False
def FitI (X : World) (ts : List aG) (sp : List ByteArray) (m : Nat) (iv : Value) (W : World) : Prop := ∃ i : Nat, i ≤ m /\ iv = .int .i64 i /\ Hid (Ext X W) /\ Hid (uR ts sp i)
def OutI (X : World) (P : List ByteArray) (n : Nat) (ov jv : Value) (W : World) : Prop := ∃ j : Nat, j ≤ n /\ jv = .int .i64 j /\ Hid (Ext X W) /\ Hid (Row W 9 1 ov j (strs (P.take j)) (New X))
set_option maxRecDepth 100000 in
set_option maxHeartbeats 8000000 in
theorem aDl {S : Nat -> Prop} {w X : World} {g0 rb l : Nat} {pr : ByteArray} {ta na va ax : Option Addr} {m cap nn nc vc cn mx cx : Nat} {iv : Value} {G : Nat -> Prop} {ts : List aG} {N sp : List ByteArray} {R : aD} {t : Array Value} {Qn Qr : World -> Prop}
 (hA : LaidAt w X g0 pr ta m cap na nn nc (.slice va cn vc) (.pointer (some ⟨rb, 0, none⟩))) (hlo : w.heap.size ≤ g0) (hm : m = ts.length) (hts : aW w G ta ts) (h64 : m ≤ 64) (hn : nn = N.length) (hN : CellsAt w na (strs N)) (hnd : N.Nodup) (hn2 : nn ≤ 1048576)
 (hcn : cn = (aL N ts).length) (hV : CellsAt X va (yV (aL N ts))) (hmx : mx = sp.length) (hsp : CellsAt X ax (strs sp)) (hsl : bO sp = true) (hRl : R.length < 65536)
 (hR : RowsAt S X rb iv cn (cD N ts R)) (hz : t.size = 122) (t3 : t.getD 3 undef = .pointer (some ⟨g0, 0, none⟩)) (t5 : t.getD 5 undef = .pointer (some ⟨g0 + 1, 0, none⟩)) (t6 : t.getD 6 undef = .pointer (some ⟨g0 + 1 + 1, 0, none⟩)) (t7 : t.getD 7 undef = .pointer (some ⟨g0 + 1 + 1 + 1, 0, none⟩)) (t10 : t.getD 10 undef = .slice ax mx cx)
 (hQr : sp.length ≠ m -> ∀ X', Kp (fun k => k = g0 + 1 + 1) X X' -> Blk X' (g0 + 1 + 1) [.slice va cn vc, .pointer (some ⟨rb, 0, none⟩)] 175 -> Qr X')
 (hQn : sp.length = m -> ∀ X', Kp (dW rb iv) X X' -> (∃ S' iv', RowsAt S' X' rb iv' cn (cD N ts (R ++ [sp])) /\ (∀ k, S' k -> S k \/ X.heap.size ≤ k) /\ ∀ k, iv'.ownBlock = some k -> iv.ownBlock = some k \/ X.heap.size ≤ k) -> Qn X') :
 aA7.wpIn (Fence.wide.inRound l) 2 Tryz.prog (kC Qn Qr) { tmps := t, defers := [] } X := by
 obtain ⟨u, hu, rfl⟩ := aKs t hz
 have e3 := (hu 3).symm.trans t3
 have e5 := (hu 5).symm.trans t5
 have e6 := (hu 6).symm.trans t6
 have e7 := (hu 7).symm.trans t7
 have e10 := (hu 10).symm.trans t10
 rw [e3, e5, e6, e7, e10]
 clear hz t3 t5 t6 t7 t10 e3 e5 e6 e7 e10 hu
 have HQ := qH (And.intro hQr hQn)
 have HA := qH (And.intro hA hlo)
 have HT := qH (And.intro hm hts)
 have HN := qH (And.intro hn (And.intro hN hnd))
 have HV := qH (And.intro hcn hV)
 have HX := qH (And.intro hsp (And.intro hsl hRl))
 have HR := qH hR
 have HIdx := qH (fun W (hW : Ext X W) (s : ByteArray) => mU ts 1 s ta m cap W G hm (hts.ext (hA.kp.trans hW)) (by omega))
 have a1 : X.cell? ⟨g0, 1, none⟩ = some (.slice ta m cap) := by rw [hA.atom.cell']; rfl
 subst hmx
 clear hQr hQn hA hlo hm hts hn hN hnd hcn hV hsp hsl hRl hR
 conv => arg 4; whnf
 by_cases hne : sp.length = m
 ·have HE := qH hne
  have HNF := qH (show ∀ Y, Ext X Y -> ¬ oN ts sp -> Qn Y from fun Y hY hf => HQ.out.2 hne Y (hY.mono fun k _ h => h.elim) ⟨S, iv, by
   rw [zW, if_neg (fun h => hf h.2)]
   exact HR.out.ext hY, fun k h => .inl h, fun k h => .inl h⟩)
  subst hne
  gi_wp2
  gi_loopw [58] (fun iv wr => FitI X ts sp sp.length iv wr) (fun iv _ => sp.length - (intOf iv).toNat)
  case atStart => exact ⟨0, Nat.zero_le _, rfl, qH (Kp.refl _), qH (aBn _ _)⟩
  case round =>
   obtain ⟨i, hi, rfl, hex, hfi⟩ := hrel
   generalize hwr : wr = W at *; clear hwr
   have a2 := hex.out.cell a1 id
   by_cases hlt : i < sp.length
   ·obtain ⟨t, ht⟩ : ∃ t, ts[i]? = some t := ⟨_, qG (by rw [<- HT.out.1]; exact hlt)⟩
    obtain ⟨b, off, eao, f0, f1, -, -⟩ := gW (HT.out.2.ext (HA.out.1.kp.trans hex.out)) ht
    subst eao
    obtain ⟨x, hx⟩ : ∃ x, sp[i]? = some x := ⟨_, qG hlt⟩
    obtain ⟨xb, xo, exa, xc⟩ := (HX.out.1.ext hex.out) i (.string x) (by simp [strs, hx])
    subst exa
    obtain ⟨kt, st, ⟨⟩⟩ := t
    simp only at f0 f1
    have HTt := qH ht
    have HXx := qH hx
    clear ht hx
    gi_wp2
    obtain ⟨bx, ebx⟩ : ∃ x, W.heap.size = x := ⟨_, rfl⟩
    obtain ⟨W1, eW1⟩ : ∃ x, W.alloc (.cells #[.int .i64 kt, .string st] 38) = x := ⟨_, rfl⟩
    have hBx : Blk W1 bx [.int .i64 kt, .string st] 38 := by rw [<- eW1, <- ebx]; exact Blk.new W _ _
    have hx1 : Ext W W1 := by rw [<- eW1]; exact (Kp.refl W).alloc _
    rw [ebx, eW1]
    have HEx := qH (hex.out.trans hx1)
    have HGx : bE sp i = x := by unfold bE; rw [List.getD_eq_getElem?_getD, HXx.out]; rfl
    have HGX := qH HGx
    have hb0 : W1.cell? ⟨bx, 0, none⟩ = some (.int .i64 kt) := by rw [hBx.cell']; rfl
    have hb1 : W1.cell? ⟨bx, 1, none⟩ = some (.string st) := by rw [hBx.cell']; rfl
    have a3 := hx1.cell a2 id
    have xc1 := hx1.cell xc id
    clear eW1 ebx hBx hx1 f0 f1 a2 xc hex HGx
    by_cases k3 : kt = 3
    ·subst k3
     have HJ := qH (show ∀ w', Ext W1 w' -> (fun w' : World => w'.cell? ⟨g0, 1, none⟩ = some (.slice (some ⟨b, off, none⟩) sp.length cap) /\ w'.cell? ⟨bx, 0, none⟩ = some (.int .i64 3) /\ w'.cell? ⟨bx, 1, none⟩ = some (.string st) /\ w'.cell? ⟨xb, xo + i, none⟩ = some (.string x)) w' from fun w' hw' => ⟨hw'.cell a3 id, hw'.cell hb0 id, hw'.cell hb1 id, hw'.cell xc1 id⟩)
     clear hb0 hb1 a3 xc1
     by_cases hq : x = st
     ·subst hq
      have hb := str_eq x
      refine dH (fun w' : World => w'.cell? ⟨g0, 1, none⟩ = some (.slice (some ⟨b, off, none⟩) sp.length cap) /\ w'.cell? ⟨bx, 0, none⟩ = some (.int .i64 3) /\ w'.cell? ⟨bx, 1, none⟩ = some (.string x) /\ w'.cell? ⟨xb, xo + i, none⟩ = some (.string x)) [] (by kernel_rfl) (HJ.out _ (Kp.refl W1).drew) (fun hHeld => ?_)
      refine dF 0 ?_; try simp only [Act.put,sI,sZ,sS]
      refine dI 1 ?_; try simp only [Act.put,sI,sZ,sS]
      refine dF 2 ?_; try simp only [Act.put,sI,sZ,sS]
      refine dF 3 ?_; try simp only [Act.put,sI,sZ,sS]
      (first | (refine dF 4 ?_) | (refine dO 4 ?_)); (try simp only [Act.put,sI,sZ,sS])
      (first | (refine dF 5 ?_) | (refine dO 5 ?_)); (try simp only [Act.put,sI,sZ,sS])
      (first | (refine dI 6 ?_) | (refine dO 6 ?_)); (try simp only [Act.put,sI,sZ,sS])
      (first | (refine dI 7 ?_) | (refine dO 7 ?_)); (try simp only [Act.put,sI,sZ,sS])
      (first | (refine dF 8 ?_) | (refine dO 8 ?_)); (try simp only [Act.put,sI,sZ,sS])
      (first | (refine dI 9 ?_) | (refine dO 9 ?_)); (try simp only [Act.put,sI,sZ,sS])
      (first | (refine dF 10 ?_) | (refine dO 10 ?_)); (try simp only [Act.put,sI,sZ,sS])
      refine dF 11 ?_; try simp only [Act.put,sI,sZ,sS]
      refine dF 12 ?_; try simp only [Act.put,sI,sZ,sS]
      (first | (refine dF 13 ?_) | (refine dO 13 ?_)); (try simp only [Act.put,sI,sZ,sS])
      (first | (refine dI 14 ?_) | (refine dO 14 ?_)); (try simp only [Act.put,sI,sZ,sS])
      (first | (refine dF 15 ?_) | (refine dO 15 ?_)); (try simp only [Act.put,sI,sZ,sS])
      (first | (refine dF 16 ?_) | (refine dO 16 ?_)); (try simp only [Act.put,sI,sZ,sS])
      (first | (refine dF 17 ?_) | (refine dO 17 ?_)); (try simp only [Act.put,sI,sZ,sS])
      (first | (refine dF 18 ?_) | (refine dO 18 ?_)); (try simp only [Act.put,sI,sZ,sS])
      (first | (refine dI 19 ?_) | (refine dO 19 ?_)); (try simp only [Act.put,sI,sZ,sS])
      (first | (refine dI 20 ?_) | (refine dO 20 ?_)); (try simp only [Act.put,sI,sZ,sS])
      (first | (refine dF 21 ?_) | (refine dO 21 ?_)); (try simp only [Act.put,sI,sZ,sS])
      (first | (refine dI 22 ?_) | (refine dO 22 ?_)); (try simp only [Act.put,sI,sZ,sS])
      (first | (refine dI 23 ?_) | (refine dO 23 ?_)); (try simp only [Act.put,sI,sZ,sS])
      (first | (refine dF 24 ?_) | (refine dO 24 ?_)); (try simp only [Act.put,sI,sZ,sS])
      (first | (refine dF 25 ?_) | (refine dO 25 ?_)); (try simp only [Act.put,sI,sZ,sS])
      (first | (refine dI 26 ?_) | (refine dO 26 ?_)); (try simp only [Act.put,sI,sZ,sS])
      (first | (refine dI 27 ?_) | (refine dO 27 ?_)); (try simp only [Act.put,sI,sZ,sS])
      (first | (refine dF 28 ?_) | (refine dO 28 ?_)); (try simp only [Act.put,sI,sZ,sS])
      (first | (refine dF 29 ?_) | (refine dO 29 ?_)); (try simp only [Act.put,sI,sZ,sS])
      refine dF 30 ?_; try simp only [Act.put,sI,sZ,sS]
      refine aK (by kernel_rfl) ?_ _
      clear hHeld
      gi_wp2
      go_roundw
      case rel => exact ⟨i + 1, by omega, by first | rfl | (congr 1; done) | (congr 1; omega), qH (HEx.out.trans (Kp.refl W1).drew), qH (mW hfi.out HTt.out (fun _ => HGX.out) (fun h => by cases h))⟩
      case measure => simp [intOf]; omega
     ·have hb := kP hq
      have HQn := qH hq
      clear hq
      refine dH (fun w' : World => w'.cell? ⟨g0, 1, none⟩ = some (.slice (some ⟨b, off, none⟩) sp.length cap) /\ w'.cell? ⟨bx, 0, none⟩ = some (.int .i64 3) /\ w'.cell? ⟨bx, 1, none⟩ = some (.string st) /\ w'.cell? ⟨xb, xo + i, none⟩ = some (.string x)) [] (by kernel_rfl) (HJ.out _ (Kp.refl W1).drew) (fun hHeld => ?_)
      refine dF 0 ?_; try simp only [Act.put,sI,sZ,sS]
      refine dI 1 ?_; try simp only [Act.put,sI,sZ,sS]
      refine dF 2 ?_; try simp only [Act.put,sI,sZ,sS]
      refine dF 3 ?_; try simp only [Act.put,sI,sZ,sS]
      (first | (refine dF 4 ?_) | (refine dO 4 ?_)); (try simp only [Act.put,sI,sZ,sS])
      (first | (refine dF 5 ?_) | (refine dO 5 ?_)); (try simp only [Act.put,sI,sZ,sS])
      (first | (refine dI 6 ?_) | (refine dO 6 ?_)); (try simp only [Act.put,sI,sZ,sS])
      (first | (refine dI 7 ?_) | (refine dO 7 ?_)); (try simp only [Act.put,sI,sZ,sS])
      (first | (refine dF 8 ?_) | (refine dO 8 ?_)); (try simp only [Act.put,sI,sZ,sS])
      (first | (refine dI 9 ?_) | (refine dO 9 ?_)); (try simp only [Act.put,sI,sZ,sS])
      (first | (refine dF 10 ?_) | (refine dO 10 ?_)); (try simp only [Act.put,sI,sZ,sS])
      refine dF 11 ?_; try simp only [Act.put,sI,sZ,sS]
      refine dF 12 ?_; try simp only [Act.put,sI,sZ,sS]
      (first | (refine dF 13 ?_) | (refine dO 13 ?_)); (try simp only [Act.put,sI,sZ,sS])
      (first | (refine dI 14 ?_) | (refine dO 14 ?_)); (try simp only [Act.put,sI,sZ,sS])
      (first | (refine dF 15 ?_) | (refine dO 15 ?_)); (try simp only [Act.put,sI,sZ,sS])
      (first | (refine dF 16 ?_) | (refine dO 16 ?_)); (try simp only [Act.put,sI,sZ,sS])
      (first | (refine dF 17 ?_) | (refine dO 17 ?_)); (try simp only [Act.put,sI,sZ,sS])
      (first | (refine dF 18 ?_) | (refine dO 18 ?_)); (try simp only [Act.put,sI,sZ,sS])
      (first | (refine dI 19 ?_) | (refine dO 19 ?_)); (try simp only [Act.put,sI,sZ,sS])
      (first | (refine dI 20 ?_) | (refine dO 20 ?_)); (try simp only [Act.put,sI,sZ,sS])
      (first | (refine dF 21 ?_) | (refine dO 21 ?_)); (try simp only [Act.put,sI,sZ,sS])
      (first | (refine dI 22 ?_) | (refine dO 22 ?_)); (try simp only [Act.put,sI,sZ,sS])
      (first | (refine dI 23 ?_) | (refine dO 23 ?_)); (try simp only [Act.put,sI,sZ,sS])
      (first | (refine dF 24 ?_) | (refine dO 24 ?_)); (try simp only [Act.put,sI,sZ,sS])
      (first | (refine dF 25 ?_) | (refine dO 25 ?_)); (try simp only [Act.put,sI,sZ,sS])
      (first | (refine dI 26 ?_) | (refine dO 26 ?_)); (try simp only [Act.put,sI,sZ,sS])
      (first | (refine dI 27 ?_) | (refine dO 27 ?_)); (try simp only [Act.put,sI,sZ,sS])
      (first | (refine dF 28 ?_) | (refine dO 28 ?_)); (try simp only [Act.put,sI,sZ,sS])
      (first | (refine dF 29 ?_) | (refine dO 29 ?_)); (try simp only [Act.put,sI,sZ,sS])
      refine dF 30 ?_; try simp only [Act.put,sI,sZ,sS]
      refine aK (by kernel_rfl) ?_ _
      clear hHeld
      gi_wp2
      exact HNF.out _ (HEx.out.trans (Kp.refl W1).drew) fun hf => HQn.out (HGX.out.symm.trans ((hf i _ HTt.out).1 rfl))
    ·have g3 : (kt == 3) = false := by simp [k3]
     have HK3 := qH k3
     clear k3
     by_cases k1 : kt = 1
     ·subst k1
      have hany : ts.any (isV st) = true := nJ HTt.out (by simp [isV])
      obtain ⟨hfst, hfl⟩ := uV hany
      obtain ⟨q, eq⟩ : ∃ q, dZ ts st = q := ⟨_, rfl⟩
      rw [eq] at hfst hfl
      have hql : q < sp.length := by rw [HT.out.1]; exact hfl
      obtain ⟨y, hy⟩ : ∃ y, sp[q]? = some y := ⟨_, qG hql⟩
      obtain ⟨yb, yo, eya, yc⟩ := (HX.out.1.ext HEx.out) q (.string y) (by simp [strs, hy])
      cases eya
      have HGy := qH (show bE sp q = y by unfold bE; rw [List.getD_eq_getElem?_getD, hy]; rfl)
      have HI2 := qH (show ∀ W2, Ext X W2 -> Calls Tryz.prog 150 #[.slice (some ⟨b, off, none⟩) sp.length cap, .agg #[.int .i64 1, .string st]] W2 (RetN W2 fun w' v => v = .int .i64 (q : Nat)) from fun W2 hW2 => by
       have h := HIdx.out W2 hW2 st
       rw [hfst] at h
       exact h)
      have HFq := qH eq
      have hql' : (q : Int) < (sp.length : Int) := by omega
      have HJ := qH (show ∀ w', Ext W1 w' -> (fun w' : World => w'.cell? ⟨g0, 1, none⟩ = some (.slice (some ⟨b, off, none⟩) sp.length cap) /\ w'.cell? ⟨bx, 0, none⟩ = some (.int .i64 1) /\ w'.cell? ⟨bx, 1, none⟩ = some (.string st) /\ w'.cell? ⟨xb, xo + i, none⟩ = some (.string x) /\ w'.cell? ⟨xb, xo + q, none⟩ = some (.string y)) w' from fun w' hw' => ⟨hw'.cell a3 id, hw'.cell hb0 id, hw'.cell hb1 id, hw'.cell xc1 id, hw'.cell yc id⟩)
      clear hb0 hb1 a3 xc1 yc hany hfst hfl hy eq
      by_cases hq : y = x
      ·have HYq := qH hq
       subst hq
       have hb := str_eq y
       refine dH (fun w' : World => w'.cell? ⟨g0, 1, none⟩ = some (.slice (some ⟨b, off, none⟩) sp.length cap) /\ w'.cell? ⟨bx, 0, none⟩ = some (.int .i64 1) /\ w'.cell? ⟨bx, 1, none⟩ = some (.string st) /\ w'.cell? ⟨xb, xo + i, none⟩ = some (.string y) /\ w'.cell? ⟨xb, xo + q, none⟩ = some (.string y)) [] (by kernel_rfl) (HJ.out _ (Kp.refl W1).drew) (fun hHeld => ?_)
       refine dF 0 ?_; try simp only [Act.put,sI,sZ,sS]
       refine dI 1 ?_; try simp only [Act.put,sI,sZ,sS]
       refine dF 2 ?_; try simp only [Act.put,sI,sZ,sS]
       refine dF 3 ?_; try simp only [Act.put,sI,sZ,sS]
       (first | (refine dF 4 ?_) | (refine dO 4 ?_)); (try simp only [Act.put,sI,sZ,sS])
       (first | (refine dF 5 ?_) | (refine dO 5 ?_)); (try simp only [Act.put,sI,sZ,sS])
       (first | (refine dI 6 ?_) | (refine dO 6 ?_)); (try simp only [Act.put,sI,sZ,sS])
       (first | (refine dI 7 ?_) | (refine dO 7 ?_)); (try simp only [Act.put,sI,sZ,sS])
       (first | (refine dF 8 ?_) | (refine dO 8 ?_)); (try simp only [Act.put,sI,sZ,sS])
       (first | (refine dI 9 ?_) | (refine dO 9 ?_)); (try simp only [Act.put,sI,sZ,sS])
       (first | (refine dF 10 ?_) | (refine dO 10 ?_)); (try simp only [Act.put,sI,sZ,sS])
       refine dF 11 ?_; try simp only [Act.put,sI,sZ,sS]
       refine dF 12 ?_; try simp only [Act.put,sI,sZ,sS]
       (first | (refine dF 13 ?_) | (refine dO 13 ?_)); (try simp only [Act.put,sI,sZ,sS])
       (first | (refine dI 14 ?_) | (refine dO 14 ?_)); (try simp only [Act.put,sI,sZ,sS])
       (first | (refine dF 15 ?_) | (refine dO 15 ?_)); (try simp only [Act.put,sI,sZ,sS])
       (first | (refine dF 16 ?_) | (refine dO 16 ?_)); (try simp only [Act.put,sI,sZ,sS])
       (first | (refine dF 17 ?_) | (refine dO 17 ?_)); (try simp only [Act.put,sI,sZ,sS])
       (first | (refine dF 18 ?_) | (refine dO 18 ?_)); (try simp only [Act.put,sI,sZ,sS])
       (first | (refine dI 19 ?_) | (refine dO 19 ?_)); (try simp only [Act.put,sI,sZ,sS])
       (first | (refine dI 20 ?_) | (refine dO 20 ?_)); (try simp only [Act.put,sI,sZ,sS])
       (first | (refine dF 24 ?_) | (refine dO 24 ?_)); (try simp only [Act.put,sI,sZ,sS])
       (first | (refine dF 25 ?_) | (refine dO 25 ?_)); (try simp only [Act.put,sI,sZ,sS])
       (first | (refine dI 26 ?_) | (refine dO 26 ?_)); (try simp only [Act.put,sI,sZ,sS])
       (first | (refine dI 27 ?_) | (refine dO 27 ?_)); (try simp only [Act.put,sI,sZ,sS])
       refine aE (i := 21) ?_
       refine aF (i := 21) rfl (fun K hK => ?_)
       go_simp
       (refine (HI2.out _ (HEx.out.trans (Kp.refl W1).drew)).mono ?_; rintro e w2 ⟨v2, rfl, hk2, rfl⟩; have X1 := qH (show Ext W1 w2 from ((Kp.refl W1).drew).trans hk2); clear hk2)
       go_wp2_with fail
       refine hK.out _ _ ?_ (fun hHeld => ?_)
       ·(try dsimp only); (exact HJ.out _ X1.out)
       clear hK K; (try simp only [Act.put,sI,sZ,sS])
       (first | (refine dI 22 ?_) | (refine dO 22 ?_)); (try simp only [Act.put,sI,sZ,sS])
       (first | (refine dI 23 ?_) | (refine dO 23 ?_)); (try simp only [Act.put,sI,sZ,sS])
       (first | (refine dF 28 ?_) | (refine dO 28 ?_)); (try simp only [Act.put,sI,sZ,sS])
       (first | (refine dF 29 ?_) | (refine dO 29 ?_)); (try simp only [Act.put,sI,sZ,sS])
       refine dF 30 ?_; try simp only [Act.put,sI,sZ,sS]
       refine aK (by kernel_rfl) ?_ _
       clear hHeld
       gi_wp2
       go_roundw
       case rel => exact ⟨i + 1, by omega, by first | rfl | (congr 1; done) | (congr 1; omega), qH (HEx.out.trans X1.out), qH (mW hfi.out HTt.out (fun h => by cases h) (fun _ => by show bE sp (dZ ts st) = _; rw [HFq.out, HGy.out, HGX.out]))⟩
       case measure => simp [intOf]; omega
      ·have hb := kP hq
       have HYq := qH hq
       clear hq
       refine dH (fun w' : World => w'.cell? ⟨g0, 1, none⟩ = some (.slice (some ⟨b, off, none⟩) sp.length cap) /\ w'.cell? ⟨bx, 0, none⟩ = some (.int .i64 1) /\ w'.cell? ⟨bx, 1, none⟩ = some (.string st) /\ w'.cell? ⟨xb, xo + i, none⟩ = some (.string x) /\ w'.cell? ⟨xb, xo + q, none⟩ = some (.string y)) [] (by kernel_rfl) (HJ.out _ (Kp.refl W1).drew) (fun hHeld => ?_)
       refine dF 0 ?_; try simp only [Act.put,sI,sZ,sS]
       refine dI 1 ?_; try simp only [Act.put,sI,sZ,sS]
       refine dF 2 ?_; try simp only [Act.put,sI,sZ,sS]
       refine dF 3 ?_; try simp only [Act.put,sI,sZ,sS]
       (first | (refine dF 4 ?_) | (refine dO 4 ?_)); (try simp only [Act.put,sI,sZ,sS])
       (first | (refine dF 5 ?_) | (refine dO 5 ?_)); (try simp only [Act.put,sI,sZ,sS])
       (first | (refine dI 6 ?_) | (refine dO 6 ?_)); (try simp only [Act.put,sI,sZ,sS])
       (first | (refine dI 7 ?_) | (refine dO 7 ?_)); (try simp only [Act.put,sI,sZ,sS])
       (first | (refine dF 8 ?_) | (refine dO 8 ?_)); (try simp only [Act.put,sI,sZ,sS])
       (first | (refine dI 9 ?_) | (refine dO 9 ?_)); (try simp only [Act.put,sI,sZ,sS])
       (first | (refine dF 10 ?_) | (refine dO 10 ?_)); (try simp only [Act.put,sI,sZ,sS])
       refine dF 11 ?_; try simp only [Act.put,sI,sZ,sS]
       refine dF 12 ?_; try simp only [Act.put,sI,sZ,sS]
       (first | (refine dF 13 ?_) | (refine dO 13 ?_)); (try simp only [Act.put,sI,sZ,sS])
       (first | (refine dI 14 ?_) | (refine dO 14 ?_)); (try simp only [Act.put,sI,sZ,sS])
       (first | (refine dF 15 ?_) | (refine dO 15 ?_)); (try simp only [Act.put,sI,sZ,sS])
       (first | (refine dF 16 ?_) | (refine dO 16 ?_)); (try simp only [Act.put,sI,sZ,sS])
       (first | (refine dF 17 ?_) | (refine dO 17 ?_)); (try simp only [Act.put,sI,sZ,sS])
       (first | (refine dF 18 ?_) | (refine dO 18 ?_)); (try simp only [Act.put,sI,sZ,sS])
       (first | (refine dI 19 ?_) | (refine dO 19 ?_)); (try simp only [Act.put,sI,sZ,sS])
       (first | (refine dI 20 ?_) | (refine dO 20 ?_)); (try simp only [Act.put,sI,sZ,sS])
       (first | (refine dF 24 ?_) | (refine dO 24 ?_)); (try simp only [Act.put,sI,sZ,sS])
       (first | (refine dF 25 ?_) | (refine dO 25 ?_)); (try simp only [Act.put,sI,sZ,sS])
       (first | (refine dI 26 ?_) | (refine dO 26 ?_)); (try simp only [Act.put,sI,sZ,sS])
       (first | (refine dI 27 ?_) | (refine dO 27 ?_)); (try simp only [Act.put,sI,sZ,sS])
       refine aE (i := 21) ?_
       refine aF (i := 21) rfl (fun K hK => ?_)
       go_simp
       (refine (HI2.out _ (HEx.out.trans (Kp.refl W1).drew)).mono ?_; rintro e w2 ⟨v2, rfl, hk2, rfl⟩; have X1 := qH (show Ext W1 w2 from ((Kp.refl W1).drew).trans hk2); clear hk2)
       go_wp2_with fail
       refine hK.out _ _ ?_ (fun hHeld => ?_)
       ·(try dsimp only); (exact HJ.out _ X1.out)
       clear hK K; (try simp only [Act.put,sI,sZ,sS])
       (first | (refine dI 22 ?_) | (refine dO 22 ?_)); (try simp only [Act.put,sI,sZ,sS])
       (first | (refine dI 23 ?_) | (refine dO 23 ?_)); (try simp only [Act.put,sI,sZ,sS])
       (first | (refine dF 28 ?_) | (refine dO 28 ?_)); (try simp only [Act.put,sI,sZ,sS])
       (first | (refine dF 29 ?_) | (refine dO 29 ?_)); (try simp only [Act.put,sI,sZ,sS])
       refine dF 30 ?_; try simp only [Act.put,sI,sZ,sS]
       refine aK (by kernel_rfl) ?_ _
       clear hHeld
       gi_wp2
       exact HNF.out _ (HEx.out.trans X1.out) fun hf => HYq.out (by have h := (hf i _ HTt.out).2 rfl; have h2 : bE sp (dZ ts st) = bE sp i := h; rw [HFq.out, HGy.out, HGX.out] at h2; exact h2)
     ·have g1 : (kt == 1) = false := by simp [k1]
      have HK1 := qH k1
      clear k1
      have HJ := qH (show ∀ w', Ext W1 w' -> (fun w' : World => w'.cell? ⟨g0, 1, none⟩ = some (.slice (some ⟨b, off, none⟩) sp.length cap) /\ w'.cell? ⟨bx, 0, none⟩ = some (.int .i64 kt) /\ w'.cell? ⟨bx, 1, none⟩ = some (.string st) /\ w'.cell? ⟨xb, xo + i, none⟩ = some (.string x)) w' from fun w' hw' => ⟨hw'.cell a3 id, hw'.cell hb0 id, hw'.cell hb1 id, hw'.cell xc1 id⟩)
      clear hb0 hb1 a3 xc1
      refine dH (fun w' : World => w'.cell? ⟨g0, 1, none⟩ = some (.slice (some ⟨b, off, none⟩) sp.length cap) /\ w'.cell? ⟨bx, 0, none⟩ = some (.int .i64 kt) /\ w'.cell? ⟨bx, 1, none⟩ = some (.string st) /\ w'.cell? ⟨xb, xo + i, none⟩ = some (.string x)) [] (by kernel_rfl) (HJ.out _ (Kp.refl W1).drew) (fun hHeld => ?_)
      refine dF 0 ?_; try simp only [Act.put,sI,sZ,sS]
      refine dI 1 ?_; try simp only [Act.put,sI,sZ,sS]
      refine dF 2 ?_; try simp only [Act.put,sI,sZ,sS]
      refine dF 3 ?_; try simp only [Act.put,sI,sZ,sS]
      (first | (refine dF 4 ?_) | (refine dO 4 ?_)); (try simp only [Act.put,sI,sZ,sS])
      (first | (refine dF 5 ?_) | (refine dO 5 ?_)); (try simp only [Act.put,sI,sZ,sS])
      (first | (refine dI 6 ?_) | (refine dO 6 ?_)); (try simp only [Act.put,sI,sZ,sS])
      (first | (refine dI 7 ?_) | (refine dO 7 ?_)); (try simp only [Act.put,sI,sZ,sS])
      (first | (refine dF 8 ?_) | (refine dO 8 ?_)); (try simp only [Act.put,sI,sZ,sS])
      (first | (refine dI 9 ?_) | (refine dO 9 ?_)); (try simp only [Act.put,sI,sZ,sS])
      (first | (refine dF 10 ?_) | (refine dO 10 ?_)); (try simp only [Act.put,sI,sZ,sS])
      refine dF 11 ?_; try simp only [Act.put,sI,sZ,sS]
      refine dF 12 ?_; try simp only [Act.put,sI,sZ,sS]
      (first | (refine dF 13 ?_) | (refine dO 13 ?_)); (try simp only [Act.put,sI,sZ,sS])
      (first | (refine dI 14 ?_) | (refine dO 14 ?_)); (try simp only [Act.put,sI,sZ,sS])
      (first | (refine dF 15 ?_) | (refine dO 15 ?_)); (try simp only [Act.put,sI,sZ,sS])
      (first | (refine dF 16 ?_) | (refine dO 16 ?_)); (try simp only [Act.put,sI,sZ,sS])
      (first | (refine dF 17 ?_) | (refine dO 17 ?_)); (try simp only [Act.put,sI,sZ,sS])
      (first | (refine dF 18 ?_) | (refine dO 18 ?_)); (try simp only [Act.put,sI,sZ,sS])
      (first | (refine dI 19 ?_) | (refine dO 19 ?_)); (try simp only [Act.put,sI,sZ,sS])
      (first | (refine dI 20 ?_) | (refine dO 20 ?_)); (try simp only [Act.put,sI,sZ,sS])
      (first | (refine dF 21 ?_) | (refine dO 21 ?_)); (try simp only [Act.put,sI,sZ,sS])
      (first | (refine dI 22 ?_) | (refine dO 22 ?_)); (try simp only [Act.put,sI,sZ,sS])
      (first | (refine dI 23 ?_) | (refine dO 23 ?_)); (try simp only [Act.put,sI,sZ,sS])
      (first | (refine dF 24 ?_) | (refine dO 24 ?_)); (try simp only [Act.put,sI,sZ,sS])
      (first | (refine dF 25 ?_) | (refine dO 25 ?_)); (try simp only [Act.put,sI,sZ,sS])
      (first | (refine dI 26 ?_) | (refine dO 26 ?_)); (try simp only [Act.put,sI,sZ,sS])
      (first | (refine dI 27 ?_) | (refine dO 27 ?_)); (try simp only [Act.put,sI,sZ,sS])
      (first | (refine dF 28 ?_) | (refine dO 28 ?_)); (try simp only [Act.put,sI,sZ,sS])
      (first | (refine dF 29 ?_) | (refine dO 29 ?_)); (try simp only [Act.put,sI,sZ,sS])
      refine dF 30 ?_; try simp only [Act.put,sI,sZ,sS]
      refine aK (by kernel_rfl) ?_ _
      clear hHeld
      gi_wp2
      go_roundw
      case rel => exact ⟨i + 1, by omega, by first | rfl | (congr 1; done) | (congr 1; omega), qH (HEx.out.trans (Kp.refl W1).drew), qH (mW hfi.out HTt.out (fun h => absurd h HK3.out) (fun h => absurd h HK1.out))⟩
      case measure => simp [intOf]; omega
   ·obtain rfl : sp.length = i := by omega
    have HFit := qH (show oN ts sp from aDu.1 (by rw [<- HT.out.1]; exact hfi.out))
    have HEW := qH hex.out
    have b0 : W.cell? ⟨g0 + 1 + 1 + 1, 0, none⟩ = some (.slice va cn vc) := by rw [(HA.out.1.tab.ext hex.out).cell']; rfl
    obtain ⟨P, eP⟩ : ∃ P, fY N ts sp = P := ⟨_, rfl⟩
    have hPl : P.length = cn := by rw [<- eP, HV.out.1]; unfold fY; rw [List.length_map]
    have HP := qH (And.intro eP hPl)
    have hcn64 : cn ≤ 64 := by
     have := iC (ts := ts) HN.out.2.2
     rw [HV.out.1]
     have := HT.out.1
     omega
    clear eP hPl hex hfi hi hlt a1 a2
    gi_wp2
    clear b0
    gi_loopw [13, 98] (fun ov jv wr => OutI W P cn ov jv wr) (fun _ jv _ => cn - (intOf jv).toNat)
    case atStart => exact ⟨0, Nat.zero_le _, rfl, qH (Kp.refl _), qH (Row.nil _ _ _ _)⟩
    case round =>
     obtain ⟨j, hj, rfl, hex, hro⟩ := hrel
     obtain ⟨oa, oc, eov, hoc, _⟩ := hro.out.shape
     subst eov
     have HW := qH (And.intro (HEW.out.trans hex.out) hro.out)
     by_cases hlt : j < cn
     ·obtain ⟨v, hv⟩ : ∃ v, (aL N ts)[j]? = some v := ⟨_, qG (by rw [<- HV.out.1]; exact hlt)⟩
      obtain ⟨hvn, hvi⟩ := cF.1 (List.mem_of_getElem? hv)
      obtain ⟨s, hs⟩ : ∃ s, N[v]? = some s := ⟨_, qG hvn⟩
      have hgs : bE N v = s := by unfold bE; rw [List.getD_eq_getElem?_getD, hs]; rfl
      have hany : ts.any (isV s) = true := by
       obtain ⟨i, t, hi, h1, h2⟩ := hvi
       exact nJ hi (by unfold isV; exact decide_eq_true ⟨h1, h2.trans hgs⟩)
      obtain ⟨hfst, hfl⟩ := uV hany
      obtain ⟨q, eq⟩ : ∃ q, dZ ts s = q := ⟨_, rfl⟩
      rw [eq] at hfst hfl
      have hql : q < sp.length := by rw [HT.out.1]; exact hfl
      obtain ⟨y, hy⟩ : ∃ y, sp[q]? = some y := ⟨_, qG hql⟩
      obtain ⟨xb, xo, exa, yc⟩ := (HX.out.1.ext HW.out.1) q (.string y) (by simp [strs, hy])
      obtain ⟨nb, no, ena, sc⟩ := (HN.out.2.1.ext (HA.out.1.kp.trans HW.out.1)) v (.string s) (by simp [strs, hs])
      obtain ⟨vb, vo, eva, vc1⟩ := (HV.out.2.ext HW.out.1) j (.int .i64 v) (by unfold yV ints; rw [List.map_map, List.getElem?_map, hv]; rfl)
      subst exa ena eva
      have hPj : P[j]? = some y := by
       rw [<- HP.out.1]
       unfold fY
       rw [List.getElem?_map, hv]
       show some (bE sp (dZ ts (bE N v))) = some y
       rw [hgs, eq]; unfold bE; rw [List.getD_eq_getElem?_getD, hy]; rfl
      have HPj := qH (show strs (P.take (j + 1)) = strs (P.take j) ++ [.string y] from by rw [List.take_add_one, hPj]; simp [strs])
      have HI2 := qH (show ∀ W2, Ext X W2 -> Calls Tryz.prog 150 #[.slice ta sp.length cap, .agg #[.int .i64 1, .string s]] W2 (RetN W2 fun w' v => v = .int .i64 (q : Nat)) from fun W2 hW2 => by
       have h := HIdx.out W2 hW2 s
       rw [hfst] at h
       exact h)
      have hql' : (q : Int) < (sp.length : Int) := by omega
      have hvn' : v < nn := by rw [HN.out.1]; exact hvn
      have hvn2 : (v : Int) < (nn : Int) := by omega
      have hlt2 : (j : Int) < (cn : Int) := by omega
      have a4 : wr.cell? ⟨g0, 1, none⟩ = some (.slice ta sp.length cap) := by rw [(HA.out.1.atom.ext HW.out.1).cell']; rfl
      have n4 : wr.cell? ⟨g0 + 1, 0, none⟩ = some (.slice (some ⟨nb, no, none⟩) nn nc) := by rw [(HA.out.1.names.ext HW.out.1).cell']; rfl
      have HJ := qH (show ∀ w', Ext wr w' -> (fun w' : World => w'.cell? ⟨g0, 1, none⟩ = some (.slice ta sp.length cap) /\ w'.cell? ⟨g0 + 1, 0, none⟩ = some (.slice (some ⟨nb, no, none⟩) nn nc) /\ w'.cell? ⟨nb, no + v, none⟩ = some (.string s) /\ w'.cell? ⟨xb, xo + q, none⟩ = some (.string y)) w' from fun w' hw' => ⟨hw'.cell a4 id, hw'.cell n4 id, hw'.cell sc id, hw'.cell yc id⟩)
      clear hvi hgs hany hfst hfl eq hy hv hs hvn hPj a4 n4 sc yc hoc hj
      gi_wp2
      refine dH (fun w' : World => w'.cell? ⟨g0, 1, none⟩ = some (.slice ta sp.length cap) /\ w'.cell? ⟨g0 + 1, 0, none⟩ = some (.slice (some ⟨nb, no, none⟩) nn nc) /\ w'.cell? ⟨nb, no + v, none⟩ = some (.string s) /\ w'.cell? ⟨xb, xo + q, none⟩ = some (.string y)) [13, 14] (by kernel_rfl) (HJ.out _ (Kp.refl wr).drew) (fun hHeld => ?_)
      refine dF 0 ?_; try simp only [Act.put,sI,sZ,sS]
      refine dF 1 ?_; try simp only [Act.put,sI,sZ,sS]
      refine dF 2 ?_; try simp only [Act.put,sI,sZ,sS]
      refine dI 3 ?_; try simp only [Act.put,sI,sZ,sS]
      refine dI 4 ?_; try simp only [Act.put,sI,sZ,sS]
      refine dF 5 ?_; try simp only [Act.put,sI,sZ,sS]
      refine dI 6 ?_; try simp only [Act.put,sI,sZ,sS]
      refine dI 7 ?_; try simp only [Act.put,sI,sZ,sS]
      refine dF 8 ?_; try simp only [Act.put,sI,sZ,sS]
      refine aE (i := 9) ?_
      refine aF (i := 9) rfl (fun K hK => ?_)
      go_simp
      (refine (HI2.out _ (HW.out.1.trans (Kp.refl wr).drew)).mono ?_; rintro e w2 ⟨v2, rfl, hk2, rfl⟩; have X1 := qH (show Ext wr w2 from ((Kp.refl wr).drew).trans hk2); clear hk2)
      go_wp2_with fail
      refine hK.out _ _ ?_ (fun hHeld => ?_)
      ·(try dsimp only); (exact HJ.out _ X1.out)
      clear hK K; (try simp only [Act.put,sI,sZ,sS])
      refine dI 10 ?_; try simp only [Act.put,sI,sZ,sS]
      refine dI 11 ?_; try simp only [Act.put,sI,sZ,sS]
      refine aE (i := 12) ?_
      refine aF (i := 12) rfl (fun K hK => ?_)
      go_simp
      refine hK.out _ _ ?_ (fun hHeld => ?_)
      ·(try dsimp only); (exact HJ.out _ (X1.out.alloc _))
      clear hK K; (try simp only [Act.put,sI,sZ,sS])
      refine aE (i := 13) ?_
      refine aI (i := 13) rfl (by kernel_rfl) (fun K hK => ?_)
      refine gZ (m := 1) (n := j) fU rfl _ _ rfl rfl ((HW.out.2.ext X1.out).alloc _) rfl (CellsAt.one w2 _ _) (by rfl) (by simp; rfl) (by omega) (by unfold maxLen; omega) ?_; intro v4 w4 hr4 hk4; obtain ⟨la4, lcap4, elv, _, _⟩ := hr4.shape; subst elv; have X2 := qH (And.intro (show Row w4 9 1 (.slice la4 (j + 1) lcap4) (j + 1) (strs (P.take j) ++ [.string y]) (fun g => (Value.slice oa j oc).ownBlock = some g \/ (w2.alloc (.cells #[.string y] 9)).heap.size ≤ g) from hr4) (show Kp (fun g => (Value.slice oa j oc).ownBlock = some g) (w2.alloc (.cells #[.string y] 9)) w4 from hk4)); clear hr4 hk4
      refine hK.out _ _ ?_
      clear hK K; (try simp only [Act.put,sI,sZ,sS])
      refine aE (i := 14) ?_
      refine aI (i := 14) rfl (by kernel_rfl) (fun K hK => ?_)
      go_simp
      refine hK.out _ _ ?_
      clear hK K; (try simp only [Act.put,sI,sZ,sS])
      refine aK (by kernel_rfl) ?_ _
      clear hHeld
      gi_wp2
      go_roundw
      case rel => exact ⟨j + 1, by omega, by first | rfl | (congr 1; done) | (congr 1; omega), qH (hex.out.trans' ((Ext.kp (X1.out.alloc _)).trans X2.out.2) fun k hk hf => by have h2 : W.heap.size ≤ k := HW.out.2.block k hf; omega), qH (by
       rw [HPj.out]
       refine X2.out.1.mono fun g hg => ?_
       rcases hg with hg | hg
       ·exact HW.out.2.block g hg
       ·exact Nat.le_trans (hex.out.size) (Nat.le_trans ((X1.out.alloc _).size) hg))⟩
      case measure => simp [intOf]; omega
     ·obtain rfl : cn = j := by omega
      have hPt : P.take cn = P := List.take_of_length_le (by rw [HP.out.2]; exact Nat.le_refl _)
      have hro2 := hro.out
      rw [hPt] at hro2
      have hrd : ReadsAs wr (oa, cn, oc) P := ⟨HP.out.2.symm, (Row.readsAs (x := (oa, cn, oc)) (ss := P) (by rw [HP.out.2]; exact hro2)).1.2⟩
      have hAdd := aFy (z := False) ((HR.out.ext HW.out.1).q) (tD N ts R) (ao := oa) (n := cn) (cap := oc) (ss := P) ⟨hrd, by rw [HP.out.2]; omega, fun a e _ => by
       subst e
       exact hro2.lt a.block rfl⟩ (fun a e _ ho => by
       have e' : oa = some a := e
       subst e'
       have h1 : W.heap.size ≤ a.block := hro2.block a.block rfl
       have h2 : a.block < X.heap.size := RowsQ.ownLt (z := False) HR.out.q _ ho
       have h3 := HEW.out.size
       omega) (by have := nO N ts R; have := HX.out.2.2; omega)
      have HAdd := qH hAdd
      have b5 : wr.cell? ⟨g0 + 1 + 1 + 1, 1, none⟩ = some (.pointer (some ⟨rb, 0, none⟩)) := by rw [(HA.out.1.tab.ext HW.out.1).cell']; rfl
      have HRd := qH hrd
      clear hPt hro2 hrd hAdd hoc
      gi_wp2
      refine And.intro trivial ?_
      refine (CallsIn.inRound l (callsIn_wide.2 HAdd.out)).mono ?_
      rintro e w5 ⟨v5, rfl, hk5, -, S', iv', -, h2, h3, h4⟩
      have h3' : RowsAt S' w5 rb iv' cn (cD N ts (R ++ [sp])) := by
       rw [zW, if_pos ⟨HT.out.1, HFit.out⟩, <- aJb (n := cn) HV.out.1 HX.out.2.1 HX.out.2.2, HP.out.1]
       rcases h3 with h3 | h3
       ·exact h3
       ·exact h3.1.elim
      have hszW := HW.out.1.size
      have HFin := qH (HQ.out.2 trivial w5 ((Ext.kp HW.out.1).trans hk5) ⟨S', iv', h3', fun k hk => (h2 k hk).imp id (fun h => Nat.le_trans hszW h), fun k hk => (h4 k hk).imp id (fun h => Nat.le_trans hszW h)⟩)
      clear h3 h3' h2 h4 hk5
      gi_wp2
      exact HFin.out
 ·have hne' : ((sp.length : Int) == (m : Int)) = false := by simp; omega
  have b0 : X.cell? ⟨g0 + 1 + 1 + 1, 0, none⟩ = some (.slice va cn vc) := by rw [HA.out.1.tab.cell']; rfl
  have b1 : X.cell? ⟨g0 + 1 + 1 + 1, 1, none⟩ = some (.pointer (some ⟨rb, 0, none⟩)) := by rw [HA.out.1.tab.cell']; rfl
  have r0 : X.cell? ⟨g0 + 1 + 1, 0, none⟩ = some (.slice none 0 0) := by rw [HA.out.1.res.cell']; rfl
  have r1 : X.cell? ⟨g0 + 1 + 1, 1, none⟩ = some (.pointer none) := by rw [HA.out.1.res.cell']; rfl
  have c0 := HA.out.1.res.free 0
  have c1 := HA.out.1.res.free 1
  gi_wp2
  exact HQ.out.1 hne _ (Kp.setCell (F := fun k => k = g0 + 1 + 1) (p := ⟨g0 + 1 + 1, 1, none⟩) (Kp.setCell (F := fun k => k = g0 + 1 + 1) (p := ⟨g0 + 1 + 1, 0, none⟩) (Kp.refl X) (fun _ => rfl) _) (fun _ => rfl) _) ((HA.out.1.res.set 0 _).set 1 _)
end Go.Proofs.YtinnmeiphbdogaaGreat
/- trie.projected: its comparisons and a round of its range. -/
namespace Go.Proofs.YtinnmeiphbdogaaGreat
open Go.RowKit Go.Shelf
attribute [local go_sem] Oper.semAt_some
def LikeI (xs ys : List ByteArray) (w : World) (n : Nat) (iv : Value) (W : World) : Prop := ∃ k : Nat, k ≤ n /\ iv = .int .i64 k /\ Hid (xs.take k = ys.take k) /\ Hid (Ext w W)
set_option maxRecDepth 100000 in
set_option maxHeartbeats 1000000 in
theorem aDy (xs ys : List ByteArray) (a b : Option Addr) (n c d : Nat) (w : World) (hx : n = xs.length) (hy : n = ys.length) (ha : CellsAt w a (strs xs)) (hb : CellsAt w b (strs ys)) (hm : n ≤ 1048576) :
 Calls Tryz.prog 202 #[.slice a n c, .slice b n d] w (RetN w fun w' v => v = .bool (decide (xs = ys))) := by
 have HX := qH hx
 have HY := qH hy
 have HA := qH (And.intro ha hb)
 clear hx hy ha hb
 go_enter Tryz.func202, Tryz.ntmps202
 go_wp2
 go_loopw [13] (fun iv wr => LikeI xs ys w n iv wr) (fun iv _ => n - (intOf iv).toNat)
 case atStart => exact ⟨0, Nat.zero_le _, rfl, qH (by simp), qH (Kp.refl _)⟩
 case round =>
  obtain ⟨k, hk, rfl, H, hex⟩ := hrel
  by_cases h1 : k < n
  ·obtain ⟨x, hx⟩ : ∃ x, xs[k]? = some x := ⟨_, qG (by rw [<- HX.out]; exact h1)⟩
   obtain ⟨y, hy⟩ : ∃ y, ys[k]? = some y := ⟨_, qG (by rw [<- HY.out]; exact h1)⟩
   obtain ⟨b1, o1, e1, c1⟩ := (HA.out.1.ext hex.out) k (.string x) (by simp [strs, hx])
   obtain ⟨b2, o2, e2, c2⟩ := (HA.out.2.ext hex.out) k (.string y) (by simp [strs, hy])
   subst e1 e2
   have HK := qH (And.intro hx hy)
   clear hx hy
   by_cases hq : x = y
   ·subst hq
    have hs := str_eq x
    go_wp2
    go_quiet (fail)
    go_wp2
    go_roundw
    case rel => exact ⟨k + 1, by omega, by first | rfl | (congr 1; done) | (congr 1; omega), qH (by rw [List.take_add_one, List.take_add_one, HK.out.1, HK.out.2, H.out]), qH (hex.out.drewN _)⟩
    case measure => simp [intOf]; omega
   ·have hs := kP hq
    have HN := qH (show decide (xs = ys) = false from decide_eq_false fun e => hq (by have h1 := HK.out.1; rw [e, HK.out.2] at h1; cases h1; rfl))
    clear hq
    go_wp2
    go_quiet (fail)
    go_wp2
    go_ret
    exact RetN.mk (hex.out.drewN _) (by rw [HN.out]; rfl)
  ·obtain rfl : n = k := by omega
   have HN := qH (show decide (xs = ys) = true from decide_eq_true (by
    have h := H.out
    rwa [List.take_of_length_le (by rw [<- HX.out]; exact Nat.le_refl _), List.take_of_length_le (by rw [<- HY.out]; exact Nat.le_refl _)] at h))
   go_wp2
   go_ret
   exact RetN.mk hex.out (by rw [HN.out]; rfl)
theorem aAo (xs ys : List ByteArray) (a b : Option Addr) (c d : Nat) (w : World) (ha : CellsAt w a (strs xs)) (hb : CellsAt w b (strs ys)) (hx : xs.length ≤ maxLen) (hy : ys.length ≤ maxLen) :
 Calls Tryz.prog 200 #[.slice a xs.length c, .slice b ys.length d] w (Ret (.int .i64 (aC xs ys)) w) := by
 go_enter Tryz.func200, Tryz.ntmps200
 go_wp2_with (go_at_call 160; (with_reducible refine (jC _ _ _ _ _ _ _ ha hb hx hy).mono ?_); rintro e w' ⟨rfl, rfl⟩)
 go_ret
 exact Ret.mk rfl
theorem aC0 (xs ys : List ByteArray) (a b : Option Addr) (n c d : Nat) (w : World) (hx : n = xs.length) (hy : n = ys.length) (ha : CellsAt w a (strs xs)) (hb : CellsAt w b (strs ys)) (hm : n ≤ 1048576) :
 Calls Tryz.prog 201 #[.slice a n c, .slice b n d] w (RetN w fun w' v => v = .bool (decide (xs = ys))) := by
 have H := qH (aDy xs ys a b n c d w hx hy ha hb hm)
 clear hx hy ha hb
 go_enter Tryz.func201, Tryz.ntmps201
 go_wp2_with fail
 refine H.out.mono ?_
 rintro e w1 ⟨v, rfl, hk, rfl⟩
 go_wp2
 go_ret
 exact RetN.mk hk rfl
theorem yC {F : Fence} {n : Nat} {P : Program} {ops : Array Oper} {rest : List Oper} {o : Oper} {a : Act} {Q : Exit -> Act -> World -> Prop} {w w' : World} (hg : o.guard = none) (s x : Operand) {t : TypeId} {v vx v' : Value}
 (ho : o.op = .call { callee := .builtin .append, args := #[s, x], argTypes := #[t, t] }) (hs : a.eval s = v) (hx : a.eval x = vx) (hrun : (Builtin.append_ #[t, t] o.type #[v, vx]).run P w = .ok v' w') (hK : wpListIn F n P ops Q rest (a.put o.dst v') w') : wpListIn F n P ops Q (o :: rest) a w := by
 refine wpListIn_plain hg fun K hK' => ?_
 unfold Oper.wpIn
 refine ⟨?_, ?_⟩
 ·simp [Oper.about, ho, resolve, Target.leads, Sem.run_pure]
 ·rw [Oper.semAt_plain F _ _ (by rw [ho]; intro c hc'; cases hc')]
  simp only [execOp, ho, resolve, invoke, builtin, Sem.run_bind, Sem.run_pure, Result.andThen_ok, List.map_toArray, List.map_cons, List.map_nil, hs, hx, hrun]
  exact hK' _ _ hK
noncomputable def aAp : Code := ((Tryz.f177.body.bind cC).getD .skip)
set_option maxRecDepth 100000 in
theorem lit39 (t : Array Value) (h : t.size = 39) : ∃ u : Nat -> Value, (∀ i, t.getD i undef = u i) /\ t = #[u 0, u 1, u 2, u 3, u 4, u 5, u 6, u 7, u 8, u 9, u 10, u 11, u 12, u 13, u 14, u 15, u 16, u 17, u 18, u 19, u 20, u 21, u 22, u 23, u 24, u 25, u 26, u 27, u 28, u 29, u 30, u 31, u 32, u 33, u 34, u 35, u 36, u 37, u 38] := by
 refine ⟨fun i => t.toList.getD i undef, fun i => by simp [Array.getD_eq_getD_getElem?, List.getD_eq_getElem?_getD], ?_⟩
 apply Array.ext'
 have := nU t.toList 39 (by simpa using h)
 exact this
def aKh (X : World) (gw : Nat) (sp : List ByteArray) (m : Nat) (iv : Value) (W : World) : Prop := ∃ i : Nat, i ≤ m /\ iv = .int .i64 i /\ Hid (Ext X W) /\ Hid (Blk W gw (strs (sp.take i) ++ List.replicate (m - i) (.string ⟨#[]⟩)) 9)
set_option maxRecDepth 100000 in
set_option maxHeartbeats 8000000 in
theorem aCz {α : Type} {f : α -> List ByteArray} {pre : List α} {y : α} {w w0 X : World} {ob bb l M : Nat} {oa ax : Option Addr} {m oc mx cx : Nat} {sp : List ByteArray} {t : Array Value} {Qn : World -> Prop}
 (hO : Blk X ob [.slice oa m oc] 173) (hord : CellsAt X oa (ints ((List.range m).map fun (v : Nat) => (v : Int)))) (hm64 : m ≤ 64) (hmx : mx = sp.length) (hl : sp.length = m) (hsp : CellsAt X ax (strs sp)) (hy : f y = sp) (hpl : pre.length ≤ M /\ M ≤ 1048576 * 1048576) (hG : GotRows f M w0 bb pre X) (hbb : bb < w0.heap.size)
 (hz : t.size = 39) (t3 : t.getD 3 undef = .pointer (some ⟨ob, 0, none⟩)) (t5 : t.getD 5 undef = .pointer (some ⟨bb, 0, none⟩)) (t6 : t.getD 6 undef = .slice ax mx cx)
 (hQn : ∀ X', KeepsOthers X X' -> Kp (fun g => g = bb \/ w0.heap.size ≤ g) X X' -> Kp (fun g => g = bb) w0 X' -> (∃ v, Blk X' bb [v] 69 /\ OwnRows w0.heap.size X' v ((pre ++ [y]).map f)) -> Qn X') :
 aAp.wpIn (Fence.wide.inRound l) 2 Tryz.prog (kC Qn fun _ => False) { tmps := t, defers := [] } X := by
 obtain ⟨u, hu, rfl⟩ := lit39 t hz
 have e3 := (hu 3).symm.trans t3
 have e5 := (hu 5).symm.trans t5
 have e6 := (hu 6).symm.trans t6
 rw [e3, e5, e6]
 clear hz t3 t5 t6 e3 e5 e6 hu
 obtain ⟨-, hk0, v, hBv, hOw⟩ := hG
 obtain ⟨ao, cap, ev, -⟩ := hOw.shape
 subst ev
 rw [List.length_map] at hBv hOw
 have HQ := qH hQn
 have HO := qH (And.intro hO hord)
 have HX := qH (And.intro hsp hy)
 have HG := qH (And.intro hk0 (And.intro hBv (And.intro hOw (And.intro hpl hbb))))
 have a1 : X.cell? ⟨ob, 0, none⟩ = some (.slice oa m oc) := by rw [hO.cell']; rfl
 have a2 : ∀ o, (X.alloc o).cell? ⟨ob, 0, none⟩ = some (.slice oa m oc) := fun o => by rw [(hO.alloc o).cell']; rfl
 have b1 : X.cell? ⟨bb, 0, none⟩ = some (.slice ao pre.length cap) := by rw [hBv.cell']; rfl
 subst hmx
 subst hl
 clear hQn hO hord hsp hk0 hBv hOw hpl hbb hy
 have hmk := iU (P := Tryz.prog) fU (c := .string ⟨#[]⟩) rfl sp.length (by omega) (by unfold maxLen; omega) X
 rw [Nat.mul_one] at hmk
 conv => arg 4; whnf
 gi_wp2
 clear hmk
 obtain ⟨gw, egw⟩ : ∃ x, X.heap.size = x := ⟨_, rfl⟩
 obtain ⟨X1, eX1⟩ : ∃ x, X.alloc (.cells (Array.replicate sp.length (.string ⟨#[]⟩)) 9) = x := ⟨_, rfl⟩
 have hB1 : Blk X1 gw (List.replicate sp.length (.string ⟨#[]⟩)) 9 := by
  have h := Blk.new X (List.replicate sp.length (.string ⟨#[]⟩)) 9
  rw [List.toArray_replicate, eX1, egw] at h
  exact h
 have hx1 : Ext X X1 := by rw [<- eX1]; exact (Kp.refl X).alloc _
 rw [egw, eX1]
 have H1 := qH (And.intro hB1 (And.intro hx1 egw))
 clear egw eX1 hB1 hx1 a1 a2
 gi_loopw [18] (fun iv wr => aKh X gw sp sp.length iv wr) (fun iv _ => sp.length - (intOf iv).toNat)
 case atStart => exact ⟨0, Nat.zero_le _, rfl, qH H1.out.2.1, qH (by simpa [strs] using H1.out.1)⟩
 case round =>
  obtain ⟨i, hi, rfl, hex, hw⟩ := hrel
  by_cases hlt : i < sp.length
  ·obtain ⟨x, hx⟩ : ∃ x, sp[i]? = some x := ⟨_, qG hlt⟩
   obtain ⟨xb, xo, exa, xc⟩ := (HX.out.1.ext hex.out) i (.string x) (by simp [strs, hx])
   obtain ⟨vb, vo, eva, vc1⟩ := (HO.out.2.ext hex.out) i (.int .i64 i) (by unfold ints; rw [List.map_map, List.getElem?_map, List.getElem?_range hlt]; rfl)
   subst exa eva
   have y0 : wr.cell? ⟨gw, i, none⟩ = some (.string ⟨#[]⟩) := by
    rw [hw.out.cell', List.getElem?_append_right (by rw [eA, List.length_take]; omega), eA, List.length_take, Nat.min_eq_left (by omega), Nat.sub_self, List.getElem?_replicate, if_pos (by omega)]
   have yf := hw.out.free i
   have i1 : (i : Int) < (sp.length : Int) := by omega
   have HNX := qH (show aKh X gw sp sp.length (.int .i64 ((i : Int) + 1)) (wr.setCell ⟨gw, i, none⟩ (.string x)) from by
    refine ⟨i + 1, by omega, by first | rfl | (congr 1; done) | (congr 1; omega), qH (hex.out.setCell (p := ⟨gw, i, none⟩) (fun h2 => by have h3 : gw < X.heap.size := h2; have := H1.out.2.2; omega) _), qH ?_⟩
    have h5 := hw.out.set i (.string x)
    have e5 : (strs (sp.take i) ++ List.replicate (sp.length - i) (Value.string ⟨#[]⟩)).set i (.string x) = strs (sp.take (i + 1)) ++ List.replicate (sp.length - (i + 1)) (.string ⟨#[]⟩) := by
     rw [List.set_append_right _ _ (by rw [eA, List.length_take]; omega), eA, List.length_take, Nat.min_eq_left (by omega), Nat.sub_self, show sp.length - i = (sp.length - (i + 1)) + 1 from by omega, List.replicate_succ, List.set_cons_zero, List.take_add_one, hx]
     simp [strs]
    rw [e5] at h5
    exact h5)
   clear hx hw hex
   gi_wp2
   go_roundw
   case rel => exact HNX.out
   case measure => simp [intOf]; omega
  ·obtain rfl : i = sp.length := by omega
   have hwb := hw.out
   rw [List.take_of_length_le (Nat.le_refl _), Nat.sub_self, List.replicate_zero, List.append_nil] at hwb
   have hrow : Row wr 9 1 (.slice (some ⟨gw, 0, none⟩) sp.length sp.length) sp.length (strs sp) (New X) := by
    refine ⟨by rw [eA]; omega, .inr ⟨gw, sp.length, [], rfl, Nat.le_of_eq H1.out.2.2, by rw [List.append_nil]; exact hwb, by rw [List.append_nil, eA]; omega, Nat.le_refl _, by unfold maxLen; omega⟩⟩
   obtain ⟨g1, g2, g3, g4, g5⟩ := HG.out
   obtain ⟨ao3, n3, cap3, w3, hrunA, d1, d2, HFIN⟩ := jH (f := f) (x := (some ⟨gw, 0, none⟩, sp.length, sp.length)) g4 g1 g5 g2 g3 hex.out hrow (by omega)
   have HFI := qH (HFIN y HX.out.2)
   have b2 : wr.cell? ⟨bb, 0, none⟩ = some (.slice ao pre.length cap) := hex.out.cell b1 id
   clear HFIN hrow hwb hw hex g1 g2 g3 g4 g5 b1
   gi_wp2_with (first | (gi_at_builtin; refine Halted.out ?_))
   refine Halted.mk (yC rfl _ _ rfl rfl rfl hrunA ?_)
   clear hrunA
   obtain ⟨q1, q2, q3, q4⟩ := HFI.out
   have HFin := qH (HQ.out _ q1 q2 q3 q4)
   clear q1 q2 q3 q4 HFI
   gi_wp2
   exact HFin.out
end Go.Proofs.YtinnmeiphbdogaaGreat
/- slices.SortFunc at rows that rise already. -/
namespace Go.Proofs.YtinnmeiphbdogaaGreat
open Go.RowKit Go.Shelf Go.Lib Go.Sort
theorem mA {α : Type} [Inhabited α] {enc : α -> Value} {w : World} {blk : Nat} {xs ys : List α} {rest : List Value} {e : TypeId} (hB : Blk w blk (xs.map enc ++ rest) e) (hl : ys.length = xs.length) (n : Nat) (os : Array Obj) :
 Blk (sortWorld enc w blk 0 n ys.toArray os) blk (ys.map enc ++ rest) e /\ Kp (fun k => k = blk) w (sortWorld enc w blk 0 n ys.toArray os) := by
 have hlt := hB.lt
 have hsz : (putRow enc (Sort.ahead w n) blk 0 ys.toArray).heap.size = w.heap.size := by simp [putRow, mapBlock, Sort.ahead]
 have hcells : putCells enc 0 ys.toArray (xs.map enc ++ rest).toArray = (ys.map enc ++ rest).toArray := by
  apply Array.ext_getElem?
  intro j
  unfold putCells
  rw [Array.getElem?_mapIdx]
  simp only [List.getElem?_toArray, Nat.zero_le, true_and, Nat.zero_add, Nat.sub_zero, List.size_toArray]
  by_cases hj : j < ys.length
  ·have h1 : (ys.map enc ++ rest)[j]? = some (enc ys[j]) := by
    rw [List.getElem?_append_left (by rw [List.length_map]; exact hj), List.getElem?_map, qG hj]; rfl
   have h2 : j < (xs.map enc ++ rest).length := by rw [List.length_append, List.length_map]; omega
   rw [h1, qG h2, Option.map_some, if_pos hj]
   congr 1
   show enc _ = _
   rw [getElem!_pos _ j (by simpa using hj)]
   simp
  ·have h1 : (ys.map enc ++ rest)[j]? = (xs.map enc ++ rest)[j]? := by
    rw [List.getElem?_append_right (by rw [List.length_map]; omega), List.getElem?_append_right (by rw [List.length_map]; omega), List.length_map, List.length_map, hl]
   rw [h1]
   cases (xs.map enc ++ rest)[j]? with
   | none => rfl
   | some u => simp [hj]
 have hblk : (putRow enc (Sort.ahead w n) blk 0 ys.toArray).heap[blk]? = some (.cells (ys.map enc ++ rest).toArray e (0, 0)) := by
  unfold Blk at hB
  simp only [putRow, mapBlock, Sort.ahead, Array.getElem?_modify, if_pos, hB, Option.map_some, onCells, hcells]
 constructor
 ·unfold Blk sortWorld
  rw [heap_grow_old _ _ (by rw [hsz]; exact hlt)]; exact hblk
 ·refine ⟨rfl, rfl, rfl, ?_, fun k hk hne => ?_⟩
  ·simp [sortWorld, grow, putRow, mapBlock, Sort.ahead]
  ·unfold sortWorld
   rw [heap_grow_old _ _ (by rw [hsz]; exact hk)]
   simp only [putRow, mapBlock, Sort.ahead, Array.getElem?_modify]
   rw [if_neg (fun e => hne e.symm)]
theorem aKn {α : Type} {c : α -> α -> Int} (O : OrdLaw c) : SWO (ltOf c) where
 irrefl x := by unfold ltOf; rw [decide_eq_false_iff_not, O.refl]; omega
 trans x y z h1 h2 := by
  unfold ltOf at *
  rw [decide_eq_true_eq] at *
  exact O.lt_trans h1 (by omega)
 ntrans x y z h1 h2 := by
  unfold ltOf at *
  rw [decide_eq_false_iff_not] at *
  have h3 := O.le_of h1
  have h4 := O.le_of h2
  have h5 := O.trans z y x h4 h3
  intro h6
  exact O.asymm h6 (by
   rcases Int.lt_or_eq_of_le h5 with h7 | h7
   ·exact h7
   ·have := O.zero h7; omega)
abbrev aEx (p : fJ) : Value := .slice p.1.1 p.1.2.1 p.1.2.2
theorem aHx {lo : Nat} {w : World} {v : Value} {LL : aD} (h : OwnRows lo w v LL) (hst : Strict aC LL) (hlen : ∀ x ∈ LL, x.length ≤ 64) (hn : LL.length ≤ 65536) :
 Calls Tryz.prog 199 #[v, .func (.func 200) #[] #[]] w fun e w' => e = .returned (.tuple #[]) /\ OwnRows lo w' v LL /\ Kp (fun k => v.ownBlock = some k) w w' := by
 obtain ⟨ps, rfl, h2, h3, h4⟩ := h
 have h2' := h2
 obtain ⟨q1, ⟨ev, en⟩ | ⟨g, cap, rest, rfl, hg, hb, hbl, hnc, hcm⟩⟩ := h2'
 ·subst ev
  refine (AnyF.slices_SortFunc_none Tryz.laysSlF06_f199 none 0 _ w).mono ?_
  rintro e w2 ⟨rfl, rfl⟩
  exact ⟨rfl, ⟨ps, rfl, h2, h3, h4⟩, Kp.refl _⟩
 ·by_cases h0 : ps.length = 0
  ·rw [h0]
   refine (AnyF.slices_SortFunc_none Tryz.laysSlF06_f199 (some ⟨g, 0, none⟩) cap _ w).mono ?_
   rintro e w2 ⟨rfl, rfl⟩
   rw [h0] at h2
   exact ⟨rfl, ⟨ps, rfl, by rw [h0]; exact h2, h3, h4⟩, Kp.refl _⟩
  ·have hpos : 0 < ps.length := Nat.pos_of_ne_zero h0
   letI : Inhabited (Fin ps.length) := ⟨⟨0, hpos⟩⟩
   obtain ⟨enc, eenc⟩ : ∃ enc : Fin ps.length -> Value, enc = fun i => aEx ps[i] := ⟨_, rfl⟩
   have hvs : eG ps = (List.finRange ps.length).map enc := by
    subst eenc
    unfold eG
    refine List.ext_getElem (by simp) fun i h1 h2 => ?_
    simp [aEx]
   have hH : Holds enc w g 0 (List.finRange ps.length).toArray := fun j hj => by
    have hj' : j < ps.length := by simpa using hj
    refine ⟨?_, hb.free _⟩
    rw [hb.cell', Nat.zero_add, List.getElem?_append_left (by unfold eG; rw [List.length_map]; exact hj'), hvs, List.getElem?_map, getElem!_pos _ j hj]
    simp [hj']
   have hcmp : CmpLays1 Tryz.prog 200 #[] enc (fun i j : Fin ps.length => aC ps[i].2 ps[j].2) g 0 (List.finRange ps.length).toArray.size w := fun m os dk hs x y => by
    have hk : Kp (fun k => k = g) w (sortWorld enc w g 0 m dk os) := by
     have hb' := hb
     rw [hvs] at hb'
     have h := (mA (ys := dk.toList) hb' (by rw [Array.length_toList, hs]; simp) m os).2
     rwa [Array.toArray_toList] at h
    have hc : ∀ i : Fin ps.length, ps[i].1.2.1 = ps[i].2.length /\ CellsAt (sortWorld enc w g 0 m dk os) ps[i].1.1 (strs ps[i].2) /\ ps[i].2.length ≤ maxLen := fun i => by
     have hr := (h3 ps[i] (List.getElem_mem _)).1
     have hr' := Row.kp' hr hk fun g' hg' _ e => by
      obtain ⟨cs, hb2⟩ := aP hr hg'
      have e' : g' = g := e
      rw [e'] at hb2
      exact absurd (aM hb2 hb) (by decide)
     have hl := hlen ps[i].2 (List.mem_map.2 ⟨ps[i], List.getElem_mem _, rfl⟩)
     exact ⟨(Row.readsAs hr).1.1, (Row.readsAs hr').1.2, by unfold maxLen; omega⟩
    have h := aAo ps[x].2 ps[y].2 ps[x].1.1 ps[y].1.1 ps[x].1.2.2 ps[y].1.2.2 (sortWorld enc w g 0 m dk os) (hc x).2.1 (hc y).2.1 (hc x).2.2 (hc y).2.2
    have ex : ∀ i : Fin ps.length, enc i = .slice ps[i].1.1 ps[i].2.length ps[i].1.2.2 := fun i => by rw [eenc, <- (hc i).1]
    show Calls _ _ #[enc x, enc y] _ _
    rw [ex x, ex y]
    refine h.mono ?_
    rintro e w' ⟨rfl, rfl⟩
    exact ⟨rfl, 0, #[], by rw [grow_empty]; rfl⟩
   have hO : OrdLaw (fun i j : Fin ps.length => aC ps[i].2 ps[j].2) := OrdLaw.idx cX fun i : Fin ps.length => ps[i].2
   have hlt : ∀ i j : Fin ps.length, i < j -> aC ps[i].2 ps[j].2 < 0 := fun i j hij => by
    have h := List.pairwise_iff_getElem.1 hst i.1 j.1 (by rw [List.length_map]; exact i.2) (by rw [List.length_map]; exact j.2) hij
    simpa using h
   have hT : ∀ x y : Fin ps.length, (ltOf fun i j : Fin ps.length => aC ps[i].2 ps[j].2) x y = false -> (ltOf fun i j : Fin ps.length => aC ps[i].2 ps[j].2) y x = false -> x = y := fun x y h1 h2 => by
    unfold ltOf at h1 h2
    rw [decide_eq_false_iff_not] at h1 h2
    rcases Nat.lt_trichotomy x.1 y.1 with h | h | h
    ·exact absurd (hlt x y h) h1
    ·exact Fin.ext h
    ·exact absurd (hlt y x h) h2
   have hsorted : ((List.finRange ps.length).toArray.toList.mergeSort fun x y => !(ltOf fun i j : Fin ps.length => aC ps[i].2 ps[j].2) y x) = List.finRange ps.length := by
    show (List.finRange ps.length).mergeSort _ = _
    refine List.mergeSort_of_pairwise ?_
    rw [List.pairwise_iff_getElem]
    intro i j hi hj hij
    simp only [List.getElem_finRange]
    unfold ltOf
    have hh := hlt (Fin.cast (by simp) ⟨i, hi⟩) (Fin.cast (by simp) ⟨j, hj⟩) hij
    have := hO.asymm hh
    simpa using this
   have hcall := Any.slices_SortFunc_total Tryz.laysSlF6_f199 enc (fun i => by rw [eenc]; rfl) (fun i j : Fin ps.length => aC ps[i].2 ps[j].2) (aKn hO) 200 #[] g 0 cap (List.finRange ps.length).toArray w (enters_of Tryz.func200 (by kernel_rfl) rfl) hcmp hH hb.lt (by rw [List.size_toArray, List.length_finRange]; rw [List.length_map] at hn; omega) hT
   rw [List.size_toArray, List.length_finRange] at hcall
   refine hcall.mono ?_
   rintro e w2 ⟨rfl, n2, os, rfl⟩
   rw [hsorted]
   have hb' := hb
   rw [hvs] at hb'
   obtain ⟨r1, r2⟩ := mA (ys := List.finRange ps.length) hb' rfl n2 os
   rw [<- hvs] at r1
   refine ⟨rfl, ⟨ps, rfl, ⟨q1, .inr ⟨g, cap, rest, rfl, hg, r1, hbl, hnc, hcm⟩⟩, fun p hp => ⟨?_, (h3 p hp).2⟩, h4⟩, r2.mono fun k _ e => by have e' : k = g := e; rw [e']; rfl⟩
   refine Row.kp' (h3 p hp).1 r2 fun g' hg' _ e => ?_
   obtain ⟨cs, hb2⟩ := aP (h3 p hp).1 hg'
   have e' : g' = g := e
   rw [e'] at hb2
   exact absurd (aM hb2 hb) (by decide)
end Go.Proofs.YtinnmeiphbdogaaGreat
/- join: laid: the rows that an atom finds in a base, as a table. -/
namespace Go.Proofs.YtinnmeiphbdogaaGreat
open Go.RowKit Go.Shelf
attribute [local go_sem] Oper.semAt_some
def RowsZ (lo rb cn : Nat) (L : aD) (W : World) : Prop := ∃ (S : Nat -> Prop) (iv : Value), RowsAt S W rb iv cn L /\ (∀ k, S k -> lo ≤ k /\ fK W k) /\ ∀ k, iv.ownBlock = some k -> lo ≤ k
theorem RowsZ.kp {F : Nat -> Prop} {lo rb cn : Nat} {L : aD} {W W' : World} (h : RowsZ lo rb cn L W) (hk : Kp F W W') (hF : ∀ k, F k -> ¬ fK W k \/ (k < lo /\ k ≠ rb)) : RowsZ lo rb cn L W' := by
 obtain ⟨S, iv, h1, h2, h3⟩ := h
 have noS : ∀ k, F k -> ¬ S k := fun k hf hs => by
  rcases hF k hf with h | h
  ·exact h (h2 k hs).2
  ·have := (h2 k hs).1; omega
 refine ⟨S, iv, h1.move hk (fun k hf ho => ?_) noS (fun k h => h) (fun k h => Nat.lt_of_lt_of_le (h1.inS k h) hk.size) h1.notS, fun k hs => ⟨(h2 k hs).1, ?_⟩, h3⟩
 ·rcases hF k hf with h | h
  ·exact h (h1.cellOwn k ho)
  ·rcases ho with ho | ho
   ·exact h.2 ho
   ·have := h3 k ho; omega
 ·obtain ⟨o, ho, hc⟩ := (h2 k hs).2
  exact ⟨o, (hk.block k (lt_of_block ho) fun hf => noS k hf hs).trans ho, hc⟩
theorem RowsZ.fast {lo lo' rb cn vc : Nat} {va : Option Addr} {vs : List Nat} {L : aD} {w' : World} (h : RowsZ lo' rb cn L w') (hcn : cn = vs.length) (hV : Row w' 3 1 (.slice va cn vc) cn (yV vs) (fun k => lo ≤ k)) (hlo : lo ≤ lo') (hrb : lo ≤ rb) (hL : Strict aC L) :
 ∃ iv S, Fast lo w'.heap.size w' fun W => TableAt S W va rb iv vs L := by
 obtain ⟨S, iv, h1, h2, h3⟩ := h
 refine ⟨iv, S, fun W hW => ⟨?_, ?_, hL⟩⟩
 ·have h4 := hV.kp' hW fun g hg hM hF => hF ⟨hM, hV.lt g hg⟩
  obtain ⟨ao, cap, e, hc, _⟩ := h4.shape
  cases e
  exact hc
 ·subst hcn
  refine h1.move hW (fun k hf ho => hf ⟨?_, ?_⟩) (fun k hf hs => hf ⟨by have := (h2 k hs).1; omega, h1.inS k hs⟩) (fun k h => h) (fun k h => Nat.lt_of_lt_of_le (h1.inS k h) hW.size) h1.notS
  ·rcases ho with ho | ho
   ·omega
   ·have := h3 k ho; omega
  ·exact RowsQ.ownLt (z := False) h1.q _ ho
abbrev rowOf (p : fJ) : Value := .slice p.1.1 p.1.2.1 p.1.2.2
def fD {ps : List fJ} (pre : List { p : fJ // p ∈ ps }) : aD := pre.map fun x => x.1.2
def LaidI (w9 : World) (rb cn : Nat) (N : List ByteArray) (ts : List aG) (ps : List fJ) (pre : List { p : fJ // p ∈ ps }) (W : World) : Prop :=
 Kp (fun k => k = rb) w9 W /\ RowsZ w9.heap.size rb cn (cD N ts (fD pre)) W
def LaidX (w9 : World) (rb cn rs : Nat) (a b : Value) (c : Code) (W : World) : Prop :=
 c = .ret /\ Kp (fun k => k = rb \/ k = rs) w9 W /\ Blk W rs [a, b] 175 /\ RowsZ w9.heap.size rb cn [] W
theorem uO {W W' : World} {row : Option Nat} (hg : W.grownBy W' row) : Kp (fun k => row = some k) W W' := (Kp.refl W).grown hg (fun k e _ => e)
theorem LaidI.own {w9 : World} {rb cn : Nat} {N : List ByteArray} {ts : List aG} {ps : List fJ} (hrb : rb < w9.heap.size) : OwnFrom w9.heap.size (LaidI w9 rb cn N ts ps) := fun pre W W' row hs hg hr => by
 obtain ⟨h1, h2⟩ := hs
 refine ⟨h1.grown hg fun k e hk => by have := (hr k e).1; omega, h2.kp (uO hg) fun k e => .inl ?_⟩
 rintro ⟨o, ho, hc⟩
 obtain ⟨o', ho', hc'⟩ := (hr k e).2
 rw [ho'] at ho; cases ho; rw [hc'] at hc; cases hc
theorem LaidX.own {α : Type} {w9 : World} {rb cn rs : Nat} {a b : Value} {c : Code} (hrb : rb < w9.heap.size) (hrs : rs < w9.heap.size) : OwnFrom w9.heap.size (fun (_ : List α) W => LaidX w9 rb cn rs a b c W) := fun pre W W' row hs hg hr => by
 obtain ⟨h0, h1, h3, h2⟩ := hs
 refine ⟨h0, h1.grown hg fun k e hk => by have := (hr k e).1; omega, h3.kp (uO hg) fun e => by have := (hr _ e).1; omega, h2.kp (uO hg) fun k e => .inl ?_⟩
 rintro ⟨o, ho, hc⟩
 obtain ⟨o', ho', hc'⟩ := (hr k e).2
 rw [ho'] at ho; cases ho; rw [hc'] at hc; cases hc
theorem aIo {w W : World} {P : World -> Value -> Prop} {tmps : Array Value} {ds : List Deferred} {lo g : Nat} {a b : Value} (hm : Marks lo W ds) (hk : Ext w W) (hlo : w.heap.size ≤ lo) (ht : tmps.getD 6 undef = .pointer (some ⟨g, 0, none⟩)) (hB : Blk W g [a, b] 175)
 (hP : ∀ w', Ext w w' -> Kp (fun k => lo ≤ k /\ ¬ fK W k) W w' -> P w' (.agg #[a, b])) :
 bodyPostM Fence.wide 4 Tryz.prog Tryz.f117 (RetN w P) .ret { tmps := tmps, defers := ds } W := by
 refine fF hm fun w' e1 e2 e3 e4 e5 e6 => ?_
 have kx : Kp (fun k => lo ≤ k /\ ¬ fK W k) W w' := ⟨e1, e2, e3, by omega, fun k hk hf => by
  by_cases h : lo ≤ k
  ·by_cases h2 : ∃ o : Obj, W.heap[k]? = some o /\ o.isCells = true
   ·obtain ⟨o, h2, h3⟩ := h2
    rw [h2]; exact e6 k o h2 h3
   ·exact absurd ⟨h, h2⟩ hf
  ·exact e5 k (by omega)⟩
 have hx : Ext w w' := hk.trans' kx fun i hi h => absurd h.1 (by omega)
 refine ⟨.agg #[a, b], ?_, RetN.mk hx (hP w' hx kx)⟩
 have hB2 : Blk w' g [a, b] 175 := hB.kp kx fun h => h.2 ⟨_, hB, rfl⟩
 have c0 : w'.cell? ⟨g, 0, none⟩ = some a := by rw [hB2.cell']; rfl
 have c1 : w'.cell? ⟨g, 1, none⟩ = some b := by rw [hB2.cell']; rfl
 have ht' : tmps[6]?.getD undef = .pointer (some ⟨g, 0, none⟩) := by simpa using ht
 simp [results, Tryz.f117, go_sem, ht', c0, c1]
def VarsR (w : World) (g0 : Nat) (pr : ByteArray) (ta : Option Addr) (m cap : Nat) (na : Option Addr) (nn nc : Nat) (N : List ByteArray) (ts : List aG) (iv : Value) (X : World) : Prop :=
 ∃ (i : Nat) (vv : Value), i ≤ nn /\ iv = .int .i64 i /\ Hid (LaidAt w X g0 pr ta m cap na nn nc vv (.pointer none)) /\ Hid (Row X 3 1 vv (dY N ts i).length (yV (dY N ts i)) (New w))
set_option maxRecDepth 100000 in
set_option maxHeartbeats 8000000 in
theorem qA {S : Nat -> Prop} {w : World} {bv : Value} {E : List Ent} {pr : ByteArray} {ta na : Option Addr} {m cap nn nc : Nat} {G : Nat -> Prop} {ts : List aG} {N : List ByteArray} (hB : BaseV S w bv E) (hm : m = ts.length) (hts : aW w G ta ts) (h64 : m ≤ 64) (hn : nn = N.length) (hN : CellsAt w na (strs N)) (hnd : N.Nodup) (hn2 : nn ≤ 1048576) :
 Calls Tryz.prog 117 #[.agg #[.string pr, .slice ta m cap], bv, .slice na nn nc] w (RetN w fun w' v => ∃ va vc rb iv S', v = .agg #[.slice va (aL N ts).length vc, .pointer (some ⟨rb, 0, none⟩)] /\ Fast w.heap.size w'.heap.size w' fun W => TableAt S' W va rb iv (aL N ts) (cD N ts (dG (bB E pr)))) := by
 obtain ⟨o, eo⟩ : ∃ o, bB E pr = o := ⟨_, rfl⟩
 have hok := hB.ok
 have hopt := hB.opt pr
 have HEach := qH (fun W (hW : Ext w W) => zF (hB.ext hW) pr)
 rw [eo] at hopt HEach ⊢
 have hrows : ∃ ar, (∀ r ∈ dG o, r.length = ar /\ bO r = true) /\ (dG o).length ≤ 65536 /\ Strict aC (dG o) := by
  cases o with
  | none => exact ⟨0, fun r hr => (by simp [dG] at hr), Nat.zero_le _, List.Pairwise.nil⟩
  | some e =>
   have hc := hok.all _ (List.mem_map.2 ⟨e, (bT eo).1, rfl⟩)
   exact ⟨e.ar, fun r hr => ⟨hc.len r hr, hc.txt r hr⟩, hc.few, hc.strict⟩
 have HRows := qH hrows
 have HCon := qH (fun W (hW : Ext w W) (s : ByteArray) => vC ts 1 s ta m cap W G hm (hts.ext hW) (by omega))
 have HIdx := qH (fun W (hW : Ext w W) (s : ByteArray) => mU ts 1 s ta m cap W G hm (hts.ext hW) (by omega))
 have HT := qH (And.intro hm hts)
 have HN := qH (And.intro hn (And.intro hN hnd))
 have HF := qH (iC (ts := ts) hnd)
 obtain ⟨g0, eg0⟩ : ∃ g, w.heap.size = g := ⟨_, rfl⟩
 obtain ⟨w1, e1⟩ : ∃ x, w.alloc (.cells #[.string pr, .slice ta m cap] 24) = x := ⟨_, rfl⟩
 obtain ⟨w2, e2⟩ : ∃ x, w1.alloc (.cells #[.slice na nn nc] 34) = x := ⟨_, rfl⟩
 obtain ⟨w3, e3⟩ : ∃ x, w2.alloc (.cells #[.slice none 0 0, .pointer none] 175) = x := ⟨_, rfl⟩
 obtain ⟨w4, e4⟩ : ∃ x, w3.alloc (.cells #[.slice none 0 0, .pointer none] 175) = x := ⟨_, rfl⟩
 have s1 : w1.heap.size = g0 + 1 := by rw [<- e1, aJ, eg0]
 have s2 : w2.heap.size = g0 + 1 + 1 := by rw [<- e2, aJ, s1]
 have s3 : w3.heap.size = g0 + 1 + 1 + 1 := by rw [<- e3, aJ, s2]
 have x1 : Ext w w1 := by rw [<- e1]; exact (Kp.refl w).alloc _
 have x2 : Ext w1 w2 := by rw [<- e2]; exact (Kp.refl w1).alloc _
 have x3 : Ext w2 w3 := by rw [<- e3]; exact (Kp.refl w2).alloc _
 have x4 : Ext w3 w4 := by rw [<- e4]; exact (Kp.refl w3).alloc _
 have hA := qH (show LaidAt w w4 g0 pr ta m cap na nn nc (.slice none 0 0) (.pointer none) from
  ⟨Blk.ext (by have h := Blk.new w [.string pr, .slice ta m cap] 24; rw [eg0] at h; rw [<- e1]; exact h) (x2.trans (x3.trans x4)),
   Blk.ext (by have h := Blk.new w1 [.slice na nn nc] 34; rw [s1] at h; rw [<- e2]; exact h) (x3.trans x4),
   Blk.ext (by have h := Blk.new w2 [.slice none 0 0, .pointer none] 175; rw [s2] at h; rw [<- e3]; exact h) x4,
   by have h := Blk.new w3 [.slice none 0 0, .pointer none] 175; rw [s3] at h; rw [<- e4]; exact h, x1.trans (x2.trans (x3.trans x4))⟩)
 have HG := qH eg0
 have n0 : w4.cell? ⟨g0 + 1, 0, none⟩ = some (.slice na nn nc) := by rw [hA.out.names.cell']; rfl
 clear x1 x2 x3 x4 hB hts hm hN hn hnd hrows hok hopt eo
 refine callsIn_wide.1 (callsIn_of_wp_marks (n := 4) Tryz.func117 rfl trivial ?_ rfl)
 refine wpIn_wide.2 ?_
 obtain ⟨Q, eQ⟩ : ∃ Q, Q = bodyPostM Fence.wide 4 Tryz.prog Tryz.f117 (RetN w fun w' v => ∃ va vc rb iv S', v = .agg #[.slice va (aL N ts).length vc, .pointer (some ⟨rb, 0, none⟩)] /\ Fast w.heap.size w'.heap.size w' fun W => TableAt S' W va rb iv (aL N ts) (cD N ts (dG o))) := ⟨_, rfl⟩
 rw [<- eQ]
 have EQ := qH eQ; clear eQ
 simp only [Tryz.ntmps117, List.size_toArray, List.length_cons, List.length_nil, Nat.reduceAdd, Nat.reduceSub, Array.replicate_succ, Array.replicate_zero, List.push_toArray, List.append_toArray, List.nil_append, List.cons_append]
 go_wp2
 go_step3
 go_wp2
 clear e1 e2 e3 e4 s1 s2 s3
 go_loopw [18] (fun iv wr => VarsR w g0 pr ta m cap na nn nc N ts iv wr) (fun iv _ => nn - (intOf iv).toNat)
 case atStart => exact ⟨0, .slice none 0 0, Nat.zero_le _, rfl, hA, qH (Row.nil _ _ _ _)⟩
 case round =>
  obtain ⟨i, vv, hi, rfl, hLa, hRo⟩ := hrel
  obtain ⟨va, vc, evv, hvc, _⟩ := hRo.out.shape
  subst evv
  by_cases hlt : i < nn
  ·obtain ⟨s, hs⟩ : ∃ s, N[i]? = some s := ⟨_, qG (by rw [<- HN.out.1]; exact hlt)⟩
   obtain ⟨b, off, ena, c0⟩ := (HN.out.2.1.ext hLa.out.kp) i (.string s) (by simp [strs, hs])
   have a1 : wr.cell? ⟨g0, 1, none⟩ = some (.slice ta m cap) := by rw [hLa.out.atom.cell']; rfl
   have HS := qH hs
   have hsz := aCm N ts i
   subst ena
   clear hs hvc
   go_wp2_with fail
   refine (HCon.out wr hLa.out.kp s).mono ?_
   rintro e w5 ⟨v, rfl, hk5, rfl⟩
   have hL5 := qH (And.intro (hLa.out.ext hk5) (hRo.out.ext hk5))
   clear hk5 c0 a1
   obtain ⟨q, eq⟩ : ∃ q, ts.any (isV s) = q := ⟨_, rfl⟩
   have hq : ts.any (isT 1 s) = q := eq
   have HQ := qH (show dY N ts (i + 1) = if q = true then dY N ts i ++ [i] else dY N ts i from by rw [zQ HS.out, eq])
   rw [hq]
   clear hq eq
   cases q
   ·go_wp2
    go_roundw
    case rel => exact ⟨i + 1, _, by omega, by first | rfl | (congr 1; done) | (congr 1; omega), qH hL5.out.1, qH (by rw [HQ.out, if_neg (by simp)]; exact hL5.out.2)⟩
    case measure => simp [intOf]; omega
   ·obtain ⟨cn, ecn⟩ : ∃ x, (dY N ts i).length = x := ⟨_, rfl⟩
    rw [ecn] at hL5 hsz
    have t0 : w5.cell? ⟨g0 + 1 + 1 + 1, 0, none⟩ = some (.slice va cn vc) := by rw [hL5.out.1.tab.cell']; rfl
    go_wp2_with (first | (at_builtin; refine Halted.out ?_))
    refine Halted.mk (gV iJ rfl _ _ rfl (hL5.out.1.kp.alloc _) rfl (hL5.out.2.alloc _) rfl (CellsAt.one w5 _ _) rfl (by simp; rfl) (by omega) (by unfold maxLen; omega) ?_)
    intro v6 w6 hr6 hk6 hk6b _
    obtain ⟨la, lcap, elv, _, _⟩ := hr6.shape
    subst elv
    have hnb : ∀ (g : Nat) cs e, e ≠ 3 -> Blk w5 g cs e -> Blk w6 g cs e := fun g cs e he hb => (hb.alloc _).kp hk6b fun hg => by
     obtain ⟨cs', hb'⟩ := aP hL5.out.2 hg
     exact he (aM hb hb')
    have hL6 := qH (show LaidAt w w6 g0 pr ta m cap _ nn nc (.slice va cn vc) (.pointer none) from
     ⟨hnb _ _ _ (by decide) hL5.out.1.atom, hnb _ _ _ (by decide) hL5.out.1.names, hnb _ _ _ (by decide) hL5.out.1.res, hnb _ _ _ (by decide) hL5.out.1.tab, hk6⟩)
    have t1 : w6.cell? ⟨g0 + 1 + 1 + 1, 0, none⟩ = some (.slice va cn vc) := by rw [hL6.out.tab.cell']; rfl
    have tf := hL6.out.tab.free 0
    obtain ⟨w7, ew7⟩ : ∃ x, w6.setCell ⟨g0 + 1 + 1 + 1, 0, none⟩ (.slice la (cn + 1) lcap) = x := ⟨_, rfl⟩
    have hL7 := qH (show LaidAt w w7 g0 pr ta m cap _ nn nc (.slice la (cn + 1) lcap) (.pointer none) from by rw [<- ew7]; exact hL6.out.putV (by rw [HG.out]; exact Nat.le_refl _) _)
    have hR7 := qH (show Row w7 3 1 (.slice la (cn + 1) lcap) (dY N ts (i + 1)).length (yV (dY N ts (i + 1))) (New w) from by
     rw [HQ.out, if_pos (by first | rfl | trivial), List.length_append, List.length_singleton, ecn, <- aF9, <- ew7]
     refine hr6.kp' (Kp.setCell (F := fun k => k = g0 + 1 + 1 + 1) (p := ⟨g0 + 1 + 1 + 1, 0, none⟩) (Kp.refl w6) (fun _ => rfl) _) fun g hg _ e => ?_
     obtain ⟨cs, hb⟩ := aP hr6 hg
     rw [e] at hb
     exact absurd (aM hb hL6.out.tab) (by decide))
    clear hr6 hk6 hk6b t0 hnb
    go_wp2
    go_roundw
    case rel => exact ⟨i + 1, _, by omega, by first | rfl | (congr 1; done) | (congr 1; omega), hL7, hR7⟩
    case measure => simp [intOf]; omega
  ·obtain rfl : nn = i := by omega
   have hvl : (dY N ts nn).length = (aL N ts).length := by rw [HN.out.1]; rfl
   have hR0 := hRo.out
   rw [show dY N ts nn = aL N ts from by rw [HN.out.1]; rfl] at hR0
   obtain ⟨cn, ecn⟩ : ∃ x, (aL N ts).length = x := ⟨_, rfl⟩
   rw [hvl, ecn] at hLa
   rw [ecn] at hR0
   have HV := qH hR0
   have HL := hLa
   have HCn := qH ecn
   have hcn64 : cn ≤ 64 := by rw [<- ecn]; exact Nat.le_trans HF.out (by rw [<- HT.out.1]; exact h64)
   have HNR := qH (mM (fun _ => False) wr cn hcn64 (fun k h => h.elim))
   have v0 : wr.cell? ⟨g0 + 1 + 1 + 1, 0, none⟩ = some (.slice va cn vc) := by rw [HL.out.tab.cell']; rfl
   clear hRo hLa hR0 hvl hvc ecn hi hlt
   go_wp2_with fail
   refine HNR.out.mono ?_
   rintro e w5 ⟨v5, rfl, hk5, rfl, hr5⟩
   obtain ⟨rb, erb⟩ : ∃ x, wr.heap.size = x := ⟨_, rfl⟩
   rw [erb] at hr5 ⊢
   have HL5 := qH (HL.out.ext hk5)
   have v1 : w5.cell? ⟨g0 + 1 + 1 + 1, 1, none⟩ = some (.pointer none) := by rw [HL5.out.tab.cell']; rfl
   have vf := HL5.out.tab.free 1
   have hgr : g0 + 1 + 1 + 1 < rb := by rw [<- erb]; exact HL.out.tab.lt
   obtain ⟨w6, e6⟩ : ∃ x, w5.setCell ⟨g0 + 1 + 1 + 1, 1, none⟩ (.pointer (some ⟨rb, 0, none⟩)) = x := ⟨_, rfl⟩
   have k56 : Kp (fun k => k = g0 + 1 + 1 + 1) w5 w6 := by rw [<- e6]; exact Kp.setCell (F := fun k => k = g0 + 1 + 1 + 1) (p := ⟨g0 + 1 + 1 + 1, 1, none⟩) (Kp.refl w5) (fun _ => rfl) _
   have HL6 := qH (show LaidAt w w6 g0 pr ta m cap na nn nc (.slice va cn vc) (.pointer (some ⟨rb, 0, none⟩)) from by rw [<- e6]; exact HL5.out.putR (by rw [HG.out]; exact Nat.le_refl _) _)
   have HV6 := qH (show Row w6 3 1 (.slice va cn vc) cn (yV (aL N ts)) (New w) from (HV.out.ext hk5).kp' k56 fun g hg _ e => by
    obtain ⟨cs, hb⟩ := aP (HV.out.ext hk5) hg
    rw [e] at hb
    exact absurd (aM hb HL5.out.tab) (by decide))
   have HR6 := qH (show RowsAt (fun _ => False) w6 rb (.slice none 0 0) cn [] from hr5.move k56 (fun k hf ho => by
    rcases ho with ho | ho
    ·rw [hf] at ho; omega
    ·cases ho) (fun k _ h => h) (fun k h => h) (fun k h => h.elim) (fun k _ h => h))
   have HRB := qH (show w.heap.size ≤ rb /\ rb < w6.heap.size from ⟨by rw [<- erb]; exact HL.out.kp.size, HR6.out.cellOwn rb (.inl rfl) |>.elim fun o h => lt_of_block h.1⟩)
   have HRG := qH hgr
   clear hr5 hk5 erb v0 HNR k56
   go_wp2_with fail
   clear e6 v1 vf
   have p0 : w6.cell? ⟨g0, 0, none⟩ = some (.string pr) := by rw [HL6.out.atom.cell']; rfl
   go_step3
   go_wp2_with fail
   refine (HEach.out w6 HL6.out.kp).mono ?_
   rintro e w9 ⟨ve, rfl, hk9, Bs, ivx, rfl, hBs, hBB, hownx, hln⟩
   obtain ⟨LL, eLL⟩ : ∃ LL, dG o = LL := ⟨_, rfl⟩
   rw [eLL] at hownx hln HRows EQ
   obtain ⟨ln, eln⟩ : ∃ ln, LL.length = ln := ⟨_, rfl⟩
   obtain ⟨aox, capx, ev, _⟩ := hownx.shape
   rw [eln] at ev
   subst ev
   obtain ⟨ps2, hL2, x2, x3, x4⟩ := hownx
   have hp2 : ps2.length = ln := by rw [<- eln, hL2]; simp
   rw [hp2] at x2
   have hBsw := hBB.lt
   obtain ⟨SB, eSB⟩ : ∃ SB : Nat -> Prop, SB = fun g => g = Bs \/ (Value.slice aox ln capx).ownBlock = some g := ⟨_, rfl⟩
   have hSlt : ∀ g, SB g -> w6.heap.size ≤ g /\ g < w9.heap.size := fun g hg => by
    rw [eSB] at hg
    rcases hg with rfl | hg
    ·exact ⟨hBs, hBsw⟩
    ·exact ⟨x2.block g hg, x2.lt g hg⟩
   have hseq : SeqStopsK Fence.wide 3 Tryz.prog 171 #[.pointer (some ⟨Bs, 0, none⟩)] (fun x : { p : fJ // p ∈ ps2 } => #[.slice x.1.1.1 x.1.1.2.1 x.1.1.2.2]) (SameOn SB) (fun ys => ys = ps2.attach) (fun pre => pre <+: ps2.attach) ps2.attach.length w9 := by
    have hSBs : SB Bs := by rw [eSB]; exact .inl rfl
    have hSBa : ∀ a, aox = some a -> SB a.block := fun a e => by rw [eSB]; subst e; exact .inr rfl
    have hc0 : w9.cell? ⟨Bs, 0, none⟩ = some (.slice aox ln capx) := by rw [hBB.cell']; rfl
    have hcs : CellsAt w9 aox (ps2.attach.map fun x => rowOf x.1) := by
     obtain ⟨ao, cap, e, hc, _⟩ := x2.shape
     simp only [Value.slice.injEq] at e
     obtain ⟨rfl, _, _⟩ := e
     have e : (ps2.attach.map fun x : { p : fJ // p ∈ ps2 } => rowOf x.1) = eG ps2 := by
      have h : (ps2.attach.map fun x : { p : fJ // p ∈ ps2 } => rowOf x.1) = (ps2.attach.map Subtype.val).map rowOf := by rw [List.map_map]; rfl
      rw [h, List.attach_map_subtype_val]; rfl
     rw [e]; exact hc
    have hln' : ln ≤ 1048576 * 1048576 := by rw [<- eln]; exact hln
    exact fun l J Jx W hW _ _ hY h0 => iK (fun x : { p : fJ // p ∈ ps2 } => .slice x.1.1.1 x.1.1.2.1 x.1.1.2.2) Fence.wide 3 trivial rfl (by omega) SB l Bs aox ln capx ps2.attach (by rw [List.length_attach]; exact hp2.symm) hln' J Jx hY W hSBs hSBa ((Kp.of_below hW).cell hc0 id) (hcs.ext (Kp.of_below hW)) h0
   have HQ := qH hseq
   have HX := qH (And.intro x3 (And.intro hSlt (And.intro hL2 (And.intro hp2 eln))))
   have hgr6 : g0 + 1 + 1 + 1 < w6.heap.size := HL6.out.tab.lt
   have hsz9 := hk9.size
   have HL9 := qH (HL6.out.ext hk9)
   have HV9 := qH (HV6.out.ext hk9)
   have HR9 := qH (HR6.out.ext hk9)
   have HI0 := qH (show LaidI w9 rb cn N ts ps2 [] w9 from ⟨Kp.refl _, fun _ => False, _, (show cD N ts (fD ([] : List { p : fJ // p ∈ ps2 })) = [] from aJq N ts) ▸ HR6.out.ext hk9, fun k h => h.elim, fun k h => by cases h⟩)
   have hrb9 : rb < w9.heap.size := Nat.lt_of_lt_of_le HRB.out.2 hsz9
   have HEND := qH (show ∀ (tmps : Array Value) (ds : List Deferred) (W : World), Marks w9.heap.size W ds -> Kp (fun k => k = rb \/ k = g0 + 1 + 1) w9 W -> Blk W (g0 + 1 + 1) [.slice va cn vc, .pointer (some ⟨rb, 0, none⟩)] 175 -> RowsZ w9.heap.size rb cn (cD N ts LL) W -> tmps.getD 6 undef = .pointer (some ⟨g0 + 1 + 1, 0, none⟩) -> Q .ret { tmps := tmps, defers := ds } W from fun tmps ds W hm hk hb hz ht => by
    have hlo : w.heap.size ≤ g0 := by rw [HG.out]; exact Nat.le_refl _
    have hws : w.heap.size ≤ w9.heap.size := HL9.out.kp.size
    have hx : Ext w W := HL9.out.kp.trans' hk fun i hi h => by
     rcases h with h | h
     ·have := HRB.out.1; omega
     ·omega
    have hv := HV9.out.kp' hk fun g hg _ e => by
     obtain ⟨cs, hb2⟩ := aP HV9.out hg
     rcases e with e | e
     ·rw [e] at hb2
      obtain ⟨con, zs, hcon, hs, hl⟩ := HR9.out
      exact absurd (aM hb2 hs.blk) (by decide)
     ·rw [e] at hb2
      exact absurd (aM hb2 HL9.out.res) (by decide)
    rw [EQ.out]
    refine aIo hm hx hws ht hb fun w' hx' kx => ?_
    obtain ⟨iv, S', hf⟩ := RowsZ.fast (lo := w.heap.size) (w' := w') (vs := aL N ts) (hz.kp kx fun k hf => .inl hf.2) HCn.out.symm (hv.kp' kx fun g hg _ hf => by
     obtain ⟨cs, hb2⟩ := aP hv hg
     exact hf.2 ⟨_, hb2, rfl⟩) hws HRB.out.1 (tD N ts LL)
    exact ⟨va, vc, rb, iv, S', by rw [HCn.out], hf⟩)
   clear hseq x3 x4 hSlt hL2 hp2 eSB hBB hk9 hln hBsw hBs eln x2 p0
   go_wp2_with fail
   refine' wpIn_wide.1 (wpIn_rangeFunc_ownG (F := Fence.wide) (n := 4) (w0 := w9) rfl (by omega) (gf := 171) (lb := #[.pointer (some ⟨Bs, 0, none⟩)]) rfl trivial (enters_of Tryz.func171 (by kernel_rfl) rfl)
    HQ.out SameOn.trans (SameOn.put fun k h => (HX.out.2.1 k h).2) (Below.refl _ _) (fun _ => rfl) (LaidI w9 rb cn N ts ps2) (fun c _ W => (∀ r ∈ LL, r.length ≠ m) /\ LaidX w9 rb cn (g0 + 1 + 1) (.slice va cn vc) (.pointer (some ⟨rb, 0, none⟩)) c W) (LaidI.own hrb9)
    (fun c pre W W' row h hg hr => ⟨h.1, LaidX.own (α := { p : fJ // p ∈ ps2 }) hrb9 (by omega) pre W W' row h.2 hg hr⟩)
    HI0.out _ ?assign ?body ?done ?stop)
   case assign =>
    intro l x W K hK
    gi_wp2
    exact hK
   case body =>
    rintro l pre ⟨⟨⟨ax, mx, cx⟩, sp⟩, hp⟩ X hI hlen
    rw [List.length_attach] at hlen
    obtain ⟨hkX, Sx, iv, r1, r2, r3⟩ := hI
    have hrow := (HX.out.1 _ hp).1
    have hmem : sp ∈ LL := by rw [HX.out.2.2.1]; exact List.mem_map.2 ⟨_, hp, rfl⟩
    have hrX := Row.kp' hrow hkX fun g hg hM e => by have h : g = rb := e; have hM' : w6.heap.size ≤ g := hM; have := HRB.out.2; omega
    obtain ⟨ar, hall, hfew, hst⟩ := HRows.out
    obtain ⟨hlr, htx⟩ := hall sp hmem
    have hsX := hkX.size
    have hVX := HV9.out.kp' hkX fun g hg _ e => by
     obtain ⟨cs, hb⟩ := aP HV9.out hg
     have e' : g = rb := e
     rw [e'] at hb
     obtain ⟨con, zs, hcon, hs, hl⟩ := HR9.out
     exact absurd (aM hb hs.blk) (by decide)
    have hlo : w.heap.size ≤ g0 := by rw [HG.out]; exact Nat.le_refl _
    have hrbw := HRG.out
    have hLX := HL9.out.kpF hkX (fun k e => by rw [show k = rb from e]; exact hrbw) hlo
    have hsn : fD (pre ++ [⟨((ax, mx, cx), sp), hp⟩]) = fD pre ++ [sp] := by unfold fD; rw [List.map_append]; rfl
    have hlx : (fD pre).length < 65536 := by
     unfold fD; rw [List.length_map]
     have h1 := HX.out.2.2.1
     rw [h1, List.length_map] at hfew
     omega
    refine wpIn_mono (Q := kC (fun X' => KeepsFrom w9.heap.size X X' /\ SameOn SB X X' /\ LaidI w9 rb cn N ts ps2 (pre ++ [⟨((ax, mx, cx), sp), hp⟩]) X') (fun X' => KeepsFrom w9.heap.size X X' /\ (∀ r ∈ LL, r.length ≠ m) /\ LaidX w9 rb cn (g0 + 1 + 1) (.slice va cn vc) (.pointer (some ⟨rb, 0, none⟩)) .ret X')) ?_ ?_
    ·show Code.wpIn _ _ _ aA7 _ _ _
     refine aDl (S := Sx) (iv := iv) (R := fD pre) (sp := sp) (ax := ax) (mx := mx) (cx := cx) hLX hlo HT.out.1 HT.out.2 h64 HN.out.1 HN.out.2.1 HN.out.2.2 hn2 HCn.out.symm (by obtain ⟨ao, cap, e, hc, _⟩ := hVX.shape; cases e; exact hc) (Row.readsAs hrow).1.1 (Row.readsAs hrX).1.2 htx hlx r1 rfl rfl rfl rfl rfl rfl ?_ ?_
     ·intro hne X' hk' hb'
      have hno : ∀ r ∈ LL, r.length ≠ m := fun r hr => by rw [(hall r hr).1, <- hlr]; exact hne
      refine ⟨⟨hk'.size, fun k o hB hk _ => (hk'.block k (lt_of_block hk) fun f => by have f' : k = g0 + 1 + 1 := f; omega).trans hk⟩, hno, rfl, ?_, hb', ?_⟩
      ·exact (hkX.mono fun k _ h => Or.inl h).trans (hk'.mono fun k _ h => Or.inr h)
      ·have h0 : cD N ts (fD pre) = [] := zX fun x hx => by
        obtain ⟨y, _, rfl⟩ := List.mem_map.1 hx
        rw [<- HT.out.1]
        exact hno _ (by rw [HX.out.2.2.1]; exact List.mem_map.2 ⟨y.1, y.2, rfl⟩)
       rw [h0] at r1
       exact RowsZ.kp ⟨Sx, iv, r1, r2, r3⟩ hk' fun k e => .inr ⟨by have e' : k = g0 + 1 + 1 := e; omega, by have e' : k = g0 + 1 + 1 := e; omega⟩
     ·rintro hne X' hk' ⟨S', iv', q1, q2, q3⟩
      refine ⟨⟨hk'.size, fun k o hB hk ho => (hk'.block k (lt_of_block hk) fun f => ?_).trans hk⟩, SameOn.of_kp hk' (fun k hk => by have := (HX.out.2.1 k hk).2; omega) (fun k hk hf => ?_), hkX.trans' hk' fun k hk hf => ?_, fun k => S' k /\ fK X' k, iv', ?_, fun k hk => ⟨?_, hk.2⟩, fun k hk => ?_⟩
      ·obtain ⟨o', h1, h2⟩ := r1.cellOwn k f
       rw [hk] at h1; cases h1; rw [ho] at h2; cases h2
      ·have h1 := HX.out.2.1 k hk
       rcases hf with hf | hf
       ·have := HRB.out.2; omega
       ·have := r3 k hf; omega
      ·rcases hf with hf | hf
       ·exact hf
       ·have := r3 k hf; omega
      ·rw [hsn]; exact q1.tight
      ·rcases q2 k hk.1 with h | h
       ·exact (r2 k h).1
       ·omega
      ·rcases q3 k hk with h | h
       ·exact r3 k h
       ·omega
    ·intro e a W h
     cases e <;> first | exact h | exact h.elim
   case done =>
    rintro D1 ys X2 hD hys hI hd
    have hys' := hys.symm; subst hys'; clear hys
    have hro : fD ps2.attach = LL := by
     rw [HX.out.2.2.1]
     unfold fD
     have h1 : ps2.attach.map (fun x => x.1.2) = (ps2.attach.map Subtype.val).map Prod.snd := by rw [List.map_map]; rfl
     rw [h1, List.attach_map_subtype_val]
    obtain ⟨hkX, hRZ⟩ := hI
    rw [hro] at hRZ
    have hm1 : Marks w9.heap.size X2 [{ target := .collected D1, args := #[] }] := Marks.push (Marks.nil w9.heap.size w9) (fun k o h ho => (hkX.block k (lt_of_block h) (fun e => by
     have e' : k = rb := e
     obtain ⟨o', h1, h2⟩ := HR9.out.cellOwn rb (.inl rfl)
     rw [e', h1] at h; cases h; rw [h2] at ho; cases ho)).trans h) hD hD hd
    have hlo : w.heap.size ≤ g0 := by rw [HG.out]; exact Nat.le_refl _
    have hLX := HL9.out.kpF hkX (fun k e => by rw [show k = rb from e]; exact HRG.out) hlo
    have v0 : X2.cell? ⟨g0 + 1 + 1 + 1, 0, none⟩ = some (.slice va cn vc) := by rw [hLX.tab.cell']; rfl
    have v1 : X2.cell? ⟨g0 + 1 + 1 + 1, 1, none⟩ = some (.pointer (some ⟨rb, 0, none⟩)) := by rw [hLX.tab.cell']; rfl
    have r0 : X2.cell? ⟨g0 + 1 + 1, 0, none⟩ = some (.slice none 0 0) := by rw [hLX.res.cell']; rfl
    have r1 : X2.cell? ⟨g0 + 1 + 1, 1, none⟩ = some (.pointer none) := by rw [hLX.res.cell']; rfl
    have f0 := hLX.res.free 0
    have f1 := hLX.res.free 1
    have HZ := qH (And.intro hkX (And.intro hRZ (And.intro hm1 hLX)))
    clear hkX hRZ hm1 hLX hd hD hro
    go_wp2_with fail
    obtain ⟨hkX, hRZ, hm1, hLX⟩ := HZ.out
    have k23 : Kp (fun k => k = g0 + 1 + 1) X2 ((X2.setCell ⟨g0 + 1 + 1, 0, none⟩ (.slice va cn vc)).setCell ⟨g0 + 1 + 1, 1, none⟩ (.pointer (some ⟨rb, 0, none⟩))) :=
     Kp.setCell (F := fun k => k = g0 + 1 + 1) (p := ⟨g0 + 1 + 1, 1, none⟩) (Kp.setCell (F := fun k => k = g0 + 1 + 1) (p := ⟨g0 + 1 + 1, 0, none⟩) (Kp.refl X2) (fun _ => rfl) _) (fun _ => rfl) _
    have hg6 := hgr6
    refine HEND.out _ _ _ (hm1.kp k23 fun k hf => by have e : k = g0 + 1 + 1 := hf; omega) ((hkX.mono fun k _ h => Or.inl h).trans (k23.mono fun k _ h => Or.inr h)) ((hLX.res.set 0 _).set 1 _) (hRZ.kp k23 fun k hf => .inr ?_) rfl
    have e : k = g0 + 1 + 1 := hf
    have := HRG.out
    omega
   case stop =>
    rintro D c pre W hD _ ⟨hall, rfl, hX⟩ hd
    have hm1 : Marks w9.heap.size W [{ target := .collected D, args := #[] }] := Marks.push (Marks.nil w9.heap.size w9) (fun k o h ho => (hX.1.block k (lt_of_block h) (fun e => by
     rcases e with e | e
     ·obtain ⟨o', h1, h2⟩ := HR9.out.cellOwn rb (.inl rfl)
      rw [e, h1] at h; cases h; rw [h2] at ho; cases ho
     ·have hb := HL9.out.res
      unfold Blk at hb
      rw [e, hb] at h; cases h; cases ho)).trans h) hD hD hd
    have hz := hX.2.2
    rw [<- zX (N := N) (ts := ts) (R := LL) fun r hr => by rw [<- HT.out.1]; exact hall r hr] at hz
    have HZ := qH (And.intro hm1 (And.intro hX.1 (And.intro hX.2.1 hz)))
    clear hm1 hX hz hd hD
    refine wpIn_wide.2 ?_
    go_wp2_with fail
    exact HEND.out _ _ _ HZ.out.1 HZ.out.2.1 HZ.out.2.2.1 HZ.out.2.2.2 rfl
end Go.Proofs.YtinnmeiphbdogaaGreat
/- trie.projected: the ways of a table, in the order of its columns. -/
namespace Go.Proofs.YtinnmeiphbdogaaGreat
open Go.RowKit Go.Shelf
attribute [local go_sem] Oper.semAt_some
set_option maxRecDepth 100000 in
theorem vF (fv : Value) (w : World) : Calls Tryz.prog 196 #[.slice none 0 0, fv] w (RetN w fun w' v => v = .slice none 0 0) := by
 go_enter Tryz.func196, Tryz.ntmps196
 go_wp2
 go_ret
 exact RetN.mk (Kp.refl _) rfl
set_option maxRecDepth 100000 in
theorem aAd {lo : Nat} {w : World} {v : Value} {LL : aD} (h : OwnRows lo w v LL) (hst : Strict aC LL) (m : Nat) (hlen : ∀ x ∈ LL, x.length = m) (hm : m ≤ 64) (hn : LL.length ≤ 65536) :
 Calls Tryz.prog 196 #[v, .func (.func 201) #[] #[]] w (RetF (fun k => v.ownBlock = some k) w fun w' v' => OwnRows lo w' v' LL) := by
 obtain ⟨ps, rfl, h2, h3, h4⟩ := h
 have h2' := h2
 rw [List.length_map] at hn
 obtain ⟨q1, ⟨ev, en⟩ | ⟨g, cap, rest, rfl, hg, hb, hbl, hnc, hcm⟩⟩ := h2'
 ·subst ev
  refine (vF _ w).mono ?_
  rintro e w2 ⟨v2, rfl, hk, rfl⟩
  exact RetF.mk hk.kp ⟨ps, rfl, h2.ext hk, fun p hp => ⟨(h3 p hp).1.ext hk, (h3 p hp).2⟩, h4⟩
 ·have hz : ∀ i, i < ps.length -> (ps.map Prod.fst).getD i default = (ps.getD i default).1 := fun i hi => by
   rw [List.getD_eq_getElem?_getD, List.getD_eq_getElem?_getD, List.getElem?_map, qG hi]; rfl
  have hvs : eG ps = (List.range ps.length).map (bW fun i => (ps.map Prod.fst).getD i default) := by
   unfold eG
   refine List.ext_getElem (by simp) fun i h1 h2 => ?_
   have hi : i < ps.length := by simpa using h1
   simp only [List.getElem_map, List.getElem_range]
   unfold bW
   show _ = Value.slice ((ps.map Prod.fst).getD i default).1 ((ps.map Prod.fst).getD i default).2.1 ((ps.map Prod.fst).getD i default).2.2
   rw [hz i hi, List.getD_eq_getElem?_getD, qG hi]; rfl
  have hlike : aJj Tryz.prog 201 #[] #[] g ps.length w (bW fun i => (ps.map Prod.fst).getD i default) (fun i j => decide ((ps.getD i default).2 = (ps.getD j default).2)) :=
   ⟨enters_of Tryz.func201 (by kernel_rfl) rfl, fun w' hw i j hi hj => by
    have hc : ∀ i, i < ps.length -> (ps.getD i default).1.2.1 = m /\ m = (ps.getD i default).2.length /\ CellsAt w' (ps.getD i default).1.1 (strs (ps.getD i default).2) := fun i hi => by
     have e : ps.getD i default = ps[i] := by rw [List.getD_eq_getElem?_getD, qG hi]; rfl
     rw [e]
     have hr := (h3 ps[i] (List.getElem_mem _)).1
     have hr' := Row.kp' hr hw fun g' hg' _ e => by
      obtain ⟨cs, hb2⟩ := aP hr hg'
      have e' : g' = g := e
      rw [e'] at hb2
      exact absurd (aM hb2 hb) (by decide)
     have hl := hlen ps[i].2 (List.mem_map.2 ⟨ps[i], List.getElem_mem _, rfl⟩)
     exact ⟨(Row.readsAs hr).1.1.trans hl, hl.symm, (Row.readsAs hr').1.2⟩
    have ex : ∀ i, i < ps.length -> bW (fun i => (ps.map Prod.fst).getD i default) i = .slice (ps.getD i default).1.1 m (ps.getD i default).1.2.2 := fun i hi => by
     unfold bW
     show Value.slice ((ps.map Prod.fst).getD i default).1 ((ps.map Prod.fst).getD i default).2.1 ((ps.map Prod.fst).getD i default).2.2 = _
     rw [hz i hi, (hc i hi).1]
    have e0 : ∀ a b : Value, ((#[] : Array Value) ++ (#[a, b] ++ #[])) = #[a, b] := fun a b => rfl
    rw [e0]
    rw [ex i hi, ex j hj]
    refine (aC0 _ _ _ _ m _ _ w' (hc i hi).2.1 (hc j hj).2.1 (hc i hi).2.2 (hc j hj).2.2 (by omega)).mono ?_
    rintro e w2 ⟨v2, rfl, hk, rfl⟩
    exact ⟨rfl, hk⟩⟩
  have hkeep : bX (fun i j => decide ((ps.getD i default).2 = (ps.getD j default).2)) (List.range ps.length) ps.length = List.range ps.length := by
   rw [lF (by simp) fun j h0 hj => ?_, List.take_of_length_le (by simp)]
   have e1 : ∀ i, i < ps.length -> (List.range ps.length).getD i 0 = i := fun i hi => by rw [List.getD_eq_getElem?_getD, List.getElem?_range hi]; rfl
   rw [e1 j hj, e1 (j - 1) (by omega)]
   refine decide_eq_false fun e => ?_
   have h := List.pairwise_iff_getElem.1 hst (j - 1) j (by rw [List.length_map]; omega) (by rw [List.length_map]; omega) (by omega)
   simp only [List.getElem_map] at h
   have g1 : ∀ i (hi : i < ps.length), ps.getD i default = ps[i] := fun i hi => by rw [List.getD_eq_getElem?_getD, qG hi]; rfl
   rw [g1 j hj, g1 (j - 1) (by omega)] at e
   rw [e, cX.refl] at h
   omega
  rw [hvs] at hb hbl
  have hcomp := vE (fun i => (ps.map Prod.fst).getD i default) (List.range ps.length) g ps.length cap ps.length rest 201 #[] #[] _ w hlike (by simp) (fun i hi => List.mem_range.1 hi) (by omega) hb (by simpa using hbl) hcm
  rw [hkeep] at hcomp
  refine hcomp.mono ?_
  rintro e w2 ⟨v2, rfl, hk, rest', rfl, hb2, hl2⟩
  rw [List.length_range]
  refine RetF.mk (hk.mono fun k _ e => by have e' : k = g := e; rw [e']; rfl) ⟨ps, rfl, ⟨q1, .inr ⟨g, cap, rest', rfl, hg, by rw [hvs]; exact hb2, by rw [hvs, hl2]; omega, hnc, hcm⟩⟩, fun p hp => ⟨?_, (h3 p hp).2⟩, h4⟩
  refine Row.kp' (h3 p hp).1 hk fun g' hg' _ e => ?_
  obtain ⟨cs, hb3⟩ := aP (h3 p hp).1 hg'
  have e' : g' = g := e
  rw [e'] at hb3
  exact absurd (aM hb3 hb) (by decide)
theorem aI0 {lo : Nat} {w : World} {v : Value} {LL : aD} (h : kJ lo w v LL) : ∃ (Bs : Nat) (ps : List fJ) (SB : Nat -> Prop), v = .func (.func 171) #[] #[.pointer (some ⟨Bs, 0, none⟩)] /\ LL = ps.map Prod.snd /\
 (∀ p ∈ ps, Row w 9 1 (.slice p.1.1 p.1.2.1 p.1.2.2) p.2.length (strs p.2) (fun g => lo ≤ g)) /\ (∀ g, SB g -> lo ≤ g /\ g < w.heap.size) /\
 SeqStopsK Fence.wide 3 Tryz.prog 171 #[.pointer (some ⟨Bs, 0, none⟩)] (fun x : { p : fJ // p ∈ ps } => #[.slice x.1.1.1 x.1.1.2.1 x.1.1.2.2]) (SameOn SB) (fun ys => ys = ps.attach) (fun pre => pre <+: ps.attach) ps.attach.length w := by
 obtain ⟨Bs, ivx, rfl, hBs, hBB, hownx, hln⟩ := h
 obtain ⟨aox, capx, ev, _⟩ := hownx.shape
 subst ev
 obtain ⟨ps2, hL2, x2, x3, x4⟩ := hownx
 have hp2 : ps2.length = LL.length := by rw [hL2]; simp
 rw [hp2] at x2
 have hBsw := hBB.lt
 obtain ⟨SB, eSB⟩ : ∃ SB : Nat -> Prop, SB = fun g => g = Bs \/ (Value.slice aox LL.length capx).ownBlock = some g := ⟨_, rfl⟩
 refine ⟨Bs, ps2, SB, rfl, hL2, fun p hp => (x3 p hp).1, fun g hg => ?_, ?_⟩
 ·rw [eSB] at hg
  rcases hg with rfl | hg
  ·exact ⟨hBs, hBsw⟩
  ·exact ⟨x2.block g hg, x2.lt g hg⟩
 ·have hSBs : SB Bs := by rw [eSB]; exact .inl rfl
  have hSBa : ∀ a, aox = some a -> SB a.block := fun a e => by rw [eSB]; subst e; exact .inr rfl
  have hc0 : w.cell? ⟨Bs, 0, none⟩ = some (.slice aox LL.length capx) := by rw [hBB.cell']; rfl
  have hcs : CellsAt w aox (ps2.attach.map fun x => rowOf x.1) := by
   obtain ⟨ao, cap, e, hc, _⟩ := x2.shape
   simp only [Value.slice.injEq] at e
   obtain ⟨rfl, _, _⟩ := e
   have e : (ps2.attach.map fun x : { p : fJ // p ∈ ps2 } => rowOf x.1) = eG ps2 := by
    have h : (ps2.attach.map fun x : { p : fJ // p ∈ ps2 } => rowOf x.1) = (ps2.attach.map Subtype.val).map rowOf := by rw [List.map_map]; rfl
    rw [h, List.attach_map_subtype_val]; rfl
   rw [e]; exact hc
  exact fun l J Jx W hW _ _ hY h0 => iK (fun x : { p : fJ // p ∈ ps2 } => .slice x.1.1.1 x.1.1.2.1 x.1.1.2.2) Fence.wide 3 trivial rfl (by omega) SB l Bs aox LL.length capx ps2.attach (by rw [List.length_attach]; exact hp2.symm) hln J Jx hY W hSBs hSBa ((Kp.of_below hW).cell hc0 id) (hcs.ext (Kp.of_below hW)) h0
theorem uH {F : Nat -> Prop} {W W' : World} (hk : Kp F W W') (hF : ∀ k, F k -> fK W k) : KeepsOthers W W' :=
 ⟨hk.size, fun k o h ho => (hk.block k (lt_of_block h) fun hf => by
  obtain ⟨o', h1, h2⟩ := hF k hf
  rw [h] at h1; cases h1; rw [ho] at h2; cases h2).trans h⟩
theorem Row.cellB {w : World} {e : TypeId} {k : Nat} {v : Value} {n : Nat} {xs : List Value} {M : Nat -> Prop} (h : Row w e k v n xs M) : ∀ g, v.ownBlock = some g -> fK w g := fun g hg => by
 obtain ⟨cs, hb⟩ := aP h hg
 exact ⟨_, hb, rfl⟩
theorem aH6 {w W : World} {P : World -> Value -> Prop} {tmps : Array Value} {ds : List Deferred} {lo : Nat} {v : Value} (hm : Marks lo W ds) (hk : Ext w W) (hlo : w.heap.size ≤ lo) (ht : tmps.getD 4 undef = v)
 (hP : ∀ w', Kp (fun k => lo ≤ k /\ ¬ fK W k) W w' -> P w' v) :
 bodyPostM Fence.wide 4 Tryz.prog Tryz.f177 (RetN w P) .ret { tmps := tmps, defers := ds } W := by
 refine fF hm fun w' e1 e2 e3 e4 e5 e6 => ?_
 have kx : Kp (fun k => lo ≤ k /\ ¬ fK W k) W w' := ⟨e1, e2, e3, by omega, fun k hk hf => by
  by_cases h : lo ≤ k
  ·by_cases h2 : ∃ o : Obj, W.heap[k]? = some o /\ o.isCells = true
   ·obtain ⟨o, h2, h3⟩ := h2
    rw [h2]; exact e6 k o h2 h3
   ·exact absurd ⟨h, h2⟩ hf
  ·exact e5 k (by omega)⟩
 refine ⟨v, ?_, RetN.mk (hk.trans' kx fun i hi h => absurd h.1 (by omega)) (hP w' kx)⟩
 have ht' : tmps[4]?.getD undef = v := by simpa using ht
 simp [results, Tryz.f177, go_sem, ht']
set_option maxRecDepth 100000 in
set_option maxHeartbeats 8000000 in
theorem vO {S : Nat -> Prop} {w : World} {rb m oc : Nat} {iv : Value} {oa : Option Addr} {LL : aD} (hR : RowsAt S w rb iv m LL) (hst : Strict aC LL) (hlen : ∀ x ∈ LL, x.length = m) (ho : CellsAt w oa (ints ((List.range m).map fun (v : Nat) => (v : Int)))) (hm : m ≤ 64) (hn : LL.length ≤ 65536) :
 Calls Tryz.prog 177 #[.pointer (some ⟨rb, 0, none⟩), .slice oa m oc] w (RetN w fun w' v => OwnRows w.heap.size w' v LL) := by
 have HEach := qH (show ∀ W, Ext w W -> Calls Tryz.prog 175 #[.pointer (some ⟨rb, 0, none⟩)] W (RetN W fun w' v => kJ W.heap.size w' v LL) from fun W hW => (tN (z := False) ((hR.ext hW).q)).mono (by
  rintro e w' ⟨v, rfl, hk, -, h⟩
  exact RetN.mk (hk.mono fun k _ h => h.1) h))
 have HO := qH ho
 have HL := qH (And.intro hst (And.intro hlen hn))
 clear hR hst hlen ho hn
 refine callsIn_wide.1 (callsIn_of_wp_marks (n := 4) Tryz.func177 rfl trivial ?_ rfl)
 refine wpIn_wide.2 ?_
 obtain ⟨Q, eQ⟩ : ∃ Q, Q = bodyPostM Fence.wide 4 Tryz.prog Tryz.f177 (RetN w fun w' v => OwnRows w.heap.size w' v LL) := ⟨_, rfl⟩
 rw [<- eQ]
 have EQ := qH eQ; clear eQ
 simp only [Tryz.ntmps177, List.size_toArray, List.length_cons, List.length_nil, Nat.reduceAdd, Nat.reduceSub, Array.replicate_succ, Array.replicate_zero, List.push_toArray, List.append_toArray, List.nil_append, List.cons_append]
 obtain ⟨ob, eob⟩ : ∃ g, w.heap.size = g := ⟨_, rfl⟩
 obtain ⟨w1, e1⟩ : ∃ x, w.alloc (.cells #[.slice oa m oc] 173) = x := ⟨_, rfl⟩
 obtain ⟨w2, e2⟩ : ∃ x, w1.alloc (.cells #[.slice none 0 0] 69) = x := ⟨_, rfl⟩
 have s1 : w1.heap.size = ob + 1 := by rw [<- e1, aJ, eob]
 have s2 : w2.heap.size = ob + 1 + 1 := by rw [<- e2, aJ, s1]
 have x1 : Ext w w1 := by rw [<- e1]; exact (Kp.refl w).alloc _
 have x2 : Ext w1 w2 := by rw [<- e2]; exact (Kp.refl w1).alloc _
 have H2 := qH (show Blk w2 ob [.slice oa m oc] 173 /\ Blk w2 (ob + 1) [.slice none 0 0] 69 /\ Ext w w2 from
  ⟨by have h := Blk.new w [.slice oa m oc] 173; rw [eob] at h; rw [<- e1] at x2; exact h.ext x2, by have h := Blk.new w1 [.slice none 0 0] 69; rw [s1] at h; rw [<- e2]; exact h, x1.trans x2⟩)
 have HS := qH (And.intro eob s2)
 clear x1 x2
 go_wp2_with fail
 clear e1 e2 s1 s2 eob
 refine (HEach.out w2 H2.out.2.2).mono ?_
 rintro e w9 ⟨ve, rfl, hk9, hEa⟩
 obtain ⟨Bs, ps2, SB, rfl, hL2, hrows, hSlt, hseq⟩ := aI0 hEa
 have HQ := qH hseq
 have HX := qH (And.intro hL2 (And.intro hrows hSlt))
 have H9 := qH (And.intro (H2.out.1.ext hk9) (And.intro (H2.out.2.1.ext hk9) (H2.out.2.2.trans hk9)))
 have hsz9 := hk9.size
 have hbb9 : ob + 1 < w9.heap.size := H9.out.2.1.lt
 have HOB := qH (show w2.heap.size = ob + 1 + 1 /\ w.heap.size = ob from ⟨HS.out.2, HS.out.1⟩)
 clear hseq hEa hL2 hrows hSlt hk9
 go_wp2_with fail
 refine' wpIn_wide.1 (wpIn_rangeFunc_ownG (F := Fence.wide) (n := 4) (w0 := w9) rfl (by omega) (gf := 171) (lb := #[.pointer (some ⟨Bs, 0, none⟩)]) rfl trivial (enters_of Tryz.func171 (by kernel_rfl) rfl)
  HQ.out SameOn.trans (SameOn.put fun k h => (HX.out.2.2 k h).2) (Below.refl _ _) (fun _ => rfl) (GotRows (fun x : { p : fJ // p ∈ ps2 } => x.1.2) ps2.length w9 (ob + 1)) (fun _ _ _ => False) (GotRows.own (Nat.le_refl _)) (fun _ _ _ _ _ h _ _ => h)
  ⟨Nat.zero_le _, Kp.refl _, _, H9.out.2.1, OwnRows.nil _ _⟩ _ ?assign ?body ?done ?stop)
 case assign =>
  intro l x W K hK
  gi_wp2
  exact hK
 case stop =>
  rintro D c pre W _ _ h _
  exact h.elim
 case body =>
  rintro l pre ⟨⟨⟨ax, mx, cx⟩, sp⟩, hp⟩ X hG hpl
  rw [List.length_attach] at hpl
  have hkX := hG.2.1
  have hrow := HX.out.2.1 _ hp
  have hrX := Row.kp' hrow hkX fun g hg hM e => by have e' : g = ob + 1 := e; have hM' : w2.heap.size ≤ g := hM; have := HOB.out.1; omega
  have hsl : sp.length = m := HL.out.2.1 sp (by rw [HX.out.1]; exact List.mem_map.2 ⟨_, hp, rfl⟩)
  have hfew : ps2.length ≤ 65536 := by have h := HL.out.2.2; rw [HX.out.1, List.length_map] at h; exact h
  refine wpIn_mono (Q := kC (fun X' => KeepsFrom w9.heap.size X X' /\ SameOn SB X X' /\ GotRows (fun x : { p : fJ // p ∈ ps2 } => x.1.2) ps2.length w9 (ob + 1) (pre ++ [⟨((ax, mx, cx), sp), hp⟩]) X') (fun _ => False)) ?_ ?_
  ·show Code.wpIn _ _ _ aAp _ _ _
   refine aCz (w := w) (y := ⟨((ax, mx, cx), sp), hp⟩) (sp := sp) (ax := ax) (mx := mx) (cx := cx) (m := m) (H9.out.1.kp hkX (by omega)) (fun i u hu => by
    obtain ⟨b, off, e, c⟩ := HO.out i u hu
    have hb : b < w.heap.size := World.block_lt_of_cell? _ _ c
    exact ⟨b, off, e, hkX.cell (H9.out.2.2.cell c id) (by show ¬ b = ob + 1; have := HOB.out.2; omega)⟩) hm (Row.readsAs hrow).1.1 hsl (Row.readsAs hrX).1.2 rfl ⟨Nat.le_of_lt hpl, by omega⟩ hG hbb9 rfl rfl rfl rfl ?_
   ·intro X' q1 q2 q3 q4
    refine ⟨q1.from _, SameOn.of_kp q2 (fun k hk => by have := (HX.out.2.2 k hk).2; have := hkX.size; omega) (fun k hk hf => ?_), by rw [List.length_append, List.length_singleton]; omega, q3, q4⟩
    have h1 := HX.out.2.2 k hk
    have := HOB.out.1
    rcases hf with hf | hf <;> omega
  ·intro e a W h
   cases e <;> first | exact h | exact h.elim
 case done =>
  rintro D1 ys X2 hD hys hG hd
  have hys' := hys.symm; subst hys'; clear hys
  have hro : ps2.attach.map (fun x : { p : fJ // p ∈ ps2 } => x.1.2) = LL := by
   rw [HX.out.1]
   have h1 : ps2.attach.map (fun x => x.1.2) = (ps2.attach.map Subtype.val).map Prod.snd := by rw [List.map_map]; rfl
   rw [h1, List.attach_map_subtype_val]
  obtain ⟨-, hkX, v, hBv, hOw⟩ := hG
  rw [hro] at hOw
  have hm1 : Marks w9.heap.size X2 [{ target := .collected D1, args := #[] }] := Marks.push (Marks.nil w9.heap.size w9) (uH hkX fun k e => by have e' : k = ob + 1 := e; rw [e']; exact ⟨_, H9.out.2.1, rfl⟩).same hD hD hd
  obtain ⟨ao, cap, ev, -⟩ := hOw.shape
  subst ev
  have b1 : X2.cell? ⟨ob + 1, 0, none⟩ = some (.slice ao LL.length cap) := by rw [hBv.cell']; rfl
  have HSort := qH (aHx hOw HL.out.1 (fun x hx => by rw [HL.out.2.1 x hx]; exact hm) HL.out.2.2)
  have hxX : Ext w X2 := H9.out.2.2.trans' hkX fun i hi e => by have e' : i = ob + 1 := e; have := HOB.out.2; omega
  have HZ := qH (And.intro hkX (And.intro hBv (And.intro hOw (And.intro hm1 hxX))))
  obtain ⟨nL, enL⟩ : ∃ n, LL.length = n := ⟨_, rfl⟩
  rw [enL] at b1 HSort HZ
  clear hkX hBv hOw hm1 hxX hd hD hro
  go_wp2_with fail
  refine HSort.out.mono ?_
  rintro e X3 ⟨rfl, hO3, k3⟩
  have hnb : ¬ (Value.slice ao nL cap).ownBlock = some (ob + 1) := fun h => by
   obtain ⟨ps, _, h2, _⟩ := HZ.out.2.2.1
   have h3 : w9.heap.size ≤ ob + 1 := h2.block _ h
   omega
  have b3 : X3.cell? ⟨ob + 1, 0, none⟩ = some (.slice ao nL cap) := k3.cell b1 hnb
  have HComp := qH (aAd hO3 HL.out.1 m HL.out.2.1 hm HL.out.2.2)
  have H3 := qH (And.intro k3 hO3)
  clear k3 hO3 hnb b1
  go_wp2_with fail
  refine HComp.out.mono ?_
  rintro e X4 ⟨v4, rfl, k4, hO4⟩
  have H4 := qH (And.intro k4 hO4)
  clear k4 hO4 b3
  go_wp2_with fail
  show Q .ret _ _
  rw [EQ.out]
  have hcell : ∀ W : World, OwnRows w9.heap.size W (.slice ao nL cap) LL -> ∀ k, (Value.slice ao nL cap).ownBlock = some k -> w9.heap.size ≤ k /\ fK W k := fun W h k hk => by
   obtain ⟨ps, _, h2, _⟩ := h
   exact ⟨h2.block k hk, h2.cellB k hk⟩
  refine aH6 (lo := w9.heap.size) ((HZ.out.2.2.2.1.others (uH H3.out.1 fun k hk => (hcell _ HZ.out.2.2.1 k hk).2)).others (uH H4.out.1 fun k hk => (hcell _ H3.out.2 k hk).2)) ((HZ.out.2.2.2.2.trans' H3.out.1 fun i hi h => by have := (hcell _ HZ.out.2.2.1 i h).1; have := HOB.out.2; omega).trans' H4.out.1 fun i hi h => by have := (hcell _ H3.out.2 i h).1; have := HOB.out.2; omega) (by have := HOB.out.2; omega) rfl fun w' kx => ?_
  exact (H4.out.2.mono (by have := HOB.out.2; omega)).kpc kx fun g h => h.2
end Go.Proofs.YtinnmeiphbdogaaGreat
/- How many constants a level has by now. -/
namespace Go.Proofs.YtinnmeiphbdogaaGreat
open Go.RowKit Go.Shelf
set_option maxHeartbeats 1000000 in
theorem sY {w : World} {tb b off i d lc kn kc n : Nat} {ka : Option Addr} (t0 : w.cell? ⟨tb, 0, none⟩ = some (.slice (some ⟨b, off, none⟩) d lc)) (hi : i < d) (l0 : w.cell? ⟨b, off + i * 2, none⟩ = some (.slice ka kn kc)) :
 Calls Tryz.prog 178 #[.pointer (some ⟨tb, 0, none⟩), .int .i64 i, .int .i64 n] w (RetN w fun w' v => v = .int .i64 kn) := by
 go_enter Tryz.func178, Tryz.ntmps178
 go_wp2
 go_ret
 exact RetN.mk (Kp.refl _) rfl
set_option maxHeartbeats 1000000 in
theorem qO {w : World} {tb i d lc n : Nat} {la : Option Addr} (t0 : w.cell? ⟨tb, 0, none⟩ = some (.slice la d lc)) (hi : ¬ i < d) :
 Calls Tryz.prog 178 #[.pointer (some ⟨tb, 0, none⟩), .int .i64 i, .int .i64 n] w (RetN w fun w' v => v = .int .i64 n) := by
 go_enter Tryz.func178, Tryz.ntmps178
 go_wp2
 go_ret
 exact RetN.mk (Kp.refl _) rfl
end Go.Proofs.YtinnmeiphbdogaaGreat
/- trie.Build: the levels while they are made. -/
namespace Go.Proofs.YtinnmeiphbdogaaGreat
open Go.RowKit Go.Shelf
attribute [local go_sem] Oper.semAt_some
def jZ (kv fv : Nat -> Value) (d : Nat) : List Value := (List.range d).flatMap fun i => [kv i, fv i]
theorem pY (kv fv : Nat -> Value) (d : Nat) : (jZ kv fv d).length = d * 2 := by
 induction d with
 | zero => rfl
 | succ d ih =>
  unfold jZ at *
  rw [List.range_succ, List.flatMap_append, List.length_append, ih]
  simp; omega
theorem iH (kv fv : Nat -> Value) (d : Nat) : jZ kv fv (d + 1) = jZ kv fv d ++ [kv d, fv d] := by
 unfold jZ
 rw [List.range_succ, List.flatMap_append]; simp
theorem cJ (kv fv : Nat -> Value) {d i : Nat} (hi : i < d) : (jZ kv fv d)[i * 2]? = some (kv i) /\ (jZ kv fv d)[i * 2 + 1]? = some (fv i) := by
 induction d with
 | zero => omega
 | succ d ih =>
  rw [iH]
  by_cases h : i < d
  ·have hl := pY kv fv d
   rw [List.getElem?_append_left (by omega), List.getElem?_append_left (by omega)]
   exact ih h
  ·obtain rfl : i = d := by omega
   have hl := pY kv fv i
   rw [List.getElem?_append_right (by omega), List.getElem?_append_right (by omega), hl, Nat.sub_self, show i * 2 + 1 - i * 2 = 1 by omega]
   exact ⟨rfl, rfl⟩
theorem uE {kv fv kv' fv' : Nat -> Value} {d : Nat} (h : ∀ i, i < d -> kv i = kv' i /\ fv i = fv' i) : jZ kv fv d = jZ kv' fv' d := by
 unfold jZ
 rw [List.flatMap_def, List.flatMap_def, List.map_congr_left fun i hi => by
  obtain ⟨h1, h2⟩ := h i (List.mem_range.1 hi)
  rw [h1, h2]]
theorem aGj (kv fv : Nat -> Value) {d i : Nat} (hi : i < d) (v : Value) : (jZ kv fv d).set (i * 2) v = jZ (bP kv i v) fv d := by
 induction d with
 | zero => omega
 | succ d ih =>
  rw [iH, iH]
  have hl := pY kv fv d
  by_cases h : i < d
  ·rw [List.set_append_left _ _ (by omega), ih h, aH _ _ (by omega)]
  ·obtain rfl : i = d := by omega
   rw [List.set_append_right _ _ (by omega), hl, Nat.sub_self, List.set_cons_zero, upd_same, uE (kv' := kv) (fv' := fv) (kv := bP kv i v) (fv := fv) fun j hj => ⟨aH _ _ (by omega), rfl⟩]
theorem aGk (kv fv : Nat -> Value) {d i : Nat} (hi : i < d) (v : Value) : (jZ kv fv d).set (i * 2 + 1) v = jZ kv (bP fv i v) d := by
 induction d with
 | zero => omega
 | succ d ih =>
  rw [iH, iH]
  have hl := pY kv fv d
  by_cases h : i < d
  ·rw [List.set_append_left _ _ (by omega), ih h, aH _ _ (by omega)]
  ·obtain rfl : i = d := by omega
   rw [List.set_append_right _ _ (by omega), hl, show i * 2 + 1 - i * 2 = 1 by omega, List.set_cons_succ, List.set_cons_zero, upd_same, uE (kv' := kv) (fv' := fv) (kv := kv) (fv := bP fv i v) fun j hj => ⟨rfl, aH _ _ (by omega)⟩]
structure LevSt (w0 w : World) (tb lb d n : Nat) (ks : Nat -> List ByteArray) (fs : Nat -> List Int) (kv fv : Nat -> Value) : Prop where
 tri : Blk w tb [.slice (some ⟨lb, 0, none⟩) d d, .int .i64 n, .bool true] 241
 blk : Blk w lb (jZ kv fv d) 244
 keys : ∀ i, i < d -> Row w 9 1 (kv i) (ks i).length (strs (ks i)) (New w0)
 froms : ∀ i, i < d -> Row w 3 1 (fv i) (fs i).length (ints (fs i)) (New w0)
 kfar : ∀ i j, i < d -> j < d -> i ≠ j -> ∀ g, (kv i).ownBlock = some g -> (kv j).ownBlock ≠ some g
 ffar : ∀ i j, i < d -> j < d -> i ≠ j -> ∀ g, (fv i).ownBlock = some g -> (fv j).ownBlock ≠ some g
 new : w0.heap.size ≤ tb /\ w0.heap.size ≤ lb
 kp : Ext w0 w
theorem rI : 241 ≠ 244 /\ 241 ≠ 9 /\ 241 ≠ 3 /\ 244 ≠ 9 /\ 244 ≠ 3 /\ 9 ≠ 3 := by decide
section
variable {w0 w w' : World} {tb lb d n : Nat} {ks : Nat -> List ByteArray} {fs : Nat -> List Int} {kv fv : Nat -> Value}
theorem LevSt.ext (h : LevSt w0 w tb lb d n ks fs kv fv) (hk : Ext w w') : LevSt w0 w' tb lb d n ks fs kv fv :=
 ⟨h.tri.ext hk, h.blk.ext hk, fun i hi => (h.keys i hi).ext hk, fun i hi => (h.froms i hi).ext hk, h.kfar, h.ffar, h.new, h.kp.trans hk⟩
theorem LevSt.congr {ks' : Nat -> List ByteArray} {fs' : Nat -> List Int} (h : LevSt w0 w tb lb d n ks fs kv fv) (h1 : ∀ i, i < d -> ks i = ks' i) (h2 : ∀ i, i < d -> fs i = fs' i) : LevSt w0 w tb lb d n ks' fs' kv fv :=
 ⟨h.tri, h.blk, fun i hi => by rw [<- h1 i hi]; exact h.keys i hi, fun i hi => by rw [<- h2 i hi]; exact h.froms i hi, h.kfar, h.ffar, h.new, h.kp⟩
theorem LevSt.putK (h : LevSt w0 w tb lb d n ks fs kv fv) {i : Nat} (hi : i < d) {x : ByteArray} {v' : Value} (hr : Row w' 9 1 v' ((ks i).length + 1) (strs (ks i) ++ [.string x]) (fun g => (kv i).ownBlock = some g \/ w.heap.size ≤ g)) (hk : Kp (fun g => (kv i).ownBlock = some g) w w') :
 LevSt w0 (w'.setCell ⟨lb, i * 2, none⟩ v') tb lb d n (bP ks i (ks i ++ [x])) fs (bP kv i v') fv := by
 obtain ⟨t1, t2, t3, t4, t5, t6⟩ := rI
 have ks' : Kp (fun k => k = lb) w' (w'.setCell ⟨lb, i * 2, none⟩ v') := Kp.setCell (F := fun k => k = lb) (p := ⟨lb, i * 2, none⟩) (Kp.refl w') (fun _ => rfl) _
 have own : ∀ g, (kv i).ownBlock = some g -> ∃ cs, Blk w g cs 9 := fun g hg => aP (h.keys i hi) hg
 have htri : Blk w' tb _ 241 := h.tri.kp hk fun hg => by obtain ⟨cs, hb⟩ := own _ hg; exact t2 (aM h.tri hb)
 have hblk : Blk w' lb (jZ kv fv d) 244 := h.blk.kp hk fun hg => by obtain ⟨cs, hb⟩ := own _ hg; exact t4 (aM h.blk hb)
 have hkp : Ext w0 w' := h.kp.trans' hk fun g hg e => by have h2 : w0.heap.size ≤ g := (h.keys i hi).block g e; omega
 refine ⟨htri.kp ks' fun e => t1 (by have e' : tb = lb := e; rw [e'] at htri; exact aM htri hblk), ?_, fun j hj => ?_, fun j hj => ?_, fun j l hj hl hne g h1 h2 => ?_, h.ffar, h.new, hkp.trans' ks' fun g hg e => by have e' : g = lb := e; have := h.new.2; omega⟩
 ·rw [<- aGj kv fv hi]; exact hblk.set _ _
 ·by_cases e : j = i
  ·subst e
   rw [upd_same, upd_same, List.length_append, List.length_singleton]
   have e1 : strs (ks j ++ [x]) = strs (ks j) ++ [.string x] := by simp [strs]
   rw [e1]
   refine (hr.kp' ks' fun g hg _ e => ?_).mono fun g hg => ?_
   ·obtain ⟨cs, hb⟩ := aP hr hg
    have e' : g = lb := e
    rw [e'] at hb
    exact t4 (aM hblk hb)
   ·rcases hg with hg | hg
    ·exact (h.keys j hi).block g hg
    ·exact Nat.le_trans h.kp.size hg
  ·rw [aH _ _ e, aH _ _ e]
   have h1 := (h.keys j hj).kp' hk fun g hg _ hf => h.kfar i j hi hj (fun e2 => e e2.symm) g hf hg
   exact h1.kp' ks' fun g hg _ e => by
    obtain ⟨cs, hb⟩ := aP h1 hg
    have e' : g = lb := e
    rw [e'] at hb
    exact t4 (aM hblk hb)
 ·have h1 := (h.froms j hj).kp' hk fun g hg _ hf => by
   obtain ⟨cs, hb⟩ := own _ hf
   obtain ⟨cs2, hb2⟩ := aP (h.froms j hj) hg
   exact t6 (aM hb hb2)
  exact h1.kp' ks' fun g hg _ e => by
   obtain ⟨cs, hb⟩ := aP h1 hg
   have e' : g = lb := e
   rw [e'] at hb
   exact t5 (aM hblk hb)
 ·by_cases e1 : j = i
  ·subst e1
   rw [upd_same] at h1
   rw [aH _ _ (fun e => hne e.symm)] at h2
   rcases hr.block g h1 with h3 | h3
   ·exact h.kfar j l hj hl hne g h3 h2
   ·have := (h.keys l hl).lt g h2; omega
  ·rw [aH _ _ e1] at h1
   by_cases e2 : l = i
   ·subst e2
    rw [upd_same] at h2
    rcases hr.block g h2 with h3 | h3
    ·exact h.kfar j l hj hl hne g h1 h3
    ·have := (h.keys j hj).lt g h1; omega
   ·rw [aH _ _ e2] at h2
    exact h.kfar j l hj hl hne g h1 h2
theorem LevSt.putF (h : LevSt w0 w tb lb d n ks fs kv fv) {i : Nat} (hi : i < d) {x : Int} {v' : Value} (hr : Row w' 3 1 v' ((fs i).length + 1) (ints (fs i) ++ [.int .i64 x]) (fun g => (fv i).ownBlock = some g \/ w.heap.size ≤ g)) (hk : Kp (fun g => (fv i).ownBlock = some g) w w') :
 LevSt w0 (w'.setCell ⟨lb, i * 2 + 1, none⟩ v') tb lb d n ks (bP fs i (fs i ++ [x])) kv (bP fv i v') := by
 obtain ⟨t1, t2, t3, t4, t5, t6⟩ := rI
 have ks' : Kp (fun k => k = lb) w' (w'.setCell ⟨lb, i * 2 + 1, none⟩ v') := Kp.setCell (F := fun k => k = lb) (p := ⟨lb, i * 2 + 1, none⟩) (Kp.refl w') (fun _ => rfl) _
 have own : ∀ g, (fv i).ownBlock = some g -> ∃ cs, Blk w g cs 3 := fun g hg => aP (h.froms i hi) hg
 have htri : Blk w' tb _ 241 := h.tri.kp hk fun hg => by obtain ⟨cs, hb⟩ := own _ hg; exact t3 (aM h.tri hb)
 have hblk : Blk w' lb (jZ kv fv d) 244 := h.blk.kp hk fun hg => by obtain ⟨cs, hb⟩ := own _ hg; exact t5 (aM h.blk hb)
 have hkp : Ext w0 w' := h.kp.trans' hk fun g hg e => by have h2 : w0.heap.size ≤ g := (h.froms i hi).block g e; omega
 refine ⟨htri.kp ks' fun e => t1 (by have e' : tb = lb := e; rw [e'] at htri; exact aM htri hblk), ?_, fun j hj => ?_, fun j hj => ?_, h.kfar, fun j l hj hl hne g h1 h2 => ?_, h.new, hkp.trans' ks' fun g hg e => by have e' : g = lb := e; have := h.new.2; omega⟩
 ·rw [<- aGk kv fv hi]; exact hblk.set _ _
 ·have h1 := (h.keys j hj).kp' hk fun g hg _ hf => by
   obtain ⟨cs, hb⟩ := own _ hf
   obtain ⟨cs2, hb2⟩ := aP (h.keys j hj) hg
   exact t6 (aM hb2 hb)
  exact h1.kp' ks' fun g hg _ e => by
   obtain ⟨cs, hb⟩ := aP h1 hg
   have e' : g = lb := e
   rw [e'] at hb
   exact t4 (aM hblk hb)
 ·by_cases e : j = i
  ·subst e
   rw [upd_same, upd_same, List.length_append, List.length_singleton]
   have e1 : ints (fs j ++ [x]) = ints (fs j) ++ [.int .i64 x] := by simp [ints]
   rw [e1]
   refine (hr.kp' ks' fun g hg _ e => ?_).mono fun g hg => ?_
   ·obtain ⟨cs, hb⟩ := aP hr hg
    have e' : g = lb := e
    rw [e'] at hb
    exact t5 (aM hblk hb)
   ·rcases hg with hg | hg
    ·exact (h.froms j hi).block g hg
    ·exact Nat.le_trans h.kp.size hg
  ·rw [aH _ _ e, aH _ _ e]
   have h1 := (h.froms j hj).kp' hk fun g hg _ hf => h.ffar i j hi hj (fun e2 => e e2.symm) g hf hg
   exact h1.kp' ks' fun g hg _ e => by
    obtain ⟨cs, hb⟩ := aP h1 hg
    have e' : g = lb := e
    rw [e'] at hb
    exact t5 (aM hblk hb)
 ·by_cases e1 : j = i
  ·subst e1
   rw [upd_same] at h1
   rw [aH _ _ (fun e => hne e.symm)] at h2
   rcases hr.block g h1 with h3 | h3
   ·exact h.ffar j l hj hl hne g h3 h2
   ·have := (h.froms l hl).lt g h2; omega
  ·rw [aH _ _ e1] at h1
   by_cases e2 : l = i
   ·subst e2
    rw [upd_same] at h2
    rcases hr.block g h2 with h3 | h3
    ·exact h.ffar j l hj hl hne g h1 h3
    ·have := (h.froms j hj).lt g h1; omega
   ·rw [aH _ _ e2] at h2
    exact h.ffar j l hj hl hne g h1 h2
theorem LevSt.done {W : aD} (h : LevSt w0 w tb lb d n ks fs kv fv) (hnW : n = W.length) (hd : d ≤ 64) (hW : W.length ≤ 65536) (hk : ∀ i, i < d -> ks i = bM W d i W.length) (hf : ∀ i, i < d -> fs i = bU W d i W.length ++ [(aQ W d (i + 1) W.length : Int)]) :
 Fast w0.heap.size w.heap.size w fun X => TrieAt X tb W d := fun X hX => by
 subst hnW
 have noF : ∀ k, w0.heap.size ≤ k -> k < w.heap.size -> ¬ ¬ (w0.heap.size ≤ k /\ k < w.heap.size) := fun k h1 h2 h3 => h3 ⟨h1, h2⟩
 have htri := h.tri.kp hX (noF _ h.new.1 h.tri.lt)
 have hblk := h.blk.kp hX (noF _ h.new.2 h.blk.lt)
 refine ⟨⟨some ⟨lb, 0, none⟩, d, by rw [htri.cell']; rfl, by rw [htri.cell']; rfl, by rw [htri.cell']; rfl, fun i hi => ⟨lb, 0, rfl, ?_⟩⟩, by omega, by omega⟩
 have hkr := (h.keys i hi).kp' hX fun g hg hM => noF g hM ((h.keys i hi).lt g hg)
 have hfr := (h.froms i hi).kp' hX fun g hg hM => noF g hM ((h.froms i hi).lt g hg)
 rw [hk i hi, eJ] at hkr
 rw [hf i hi, List.length_append, gB, List.length_singleton] at hfr
 obtain ⟨ka, kc, e1, c1, l1⟩ := hkr.shape
 obtain ⟨fa, fc, e2, c2, l2⟩ := hfr.shape
 refine ⟨⟨ka, kc, fa, fc, ?_, ?_, l1, c1, c2⟩⟩
 ·rw [hblk.cell', Nat.zero_add, (cJ kv fv hi).1, e1]
 ·rw [hblk.cell', Nat.zero_add, (cJ kv fv hi).2, e2]
end
end Go.Proofs.YtinnmeiphbdogaaGreat
/- trie.Build: a table's trie, its columns in their order. -/
namespace Go.Proofs.YtinnmeiphbdogaaGreat
open Go.RowKit Go.Shelf
attribute [local go_sem] Oper.semAt_some
theorem yK (tb : Nat) (w : World) : (binOp .eql 88 (.pointer (some ⟨tb, 0, none⟩)) (.pointer none)).run Tryz.prog w = .ok (.bool false) w := by kernel_rfl
def fL (n : Nat) : List Value := ints ((List.range n).map fun (v : Nat) => (v : Int))
theorem wT {n i : Nat} (hi : i < n) : (fL n)[i]? = some (.int .i64 i) := by
 unfold fL ints
 rw [List.map_map, List.getElem?_map, List.getElem?_range hi]; rfl
set_option maxRecDepth 100000 in
theorem zC {w : World} {oa : Option Addr} {i c n : Nat} (h : CellsAt w oa (fL n)) (hi : i ≤ n) (hn : n ≤ 1048576) : Calls Tryz.prog 176 #[.slice oa i c, .int .i64 i] w (RetN w fun w' v => v = .bool false) := by
 have HI := qH (show Calls Tryz.prog 198 #[.slice oa i c, .int .i64 i] w (RetN w fun w' v => v = .int .i64 (-1)) from by
  have HE := qH h
  clear h
  go_enter Tryz.func198, Tryz.ntmps198
  go_wp2
  go_loopw [8] (fun jv wr => ∃ j : Nat, j ≤ i /\ jv = .int .i64 j /\ Hid (Ext w wr)) (fun jv _ => i - (intOf jv).toNat)
  case atStart => exact ⟨0, Nat.zero_le _, rfl, qH (Kp.refl w)⟩
  case round =>
   obtain ⟨j, hj, rfl, hex⟩ := hrel
   by_cases hlt : j < i
   ·obtain ⟨b, off, eao, hc0⟩ := (HE.out.ext hex.out) j (.int .i64 j) (wT (by omega))
    subst eao
    have hb : ((i : Int) == (j : Int)) = false := by simp; omega
    go_wp2
    go_roundw
    case rel => exact ⟨j + 1, by omega, by first | rfl | (congr 1; done) | (congr 1; omega), hex⟩
    case measure => simp [intOf]; omega
   ·go_wp2
    go_ret
    exact RetN.mk hex.out rfl)
 clear h
 go_enter Tryz.func176, Tryz.ntmps176
 go_wp2_with fail
 refine HI.out.mono ?_
 rintro e w1 ⟨v, rfl, hk, rfl⟩
 go_wp2
 go_ret
 exact RetN.mk hk rfl
theorem aHr {S : Nat -> Prop} {w W : World} {ao : Option Addr} {LL : aD} {n : Nat} {ss : List ByteArray} (h : RowsIn S w ao LL) (hx : Ext w W) (hn : LL[n]? = some ss) : ∃ b off xa xc, ao = some ⟨b, off, none⟩ /\ W.cell? ⟨b, off + n, none⟩ = some (.slice xa ss.length xc) /\ CellsAt W xa (strs ss) := by
 obtain ⟨ps, rfl, hc, -, hall⟩ := h
 rw [List.getElem?_map] at hn
 cases hp : ps[n]? with
 | none => rw [hp] at hn; cases hn
 | some p =>
  rw [hp] at hn
  cases hn
  obtain ⟨b, off, e, c⟩ := hc n (.slice p.1.1 p.1.2.1 p.1.2.2) (by unfold eG; rw [List.getElem?_map, hp]; rfl)
  obtain ⟨⟨h1, h2⟩, -⟩ := hall p (List.mem_of_getElem? hp)
  rw [h1] at c
  exact ⟨b, off, _, _, e, hx.cell c id, h2.ext hx⟩
def aKw (w0 : World) (tb lb m nL : Nat) (LL : aD) (jv : Value) (W : World) : Prop := ∃ (n : Nat) (kv fv : Nat -> Value), n ≤ nL /\ jv = .int .i64 n /\ Hid (LevSt w0 W tb lb m nL (fun i => bM LL m i n) (fun i => bU LL m i n) kv fv)
def EndTo (w0 : World) (tb lb m nL : Nat) (LL : aD) (jv : Value) (W : World) : Prop := ∃ (i : Nat) (kv fv : Nat -> Value), i ≤ m /\ jv = .int .i64 i /\
 Hid (LevSt w0 W tb lb m nL (fun j => bM LL m j nL) (fun j => bU LL m j nL ++ if j < i then [(aQ LL m (j + 1) nL : Int)] else []) kv fv)
def WayIn (w0 : World) (tb lb m nL n : Nat) (LL : aD) (bv jv : Value) (W : World) : Prop := ∃ (i : Nat) (kv fv : Nat -> Value), i ≤ m /\ jv = .int .i64 i /\ bv = .bool (cQ LL i n) /\
 Hid (LevSt w0 W tb lb m nL (fun j => bM LL m j (if j < i then n + 1 else n)) (fun j => bU LL m j (if j < i then n + 1 else n)) kv fv)
theorem aIl (v : Value) (d : Nat) : List.replicate (d * 2) v = jZ (fun _ => v) (fun _ => v) d := by
 induction d with
 | zero => rfl
 | succ d ih =>
  rw [iH, <- ih, show (d + 1) * 2 = d * 2 + 2 by omega, <- List.replicate_append_replicate]; rfl
theorem aGo (W : aD) (d i : Nat) : bM W d i 0 = [] := by
 unfold bM aU
 split <;> rfl
theorem aGs (W : aD) (d i : Nat) : bU W d i 0 = [] := by
 unfold bU aU
 split <;> rfl
theorem aGi {w0 w : World} {tb lb d n : Nat} {W : aD} (hB : Blk w lb (List.replicate (d * 2) (.slice none 0 0)) 244) (hT : Blk w tb [.slice (some ⟨lb, 0, none⟩) d d, .int .i64 n, .bool true] 241) (hk : Ext w0 w) (h1 : w0.heap.size ≤ tb) (h2 : w0.heap.size ≤ lb) :
 LevSt w0 w tb lb d n (fun i => bM W d i 0) (fun i => bU W d i 0) (fun _ => .slice none 0 0) (fun _ => .slice none 0 0) :=
 ⟨hT, by rw [aIl] at hB; exact hB, fun i hi => by rw [aGo]; exact Row.nil _ _ _ _, fun i hi => by rw [aGs]; exact Row.nil _ _ _ _, fun _ _ _ _ _ g h => (by cases h), fun _ _ _ _ _ g h => (by cases h), ⟨h1, h2⟩, hk⟩
theorem aD3 : cO Tryz.prog 239 244 2 48 (.agg #[.slice none 0 0, .slice none 0 0]) := ⟨by kernel_rfl, by kernel_rfl, rfl, by decide⟩
set_option maxRecDepth 100000 in
set_option maxHeartbeats 4000000 in
theorem aG8 {S : Nat -> Prop} {w : World} {rb m oc : Nat} {iv : Value} {oa : Option Addr} {LL : aD} (hR : RowsAt S w rb iv m LL) (hst : Strict aC LL) (hlen : ∀ x ∈ LL, x.length = m) (ho : CellsAt w oa (fL m)) (hm : m ≤ 64) (hoc : m ≤ oc) (hn : LL.length ≤ 65536) :
 Calls Tryz.prog 151 #[.pointer (some ⟨rb, 0, none⟩), .slice oa m oc] w (RetN w fun w' v => ∃ tb, v = .tuple #[.pointer (some ⟨tb, 0, none⟩), .int .i64 0] /\ w.heap.size ≤ tb /\ Fast w.heap.size w'.heap.size w' fun X => TrieAt X tb LL m) := by
 have HAr := qH (fun W (hW : Ext w W) => aAk (z := False) (hR.ext hW).q)
 have HPr := qH (fun W (hW : Ext w W) => vO (oc := oc) (hR.ext hW) hst hlen (ho.ext hW) hm hn)
 have HCo := qH (fun W (hW : Ext w W) (i c : Nat) (hi : i ≤ m) => zC (c := c) (ho.ext hW) hi (by omega))
 have HO := qH ho
 have HL := qH (And.intro hst (And.intro hlen hn))
 have hnl := yK rb w
 clear hR hst hlen ho hn
 go_enter Tryz.func151, Tryz.ntmps151
 go_wp2
 clear hnl
 go_loopw [21] (fun jv wr => ∃ j : Nat, j ≤ m /\ jv = .int .i64 j /\ Hid (Ext w wr)) (fun jv _ => m - (intOf jv).toNat)
 case atStart => exact ⟨0, Nat.zero_le _, rfl, qH (Kp.refl w)⟩
 case round =>
  obtain ⟨j, hj, rfl, hex⟩ := hrel
  by_cases hlt : j < m
  ·obtain ⟨b, off, eao, hc0⟩ := (HO.out.ext hex.out) j (.int .i64 j) (wT hlt)
   subst eao
   have i1 : (j : Int) < (m : Int) := by omega
   have i0 : ¬ (j : Int) < 0 := by omega
   have i2 : (j : Int) ≤ (oc : Int) := by omega
   have hjm : j ≤ m := hj
   clear hj
   go_wp2_with fail
   refine (HAr.out wr hex.out).mono ?_
   rintro e w' ⟨rfl, rfl⟩
   have i3 : ¬ m ≤ j := by omega
   go_wp2_with fail
   refine (HCo.out wr hex.out j oc hjm).mono ?_
   rintro e w2 ⟨v, rfl, hk, rfl⟩
   have HX := qH (hex.out.trans hk)
   clear hk hc0
   go_wp2
   go_roundw
   case rel => exact ⟨j + 1, by omega, by first | rfl | (congr 1; done) | (congr 1; omega), HX⟩
   case measure => simp [intOf]; omega
  ·obtain rfl : m = j := by omega
   have hmj := hj
   clear hj hlt
   go_wp2_with fail
   refine (HPr.out wr hex.out).mono ?_
   rintro e w3 ⟨v3, rfl, hk3, hO3⟩
   have H3 := qH (And.intro (hex.out.trans hk3) (And.intro hex.out.size hO3))
   obtain ⟨nL, enL⟩ : ∃ n, LL.length = n := ⟨_, rfl⟩
   obtain ⟨ao, cap, ev, hrows⟩ := hO3.shape
   rw [enL] at ev
   subst ev
   have hmk := iU (P := Tryz.prog) aD3 (c := .slice none 0 0) rfl m (by omega) (by unfold maxLen; omega) w3
   clear hk3 hO3 hex hmj
   have HN := qH enL
   have HRI := qH hrows
   clear hrows enL
   go_wp2
   clear hmk
   obtain ⟨lb, elb⟩ : ∃ x, w3.heap.size = x := ⟨_, rfl⟩
   obtain ⟨X1, eX1⟩ : ∃ x, w3.alloc (.cells (Array.replicate (m * 2) (.slice none 0 0)) 244) = x := ⟨_, rfl⟩
   rw [elb, eX1]
   obtain ⟨X2, eX2⟩ : ∃ x, X1.alloc (.cells #[.slice (some ⟨lb, 0, none⟩) m m, .int .i64 nL, .bool true] 241) = x := ⟨_, rfl⟩
   rw [eX2]
   have x1 : Ext w3 X1 := by rw [<- eX1]; exact (Kp.refl w3).alloc _
   have x2 : Ext X1 X2 := by rw [<- eX2]; exact (Kp.refl X1).alloc _
   have hs1 : X1.heap.size = lb + 1 := by rw [<- eX1, aJ, elb]
   have hB1 : Blk X1 lb (List.replicate (m * 2) (.slice none 0 0)) 244 := by
    have h := Blk.new w3 (List.replicate (m * 2) (.slice none 0 0)) 244
    rw [List.toArray_replicate, eX1, elb] at h
    exact h
   have hB2 : Blk X2 (lb + 1) [.slice (some ⟨lb, 0, none⟩) m m, .int .i64 nL, .bool true] 241 := by
    have h := Blk.new X1 [.slice (some ⟨lb, 0, none⟩) m m, .int .i64 nL, .bool true] 241
    rw [hs1] at h
    rw [<- eX2]; exact h
   have HL2 := qH (show LevSt w3 X2 (lb + 1) lb m nL (fun i => bM LL m i 0) (fun i => bU LL m i 0) (fun _ => .slice none 0 0) (fun _ => .slice none 0 0) from aGi (hB1.ext x2) hB2 (x1.trans x2) (by rw [<- elb]; omega) (by rw [<- elb]; exact Nat.le_refl _))
   obtain ⟨tb, etb⟩ : ∃ x, lb + 1 = x := ⟨_, rfl⟩
   rw [etb] at HL2 ⊢
   have HG := qH (And.intro elb etb)
   clear elb etb eX1 eX2 x1 x2 hs1 hB1 hB2
   go_loopw [54] (fun jv wk => aKw w3 tb lb m nL LL jv wk) (fun jv _ => nL - (intOf jv).toNat)
   case atStart => exact ⟨0, _, _, Nat.zero_le _, rfl, HL2⟩
   case round =>
    obtain ⟨n, kv, fv, hn, rfl, hLv⟩ := hrel
    by_cases hltn : n < nL
    ·obtain ⟨ss, hss⟩ : ∃ ss, LL[n]? = some ss := ⟨_, qG (by rw [HN.out]; exact hltn)⟩
     have hsl : ss.length = m := HL.out.2.1 ss (List.mem_of_getElem? hss)
     obtain ⟨wb, wo, xa, xc, eao, wc3, hxs⟩ := aHr HRI.out (Kp.refl w3) hss
     subst eao
     rw [hsl] at wc3
     have wc := hLv.out.kp.cell wc3 id
     have HSS := qH (And.intro hss hsl)
     have HXS := qH hxs
     have HBZ := qH (show Value.bool (((n : Int)) == 0) = .bool (cQ LL 0 n) from by rw [aC3]; congr 1; cases n <;> simp <;> omega)
     clear hss hsl hxs hn
     generalize hwk : wr = W at *
     clear hwk
     go_wp2
     rw [HBZ.out]
     go_loopw [12, 63] (fun bv jv wk => WayIn w3 tb lb m nL n LL bv jv wk) (fun _ jv _ => m - (intOf jv).toNat)
     case atStart => exact ⟨0, kv, fv, Nat.zero_le _, rfl, rfl, qH (hLv.out.congr (fun i hi => by rw [if_neg (by omega)]) (fun i hi => by rw [if_neg (by omega)]))⟩
     case round =>
      obtain ⟨i, kv2, fv2, hi, rfl, rfl, hL2⟩ := hrel
      by_cases hlti : i < m
      ·obtain ⟨x, hx⟩ : ∃ x, ss[i]? = some x := ⟨_, qG (by rw [HSS.out.2]; exact hlti)⟩
       obtain ⟨xb, xo, exa, xc0⟩ := (HXS.out.ext hL2.out.kp) i (.string x) (by simp [strs, hx])
       subst exa
       have HXI := qH hx
       clear hx hi
       cases hp : cQ LL i n
       ·have hn0 : 0 < n := by
         rcases Nat.eq_zero_or_pos n with h | h
         ·rw [h, aAr] at hp; cases hp
         ·exact h
        obtain ⟨k, ek⟩ : ∃ k, k = n - 1 := ⟨_, rfl⟩
        have hkn : k < nL := by omega
        obtain ⟨pp, hpp⟩ : ∃ pp, LL[k]? = some pp := ⟨_, qG (by rw [HN.out]; exact hkn)⟩
        have hpl : pp.length = m := HL.out.2.1 pp (List.mem_of_getElem? hpp)
        obtain ⟨pb, po, pa, pc, epo, pc0, hps⟩ := aHr HRI.out hL2.out.kp hpp
        cases epo
        rw [hpl] at pc0
        obtain ⟨y, hy⟩ : ∃ y, pp[i]? = some y := ⟨_, qG (by rw [hpl]; exact hlti)⟩
        obtain ⟨yb, yo, eya, yc0⟩ := hps i (.string y) (by simp [strs, hy])
        subst eya
        have hnext : cQ LL (i + 1) n = decide (y ≠ x) := by
         have h1 : i < pp.length := by rw [hpl]; exact hlti
         have h2 : i < ss.length := by rw [HSS.out.2]; exact hlti
         rw [aC4 hn0 (by rw [<- ek]; exact hpp) HSS.out.1 h1 h2, hp, Bool.false_or]
         have e1 : pp[i] = y := by rw [qG h1] at hy; exact Option.some.inj hy
         have e2 : ss[i] = x := by have h := HXI.out; rw [qG h2] at h; exact Option.some.inj h
         rw [e1, e2]
        have hwk : IntKind.i64.wrap ((n : Int) - 1) = (k : Int) := by rw [IntWalk.i64_in _ (by have := HN.out; have := HL.out.2.2; omega)]; omega
        have hkn2 : (k : Int) < (nL : Int) := by omega
        have hkn3 : (0 : Int) ≤ (k : Int) := by omega
        have hkn4 : ((k : Int)).toNat = k := by omega
        have HK := qH (And.intro ek hn0)
        clear ek hn0 hpp hpl hps hy
        by_cases hq : y = x
        ·have HPF := qH (show cQ LL (i + 1) n = false from by rw [hnext]; simp [hq])
         subst hq
         have hb := str_eq y
         clear hnext
         go_wp2
         go_roundw
         case rel => exact ⟨i + 1, kv2, fv2, by omega, by first | rfl | (congr 1; done) | (congr 1; omega), by rw [HPF.out], qH (hL2.out.congr (fun j hj => by
          by_cases e : j = i
          ·subst e
           rw [if_neg (Nat.lt_irrefl j), if_pos (by omega), keys_succ hlti HSS.out.1 HXI.out, if_neg (by rw [HPF.out]; simp), List.append_nil]
          ·by_cases h : j < i
           ·rw [if_pos h, if_pos (by omega)]
           ·rw [if_neg h, if_neg (by omega)]) (fun j hj => by
          by_cases e : j = i
          ·subst e
           rw [if_neg (Nat.lt_irrefl j), if_pos (by omega), qZ hlti, if_neg (by rw [HPF.out]; simp), List.append_nil]
          ·by_cases h : j < i
           ·rw [if_pos h, if_pos (by omega)]
           ·rw [if_neg h, if_neg (by omega)]))⟩
         case measure => simp [intOf]; omega
        ·have HPT := qH (show cQ LL (i + 1) n = true from by rw [hnext]; simp [hq])
         have hb := kP hq
         clear hnext hq
         have hli := hlti
         have hwi : IntKind.i64.wrap ((i : Int) + 1) = (i : Int) + 1 := IntWalk.i64_in _ (by omega)
         obtain ⟨ka, kc, ekv, kcs, hkc⟩ := (hL2.out.keys i hlti).shape
         obtain ⟨fa, fc, efv, fcs, hfc⟩ := (hL2.out.froms i hlti).shape
         obtain ⟨kn, ekn⟩ : ∃ k, (bM LL m i (if i < i then n + 1 else n)).length = k := ⟨_, rfl⟩
         obtain ⟨fn, efn⟩ : ∃ k, (bU LL m i (if i < i then n + 1 else n)).length = k := ⟨_, rfl⟩
         have hknb : kn ≤ n := by rw [<- ekn, if_neg (Nat.lt_irrefl i), eJ]; exact cU _ _ _ _
         have hfnb : fn ≤ n := by rw [<- efn, if_neg (Nat.lt_irrefl i), gB]; exact cU _ _ _ _
         have hn16 : n < 65536 := by have := HN.out; have := HL.out.2.2; omega
         rw [ekn] at ekv
         rw [efn] at efv
         have HKR := qH (show Row wr 9 1 (.slice ka kn kc) kn (strs (bM LL m i (if i < i then n + 1 else n))) (New w3) from by have h := hL2.out.keys i hlti; rw [ekv, ekn] at h; exact h)
         have t0 : wr.cell? ⟨tb, 0, none⟩ = some (.slice (some ⟨lb, 0, none⟩) m m) := by rw [hL2.out.tri.cell']; rfl
         have k0 : wr.cell? ⟨lb, i * 2, none⟩ = some (.slice ka kn kc) := by rw [hL2.out.blk.cell', (cJ kv2 fv2 hlti).1, ekv]
         have HEK := qH (And.intro ekv (And.intro efv (And.intro ekn efn)))
         clear kcs fcs hkc hfc ekv efv ekn efn
         go_wp2_with (first | (at_builtin; refine Halted.out ?_))
         refine Halted.mk (sO fU rfl _ _ rfl rfl (HKR.out.alloc _) rfl (CellsAt.one wr (.string x) 9) (by rfl) (by simp; rfl) (by omega) (by unfold maxLen; omega) ?_)
         intro v4 w4 hr4 hk4
         obtain ⟨la4, lc4, ev4, _, _⟩ := hr4.shape
         subst ev4
         have hkw : Kp (fun g => (kv2 i).ownBlock = some g) wr w4 := by rw [HEK.out.1]; exact (Ext.kp ((Kp.refl wr).alloc _)).trans hk4
         have hL5 := qH (hL2.out.putK (x := x) hlti (v' := .slice la4 (kn + 1) lc4) (by rw [HEK.out.2.2.1, HEK.out.1]; exact hr4.mono fun g hg => hg.imp id (fun h => Nat.le_trans ((Kp.refl wr).alloc (F := fun _ => False) _).size h)) hkw)
         have hb4 : Blk w4 lb (jZ kv2 fv2 m) 244 := hL2.out.blk.kp hkw fun hg => by
          obtain ⟨cs, hb⟩ := aP (hL2.out.keys i hlti) hg
          exact rI.2.2.2.1 (aM hL2.out.blk hb)
         have k1 : w4.cell? ⟨lb, i * 2, none⟩ = some (.slice ka kn kc) := by rw [hb4.cell', (cJ kv2 fv2 hlti).1, HEK.out.1]
         have kf := hb4.free (i * 2)
         obtain ⟨w5, e5⟩ : ∃ x, w4.setCell ⟨lb, i * 2, none⟩ (.slice la4 (kn + 1) lc4) = x := ⟨_, rfl⟩
         rw [e5] at hL5
         clear hr4 hk4 hkw hb4 t0 k0
         go_wp2
         clear e5 k1 kf
         have HWd := qH (show ∀ W', Ext w5 W' -> Calls Tryz.prog 178 #[.pointer (some ⟨tb, 0, none⟩), .int .i64 ((i : Int) + 1), .int .i64 n] W' (RetN W' fun _ v => v = .int .i64 (aQ LL m (i + 1) n : Nat)) from fun W' hW' => by
          have ei : ((i + 1 : Nat) : Int) = (i : Int) + 1 := by omega
          have hLx := hL5.out.ext hW'
          have tx : W'.cell? ⟨tb, 0, none⟩ = some (.slice (some ⟨lb, 0, none⟩) m m) := by rw [hLx.tri.cell']; rfl
          rw [<- ei]
          by_cases h1 : i + 1 < m
          ·have hr := hLx.keys (i + 1) h1
           rw [aH _ _ (by omega : i + 1 ≠ i), aH _ _ (by omega : i + 1 ≠ i), if_neg (by omega), eJ] at hr
           obtain ⟨kx, cx2, ex, _, _⟩ := hr.shape
           have hc := (cJ (bP kv2 i (.slice la4 (kn + 1) lc4)) fv2 h1).1
           rw [aH _ _ (by omega : i + 1 ≠ i), ex] at hc
           exact sY (off := 0) tx h1 (by rw [hLx.blk.cell', Nat.zero_add]; exact hc)
          ·have e : aQ LL m (i + 1) n = n := by rw [show i + 1 = m by omega]; exact oS
           rw [e]
           exact qO tx h1)
         obtain ⟨wd, ewd⟩ : ∃ x, aQ LL m (i + 1) n = x := ⟨_, rfl⟩
         rw [ewd] at HWd
         have HED := qH ewd
         have HFR := qH (show Row w5 3 1 (.slice fa fn fc) fn (ints (bU LL m i (if i < i then n + 1 else n))) (New w3) from by have h := hL5.out.froms i hlti; rw [HEK.out.2.1, HEK.out.2.2.2] at h; exact h)
         have HJ := qH (show ∀ w', Ext w5 w' -> (fun w' : World => w'.cell? ⟨tb, 0, none⟩ = some (.slice (some ⟨lb, 0, none⟩) m m) /\ w'.cell? ⟨lb, i * 2 + 1, none⟩ = some (.slice fa fn fc)) w' from fun w' hw' => ⟨by rw [(hL5.out.tri.ext hw').cell']; rfl, by rw [(hL5.out.blk.ext hw').cell', (cJ _ fv2 hlti).2, HEK.out.2.1]⟩)
         clear ewd
         refine aT (fun w' : World => w'.cell? ⟨tb, 0, none⟩ = some (.slice (some ⟨lb, 0, none⟩) m m) /\ w'.cell? ⟨lb, i * 2 + 1, none⟩ = some (.slice fa fn fc)) [11, 12, 13, 14] (by kernel_rfl) (HJ.out _ (Kp.refl w5).drew) (fun hHeld => ?_)
         refine dF 0 ?_; try simp only [Act.put,sI,sZ,sS]
         refine dF 1 ?_; try simp only [Act.put,sI,sZ,sS]
         refine dF 2 ?_; try simp only [Act.put,sI,sZ,sS]
         refine dF 3 ?_; try simp only [Act.put,sI,sZ,sS]
         refine dI 4 ?_; try simp only [Act.put,sI,sZ,sS]
         refine dF 5 ?_; try simp only [Act.put,sI,sZ,sS]
         refine dF 6 ?_; try simp only [Act.put,sI,sZ,sS]
         refine dF 7 ?_; try simp only [Act.put,sI,sZ,sS]
         refine dF 8 ?_; try simp only [Act.put,sI,sZ,sS]
         refine aE (i := 9) ?_
         refine aF (i := 9) rfl (fun K hK => ?_)
         go_simp
         (refine (HWd.out _ (Kp.refl w5).drew).mono ?_; rintro e w6 ⟨v6, rfl, hk6, rfl⟩; have X1 := qH (show Ext w5 w6 from ((Kp.refl w5).drew).trans hk6); clear hk6)
         go_wp2_with fail
         refine hK.out _ _ ?_ (fun hHeld => ?_)
         ·(try dsimp only); (exact HJ.out _ X1.out)
         clear hK K; (try simp only [Act.put,sI,sZ,sS])
         refine aE (i := 10) ?_
         refine aF (i := 10) rfl (fun K hK => ?_)
         go_simp
         refine hK.out _ _ ?_ (fun hHeld => ?_)
         ·(try dsimp only); (exact HJ.out _ (X1.out.alloc _))
         clear hK K; (try simp only [Act.put,sI,sZ,sS])
         refine aE (i := 11) ?_
         refine aI (i := 11) rfl (by kernel_rfl) (fun K hK => ?_)
         refine gZ (m := 1) (n := fn) iJ rfl _ _ rfl rfl ((HFR.out.ext X1.out).alloc _) rfl (CellsAt.one w6 _ _) (by rfl) (by simp; rfl) (by omega) (by unfold maxLen; omega) ?_; intro v7 w7 hr7 hk7; obtain ⟨la7, lc7, ev7, _, _⟩ := hr7.shape; subst ev7; have X2 := qH (And.intro (show Row w7 3 1 (.slice la7 (fn + 1) lc7) (fn + 1) (ints (bU LL m i (if i < i then n + 1 else n)) ++ [.int .i64 (wd : Nat)]) (fun g => (Value.slice fa fn fc).ownBlock = some g \/ (w6.alloc (.cells #[.int .i64 (wd : Nat)] 3)).heap.size ≤ g) from hr7) (show Kp (fun g => (Value.slice fa fn fc).ownBlock = some g) (w6.alloc (.cells #[.int .i64 (wd : Nat)] 3)) w7 from hk7)); clear hr7 hk7; have X3 := qH (hL5.out.blk.kp ((Ext.kp (X1.out.alloc (.cells #[.int .i64 (wd : Nat)] 3))).trans X2.out.2) fun hg => (by obtain ⟨cs, hb⟩ := aP HFR.out hg; exact rI.2.2.2.2.1 (aM hL5.out.blk hb))); have f1 : w7.cell? ⟨lb, i * 2 + 1, none⟩ = some (.slice fa fn fc) := by { rw [X3.out.cell', (cJ _ fv2 hlti).2, HEK.out.2.1] }; have ff := X3.out.free (i * 2 + 1)
         refine hK.out _ _ ?_
         clear hK K; (try simp only [Act.put,sI,sZ,sS])
         refine aE (i := 12) ?_
         refine aI (i := 12) rfl (by kernel_rfl) (fun K hK => ?_)
         go_simp
         refine hK.out _ _ ?_
         clear hK K; (try simp only [Act.put,sI,sZ,sS])
         refine aE (i := 13) ?_
         refine aI (i := 13) rfl (by kernel_rfl) (fun K hK => ?_)
         go_simp
         refine hK.out _ _ ?_
         clear hK K; (try simp only [Act.put,sI,sZ,sS])
         refine aE (i := 14) ?_
         refine aI (i := 14) rfl (by kernel_rfl) (fun K hK => ?_)
         go_simp
         refine hK.out _ _ ?_
         clear hK K; (try simp only [Act.put,sI,sZ,sS])
         refine aK (by kernel_rfl) ?_ _
         clear hHeld
         have HP2 := qH (hL5.out.putF (w' := w7) (x := (wd : Nat)) hlti (v' := .slice la7 (fn + 1) lc7) (by
          rw [HEK.out.2.2.2, HEK.out.2.1]
          exact X2.out.1.mono fun g hg => hg.imp id (fun h => Nat.le_trans (X1.out.alloc (.cells #[.int .i64 (wd : Nat)] 3)).size h)) (by rw [HEK.out.2.1]; exact (Ext.kp (X1.out.alloc _)).trans X2.out.2))
         obtain ⟨w8, e8⟩ : ∃ x, w7.setCell ⟨lb, i * 2 + 1, none⟩ (.slice la7 (fn + 1) lc7) = x := ⟨_, rfl⟩
         rw [e8] at HP2 ⊢
         clear e8 f1 ff
         go_wp2
         go_roundw
         case rel => exact ⟨i + 1, _, _, by omega, by first | rfl | (congr 1; done) | (congr 1; omega), by rw [HPT.out], qH (HP2.out.congr (fun j hj => by
          by_cases e : j = i
          ·subst e
           rw [upd_same, if_neg (Nat.lt_irrefl j), if_pos (by omega), keys_succ hlti HSS.out.1 HXI.out, if_pos HPT.out]
          ·rw [aH _ _ e]
           by_cases h : j < i
           ·rw [if_pos h, if_pos (by omega)]
           ·rw [if_neg h, if_neg (by omega)]) (fun j hj => by
          by_cases e : j = i
          ·subst e
           rw [upd_same, if_neg (Nat.lt_irrefl j), if_pos (by omega), qZ hlti, if_pos HPT.out, HED.out]
          ·rw [aH _ _ e]
           by_cases h : j < i
           ·rw [if_pos h, if_pos (by omega)]
           ·rw [if_neg h, if_neg (by omega)]))⟩
         case measure => simp [intOf]; omega
       ·have HPT := qH (show cQ LL (i + 1) n = true from by
         rcases dR.1 hp with h | h
         ·exact dR.2 (.inl h)
         ·refine dR.2 (.inr fun e => h ?_)
          have h2 := congrArg (List.take i) e
          rwa [List.take_take, List.take_take, Nat.min_eq_left (Nat.le_succ i)] at h2)
        have hli := hlti
        have hwi : IntKind.i64.wrap ((i : Int) + 1) = (i : Int) + 1 := IntWalk.i64_in _ (by omega)
        obtain ⟨ka, kc, ekv, kcs, hkc⟩ := (hL2.out.keys i hlti).shape
        obtain ⟨fa, fc, efv, fcs, hfc⟩ := (hL2.out.froms i hlti).shape
        obtain ⟨kn, ekn⟩ : ∃ k, (bM LL m i (if i < i then n + 1 else n)).length = k := ⟨_, rfl⟩
        obtain ⟨fn, efn⟩ : ∃ k, (bU LL m i (if i < i then n + 1 else n)).length = k := ⟨_, rfl⟩
        have hknb : kn ≤ n := by rw [<- ekn, if_neg (Nat.lt_irrefl i), eJ]; exact cU _ _ _ _
        have hfnb : fn ≤ n := by rw [<- efn, if_neg (Nat.lt_irrefl i), gB]; exact cU _ _ _ _
        have hn16 : n < 65536 := by have := HN.out; have := HL.out.2.2; omega
        rw [ekn] at ekv
        rw [efn] at efv
        have HKR := qH (show Row wr 9 1 (.slice ka kn kc) kn (strs (bM LL m i (if i < i then n + 1 else n))) (New w3) from by have h := hL2.out.keys i hlti; rw [ekv, ekn] at h; exact h)
        have t0 : wr.cell? ⟨tb, 0, none⟩ = some (.slice (some ⟨lb, 0, none⟩) m m) := by rw [hL2.out.tri.cell']; rfl
        have k0 : wr.cell? ⟨lb, i * 2, none⟩ = some (.slice ka kn kc) := by rw [hL2.out.blk.cell', (cJ kv2 fv2 hlti).1, ekv]
        have HEK := qH (And.intro ekv (And.intro efv (And.intro ekn efn)))
        clear kcs fcs hkc hfc ekv efv ekn efn
        go_wp2_with (first | (at_builtin; refine Halted.out ?_))
        refine Halted.mk (sO fU rfl _ _ rfl rfl (HKR.out.alloc _) rfl (CellsAt.one wr (.string x) 9) (by rfl) (by simp; rfl) (by omega) (by unfold maxLen; omega) ?_)
        intro v4 w4 hr4 hk4
        obtain ⟨la4, lc4, ev4, _, _⟩ := hr4.shape
        subst ev4
        have hkw : Kp (fun g => (kv2 i).ownBlock = some g) wr w4 := by rw [HEK.out.1]; exact (Ext.kp ((Kp.refl wr).alloc _)).trans hk4
        have hL5 := qH (hL2.out.putK (x := x) hlti (v' := .slice la4 (kn + 1) lc4) (by rw [HEK.out.2.2.1, HEK.out.1]; exact hr4.mono fun g hg => hg.imp id (fun h => Nat.le_trans ((Kp.refl wr).alloc (F := fun _ => False) _).size h)) hkw)
        have hb4 : Blk w4 lb (jZ kv2 fv2 m) 244 := hL2.out.blk.kp hkw fun hg => by
         obtain ⟨cs, hb⟩ := aP (hL2.out.keys i hlti) hg
         exact rI.2.2.2.1 (aM hL2.out.blk hb)
        have k1 : w4.cell? ⟨lb, i * 2, none⟩ = some (.slice ka kn kc) := by rw [hb4.cell', (cJ kv2 fv2 hlti).1, HEK.out.1]
        have kf := hb4.free (i * 2)
        obtain ⟨w5, e5⟩ : ∃ x, w4.setCell ⟨lb, i * 2, none⟩ (.slice la4 (kn + 1) lc4) = x := ⟨_, rfl⟩
        rw [e5] at hL5
        clear hr4 hk4 hkw hb4 t0 k0
        go_wp2
        clear e5 k1 kf
        have HWd := qH (show ∀ W', Ext w5 W' -> Calls Tryz.prog 178 #[.pointer (some ⟨tb, 0, none⟩), .int .i64 ((i : Int) + 1), .int .i64 n] W' (RetN W' fun _ v => v = .int .i64 (aQ LL m (i + 1) n : Nat)) from fun W' hW' => by
         have ei : ((i + 1 : Nat) : Int) = (i : Int) + 1 := by omega
         have hLx := hL5.out.ext hW'
         have tx : W'.cell? ⟨tb, 0, none⟩ = some (.slice (some ⟨lb, 0, none⟩) m m) := by rw [hLx.tri.cell']; rfl
         rw [<- ei]
         by_cases h1 : i + 1 < m
         ·have hr := hLx.keys (i + 1) h1
          rw [aH _ _ (by omega : i + 1 ≠ i), aH _ _ (by omega : i + 1 ≠ i), if_neg (by omega), eJ] at hr
          obtain ⟨kx, cx2, ex, _, _⟩ := hr.shape
          have hc := (cJ (bP kv2 i (.slice la4 (kn + 1) lc4)) fv2 h1).1
          rw [aH _ _ (by omega : i + 1 ≠ i), ex] at hc
          exact sY (off := 0) tx h1 (by rw [hLx.blk.cell', Nat.zero_add]; exact hc)
         ·have e : aQ LL m (i + 1) n = n := by rw [show i + 1 = m by omega]; exact oS
          rw [e]
          exact qO tx h1)
        obtain ⟨wd, ewd⟩ : ∃ x, aQ LL m (i + 1) n = x := ⟨_, rfl⟩
        rw [ewd] at HWd
        have HED := qH ewd
        have HFR := qH (show Row w5 3 1 (.slice fa fn fc) fn (ints (bU LL m i (if i < i then n + 1 else n))) (New w3) from by have h := hL5.out.froms i hlti; rw [HEK.out.2.1, HEK.out.2.2.2] at h; exact h)
        have HJ := qH (show ∀ w', Ext w5 w' -> (fun w' : World => w'.cell? ⟨tb, 0, none⟩ = some (.slice (some ⟨lb, 0, none⟩) m m) /\ w'.cell? ⟨lb, i * 2 + 1, none⟩ = some (.slice fa fn fc)) w' from fun w' hw' => ⟨by rw [(hL5.out.tri.ext hw').cell']; rfl, by rw [(hL5.out.blk.ext hw').cell', (cJ _ fv2 hlti).2, HEK.out.2.1]⟩)
        clear ewd
        refine aT (fun w' : World => w'.cell? ⟨tb, 0, none⟩ = some (.slice (some ⟨lb, 0, none⟩) m m) /\ w'.cell? ⟨lb, i * 2 + 1, none⟩ = some (.slice fa fn fc)) [11, 12, 13, 14] (by kernel_rfl) (HJ.out _ (Kp.refl w5).drew) (fun hHeld => ?_)
        refine dF 0 ?_; try simp only [Act.put,sI,sZ,sS]
        refine dF 1 ?_; try simp only [Act.put,sI,sZ,sS]
        refine dF 2 ?_; try simp only [Act.put,sI,sZ,sS]
        refine dF 3 ?_; try simp only [Act.put,sI,sZ,sS]
        refine dI 4 ?_; try simp only [Act.put,sI,sZ,sS]
        refine dF 5 ?_; try simp only [Act.put,sI,sZ,sS]
        refine dF 6 ?_; try simp only [Act.put,sI,sZ,sS]
        refine dF 7 ?_; try simp only [Act.put,sI,sZ,sS]
        refine dF 8 ?_; try simp only [Act.put,sI,sZ,sS]
        refine aE (i := 9) ?_
        refine aF (i := 9) rfl (fun K hK => ?_)
        go_simp
        (refine (HWd.out _ (Kp.refl w5).drew).mono ?_; rintro e w6 ⟨v6, rfl, hk6, rfl⟩; have X1 := qH (show Ext w5 w6 from ((Kp.refl w5).drew).trans hk6); clear hk6)
        go_wp2_with fail
        refine hK.out _ _ ?_ (fun hHeld => ?_)
        ·(try dsimp only); (exact HJ.out _ X1.out)
        clear hK K; (try simp only [Act.put,sI,sZ,sS])
        refine aE (i := 10) ?_
        refine aF (i := 10) rfl (fun K hK => ?_)
        go_simp
        refine hK.out _ _ ?_ (fun hHeld => ?_)
        ·(try dsimp only); (exact HJ.out _ (X1.out.alloc _))
        clear hK K; (try simp only [Act.put,sI,sZ,sS])
        refine aE (i := 11) ?_
        refine aI (i := 11) rfl (by kernel_rfl) (fun K hK => ?_)
        refine gZ (m := 1) (n := fn) iJ rfl _ _ rfl rfl ((HFR.out.ext X1.out).alloc _) rfl (CellsAt.one w6 _ _) (by rfl) (by simp; rfl) (by omega) (by unfold maxLen; omega) ?_; intro v7 w7 hr7 hk7; obtain ⟨la7, lc7, ev7, _, _⟩ := hr7.shape; subst ev7; have X2 := qH (And.intro (show Row w7 3 1 (.slice la7 (fn + 1) lc7) (fn + 1) (ints (bU LL m i (if i < i then n + 1 else n)) ++ [.int .i64 (wd : Nat)]) (fun g => (Value.slice fa fn fc).ownBlock = some g \/ (w6.alloc (.cells #[.int .i64 (wd : Nat)] 3)).heap.size ≤ g) from hr7) (show Kp (fun g => (Value.slice fa fn fc).ownBlock = some g) (w6.alloc (.cells #[.int .i64 (wd : Nat)] 3)) w7 from hk7)); clear hr7 hk7; have X3 := qH (hL5.out.blk.kp ((Ext.kp (X1.out.alloc (.cells #[.int .i64 (wd : Nat)] 3))).trans X2.out.2) fun hg => (by obtain ⟨cs, hb⟩ := aP HFR.out hg; exact rI.2.2.2.2.1 (aM hL5.out.blk hb))); have f1 : w7.cell? ⟨lb, i * 2 + 1, none⟩ = some (.slice fa fn fc) := by { rw [X3.out.cell', (cJ _ fv2 hlti).2, HEK.out.2.1] }; have ff := X3.out.free (i * 2 + 1)
        refine hK.out _ _ ?_
        clear hK K; (try simp only [Act.put,sI,sZ,sS])
        refine aE (i := 12) ?_
        refine aI (i := 12) rfl (by kernel_rfl) (fun K hK => ?_)
        go_simp
        refine hK.out _ _ ?_
        clear hK K; (try simp only [Act.put,sI,sZ,sS])
        refine aE (i := 13) ?_
        refine aI (i := 13) rfl (by kernel_rfl) (fun K hK => ?_)
        go_simp
        refine hK.out _ _ ?_
        clear hK K; (try simp only [Act.put,sI,sZ,sS])
        refine aE (i := 14) ?_
        refine aI (i := 14) rfl (by kernel_rfl) (fun K hK => ?_)
        go_simp
        refine hK.out _ _ ?_
        clear hK K; (try simp only [Act.put,sI,sZ,sS])
        refine aK (by kernel_rfl) ?_ _
        clear hHeld
        have HP2 := qH (hL5.out.putF (w' := w7) (x := (wd : Nat)) hlti (v' := .slice la7 (fn + 1) lc7) (by
         rw [HEK.out.2.2.2, HEK.out.2.1]
         exact X2.out.1.mono fun g hg => hg.imp id (fun h => Nat.le_trans (X1.out.alloc (.cells #[.int .i64 (wd : Nat)] 3)).size h)) (by rw [HEK.out.2.1]; exact (Ext.kp (X1.out.alloc _)).trans X2.out.2))
        obtain ⟨w8, e8⟩ : ∃ x, w7.setCell ⟨lb, i * 2 + 1, none⟩ (.slice la7 (fn + 1) lc7) = x := ⟨_, rfl⟩
        rw [e8] at HP2 ⊢
        clear e8 f1 ff
        go_wp2
        go_roundw
        case rel => exact ⟨i + 1, _, _, by omega, by first | rfl | (congr 1; done) | (congr 1; omega), by rw [HPT.out], qH (HP2.out.congr (fun j hj => by
         by_cases e : j = i
         ·subst e
          rw [upd_same, if_neg (Nat.lt_irrefl j), if_pos (by omega), keys_succ hlti HSS.out.1 HXI.out, if_pos HPT.out]
         ·rw [aH _ _ e]
          by_cases h : j < i
          ·rw [if_pos h, if_pos (by omega)]
          ·rw [if_neg h, if_neg (by omega)]) (fun j hj => by
         by_cases e : j = i
         ·subst e
          rw [upd_same, if_neg (Nat.lt_irrefl j), if_pos (by omega), qZ hlti, if_pos HPT.out, HED.out]
         ·rw [aH _ _ e]
          by_cases h : j < i
          ·rw [if_pos h, if_pos (by omega)]
          ·rw [if_neg h, if_neg (by omega)]))⟩
        case measure => simp [intOf]; omega
      ·obtain rfl : m = i := by omega
       have hnb : n < 65536 := by have := HN.out; have := HL.out.2.2; omega
       have HNX := qH (hL2.out.congr (ks' := fun i => bM LL m i (n + 1)) (fs' := fun i => bU LL m i (n + 1)) (fun j hj => by rw [if_pos hj]) (fun j hj => by rw [if_pos hj]))
       clear hL2
       go_wp2
       go_roundw
       case rel => exact ⟨n + 1, kv2, fv2, by omega, by first | rfl | (congr 1; done) | (congr 1; omega), HNX⟩
       case measure => simp [intOf]; omega
    ·obtain rfl : nL = n := by omega
     have hn16 : nL ≤ 65536 := by have := HN.out; have := HL.out.2.2; omega
     have HL0 := qH (hLv.out.congr (ks' := fun i => bM LL m i nL) (fs' := fun i => bU LL m i nL ++ if i < 0 then [(aQ LL m (i + 1) nL : Int)] else []) (fun j hj => rfl) (fun j hj => by rw [if_neg (by omega), List.append_nil]))
     have t0 : wr.cell? ⟨tb, 0, none⟩ = some (.slice (some ⟨lb, 0, none⟩) m m) := by rw [hLv.out.tri.cell']; rfl
     clear hLv hn hltn
     go_wp2
     clear t0
     go_loopw [119] (fun jv wk => EndTo w3 tb lb m nL LL jv wk) (fun jv _ => m - (intOf jv).toNat)
     case atStart => exact ⟨0, kv, fv, Nat.zero_le _, rfl, HL0⟩
     case round =>
      obtain ⟨i, kv2, fv2, hi, rfl, hL2⟩ := hrel
      by_cases hlti : i < m
      ·have hwi : IntKind.i64.wrap ((i : Int) + 1) = (i : Int) + 1 := IntWalk.i64_in _ (by omega)
       have hlti2 : (i : Int) < (m : Int) := by omega
       obtain ⟨fa, fc, efv, fcs, hfc⟩ := (hL2.out.froms i hlti).shape
       obtain ⟨fn, efn⟩ : ∃ k, (bU LL m i nL ++ if i < i then [(aQ LL m (i + 1) nL : Int)] else []).length = k := ⟨_, rfl⟩
       have hfnb : fn ≤ nL := by rw [<- efn, if_neg (Nat.lt_irrefl i), List.append_nil, gB]; exact cU _ _ _ _
       rw [efn] at efv
       have HEK := qH (And.intro efv efn)
       clear fcs hfc efv efn hi
       have HWd := qH (show ∀ W', Ext wr W' -> Calls Tryz.prog 178 #[.pointer (some ⟨tb, 0, none⟩), .int .i64 ((i : Int) + 1), .int .i64 nL] W' (RetN W' fun _ v => v = .int .i64 (aQ LL m (i + 1) nL : Nat)) from fun W' hW' => by
        have ei : ((i + 1 : Nat) : Int) = (i : Int) + 1 := by omega
        have hLx := hL2.out.ext hW'
        have tx : W'.cell? ⟨tb, 0, none⟩ = some (.slice (some ⟨lb, 0, none⟩) m m) := by rw [hLx.tri.cell']; rfl
        rw [<- ei]
        by_cases h1 : i + 1 < m
        ·have hr := hLx.keys (i + 1) h1
         rw [eJ] at hr
         obtain ⟨kx, cx2, ex, _, _⟩ := hr.shape
         have hc := (cJ kv2 fv2 h1).1
         rw [ex] at hc
         exact sY (off := 0) tx h1 (by rw [hLx.blk.cell', Nat.zero_add]; exact hc)
        ·have e : aQ LL m (i + 1) nL = nL := by rw [show i + 1 = m by omega]; exact oS
         rw [e]
         exact qO tx h1)
       obtain ⟨wd, ewd⟩ : ∃ x, aQ LL m (i + 1) nL = x := ⟨_, rfl⟩
       rw [ewd] at HWd
       have HED := qH ewd
       have HFR := qH (show Row wr 3 1 (.slice fa fn fc) fn (ints (bU LL m i nL ++ if i < i then [(aQ LL m (i + 1) nL : Int)] else [])) (New w3) from by have h := hL2.out.froms i hlti; rw [HEK.out.1, HEK.out.2] at h; exact h)
       have HJ := qH (show ∀ w', Ext wr w' -> (fun w' : World => w'.cell? ⟨tb, 0, none⟩ = some (.slice (some ⟨lb, 0, none⟩) m m) /\ w'.cell? ⟨lb, i * 2 + 1, none⟩ = some (.slice fa fn fc)) w' from fun w' hw' => ⟨by rw [(hL2.out.tri.ext hw').cell']; rfl, by rw [(hL2.out.blk.ext hw').cell', (cJ _ fv2 hlti).2, HEK.out.1]⟩)
       clear ewd
       go_wp2
       refine aT (fun w' : World => w'.cell? ⟨tb, 0, none⟩ = some (.slice (some ⟨lb, 0, none⟩) m m) /\ w'.cell? ⟨lb, i * 2 + 1, none⟩ = some (.slice fa fn fc)) [21, 22, 23] (by kernel_rfl) (HJ.out _ (Kp.refl wr).drew) (fun hHeld => ?_)
       refine dF 0 ?_; try simp only [Act.put,sI,sZ,sS]
       refine dF 1 ?_; try simp only [Act.put,sI,sZ,sS]
       refine dF 2 ?_; try simp only [Act.put,sI,sZ,sS]
       refine dI 3 ?_; try simp only [Act.put,sI,sZ,sS]
       refine dF 4 ?_; try simp only [Act.put,sI,sZ,sS]
       refine dF 5 ?_; try simp only [Act.put,sI,sZ,sS]
       refine dF 6 ?_; try simp only [Act.put,sI,sZ,sS]
       refine dF 7 ?_; try simp only [Act.put,sI,sZ,sS]
       refine dI 8 ?_; try simp only [Act.put,sI,sZ,sS]
       refine dF 9 ?_; try simp only [Act.put,sI,sZ,sS]
       refine dI 10 ?_; try simp only [Act.put,sI,sZ,sS]
       refine dF 11 ?_; try simp only [Act.put,sI,sZ,sS]
       refine dI 12 ?_; try simp only [Act.put,sI,sZ,sS]
       refine dF 13 ?_; try simp only [Act.put,sI,sZ,sS]
       refine dF 14 ?_; try simp only [Act.put,sI,sZ,sS]
       refine dF 15 ?_; try simp only [Act.put,sI,sZ,sS]
       refine dF 16 ?_; try simp only [Act.put,sI,sZ,sS]
       refine dI 17 ?_; try simp only [Act.put,sI,sZ,sS]
       refine aE (i := 18) ?_
       refine aF (i := 18) rfl (fun K hK => ?_)
       go_simp
       (refine (HWd.out _ (Kp.refl wr).drew).mono ?_; rintro e w6 ⟨v6, rfl, hk6, rfl⟩; have X1 := qH (show Ext wr w6 from ((Kp.refl wr).drew).trans hk6); clear hk6)
       go_wp2_with fail
       refine hK.out _ _ ?_ (fun hHeld => ?_)
       ·(try dsimp only); (exact HJ.out _ X1.out)
       clear hK K; (try simp only [Act.put,sI,sZ,sS])
       refine aE (i := 19) ?_
       refine aF (i := 19) rfl (fun K hK => ?_)
       go_simp
       refine hK.out _ _ ?_ (fun hHeld => ?_)
       ·(try dsimp only); (exact HJ.out _ (X1.out.alloc _))
       clear hK K; (try simp only [Act.put,sI,sZ,sS])
       refine aE (i := 20) ?_
       refine aF (i := 20) rfl (fun K hK => ?_)
       refine gZ (m := 1) (n := fn) iJ rfl _ _ rfl rfl ((HFR.out.ext X1.out).alloc _) rfl (CellsAt.one w6 _ _) (by rfl) (by simp; rfl) (by omega) (by unfold maxLen; omega) ?_; intro v7 w7 hr7 hk7; obtain ⟨la7, lc7, ev7, _, _⟩ := hr7.shape; subst ev7; have X2 := qH (And.intro (show Row w7 3 1 (.slice la7 (fn + 1) lc7) (fn + 1) (ints (bU LL m i nL ++ if i < i then [(aQ LL m (i + 1) nL : Int)] else []) ++ [.int .i64 (wd : Nat)]) (fun g => (Value.slice fa fn fc).ownBlock = some g \/ (w6.alloc (.cells #[.int .i64 (wd : Nat)] 3)).heap.size ≤ g) from hr7) (show Kp (fun g => (Value.slice fa fn fc).ownBlock = some g) (w6.alloc (.cells #[.int .i64 (wd : Nat)] 3)) w7 from hk7)); clear hr7 hk7; have X3 := qH (hL2.out.blk.kp ((Ext.kp (X1.out.alloc (.cells #[.int .i64 (wd : Nat)] 3))).trans X2.out.2) fun hg => (by obtain ⟨cs, hb⟩ := aP HFR.out hg; exact rI.2.2.2.2.1 (aM hL2.out.blk hb))); have X4 := qH (hL2.out.tri.kp ((Ext.kp (X1.out.alloc (.cells #[.int .i64 (wd : Nat)] 3))).trans X2.out.2) fun hg => (by obtain ⟨cs, hb⟩ := aP HFR.out hg; exact rI.2.2.1 (aM hL2.out.tri hb))); have f1 : w7.cell? ⟨lb, i * 2 + 1, none⟩ = some (.slice fa fn fc) := by { rw [X3.out.cell', (cJ _ fv2 hlti).2, HEK.out.1] }; have ff := X3.out.free (i * 2 + 1)
       refine hK.out _ _ ?_ (fun hHeld => ?_)
       ·(try dsimp only); (exact ⟨by rw [X4.out.cell']; rfl, f1⟩)
       clear hK K; (try simp only [Act.put,sI,sZ,sS])
       refine aE (i := 21) ?_
       refine aI (i := 21) rfl (by kernel_rfl) (fun K hK => ?_)
       go_simp
       refine hK.out _ _ ?_
       clear hK K; (try simp only [Act.put,sI,sZ,sS])
       refine aE (i := 22) ?_
       refine aI (i := 22) rfl (by kernel_rfl) (fun K hK => ?_)
       go_simp
       refine hK.out _ _ ?_
       clear hK K; (try simp only [Act.put,sI,sZ,sS])
       refine aE (i := 23) ?_
       refine aI (i := 23) rfl (by kernel_rfl) (fun K hK => ?_)
       go_simp
       refine hK.out _ _ ?_
       clear hK K; (try simp only [Act.put,sI,sZ,sS])
       refine aK (by kernel_rfl) ?_ _
       clear hHeld
       have HP2 := qH (hL2.out.putF (w' := w7) (x := (wd : Nat)) hlti (v' := .slice la7 (fn + 1) lc7) (by
        rw [HEK.out.2, HEK.out.1]
        exact X2.out.1.mono fun g hg => hg.imp id (fun h => Nat.le_trans (X1.out.alloc (.cells #[.int .i64 (wd : Nat)] 3)).size h)) (by rw [HEK.out.1]; exact (Ext.kp (X1.out.alloc _)).trans X2.out.2))
       obtain ⟨w8, e8⟩ : ∃ x, w7.setCell ⟨lb, i * 2 + 1, none⟩ (.slice la7 (fn + 1) lc7) = x := ⟨_, rfl⟩
       rw [e8] at HP2 ⊢
       clear e8 f1 ff
       go_wp2
       go_roundw
       case rel => exact ⟨i + 1, _, _, by omega, by first | rfl | (congr 1; done) | (congr 1; omega), qH (HP2.out.congr (fun j hj => rfl) (fun j hj => by
        by_cases e : j = i
        ·subst e
         rw [upd_same, if_neg (Nat.lt_irrefl j), if_pos (by omega), List.append_nil, HED.out]
        ·rw [aH _ _ e]
         by_cases h : j < i
         ·rw [if_pos h, if_pos (by omega)]
         ·rw [if_neg h, if_neg (by omega)]))⟩
       case measure => simp [intOf]; omega
      ·obtain rfl : m = i := by omega
       have HD := qH (hL2.out.done (W := LL) HN.out.symm hm HL.out.2.2 (fun j hj => by rw [HN.out]) (fun j hj => by rw [if_pos hj, HN.out]))
       go_wp2
       go_ret2
       have hx : Ext w wr := H3.out.1.trans hL2.out.kp
       exact RetN.mk hx ⟨tb, rfl, Nat.le_trans H3.out.1.size hL2.out.new.1, HD.out.mono H3.out.1.size (Nat.le_refl _)⟩
end Go.Proofs.YtinnmeiphbdogaaGreat
