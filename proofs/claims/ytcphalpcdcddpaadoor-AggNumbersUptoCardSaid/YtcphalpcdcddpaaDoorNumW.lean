/- AggNumbers: what the package's variables hold; Written, the program's and the document's. -/
import Derived.Test.YtcphalpcdcddpaaDoorBase
import Derived.Test.YtcphalpcdcddpaaDoorNumPlain
import Derived.Test.YtcphalpcdcddpaaDoorShelf
import Derived.Laws.IdiomStrings
import Derived.Lib.ConvBytes
import Derived.IntWalk
import Derived.Lib.ItoaLen
namespace Go.Proofs.YtcphalpcdcddpaaDoor
open Go.RowKit
set_option linter.unusedVariables false

theorem var_ext {P : Program} {n : String} {cs : Array Value} {w w' : World} (h : w.var? P n = some cs) (hk : Ext w w') : w'.var? P n = some cs := by
  unfold World.var? at h ⊢
  cases hg : P.globalNamed n with
  | none => rw [hg] at h; cases h
  | some g =>
    rw [hg] at h
    simp only [Option.bind_some] at h ⊢
    have hlt : g < w.heap.size := by
      rcases Nat.lt_or_ge g w.heap.size with h' | h'
      · exact h'
      · rw [Array.getElem?_eq_none h'] at h; cases h
    rw [hk.block g hlt id]
    exact h

/-- What the library's variables hold. -/
structure NumW (w : World) : Prop where
  tab : Lib.TabIs Tryd.prog w "internal/strconv.uint64pow10" .u64 Lib.pow10Tab
  esyn : ∃ tp p, w.var? Tryd.prog "strconv.ErrSyntax" = some #[.iface tp p]
  erng : ∃ tp p, w.var? Tryd.prog "strconv.ErrRange" = some #[.iface tp p]
theorem NumW.ext {w w' : World} (h : NumW w) (hk : Ext w w') : NumW w' := by
  obtain ⟨h1, ⟨a, b, h2⟩, ⟨c, d, h3⟩⟩ := h
  exact ⟨var_ext h1 hk, ⟨a, b, var_ext h2 hk⟩, ⟨c, d, var_ext h3 hk⟩⟩
theorem ext_grow (w : World) (os : Array Obj) : Ext w (Go.Sort.grow w os) := ⟨rfl, rfl, rfl, by simp, fun k hk _ => Go.Sort.heap_grow_old w os hk⟩

theorem written_any (n : Int) (h0 : -9223372036854775808 ≤ n) (h1 : n ≤ 9223372036854775807) (w : World) (hN : NumW w) :
    Calls Tryd.prog 8 #[.int .i64 n] w (RetN w fun w' v => v = .string ⟨(Lib.itoa n).toArray⟩) := by
  have HF := Lib.hid (Go.Proofs.Tryd.strconv_FormatInt_10 n h0 h1 w hN.tab)
  clear hN
  go_enter Tryd.func8, Tryd.ntmps8
  go_wp2_with fail
  refine HF.out.mono ?_
  rintro e w' ⟨rfl, k, os, rfl⟩
  have hk : Ext w (Go.Sort.grow (w.drewN k) os) := ((Kp.refl w).drewN k).trans (ext_grow _ _)
  generalize Go.Sort.grow (w.drewN k) os = w1 at hk ⊢
  have HK := Lib.hid hk; clear hk
  go_wp2
  go_ret
  exact RetN.mk HK.out rfl

theorem one_byte {P : Program} (W : World) (src dst e : TypeId) (c : UInt8) (hs : P.underlying src = some (.slice e)) (he : P.underlying e = some (.int .u8)) (hd : P.underlying dst = some .string) :
    (convert src dst (.slice (some ⟨W.heap.size, 0, none⟩) 1 1)).run P (W.alloc (.cells #[.int .u8 (c.toNat : Int)] e)) = .ok (.string ⟨#[c]⟩) (W.alloc (.cells #[.int .u8 (c.toNat : Int)] e)) := by
  have h := Blk.new W [Value.int .u8 (c.toNat : Int)] e
  exact run_convert_bytes_back (P := P) _ src dst e ⟨W.heap.size, 0, none⟩ 1 [c] hs he hd (fun j hj => by
    simp only [List.length_cons, List.length_nil] at hj
    obtain rfl : j = 0 := by omega
    have := h.cell 0 (by simp)
    simp [Addr.add] at this ⊢)

/-- Between two rounds: what is written and what is left. -/
def WrAt (w : World) (M : Nat) (mv sv : Value) (wr : World) : Prop :=
  ∃ (m : Nat) (l : List UInt8), Hid (Lib.decDigits M = Lib.decDigits m ++ l) ∧ l.length ≤ 21 ∧ m ≤ 18446744073709551615 ∧ mv = .int .u64 m ∧ sv = .string ⟨l.toArray⟩ ∧ Hid (Ext w wr)
theorem ba_cons (c : UInt8) (l : List UInt8) : (⟨#[c]⟩ : ByteArray) ++ ⟨l.toArray⟩ = ⟨(c :: l).toArray⟩ := by
  apply ByteArray.ext; simp [ByteArray.data_append]
theorem dig_u8 {d : Nat} (h : d < 10) : ((UInt8.ofNat (48 + d)).toNat : Int) = 48 + (d : Int) := by rw [(dig_of h).2]; omega
set_option maxRecDepth 100000 in
set_option maxHeartbeats 1000000 in
theorem refWritten_any (n : Int) (h0 : -9223372036854775808 ≤ n) (h1 : n ≤ 9223372036854775807) (w : World) :
    Calls Tryd.prog 9 #[.int .i64 n] w (RetN w fun w' v => v = .string ⟨(Lib.itoa n).toArray⟩) := by
  have conv : ∀ (W : World) (c : UInt8) (z : Int), z = (c.toNat : Int) → (convert 35 9 (.slice (some ⟨W.heap.size, 0, none⟩) 1 1)).run Tryd.prog (W.alloc (.cells #[.int .u8 z] 5)) = .ok (.string ⟨#[c]⟩) (W.alloc (.cells #[.int .u8 z] 5)) := fun W c z hz => by
    subst hz
    exact one_byte (P := Tryd.prog) W 35 9 5 c Tryd.underlying35 Tryd.underlying5 Tryd.underlying9
  have hlen := Lib.itoa_length_le n h0 h1
  have CONV := Lib.hid conv; clear conv
  by_cases hneg : n < 0
  · obtain ⟨M, eM⟩ : ∃ M, M = n.natAbs := ⟨_, rfl⟩
    have qm : IntKind.u64.wrap (-IntKind.u64.wrap n) = (M : Int) := by
      have e1 : IntKind.u64.wrap n = n + 18446744073709551616 := by rw [IntKind.wrap_u64]; omega
      rw [e1, IntKind.wrap_u64]; omega
    have hM : M ≤ 18446744073709551615 := by omega
    have hit : Lib.itoa n = 45 :: Lib.decDigits M := by unfold Lib.itoa; rw [if_pos hneg, eM]
    have HL := Lib.hid (show (Lib.decDigits M).length ≤ 21 by rw [hit] at hlen; simp at hlen; omega)
    have HIT := Lib.hid hit; clear hit eM hlen
    go_enter Tryd.func9, Tryd.ntmps9
    go_wp2
    go_loopw [3, 4] (WrAt w M) (fun mv _ _ => (intOf mv).toNat)
    case atStart => exact ⟨M, [], by simp [Hid], by simp, hM, rfl, rfl, Kp.refl w⟩
    case round =>
      obtain ⟨m, l, hd, hll, hm, rfl, rfl, hex⟩ := hrel
      by_cases h9 : 9 < m
      · obtain ⟨c, ec⟩ : ∃ c, c = UInt8.ofNat (48 + m % 10) := ⟨_, rfl⟩
        have hc : 48 + (m : Int) % 10 = (c.toNat : Int) := by rw [ec, dig_u8 (by omega)]; omega
        have hcv := CONV.out wr c (48 + (m : Int) % 10) hc
        have HD := Lib.hid (show Lib.decDigits M = Lib.decDigits (m / 10) ++ (c :: l) by
          rw [hd.out, Lib.decDigits, dif_neg (by omega), List.append_assoc, ec]; rfl)
        have HX := Lib.hid (hex.out.alloc (.cells #[.int .u8 (48 + (m : Int) % 10)] 5))
        have HLN := Lib.hid (show (c :: l).length ≤ 21 by
          have h1 := HL.out
          rw [HD.out, List.length_append] at h1
          have h2 := Lib.nDigits_pos (m / 10)
          rw [Lib.decDigits_length] at h1
          omega)
        clear ec hc
        go_wp2
        go_roundw
        case rel => exact ⟨m / 10, c :: l, HD, HLN.out, by omega, by first | rfl | (congr 1; omega), congrArg Value.string (ba_cons c l), HX⟩
        case measure => simp [intOf]; omega
      · obtain ⟨c, ec⟩ : ∃ c, c = UInt8.ofNat (48 + m) := ⟨_, rfl⟩
        have hc : 48 + (m : Int) = (c.toNat : Int) := by rw [ec, dig_u8 (by omega)]
        have hcv := CONV.out wr c (48 + (m : Int)) hc
        have HD := Lib.hid (show Lib.decDigits M = c :: l by
          rw [hd.out, Lib.decDigits_one (by omega), ec]; rfl)
        have HX := Lib.hid (hex.out.alloc (.cells #[.int .u8 (48 + (m : Int))] 5))
        clear ec hc
        go_wp2
        go_ret
        refine RetN.mk HX.out ?_
        rw [HIT.out, HD.out]
        show Value.string ((⟨#[45]⟩ : ByteArray) ++ (⟨#[c]⟩ ++ ⟨l.toArray⟩)) = _
        rw [ba_cons, ba_cons]
  · obtain ⟨M, rfl⟩ : ∃ M : Nat, n = M := ⟨n.toNat, by omega⟩
    have hM : M ≤ 18446744073709551615 := by omega
    have hit : Lib.itoa (M : Int) = Lib.decDigits M := by unfold Lib.itoa; rw [if_neg hneg]; simp
    have HL := Lib.hid (show (Lib.decDigits M).length ≤ 21 by rw [hit] at hlen; exact hlen)
    have HIT := Lib.hid hit; clear hit hlen
    go_enter Tryd.func9, Tryd.ntmps9
    go_wp2
    go_loopw [3, 4] (WrAt w M) (fun mv _ _ => (intOf mv).toNat)
    case atStart => exact ⟨M, [], by simp [Hid], by simp, hM, rfl, rfl, Kp.refl w⟩
    case round =>
      obtain ⟨m, l, hd, hll, hm, rfl, rfl, hex⟩ := hrel
      by_cases h9 : 9 < m
      · obtain ⟨c, ec⟩ : ∃ c, c = UInt8.ofNat (48 + m % 10) := ⟨_, rfl⟩
        have hc : 48 + (m : Int) % 10 = (c.toNat : Int) := by rw [ec, dig_u8 (by omega)]; omega
        have hcv := CONV.out wr c (48 + (m : Int) % 10) hc
        have HD := Lib.hid (show Lib.decDigits M = Lib.decDigits (m / 10) ++ (c :: l) by
          rw [hd.out, Lib.decDigits, dif_neg (by omega), List.append_assoc, ec]; rfl)
        have HX := Lib.hid (hex.out.alloc (.cells #[.int .u8 (48 + (m : Int) % 10)] 5))
        have HLN := Lib.hid (show (c :: l).length ≤ 21 by
          have h1 := HL.out
          rw [HD.out, List.length_append] at h1
          have h2 := Lib.nDigits_pos (m / 10)
          rw [Lib.decDigits_length] at h1
          omega)
        clear ec hc
        go_wp2
        go_roundw
        case rel => exact ⟨m / 10, c :: l, HD, HLN.out, by omega, by first | rfl | (congr 1; omega), congrArg Value.string (ba_cons c l), HX⟩
        case measure => simp [intOf]; omega
      · obtain ⟨c, ec⟩ : ∃ c, c = UInt8.ofNat (48 + m) := ⟨_, rfl⟩
        have hc : 48 + (m : Int) = (c.toNat : Int) := by rw [ec, dig_u8 (by omega)]
        have hcv := CONV.out wr c (48 + (m : Int)) hc
        have HD := Lib.hid (show Lib.decDigits M = c :: l by
          rw [hd.out, Lib.decDigits_one (by omega), ec]; rfl)
        have HX := Lib.hid (hex.out.alloc (.cells #[.int .u8 (48 + (m : Int))] 5))
        clear ec hc
        go_wp2
        go_ret
        refine RetN.mk HX.out ?_
        rw [HIT.out, HD.out]
        exact congrArg Value.string (ba_cons c l)
end Go.Proofs.YtcphalpcdcddpaaDoor
