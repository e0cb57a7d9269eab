/- Proved here: the tied card AggOwnUptoCardSaid: the law returns true for every input of the bound that the row names and leaves its arguments as they were. No condition of its own. -/
import Derived.Test.YtikgpedgmnbcaaaGreatDoorAw10
import Derived.Test.YtikgpedgmnbcaaaGreatDoorCards
import Derived.Test.YtikgpedgmnbcaaaGreatDoorTie
import Derived.WalkKit
import Derived.ProofKit
import Derived.OpenShut
import Derived.RowKitTokens
import Derived.Deep.DeepWitnessRowRef
import Derived.Deep.DeepHandedRow
import Derived.Lib.LaidTab
import Derived.Stop.LaidErr
set_option linter.unusedVariables false
set_option linter.unusedSimpArgs false
set_option maxRecDepth 100000
namespace Go.Proofs.YtikgpedgmnbcaaaGreatDoor.lawAggOwn
open Go.ChangeShapes Go.WideShapes Go.ChangeAt Go.RowKit
open Go.ChangeMaps (open_string shut_string)
theorem own : ownKnob Tryz.prog.godebug = none := by kernel_rfl
theorem laidOut : laidOutB Tryz.prog = true := by kernel_rfl
theorem gTab : Tryz.prog.globalNamed "internal/strconv.uint64pow10" = some 2 := by kernel_rfl
theorem aJt : (Tryz.prog.globals[2]?).map (·.type) = some 252 := by kernel_rfl
theorem gRng : Tryz.prog.globalNamed "strconv.ErrRange" = some 1 := by kernel_rfl
theorem aJv : (Tryz.prog.globals[1]?).map (·.type) = some 106 := by kernel_rfl
theorem gSyn : Tryz.prog.globalNamed "strconv.ErrSyntax" = some 0 := by kernel_rfl
theorem aJu : (Tryz.prog.globals[0]?).map (·.type) = some 106 := by kernel_rfl
theorem star : "*" ++ "errors.errorString" = "*errors.errorString" := by decide
theorem aIw (u : TypeId) (h : Tryz.prog.typeName? 3 u = some "*errors.errorString") : u = 265 :=
 typeName_ptr_named (nm := "errors.errorString") (by rw [star]; kernel_rfl) (by kernel_rfl) (by decide) u (by rw [star]; exact h)
theorem numW {W : World} (h : laidMetH Tryz.prog Rows.aggOwnUptoRow.laid W) : NumW W := by
 have h1 : laidMet Tryz.prog [("math/bits.deBruijn32tab", Rows.laid_math_bits_deBruijn32tab), ("math/bits.deBruijn64tab", Rows.laid_math_bits_deBruijn64tab), ("internal/strconv.uint64pow10", Rows.laid_internal_strconv_uint64pow10), ("strconv.ErrRange", Rows.laid_strconv_ErrRange), ("strconv.ErrSyntax", Rows.laid_strconv_ErrSyntax)] W := h
 have h2 := h1.tail.tail
 have h3 := h2.tail
 have h4 := h3.tail
 obtain ⟨a, s, ha, _⟩ := laid_sentinel h3 gRng aJv Tryz.underlying106 aIw Tryz.underlying265 Tryz.underlying267 rfl rfl Tryz.underlying9 (by kernel_rfl) (by kernel_rfl)
 obtain ⟨b, t, hb, _⟩ := laid_sentinel h4 gSyn aJu Tryz.underlying106 aIw Tryz.underlying265 Tryz.underlying267 rfl rfl Tryz.underlying9 (by kernel_rfl) (by kernel_rfl)
 exact ⟨Lib.tabIs_of_head gTab aJt Tryz.underlying252 Tryz.underlying95 (by kernel_rfl) (by kernel_rfl) h2, ⟨_, _, hb⟩, ⟨_, _, ha⟩⟩
theorem aDw {r : bM} (hb : gW.bulk r ≤ 1048576) : r.2.1.length ≤ 1048575 /\ (∀ t ∈ r.1.2.1, t.2.1.size ≤ 1048576) /\ ∀ l ∈ r.2.1, ∀ t ∈ leftOf l :: aS l :: aB l, t.2.1.size ≤ 1048576 := by
 have e : gW.bulk r = (iR.bulk r.1 + ((dA fG.bulk r.2.1 + 1) + 0)) + 1 := rfl
 have ea : ∀ a : aDe, iR.bulk a = ((a.1.size + 1) + ((dA bS.bulk a.2.1 + 1) + 0)) + 1 := fun _ => rfl
 have el : ∀ l : aM, fG.bulk l = (1 + (iR.bulk l.2.1 + (1 + (bS.bulk l.2.2.2.1 + (bS.bulk l.2.2.2.2.1 + 0))))) + 1 := fun _ => rfl
 have et : ∀ t : aE, bS.bulk t = (1 + ((t.2.1.size + 1) + 0)) + 1 := fun _ => rfl
 have h1 := ea r.1
 have h3 := fD fG.bulk (fun l => by show 1 ≤ _ + 1; omega) r.2.1
 refine ⟨by omega, fun t ht => ?_, fun l hl t ht => ?_⟩
 ·have h4 := gA bS.bulk ht
  have h5 := et t
  omega
 ·have h4 := gA fG.bulk hl
  have h5 := el l
  have h6 := ea l.2.1
  have h7 := et t
  have hq1 := et l.2.2.2.1
  have hq2 := et l.2.2.2.2.1
  rcases List.mem_cons.1 ht with h | ht
  ·rw [h]; show l.2.2.2.1.2.1.size ≤ 1048576; omega
  ·rcases List.mem_cons.1 ht with h | ht
   ·rw [h]; show l.2.2.2.2.1.2.1.size ≤ 1048576; omega
   ·have h8 := gA bS.bulk (show t ∈ l.2.1.2.1 from ht)
    omega
theorem aI1 {v u1 : Value} {W : World} (hNW : NumW W) (hv : ∃ cs x, v = .agg cs /\ gW.At W (fun k => k < W.heap.size) cs.toList x /\ gW.bulk x ≤ 1048576)
 (h1 : ∃ ao cap xs, u1 = .slice ao xs.length cap /\ xs.length ≤ cap /\ ElemsAt oD W (fun k => k < W.heap.size) ao xs /\ dA oD.bulk xs + 1 ≤ 1048576) :
 Calls Tryz.prog 7 #[v, u1] W (fun e w' => e = .returned (.bool true) /\ Below W.heap.size W w') := by
 obtain ⟨cs, x, rfl, hx, hb⟩ := hv
 obtain ⟨a1, c1, x1, rfl, _, e1, b1⟩ := h1
 obtain ⟨ha, hcap, ba, bcap, hR, ec⟩ := aDx hx
 have ecs : cs = #[.string x.1.1, .slice ha x.1.2.1.length hcap, .slice ba x.2.1.length bcap] := by
  rw [<- Array.toList_inj, ec]
 obtain ⟨f1, f2⟩ := aIt (r := x) hb
 obtain ⟨f3, f4, f5⟩ := aDw hb
 obtain ⟨l1, l3⟩ := aIx (N := 1048576) (by omega : dA oD.bulk x1 ≤ 1048576)
 rw [ecs]
 refine (aGv (p := x.1.1) (hcap := hcap) (bcap := bcap) (lc := c1) hNW rfl hR.head f1 rfl hR.body f2 (aG3 hb) hR.blen hR.bmax f3 f4 rfl (aE5 e1 fun q hq ss hs => by have := (l3 q hq).2 ss hs; omega) l1 (fun q hq => (l3 q hq).1)).mono ?_
 rintro e w' ⟨v, rfl, hk, rfl⟩
 exact ⟨rfl, hk.below⟩
noncomputable def low : Nat := (World.holding Tryz.prog default ⟨#[], #[], []⟩).heap.size
noncomputable def qQ (os : Os) : World :=
 let w0 := World.holding Tryz.prog os ⟨#[.cells #[.string ⟨#[105, 110, 118, 97, 108, 105, 100, 32, 115, 121, 110, 116, 97, 120]⟩] 267, .cells #[.string ⟨#[118, 97, 108, 117, 101, 32, 111, 117, 116, 32, 111, 102, 32, 114, 97, 110, 103, 101]⟩] 267], #[], []⟩
 {w0 with heap := ((((w0.heap.modify 0 fun
   | .cells _ t frozen => .cells #[.iface 265 (.pointer (some ⟨low, 0, none⟩))] t frozen
   | o => o).modify 1 fun
   | .cells _ t frozen => .cells #[.iface 265 (.pointer (some ⟨low + 1, 0, none⟩))] t frozen
   | o => o).modify 2 fun
   | .cells _ t frozen => .cells (Lib.pow10Tab.map fun z => Value.int .u64 z).toArray t frozen
   | o => o).modify 4 fun
   | .cells _ t frozen => .cells #[.int .u8 0, .int .u8 1, .int .u8 28, .int .u8 2, .int .u8 29, .int .u8 14, .int .u8 24, .int .u8 3, .int .u8 30, .int .u8 22, .int .u8 20, .int .u8 15, .int .u8 25, .int .u8 17, .int .u8 4, .int .u8 8, .int .u8 31, .int .u8 27, .int .u8 13, .int .u8 23, .int .u8 21, .int .u8 19, .int .u8 16, .int .u8 7, .int .u8 26, .int .u8 12, .int .u8 18, .int .u8 6, .int .u8 11, .int .u8 5, .int .u8 10, .int .u8 9] t frozen
   | o => o).modify 5 fun
   | .cells _ t frozen => .cells #[.int .u8 0, .int .u8 1, .int .u8 56, .int .u8 2, .int .u8 57, .int .u8 49, .int .u8 28, .int .u8 3, .int .u8 61, .int .u8 58, .int .u8 42, .int .u8 50, .int .u8 38, .int .u8 29, .int .u8 17, .int .u8 4, .int .u8 62, .int .u8 47, .int .u8 59, .int .u8 36, .int .u8 45, .int .u8 43, .int .u8 51, .int .u8 22, .int .u8 53, .int .u8 39, .int .u8 33, .int .u8 30, .int .u8 24, .int .u8 18, .int .u8 12, .int .u8 5, .int .u8 63, .int .u8 55, .int .u8 48, .int .u8 27, .int .u8 60, .int .u8 41, .int .u8 37, .int .u8 16, .int .u8 46, .int .u8 35, .int .u8 44, .int .u8 21, .int .u8 52, .int .u8 32, .int .u8 23, .int .u8 11, .int .u8 54, .int .u8 26, .int .u8 40, .int .u8 15, .int .u8 34, .int .u8 20, .int .u8 31, .int .u8 10, .int .u8 25, .int .u8 14, .int .u8 19, .int .u8 9, .int .u8 13, .int .u8 8, .int .u8 7, .int .u8 6] t frozen
   | o => o }
theorem aJi (os : Os) : laidMet Tryz.prog Rows.aggOwnUptoRow.laid ((qQ os).forCall (fun _ _ => 0) ⟨#[], #[.agg #[.string ⟨#[]⟩, .slice none 0 0, .slice none 0 0], .slice none 0 0], []⟩).memory :=
 laidMet_of_run' 8 (by kernel_rfl) (by kernel_rfl)
theorem reads (os : Os) {H : Type} (enc : TypeId × Value -> H) : ∃ places, DataW.whole enc Tryz.prog ((qQ os).forCall (fun _ _ => 0) ⟨#[], #[.agg #[.string ⟨#[]⟩, .slice none 0 0, .slice none 0 0], .slice none 0 0], []⟩).memory Tryz.f7.params.toList Rows.aggOwnSpec.vars false #[Value.agg #[.string ⟨#[]⟩, .slice none 0 0, .slice none 0 0], .slice none 0 0].toList 8 = some ([.agg [.agg [.lit (.string []), .nil], .nil], .nil], [], places) :=
 ⟨[], by kernel_rfl⟩
theorem lifted (os : Os) (started : os.Started) (H : Type) (enc : TypeId × Value -> H) (F : Stop.Interp) :
 ReturnsInHanded {} Tryz.checked os 7 .any ((Rows.OpenSpec.upto Rows.aggOwnSpec).preRow enc Tryz.prog Tryz.f7 Rows.aggOwnUptoRow.domain false Rows.aggOwnUptoRow.laid) (((Rows.OpenSpec.upto Rows.aggOwnSpec).at F).post enc Tryz.prog Tryz.f7 false true false false) := by
 obtain ⟨places, hx⟩ := reads os enc
 refine returnsInHanded_of_row (C := Tryz.checked) (s := Rows.OpenSpec.upto Rows.aggOwnSpec) own started (by kernel_rfl) Tryz.func7
  (witness_row_atRef (enc := enc) (C := Tryz.checked) false (qQ os) #[.agg #[.string ⟨#[]⟩, .slice none 0 0, .slice none 0 0], .slice none 0 0] rfl (by kernel_rfl) (by kernel_rfl) (by kernel_rfl)
   (OpenSpec.preRow_of_cond 8 hx (by kernel_rfl) (fun k hk => by cases hk; kernel_rfl) (by kernel_rfl) (aJi os))) ?_
 intro W base args ds gs before hval0 hW hdom hcond hroom hL hmet hsz
 have hcnd := hcond _ rfl
 have hk : Rows.uptoSmall H (ds ++ gs) = true := hcnd
 have hNW := numW hL
 clear hcnd hL hcond
 have hval : ∀ (j : Nat) t v, Tryz.f7.params[j]? = some t -> args[j]? = some v -> Value.okWide Tryz.prog W .any base t v := hval0
 have hW' := hW
 obtain ⟨p, q, hA0, hV, rfl, hfz, hnd⟩ := hW
 have hA : DataW.TrodAll enc Tryz.prog W 0 (fun _ => true) true Tryz.f7.params.toList args.toList ds p := hA0
 rw [Tryz.params7] at hA hval
 obtain ⟨v0, vs0, d0, ds0, p0, q0, hargs, rfl, rfl, h0, r0⟩ := trodAll_cons hA
 obtain ⟨v1, vs1, d1, ds1, p1, q1, rfl, rfl, rfl, h1, r1⟩ := trodAll_cons r0
 obtain ⟨rfl, rfl, rfl⟩ := trodAll_nil r1
 obtain rfl : args = #[v0, v1] := by cases args; simp_all
 obtain ⟨rfl, rfl⟩ := trodVars_none hV
 have lt0 : ∀ x ∈ p0, x.block < W.heap.size := by obtain ⟨m, hm⟩ := h0; exact DataW.trod_lt m _ _ _ hm
 have lt1 : ∀ x ∈ p1, x.block < W.heap.size := by obtain ⟨m, hm⟩ := h1; exact DataW.trod_lt m _ _ _ hm
 clear hA0 hval0
 simp only [List.append_nil] at hk
 have hk1 : Rows.uptoBulkAll [d0, d1] ≤ 1048576 := of_decide_eq_true hk
 clear hk
 have x0 : ∃ cs x, v0 = .agg cs /\ gW.At W (fun k => k < W.heap.size) cs.toList x /\ gW.bulk x ≤ 1048576 := by
  obtain ⟨cs, rfl, hcs⟩ := okWide_struct Tryz.underlying43 (hval 0 43 v0 rfl rfl)
  obtain ⟨x, hx, hb⟩ := gW.arg h0 (aGc hk1 (by simp))
  exact ⟨cs, x, rfl, hx, hb⟩
 have x1 := aH6 (s := oD) Tryz.underlying44 (by kernel_rfl) (by exact (by decide : 0 < 3)) (hval 1 44 v1 rfl rfl) h1 (N := 1048576) (aGc hk1 (by simp))
 refine (aI1 hNW x0 x1).mono fun e W' ⟨he, bel⟩ => ?_
 subst he
 exact ⟨_, rfl, _, _, _, [], _, [], hW', trodAll_mk1 (shut_bool Tryz.underlying4 _), (trodAll_cons_mk (Below.trod laidOut (by kernel_rfl) (of_decide_eq_true (by kernel_rfl)) h0 bel lt0) (trodAll_cons_mk (Below.trod laidOut (by kernel_rfl) (of_decide_eq_true (by kernel_rfl)) h1 bel lt1) trodAll_mk0)), rfl, bel.frame _, fun h => by cases h⟩
theorem over : Rows.AggOwnUptoSaid :=
 OpenClaim.holds_of_cond 7 Tryz.f7 rfl rfl rfl rfl rfl rfl rfl ⟨rfl, rfl, rfl, rfl, rfl⟩ rfl rfl rfl rfl rfl (by kernel_rfl) Tryz.func7 (by kernel_rfl)
  (of_decide_eq_true (by kernel_rfl)) (by unfold Func.isWrapper; first | (rw [if_pos (by decide +kernel)]; kernel_rfl) | (rw [if_neg (by decide +kernel)]; exact ⟨rfl, rfl⟩))
  (fun os started H enc _ F => by rw [OpenClaim.pre_eq_preRow]; exact lifted os started H enc F)
theorem plain (f : FuncId) (fn : Func) (hf : Tryz.pinned.checked.prog.funcNamed "sibyl/sibyllaw15.AggOwn" = some f) (hfn : Tryz.pinned.checked.prog.funcs[f]? = some fn) :
 true = Tryz.pinned.checked.prog.looks [] /\ ∀ (j : Nat) t, fn.params[j]? = some t -> Tryz.pinned.checked.prog.wantsStandIn t = false := by
 obtain rfl : f = 7 := Option.some.inj ((show Tryz.prog.funcNamed "sibyl/sibyllaw15.AggOwn" = some 7 by kernel_rfl).symm.trans hf) |>.symm
 obtain rfl : fn = Tryz.f7 := (Option.some.inj (Tryz.func7.symm.trans hfn)).symm
 refine ⟨by kernel_rfl, fun j t ht => ?_⟩
 rw [Tryz.params7] at ht
 have hm : t = 43 \/ t = 44 := by simpa using Array.mem_of_getElem? ht
 rcases hm with rfl | rfl
 ·exact (show Tryz.prog.wantsStandIn 43 = false by kernel_rfl)
 ·exact (show Tryz.prog.wantsStandIn 44 = false by kernel_rfl)
theorem proved : Rows.AggOwnUptoCardSaid :=
 Claim7.holds_tied_plain_at .later [] _ _ _ _ over (fun _ h => by cases h) (by kernel_rfl) (fun _ h => by cases h) aggOwnUpto_row_tie rfl ⟨rfl, rfl⟩ (by kernel_rfl) rfl plain (by kernel_rfl)
#print axioms proved
end Go.Proofs.YtikgpedgmnbcaaaGreatDoor.lawAggOwn
