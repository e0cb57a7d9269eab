/- Texts joined for a claim (MatSt, MatAdd, MatPut, MatchPlain, MatchSt, Match, AllWalk, Over). -/
import Derived.Test.YtinnmeiphbdogaaGreatOw6
set_option linter.unusedVariables false
set_option linter.unusedSimpArgs false
/- join: a matcher while it is made. -/
namespace Go.Proofs.YtinnmeiphbdogaaGreat
open Go.RowKit Go.Shelf
attribute [local go_sem] Oper.semAt_some
def vY (mb ab sb nv : Nat) (tv : Value) (av sv : Nat -> Value) (k : Nat) : Prop := k = mb \/ k = ab \/ k = sb \/ tv.ownBlock = some k \/ (∃ v, v < nv /\ (av v).ownBlock = some k) \/ ∃ j, j < nv + 1 /\ (sv j).ownBlock = some k
def fM (E : Nat -> Prop) (mb ab sb nv : Nat) (tv : Value) (av sv : Nat -> Value) (k : Nat) : Prop := vY mb ab sb nv tv av sv k \/ E k
def HeldF (lo : Nat) (own : Nat -> Prop) (w : World) (P : World -> Prop) : Prop := ∃ a b, lo ≤ a /\ b ≤ w.heap.size /\ Fast a b w P /\ ∀ k, own k -> ¬ (a ≤ k /\ k < b)
theorem HeldF.turn {lo : Nat} {own own' : Nat -> Prop} {w w' : World} {P : World -> Prop} {F : Nat -> Prop} (h : HeldF lo own w P) (hk : Kp F w w') (hF : ∀ k, F k -> k < w.heap.size -> own k) (ho : ∀ k, own' k -> own k \/ w.heap.size ≤ k) : HeldF lo own' w' P := by
 obtain ⟨a, b, h1, h2, h3, h4⟩ := h
 refine ⟨a, b, h1, Nat.le_trans h2 hk.size, h3.kp (G := F) hk fun k hf hab => h4 k (hF k hf (by omega)) hab, fun k hk' hab => ?_⟩
 rcases ho k hk' with h | h
 ·exact h4 k h hab
 ·omega
theorem HeldF.here {lo : Nat} {own : Nat -> Prop} {w : World} {P : World -> Prop} (h : HeldF lo own w P) : Fast lo w.heap.size w P := by
 obtain ⟨a, b, h1, h2, h3, h4⟩ := h
 exact h3.mono h1 h2
theorem pO (f : Nat -> Value) {n v : Nat} (hv : v < n) (x : Value) : ((List.range n).map f).set v x = (List.range n).map (bP f v x) := by
 refine List.ext_getElem (by simp) fun i h1 h2 => ?_
 have hi : i < n := by simpa using h2
 rw [List.getElem_set]
 simp only [List.getElem_map, List.getElem_range]
 by_cases e : v = i
 ·rw [if_pos e, <- e, upd_same]
 ·rw [if_neg e, aH _ _ fun e2 => e e2.symm]
theorem dQ (f : Nat -> Value) {n v : Nat} (hv : v < n) : ((List.range n).map f)[v]? = some (f v) := by rw [List.getElem?_map, List.getElem?_range hv]; rfl
theorem bN {F : Nat -> Prop} {w w' : World} {g : Nat} {cs : List Value} {e e' : TypeId} (h : Blk w g cs e') (hk : Kp F w w') (hF : ∀ k, F k -> ∃ cs, Blk w k cs e) (hne : e ≠ e') : Blk w' g cs e' := h.kp hk fun hf => by
 obtain ⟨cs, hb⟩ := hF _ hf
 exact hne (aM hb h)
theorem cB {F : Nat -> Prop} {w w' : World} {e e' : TypeId} {k n : Nat} {v : Value} {xs : List Value} {M : Nat -> Prop} (h : Row w e' k v n xs M) (hk : Kp F w w') (hF : ∀ k, F k -> ∃ cs, Blk w k cs e) (hne : e ≠ e') : Row w' e' k v n xs M := h.kp' hk fun g hg _ hf => by
 obtain ⟨cs, hb⟩ := hF _ hf
 obtain ⟨cs2, hb2⟩ := aP h hg
 exact hne (aM hb hb2)
def aDb (l : List Nat) : List Value := ints (l.map fun (j : Nat) => (j : Int))
theorem aF8 (l : List Nat) (x : Nat) : aDb (l ++ [x]) = aDb l ++ [.int .i64 (x : Nat)] := by unfold aDb ints; simp
structure MatSt (E : Nat -> Prop) (lo : Nat) (w0 w : World) (mb ab sb nv : Nat) (na : Option Addr) (nc : Nat) (Ts : List TrieZ) (ats : Nat -> List Nat) (tests : Nat -> List TestZ) (tv : Value) (av sv : Nat -> Value) : Prop where
 box : Blk w mb [.slice na nv nc, tv, .slice (some ⟨ab, 0, none⟩) nv nv, .slice (some ⟨sb, 0, none⟩) (nv + 1) (nv + 1)] 172
 ptrs : Row w 187 1 tv Ts.length (Ts.map kO) (fun g => lo ≤ g)
 atB : Blk w ab ((List.range nv).map av) 173
 slB : Blk w sb ((List.range (nv + 1)).map sv) 214
 atR : ∀ v, v < nv -> Row w 3 1 (av v) (ats v).length (aDb (ats v)) (fun g => lo ≤ g)
 slR : ∀ k, k < nv + 1 -> Row w 180 2 (sv k) (tests k).length ((tests k).flatMap lQ) (fun g => lo ≤ g)
 afar : ∀ i j, i < nv -> j < nv -> i ≠ j -> ∀ g, (av i).ownBlock = some g -> (av j).ownBlock ≠ some g
 sfar : ∀ i j, i < nv + 1 -> j < nv + 1 -> i ≠ j -> ∀ g, (sv i).ownBlock = some g -> (sv j).ownBlock ≠ some g
 tries : ∀ t ∈ Ts, HeldF lo (fM E mb ab sb nv tv av sv) w fun W => TrieAt W t.tb t.W t.vs.length
 tells : ∀ k, k < nv + 1 -> ∀ t ∈ tests k, HeldF lo (fM E mb ab sb nv tv av sv) w fun W => TestOk W nv t
 new : lo ≤ mb /\ lo ≤ ab /\ lo ≤ sb
 low : w0.heap.size ≤ lo
 kp : Ext w0 w
theorem gU : 172 ≠ 187 /\ 172 ≠ 173 /\ 172 ≠ 214 /\ 172 ≠ 3 /\ 172 ≠ 180 /\ 187 ≠ 173 /\ 187 ≠ 214 /\ 187 ≠ 3 /\ 187 ≠ 180 /\
 173 ≠ 214 /\ 173 ≠ 3 /\ 173 ≠ 180 /\ 214 ≠ 3 /\ 214 ≠ 180 /\ 3 ≠ 180 := by decide
section
variable {E : Nat -> Prop} {lo : Nat} {w0 w w' : World} {mb ab sb nv nc : Nat} {na : Option Addr} {Ts : List TrieZ} {ats : Nat -> List Nat} {tests : Nat -> List TestZ} {tv : Value} {av sv : Nat -> Value}
theorem MatSt.ext (h : MatSt E lo w0 w mb ab sb nv na nc Ts ats tests tv av sv) (hk : Ext w w') : MatSt E lo w0 w' mb ab sb nv na nc Ts ats tests tv av sv :=
 ⟨h.box.ext hk, h.ptrs.ext hk, h.atB.ext hk, h.slB.ext hk, fun v hv => (h.atR v hv).ext hk, fun v hv => (h.slR v hv).ext hk, h.afar, h.sfar, fun t ht => (h.tries t ht).turn hk (fun _ h => h.elim) fun k hk => .inl hk, fun k hk' t ht => (h.tells k hk' t ht).turn hk (fun _ h => h.elim) fun k hk => .inl hk, h.new, h.low, h.kp.trans hk⟩
theorem MatSt.congr {ats' : Nat -> List Nat} {tests' : Nat -> List TestZ} (h : MatSt E lo w0 w mb ab sb nv na nc Ts ats tests tv av sv) (h1 : ∀ i, i < nv -> ats i = ats' i) (h2 : ∀ i, i < nv + 1 -> tests i = tests' i) : MatSt E lo w0 w mb ab sb nv na nc Ts ats' tests' tv av sv :=
 ⟨h.box, h.ptrs, h.atB, h.slB, fun v hv => by rw [<- h1 v hv]; exact h.atR v hv, fun v hv => by rw [<- h2 v hv]; exact h.slR v hv, h.afar, h.sfar, h.tries, fun k hk t ht => h.tells k hk t (by rw [h2 k hk]; exact ht), h.new, h.low, h.kp⟩
theorem MatSt.lt (h : MatSt E lo w0 w mb ab sb nv na nc Ts ats tests tv av sv) : ∀ k, vY mb ab sb nv tv av sv k -> k < w.heap.size := fun k hk => by
 rcases hk with rfl | rfl | rfl | hk | ⟨v, hv, hk⟩ | ⟨v, hv, hk⟩
 ·exact h.box.lt
 ·exact h.atB.lt
 ·exact h.slB.lt
 ·exact h.ptrs.lt k hk
 ·exact (h.atR v hv).lt k hk
 ·exact (h.slR v hv).lt k hk
theorem MatSt.beside {E' : Nat -> Prop} (h : MatSt E lo w0 w mb ab sb nv na nc Ts ats tests tv av sv) (hE : ∀ k, E' k -> E k \/ w.heap.size ≤ k) : MatSt E' lo w0 w mb ab sb nv na nc Ts ats tests tv av sv :=
 ⟨h.box, h.ptrs, h.atB, h.slB, h.atR, h.slR, h.afar, h.sfar, fun t ht => (h.tries t ht).turn (Kp.refl (F := fun _ => False) _) (fun _ h => h.elim) fun k hk => hk.elim (fun h => .inl (.inl h)) fun h => (hE k h).imp .inr id, fun k hk' t ht => (h.tells k hk' t ht).turn (Kp.refl (F := fun _ => False) _) (fun _ h => h.elim) fun k hk => hk.elim (fun h => .inl (.inl h)) fun h => (hE k h).imp .inr id, h.new, h.low, h.kp⟩
theorem MatSt.wrote {F : Nat -> Prop} (h : MatSt E lo w0 w mb ab sb nv na nc Ts ats tests tv av sv) (hk : Kp F w w') (hF : ∀ k, F k -> E k /\ ¬ vY mb ab sb nv tv av sv k /\ w0.heap.size ≤ k) : MatSt E lo w0 w' mb ab sb nv na nc Ts ats tests tv av sv :=
 ⟨h.box.kp hk fun hf => (hF _ hf).2.1 (.inl rfl), h.ptrs.kp' hk fun g hg _ hf => (hF _ hf).2.1 (.inr (.inr (.inr (.inl hg)))), h.atB.kp hk fun hf => (hF _ hf).2.1 (.inr (.inl rfl)), h.slB.kp hk fun hf => (hF _ hf).2.1 (.inr (.inr (.inl rfl))),
  fun v hv => (h.atR v hv).kp' hk fun g hg _ hf => (hF _ hf).2.1 (.inr (.inr (.inr (.inr (.inl ⟨v, hv, hg⟩))))), fun v hv => (h.slR v hv).kp' hk fun g hg _ hf => (hF _ hf).2.1 (.inr (.inr (.inr (.inr (.inr ⟨v, hv, hg⟩))))), h.afar, h.sfar,
  fun t ht => (h.tries t ht).turn hk (fun k hf _ => .inr (hF k hf).1) fun k hk => .inl hk, fun k hk' t ht => (h.tells k hk' t ht).turn hk (fun k hf _ => .inr (hF k hf).1) fun k hk => .inl hk, h.new, h.low, h.kp.trans' hk fun i hi hf => by have := (hF i hf).2.2; omega⟩
theorem MatSt.putAt (h : MatSt E lo w0 w mb ab sb nv na nc Ts ats tests tv av sv) {v : Nat} (hv : v < nv) {x : Nat} {v' : Value} (hr : Row w' 3 1 v' ((ats v).length + 1) (aDb (ats v) ++ [.int .i64 (x : Nat)]) (fun g => (av v).ownBlock = some g \/ w.heap.size ≤ g)) (hk : Kp (fun g => (av v).ownBlock = some g) w w') :
 MatSt E lo w0 (w'.setCell ⟨ab, v, none⟩ v') mb ab sb nv na nc Ts (bP ats v (ats v ++ [x])) tests tv (bP av v v') sv := by
 obtain ⟨t1, t2, t3, t4, t5, t6, t7, t8, t9, t10, t11, t12, t13, t14, t15⟩ := gU
 have ks : Kp (fun k => k = ab) w' (w'.setCell ⟨ab, v, none⟩ v') := Kp.setCell (F := fun k => k = ab) (p := ⟨ab, v, none⟩) (Kp.refl w') (fun _ => rfl) _
 have own : ∀ g, (av v).ownBlock = some g -> ∃ cs, Blk w g cs 3 := fun g hg => aP (h.atR v hv) hg
 have hatB : Blk w' ab ((List.range nv).map av) 173 := bN h.atB hk own (Ne.symm t11)
 have own2 : ∀ g, g = ab -> ∃ cs, Blk w' g cs 173 := fun g e => by rw [e]; exact ⟨_, hatB⟩
 have hkp : Ext w0 w' := h.kp.trans' hk fun g hg e => by have h2 : lo ≤ g := (h.atR v hv).block g e; have := h.low; omega
 have hsz := hk.size
 have lowsz : lo ≤ w.heap.size := Nat.le_trans h.new.1 (Nat.le_of_lt h.box.lt)
 have ho : ∀ k, vY mb ab sb nv tv (bP av v v') sv k -> vY mb ab sb nv tv av sv k \/ w.heap.size ≤ k := fun k hk' => by
  rcases hk' with e | e | e | e | ⟨u, hu, e⟩ | e
  ·exact .inl (.inl e)
  ·exact .inl (.inr (.inl e))
  ·exact .inl (.inr (.inr (.inl e)))
  ·exact .inl (.inr (.inr (.inr (.inl e))))
  ·by_cases e2 : u = v
   ·subst e2
    rw [upd_same] at e
    rcases hr.block k e with h3 | h3
    ·exact .inl (.inr (.inr (.inr (.inr (.inl ⟨u, hu, h3⟩)))))
    ·exact .inr h3
   ·rw [aH _ _ e2] at e
    exact .inl (.inr (.inr (.inr (.inr (.inl ⟨u, hu, e⟩)))))
  ·exact .inl (.inr (.inr (.inr (.inr (.inr e)))))
 have hkk : Kp (fun k => (av v).ownBlock = some k \/ k = ab) w (w'.setCell ⟨ab, v, none⟩ v') := (hk.mono fun k _ h => Or.inl h).trans (ks.mono fun k _ h => Or.inr h)
 have turn : ∀ {P : World -> Prop}, HeldF lo (fM E mb ab sb nv tv av sv) w P -> HeldF lo (fM E mb ab sb nv tv (bP av v v') sv) (w'.setCell ⟨ab, v, none⟩ v') P := fun {P} hP =>
  hP.turn hkk (fun k hf _ => by
   rcases hf with hf | hf
   ·exact .inl (.inr (.inr (.inr (.inr (.inl ⟨v, hv, hf⟩)))))
   ·exact .inl (.inr (.inl hf))) fun k hk => hk.elim (fun h => (ho k h).imp .inl id) fun h => .inl (.inr h)
 refine ⟨bN (bN h.box hk own (Ne.symm t4)) ks own2 (Ne.symm t2), cB (cB h.ptrs hk own (Ne.symm t8)) ks own2 (Ne.symm t6), by rw [<- pO av hv]; exact hatB.set _ _, bN (bN h.slB hk own (Ne.symm t13)) ks own2 t10, fun u hu => ?_, fun k hk' => cB (cB (h.slR k hk') hk own t15) ks own2 t12, fun i j hi hj hne g h1 h2 => ?_, h.sfar, fun t ht => turn (h.tries t ht), fun k hk' t ht => turn (h.tells k hk' t ht), h.new, h.low, hkp.trans' ks fun g hg e => by have e' : g = ab := e; have := h.new.2.1; have := h.low; omega⟩
 ·by_cases e : u = v
  ·subst e
   rw [upd_same, upd_same, List.length_append, List.length_singleton, aF8]
   refine (cB hr ks own2 t11).mono fun g hg => ?_
   rcases hg with hg | hg
   ·exact (h.atR u hu).block g hg
   ·omega
  ·rw [aH _ _ e, aH _ _ e]
   exact cB ((h.atR u hu).kp' hk fun g hg _ hf => h.afar v u hv hu (fun e2 => e e2.symm) g hf hg) ks own2 t11
 ·by_cases e1 : i = v
  ·subst e1
   rw [upd_same] at h1
   rw [aH _ _ (fun e => hne e.symm)] at h2
   rcases hr.block g h1 with h3 | h3
   ·exact h.afar i j hi hj hne g h3 h2
   ·have := (h.atR j hj).lt g h2; omega
  ·rw [aH _ _ e1] at h1
   by_cases e2 : j = v
   ·subst e2
    rw [upd_same] at h2
    rcases hr.block g h2 with h3 | h3
    ·exact h.afar i j hi hj hne g h1 h3
    ·have := (h.atR i hi).lt g h1; omega
   ·rw [aH _ _ e2] at h2
    exact h.afar i j hi hj hne g h1 h2
theorem MatSt.putSl (h : MatSt E lo w0 w mb ab sb nv na nc Ts ats tests tv av sv) {v : Nat} (hv : v < nv + 1) {x : TestZ} (hx : HeldF lo (fM E mb ab sb nv tv av sv) w fun W => TestOk W nv x) {v' : Value} (hr : Row w' 180 2 v' ((tests v).length + 1) ((tests v).flatMap lQ ++ lQ x) (fun g => (sv v).ownBlock = some g \/ w.heap.size ≤ g)) (hk : Kp (fun g => (sv v).ownBlock = some g) w w') :
 MatSt E lo w0 (w'.setCell ⟨sb, v, none⟩ v') mb ab sb nv na nc Ts ats (bP tests v (tests v ++ [x])) tv av (bP sv v v') := by
 obtain ⟨t1, t2, t3, t4, t5, t6, t7, t8, t9, t10, t11, t12, t13, t14, t15⟩ := gU
 have ks : Kp (fun k => k = sb) w' (w'.setCell ⟨sb, v, none⟩ v') := Kp.setCell (F := fun k => k = sb) (p := ⟨sb, v, none⟩) (Kp.refl w') (fun _ => rfl) _
 have own : ∀ g, (sv v).ownBlock = some g -> ∃ cs, Blk w g cs 180 := fun g hg => aP (h.slR v hv) hg
 have hslB : Blk w' sb ((List.range (nv + 1)).map sv) 214 := bN h.slB hk own (Ne.symm t14)
 have own2 : ∀ g, g = sb -> ∃ cs, Blk w' g cs 214 := fun g e => by rw [e]; exact ⟨_, hslB⟩
 have hkp : Ext w0 w' := h.kp.trans' hk fun g hg e => by have h2 : lo ≤ g := (h.slR v hv).block g e; have := h.low; omega
 have hsz := hk.size
 have lowsz : lo ≤ w.heap.size := Nat.le_trans h.new.1 (Nat.le_of_lt h.box.lt)
 have ho : ∀ k, vY mb ab sb nv tv av (bP sv v v') k -> vY mb ab sb nv tv av sv k \/ w.heap.size ≤ k := fun k hk' => by
  rcases hk' with e | e | e | e | e | ⟨u, hu, e⟩
  ·exact .inl (.inl e)
  ·exact .inl (.inr (.inl e))
  ·exact .inl (.inr (.inr (.inl e)))
  ·exact .inl (.inr (.inr (.inr (.inl e))))
  ·exact .inl (.inr (.inr (.inr (.inr (.inl e)))))
  ·by_cases e2 : u = v
   ·subst e2
    rw [upd_same] at e
    rcases hr.block k e with h3 | h3
    ·exact .inl (.inr (.inr (.inr (.inr (.inr ⟨u, hu, h3⟩)))))
    ·exact .inr h3
   ·rw [aH _ _ e2] at e
    exact .inl (.inr (.inr (.inr (.inr (.inr ⟨u, hu, e⟩)))))
 have hkk : Kp (fun k => (sv v).ownBlock = some k \/ k = sb) w (w'.setCell ⟨sb, v, none⟩ v') := (hk.mono fun k _ h => Or.inl h).trans (ks.mono fun k _ h => Or.inr h)
 have turn : ∀ {P : World -> Prop}, HeldF lo (fM E mb ab sb nv tv av sv) w P -> HeldF lo (fM E mb ab sb nv tv av (bP sv v v')) (w'.setCell ⟨sb, v, none⟩ v') P := fun {P} hP =>
  hP.turn hkk (fun k hf _ => by
   rcases hf with hf | hf
   ·exact .inl (.inr (.inr (.inr (.inr (.inr ⟨v, hv, hf⟩)))))
   ·exact .inl (.inr (.inr (.inl hf)))) fun k hk => hk.elim (fun h => (ho k h).imp .inl id) fun h => .inl (.inr h)
 refine ⟨bN (bN h.box hk own (Ne.symm t5)) ks own2 (Ne.symm t3), cB (cB h.ptrs hk own (Ne.symm t9)) ks own2 (Ne.symm t7), bN (bN h.atB hk own (Ne.symm t12)) ks own2 (Ne.symm t10), by rw [<- pO sv hv]; exact hslB.set _ _, fun u hu => cB (cB (h.atR u hu) hk own (Ne.symm t15)) ks own2 t13, fun u hu => ?_, h.afar, fun i j hi hj hne g h1 h2 => ?_, fun t ht => turn (h.tries t ht), fun k hk' t ht => ?_, h.new, h.low, hkp.trans' ks fun g hg e => by have e' : g = sb := e; have := h.new.2.2; have := h.low; omega⟩
 ·by_cases e : u = v
  ·subst e
   rw [upd_same, upd_same, List.length_append, List.length_singleton, List.flatMap_append, List.flatMap_singleton]
   refine (cB hr ks own2 t14).mono fun g hg => ?_
   rcases hg with hg | hg
   ·exact (h.slR u hu).block g hg
   ·omega
  ·rw [aH _ _ e, aH _ _ e]
   exact cB ((h.slR u hu).kp' hk fun g hg _ hf => h.sfar v u hv hu (fun e2 => e e2.symm) g hf hg) ks own2 t14
 ·by_cases e1 : i = v
  ·subst e1
   rw [upd_same] at h1
   rw [aH _ _ (fun e => hne e.symm)] at h2
   rcases hr.block g h1 with h3 | h3
   ·exact h.sfar i j hi hj hne g h3 h2
   ·have := (h.slR j hj).lt g h2; omega
  ·rw [aH _ _ e1] at h1
   by_cases e2 : j = v
   ·subst e2
    rw [upd_same] at h2
    rcases hr.block g h2 with h3 | h3
    ·exact h.sfar i j hi hj hne g h1 h3
    ·have := (h.slR i hi).lt g h1; omega
   ·rw [aH _ _ e2] at h2
    exact h.sfar i j hi hj hne g h1 h2
 ·by_cases e : k = v
  ·subst e
   rw [upd_same] at ht
   rcases List.mem_append.1 ht with ht | ht
   ·exact turn (h.tells k hk' t ht)
   ·rw [List.mem_singleton] at ht
    rw [ht]; exact turn hx
  ·rw [aH _ _ e] at ht
   exact turn (h.tells k hk' t ht)
theorem MatSt.putTr (h : MatSt E lo w0 w mb ab sb nv na nc Ts ats tests tv av sv) {x : TrieZ} (hx : HeldF lo (fM E mb ab sb nv tv av sv) w fun W => TrieAt W x.tb x.W x.vs.length) {v' : Value} (hr : Row w' 187 1 v' (Ts.length + 1) (Ts.map kO ++ [kO x]) (fun g => tv.ownBlock = some g \/ w.heap.size ≤ g)) (hk : Kp (fun g => tv.ownBlock = some g) w w') :
 MatSt E lo w0 (w'.setCell ⟨mb, 1, none⟩ v') mb ab sb nv na nc (Ts ++ [x]) ats tests v' av sv := by
 obtain ⟨t1, t2, t3, t4, t5, t6, t7, t8, t9, t10, t11, t12, t13, t14, t15⟩ := gU
 have ks : Kp (fun k => k = mb) w' (w'.setCell ⟨mb, 1, none⟩ v') := Kp.setCell (F := fun k => k = mb) (p := ⟨mb, 1, none⟩) (Kp.refl w') (fun _ => rfl) _
 have own : ∀ g, tv.ownBlock = some g -> ∃ cs, Blk w g cs 187 := fun g hg => aP h.ptrs hg
 have hbox := bN h.box hk own (Ne.symm t1)
 have own2 : ∀ g, g = mb -> ∃ cs, Blk w' g cs 172 := fun g e => by rw [e]; exact ⟨_, hbox⟩
 have hkp : Ext w0 w' := h.kp.trans' hk fun g hg e => by have h2 : lo ≤ g := h.ptrs.block g e; have := h.low; omega
 have hsz := hk.size
 have lowsz : lo ≤ w.heap.size := Nat.le_trans h.new.1 (Nat.le_of_lt h.box.lt)
 have ho : ∀ k, vY mb ab sb nv v' av sv k -> vY mb ab sb nv tv av sv k \/ w.heap.size ≤ k := fun k hk' => by
  rcases hk' with e | e | e | e | e | e
  ·exact .inl (.inl e)
  ·exact .inl (.inr (.inl e))
  ·exact .inl (.inr (.inr (.inl e)))
  ·rcases hr.block k e with h3 | h3
   ·exact .inl (.inr (.inr (.inr (.inl h3))))
   ·exact .inr h3
  ·exact .inl (.inr (.inr (.inr (.inr (.inl e)))))
  ·exact .inl (.inr (.inr (.inr (.inr (.inr e)))))
 have hkk : Kp (fun k => tv.ownBlock = some k \/ k = mb) w (w'.setCell ⟨mb, 1, none⟩ v') := (hk.mono fun k _ h => Or.inl h).trans (ks.mono fun k _ h => Or.inr h)
 have turn : ∀ {P : World -> Prop}, HeldF lo (fM E mb ab sb nv tv av sv) w P -> HeldF lo (fM E mb ab sb nv v' av sv) (w'.setCell ⟨mb, 1, none⟩ v') P := fun {P} hP =>
  hP.turn hkk (fun k hf _ => by
   rcases hf with hf | hf
   ·exact .inl (.inr (.inr (.inr (.inl hf))))
   ·exact .inl (.inl hf)) fun k hk => hk.elim (fun h => (ho k h).imp .inl id) fun h => .inl (.inr h)
 refine ⟨hbox.set 1 _, ?_, bN (bN h.atB hk own t6) ks own2 t2, bN (bN h.slB hk own t7) ks own2 t3, fun u hu => cB (cB (h.atR u hu) hk own t8) ks own2 t4, fun u hu => cB (cB (h.slR u hu) hk own t9) ks own2 t5, h.afar, h.sfar, fun t ht => ?_, fun k hk' t ht => turn (h.tells k hk' t ht), h.new, h.low, hkp.trans' ks fun g hg e => by have e' : g = mb := e; have := h.new.1; have := h.low; omega⟩
 ·rw [List.length_append, List.length_singleton, List.map_append, List.map_singleton]
  refine (cB hr ks own2 t1).mono fun g hg => ?_
  rcases hg with hg | hg
  ·exact h.ptrs.block g hg
  ·omega
 ·rcases List.mem_append.1 ht with ht | ht
  ·exact turn (h.tries t ht)
  ·rw [List.mem_singleton] at ht
   rw [ht]; exact turn hx
end
end Go.Proofs.YtinnmeiphbdogaaGreat
/- join: matcher.add: a test more. -/
namespace Go.Proofs.YtinnmeiphbdogaaGreat
open Go.RowKit Go.Shelf
attribute [local go_sem] Oper.semAt_some
theorem aGx : cO Tryz.prog 214 180 2 16 (.agg #[.int .i64 0, .nilFunc]) := ⟨by kernel_rfl, by kernel_rfl, rfl, by decide⟩
theorem aD2 : cO Tryz.prog 168 187 1 8 (.pointer none) := ⟨by kernel_rfl, by kernel_rfl, rfl, by decide⟩
set_option maxRecDepth 100000 in
set_option maxHeartbeats 4000000 in
theorem add_any {E : Nat -> Prop} {lo : Nat} {w0 w : World} {mb ab sb nv nc k : Nat} {na : Option Addr} {Ts : List TrieZ} {ats : Nat -> List Nat} {tests : Nat -> List TestZ} {tv : Value} {av sv : Nat -> Value} {t : TestZ} {L : Int} (h : MatSt E lo w0 w mb ab sb nv na nc Ts ats tests tv av sv) (hL : t.last = L) (hLk : L + 1 = (k : Int)) (hk : k < nv + 1) (hnv : nv ≤ 1048576)
 (hx : HeldF lo (fM E mb ab sb nv tv av sv) w fun W => TestOk W nv t) (hfew : (tests k).length ≤ 1048576) :
 Calls Tryz.prog 119 #[.pointer (some ⟨mb, 0, none⟩), .agg #[.int .i64 L, t.val]] w fun e w' => e = .returned (.tuple #[]) /\ ∃ sv', MatSt E lo w0 w' mb ab sb nv na nc Ts ats (bP tests k (tests k ++ [t])) tv av sv' := by
 obtain ⟨u, eu⟩ : ∃ u, t.val = u := ⟨_, rfl⟩
 rw [eu]
 obtain ⟨gb, egb⟩ : ∃ g, w.heap.size = g := ⟨_, rfl⟩
 obtain ⟨w1, e1⟩ : ∃ x, w.alloc (.cells #[.int .i64 L, u] 180) = x := ⟨_, rfl⟩
 have x1 : Ext w w1 := by rw [<- e1]; exact (Kp.refl w).alloc _
 have hB1 : Blk w1 gb [.int .i64 L, u] 180 := by rw [<- e1, <- egb]; exact Blk.new w _ _
 have H1 := qH (h.ext x1)
 have HB := qH hB1
 have hsv := h.slR k hk
 obtain ⟨ya, yc, esv, _, _⟩ := hsv.shape
 obtain ⟨n, en⟩ : ∃ n, (tests k).length = n := ⟨_, rfl⟩
 rw [en] at esv hsv hfew
 obtain ⟨n1, en1⟩ : ∃ n, nv + 1 = n := ⟨_, rfl⟩
 rw [esv] at hsv
 have HRow := qH (hsv.ext x1)
 have hge : ∀ g, (sv k).ownBlock = some g -> g < gb := fun g hg => by rw [<- egb]; exact (h.slR k hk).lt g hg
 have HJ := qH (show ∀ w', Kp (fun g => (sv k).ownBlock = some g) w1 w' -> (fun w' : World => w'.cell? ⟨mb, 3, none⟩ = some (.slice (some ⟨sb, 0, none⟩) n1 n1) /\ w'.cell? ⟨gb, 0, none⟩ = some (.int .i64 L) /\ w'.cell? ⟨gb, 1, none⟩ = some u /\ w'.cell? ⟨sb, k, none⟩ = some (.slice ya n yc)) w' from fun w' hw' => by
  have own : ∀ g, (sv k).ownBlock = some g -> ∃ cs, Blk w1 g cs 180 := fun g hg => aP ((h.slR k hk).ext x1) hg
  have b1 := bN (h.box.ext x1) hw' own (Ne.symm gU.2.2.2.2.1)
  have b2 := bN (h.slB.ext x1) hw' own (Ne.symm gU.2.2.2.2.2.2.2.2.2.2.2.2.2.1)
  have b3 := hB1.kp hw' fun e => by have := hge gb e; omega
  exact ⟨by rw [b1.cell', <- en1]; rfl, by rw [b3.cell']; rfl, by rw [b3.cell']; rfl, by rw [b2.cell', dQ sv hk, esv]⟩)
 have HH := qH (And.intro hx (And.intro x1 (And.intro hL (And.intro eu (And.intro esv (And.intro en (And.intro hk en1)))))))
 have hwk : IntKind.i64.wrap (L + 1) = (k : Int) := by rw [IntWalk.i64_in _ (by omega)]; exact hLk
 have hu1 : u.oneCell' = true := by rw [<- HH.out.2.2.2.1]; rfl
 have hk1 : k < n1 := by omega
 have hk2 : (k : Int) < (n1 : Int) := by omega
 clear h hx x1 hB1 hsv esv en hge hL eu hLk hk
 go_enter Tryz.func119, Tryz.ntmps119
 go_wp2
 clear e1 egb
 refine aT (fun w' : World => w'.cell? ⟨mb, 3, none⟩ = some (.slice (some ⟨sb, 0, none⟩) n1 n1) /\ w'.cell? ⟨gb, 0, none⟩ = some (.int .i64 L) /\ w'.cell? ⟨gb, 1, none⟩ = some u /\ w'.cell? ⟨sb, k, none⟩ = some (.slice ya n yc)) [19, 20] (by kernel_rfl) (HJ.out _ ((Ext.kp (Kp.refl w1)).drew)) (fun hHeld => ?_)
 refine dF 0 ?_; try simp only [Act.put,sI,sZ,sS]
 refine dF 1 ?_; try simp only [Act.put,sI,sZ,sS]
 refine dF 2 ?_; try simp only [Act.put,sI,sZ,sS]
 refine dI 3 ?_; try simp only [Act.put,sI,sZ,sS]
 refine dF 4 ?_; try simp only [Act.put,sI,sZ,sS]
 refine dI 5 ?_; try simp only [Act.put,sI,sZ,sS]
 refine dF 6 ?_; try simp only [Act.put,sI,sZ,sS]
 refine dF 7 ?_; try simp only [Act.put,sI,sZ,sS]
 refine dF 8 ?_; try simp only [Act.put,sI,sZ,sS]
 refine dF 9 ?_; try simp only [Act.put,sI,sZ,sS]
 refine dI 10 ?_; try simp only [Act.put,sI,sZ,sS]
 refine dF 11 ?_; try simp only [Act.put,sI,sZ,sS]
 refine dI 12 ?_; try simp only [Act.put,sI,sZ,sS]
 refine dF 13 ?_; try simp only [Act.put,sI,sZ,sS]
 refine dI 14 ?_; try simp only [Act.put,sI,sZ,sS]
 refine dI 15 ?_; try simp only [Act.put,sI,sZ,sS]
 refine dI 16 ?_; try simp only [Act.put,sI,sZ,sS]
 refine aE (i := 17) ?_
 refine aF (i := 17) rfl (fun K hK => ?_)
 go_simp
 refine hK.out _ _ ?_ (fun hHeld => ?_)
 ·(try dsimp only); (exact HJ.out _ (((Ext.kp (Kp.refl w1)).drew).alloc _))
 clear hK K; (try simp only [Act.put,sI,sZ,sS])
 refine aE (i := 18) ?_
 refine aF (i := 18) rfl (fun K hK => ?_)
 refine gZ (m := 1) (n := n) aGx rfl _ _ rfl rfl ((HRow.out.ext ((Kp.refl w1).drew)).alloc _) rfl (CellsAt.two w1.drew (.int .i64 L) u 180) (by rfl) (fun x hx => (by rcases List.mem_cons.1 hx with e | hx; exact e ▸ rfl; exact (List.mem_singleton.1 hx) ▸ hu1)) (by omega) (by unfold maxLen; omega) ?_; intro v7 w7 hr7 hk7; obtain ⟨la7, lc7, ev7, _, _⟩ := hr7.shape; subst ev7; have X2 := qH (And.intro (show Row w7 180 2 (.slice la7 (n + 1) lc7) (n + 1) ((tests k).flatMap lQ ++ [.int .i64 L, u]) (fun g => (Value.slice ya n yc).ownBlock = some g \/ (w1.drew.alloc (.cells #[.int .i64 L, u] 180)).heap.size ≤ g) from hr7) (show Kp (fun g => (sv k).ownBlock = some g) w1 w7 from (by rw [HH.out.2.2.2.2.1]; exact (Ext.kp (((Kp.refl w1).drew).alloc _)).trans hk7))); clear hr7 hk7; have X3 := qH (bN H1.out.slB X2.out.2 (fun g hg => aP (H1.out.slR k HH.out.2.2.2.2.2.2.1) hg) (Ne.symm gU.2.2.2.2.2.2.2.2.2.2.2.2.2.1)); have f1 : w7.cell? ⟨sb, k, none⟩ = some (.slice ya n yc) := by { rw [X3.out.cell', dQ sv HH.out.2.2.2.2.2.2.1, HH.out.2.2.2.2.1] }; have ff := X3.out.free k
 refine hK.out _ _ ?_ (fun hHeld => ?_)
 ·(try dsimp only); (exact HJ.out _ X2.out.2)
 clear hK K; (try simp only [Act.put,sI,sZ,sS])
 refine aE (i := 19) ?_
 refine aI (i := 19) rfl (by kernel_rfl) (fun K hK => ?_)
 go_simp
 refine hK.out _ _ ?_
 clear hK K; (try simp only [Act.put,sI,sZ,sS])
 refine aE (i := 20) ?_
 refine aI (i := 20) rfl (by kernel_rfl) (fun K hK => ?_)
 go_simp
 refine hK.out _ _ ?_
 clear hK K; (try simp only [Act.put,sI,sZ,sS])
 refine aK (by kernel_rfl) ?_ _
 clear hHeld
 obtain ⟨hx, x1, hL, eu, esv, en, hk, en1⟩ := HH.out
 have HP := qH (H1.out.putSl hk (hx.turn x1 (fun _ h => h.elim) fun k hk => .inl hk) (w' := w7) (v' := .slice la7 (n + 1) lc7) (by
  have e : lQ t = [.int .i64 L, u] := by unfold lQ; rw [hL, eu]
  rw [en, esv, e]
  exact X2.out.1.mono fun g hg => hg.imp id (fun h => Nat.le_trans (((Kp.refl (F := fun _ => False) w1).drew).alloc _).size h)) X2.out.2)
 clear hx x1 hL eu esv en hk en1
 go_wp2
 go_end0
 exact ⟨rfl, _, HP.out⟩
end Go.Proofs.YtinnmeiphbdogaaGreat
/- join: matcher.put: a table more. -/
namespace Go.Proofs.YtinnmeiphbdogaaGreat
open Go.RowKit Go.Shelf
attribute [local go_sem] Oper.semAt_some
def sN (vs : List Nat) (i nT : Nat) (ats : Nat -> List Nat) (v : Nat) : List Nat := if v ∈ vs.take i then ats v ++ [nT] else ats v
theorem aHd {vs : List Nat} {i nT x : Nat} {ats : Nat -> List Nat} (hx : vs[i]? = some x) (hnd : vs.Nodup) (v : Nat) : bP (sN vs i nT ats) x (sN vs i nT ats x ++ [nT]) v = sN vs (i + 1) nT ats v := by
 have hn : x ∉ vs.take i := fun hm => by
  obtain ⟨j, hj⟩ := List.getElem?_of_mem hm
  have hji : j < i := by
   have := (List.getElem?_eq_some_iff.1 hj).1
   rw [List.length_take] at this; omega
  rw [List.getElem?_take, if_pos hji] at hj
  have := (List.getElem?_inj (List.getElem?_eq_some_iff.1 hj).1 hnd).1 (hj.trans hx.symm)
  omega
 unfold sN
 rw [List.take_add_one, hx]
 by_cases e : v = x
 ·subst e
  rw [upd_same, if_neg hn, if_pos (by simp)]
 ·rw [aH _ _ e]
  by_cases h : v ∈ vs.take i
  ·rw [if_pos h, if_pos (by simp [h])]
  ·rw [if_neg h, if_neg (by simp [h, e])]
theorem HeldF.beside {lo : Nat} {own own' : Nat -> Prop} {w : World} {P : World -> Prop} (h : HeldF lo own w P) (ho : ∀ k, own' k -> own k \/ w.heap.size ≤ k) : HeldF lo own' w P := h.turn (Kp.refl (F := fun _ => False) _) (fun _ h => h.elim) ho
def aKj (P : World -> Prop) (E : Nat -> Prop) (lo : Nat) (w0 : World) (mb ab sb nv : Nat) (na : Option Addr) (nc : Nat) (Ts : List TrieZ) (ats : Nat -> List Nat) (tests : Nat -> List TestZ) (tv : Value) (sv : Nat -> Value) (va : Option Addr) (n vc rb gb ob : Nat) (vs : List Nat) (iv : Value) (W : World) : Prop :=
 ∃ (i : Nat) (av : Nat -> Value), i ≤ n /\ iv = .int .i64 i /\ Hid (MatSt (fun k => E k \/ k = ob) lo w0 W mb ab sb nv na nc Ts (sN vs i Ts.length ats) tests tv av sv) /\ Hid (HeldF lo (fM (fun k => E k \/ k = ob) mb ab sb nv tv av sv) W P) /\
  Hid (Blk W ob (fL i ++ List.replicate (n - i) (.int .i64 0)) 3 /\ (∀ v, v < nv -> (av v).ownBlock ≠ some ob) /\ Blk W gb [.slice va n vc, .pointer (some ⟨rb, 0, none⟩)] 175)
set_option maxRecDepth 100000 in
set_option maxHeartbeats 4000000 in
theorem put_any {E : Nat -> Prop} {S : Nat -> Prop} {lo : Nat} {w0 w : World} {mb ab sb nv nc n vc rb : Nat} {iv : Value} {na va : Option Addr} {Ts : List TrieZ} {ats : Nat -> List Nat} {tests : Nat -> List TestZ} {tv : Value} {av sv : Nat -> Value} {vs : List Nat} {LL : aD} (h : MatSt E lo w0 w mb ab sb nv na nc Ts ats tests tv av sv)
 (hT : HeldF lo (fM E mb ab sb nv tv av sv) w fun W => TableAt S W va rb iv vs LL) (hE : ∀ k, E k -> k < w.heap.size) (hn : n = vs.length) (h0 : 0 < n) (hn64 : n ≤ 64) (hvs : ∀ v ∈ vs, v < nv) (hnd : vs.Nodup) (hlen : ∀ x ∈ LL, x.length = n) (hLL : LL.length ≤ 65536) (hnv : nv ≤ 1048576) (hTs : Ts.length ≤ 1048576) (hats : ∀ v, (ats v).length ≤ 1048576) :
 Calls Tryz.prog 118 #[.pointer (some ⟨mb, 0, none⟩), .agg #[.slice va n vc, .pointer (some ⟨rb, 0, none⟩)]] w fun e w' => e = .returned (.tuple #[]) /\ ∃ tb tv' av', MatSt E lo w0 w' mb ab sb nv na nc (Ts ++ [⟨tb, vs, LL⟩]) (fun v => if v ∈ vs then ats v ++ [Ts.length] else ats v) tests tv' av' sv := by
 obtain ⟨gb, egb⟩ : ∃ g, w.heap.size = g := ⟨_, rfl⟩
 obtain ⟨w1, e1⟩ : ∃ x, w.alloc (.cells #[.slice va n vc, .pointer (some ⟨rb, 0, none⟩)] 175) = x := ⟨_, rfl⟩
 have x1 : Ext w w1 := by rw [<- e1]; exact (Kp.refl w).alloc _
 have hB1 : Blk w1 gb [.slice va n vc, .pointer (some ⟨rb, 0, none⟩)] 175 := by rw [<- e1, <- egb]; exact Blk.new w _ _
 have hs1 : w1.heap.size = gb + 1 := by rw [<- e1, aJ, egb]
 have b0 : w1.cell? ⟨gb, 0, none⟩ = some (.slice va n vc) := by rw [hB1.cell']; rfl
 have b1 : ∀ o, (w1.alloc o).cell? ⟨gb, 0, none⟩ = some (.slice va n vc) := fun o => by rw [(hB1.alloc o).cell']; rfl
 have HB := qH hB1
 have H := qH (And.intro (h.ext x1) (And.intro (hT.turn x1 (fun _ h => h.elim) fun k hk => .inl hk) (And.intro hE (And.intro hn (And.intro hvs (And.intro hnd (And.intro hlen (And.intro hLL (And.intro hats h.lt)))))))))
 have HS := qH (And.intro egb hs1)
 have hmk := iU (P := Tryz.prog) iJ (c := .int .i64 0) rfl n (by omega) (by unfold maxLen; omega) w1
 rw [Nat.mul_one] at hmk
 have hn0 : ((n : Int) == 0) = false := by simp; omega
 clear h hT hE hn hvs hnd hlen hLL hats x1 hB1 hs1
 go_enter Tryz.func118, Tryz.ntmps118
 go_wp2
 clear e1 egb hmk b0 b1
 obtain ⟨ob, eob⟩ : ∃ x, w1.heap.size = x := ⟨_, rfl⟩
 obtain ⟨w2, e2⟩ : ∃ x, w1.alloc (.cells (Array.replicate n (.int .i64 0)) 3) = x := ⟨_, rfl⟩
 have hB2 : Blk w2 ob (List.replicate n (.int .i64 0)) 3 := by
  have h := Blk.new w1 (List.replicate n (.int .i64 0)) 3
  rw [List.toArray_replicate, e2, eob] at h
  exact h
 have x2 : Ext w1 w2 := by rw [<- e2]; exact (Kp.refl w1).alloc _
 rw [eob, e2]
 have hob : ob = gb + 1 := by rw [<- eob]; exact HS.out.2
 have HPut := qH (show aKj (fun W => TableAt S W va rb iv vs LL) E lo w0 mb ab sb nv na nc Ts ats tests tv sv va n vc rb gb ob vs (.int .i64 0) w2 from
  ⟨0, av, Nat.zero_le _, rfl, qH (((H.out.1.beside (E' := fun k => E k \/ k = ob) fun k hk => hk.imp id fun e => by rw [e, <- eob]; exact Nat.le_refl _).ext x2).congr (fun i hi => by unfold sN; rw [if_neg (by simp)]) (fun i hi => rfl)),
   qH ((H.out.2.1.beside (own' := fM (fun k => E k \/ k = ob) mb ab sb nv tv av sv) fun k hk => hk.elim (fun h => .inl (.inl h)) fun h => h.elim (fun h => .inl (.inr h)) fun e => .inr (by rw [e, <- eob]; exact Nat.le_refl _)).turn x2 (fun _ h => h.elim) fun k hk => .inl hk),
   qH ⟨by simpa [fL, ints] using hB2, fun v hv e => by
    have h1 := H.out.2.2.2.2.2.2.2.2.2 ob (.inr (.inr (.inr (.inr (.inl ⟨v, hv, e⟩)))))
    have := HS.out.1
    omega, HB.out.ext x2⟩⟩)
 have HO := qH (And.intro hob x2)
 clear eob e2 hB2 x2 hob
 go_loopw [20] (fun jv wk => aKj (fun W => TableAt S W va rb iv vs LL) E lo w0 mb ab sb nv na nc Ts ats tests tv sv va n vc rb gb ob vs jv wk) (fun jv _ => n - (intOf jv).toNat)
 case atStart => exact HPut.out
 case round =>
  clear HPut
  obtain ⟨i, av2, hi, rfl, hM, hTb, hBs⟩ := hrel
  by_cases hlt : i < n
  ·obtain ⟨x, hx⟩ : ∃ x, vs[i]? = some x := ⟨_, qG (by rw [<- H.out.2.2.2.1]; exact hlt)⟩
   have hxn : x < nv := H.out.2.2.2.2.1 x (List.mem_of_getElem? hx)
   obtain ⟨vb, vo, eva, vc0⟩ := hTb.out.here.here.vars i (.int .i64 x) (by unfold ints; rw [List.map_map, List.getElem?_map, hx]; rfl)
   subst eva
   have HX := qH hx
   clear hx
   have y0 : wr.cell? ⟨ob, i, none⟩ = some (.int .i64 0) := by
    have hl : (fL i).length = i := by unfold fL; rw [aBd, List.length_map, List.length_range]
    rw [hBs.out.1.cell', List.getElem?_append_right (by omega), hl, Nat.sub_self, List.getElem?_replicate, if_pos (by omega)]
   have yf := hBs.out.1.free i
   obtain ⟨W1, eW1⟩ : ∃ x, wr.setCell ⟨ob, i, none⟩ (.int .i64 i) = x := ⟨_, rfl⟩
   have kW : Kp (fun k => k = ob) wr W1 := by rw [<- eW1]; exact Kp.setCell (F := fun k => k = ob) (p := ⟨ob, i, none⟩) (Kp.refl wr) (fun _ => rfl) _
   have hnO : ¬ vY mb ab sb nv tv av2 sv ob := by
    rintro (e | e | e | e | ⟨v, hv, e⟩ | ⟨v, hv, e⟩)
    ·exact absurd (aM (e ▸ hBs.out.1) hM.out.box) (Ne.symm gU.2.2.2.1)
    ·exact absurd (aM (e ▸ hBs.out.1) hM.out.atB) (Ne.symm gU.2.2.2.2.2.2.2.2.2.2.1)
    ·exact absurd (aM (e ▸ hBs.out.1) hM.out.slB) (Ne.symm gU.2.2.2.2.2.2.2.2.2.2.2.2.1)
    ·obtain ⟨cs, hb⟩ := aP hM.out.ptrs e
     exact absurd (aM hb hBs.out.1) gU.2.2.2.2.2.2.2.1
    ·exact hBs.out.2.1 v hv e
    ·obtain ⟨cs, hb⟩ := aP (hM.out.slR v hv) e
     exact absurd (aM hb hBs.out.1) (Ne.symm gU.2.2.2.2.2.2.2.2.2.2.2.2.2.2)
   have hlo : w0.heap.size ≤ ob := by have h1 := H.out.1.kp.size; have h2 := HO.out.1; have h3 := HS.out; have h4 := HO.out.2.size; omega
   have hM1 := qH (hM.out.wrote kW fun k e => by have e' : k = ob := e; rw [e']; exact ⟨.inr rfl, hnO, hlo⟩)
   have hT1 := qH (hTb.out.turn kW (fun k e _ => .inr (.inr e)) fun k hk => .inl hk)
   have hB1 := qH (show Blk W1 ob (fL (i + 1) ++ List.replicate (n - (i + 1)) (.int .i64 0)) 3 /\ Blk W1 gb [.slice (some ⟨vb, vo, none⟩) n vc, .pointer (some ⟨rb, 0, none⟩)] 175 from by
    refine ⟨?_, hBs.out.2.2.kp kW fun e => by have := HO.out.1; omega⟩
    have h5 := hBs.out.1.set i (.int .i64 (i : Nat))
    have hl : (fL i).length = i := by unfold fL; rw [aBd, List.length_map, List.length_range]
    have e5 : (fL i ++ List.replicate (n - i) (Value.int .i64 0)).set i (.int .i64 (i : Nat)) = fL (i + 1) ++ List.replicate (n - (i + 1)) (.int .i64 0) := by
     rw [List.set_append_right _ _ (by omega), hl, Nat.sub_self, show n - i = (n - (i + 1)) + 1 from by omega, List.replicate_succ, List.set_cons_zero]
     have e6 : fL (i + 1) = fL i ++ [.int .i64 (i : Nat)] := by unfold fL ints; rw [List.range_succ]; simp
     rw [e6, List.append_assoc]; rfl
    rw [e5, eW1] at h5
    exact h5)
   have HBN := qH hBs.out.2.1
   clear hM hTb hBs kW hnO hlo
   have i1 : (x : Int) < (nv : Int) := by omega
   have i2 : (i : Int) < (n : Int) := by omega
   go_wp2
   clear eW1 y0 yf vc0
   obtain ⟨ia, ic, eav, _, _⟩ := (hM1.out.atR x hxn).shape
   obtain ⟨nA, enA⟩ : ∃ k, (sN vs i Ts.length ats x).length = k := ⟨_, rfl⟩
   have hnA : nA ≤ 1048577 := by
    rw [<- enA]; unfold sN
    have := H.out.2.2.2.2.2.2.2.2.1 x
    split <;> simp <;> omega
   obtain ⟨ta, tc, etv, _, _⟩ := hM1.out.ptrs.shape
   obtain ⟨nT, enT⟩ : ∃ k, Ts.length = k := ⟨_, rfl⟩
   rw [enA] at eav
   rw [enT] at etv
   have HRow := qH (show Row W1 3 1 (.slice ia nA ic) nA (aDb (sN vs i Ts.length ats x)) (fun g => lo ≤ g) from by have h := hM1.out.atR x hxn; rw [enA, eav] at h; exact h)
   have HE := qH (And.intro eav (And.intro enA (And.intro etv enT)))
   have hown : ∀ g, (av2 x).ownBlock = some g -> ∃ cs, Blk W1 g cs 3 := fun g hg => aP (hM1.out.atR x hxn) hg
   have HOwn := qH hown
   have HJ := qH (show ∀ w', Kp (fun g => (av2 x).ownBlock = some g) W1 w' -> (fun w' : World => w'.cell? ⟨mb, 2, none⟩ = some (.slice (some ⟨ab, 0, none⟩) nv nv) /\ w'.cell? ⟨mb, 1, none⟩ = some (.slice ta nT tc) /\ w'.cell? ⟨ab, x, none⟩ = some (.slice ia nA ic)) w' from fun w' hw' => by
    have b1 := bN hM1.out.box hw' hown (Ne.symm gU.2.2.2.1)
    have b2 := bN hM1.out.atB hw' hown (Ne.symm gU.2.2.2.2.2.2.2.2.2.2.1)
    exact ⟨by rw [b1.cell']; rfl, by rw [b1.cell', etv]; rfl, by rw [b2.cell', dQ av2 hxn, eav]⟩)
   clear hown eav enA etv enT
   refine aT (fun w' : World => w'.cell? ⟨mb, 2, none⟩ = some (.slice (some ⟨ab, 0, none⟩) nv nv) /\ w'.cell? ⟨mb, 1, none⟩ = some (.slice ta nT tc) /\ w'.cell? ⟨ab, x, none⟩ = some (.slice ia nA ic)) [19, 20] (by kernel_rfl) (HJ.out _ ((Ext.kp (Kp.refl W1)).drew)) (fun hHeld => ?_)
   refine dF 0 ?_; try simp only [Act.put,sI,sZ,sS]
   refine dF 1 ?_; try simp only [Act.put,sI,sZ,sS]
   refine dF 2 ?_; try simp only [Act.put,sI,sZ,sS]
   refine dI 3 ?_; try simp only [Act.put,sI,sZ,sS]
   refine dF 4 ?_; try simp only [Act.put,sI,sZ,sS]
   refine dF 5 ?_; try simp only [Act.put,sI,sZ,sS]
   refine dF 6 ?_; try simp only [Act.put,sI,sZ,sS]
   refine dF 7 ?_; try simp only [Act.put,sI,sZ,sS]
   refine dI 8 ?_; try simp only [Act.put,sI,sZ,sS]
   refine dF 9 ?_; try simp only [Act.put,sI,sZ,sS]
   refine dI 10 ?_; try simp only [Act.put,sI,sZ,sS]
   refine dI 11 ?_; try simp only [Act.put,sI,sZ,sS]
   refine dF 12 ?_; try simp only [Act.put,sI,sZ,sS]
   refine dF 13 ?_; try simp only [Act.put,sI,sZ,sS]
   refine dF 14 ?_; try simp only [Act.put,sI,sZ,sS]
   refine dI 15 ?_; try simp only [Act.put,sI,sZ,sS]
   refine dI 16 ?_; try simp only [Act.put,sI,sZ,sS]
   refine aE (i := 17) ?_
   refine aF (i := 17) rfl (fun K hK => ?_)
   go_simp
   refine hK.out _ _ ?_ (fun hHeld => ?_)
   ·(try dsimp only); (exact HJ.out _ (((Ext.kp (Kp.refl W1)).drew).alloc _))
   clear hK K; (try simp only [Act.put,sI,sZ,sS])
   refine aE (i := 18) ?_
   refine aF (i := 18) rfl (fun K hK => ?_)
   refine gZ (m := 1) (n := nA) iJ rfl _ _ rfl rfl ((HRow.out.ext ((Kp.refl W1).drew)).alloc _) rfl (CellsAt.one W1.drew (.int .i64 (nT : Nat)) 3) (by rfl) (by simp; rfl) (by omega) (by unfold maxLen; omega) ?_; intro v7 w7 hr7 hk7; obtain ⟨la7, lc7, ev7, _, _⟩ := hr7.shape; subst ev7; have X2 := qH (And.intro (show Row w7 3 1 (.slice la7 (nA + 1) lc7) (nA + 1) (aDb (sN vs i Ts.length ats x) ++ [.int .i64 (nT : Nat)]) (fun g => (Value.slice ia nA ic).ownBlock = some g \/ (W1.drew.alloc (.cells #[.int .i64 (nT : Nat)] 3)).heap.size ≤ g) from hr7) (show Kp (fun g => (av2 x).ownBlock = some g) W1 w7 from (by rw [HE.out.1]; exact (Ext.kp (((Kp.refl W1).drew).alloc _)).trans hk7))); clear hr7 hk7; have X3 := qH (bN hM1.out.atB X2.out.2 HOwn.out (Ne.symm gU.2.2.2.2.2.2.2.2.2.2.1)); have f1 : w7.cell? ⟨ab, x, none⟩ = some (.slice ia nA ic) := by { rw [X3.out.cell', dQ av2 hxn, HE.out.1] }; have ff := X3.out.free x
   refine hK.out _ _ ?_ (fun hHeld => ?_)
   ·(try dsimp only); (exact HJ.out _ X2.out.2)
   clear hK K; (try simp only [Act.put,sI,sZ,sS])
   refine aE (i := 19) ?_
   refine aI (i := 19) rfl (by kernel_rfl) (fun K hK => ?_)
   go_simp
   refine hK.out _ _ ?_
   clear hK K; (try simp only [Act.put,sI,sZ,sS])
   refine aE (i := 20) ?_
   refine aI (i := 20) rfl (by kernel_rfl) (fun K hK => ?_)
   go_simp
   refine hK.out _ _ ?_
   clear hK K; (try simp only [Act.put,sI,sZ,sS])
   refine aK (by kernel_rfl) ?_ _
   clear hHeld
   have hP := hM1.out.putAt hxn (x := Ts.length) (w' := w7) (v' := .slice la7 (nA + 1) lc7) (by
    rw [HE.out.2.1, HE.out.1]
    have h2 := X2.out.1.mono (M' := fun g => (Value.slice ia nA ic).ownBlock = some g \/ W1.heap.size ≤ g) fun g hg => hg.imp id (fun h => Nat.le_trans (((Kp.refl (F := fun _ => False) W1).drew).alloc (.cells #[.int .i64 (nT : Nat)] 3)).size h)
    rw [<- HE.out.2.2.2] at h2
    exact h2) X2.out.2
   have HP := qH (hP.congr (ats' := sN vs (i + 1) Ts.length ats) (fun j _ => aHd HX.out H.out.2.2.2.2.2.1 j) (fun _ _ => rfl))
   obtain ⟨w8, e8⟩ : ∃ z, w7.setCell ⟨ab, x, none⟩ (.slice la7 (nA + 1) lc7) = z := ⟨_, rfl⟩
   have k78 : Kp (fun k => k = ab) w7 w8 := by rw [<- e8]; exact Kp.setCell (F := fun k => k = ab) (p := ⟨ab, x, none⟩) (Kp.refl w7) (fun _ => rfl) _
   have k18 : Kp (fun k => (av2 x).ownBlock = some k \/ k = ab) W1 w8 := (X2.out.2.mono fun k _ h => Or.inl h).trans (k78.mono fun k _ h => Or.inr h)
   have HT2 := qH (hT1.out.turn (own' := fM (fun k => E k \/ k = ob) mb ab sb nv tv (bP av2 x (.slice la7 (nA + 1) lc7)) sv) k18 (fun k hf _ => by
    rcases hf with hf | hf
    ·exact .inl (.inr (.inr (.inr (.inr (.inl ⟨x, hxn, hf⟩)))))
    ·exact .inl (.inr (.inl hf))) fun k hk => by
    rcases hk with (e | e | e | e | ⟨u, hu, e⟩ | e) | e
    ·exact .inl (.inl (.inl e))
    ·exact .inl (.inl (.inr (.inl e)))
    ·exact .inl (.inl (.inr (.inr (.inl e))))
    ·exact .inl (.inl (.inr (.inr (.inr (.inl e)))))
    ·by_cases e2 : u = x
     ·subst e2
      rw [upd_same] at e
      rcases X2.out.1.block k e with h3 | h3
      ·exact .inl (.inl (.inr (.inr (.inr (.inr (.inl ⟨u, hu, by rw [HE.out.1]; exact h3⟩))))))
      ·exact .inr (Nat.le_trans (((Kp.refl (F := fun _ => False) W1).drew).alloc _).size h3)
     ·rw [aH _ _ e2] at e
      exact .inl (.inl (.inr (.inr (.inr (.inr (.inl ⟨u, hu, e⟩))))))
    ·exact .inl (.inl (.inr (.inr (.inr (.inr (.inr e))))))
    ·exact .inl (.inr e))
   have HBx := qH (show Blk w8 ob (fL (i + 1) ++ List.replicate (n - (i + 1)) (.int .i64 0)) 3 /\ (∀ v, v < nv -> (bP av2 x (.slice la7 (nA + 1) lc7) v).ownBlock ≠ some ob) /\ Blk w8 gb [.slice (some ⟨vb, vo, none⟩) n vc, .pointer (some ⟨rb, 0, none⟩)] 175 from by
    have hobl := hB1.out.1.lt
    refine ⟨(hB1.out.1.kp X2.out.2 fun e => HBN.out x hxn e).kp k78 fun e => absurd (aM (e ▸ hB1.out.1) hM1.out.atB) (Ne.symm gU.2.2.2.2.2.2.2.2.2.2.1), fun v hv e => ?_, (hB1.out.2.kp X2.out.2 fun e => ?_).kp k78 fun e => absurd (aM (e ▸ hB1.out.2) hM1.out.atB) (by decide)⟩
    ·by_cases e2 : v = x
     ·subst e2
      rw [upd_same] at e
      rcases X2.out.1.block ob e with h3 | h3
      ·exact HBN.out v hv (by rw [HE.out.1]; exact h3)
      ·have := (((Kp.refl (F := fun _ => False) W1).drew).alloc (.cells #[.int .i64 (nT : Nat)] 3)).size
       omega
     ·rw [aH _ _ e2] at e
      exact HBN.out v hv e
    ·obtain ⟨cs, hb⟩ := HOwn.out _ e
     exact absurd (aM hb hB1.out.2) (by decide))
   rw [e8] at HP ⊢
   clear e8 k78 k18 f1 ff hP
   go_wp2
   go_roundw
   case rel => exact ⟨i + 1, _, by omega, by first | rfl | (congr 1; done) | (congr 1; omega), HP, HT2, HBx⟩
   case measure => simp [intOf]; omega
  ·obtain rfl : n = i := by omega
   have hordB := hBs.out.1
   rw [Nat.sub_self, List.replicate_zero, List.append_nil] at hordB
   have hord : CellsAt wr (some ⟨ob, 0, none⟩) (fL n) := CellsAt.pre (rest := []) (by rw [List.append_nil]; exact hordB)
   have hTab := hTb.out.here.here
   have hrow := hTab.rows
   rw [<- H.out.2.2.2.1] at hrow
   have HBd := qH (aG8 (oc := n) hrow hTab.rise H.out.2.2.2.2.2.2.1 hord hn64 (Nat.le_refl _) H.out.2.2.2.2.2.2.2.1)
   have HM := qH (hM.out.congr (ats' := fun v => if v ∈ vs then ats v ++ [Ts.length] else ats v) (fun j _ => by unfold sN; rw [List.take_of_length_le (by rw [<- H.out.2.2.2.1]; exact Nat.le_refl _)]) (fun _ _ => rfl))
   have r1 : wr.cell? ⟨gb, 1, none⟩ = some (.pointer (some ⟨rb, 0, none⟩)) := by rw [hBs.out.2.2.cell']; rfl
   have hobl := hordB.lt
   have HOB := qH hobl
   clear hM hTb hBs hordB hord hTab hrow hobl hi hlt
   go_wp2_with fail
   refine HBd.out.mono ?_
   rintro e w3 ⟨v3, rfl, hk3, tb, rfl, htb, hF⟩
   have HM3 := qH (HM.out.ext hk3)
   have HF := qH (show HeldF lo (fM (fun k => E k \/ k = ob) mb ab sb nv tv av2 sv) w3 fun W => TrieAt W tb LL n from
    ⟨wr.heap.size, w3.heap.size, by have h1 := HM.out.new.1; have h2 := HM.out.box.lt; omega, Nat.le_refl _, hF, fun k hk hab => by
     rcases hk with hk | hk | hk
     ·have := HM.out.lt k hk; omega
     ·have h1 := H.out.2.2.1 k hk
      have h2 := HS.out.1
      have h3 := HOB.out
      have h4 := HO.out.1
      omega
     ·have := HOB.out; omega⟩)
   obtain ⟨ta, tc, etv, _, _⟩ := HM3.out.ptrs.shape
   obtain ⟨nT, enT⟩ : ∃ k, Ts.length = k := ⟨_, rfl⟩
   rw [enT] at etv hTs
   have HRow := qH (show Row w3 187 1 (.slice ta nT tc) nT (Ts.map kO) (fun g => lo ≤ g) from by have h := HM3.out.ptrs; rw [enT, etv] at h; exact h)
   have HE := qH (And.intro etv enT)
   have m1 : w3.cell? ⟨mb, 1, none⟩ = some (.slice ta nT tc) := by rw [HM3.out.box.cell', etv]; rfl
   clear hk3 hF htb etv enT r1
   go_wp2_with (first | (at_builtin; refine Halted.out ?_))
   refine Halted.mk (sO aD2 rfl _ _ rfl rfl (HRow.out.alloc _) rfl (CellsAt.one w3 (.pointer (some ⟨tb, 0, none⟩)) 187) (by rfl) (by simp; rfl) (by omega) (by unfold maxLen; omega) ?_)
   intro v4 w4 hr4 hk4
   obtain ⟨la4, lc4, ev4, _, _⟩ := hr4.shape
   subst ev4
   have hkw : Kp (fun g => tv.ownBlock = some g) w3 w4 := by rw [HE.out.1]; exact (Ext.kp ((Kp.refl w3).alloc _)).trans hk4
   have HP := qH ((HM3.out.putTr (x := ⟨tb, vs, LL⟩) (by
    have h := HF.out
    rw [H.out.2.2.2.1] at h
    exact h) (w' := w4) (v' := .slice la4 (nT + 1) lc4) (by
    rw [HE.out.1]
    have h2 := hr4.mono (M' := fun g => (Value.slice ta nT tc).ownBlock = some g \/ w3.heap.size ≤ g) fun g hg => hg.imp id (fun h => Nat.le_trans ((Kp.refl (F := fun _ => False) w3).alloc (.cells #[.pointer (some ⟨tb, 0, none⟩)] 187)).size h)
    rw [<- HE.out.2] at h2
    rw [<- HE.out.2]
    exact h2) hkw).beside (E' := E) fun k hk => .inl (.inl hk))
   have hb4 := bN HM3.out.box hkw (fun g hg => aP HM3.out.ptrs hg) (Ne.symm gU.1)
   have m2 : w4.cell? ⟨mb, 1, none⟩ = some (.slice ta nT tc) := by rw [hb4.cell', HE.out.1]; rfl
   have mf := hb4.free 1
   clear hr4 hk4 hkw hb4 m1
   go_wp2
   go_end0
   exact ⟨rfl, tb, _, _, HP.out⟩
end Go.Proofs.YtinnmeiphbdogaaGreat
/- join: what a matcher asks is what the rule's body asks: plain. -/
namespace Go.Proofs.YtinnmeiphbdogaaGreat
open Go.RowKit
structure MatIs (N : List ByteArray) (ls : List aO) (R : Nat -> aD) (i : Nat) (Ts : List TrieZ) (tests : Nat -> List TestZ) : Prop where
 from_ : ∀ t ∈ Ts, ∃ (j : Nat) (l : aO), j < i /\ ls[j]? = some l /\ l.1 = 1 /\ t.vs = aL N (aA l) /\ t.vs ≠ [] /\ t.W = cD N (aA l) (R j) /\ 0 < t.W.length
 has : ∀ (j : Nat) (l : aO), j < i -> ls[j]? = some l -> l.1 = 1 -> (aL N (aA l) = [] /\ 0 < (cD N (aA l) (R j)).length) \/ ∃ t ∈ Ts, t.vs = aL N (aA l) /\ t.W = cD N (aA l) (R j)
 tfrom : ∀ k, k ≤ N.length -> ∀ t ∈ tests k, ∃ (j : Nat) (l : aO), j < i /\ ls[j]? = some l /\ l.1 ≠ 1 /\ eI N l < (k : Int) /\ ∀ V : List ByteArray, V.length = N.length -> (t.ask V = true ↔ fH N V (R j) l)
 thas : ∀ (j : Nat) (l : aO), j < i -> ls[j]? = some l -> l.1 ≠ 1 -> ∃ k, k ≤ N.length /\ ∃ t ∈ tests k, ∀ V : List ByteArray, V.length = N.length -> (t.ask V = true ↔ fH N V (R j) l)
section
variable {N : List ByteArray} {ls : List aO} {R : Nat -> aD} {i : Nat} {Ts : List TrieZ} {tests : Nat -> List TestZ}
theorem MatIs.zero : MatIs N ls R 0 [] (fun _ => []) := ⟨fun t h => by simp at h, fun j l h => by omega, fun k _ t h => by simp at h, fun j l h => by omega⟩
theorem MatIs.none (h : MatIs N ls R i Ts tests) {l : aO} (hl : ls[i]? = some l) (h1 : l.1 = 1) (hv : aL N (aA l) = []) (hT : 0 < (cD N (aA l) (R i)).length) : MatIs N ls R (i + 1) Ts tests := by
 refine ⟨fun t ht => ?_, fun j m hj hm hk => ?_, fun k hk t ht => ?_, fun j m hj hm hk => ?_⟩
 ·obtain ⟨j, m, h2, h3⟩ := h.from_ t ht
  exact ⟨j, m, by omega, h3⟩
 ·rcases Nat.lt_or_eq_of_le (Nat.le_of_lt_succ hj) with h2 | rfl
  ·exact h.has j m h2 hm hk
  ·rw [hl] at hm; cases hm
   exact .inl ⟨hv, hT⟩
 ·obtain ⟨j, m, h2, h3⟩ := h.tfrom k hk t ht
  exact ⟨j, m, by omega, h3⟩
 ·rcases Nat.lt_or_eq_of_le (Nat.le_of_lt_succ hj) with h2 | rfl
  ·exact h.thas j m h2 hm hk
  ·rw [hl] at hm; cases hm
   exact absurd h1 hk
theorem MatIs.put (h : MatIs N ls R i Ts tests) {l : aO} (hl : ls[i]? = some l) (h1 : l.1 = 1) (hv : aL N (aA l) ≠ []) (hT : 0 < (cD N (aA l) (R i)).length) {t : TrieZ} (e1 : t.vs = aL N (aA l)) (e2 : t.W = cD N (aA l) (R i)) : MatIs N ls R (i + 1) (Ts ++ [t]) tests := by
 refine ⟨fun u hu => ?_, fun j m hj hm hk => ?_, fun k hk t ht => ?_, fun j m hj hm hk => ?_⟩
 ·rcases List.mem_append.1 hu with hu | hu
  ·obtain ⟨j, m, h2, h3⟩ := h.from_ u hu
   exact ⟨j, m, by omega, h3⟩
  ·rw [List.mem_singleton] at hu
   subst hu
   exact ⟨i, l, by omega, hl, h1, e1, by rw [e1]; exact hv, e2, by rw [e2]; exact hT⟩
 ·rcases Nat.lt_or_eq_of_le (Nat.le_of_lt_succ hj) with h2 | rfl
  ·rcases h.has j m h2 hm hk with h3 | ⟨u, hu, h3⟩
   ·exact .inl h3
   ·exact .inr ⟨u, List.mem_append_left _ hu, h3⟩
  ·rw [hl] at hm; cases hm
   exact .inr ⟨t, by simp, e1, e2⟩
 ·obtain ⟨j, m, h2, h3⟩ := h.tfrom k hk t ht
  exact ⟨j, m, by omega, h3⟩
 ·rcases Nat.lt_or_eq_of_le (Nat.le_of_lt_succ hj) with h2 | rfl
  ·exact h.thas j m h2 hm hk
  ·rw [hl] at hm; cases hm
   exact absurd h1 hk
theorem MatIs.add (h : MatIs N ls R i Ts tests) {l : aO} (hl : ls[i]? = some l) (h1 : l.1 ≠ 1) {t : TestZ} {k : Nat} (hk : k ≤ N.length) (hlast : eI N l < (k : Int)) (hask : ∀ V : List ByteArray, V.length = N.length -> (t.ask V = true ↔ fH N V (R i) l)) : MatIs N ls R (i + 1) Ts (bP tests k (tests k ++ [t])) := by
 refine ⟨fun u hu => ?_, fun j m hj hm hk => ?_, fun k' hk' u hu => ?_, fun j m hj hm hkm => ?_⟩
 ·obtain ⟨j, m, h2, h3⟩ := h.from_ u hu
  exact ⟨j, m, by omega, h3⟩
 ·rcases Nat.lt_or_eq_of_le (Nat.le_of_lt_succ hj) with h2 | rfl
  ·exact h.has j m h2 hm hk
  ·rw [hl] at hm; cases hm
   exact absurd hk h1
 ·by_cases e : k' = k
  ·subst e
   rw [upd_same] at hu
   rcases List.mem_append.1 hu with hu | hu
   ·obtain ⟨j, m, h2, h3⟩ := h.tfrom k' hk' u hu
    exact ⟨j, m, by omega, h3⟩
   ·rw [List.mem_singleton] at hu
    subst hu
    exact ⟨i, l, by omega, hl, h1, hlast, hask⟩
  ·rw [aH _ _ e] at hu
   obtain ⟨j, m, h2, h3⟩ := h.tfrom k' hk' u hu
   exact ⟨j, m, by omega, h3⟩
 ·rcases Nat.lt_or_eq_of_le (Nat.le_of_lt_succ hj) with h2 | rfl
  ·obtain ⟨k', hk', u, hu, h3⟩ := h.thas j m h2 hm hkm
   refine ⟨k', hk', u, ?_, h3⟩
   by_cases e : k' = k
   ·subst e
    rw [upd_same]; exact List.mem_append_left _ hu
   ·rw [aH _ _ e]; exact hu
  ·rw [hl] at hm; cases hm
   exact ⟨k, hk, t, by rw [upd_same]; simp, hask⟩
end
theorem qB {r : cN} (h : bD r = 0) {l : aO} (hl : l ∈ r.2.1) : l.1 = 1 \/ l.1 = 2 \/ l.1 = 3 := by
 unfold bD at h
 split at h
 ·rename_i hp
  unfold eU at hp
  rw [Bool.and_eq_true] at hp
  have h1 := List.all_eq_true.1 hp.2 l hl
  unfold jY at h1
  split at h1
  ·rename_i h2; rcases h2 with h2 | h2
   ·exact .inl h2
   ·exact .inr (.inl h2)
  ·split at h1
   ·rename_i h2; exact .inr (.inr h2)
   ·cases h1
 ·cases h
theorem aDi {r : cN} (h : bD r = 0) {R : Nat -> aD} {Ts : List TrieZ} {tests : Nat -> List TestZ} (hM : MatIs (aB r.2.1) r.2.1 R r.2.1.length Ts tests) :
 MatchOk ⟨aB r.2.1, Ts, tests⟩ /\ ∀ V, lT ⟨aB r.2.1, Ts, tests⟩ V ↔ cE r.2.1 R V := by
 refine ⟨⟨fun t ht => ?_, fun v hv => ?_, fun k hk t ht V V' hV hV' he => ?_⟩, fun V => ?_⟩
 ·obtain ⟨j, l, hj, hl, h1, e1, e2, e3, e4⟩ := hM.from_ t ht
  refine ⟨⟨fun x hx => ?_, by rw [e3]; exact tD _ _ _⟩, by rw [e1]; exact vZ _ _, e2, fun x hx => ?_, e4⟩
  ·rw [e3] at hx
   rw [nN hx, e1]
  ·rw [e1] at hx
   exact (cF.1 hx).1
 ·obtain ⟨l, hl, h1, hvl⟩ := mN hv
  obtain ⟨j, hj⟩ := List.mem_iff_getElem?.1 hl
  rcases hM.has j l (List.getElem?_eq_some_iff.1 hj).1 hj h1 with h2 | ⟨t, ht, e1, e2⟩
  ·rw [h2.1] at hvl; simp at hvl
  ·exact ⟨t, ht, by rw [e1]; exact hvl⟩
 ·obtain ⟨j, l, hj, hl, h1, h2, h3⟩ := hM.tfrom k hk t ht
  have hm := List.mem_of_getElem? hl
  have h4 := aHe (R := R j) he h1 h2 (fun hk2 hv => by
   rcases qB h hm with h5 | h5 | h5
   ·exact absurd h5 h1
   ·exact absurd h5 hk2
   ·rcases mG h hm h5 _ (.inl rfl) with h6 | h6
    ·exact h6.2
    ·omega) (fun hk2 hv => by
   rcases qB h hm with h5 | h5 | h5
   ·exact absurd h5 h1
   ·exact absurd h5 hk2
   ·rcases mG h hm h5 _ (.inr rfl) with h6 | h6
    ·exact h6.2
    ·omega)
  rw [Bool.eq_iff_iff, h3 V hV, h3 V' hV', h4]
 ·rw [nG h]
  refine and_congr_right fun hV => ⟨fun ⟨h1, h2⟩ i l hl => ?_, fun hA => ⟨fun t ht => ?_, fun k hk t ht => ?_⟩⟩
  ·have hi := (List.getElem?_eq_some_iff.1 hl).1
   by_cases hk : l.1 = 1
   ·unfold fH
    rw [if_pos hk]
    rcases hM.has i l hi hl hk with ⟨e, hT⟩ | ⟨t, ht, e1, e2⟩
    ·rw [e]
     obtain ⟨x, hx⟩ := List.exists_mem_of_length_pos hT
     have hx0 := nN hx
     rw [e] at hx0
     have : x = [] := List.eq_nil_of_length_eq_zero hx0
     rw [this] at hx
     exact hx
    ·have := h1 t ht
     rwa [e1, e2] at this
   ·obtain ⟨k, hkn, t, ht, h3⟩ := hM.thas i l hi hl hk
    exact (h3 V hV).1 (h2 k hkn t ht)
  ·obtain ⟨j, l, hj, hl, hk, e1, e2, e3, e4⟩ := hM.from_ t ht
   have := hA j l hl
   unfold fH at this
   rw [if_pos hk] at this
   rw [e1, e3]; exact this
  ·obtain ⟨j, l, hj, hl, h1, h2, h3⟩ := hM.tfrom k hk t ht
   exact (h3 V hV).2 (hA j l hl)
theorem jV (N : List ByteArray) (t : aG) : cP N t.1 t.2.1 = qC N t := by
 unfold cP qC cH
 by_cases h1 : t.1 = 1
 ·rw [if_pos h1]
  have e : N.any (fun s => decide (s = t.2.1)) = lS N t.2.1 := rfl
  by_cases h2 : lS N t.2.1 = true
  ·rw [if_pos (e.trans h2), if_pos ⟨h1, h2⟩]
  ·rw [if_neg (by rw [e]; exact h2), if_neg (fun h => h2 h.2)]
 ·rw [if_neg h1, if_neg (fun h => h1 h.1)]
theorem pQ {N V : List ByteArray} {t : aG} (h : t.1 = 1 /\ t.2.1 ∈ N \/ t.1 = 3) : eH V (cP N t.1 t.2.1) t.2.1 = nZ N V t := by
 rw [jV]
 rcases h with ⟨h1, h2⟩ | h1
 ·have e : qC N t = ((N.findIdx fun s => decide (s = t.2.1) : Nat) : Int) := by unfold qC; rw [if_pos ⟨h1, cG.2 h2⟩]
  rw [e]
  unfold eH nZ
  rw [if_neg (by omega), if_pos h1, Int.toNat_natCast]
 ·have e : qC N t = -1 := by unfold qC; rw [if_neg (fun h => by have := h.1; omega)]
  rw [e]
  unfold eH nZ
  rw [if_pos (by decide), if_neg (by omega)]
end Go.Proofs.YtinnmeiphbdogaaGreat
/- join: a matcher's beginning and its end. -/
namespace Go.Proofs.YtinnmeiphbdogaaGreat
open Go.RowKit Go.Shelf
theorem qK (Ts : List TrieZ) (t : TrieZ) (v : Nat) : atL (Ts ++ [t]) v = if v ∈ t.vs then atL Ts v ++ [Ts.length] else atL Ts v := by
 unfold atL
 rw [List.length_append, List.length_singleton, List.range_succ, List.filter_append]
 have e1 : (List.range Ts.length).filter (fun j => ((Ts ++ [t]).getD j noT).vs.contains v) = (List.range Ts.length).filter fun j => (Ts.getD j noT).vs.contains v := by
  refine List.filter_congr fun j hj => ?_
  have hj' := List.mem_range.1 hj
  rw [List.getD_eq_getElem?_getD, List.getElem?_append_left hj', <- List.getD_eq_getElem?_getD]
 rw [e1]
 have e2 : (Ts ++ [t]).getD Ts.length noT = t := by
  rw [List.getD_eq_getElem?_getD, List.getElem?_append_right (Nat.le_refl _), Nat.sub_self]; rfl
 by_cases h : v ∈ t.vs
 ·rw [if_pos h, List.filter_cons, e2, if_pos (List.contains_iff_mem.2 h)]; rfl
 ·rw [if_neg h, List.filter_cons, e2, if_neg (fun e => h (List.contains_iff_mem.1 e))]; simp
theorem sW (Ts : List TrieZ) (v : Nat) : (atL Ts v).length ≤ Ts.length := by
 unfold atL
 have := List.length_filter_le (fun j => (Ts.getD j noT).vs.contains v) (List.range Ts.length)
 rwa [List.length_range] at this
theorem rK (v : Value) (n : Nat) : List.replicate n v = (List.range n).map fun _ => v := by
 refine List.ext_getElem (by simp) fun i h1 h2 => ?_
 simp
theorem MatSt.start {E : Nat -> Prop} {w0 w : World} {mb ab sb nv nc : Nat} {na : Option Addr} {lo : Nat} (hB : Blk w mb [.slice na nv nc, .slice none 0 0, .slice (some ⟨ab, 0, none⟩) nv nv, .slice (some ⟨sb, 0, none⟩) (nv + 1) (nv + 1)] 172) (hA : Blk w ab (List.replicate nv (.slice none 0 0)) 173) (hS : Blk w sb (List.replicate (nv + 1) (.slice none 0 0)) 214)
 (hnew : lo ≤ mb /\ lo ≤ ab /\ lo ≤ sb) (hlow : w0.heap.size ≤ lo) (hk : Ext w0 w) : MatSt E lo w0 w mb ab sb nv na nc [] (atL []) (fun _ => []) (.slice none 0 0) (fun _ => .slice none 0 0) (fun _ => .slice none 0 0) :=
 ⟨hB, Row.nil _ _ _ _, by rw [rK] at hA; exact hA, by rw [rK] at hS; exact hS, fun v _ => Row.nil _ _ _ _, fun v _ => Row.nil _ _ _ _, fun _ _ _ _ _ g h => (by cases h), fun _ _ _ _ _ g h => (by cases h), fun t h => by simp at h, fun k _ t h => by simp at h, hnew, hlow, hk⟩
theorem MatSt.done {E : Nat -> Prop} {w0 w : World} {mb ab sb nc : Nat} {na : Option Addr} {lo : Nat} {N : List ByteArray} {Ts : List TrieZ} {tests : Nat -> List TestZ} {tv : Value} {av sv : Nat -> Value} (h : MatSt E lo w0 w mb ab sb N.length na nc Ts (atL Ts) tests tv av sv) (hN : N.length ≤ 1048576) (hT : Ts.length ≤ 1048576) (ht : ∀ k, (tests k).length ≤ 1048576) :
 ∃ A, Fast lo w.heap.size w fun W => MatchAt W mb ⟨N, Ts, tests⟩ A := by
 have hp := h.ptrs.shape
 obtain ⟨ta, tc, etv, _, _⟩ := hp
 have hav : ∀ v, ∃ ao cap, v < N.length -> av v = .slice ao (atL Ts v).length cap := fun v => by
  by_cases hv : v < N.length
  ·obtain ⟨ao, cap, e, _, _⟩ := (h.atR v hv).shape
   exact ⟨ao, cap, fun _ => e⟩
  ·exact ⟨none, 0, fun h => absurd h hv⟩
 have hsv : ∀ k, ∃ ao cap, k < N.length + 1 -> sv k = .slice ao (tests k).length cap := fun v => by
  by_cases hv : v < N.length + 1
  ·obtain ⟨ao, cap, e, _, _⟩ := (h.slR v hv).shape
   exact ⟨ao, cap, fun _ => e⟩
  ·exact ⟨none, 0, fun h => absurd h hv⟩
 refine ⟨⟨na, nc, ta, tc, some ⟨ab, 0, none⟩, N.length, some ⟨sb, 0, none⟩, N.length + 1, fun v => (hav v).choose, fun v => (hav v).choose_spec.choose, fun v => (hsv v).choose, fun v => (hsv v).choose_spec.choose⟩, fun X hX => ?_⟩
 have noF : ∀ k, lo ≤ k -> k < w.heap.size -> ¬ ¬ (lo ≤ k /\ k < w.heap.size) := fun k h1 h2 h3 => h3 ⟨h1, h2⟩
 have hbox := h.box.kp hX (noF _ h.new.1 h.box.lt)
 have hat := h.atB.kp hX (noF _ h.new.2.1 h.atB.lt)
 have hsl := h.slB.kp hX (noF _ h.new.2.2 h.slB.lt)
 have hptr := h.ptrs.kp' hX fun g _ hM => noF g hM (by assumption |> fun hg => h.ptrs.lt g hg)
 refine ⟨by rw [hbox.cell']; rfl, by rw [hbox.cell', etv]; rfl, by rw [hbox.cell']; rfl, by rw [hbox.cell']; rfl, ?_, fun v hv => ?_, fun k hk => ?_, fun t ht' => (h.tries t ht').here X hX, fun k hk t ht' => (h.tells k (by have : k ≤ N.length := hk; omega) t ht').here X hX, hN, hT, fun k _ => ht k⟩
 ·obtain ⟨ao, cap, e, hc, _⟩ := hptr.shape
  rw [etv] at e; cases e
  exact hc
 ·have hv' : v < N.length := hv
  have hr := (h.atR v hv').kp' hX fun g hg hM => noF g hM ((h.atR v hv').lt g hg)
  obtain ⟨ao, cap, e, hc, _⟩ := hr.shape
  have e2 := (hav v).choose_spec.choose_spec hv'
  refine ⟨ab, 0, rfl, by rw [hat.cell', Nat.zero_add, dQ av hv', e2], ?_⟩
  rw [e2] at e
  cases e
  exact hc
 ·have hk' : k < N.length + 1 := by have : k ≤ N.length := hk; omega
  have hr := (h.slR k hk').kp' hX fun g hg hM => noF g hM ((h.slR k hk').lt g hg)
  obtain ⟨ao, cap, e, hc, _⟩ := hr.shape
  have e2 := (hsv k).choose_spec.choose_spec hk'
  refine ⟨sb, 0, rfl, by rw [hsl.cell', Nat.zero_add, dQ sv hk', e2], ?_⟩
  rw [e2] at e
  cases e
  exact hc
end Go.Proofs.YtinnmeiphbdogaaGreat
/- join: match: a rule's matcher. -/
namespace Go.Proofs.YtinnmeiphbdogaaGreat
open Go.RowKit Go.Shelf
attribute [local go_sem] Oper.semAt_some
theorem aG0 : cO Tryz.prog 169 173 1 24 (.slice none 0 0) := ⟨by kernel_rfl, by kernel_rfl, rfl, by decide⟩
theorem aGz : cO Tryz.prog 170 214 1 24 (.slice none 0 0) := ⟨by kernel_rfl, by kernel_rfl, rfl, by decide⟩
def bI (Es : Nat -> List Ent) (ls : List aO) (j : Nat) : aD := dG (bB (Es j) ((ls[j]?.map aX).getD ByteArray.empty))
theorem sT {N : List ByteArray} {l : aO} : -1 ≤ eI N l := by
 have hi : ∀ t, -1 ≤ qC N t := fun t => by
  unfold qC
  split <;> omega
 unfold eI
 split
 ·split <;> omega
 ·have := hi (leftOf l); have := hi (aR l); omega
theorem aE7 {r : cN} (h : bD r = 0) {l : aO} (hl : l ∈ r.2.1) (hk : l.1 = 1 \/ l.1 = 2) : (aA l).length ≤ 64 := by
 unfold bD at h
 split at h
 ·rename_i hp
  unfold eU at hp
  rw [Bool.and_eq_true] at hp
  have h1 := List.all_eq_true.1 hp.2 l hl
  unfold jY at h1
  rw [if_pos hk, Bool.and_eq_true] at h1
  exact of_decide_eq_true h1.1
 ·cases h
def aKc (w0 : World) (mb ab sb : Nat) (na : Option Addr) (nc : Nat) (ls : List aO) (Es : Nat -> List Ent) (n : Nat) (jv : Value) (W : World) : Prop :=
 ∃ (i : Nat) (Ts : List TrieZ) (tests : Nat -> List TestZ) (tv : Value) (av sv : Nat -> Value), i ≤ n /\ jv = .int .i64 i /\ Hid (MatSt (fun _ => False) w0.heap.size w0 W mb ab sb (aB ls).length na nc Ts (atL Ts) tests tv av sv) /\ Hid (MatIs (aB ls) ls (bI Es ls) i Ts tests) /\ Hid (Ts.length ≤ i /\ ∀ k, (tests k).length ≤ i)
theorem lC {lo : Nat} {w0 W W2 : World} {mb ab sb nv nv' nc : Nat} {na : Option Addr} {Ts : List TrieZ} {ats : Nat -> List Nat} {tests : Nat -> List TestZ} {tv : Value} {av sv : Nat -> Value} {P : Nat -> World -> Prop} (h : MatSt (fun _ => False) lo w0 W mb ab sb nv na nc Ts ats tests tv av sv) (hx : Ext W W2) (hf : Fast W.drew.heap.size W2.heap.size W2 (P nv')) (e : nv = nv') (hsz : W.drew.heap.size ≤ W2.heap.size) :
 HeldF lo (fM (fun _ => False) mb ab sb nv tv av sv) W2 (P nv) := by
 subst e
 have hd : W.heap.size ≤ W.drew.heap.size := ((Kp.refl (F := fun _ => False) W).drew).size
 refine ⟨W.drew.heap.size, W2.heap.size, ?_, Nat.le_refl _, hf, fun k hk hab => ?_⟩
 ·have h1 := h.new.1
  have h2 := h.box.lt
  omega
 ·rcases hk with hk | hk
  ·have := h.lt k hk; omega
  ·exact hk
theorem lE {W1 w4 : World} {P : World -> Prop} {a : Nat} {x y : Value} (hx : Ext W1 w4) (hf : Fast a w4.heap.size w4 P) (ha : W1.heap.size ≤ a) (ha2 : a ≤ w4.heap.size) :
 ∃ a, W1.heap.size ≤ a /\ a ≤ (w4.alloc (.cells #[x, y] 175)).heap.size /\ Ext W1 (w4.alloc (.cells #[x, y] 175)) /\ Blk (w4.alloc (.cells #[x, y] 175)) w4.heap.size [x, y] 175 /\ Fast a (w4.alloc (.cells #[x, y] 175)).heap.size (w4.alloc (.cells #[x, y] 175)) P := by
 have h1 : Ext w4 (w4.alloc (.cells #[x, y] 175)) := (Kp.refl w4).alloc _
 exact ⟨a, ha, Nat.le_trans ha2 h1.size, hx.trans h1, Blk.new w4 _ _, (hf.ext h1).mono (Nat.le_refl _) h1.size⟩
theorem lD {W1 w4 : World} {P : World -> Prop} {a g : Nat} {u v x y : Value} (hB : Blk w4 g [u, v] 175) (hx : Ext W1 w4) (hf : Fast a w4.heap.size w4 P) (hg : W1.heap.size ≤ g) (hga : g < a) (ha2 : a ≤ w4.heap.size) :
 ∃ a, W1.heap.size ≤ a /\ a ≤ ((w4.setCell ⟨g, 0, none⟩ x).setCell ⟨g, 1, none⟩ y).heap.size /\ Ext W1 ((w4.setCell ⟨g, 0, none⟩ x).setCell ⟨g, 1, none⟩ y) /\ Blk ((w4.setCell ⟨g, 0, none⟩ x).setCell ⟨g, 1, none⟩ y) g [x, y] 175 /\ Fast a ((w4.setCell ⟨g, 0, none⟩ x).setCell ⟨g, 1, none⟩ y).heap.size ((w4.setCell ⟨g, 0, none⟩ x).setCell ⟨g, 1, none⟩ y) P := by
 have h1 : Kp (fun k => k = g) w4 ((w4.setCell ⟨g, 0, none⟩ x).setCell ⟨g, 1, none⟩ y) := Kp.setCell (F := fun k => k = g) (p := ⟨g, 1, none⟩) (Kp.setCell (F := fun k => k = g) (p := ⟨g, 0, none⟩) (Kp.refl w4) (fun _ => rfl) _) (fun _ => rfl) _
 refine ⟨a, by omega, Nat.le_trans ha2 h1.size, hx.trans' h1 fun i hi e => by have e' : i = g := e; omega, (hB.set 0 x).set 1 y, (hf.kp h1 fun k e => by have e' : k = g := e; omega).mono (Nat.le_refl _) h1.size⟩
theorem jG {lo : Nat} {w0 W W2 : World} {mb ab sb nv nc a : Nat} {na : Option Addr} {Ts : List TrieZ} {ats : Nat -> List Nat} {tests : Nat -> List TestZ} {tv : Value} {av sv : Nat -> Value} {P : World -> Prop} (h : MatSt (fun _ => False) lo w0 W mb ab sb nv na nc Ts ats tests tv av sv) (ha : W.heap.size ≤ a) (hf : Fast a W2.heap.size W2 P) :
 HeldF lo (fM (fun _ => False) mb ab sb nv tv av sv) W2 P := by
 refine ⟨a, W2.heap.size, ?_, Nat.le_refl _, hf, fun k hk hab => ?_⟩
 ·have h1 := h.new.1
  have h2 := h.box.lt
  omega
 ·rcases hk with hk | hk
  ·have := h.lt k hk; omega
  ·exact hk
set_option maxRecDepth 100000 in
theorem pP {w : World} {mb rb vc : Nat} {va : Option Addr} : Calls Tryz.prog 118 #[.pointer (some ⟨mb, 0, none⟩), .agg #[.slice va 0 vc, .pointer (some ⟨rb, 0, none⟩)]] w fun e w' => e = .returned (.tuple #[]) /\ Ext w w' := by
 obtain ⟨gb, egb⟩ : ∃ g, w.heap.size = g := ⟨_, rfl⟩
 obtain ⟨w1, e1⟩ : ∃ x, w.alloc (.cells #[.slice va 0 vc, .pointer (some ⟨rb, 0, none⟩)] 175) = x := ⟨_, rfl⟩
 have b0 : w1.cell? ⟨gb, 0, none⟩ = some (.slice va 0 vc) := by rw [<- e1, <- egb, (Blk.new w [.slice va 0 vc, .pointer (some ⟨rb, 0, none⟩)] 175).cell']; rfl
 have x1 := qH (show Ext w w1 from by rw [<- e1]; exact (Kp.refl w).alloc _)
 go_enter Tryz.func118, Tryz.ntmps118
 go_wp2
 refine bodyPost_ret (results_none rfl _ _ _) rfl ?_
 exact ⟨rfl, x1.out⟩
def aEo (w0 w : World) (r : cN) (Es : Nat -> List Ent) (v : Value) : Prop :=
 (v = .pointer none /\ (bD r ≠ 0 \/ ∀ V, ¬ cE r.2.1 (bI Es r.2.1) V)) \/
 ∃ mb Ts tests A, v = .pointer (some ⟨mb, 0, none⟩) /\ bD r = 0 /\ MatIs (aB r.2.1) r.2.1 (bI Es r.2.1) r.2.1.length Ts tests /\ Fast w0.heap.size w.heap.size w fun W => MatchAt W mb ⟨aB r.2.1, Ts, tests⟩ A
set_option maxRecDepth 100000 in
set_option maxHeartbeats 4000000 in
theorem aGb {w : World} {p : ByteArray} {hs : List aG} {ls : List aO} {ha ba bsa : Option Addr} {hn hcap n bcap nb bsc : Nat} {G : Nat -> Prop} {bvs : List Value} {Es : Nat -> List Ent} (hhn : hn = hs.length) (hh : aW w G ha hs) (hhl : hn ≤ 1048576) (hbn : n = ls.length) (h : cK w G ba ls) (hf : Fit ls) (hnv : (aB ls).length ≤ 1048576) (hn16 : n ≤ 1048576)
 (hnb : nb = bvs.length) (hbs : CellsAt w bsa bvs) (hB : ∀ j, ∃ S, BaseV S w (bvs.getD j (.pointer none)) (Es j)) :
 Calls Tryz.prog 81 #[eF p ha hn hcap ba n bcap, .slice bsa nb bsc] w (RetN w fun w' v => aEo w w' ((p, hs, ()), ls, ()) Es v) := by
 have HCh := qH (fun W (hW : Ext w W) => check_any p hs ls ha hn hcap ba n bcap W G hhn (hh.ext hW) hhl hbn (h.ext hW) hf)
 have HVa := qH (fun W (hW : Ext w W) => tA p ha hn hcap ls ba n bcap W G hbn (h.ext hW) hf)
 have HL := qH (And.intro hbn (And.intro h hf))
 have HBs := qH (And.intro hnb (And.intro hbs hB))
 obtain ⟨cR, ecR⟩ : ∃ c, bD ((p, hs, ()), ls, ()) = c := ⟨_, rfl⟩
 rw [ecR] at HCh
 have HC := qH ecR
 obtain ⟨gb, egb⟩ : ∃ g, w.heap.size = g := ⟨_, rfl⟩
 obtain ⟨w1, e1⟩ : ∃ x, w.alloc (.cells #[.string p, .slice ha hn hcap, .slice ba n bcap] 27) = x := ⟨_, rfl⟩
 have x1 : Ext w w1 := by rw [<- e1]; exact (Kp.refl w).alloc _
 have hB1 : Blk w1 gb [.string p, .slice ha hn hcap, .slice ba n bcap] 27 := by rw [<- e1, <- egb]; exact Blk.new w _ _
 have H1 := qH (And.intro x1 hB1)
 have r0 : w1.cell? ⟨gb, 0, none⟩ = some (.string p) := by rw [hB1.cell']; rfl
 have r1 : w1.cell? ⟨gb, 1, none⟩ = some (.slice ha hn hcap) := by rw [hB1.cell']; rfl
 have r2 : w1.cell? ⟨gb, 2, none⟩ = some (.slice ba n bcap) := by rw [hB1.cell']; rfl
 clear hhn hh hbn h hf hnb hbs hB ecR x1 hB1
 go_enter Tryz.func81, Tryz.ntmps81
 go_wp2_with fail
 clear e1
 refine (HCh.out w1 H1.out.1).mono ?_
 rintro e w2 ⟨v2, rfl, hk2, rfl⟩
 have H2 := qH (And.intro (H1.out.1.trans hk2) (H1.out.2.ext hk2))
 by_cases hc : cR = 0
 ·have HC0 := qH hc
  subst hc
  have q0 : w2.cell? ⟨gb, 0, none⟩ = some (.string p) := hk2.cell r0 id
  have q1 : w2.cell? ⟨gb, 1, none⟩ = some (.slice ha hn hcap) := hk2.cell r1 id
  have q2 : w2.cell? ⟨gb, 2, none⟩ = some (.slice ba n bcap) := hk2.cell r2 id
  clear hk2 r0 r1 r2
  go_wp2_with fail
  refine (HVa.out w2 H2.out.1).mono ?_
  rintro e w3 ⟨v3, rfl, hk3, na, nc, rfl, hnc, hna⟩
  obtain ⟨nv, env⟩ : ∃ k, (aB ls).length = k := ⟨_, rfl⟩
  rw [env] at hnv hnc ⊢
  have H3 := qH (And.intro (H2.out.1.trans hk3) (And.intro (H2.out.2.ext hk3) (And.intro hna env)))
  obtain ⟨mb, emb⟩ : ∃ g, w3.heap.size = g := ⟨_, rfl⟩
  have hmk1 := fun W => iU (P := Tryz.prog) aG0 (c := .slice none 0 0) rfl nv (by omega) (by unfold maxLen; omega) W
  have hmk2 := fun W => iU (P := Tryz.prog) aGz (c := .slice none 0 0) rfl (nv + 1) (by omega) (by unfold maxLen; omega) W
  simp only [Nat.mul_one] at hmk1 hmk2
  have hwn : IntKind.i64.wrap ((nv : Int) + 1) = (nv : Int) + 1 := IntWalk.i64_in _ (by omega)
  have ewn : ((nv + 1 : Nat) : Int) = (nv : Int) + 1 := by omega
  simp only [ewn] at hmk2
  clear ewn
  have q3 : ∀ o1 o2 o3, (((w3.alloc o1).alloc o2).alloc o3).cell? ⟨gb, 2, none⟩ = some (.slice ba n bcap) := fun o1 o2 o3 => by rw [((((H3.out.2.1).alloc o1).alloc o2).alloc o3).cell']; rfl
  clear hk3 q0 q1 q2 hnc hna
  go_wp2
  clear hmk1 hmk2 hwn q3 egb
  obtain ⟨x1, ex1⟩ : ∃ x, w3.alloc (.cells #[.slice na nv nc, .slice none 0 0, .slice (some ⟨mb + 1, 0, none⟩) nv nv, .slice (some ⟨mb + 1 + 1, 0, none⟩) (nv + 1) (nv + 1)] 172) = x := ⟨_, rfl⟩
  rw [ex1]
  obtain ⟨x2, ex2⟩ : ∃ x, x1.alloc (.cells (Array.replicate nv (.slice none 0 0)) 173) = x := ⟨_, rfl⟩
  rw [ex2]
  obtain ⟨x3, ex3⟩ : ∃ x, x2.alloc (.cells (Array.replicate (nv + 1) (.slice none 0 0)) 214) = x := ⟨_, rfl⟩
  rw [ex3]
  have hs1 : x1.heap.size = mb + 1 := by rw [<- ex1, aJ, emb]
  have hs2 : x2.heap.size = mb + 1 + 1 := by rw [<- ex2, aJ, hs1]
  have k1 : Ext w3 x1 := by rw [<- ex1]; exact (Kp.refl w3).alloc _
  have k2 : Ext x1 x2 := by rw [<- ex2]; exact (Kp.refl x1).alloc _
  have k3 : Ext x2 x3 := by rw [<- ex3]; exact (Kp.refl x2).alloc _
  have B1 : Blk x1 mb [.slice na nv nc, .slice none 0 0, .slice (some ⟨mb + 1, 0, none⟩) nv nv, .slice (some ⟨mb + 1 + 1, 0, none⟩) (nv + 1) (nv + 1)] 172 := by rw [<- ex1, <- emb]; exact Blk.new w3 _ _
  have B2 : Blk x2 (mb + 1) (List.replicate nv (.slice none 0 0)) 173 := by
   have h := Blk.new x1 (List.replicate nv (.slice none 0 0)) 173
   rw [List.toArray_replicate, ex2, hs1] at h
   exact h
  have B3 : Blk x3 (mb + 1 + 1) (List.replicate (nv + 1) (.slice none 0 0)) 214 := by
   have h := Blk.new x2 (List.replicate (nv + 1) (.slice none 0 0)) 214
   rw [List.toArray_replicate, ex3, hs2] at h
   exact h
  have HS := qH (show MatSt (fun _ => False) w3.heap.size w3 x3 mb (mb + 1) (mb + 1 + 1) (aB ls).length na nc [] (atL []) (fun _ => []) (.slice none 0 0) (fun _ => .slice none 0 0) (fun _ => .slice none 0 0) from by
   rw [env]
   exact MatSt.start (B1.ext (k2.trans k3)) (B2.ext k3) B3 ⟨by omega, by omega, by omega⟩ (Nat.le_refl _) (k1.trans (k2.trans k3)))
  obtain ⟨ab, eab⟩ : ∃ x, mb + 1 = x := ⟨_, rfl⟩
  rw [eab] at HS ⊢
  obtain ⟨sb, esb⟩ : ∃ x, ab + 1 = x := ⟨_, rfl⟩
  rw [esb] at HS ⊢
  have HG := qH (And.intro emb (And.intro eab esb))
  clear ex1 ex2 ex3 hs1 hs2 k1 k2 k3 B1 B2 B3 emb eab esb
  go_loopw [39] (fun jv wk => aKc w3 mb ab sb na nc ls Es n jv wk) (fun jv _ => n - (intOf jv).toNat)
  case atStart => exact ⟨0, [], _, _, _, _, Nat.zero_le _, rfl, HS, qH MatIs.zero, qH ⟨Nat.le_refl _, fun _ => Nat.le_refl _⟩⟩
  case round =>
   obtain ⟨i, Ts, tests, tv, av, sv, hi, rfl, hM, hIs, hFew⟩ := hrel
   clear HS
   by_cases hlt : i < n
   ·obtain ⟨l, hl⟩ : ∃ l, ls[i]? = some l := ⟨_, qG (by rw [<- HL.out.1]; exact hlt)⟩
    obtain ⟨b, off, a2, cap2, eba, hGb, hbl, hLi, c0, c1, c2, c3, c4, c5, c6, c7⟩ := qW (HL.out.2.1.ext H3.out.1) hl
    subst eba
    replace c0 := hM.out.kp.cell c0 id
    replace c1 := hM.out.kp.cell c1 id
    replace c2 := hM.out.kp.cell c2 id
    replace c3 := hM.out.kp.cell c3 id
    replace c4 := hM.out.kp.cell c4 id
    replace c5 := hM.out.kp.cell c5 id
    replace c6 := hM.out.kp.cell c6 id
    replace c7 := hM.out.kp.cell c7 id
    obtain ⟨m, em⟩ : ∃ m, (aA l).length = m := ⟨_, rfl⟩
    rw [em] at c2
    have HLi := qH hl
    have HLt := qH (And.intro hLi em)
    obtain ⟨lb, elb⟩ : ∃ g, wr.heap.size = g := ⟨_, rfl⟩
    obtain ⟨W1, eW1⟩ : ∃ x, wr.alloc (.cells #[.int .i64 l.1, .string (aX l), .slice a2 m cap2, .int .i64 (gK l), .int .i64 (leftOf l).1, .string (leftOf l).2.1, .int .i64 (aR l).1, .string (aR l).2.1] 40) = x := ⟨_, rfl⟩
    have HW := qH (show Blk W1 lb [.int .i64 l.1, .string (aX l), .slice a2 m cap2, .int .i64 (gK l), .int .i64 (leftOf l).1, .string (leftOf l).2.1, .int .i64 (aR l).1, .string (aR l).2.1] 40 /\ Ext wr W1 from
     ⟨by rw [<- eW1, <- elb]; exact Blk.new wr _ _, by rw [<- eW1]; exact (Kp.refl wr).alloc _⟩)
    have HM1 := qH (hM.out.ext HW.out.2)
    have l0 : W1.cell? ⟨lb, 0, none⟩ = some (.int .i64 l.1) := by rw [HW.out.1.cell']; rfl
    have HFew := hFew
    clear hGb hbl hLi hl em hi hM hFew
    have i1 : (i : Int) < (n : Int) := by omega
    by_cases hib : i < nb
    ·obtain ⟨bv, hbv⟩ : ∃ bv, bvs[i]? = some bv := ⟨_, qG (by rw [<- HBs.out.1]; exact hib)⟩
     obtain ⟨yb, yo, eyb, yc⟩ := (HBs.out.2.1.ext (H3.out.1.trans HM1.out.kp)) i bv hbv
     subst eyb
     have i2 : (i : Int) < (nb : Int) := by omega
     have HBV := qH (show bvs.getD i (.pointer none) = bv from bC hbv)
     rcases qB (r := ((p, hs, ()), ls, ())) HC.out (List.mem_of_getElem? HLi.out) with hk3 | hk3 | hk3
     ·have HKd := qH hk3
      have hb3 : (l.1 == 1) = true := by simp [hk3]
      have hm64 : m ≤ 64 := by rw [<- HLt.out.2]; exact aE7 HC.out (List.mem_of_getElem? HLi.out) (by omega)
      have HLaid := qH (show ∀ W, Ext w3 W -> Calls Tryz.prog 117 #[.agg #[.string (aX l), .slice a2 m cap2], bv, .slice na nv nc] W (RetN W fun w' v => ∃ va vc rb iv S', v = .agg #[.slice va (aL (aB ls) (aA l)).length vc, .pointer (some ⟨rb, 0, none⟩)] /\ Fast W.heap.size w'.heap.size w' fun X => TableAt S' X va rb iv (aL (aB ls) (aA l)) (cD (aB ls) (aA l) (bI Es ls i))) from fun W hW => by
       obtain ⟨Sb, hBb⟩ := HBs.out.2.2 i
       rw [HBV.out] at hBb
       have er : bI Es ls i = dG (bB (Es i) (aX l)) := by unfold bI; rw [HLi.out]; rfl
       rw [er]
       exact qA (hBb.ext (H3.out.1.trans hW)) HLt.out.2.symm (HLt.out.1.terms.kp hW fun _ _ h => h) hm64 env.symm (H3.out.2.2.1.ext hW) (bQ ls) (by omega))
      have HJ := qH (show ∀ w', Ext W1 w' -> (fun w' : World => w'.cell? ⟨lb, 1, none⟩ = some (.string (aX l)) /\ w'.cell? ⟨lb, 2, none⟩ = some (.slice a2 m cap2) /\ w'.cell? ⟨mb, 0, none⟩ = some (.slice na nv nc)) w' from fun w' hw' => by
       have hb := HW.out.1.ext hw'
       exact ⟨by rw [hb.cell']; rfl, by rw [hb.cell']; rfl, by rw [(HM1.out.box.ext hw').cell', env]; rfl⟩)
      have hvl := iC (ts := aA l) (bQ ls)
      rw [HLt.out.2] at hvl
      rw [hk3] at l0
      clear hk3
      go_wp2
      clear eW1
      refine aT (fun w' : World => w'.cell? ⟨lb, 1, none⟩ = some (.string (aX l)) /\ w'.cell? ⟨lb, 2, none⟩ = some (.slice a2 m cap2) /\ w'.cell? ⟨mb, 0, none⟩ = some (.slice na nv nc)) [9] (by kernel_rfl) (HJ.out _ (Kp.refl W1).drew) (fun hHeld => ?_)
      refine dF 0 ?_; try simp only [Act.put,sI,sZ,sS]
      refine dI 1 ?_; try simp only [Act.put,sI,sZ,sS]
      refine dF 2 ?_; try simp only [Act.put,sI,sZ,sS]
      refine dF 3 ?_; try simp only [Act.put,sI,sZ,sS]
      refine dF 4 ?_; try simp only [Act.put,sI,sZ,sS]
      refine dF 5 ?_; try simp only [Act.put,sI,sZ,sS]
      refine dI 6 ?_; try simp only [Act.put,sI,sZ,sS]
      refine aBz (i := 7) (k := 8) ?_ ?_
      ·refine aF (i := 7) rfl (fun K hK => ?_)
       go_simp
       (refine (HLaid.out _ (by first | exact HM1.out.kp.trans (Kp.refl W1).drew | exact HM1.out.kp.trans (((Kp.refl W1).drew).alloc _))).mono ?_; rintro e w4 ⟨v4, rfl, hk4, va, vc, rb, ivt, St, rfl, hft⟩; have X1 := qH (And.intro (show Ext W1 w4 from (by first | exact ((Kp.refl W1).drew).trans hk4 | exact (((Kp.refl W1).drew).alloc _).trans hk4)) (And.intro hk4 hft)); clear hk4 hft)
       go_wp2_with fail
       refine hK.out _ _ ?_ (fun hHeld => ?_)
       ·(try dsimp only); (exact HJ.out _ X1.out.1)
       clear hK K; (try simp only [Act.put,sI,sZ,sS])
       refine aE (i := 8) ?_
       refine aF (i := 8) rfl (fun K hK => ?_)
       go_simp
       refine hK.out _ _ ?_ (fun hHeld => ?_)
       ·(try dsimp only); (first | exact HJ.out _ (((Kp.refl W1).drew).alloc _) | exact HJ.out _ (X1.out.1.alloc _))
       clear hK K; (try simp only [Act.put,sI,sZ,sS])
       refine aE (i := 9) ?_
       refine aI (i := 9) rfl (by kernel_rfl) (fun K hK => ?_)
       (first | (have hB9 := qH (show Blk w4 W1.heap.size [.slice none 0 0, .pointer none] 175 from (Blk.new W1.drew [.slice none 0 0, .pointer none] 175).ext X1.out.2.1); have c90 : w4.cell? ⟨W1.heap.size, 0, none⟩ = some (.slice none 0 0) := (by rw [hB9.out.cell']; rfl); have c91 : w4.cell? ⟨W1.heap.size, 1, none⟩ = some (.pointer none) := (by rw [hB9.out.cell']; rfl); have f90 := hB9.out.free 0; have f91 := hB9.out.free 1) | skip)
       go_simp
       refine hK.out _ _ ?_
       clear hK K; (try simp only [Act.put,sI,sZ,sS])
       refine aK (by kernel_rfl) ?_ _
       clear hHeld
       first
        | (have HX5 := qH (lE (x := .slice va (aL (aB ls) (aA l)).length vc) (y := .pointer (some ⟨rb, 0, none⟩)) X1.out.1 X1.out.2.2 (Kp.refl (F := fun _ => False) W1).drew.size X1.out.2.1.size)
           obtain ⟨tg, etg⟩ : ∃ z, w4.heap.size = z := ⟨_, rfl⟩
           obtain ⟨W5, eW5⟩ : ∃ z, w4.alloc (.cells #[.slice va (aL (aB ls) (aA l)).length vc, .pointer (some ⟨rb, 0, none⟩)] 175) = z := ⟨_, rfl⟩
           rw [eW5] at HX5 ⊢
           rw [etg] at HX5 ⊢
           clear eW5 etg)
        | (have HX5 := qH (lD (x := .slice va (aL (aB ls) (aA l)).length vc) (y := .pointer (some ⟨rb, 0, none⟩)) hB9.out X1.out.1 X1.out.2.2 (Nat.le_refl _) (by show W1.heap.size < (W1.alloc _).heap.size; rw [aJ]; exact Nat.lt_succ_self _) X1.out.2.1.size)
           clear c90 c91 f90 f91
           obtain ⟨tg, etg⟩ : ∃ z, W1.heap.size = z := ⟨_, rfl⟩
           obtain ⟨W5, eW5⟩ : ∃ z, (w4.setCell ⟨W1.heap.size, 0, none⟩ (.slice va (aL (aB ls) (aA l)).length vc)).setCell ⟨W1.heap.size, 1, none⟩ (.pointer (some ⟨rb, 0, none⟩)) = z := ⟨_, rfl⟩
           rw [eW5] at HX5 ⊢
           have HTG := qH etg
           rw [etg] at HX5 ⊢
           clear eW5)
       have H5 := qH (show ∃ a, W1.heap.size ≤ a /\ a ≤ W5.heap.size /\ Ext W1 W5 /\ Blk W5 tg [.slice va (aL (aB ls) (aA l)).length vc, .pointer (some ⟨rb, 0, none⟩)] 175 /\ Fast a W5.heap.size W5 fun X => TableAt St X va rb ivt (aL (aB ls) (aA l)) (cD (aB ls) (aA l) (bI Es ls i)) from by
        obtain ⟨a, h1, h2⟩ := HX5.out
        refine ⟨a, ?_, h2⟩
        first
         | exact h1
         | (have h3 := HTG.out
            omega))
       clear HX5
       obtain ⟨a, ha1, ha2, hx5, hb5, hf5⟩ := H5.out
       obtain ⟨nV, enV⟩ : ∃ k, (aL (aB ls) (aA l)).length = k := ⟨_, rfl⟩
       obtain ⟨LLt, eLLt⟩ : ∃ L, cD (aB ls) (aA l) (bI Es ls i) = L := ⟨_, rfl⟩
       rw [eLLt] at hf5
       have hLLt : LLt.length ≤ 65536 := by
        obtain ⟨Sb, hBb⟩ := HBs.out.2.2 i
        have er : bI Es ls i = dG (bB (Es i) (aX l)) := by unfold bI; rw [HLi.out]; rfl
        have h1 := nO (aB ls) (aA l) (bI Es ls i)
        rw [eLLt, er] at h1
        refine Nat.le_trans h1 ?_
        cases hfe : bB (Es i) (aX l) with
        | none => exact Nat.zero_le _
        | some e => exact (hBb.ok.all _ (List.mem_map.2 ⟨e, (bT hfe).1, rfl⟩)).few
       have HLen := qH (iG (z := False) hf5.here.rows.q)
       have t1 : W5.cell? ⟨tg, 1, none⟩ = some (.pointer (some ⟨rb, 0, none⟩)) := by rw [hb5.cell']; rfl
       have H6 := qH (And.intro ha1 (And.intro ha2 (And.intro hx5 (And.intro hb5 (And.intro hf5 (And.intro enV (And.intro eLLt hLLt)))))))
       rw [enV] at hvl
       clear ha1 ha2 hx5 hb5 hf5 H5 hLLt
       go_wp2_with fail
       refine HLen.out.mono ?_
       rintro e W6 ⟨v6, rfl, hk6, rfl, -⟩
       have hx6 := Kp.fq hk6
       obtain ⟨nL, enL⟩ : ∃ k, LLt.length = k := ⟨_, rfl⟩
       rw [enL]
       have HX6 := qH (And.intro hx6 enL)
       by_cases h0 : nL = 0
       ·subst h0
        have HNone := qH (show ∀ V, ¬ cE ls (bI Es ls) V from fun V hV => by
         have h1 := ((nG (r := ((p, hs, ()), ls, ())) HC.out).1 hV).2 i l HLi.out
         unfold fH at h1
         rw [if_pos HKd.out] at h1
         have h2 := H6.out.2.2.2.2.2.2.1
         have h3 : cD (aB ls) (aA l) (bI Es ls i) = [] := h2.trans (List.eq_nil_of_length_eq_zero HX6.out.2)
         exact absurd (show _ ∈ ([] : aD) from h3 ▸ h1) (by simp))
        clear hk6 hx6 enL t1
        go_wp2
        go_ret
        exact RetN.mk (H3.out.1.trans (HM1.out.kp.trans (H6.out.2.2.1.trans HX6.out.1))) (.inl ⟨rfl, .inr HNone.out⟩)
       ·have hn0 : ((nL : Int) == 0) = false := by simp; omega
        have HN0 := qH h0
        have u0 : W6.cell? ⟨tg, 0, none⟩ = some (.slice va nV vc) := by rw [(H6.out.2.2.2.1.ext hx6).cell', <- H6.out.2.2.2.2.2.1]; rfl
        have u1 : W6.cell? ⟨tg, 1, none⟩ = some (.pointer (some ⟨rb, 0, none⟩)) := by rw [(H6.out.2.2.2.1.ext hx6).cell']; rfl
        have HM6 := qH (HM1.out.ext (H6.out.2.2.1.trans hx6))
        have hFw := HFew.out
        by_cases hv0 : nV = 0
        ·subst hv0
         have hvn : aL (aB ls) (aA l) = [] := List.eq_nil_of_length_eq_zero H6.out.2.2.2.2.2.1
         have HP := qH (MatIs.none hIs.out HLi.out HKd.out hvn (by
          have h2 := H6.out.2.2.2.2.2.2.1
          rw [h2, HX6.out.2]
          exact Nat.pos_of_ne_zero HN0.out))
         clear hk6 hx6 enL t1 hvn h0
         go_wp2_with fail
         refine (pP (w := W6) (mb := mb) (rb := rb) (vc := vc) (va := va)).mono ?_
         rintro e W7 ⟨rfl, hx7⟩
         have HM7 := qH (HM6.out.ext hx7)
         have HFx := qH (show Ts.length ≤ i + 1 /\ ∀ k, (tests k).length ≤ i + 1 from ⟨by omega, fun k => by have := hFw.2 k; omega⟩)
         clear hx7 hFw
         go_wp2
         go_roundw
         case rel => exact ⟨i + 1, Ts, tests, tv, av, sv, by omega, by first | rfl | (congr 1; done) | (congr 1; omega), HM7, HP, HFx⟩
         case measure => simp [intOf]; omega
        ·have HV0 := qH hv0
         have HT := qH (jG HM1.out (W2 := W6) (a := a) (P := fun X => TableAt St X va rb ivt (aL (aB ls) (aA l)) LLt) H6.out.1 ((H6.out.2.2.2.2.1.ext hx6).mono (Nat.le_refl _) hx6.size))
         clear hk6 hx6 enL t1 h0
         go_wp2_with fail
         refine (put_any HM6.out HT.out (fun _ h => h.elim) H6.out.2.2.2.2.2.1.symm (by omega) (by omega) (fun v hv => (cF.1 hv).1) ((List.nodup_range).filter _) (fun x hx => by
          have h2 := H6.out.2.2.2.2.2.2.1
          rw [<- h2] at hx
          rw [nN hx]; exact H6.out.2.2.2.2.2.1) H6.out.2.2.2.2.2.2.2 (by omega) (by omega) (fun v => by have := sW Ts v; omega)).mono ?_
         rintro e W7 ⟨rfl, tb, tv2, av2, hM7⟩
         have HM7 := qH (hM7.congr (ats' := atL (Ts ++ [⟨tb, aL (aB ls) (aA l), LLt⟩])) (fun v _ => by rw [qK]) (fun _ _ => rfl))
         have HP := qH (MatIs.put hIs.out HLi.out HKd.out (fun e => HV0.out (by rw [<- H6.out.2.2.2.2.2.1, e]; rfl)) (by
          have h2 := H6.out.2.2.2.2.2.2.1
          rw [h2, HX6.out.2]
          exact Nat.pos_of_ne_zero HN0.out) (t := ⟨tb, aL (aB ls) (aA l), LLt⟩) rfl H6.out.2.2.2.2.2.2.1.symm)
         have HFx := qH (show (Ts ++ [(⟨tb, aL (aB ls) (aA l), LLt⟩ : TrieZ)]).length ≤ i + 1 /\ ∀ k, (tests k).length ≤ i + 1 from ⟨by rw [List.length_append, List.length_singleton]; omega, fun k => by have := hFw.2 k; omega⟩)
         clear hM7 hFw
         go_wp2
         go_roundw
         case rel => exact ⟨i + 1, _, tests, tv2, av2, sv, by omega, by first | rfl | (congr 1; done) | (congr 1; omega), HM7, HP, HFx⟩
         case measure => simp [intOf]; omega
      ·refine aF (i := 8) rfl (fun K hK => ?_)
       go_simp
       refine hK.out _ _ ?_ (fun hHeld => ?_)
       ·(try dsimp only); (first | exact HJ.out _ (((Kp.refl W1).drew).alloc _) | exact HJ.out _ (X1.out.1.alloc _))
       clear hK K; (try simp only [Act.put,sI,sZ,sS])
       refine aE (i := 7) ?_
       refine aF (i := 7) rfl (fun K hK => ?_)
       go_simp
       (refine (HLaid.out _ (by first | exact HM1.out.kp.trans (Kp.refl W1).drew | exact HM1.out.kp.trans (((Kp.refl W1).drew).alloc _))).mono ?_; rintro e w4 ⟨v4, rfl, hk4, va, vc, rb, ivt, St, rfl, hft⟩; have X1 := qH (And.intro (show Ext W1 w4 from (by first | exact ((Kp.refl W1).drew).trans hk4 | exact (((Kp.refl W1).drew).alloc _).trans hk4)) (And.intro hk4 hft)); clear hk4 hft)
       go_wp2_with fail
       refine hK.out _ _ ?_ (fun hHeld => ?_)
       ·(try dsimp only); (exact HJ.out _ X1.out.1)
       clear hK K; (try simp only [Act.put,sI,sZ,sS])
       refine aE (i := 9) ?_
       refine aI (i := 9) rfl (by kernel_rfl) (fun K hK => ?_)
       (first | (have hB9 := qH (show Blk w4 W1.heap.size [.slice none 0 0, .pointer none] 175 from (Blk.new W1.drew [.slice none 0 0, .pointer none] 175).ext X1.out.2.1); have c90 : w4.cell? ⟨W1.heap.size, 0, none⟩ = some (.slice none 0 0) := (by rw [hB9.out.cell']; rfl); have c91 : w4.cell? ⟨W1.heap.size, 1, none⟩ = some (.pointer none) := (by rw [hB9.out.cell']; rfl); have f90 := hB9.out.free 0; have f91 := hB9.out.free 1) | skip)
       go_simp
       refine hK.out _ _ ?_
       clear hK K; (try simp only [Act.put,sI,sZ,sS])
       refine aK (by kernel_rfl) ?_ _
       clear hHeld
       first
        | (have HX5 := qH (lE (x := .slice va (aL (aB ls) (aA l)).length vc) (y := .pointer (some ⟨rb, 0, none⟩)) X1.out.1 X1.out.2.2 (Kp.refl (F := fun _ => False) W1).drew.size X1.out.2.1.size)
           obtain ⟨tg, etg⟩ : ∃ z, w4.heap.size = z := ⟨_, rfl⟩
           obtain ⟨W5, eW5⟩ : ∃ z, w4.alloc (.cells #[.slice va (aL (aB ls) (aA l)).length vc, .pointer (some ⟨rb, 0, none⟩)] 175) = z := ⟨_, rfl⟩
           rw [eW5] at HX5 ⊢
           rw [etg] at HX5 ⊢
           clear eW5 etg)
        | (have HX5 := qH (lD (x := .slice va (aL (aB ls) (aA l)).length vc) (y := .pointer (some ⟨rb, 0, none⟩)) hB9.out X1.out.1 X1.out.2.2 (Nat.le_refl _) (by show W1.heap.size < (W1.alloc _).heap.size; rw [aJ]; exact Nat.lt_succ_self _) X1.out.2.1.size)
           clear c90 c91 f90 f91
           obtain ⟨tg, etg⟩ : ∃ z, W1.heap.size = z := ⟨_, rfl⟩
           obtain ⟨W5, eW5⟩ : ∃ z, (w4.setCell ⟨W1.heap.size, 0, none⟩ (.slice va (aL (aB ls) (aA l)).length vc)).setCell ⟨W1.heap.size, 1, none⟩ (.pointer (some ⟨rb, 0, none⟩)) = z := ⟨_, rfl⟩
           rw [eW5] at HX5 ⊢
           have HTG := qH etg
           rw [etg] at HX5 ⊢
           clear eW5)
       have H5 := qH (show ∃ a, W1.heap.size ≤ a /\ a ≤ W5.heap.size /\ Ext W1 W5 /\ Blk W5 tg [.slice va (aL (aB ls) (aA l)).length vc, .pointer (some ⟨rb, 0, none⟩)] 175 /\ Fast a W5.heap.size W5 fun X => TableAt St X va rb ivt (aL (aB ls) (aA l)) (cD (aB ls) (aA l) (bI Es ls i)) from by
        obtain ⟨a, h1, h2⟩ := HX5.out
        refine ⟨a, ?_, h2⟩
        first
         | exact h1
         | (have h3 := HTG.out
            omega))
       clear HX5
       obtain ⟨a, ha1, ha2, hx5, hb5, hf5⟩ := H5.out
       obtain ⟨nV, enV⟩ : ∃ k, (aL (aB ls) (aA l)).length = k := ⟨_, rfl⟩
       obtain ⟨LLt, eLLt⟩ : ∃ L, cD (aB ls) (aA l) (bI Es ls i) = L := ⟨_, rfl⟩
       rw [eLLt] at hf5
       have hLLt : LLt.length ≤ 65536 := by
        obtain ⟨Sb, hBb⟩ := HBs.out.2.2 i
        have er : bI Es ls i = dG (bB (Es i) (aX l)) := by unfold bI; rw [HLi.out]; rfl
        have h1 := nO (aB ls) (aA l) (bI Es ls i)
        rw [eLLt, er] at h1
        refine Nat.le_trans h1 ?_
        cases hfe : bB (Es i) (aX l) with
        | none => exact Nat.zero_le _
        | some e => exact (hBb.ok.all _ (List.mem_map.2 ⟨e, (bT hfe).1, rfl⟩)).few
       have HLen := qH (iG (z := False) hf5.here.rows.q)
       have t1 : W5.cell? ⟨tg, 1, none⟩ = some (.pointer (some ⟨rb, 0, none⟩)) := by rw [hb5.cell']; rfl
       have H6 := qH (And.intro ha1 (And.intro ha2 (And.intro hx5 (And.intro hb5 (And.intro hf5 (And.intro enV (And.intro eLLt hLLt)))))))
       rw [enV] at hvl
       clear ha1 ha2 hx5 hb5 hf5 H5 hLLt
       go_wp2_with fail
       refine HLen.out.mono ?_
       rintro e W6 ⟨v6, rfl, hk6, rfl, -⟩
       have hx6 := Kp.fq hk6
       obtain ⟨nL, enL⟩ : ∃ k, LLt.length = k := ⟨_, rfl⟩
       rw [enL]
       have HX6 := qH (And.intro hx6 enL)
       by_cases h0 : nL = 0
       ·subst h0
        have HNone := qH (show ∀ V, ¬ cE ls (bI Es ls) V from fun V hV => by
         have h1 := ((nG (r := ((p, hs, ()), ls, ())) HC.out).1 hV).2 i l HLi.out
         unfold fH at h1
         rw [if_pos HKd.out] at h1
         have h2 := H6.out.2.2.2.2.2.2.1
         have h3 : cD (aB ls) (aA l) (bI Es ls i) = [] := h2.trans (List.eq_nil_of_length_eq_zero HX6.out.2)
         exact absurd (show _ ∈ ([] : aD) from h3 ▸ h1) (by simp))
        clear hk6 hx6 enL t1
        go_wp2
        go_ret
        exact RetN.mk (H3.out.1.trans (HM1.out.kp.trans (H6.out.2.2.1.trans HX6.out.1))) (.inl ⟨rfl, .inr HNone.out⟩)
       ·have hn0 : ((nL : Int) == 0) = false := by simp; omega
        have HN0 := qH h0
        have u0 : W6.cell? ⟨tg, 0, none⟩ = some (.slice va nV vc) := by rw [(H6.out.2.2.2.1.ext hx6).cell', <- H6.out.2.2.2.2.2.1]; rfl
        have u1 : W6.cell? ⟨tg, 1, none⟩ = some (.pointer (some ⟨rb, 0, none⟩)) := by rw [(H6.out.2.2.2.1.ext hx6).cell']; rfl
        have HM6 := qH (HM1.out.ext (H6.out.2.2.1.trans hx6))
        have hFw := HFew.out
        by_cases hv0 : nV = 0
        ·subst hv0
         have hvn : aL (aB ls) (aA l) = [] := List.eq_nil_of_length_eq_zero H6.out.2.2.2.2.2.1
         have HP := qH (MatIs.none hIs.out HLi.out HKd.out hvn (by
          have h2 := H6.out.2.2.2.2.2.2.1
          rw [h2, HX6.out.2]
          exact Nat.pos_of_ne_zero HN0.out))
         clear hk6 hx6 enL t1 hvn h0
         go_wp2_with fail
         refine (pP (w := W6) (mb := mb) (rb := rb) (vc := vc) (va := va)).mono ?_
         rintro e W7 ⟨rfl, hx7⟩
         have HM7 := qH (HM6.out.ext hx7)
         have HFx := qH (show Ts.length ≤ i + 1 /\ ∀ k, (tests k).length ≤ i + 1 from ⟨by omega, fun k => by have := hFw.2 k; omega⟩)
         clear hx7 hFw
         go_wp2
         go_roundw
         case rel => exact ⟨i + 1, Ts, tests, tv, av, sv, by omega, by first | rfl | (congr 1; done) | (congr 1; omega), HM7, HP, HFx⟩
         case measure => simp [intOf]; omega
        ·have HV0 := qH hv0
         have HT := qH (jG HM1.out (W2 := W6) (a := a) (P := fun X => TableAt St X va rb ivt (aL (aB ls) (aA l)) LLt) H6.out.1 ((H6.out.2.2.2.2.1.ext hx6).mono (Nat.le_refl _) hx6.size))
         clear hk6 hx6 enL t1 h0
         go_wp2_with fail
         refine (put_any HM6.out HT.out (fun _ h => h.elim) H6.out.2.2.2.2.2.1.symm (by omega) (by omega) (fun v hv => (cF.1 hv).1) ((List.nodup_range).filter _) (fun x hx => by
          have h2 := H6.out.2.2.2.2.2.2.1
          rw [<- h2] at hx
          rw [nN hx]; exact H6.out.2.2.2.2.2.1) H6.out.2.2.2.2.2.2.2 (by omega) (by omega) (fun v => by have := sW Ts v; omega)).mono ?_
         rintro e W7 ⟨rfl, tb, tv2, av2, hM7⟩
         have HM7 := qH (hM7.congr (ats' := atL (Ts ++ [⟨tb, aL (aB ls) (aA l), LLt⟩])) (fun v _ => by rw [qK]) (fun _ _ => rfl))
         have HP := qH (MatIs.put hIs.out HLi.out HKd.out (fun e => HV0.out (by rw [<- H6.out.2.2.2.2.2.1, e]; rfl)) (by
          have h2 := H6.out.2.2.2.2.2.2.1
          rw [h2, HX6.out.2]
          exact Nat.pos_of_ne_zero HN0.out) (t := ⟨tb, aL (aB ls) (aA l), LLt⟩) rfl H6.out.2.2.2.2.2.2.1.symm)
         have HFx := qH (show (Ts ++ [(⟨tb, aL (aB ls) (aA l), LLt⟩ : TrieZ)]).length ≤ i + 1 /\ ∀ k, (tests k).length ≤ i + 1 from ⟨by rw [List.length_append, List.length_singleton]; omega, fun k => by have := hFw.2 k; omega⟩)
         clear hM7 hFw
         go_wp2
         go_roundw
         case rel => exact ⟨i + 1, _, tests, tv2, av2, sv, by omega, by first | rfl | (congr 1; done) | (congr 1; omega), HM7, HP, HFx⟩
         case measure => simp [intOf]; omega
     ·have HKd := qH hk3
      have hb3 : (l.1 == 1) = false := by simp [hk3]
      have hb4 : (l.1 == 2) = true := by simp [hk3]
      have hm64 : m ≤ 64 := by rw [<- HLt.out.2]; exact aE7 HC.out (List.mem_of_getElem? HLi.out) (by omega)
      have HLaid := qH (show ∀ W, Ext w3 W -> Calls Tryz.prog 117 #[.agg #[.string (aX l), .slice a2 m cap2], bv, .slice na nv nc] W (RetN W fun w' v => ∃ va vc rb iv S', v = .agg #[.slice va (aL (aB ls) (aA l)).length vc, .pointer (some ⟨rb, 0, none⟩)] /\ Fast W.heap.size w'.heap.size w' fun X => TableAt S' X va rb iv (aL (aB ls) (aA l)) (cD (aB ls) (aA l) (bI Es ls i))) from fun W hW => by
       obtain ⟨Sb, hBb⟩ := HBs.out.2.2 i
       rw [HBV.out] at hBb
       have er : bI Es ls i = dG (bB (Es i) (aX l)) := by unfold bI; rw [HLi.out]; rfl
       rw [er]
       exact qA (hBb.ext (H3.out.1.trans hW)) HLt.out.2.symm (HLt.out.1.terms.kp hW fun _ _ h => h) hm64 env.symm (H3.out.2.2.1.ext hW) (bQ ls) (by omega))
      obtain ⟨kx, ekx⟩ : ∃ kx : Nat, eI (aB ls) l + 1 = (kx : Int) := ⟨(eI (aB ls) l + 1).toNat, by have := sT (N := aB ls) (l := l); omega⟩
      have hkn : kx < nv + 1 := by have := sR (N := aB ls) (l := l); omega
      have HK := qH (And.intro ekx hkn)
      have HJ := qH (show ∀ w', Ext W1 w' -> (fun w' : World => w'.cell? ⟨lb, 1, none⟩ = some (.string (aX l)) /\ w'.cell? ⟨lb, 2, none⟩ = some (.slice a2 m cap2) /\ w'.cell? ⟨mb, 0, none⟩ = some (.slice na nv nc)) w' from fun w' hw' => by
       have hb := HW.out.1.ext hw'
       exact ⟨by rw [hb.cell']; rfl, by rw [hb.cell']; rfl, by rw [(HM1.out.box.ext hw').cell', env]; rfl⟩)
      have hvl := iC (ts := aA l) (bQ ls)
      rw [HLt.out.2] at hvl
      rw [hk3] at l0
      clear ekx hkn hk3
      go_wp2
      clear eW1
      refine aT (fun w' : World => w'.cell? ⟨lb, 1, none⟩ = some (.string (aX l)) /\ w'.cell? ⟨lb, 2, none⟩ = some (.slice a2 m cap2) /\ w'.cell? ⟨mb, 0, none⟩ = some (.slice na nv nc)) [10] (by kernel_rfl) (HJ.out _ (Kp.refl W1).drew) (fun hHeld => ?_)
      refine dF 0 ?_; try simp only [Act.put,sI,sZ,sS]
      refine dF 1 ?_; try simp only [Act.put,sI,sZ,sS]
      refine dI 2 ?_; try simp only [Act.put,sI,sZ,sS]
      refine dF 3 ?_; try simp only [Act.put,sI,sZ,sS]
      refine dF 4 ?_; try simp only [Act.put,sI,sZ,sS]
      refine dF 5 ?_; try simp only [Act.put,sI,sZ,sS]
      refine dF 6 ?_; try simp only [Act.put,sI,sZ,sS]
      refine dI 7 ?_; try simp only [Act.put,sI,sZ,sS]
      refine aE (i := 8) ?_
      refine aF (i := 8) rfl (fun K hK => ?_)
      go_simp
      (refine (HLaid.out _ (HM1.out.kp.trans (Kp.refl W1).drew)).mono ?_; rintro e w4 ⟨v4, rfl, hk4, va, vc, rb, ivt, St, rfl, hft⟩; have X1 := qH (And.intro (show Ext W1 w4 from ((Kp.refl W1).drew).trans hk4) (And.intro hk4.size hft)); clear hk4 hft)
      go_wp2_with fail
      refine hK.out _ _ ?_ (fun hHeld => ?_)
      ·(try dsimp only); (exact HJ.out _ X1.out.1)
      clear hK K; (try simp only [Act.put,sI,sZ,sS])
      refine aE (i := 9) ?_
      refine aF (i := 9) rfl (fun K hK => ?_)
      go_simp
      (refine (rR (nv := nv) (lo := W1.drew.heap.size) X1.out.2.2 rfl (by omega) (fun v hv => (by have := (cF.1 hv).1; omega)) (by omega) X1.out.2.1).mono ?_; rintro e w5 ⟨v5, rfl, hk5, t, rfl, hlast, hask, hfast⟩; have X2 := qH (And.intro hk5 (And.intro hlast (And.intro hask hfast))); clear hk5 hlast hask hfast)
      go_wp2_with fail
      refine hK.out _ _ ?_ (fun hHeld => ?_)
      ·(try dsimp only); (exact HJ.out _ (X1.out.1.trans X2.out.1))
      clear hK K; (try simp only [Act.put,sI,sZ,sS])
      refine aE (i := 10) ?_
      refine aI (i := 10) rfl (by kernel_rfl) (fun K hK => ?_)
      go_simp
      (refine (add_any (k := kx) (L := t.last) (HM1.out.ext (X1.out.1.trans X2.out.1)) rfl (by rw [X2.out.2.1]; have h8 := HK.out.1; unfold eI at h8; rw [if_pos HKd.out] at h8; exact h8) (by rw [env]; exact HK.out.2) (by omega) (lC (P := fun nv W => TestOk W nv t) HM1.out (X1.out.1.trans X2.out.1) X2.out.2.2.2 env (Nat.le_trans X1.out.2.1 X2.out.1.size)) (by have := HFew.out.2 kx; omega)).mono ?_; rintro e w6 ⟨rfl, sv2, hM5⟩; have X5 := qH hM5; clear hM5)
      go_wp2_with fail
      refine hK.out _ _ ?_
      clear hK K; (try simp only [Act.put,sI,sZ,sS])
      refine aK (by kernel_rfl) ?_ _
      have hFw := HFew.out
      have HP := qH (MatIs.add hIs.out HLi.out (by rw [HKd.out]; decide) (t := t) (k := kx) (by rw [env]; have := HK.out.2; omega) (by have := HK.out.1; omega) fun V hV => by
       rw [X2.out.2.2.1 V, aBb cX lK]
       unfold fH
       rw [if_neg (by rw [HKd.out]; decide), if_pos HKd.out])
      have HFx := qH (show Ts.length ≤ i + 1 /\ ∀ k, (bP tests kx (tests kx ++ [t]) k).length ≤ i + 1 from ⟨by omega, fun k => by
       by_cases e : k = kx
       ·rw [e, upd_same, List.length_append, List.length_singleton]; have := hFw.2 kx; omega
       ·rw [aH _ _ e]; have := hFw.2 k; omega⟩)
      clear hFw
      go_wp2
      go_roundw
      case rel => exact ⟨i + 1, Ts, _, tv, av, sv2, by omega, by first | rfl | (congr 1; done) | (congr 1; omega), X5, HP, HFx⟩
      case measure => simp [intOf]; omega
     ·have HCm := qH (fun W (hW : Ext w3 W) => qD (a := a2) (m := m) (cap := cap2) (nc := nc) (aB ls) 3 (aX l) (gK l) (leftOf l).1 (leftOf l).2.1 (aR l).1 (aR l).2.1 H3.out.2.2.2.symm (H3.out.2.2.1.ext hW) (by omega))
      have HKd := qH hk3
      have hb3 : (l.1 == 1) = false := by simp [hk3]
      have hb4 : (l.1 == 2) = false := by simp [hk3]
      have hb5 : (l.1 == 3) = true := by simp [hk3]
      obtain ⟨kx, eK⟩ : ∃ kx : Nat, eI (aB ls) l + 1 = (kx : Int) := ⟨(eI (aB ls) l + 1).toNat, by have := sT (N := aB ls) (l := l); omega⟩
      have hkxn : kx < nv + 1 := by have := sR (N := aB ls) (l := l); omega
      have HK := qH (And.intro eK hkxn)
      have HJ := qH (show ∀ w', Ext W1 w' -> (fun w' : World => w'.cell? ⟨lb, 0, none⟩ = some (.int .i64 3) /\ w'.cell? ⟨lb, 1, none⟩ = some (.string (aX l)) /\ w'.cell? ⟨lb, 2, none⟩ = some (.slice a2 m cap2) /\ w'.cell? ⟨lb, 3, none⟩ = some (.int .i64 (gK l)) /\ w'.cell? ⟨lb, 4, none⟩ = some (.int .i64 (leftOf l).1) /\ w'.cell? ⟨lb, 5, none⟩ = some (.string (leftOf l).2.1) /\ w'.cell? ⟨lb, 6, none⟩ = some (.int .i64 (aR l).1) /\ w'.cell? ⟨lb, 7, none⟩ = some (.string (aR l).2.1) /\ w'.cell? ⟨mb, 0, none⟩ = some (.slice na nv nc)) w' from fun w' hw' => by
       have hb := HW.out.1.ext hw'
       rw [hk3] at hb
       exact ⟨by rw [hb.cell']; rfl, by rw [hb.cell']; rfl, by rw [hb.cell']; rfl, by rw [hb.cell']; rfl, by rw [hb.cell']; rfl, by rw [hb.cell']; rfl, by rw [hb.cell']; rfl, by rw [hb.cell']; rfl, by rw [(HM1.out.box.ext hw').cell', env]; rfl⟩)
      rw [hk3] at l0
      clear eK hkxn hk3
      go_wp2
      clear eW1
      refine aT (fun w' : World => w'.cell? ⟨lb, 0, none⟩ = some (.int .i64 3) /\ w'.cell? ⟨lb, 1, none⟩ = some (.string (aX l)) /\ w'.cell? ⟨lb, 2, none⟩ = some (.slice a2 m cap2) /\ w'.cell? ⟨lb, 3, none⟩ = some (.int .i64 (gK l)) /\ w'.cell? ⟨lb, 4, none⟩ = some (.int .i64 (leftOf l).1) /\ w'.cell? ⟨lb, 5, none⟩ = some (.string (leftOf l).2.1) /\ w'.cell? ⟨lb, 6, none⟩ = some (.int .i64 (aR l).1) /\ w'.cell? ⟨lb, 7, none⟩ = some (.string (aR l).2.1) /\ w'.cell? ⟨mb, 0, none⟩ = some (.slice na nv nc)) [7] (by kernel_rfl) (HJ.out _ (Kp.refl W1).drew) (fun hHeld => ?_)
      refine dF 0 ?_; try simp only [Act.put,sI,sZ,sS]
      refine dI 1 ?_; try simp only [Act.put,sI,sZ,sS]
      refine dF 2 ?_; try simp only [Act.put,sI,sZ,sS]
      refine dF 3 ?_; try simp only [Act.put,sI,sZ,sS]
      refine dF 4 ?_; try simp only [Act.put,sI,sZ,sS]
      refine dI 5 ?_; try simp only [Act.put,sI,sZ,sS]
      refine aE (i := 6) ?_
      refine aF (i := 6) rfl (fun K hK => ?_)
      go_simp
      (refine (HCm.out _ (HM1.out.kp.trans (Kp.refl W1).drew)).mono ?_; rintro e w4 ⟨v4, rfl, hk4, t, rfl, hlast, hask, hfast⟩; have X1 := qH (And.intro (show Ext W1 w4 from ((Kp.refl W1).drew).trans hk4) (And.intro hlast (And.intro hask (And.intro hk4.size hfast)))); clear hk4 hlast hask hfast)
      go_wp2_with fail
      refine hK.out _ _ ?_ (fun hHeld => ?_)
      ·(try dsimp only); (exact HJ.out _ X1.out.1)
      clear hK K; (try simp only [Act.put,sI,sZ,sS])
      refine aE (i := 7) ?_
      refine aI (i := 7) rfl (by kernel_rfl) (fun K hK => ?_)
      go_simp
      (refine (add_any (k := kx) (L := t.last) (HM1.out.ext X1.out.1) rfl (by rw [X1.out.2.1, jV (t := leftOf l), jV (t := aR l)]; have h8 := HK.out.1; unfold eI at h8; rw [if_neg (by rw [HKd.out]; decide)] at h8; exact h8) (by rw [env]; exact HK.out.2) (by omega) (lC (P := fun nv W => TestOk W nv t) HM1.out X1.out.1 X1.out.2.2.2.2 env X1.out.2.2.2.1) (by have := HFew.out.2 kx; omega)).mono ?_; rintro e w5 ⟨rfl, sv2, hM5⟩; have X5 := qH hM5; clear hM5)
      go_wp2_with fail
      refine hK.out _ _ ?_
      clear hK K; (try simp only [Act.put,sI,sZ,sS])
      refine aK (by kernel_rfl) ?_ _
      have hFw := HFew.out
      have HP := qH (MatIs.add hIs.out HLi.out (by rw [HKd.out]; decide) (t := t) (k := kx) (by rw [env]; have := HK.out.2; omega) (by have := HK.out.1; omega) fun V hV => by
       rw [X1.out.2.2.1 V, yQ]
       unfold fH
       rw [if_neg (by rw [HKd.out]; decide), if_neg (by rw [HKd.out]; decide)]
       have hs := mG (r := ((p, hs, ()), ls, ())) HC.out (List.mem_of_getElem? HLi.out) HKd.out
       rw [<- pQ (hs _ (.inl rfl)), <- pQ (hs _ (.inr rfl))])
      have HFx := qH (show Ts.length ≤ i + 1 /\ ∀ k, (bP tests kx (tests kx ++ [t]) k).length ≤ i + 1 from ⟨by omega, fun k => by
       by_cases e : k = kx
       ·rw [e, upd_same, List.length_append, List.length_singleton]; have := hFw.2 kx; omega
       ·rw [aH _ _ e]; have := hFw.2 k; omega⟩)
      clear hFw
      go_wp2
      go_roundw
      case rel => exact ⟨i + 1, Ts, _, tv, av, sv2, by omega, by first | rfl | (congr 1; done) | (congr 1; omega), X5, HP, HFx⟩
      case measure => simp [intOf]; omega
    ·have hbs := HBs.out.1
     have hnb2 : nb ≤ i := by omega
     have HBV := qH (show bvs.getD i (.pointer none) = .pointer none from by rw [List.getD_eq_getElem?_getD, List.getElem?_eq_none (by omega)]; rfl)
     have i2 : ¬ (i : Int) < (nb : Int) := by omega
     clear hbs hnb2
     rcases qB (r := ((p, hs, ()), ls, ())) HC.out (List.mem_of_getElem? HLi.out) with hk3 | hk3 | hk3
     ·have HKd := qH hk3
      have hb3 : (l.1 == 1) = true := by simp [hk3]
      have hm64 : m ≤ 64 := by rw [<- HLt.out.2]; exact aE7 HC.out (List.mem_of_getElem? HLi.out) (by omega)
      have HLaid := qH (show ∀ W, Ext w3 W -> Calls Tryz.prog 117 #[.agg #[.string (aX l), .slice a2 m cap2], (.pointer none), .slice na nv nc] W (RetN W fun w' v => ∃ va vc rb iv S', v = .agg #[.slice va (aL (aB ls) (aA l)).length vc, .pointer (some ⟨rb, 0, none⟩)] /\ Fast W.heap.size w'.heap.size w' fun X => TableAt S' X va rb iv (aL (aB ls) (aA l)) (cD (aB ls) (aA l) (bI Es ls i))) from fun W hW => by
       obtain ⟨Sb, hBb⟩ := HBs.out.2.2 i
       rw [HBV.out] at hBb
       have er : bI Es ls i = dG (bB (Es i) (aX l)) := by unfold bI; rw [HLi.out]; rfl
       rw [er]
       exact qA (hBb.ext (H3.out.1.trans hW)) HLt.out.2.symm (HLt.out.1.terms.kp hW fun _ _ h => h) hm64 env.symm (H3.out.2.2.1.ext hW) (bQ ls) (by omega))
      have HJ := qH (show ∀ w', Ext W1 w' -> (fun w' : World => w'.cell? ⟨lb, 1, none⟩ = some (.string (aX l)) /\ w'.cell? ⟨lb, 2, none⟩ = some (.slice a2 m cap2) /\ w'.cell? ⟨mb, 0, none⟩ = some (.slice na nv nc)) w' from fun w' hw' => by
       have hb := HW.out.1.ext hw'
       exact ⟨by rw [hb.cell']; rfl, by rw [hb.cell']; rfl, by rw [(HM1.out.box.ext hw').cell', env]; rfl⟩)
      have hvl := iC (ts := aA l) (bQ ls)
      rw [HLt.out.2] at hvl
      rw [hk3] at l0
      clear hk3
      go_wp2
      clear eW1
      refine aT (fun w' : World => w'.cell? ⟨lb, 1, none⟩ = some (.string (aX l)) /\ w'.cell? ⟨lb, 2, none⟩ = some (.slice a2 m cap2) /\ w'.cell? ⟨mb, 0, none⟩ = some (.slice na nv nc)) [9] (by kernel_rfl) (HJ.out _ (Kp.refl W1).drew) (fun hHeld => ?_)
      refine dF 0 ?_; try simp only [Act.put,sI,sZ,sS]
      refine dI 1 ?_; try simp only [Act.put,sI,sZ,sS]
      refine dF 2 ?_; try simp only [Act.put,sI,sZ,sS]
      refine dF 3 ?_; try simp only [Act.put,sI,sZ,sS]
      refine dF 4 ?_; try simp only [Act.put,sI,sZ,sS]
      refine dF 5 ?_; try simp only [Act.put,sI,sZ,sS]
      refine dI 6 ?_; try simp only [Act.put,sI,sZ,sS]
      refine aBz (i := 7) (k := 8) ?_ ?_
      ·refine aF (i := 7) rfl (fun K hK => ?_)
       go_simp
       (refine (HLaid.out _ (by first | exact HM1.out.kp.trans (Kp.refl W1).drew | exact HM1.out.kp.trans (((Kp.refl W1).drew).alloc _))).mono ?_; rintro e w4 ⟨v4, rfl, hk4, va, vc, rb, ivt, St, rfl, hft⟩; have X1 := qH (And.intro (show Ext W1 w4 from (by first | exact ((Kp.refl W1).drew).trans hk4 | exact (((Kp.refl W1).drew).alloc _).trans hk4)) (And.intro hk4 hft)); clear hk4 hft)
       go_wp2_with fail
       refine hK.out _ _ ?_ (fun hHeld => ?_)
       ·(try dsimp only); (exact HJ.out _ X1.out.1)
       clear hK K; (try simp only [Act.put,sI,sZ,sS])
       refine aE (i := 8) ?_
       refine aF (i := 8) rfl (fun K hK => ?_)
       go_simp
       refine hK.out _ _ ?_ (fun hHeld => ?_)
       ·(try dsimp only); (first | exact HJ.out _ (((Kp.refl W1).drew).alloc _) | exact HJ.out _ (X1.out.1.alloc _))
       clear hK K; (try simp only [Act.put,sI,sZ,sS])
       refine aE (i := 9) ?_
       refine aI (i := 9) rfl (by kernel_rfl) (fun K hK => ?_)
       (first | (have hB9 := qH (show Blk w4 W1.heap.size [.slice none 0 0, .pointer none] 175 from (Blk.new W1.drew [.slice none 0 0, .pointer none] 175).ext X1.out.2.1); have c90 : w4.cell? ⟨W1.heap.size, 0, none⟩ = some (.slice none 0 0) := (by rw [hB9.out.cell']; rfl); have c91 : w4.cell? ⟨W1.heap.size, 1, none⟩ = some (.pointer none) := (by rw [hB9.out.cell']; rfl); have f90 := hB9.out.free 0; have f91 := hB9.out.free 1) | skip)
       go_simp
       refine hK.out _ _ ?_
       clear hK K; (try simp only [Act.put,sI,sZ,sS])
       refine aK (by kernel_rfl) ?_ _
       clear hHeld
       first
        | (have HX5 := qH (lE (x := .slice va (aL (aB ls) (aA l)).length vc) (y := .pointer (some ⟨rb, 0, none⟩)) X1.out.1 X1.out.2.2 (Kp.refl (F := fun _ => False) W1).drew.size X1.out.2.1.size)
           obtain ⟨tg, etg⟩ : ∃ z, w4.heap.size = z := ⟨_, rfl⟩
           obtain ⟨W5, eW5⟩ : ∃ z, w4.alloc (.cells #[.slice va (aL (aB ls) (aA l)).length vc, .pointer (some ⟨rb, 0, none⟩)] 175) = z := ⟨_, rfl⟩
           rw [eW5] at HX5 ⊢
           rw [etg] at HX5 ⊢
           clear eW5 etg)
        | (have HX5 := qH (lD (x := .slice va (aL (aB ls) (aA l)).length vc) (y := .pointer (some ⟨rb, 0, none⟩)) hB9.out X1.out.1 X1.out.2.2 (Nat.le_refl _) (by show W1.heap.size < (W1.alloc _).heap.size; rw [aJ]; exact Nat.lt_succ_self _) X1.out.2.1.size)
           clear c90 c91 f90 f91
           obtain ⟨tg, etg⟩ : ∃ z, W1.heap.size = z := ⟨_, rfl⟩
           obtain ⟨W5, eW5⟩ : ∃ z, (w4.setCell ⟨W1.heap.size, 0, none⟩ (.slice va (aL (aB ls) (aA l)).length vc)).setCell ⟨W1.heap.size, 1, none⟩ (.pointer (some ⟨rb, 0, none⟩)) = z := ⟨_, rfl⟩
           rw [eW5] at HX5 ⊢
           have HTG := qH etg
           rw [etg] at HX5 ⊢
           clear eW5)
       have H5 := qH (show ∃ a, W1.heap.size ≤ a /\ a ≤ W5.heap.size /\ Ext W1 W5 /\ Blk W5 tg [.slice va (aL (aB ls) (aA l)).length vc, .pointer (some ⟨rb, 0, none⟩)] 175 /\ Fast a W5.heap.size W5 fun X => TableAt St X va rb ivt (aL (aB ls) (aA l)) (cD (aB ls) (aA l) (bI Es ls i)) from by
        obtain ⟨a, h1, h2⟩ := HX5.out
        refine ⟨a, ?_, h2⟩
        first
         | exact h1
         | (have h3 := HTG.out
            omega))
       clear HX5
       obtain ⟨a, ha1, ha2, hx5, hb5, hf5⟩ := H5.out
       obtain ⟨nV, enV⟩ : ∃ k, (aL (aB ls) (aA l)).length = k := ⟨_, rfl⟩
       obtain ⟨LLt, eLLt⟩ : ∃ L, cD (aB ls) (aA l) (bI Es ls i) = L := ⟨_, rfl⟩
       rw [eLLt] at hf5
       have hLLt : LLt.length ≤ 65536 := by
        obtain ⟨Sb, hBb⟩ := HBs.out.2.2 i
        have er : bI Es ls i = dG (bB (Es i) (aX l)) := by unfold bI; rw [HLi.out]; rfl
        have h1 := nO (aB ls) (aA l) (bI Es ls i)
        rw [eLLt, er] at h1
        refine Nat.le_trans h1 ?_
        cases hfe : bB (Es i) (aX l) with
        | none => exact Nat.zero_le _
        | some e => exact (hBb.ok.all _ (List.mem_map.2 ⟨e, (bT hfe).1, rfl⟩)).few
       have HLen := qH (iG (z := False) hf5.here.rows.q)
       have t1 : W5.cell? ⟨tg, 1, none⟩ = some (.pointer (some ⟨rb, 0, none⟩)) := by rw [hb5.cell']; rfl
       have H6 := qH (And.intro ha1 (And.intro ha2 (And.intro hx5 (And.intro hb5 (And.intro hf5 (And.intro enV (And.intro eLLt hLLt)))))))
       rw [enV] at hvl
       clear ha1 ha2 hx5 hb5 hf5 H5 hLLt
       go_wp2_with fail
       refine HLen.out.mono ?_
       rintro e W6 ⟨v6, rfl, hk6, rfl, -⟩
       have hx6 := Kp.fq hk6
       obtain ⟨nL, enL⟩ : ∃ k, LLt.length = k := ⟨_, rfl⟩
       rw [enL]
       have HX6 := qH (And.intro hx6 enL)
       by_cases h0 : nL = 0
       ·subst h0
        have HNone := qH (show ∀ V, ¬ cE ls (bI Es ls) V from fun V hV => by
         have h1 := ((nG (r := ((p, hs, ()), ls, ())) HC.out).1 hV).2 i l HLi.out
         unfold fH at h1
         rw [if_pos HKd.out] at h1
         have h2 := H6.out.2.2.2.2.2.2.1
         have h3 : cD (aB ls) (aA l) (bI Es ls i) = [] := h2.trans (List.eq_nil_of_length_eq_zero HX6.out.2)
         exact absurd (show _ ∈ ([] : aD) from h3 ▸ h1) (by simp))
        clear hk6 hx6 enL t1
        go_wp2
        go_ret
        exact RetN.mk (H3.out.1.trans (HM1.out.kp.trans (H6.out.2.2.1.trans HX6.out.1))) (.inl ⟨rfl, .inr HNone.out⟩)
       ·have hn0 : ((nL : Int) == 0) = false := by simp; omega
        have HN0 := qH h0
        have u0 : W6.cell? ⟨tg, 0, none⟩ = some (.slice va nV vc) := by rw [(H6.out.2.2.2.1.ext hx6).cell', <- H6.out.2.2.2.2.2.1]; rfl
        have u1 : W6.cell? ⟨tg, 1, none⟩ = some (.pointer (some ⟨rb, 0, none⟩)) := by rw [(H6.out.2.2.2.1.ext hx6).cell']; rfl
        have HM6 := qH (HM1.out.ext (H6.out.2.2.1.trans hx6))
        have hFw := HFew.out
        by_cases hv0 : nV = 0
        ·subst hv0
         have hvn : aL (aB ls) (aA l) = [] := List.eq_nil_of_length_eq_zero H6.out.2.2.2.2.2.1
         have HP := qH (MatIs.none hIs.out HLi.out HKd.out hvn (by
          have h2 := H6.out.2.2.2.2.2.2.1
          rw [h2, HX6.out.2]
          exact Nat.pos_of_ne_zero HN0.out))
         clear hk6 hx6 enL t1 hvn h0
         go_wp2_with fail
         refine (pP (w := W6) (mb := mb) (rb := rb) (vc := vc) (va := va)).mono ?_
         rintro e W7 ⟨rfl, hx7⟩
         have HM7 := qH (HM6.out.ext hx7)
         have HFx := qH (show Ts.length ≤ i + 1 /\ ∀ k, (tests k).length ≤ i + 1 from ⟨by omega, fun k => by have := hFw.2 k; omega⟩)
         clear hx7 hFw
         go_wp2
         go_roundw
         case rel => exact ⟨i + 1, Ts, tests, tv, av, sv, by omega, by first | rfl | (congr 1; done) | (congr 1; omega), HM7, HP, HFx⟩
         case measure => simp [intOf]; omega
        ·have HV0 := qH hv0
         have HT := qH (jG HM1.out (W2 := W6) (a := a) (P := fun X => TableAt St X va rb ivt (aL (aB ls) (aA l)) LLt) H6.out.1 ((H6.out.2.2.2.2.1.ext hx6).mono (Nat.le_refl _) hx6.size))
         clear hk6 hx6 enL t1 h0
         go_wp2_with fail
         refine (put_any HM6.out HT.out (fun _ h => h.elim) H6.out.2.2.2.2.2.1.symm (by omega) (by omega) (fun v hv => (cF.1 hv).1) ((List.nodup_range).filter _) (fun x hx => by
          have h2 := H6.out.2.2.2.2.2.2.1
          rw [<- h2] at hx
          rw [nN hx]; exact H6.out.2.2.2.2.2.1) H6.out.2.2.2.2.2.2.2 (by omega) (by omega) (fun v => by have := sW Ts v; omega)).mono ?_
         rintro e W7 ⟨rfl, tb, tv2, av2, hM7⟩
         have HM7 := qH (hM7.congr (ats' := atL (Ts ++ [⟨tb, aL (aB ls) (aA l), LLt⟩])) (fun v _ => by rw [qK]) (fun _ _ => rfl))
         have HP := qH (MatIs.put hIs.out HLi.out HKd.out (fun e => HV0.out (by rw [<- H6.out.2.2.2.2.2.1, e]; rfl)) (by
          have h2 := H6.out.2.2.2.2.2.2.1
          rw [h2, HX6.out.2]
          exact Nat.pos_of_ne_zero HN0.out) (t := ⟨tb, aL (aB ls) (aA l), LLt⟩) rfl H6.out.2.2.2.2.2.2.1.symm)
         have HFx := qH (show (Ts ++ [(⟨tb, aL (aB ls) (aA l), LLt⟩ : TrieZ)]).length ≤ i + 1 /\ ∀ k, (tests k).length ≤ i + 1 from ⟨by rw [List.length_append, List.length_singleton]; omega, fun k => by have := hFw.2 k; omega⟩)
         clear hM7 hFw
         go_wp2
         go_roundw
         case rel => exact ⟨i + 1, _, tests, tv2, av2, sv, by omega, by first | rfl | (congr 1; done) | (congr 1; omega), HM7, HP, HFx⟩
         case measure => simp [intOf]; omega
      ·refine aF (i := 8) rfl (fun K hK => ?_)
       go_simp
       refine hK.out _ _ ?_ (fun hHeld => ?_)
       ·(try dsimp only); (first | exact HJ.out _ (((Kp.refl W1).drew).alloc _) | exact HJ.out _ (X1.out.1.alloc _))
       clear hK K; (try simp only [Act.put,sI,sZ,sS])
       refine aE (i := 7) ?_
       refine aF (i := 7) rfl (fun K hK => ?_)
       go_simp
       (refine (HLaid.out _ (by first | exact HM1.out.kp.trans (Kp.refl W1).drew | exact HM1.out.kp.trans (((Kp.refl W1).drew).alloc _))).mono ?_; rintro e w4 ⟨v4, rfl, hk4, va, vc, rb, ivt, St, rfl, hft⟩; have X1 := qH (And.intro (show Ext W1 w4 from (by first | exact ((Kp.refl W1).drew).trans hk4 | exact (((Kp.refl W1).drew).alloc _).trans hk4)) (And.intro hk4 hft)); clear hk4 hft)
       go_wp2_with fail
       refine hK.out _ _ ?_ (fun hHeld => ?_)
       ·(try dsimp only); (exact HJ.out _ X1.out.1)
       clear hK K; (try simp only [Act.put,sI,sZ,sS])
       refine aE (i := 9) ?_
       refine aI (i := 9) rfl (by kernel_rfl) (fun K hK => ?_)
       (first | (have hB9 := qH (show Blk w4 W1.heap.size [.slice none 0 0, .pointer none] 175 from (Blk.new W1.drew [.slice none 0 0, .pointer none] 175).ext X1.out.2.1); have c90 : w4.cell? ⟨W1.heap.size, 0, none⟩ = some (.slice none 0 0) := (by rw [hB9.out.cell']; rfl); have c91 : w4.cell? ⟨W1.heap.size, 1, none⟩ = some (.pointer none) := (by rw [hB9.out.cell']; rfl); have f90 := hB9.out.free 0; have f91 := hB9.out.free 1) | skip)
       go_simp
       refine hK.out _ _ ?_
       clear hK K; (try simp only [Act.put,sI,sZ,sS])
       refine aK (by kernel_rfl) ?_ _
       clear hHeld
       first
        | (have HX5 := qH (lE (x := .slice va (aL (aB ls) (aA l)).length vc) (y := .pointer (some ⟨rb, 0, none⟩)) X1.out.1 X1.out.2.2 (Kp.refl (F := fun _ => False) W1).drew.size X1.out.2.1.size)
           obtain ⟨tg, etg⟩ : ∃ z, w4.heap.size = z := ⟨_, rfl⟩
           obtain ⟨W5, eW5⟩ : ∃ z, w4.alloc (.cells #[.slice va (aL (aB ls) (aA l)).length vc, .pointer (some ⟨rb, 0, none⟩)] 175) = z := ⟨_, rfl⟩
           rw [eW5] at HX5 ⊢
           rw [etg] at HX5 ⊢
           clear eW5 etg)
        | (have HX5 := qH (lD (x := .slice va (aL (aB ls) (aA l)).length vc) (y := .pointer (some ⟨rb, 0, none⟩)) hB9.out X1.out.1 X1.out.2.2 (Nat.le_refl _) (by show W1.heap.size < (W1.alloc _).heap.size; rw [aJ]; exact Nat.lt_succ_self _) X1.out.2.1.size)
           clear c90 c91 f90 f91
           obtain ⟨tg, etg⟩ : ∃ z, W1.heap.size = z := ⟨_, rfl⟩
           obtain ⟨W5, eW5⟩ : ∃ z, (w4.setCell ⟨W1.heap.size, 0, none⟩ (.slice va (aL (aB ls) (aA l)).length vc)).setCell ⟨W1.heap.size, 1, none⟩ (.pointer (some ⟨rb, 0, none⟩)) = z := ⟨_, rfl⟩
           rw [eW5] at HX5 ⊢
           have HTG := qH etg
           rw [etg] at HX5 ⊢
           clear eW5)
       have H5 := qH (show ∃ a, W1.heap.size ≤ a /\ a ≤ W5.heap.size /\ Ext W1 W5 /\ Blk W5 tg [.slice va (aL (aB ls) (aA l)).length vc, .pointer (some ⟨rb, 0, none⟩)] 175 /\ Fast a W5.heap.size W5 fun X => TableAt St X va rb ivt (aL (aB ls) (aA l)) (cD (aB ls) (aA l) (bI Es ls i)) from by
        obtain ⟨a, h1, h2⟩ := HX5.out
        refine ⟨a, ?_, h2⟩
        first
         | exact h1
         | (have h3 := HTG.out
            omega))
       clear HX5
       obtain ⟨a, ha1, ha2, hx5, hb5, hf5⟩ := H5.out
       obtain ⟨nV, enV⟩ : ∃ k, (aL (aB ls) (aA l)).length = k := ⟨_, rfl⟩
       obtain ⟨LLt, eLLt⟩ : ∃ L, cD (aB ls) (aA l) (bI Es ls i) = L := ⟨_, rfl⟩
       rw [eLLt] at hf5
       have hLLt : LLt.length ≤ 65536 := by
        obtain ⟨Sb, hBb⟩ := HBs.out.2.2 i
        have er : bI Es ls i = dG (bB (Es i) (aX l)) := by unfold bI; rw [HLi.out]; rfl
        have h1 := nO (aB ls) (aA l) (bI Es ls i)
        rw [eLLt, er] at h1
        refine Nat.le_trans h1 ?_
        cases hfe : bB (Es i) (aX l) with
        | none => exact Nat.zero_le _
        | some e => exact (hBb.ok.all _ (List.mem_map.2 ⟨e, (bT hfe).1, rfl⟩)).few
       have HLen := qH (iG (z := False) hf5.here.rows.q)
       have t1 : W5.cell? ⟨tg, 1, none⟩ = some (.pointer (some ⟨rb, 0, none⟩)) := by rw [hb5.cell']; rfl
       have H6 := qH (And.intro ha1 (And.intro ha2 (And.intro hx5 (And.intro hb5 (And.intro hf5 (And.intro enV (And.intro eLLt hLLt)))))))
       rw [enV] at hvl
       clear ha1 ha2 hx5 hb5 hf5 H5 hLLt
       go_wp2_with fail
       refine HLen.out.mono ?_
       rintro e W6 ⟨v6, rfl, hk6, rfl, -⟩
       have hx6 := Kp.fq hk6
       obtain ⟨nL, enL⟩ : ∃ k, LLt.length = k := ⟨_, rfl⟩
       rw [enL]
       have HX6 := qH (And.intro hx6 enL)
       by_cases h0 : nL = 0
       ·subst h0
        have HNone := qH (show ∀ V, ¬ cE ls (bI Es ls) V from fun V hV => by
         have h1 := ((nG (r := ((p, hs, ()), ls, ())) HC.out).1 hV).2 i l HLi.out
         unfold fH at h1
         rw [if_pos HKd.out] at h1
         have h2 := H6.out.2.2.2.2.2.2.1
         have h3 : cD (aB ls) (aA l) (bI Es ls i) = [] := h2.trans (List.eq_nil_of_length_eq_zero HX6.out.2)
         exact absurd (show _ ∈ ([] : aD) from h3 ▸ h1) (by simp))
        clear hk6 hx6 enL t1
        go_wp2
        go_ret
        exact RetN.mk (H3.out.1.trans (HM1.out.kp.trans (H6.out.2.2.1.trans HX6.out.1))) (.inl ⟨rfl, .inr HNone.out⟩)
       ·have hn0 : ((nL : Int) == 0) = false := by simp; omega
        have HN0 := qH h0
        have u0 : W6.cell? ⟨tg, 0, none⟩ = some (.slice va nV vc) := by rw [(H6.out.2.2.2.1.ext hx6).cell', <- H6.out.2.2.2.2.2.1]; rfl
        have u1 : W6.cell? ⟨tg, 1, none⟩ = some (.pointer (some ⟨rb, 0, none⟩)) := by rw [(H6.out.2.2.2.1.ext hx6).cell']; rfl
        have HM6 := qH (HM1.out.ext (H6.out.2.2.1.trans hx6))
        have hFw := HFew.out
        by_cases hv0 : nV = 0
        ·subst hv0
         have hvn : aL (aB ls) (aA l) = [] := List.eq_nil_of_length_eq_zero H6.out.2.2.2.2.2.1
         have HP := qH (MatIs.none hIs.out HLi.out HKd.out hvn (by
          have h2 := H6.out.2.2.2.2.2.2.1
          rw [h2, HX6.out.2]
          exact Nat.pos_of_ne_zero HN0.out))
         clear hk6 hx6 enL t1 hvn h0
         go_wp2_with fail
         refine (pP (w := W6) (mb := mb) (rb := rb) (vc := vc) (va := va)).mono ?_
         rintro e W7 ⟨rfl, hx7⟩
         have HM7 := qH (HM6.out.ext hx7)
         have HFx := qH (show Ts.length ≤ i + 1 /\ ∀ k, (tests k).length ≤ i + 1 from ⟨by omega, fun k => by have := hFw.2 k; omega⟩)
         clear hx7 hFw
         go_wp2
         go_roundw
         case rel => exact ⟨i + 1, Ts, tests, tv, av, sv, by omega, by first | rfl | (congr 1; done) | (congr 1; omega), HM7, HP, HFx⟩
         case measure => simp [intOf]; omega
        ·have HV0 := qH hv0
         have HT := qH (jG HM1.out (W2 := W6) (a := a) (P := fun X => TableAt St X va rb ivt (aL (aB ls) (aA l)) LLt) H6.out.1 ((H6.out.2.2.2.2.1.ext hx6).mono (Nat.le_refl _) hx6.size))
         clear hk6 hx6 enL t1 h0
         go_wp2_with fail
         refine (put_any HM6.out HT.out (fun _ h => h.elim) H6.out.2.2.2.2.2.1.symm (by omega) (by omega) (fun v hv => (cF.1 hv).1) ((List.nodup_range).filter _) (fun x hx => by
          have h2 := H6.out.2.2.2.2.2.2.1
          rw [<- h2] at hx
          rw [nN hx]; exact H6.out.2.2.2.2.2.1) H6.out.2.2.2.2.2.2.2 (by omega) (by omega) (fun v => by have := sW Ts v; omega)).mono ?_
         rintro e W7 ⟨rfl, tb, tv2, av2, hM7⟩
         have HM7 := qH (hM7.congr (ats' := atL (Ts ++ [⟨tb, aL (aB ls) (aA l), LLt⟩])) (fun v _ => by rw [qK]) (fun _ _ => rfl))
         have HP := qH (MatIs.put hIs.out HLi.out HKd.out (fun e => HV0.out (by rw [<- H6.out.2.2.2.2.2.1, e]; rfl)) (by
          have h2 := H6.out.2.2.2.2.2.2.1
          rw [h2, HX6.out.2]
          exact Nat.pos_of_ne_zero HN0.out) (t := ⟨tb, aL (aB ls) (aA l), LLt⟩) rfl H6.out.2.2.2.2.2.2.1.symm)
         have HFx := qH (show (Ts ++ [(⟨tb, aL (aB ls) (aA l), LLt⟩ : TrieZ)]).length ≤ i + 1 /\ ∀ k, (tests k).length ≤ i + 1 from ⟨by rw [List.length_append, List.length_singleton]; omega, fun k => by have := hFw.2 k; omega⟩)
         clear hM7 hFw
         go_wp2
         go_roundw
         case rel => exact ⟨i + 1, _, tests, tv2, av2, sv, by omega, by first | rfl | (congr 1; done) | (congr 1; omega), HM7, HP, HFx⟩
         case measure => simp [intOf]; omega
     ·have HKd := qH hk3
      have hb3 : (l.1 == 1) = false := by simp [hk3]
      have hb4 : (l.1 == 2) = true := by simp [hk3]
      have hm64 : m ≤ 64 := by rw [<- HLt.out.2]; exact aE7 HC.out (List.mem_of_getElem? HLi.out) (by omega)
      have HLaid := qH (show ∀ W, Ext w3 W -> Calls Tryz.prog 117 #[.agg #[.string (aX l), .slice a2 m cap2], (.pointer none), .slice na nv nc] W (RetN W fun w' v => ∃ va vc rb iv S', v = .agg #[.slice va (aL (aB ls) (aA l)).length vc, .pointer (some ⟨rb, 0, none⟩)] /\ Fast W.heap.size w'.heap.size w' fun X => TableAt S' X va rb iv (aL (aB ls) (aA l)) (cD (aB ls) (aA l) (bI Es ls i))) from fun W hW => by
       obtain ⟨Sb, hBb⟩ := HBs.out.2.2 i
       rw [HBV.out] at hBb
       have er : bI Es ls i = dG (bB (Es i) (aX l)) := by unfold bI; rw [HLi.out]; rfl
       rw [er]
       exact qA (hBb.ext (H3.out.1.trans hW)) HLt.out.2.symm (HLt.out.1.terms.kp hW fun _ _ h => h) hm64 env.symm (H3.out.2.2.1.ext hW) (bQ ls) (by omega))
      obtain ⟨kx, ekx⟩ : ∃ kx : Nat, eI (aB ls) l + 1 = (kx : Int) := ⟨(eI (aB ls) l + 1).toNat, by have := sT (N := aB ls) (l := l); omega⟩
      have hkn : kx < nv + 1 := by have := sR (N := aB ls) (l := l); omega
      have HK := qH (And.intro ekx hkn)
      have HJ := qH (show ∀ w', Ext W1 w' -> (fun w' : World => w'.cell? ⟨lb, 1, none⟩ = some (.string (aX l)) /\ w'.cell? ⟨lb, 2, none⟩ = some (.slice a2 m cap2) /\ w'.cell? ⟨mb, 0, none⟩ = some (.slice na nv nc)) w' from fun w' hw' => by
       have hb := HW.out.1.ext hw'
       exact ⟨by rw [hb.cell']; rfl, by rw [hb.cell']; rfl, by rw [(HM1.out.box.ext hw').cell', env]; rfl⟩)
      have hvl := iC (ts := aA l) (bQ ls)
      rw [HLt.out.2] at hvl
      rw [hk3] at l0
      clear ekx hkn hk3
      go_wp2
      clear eW1
      refine aT (fun w' : World => w'.cell? ⟨lb, 1, none⟩ = some (.string (aX l)) /\ w'.cell? ⟨lb, 2, none⟩ = some (.slice a2 m cap2) /\ w'.cell? ⟨mb, 0, none⟩ = some (.slice na nv nc)) [10] (by kernel_rfl) (HJ.out _ (Kp.refl W1).drew) (fun hHeld => ?_)
      refine dF 0 ?_; try simp only [Act.put,sI,sZ,sS]
      refine dF 1 ?_; try simp only [Act.put,sI,sZ,sS]
      refine dI 2 ?_; try simp only [Act.put,sI,sZ,sS]
      refine dF 3 ?_; try simp only [Act.put,sI,sZ,sS]
      refine dF 4 ?_; try simp only [Act.put,sI,sZ,sS]
      refine dF 5 ?_; try simp only [Act.put,sI,sZ,sS]
      refine dF 6 ?_; try simp only [Act.put,sI,sZ,sS]
      refine dI 7 ?_; try simp only [Act.put,sI,sZ,sS]
      refine aE (i := 8) ?_
      refine aF (i := 8) rfl (fun K hK => ?_)
      go_simp
      (refine (HLaid.out _ (HM1.out.kp.trans (Kp.refl W1).drew)).mono ?_; rintro e w4 ⟨v4, rfl, hk4, va, vc, rb, ivt, St, rfl, hft⟩; have X1 := qH (And.intro (show Ext W1 w4 from ((Kp.refl W1).drew).trans hk4) (And.intro hk4.size hft)); clear hk4 hft)
      go_wp2_with fail
      refine hK.out _ _ ?_ (fun hHeld => ?_)
      ·(try dsimp only); (exact HJ.out _ X1.out.1)
      clear hK K; (try simp only [Act.put,sI,sZ,sS])
      refine aE (i := 9) ?_
      refine aF (i := 9) rfl (fun K hK => ?_)
      go_simp
      (refine (rR (nv := nv) (lo := W1.drew.heap.size) X1.out.2.2 rfl (by omega) (fun v hv => (by have := (cF.1 hv).1; omega)) (by omega) X1.out.2.1).mono ?_; rintro e w5 ⟨v5, rfl, hk5, t, rfl, hlast, hask, hfast⟩; have X2 := qH (And.intro hk5 (And.intro hlast (And.intro hask hfast))); clear hk5 hlast hask hfast)
      go_wp2_with fail
      refine hK.out _ _ ?_ (fun hHeld => ?_)
      ·(try dsimp only); (exact HJ.out _ (X1.out.1.trans X2.out.1))
      clear hK K; (try simp only [Act.put,sI,sZ,sS])
      refine aE (i := 10) ?_
      refine aI (i := 10) rfl (by kernel_rfl) (fun K hK => ?_)
      go_simp
      (refine (add_any (k := kx) (L := t.last) (HM1.out.ext (X1.out.1.trans X2.out.1)) rfl (by rw [X2.out.2.1]; have h8 := HK.out.1; unfold eI at h8; rw [if_pos HKd.out] at h8; exact h8) (by rw [env]; exact HK.out.2) (by omega) (lC (P := fun nv W => TestOk W nv t) HM1.out (X1.out.1.trans X2.out.1) X2.out.2.2.2 env (Nat.le_trans X1.out.2.1 X2.out.1.size)) (by have := HFew.out.2 kx; omega)).mono ?_; rintro e w6 ⟨rfl, sv2, hM5⟩; have X5 := qH hM5; clear hM5)
      go_wp2_with fail
      refine hK.out _ _ ?_
      clear hK K; (try simp only [Act.put,sI,sZ,sS])
      refine aK (by kernel_rfl) ?_ _
      have hFw := HFew.out
      have HP := qH (MatIs.add hIs.out HLi.out (by rw [HKd.out]; decide) (t := t) (k := kx) (by rw [env]; have := HK.out.2; omega) (by have := HK.out.1; omega) fun V hV => by
       rw [X2.out.2.2.1 V, aBb cX lK]
       unfold fH
       rw [if_neg (by rw [HKd.out]; decide), if_pos HKd.out])
      have HFx := qH (show Ts.length ≤ i + 1 /\ ∀ k, (bP tests kx (tests kx ++ [t]) k).length ≤ i + 1 from ⟨by omega, fun k => by
       by_cases e : k = kx
       ·rw [e, upd_same, List.length_append, List.length_singleton]; have := hFw.2 kx; omega
       ·rw [aH _ _ e]; have := hFw.2 k; omega⟩)
      clear hFw
      go_wp2
      go_roundw
      case rel => exact ⟨i + 1, Ts, _, tv, av, sv2, by omega, by first | rfl | (congr 1; done) | (congr 1; omega), X5, HP, HFx⟩
      case measure => simp [intOf]; omega
     ·have HCm := qH (fun W (hW : Ext w3 W) => qD (a := a2) (m := m) (cap := cap2) (nc := nc) (aB ls) 3 (aX l) (gK l) (leftOf l).1 (leftOf l).2.1 (aR l).1 (aR l).2.1 H3.out.2.2.2.symm (H3.out.2.2.1.ext hW) (by omega))
      have HKd := qH hk3
      have hb3 : (l.1 == 1) = false := by simp [hk3]
      have hb4 : (l.1 == 2) = false := by simp [hk3]
      have hb5 : (l.1 == 3) = true := by simp [hk3]
      obtain ⟨kx, eK⟩ : ∃ kx : Nat, eI (aB ls) l + 1 = (kx : Int) := ⟨(eI (aB ls) l + 1).toNat, by have := sT (N := aB ls) (l := l); omega⟩
      have hkxn : kx < nv + 1 := by have := sR (N := aB ls) (l := l); omega
      have HK := qH (And.intro eK hkxn)
      have HJ := qH (show ∀ w', Ext W1 w' -> (fun w' : World => w'.cell? ⟨lb, 0, none⟩ = some (.int .i64 3) /\ w'.cell? ⟨lb, 1, none⟩ = some (.string (aX l)) /\ w'.cell? ⟨lb, 2, none⟩ = some (.slice a2 m cap2) /\ w'.cell? ⟨lb, 3, none⟩ = some (.int .i64 (gK l)) /\ w'.cell? ⟨lb, 4, none⟩ = some (.int .i64 (leftOf l).1) /\ w'.cell? ⟨lb, 5, none⟩ = some (.string (leftOf l).2.1) /\ w'.cell? ⟨lb, 6, none⟩ = some (.int .i64 (aR l).1) /\ w'.cell? ⟨lb, 7, none⟩ = some (.string (aR l).2.1) /\ w'.cell? ⟨mb, 0, none⟩ = some (.slice na nv nc)) w' from fun w' hw' => by
       have hb := HW.out.1.ext hw'
       rw [hk3] at hb
       exact ⟨by rw [hb.cell']; rfl, by rw [hb.cell']; rfl, by rw [hb.cell']; rfl, by rw [hb.cell']; rfl, by rw [hb.cell']; rfl, by rw [hb.cell']; rfl, by rw [hb.cell']; rfl, by rw [hb.cell']; rfl, by rw [(HM1.out.box.ext hw').cell', env]; rfl⟩)
      rw [hk3] at l0
      clear eK hkxn hk3
      go_wp2
      clear eW1
      refine aT (fun w' : World => w'.cell? ⟨lb, 0, none⟩ = some (.int .i64 3) /\ w'.cell? ⟨lb, 1, none⟩ = some (.string (aX l)) /\ w'.cell? ⟨lb, 2, none⟩ = some (.slice a2 m cap2) /\ w'.cell? ⟨lb, 3, none⟩ = some (.int .i64 (gK l)) /\ w'.cell? ⟨lb, 4, none⟩ = some (.int .i64 (leftOf l).1) /\ w'.cell? ⟨lb, 5, none⟩ = some (.string (leftOf l).2.1) /\ w'.cell? ⟨lb, 6, none⟩ = some (.int .i64 (aR l).1) /\ w'.cell? ⟨lb, 7, none⟩ = some (.string (aR l).2.1) /\ w'.cell? ⟨mb, 0, none⟩ = some (.slice na nv nc)) [7] (by kernel_rfl) (HJ.out _ (Kp.refl W1).drew) (fun hHeld => ?_)
      refine dF 0 ?_; try simp only [Act.put,sI,sZ,sS]
      refine dI 1 ?_; try simp only [Act.put,sI,sZ,sS]
      refine dF 2 ?_; try simp only [Act.put,sI,sZ,sS]
      refine dF 3 ?_; try simp only [Act.put,sI,sZ,sS]
      refine dF 4 ?_; try simp only [Act.put,sI,sZ,sS]
      refine dI 5 ?_; try simp only [Act.put,sI,sZ,sS]
      refine aE (i := 6) ?_
      refine aF (i := 6) rfl (fun K hK => ?_)
      go_simp
      (refine (HCm.out _ (HM1.out.kp.trans (Kp.refl W1).drew)).mono ?_; rintro e w4 ⟨v4, rfl, hk4, t, rfl, hlast, hask, hfast⟩; have X1 := qH (And.intro (show Ext W1 w4 from ((Kp.refl W1).drew).trans hk4) (And.intro hlast (And.intro hask (And.intro hk4.size hfast)))); clear hk4 hlast hask hfast)
      go_wp2_with fail
      refine hK.out _ _ ?_ (fun hHeld => ?_)
      ·(try dsimp only); (exact HJ.out _ X1.out.1)
      clear hK K; (try simp only [Act.put,sI,sZ,sS])
      refine aE (i := 7) ?_
      refine aI (i := 7) rfl (by kernel_rfl) (fun K hK => ?_)
      go_simp
      (refine (add_any (k := kx) (L := t.last) (HM1.out.ext X1.out.1) rfl (by rw [X1.out.2.1, jV (t := leftOf l), jV (t := aR l)]; have h8 := HK.out.1; unfold eI at h8; rw [if_neg (by rw [HKd.out]; decide)] at h8; exact h8) (by rw [env]; exact HK.out.2) (by omega) (lC (P := fun nv W => TestOk W nv t) HM1.out X1.out.1 X1.out.2.2.2.2 env X1.out.2.2.2.1) (by have := HFew.out.2 kx; omega)).mono ?_; rintro e w5 ⟨rfl, sv2, hM5⟩; have X5 := qH hM5; clear hM5)
      go_wp2_with fail
      refine hK.out _ _ ?_
      clear hK K; (try simp only [Act.put,sI,sZ,sS])
      refine aK (by kernel_rfl) ?_ _
      have hFw := HFew.out
      have HP := qH (MatIs.add hIs.out HLi.out (by rw [HKd.out]; decide) (t := t) (k := kx) (by rw [env]; have := HK.out.2; omega) (by have := HK.out.1; omega) fun V hV => by
       rw [X1.out.2.2.1 V, yQ]
       unfold fH
       rw [if_neg (by rw [HKd.out]; decide), if_neg (by rw [HKd.out]; decide)]
       have hs := mG (r := ((p, hs, ()), ls, ())) HC.out (List.mem_of_getElem? HLi.out) HKd.out
       rw [<- pQ (hs _ (.inl rfl)), <- pQ (hs _ (.inr rfl))])
      have HFx := qH (show Ts.length ≤ i + 1 /\ ∀ k, (bP tests kx (tests kx ++ [t]) k).length ≤ i + 1 from ⟨by omega, fun k => by
       by_cases e : k = kx
       ·rw [e, upd_same, List.length_append, List.length_singleton]; have := hFw.2 kx; omega
       ·rw [aH _ _ e]; have := hFw.2 k; omega⟩)
      clear hFw
      go_wp2
      go_roundw
      case rel => exact ⟨i + 1, Ts, _, tv, av, sv2, by omega, by first | rfl | (congr 1; done) | (congr 1; omega), X5, HP, HFx⟩
      case measure => simp [intOf]; omega
   ·obtain rfl : n = i := by omega
    have hM2 := hM.out
    obtain ⟨A, hA⟩ := hM2.done (by first | omega | rw [env]) (by have := hFew.out.1; omega) (fun k => by have := hFew.out.2 k; omega)
    have hx : Ext w wr := H3.out.1.trans hM2.kp
    have HFin := qH (show Ext w wr /\ aEo w wr ((p, hs, ()), ls, ()) Es (.pointer (some ⟨mb, 0, none⟩)) from
     ⟨hx, .inr ⟨mb, Ts, tests, A, rfl, HC.out, by rw [<- HL.out.1]; exact hIs.out, hA.mono H3.out.1.size (Nat.le_refl _)⟩⟩)
    clear hM2 hA hx hM hIs hFew hi hlt
    go_wp2
    go_ret
    exact RetN.mk HFin.out.1 HFin.out.2
 ·have hc' : ((cR : Int) == 0) = false := by simp; omega
  go_wp2
  go_ret
  exact RetN.mk H2.out.1 (.inl ⟨rfl, .inl (by rw [HC.out]; exact hc)⟩)
end Go.Proofs.YtinnmeiphbdogaaGreat
/- The walk through a matcher: all. -/
namespace Go.Proofs.YtinnmeiphbdogaaGreat
open Go.RowKit Go.Shelf
theorem aBl {C : WCtx} (hC : C.Ok) {l n : Nat} (hY : C.Yields l n) : ∀ (m v : Nat), v + m = C.M.N.length -> C.From v
 | 0, v, h => pF hC hY (by omega) fun h2 => by omega
 | m + 1, v, h => pF hC hY (by omega) fun _ => aBl hC hY m (v + 1) (by omega)
def aFf (J Jx : (Nat -> Prop) -> List XB -> World -> Prop) (Lall : aD) (e : Ending) (W' : World) : Prop :=
 (∃ v, e = .returned v) /\ ∃ T W1, Kp T W1 W' /\ ((∃ xs : List XB, xs.map Prod.snd = Lall /\ J T xs W1) \/ (∃ pre : List XB, pre.map Prod.snd <+: Lall /\ Jx T pre W1))
structure AllAt (M : MatchZ) (W : World) (wb mb rb : Nat) (yv : Value) (m : Nat) (cv : Value) (cb : Nat -> Nat) (w : World) : Prop where
 box : Blk w wb [.pointer (some ⟨mb, 0, none⟩), cv, .slice (some ⟨rb, 0, none⟩) M.N.length M.N.length, yv] 186
 row : Blk w rb (strs (List.replicate M.N.length ⟨#[]⟩)) 9
 curs : Row w 188 1 cv m (uZ cb m) (fun g => W.heap.size ≤ g)
 cur : ∀ (j : Nat) t, j < m -> M.Ts[j]? = some t -> CurS w (cb j) t.tb [] (.slice none 0 0) /\ W.heap.size ≤ cb j
 inj : ∀ i j, i < m -> j < m -> cb i = cb j -> i = j
 kp : Ext W w
theorem AllAt.push {M : MatchZ} {W w w3 w4 : World} {wb mb rb m cb3 : Nat} {yv cv lv : Value} {cb : Nat -> Nat} {t : TrieZ} {e3 : Array Value} (h : AllAt M W wb mb rb yv m cv cb w) (hlo : W.heap.size ≤ wb) (ht : M.Ts[m]? = some t) (h3 : Ext w w3) (hn : w.heap.size ≤ cb3) (hc : CurAt w3 cb3 t.tb [] (.slice none 0 0) (fun k => w.heap.size ≤ k))
 (hr : Row w4 188 1 lv (m + 1) (uZ cb m ++ [.pointer (some ⟨cb3, 0, none⟩)]) (fun g => cv.ownBlock = some g \/ (w3.alloc (.cells e3 188)).heap.size ≤ g)) (hk : Kp (fun g => cv.ownBlock = some g) (w3.alloc (.cells e3 188)) w4) :
 AllAt M W wb mb rb yv (m + 1) lv (bP cb m cb3) (w4.setCell ⟨wb, 1, none⟩ lv) := by
 obtain ⟨t1, t2, t3, t4, t5, t6, t7, t8, t9⟩ := aEs
 have x4 : Ext w (w3.alloc (.cells e3 188)) := h3.alloc _
 have own : ∀ g, cv.ownBlock = some g -> ∃ cs, Blk w g cs 188 := fun g hg => aP h.curs hg
 have kx : Kp (fun g => cv.ownBlock = some g) w w4 := (Ext.kp x4).trans hk
 have ks : Kp (fun k => k = wb) w4 (w4.setCell ⟨wb, 1, none⟩ lv) := Kp.setCell (F := fun k => k = wb) (p := ⟨wb, 1, none⟩) (Kp.refl w4) (fun _ => rfl) _
 have hsz := h3.size
 have hsW := h.kp.size
 have hbx : Blk w4 wb [.pointer (some ⟨mb, 0, none⟩), cv, .slice (some ⟨rb, 0, none⟩) M.N.length M.N.length, yv] 186 := h.box.kp kx fun hg => by
  obtain ⟨cs, hb⟩ := own _ hg
  exact t9 (aM h.box hb)
 have hrb : Blk w4 rb (strs (List.replicate M.N.length ⟨#[]⟩)) 9 := h.row.kp kx fun hg => by
  obtain ⟨cs, hb⟩ := own _ hg
  exact t8 (aM hb h.row)
 have notB : ∀ (c : Nat) (tb : Nat), CurAt w4 c tb [] (.slice none 0 0) (fun k => (Value.slice none 0 0).ownBlock = some k) -> ∀ k, gJ c (.slice none 0 0) k -> ¬ k = wb := fun c tb hc k hk e => by
  rw [e] at hk
  exact hc.notB hbx t1 t2 hk
 have e1 : uZ (bP cb m cb3) (m + 1) = uZ cb m ++ [.pointer (some ⟨cb3, 0, none⟩)] := by
  unfold uZ
  rw [List.range_succ, List.map_append, List.map_singleton, upd_same]
  congr 1
  refine List.map_congr_left fun j hj => ?_
  rw [aH _ _ (by have := List.mem_range.1 hj; omega)]
 refine ⟨hbx.set 1 lv, hrb.kp ks fun e => t7 (aM hbx (by rw [<- e]; exact hrb)), ?_, fun j u hj hu => ?_, fun i j hi hj he => ?_, ?_⟩
 ·rw [e1]
  refine (hr.kp' ks fun g hg _ e => ?_).mono fun g hg => ?_
  ·obtain ⟨cs, hb⟩ := aP hr hg
   have e' : g = wb := e
   rw [e'] at hb
   exact t9 (aM hbx hb)
  ·rcases hg with hg | hg
   ·exact h.curs.block g hg
   ·rw [aJ] at hg; omega
 ·by_cases e : j = m
  ·subst e
   rw [ht] at hu; cases hu
   rw [upd_same]
   have hc4 : CurS w4 cb3 t.tb [] (.slice none 0 0) := ((hc.ext ((Kp.refl w3).alloc _)).kp hk fun k hk1 hk2 => by
    rcases hk1 with rfl | hk1
    ·obtain ⟨cs, hb⟩ := own _ hk2
     have := hb.lt
     omega
    ·cases hk1).own
   exact ⟨hc4.kp ks (notB _ _ hc4), by omega⟩
  ·rw [aH _ _ e]
   obtain ⟨h1, h2⟩ := h.cur j u (by omega) hu
   have hc4 : CurS w4 (cb j) u.tb [] (.slice none 0 0) := h1.kp kx fun k hk1 hk2 => by
    obtain ⟨cs, hb⟩ := own _ hk2
    exact h1.notB hb t5 t6 hk1
   exact ⟨hc4.kp ks (notB _ _ hc4), h2⟩
 ·have old : ∀ j, j < m -> j < M.Ts.length -> cb j < w.heap.size := fun j hj hjT => (h.cur j _ hj (qG hjT)).1.box.lt
  have hmT := (List.getElem?_eq_some_iff.1 ht).1
  by_cases e : i = m
  ·by_cases e2 : j = m
   ·omega
   ·rw [e, upd_same, aH _ _ e2] at he
    have := old j (by omega) (by omega)
    omega
  ·by_cases e2 : j = m
   ·rw [e2, upd_same, aH _ _ e] at he
    have := old i (by omega) (by omega)
    omega
   ·rw [aH _ _ e, aH _ _ e2] at he
    exact h.inj i j (by omega) (by omega) he
 ·refine (h.kp.trans' kx fun i hi hg => ?_).trans' ks fun i hi hg => ?_
  ·have := h.curs.block i hg
   omega
  ·have e : i = wb := hg
   omega
theorem AllAt.walk {M : MatchZ} {W w : World} {wb mb rb : Nat} {yv cv : Value} {cb : Nat -> Nat} (h : AllAt M W wb mb rb yv M.Ts.length cv cb w) (hlo : W.heap.size ≤ wb) (hlr : W.heap.size ≤ rb) : WalkAt w wb mb M yv cv rb (List.replicate M.N.length ⟨#[]⟩) cb (fun _ => .slice none 0 0) (fun _ => []) /\ ∀ k, aHp wb rb M.Ts.length cv cb (fun _ => .slice none 0 0) k -> W.heap.size ≤ k := by
 refine ⟨⟨h.box, h.row, List.length_replicate, h.curs.ownB, fun j t ht => (h.cur j t (List.getElem?_eq_some_iff.1 ht).1 ht).1, fun i j hi hj hne => ⟨fun e => hne (h.inj i j hi hj e), fun k hk => by cases hk⟩⟩, fun k hk => ?_⟩
 rcases hk with rfl | rfl | hk | ⟨j, hj, hk | hk⟩
 ·exact hlo
 ·exact hlr
 ·exact h.curs.block k hk
 ·rw [hk]; exact (h.cur j _ hj (qG hj)).2
 ·cases hk
def AllR (M : MatchZ) (W : World) (wb mb rb : Nat) (yv : Value) (iv : Value) (w : World) : Prop := ∃ (m : Nat) (cv : Value) (cb : Nat -> Nat), m ≤ M.Ts.length /\ iv = .int .i64 m /\ Hid (AllAt M W wb mb rb yv m cv cb w)
set_option maxRecDepth 100000 in
set_option maxHeartbeats 4000000 in
theorem aJ9 {Z : Nat -> Prop} {M : MatchZ} {A : MAddr} {mb : Nat} {w0 W : World} {J Jx : (Nat -> Prop) -> List XB -> World -> Prop} {Lall : aD} {l n : Nat} (hZ : ∀ k, Z k -> k < W.heap.size) (hW : Kp (fun k => ¬ Z k) w0 W) (hmat : ∀ W', Kp (fun k => ¬ Z k) w0 W' -> MatchAt W' mb M A) (hM : MatchOk M) (hL : AllB (lT M) [] Lall)
 (hY : ∀ T T' pre x W1 W2, J T pre W1 -> Kp T W1 W2 -> (∀ k, T' k -> vI T W1 W2 k) -> GvRow W1 T' W2 x -> (pre ++ [x]).map Prod.snd <+: Lall -> YieldAt Fence.wide n Tryz.prog l (encX x) W2 fun e W' =>
  (e = .returned (.bool true) /\ J T' (pre ++ [x]) W' /\ Kp (fun k => ¬ eS Z T' k) W2 W') \/ (e = .returned (.bool false) /\ Jx T' (pre ++ [x]) W' /\ Kp (fun k => ¬ eS Z T' k) W2 W')) (hJ : J (fun _ => False) [] W) :
 Calls Tryz.prog 83 #[.pointer (some ⟨mb, 0, none⟩), .func (.yield l) #[] #[]] W (aFf J Jx Lall) := by
 have hm := hmat W hW
 have c0 := hm.c0
 have c1 := hm.c1
 have hfew := hm.few
 obtain ⟨nv, env⟩ : ∃ x, M.N.length = x := ⟨_, rfl⟩
 obtain ⟨nT, enT⟩ : ∃ x, M.Ts.length = x := ⟨_, rfl⟩
 rw [env] at c0 hfew
 rw [enT] at c1 hfew
 have hnv := hfew.1
 have hnT := hfew.2.1
 clear hfew
 have HP := qH hm.ptrs
 have HT := qH hm.tries
 clear hm
 obtain ⟨w1, e1⟩ : ∃ x, W.alloc (.cells (List.replicate (nv * 1) (.string ⟨#[]⟩)).toArray 9) = x := ⟨_, rfl⟩
 obtain ⟨rb, erb⟩ : ∃ x, W.heap.size = x := ⟨_, rfl⟩
 have hmk := iU (P := Tryz.prog) fU (c := .string ⟨#[]⟩) rfl nv (by omega) (by unfold maxLen; omega) W
 rw [e1, erb] at hmk
 have hx1 : Ext W w1 := by rw [<- e1]; exact (Kp.refl W).alloc _
 have hB1 : Blk w1 rb (strs (List.replicate nv ⟨#[]⟩)) 9 := by
  have h1 := Blk.new W (List.replicate (nv * 1) (.string ⟨#[]⟩)) 9
  have h2 : List.replicate (nv * 1) (Value.string ⟨#[]⟩) = strs (List.replicate nv ⟨#[]⟩) := by unfold strs; rw [List.map_replicate, Nat.mul_one]
  rw [<- e1, <- erb, <- h2]; exact h1
 obtain ⟨w2, e2⟩ : ∃ x, w1.alloc (.cells #[.pointer (some ⟨mb, 0, none⟩), .slice none 0 0, .slice (some ⟨rb, 0, none⟩) nv nv, .func (.yield l) #[] #[]] 186) = x := ⟨_, rfl⟩
 obtain ⟨wb, ewb⟩ : ∃ x, w1.heap.size = x := ⟨_, rfl⟩
 have hx2 : Ext w1 w2 := by rw [<- e2]; exact (Kp.refl w1).alloc _
 have hB2 : Blk w2 wb [.pointer (some ⟨mb, 0, none⟩), .slice none 0 0, .slice (some ⟨rb, 0, none⟩) nv nv, .func (.yield l) #[] #[]] 186 := by rw [<- e2, <- ewb]; exact Blk.new w1 _ _
 have hA := qH (show AllAt M W wb mb rb (.func (.yield l) #[] #[]) 0 (.slice none 0 0) (fun _ => 0) w2 from ⟨by rw [env]; exact hB2, by rw [env]; exact hB1.ext hx2, Row.nil _ _ _ _, fun j t hj => by omega, fun i j hi => by omega, hx1.trans hx2⟩)
 have c0' := hx1.cell c0 id
 have c1' := (hx1.trans hx2).cell c1 id
 have hlo : W.heap.size ≤ wb := by rw [<- ewb]; exact hx1.size
 have HLo := qH hlo
 clear hB1 hB2 hlo
 go_enter Tryz.func83, Tryz.ntmps83
 go_wp2
 clear e1 e2 ewb hmk
 go_loopw [22] (fun iv wr => AllR M W wb mb rb (.func (.yield l) #[] #[]) iv wr) (fun iv _ => nT - (intOf iv).toNat)
 case atStart => exact ⟨0, _, _, Nat.zero_le _, rfl, hA⟩
 case round =>
  obtain ⟨m, cv, cb, hm, rfl, hA2⟩ := hrel
  rw [enT] at hm
  obtain ⟨ca, cc, ecv, hcc, hccap⟩ := hA2.out.curs.shape
  subst ecv
  by_cases hlt : m < nT
  ·obtain ⟨t, ht⟩ : ∃ t, M.Ts[m]? = some t := ⟨_, qG (by rw [enT]; exact hlt)⟩
   obtain ⟨tb0, to0, eta, t0⟩ := (HP.out.ext hA2.out.kp) m (kO t) (by rw [List.getElem?_map, ht]; rfl)
   rw [eta]
   unfold kO at t0
   have HWk := qH (fun W' (hW' : Ext wr W') => walk_any (((HT.out t (List.mem_of_getElem? ht)).ext hA2.out.kp).ext hW'))
   have HJ := qH (show ∀ w', Ext wr w' -> (fun w' : World => w'.cell? ⟨wb, 1, none⟩ = some (.slice ca m cc)) w' from fun w' hw' => by
    show w'.cell? ⟨wb, 1, none⟩ = some (.slice ca m cc)
    rw [(hA2.out.box.ext hw').cell']; rfl)
   have HTt := qH ht
   have HNo := qH (show (Value.slice ca m cc).ownBlock ≠ some wb from fun h => by
    obtain ⟨cs, hb⟩ := aP hA2.out.curs h
    exact aEs.2.2.2.2.2.2.2.2 (aM hA2.out.box hb))
   have b1 := HJ.out wr (Kp.refl _)
   clear ht hcc eta
   go_wp2
   refine aT (fun w' : World => w'.cell? ⟨wb, 1, none⟩ = some (.slice ca m cc)) [8, 9, 10, 11] (by kernel_rfl) (HJ.out _ (Kp.refl wr).drew) (fun hHeld => ?_)
   refine dF 0 ?_; try simp only [Act.put,sI,sZ,sS]
   refine dF 1 ?_; try simp only [Act.put,sI,sZ,sS]
   refine dF 2 ?_; try simp only [Act.put,sI,sZ,sS]
   refine dF 3 ?_; try simp only [Act.put,sI,sZ,sS]
   refine dI 4 ?_; try simp only [Act.put,sI,sZ,sS]
   refine dF 5 ?_; try simp only [Act.put,sI,sZ,sS]
   refine aE (i := 6) ?_
   refine aF (i := 6) rfl (fun K hK => ?_)
   go_simp
   (refine (HWk.out _ (Kp.refl wr).drew).mono ?_; rintro e w3 ⟨v3, rfl, hk3, cb3, rfl, hn3, hcur3⟩; have X1 := qH (And.intro (show Ext wr w3 from ((Kp.refl wr).drew).trans hk3) (And.intro (show wr.heap.size ≤ cb3 from hn3) hcur3)); clear hk3 hn3 hcur3)
   go_wp2_with fail
   refine hK.out _ _ ?_ (fun hHeld => ?_)
   ·(try dsimp only); (exact HJ.out _ X1.out.1)
   clear hK K; (try simp only [Act.put,sI,sZ,sS])
   refine aE (i := 7) ?_
   refine aF (i := 7) rfl (fun K hK => ?_)
   go_simp
   refine hK.out _ _ ?_ (fun hHeld => ?_)
   ·(try dsimp only); (exact HJ.out _ (X1.out.1.alloc _))
   clear hK K; (try simp only [Act.put,sI,sZ,sS])
   refine aE (i := 8) ?_
   refine aI (i := 8) rfl (by kernel_rfl) (fun K hK => ?_)
   refine gZ (m := 1) (n := m) xQ rfl _ _ rfl rfl ((hA2.out.curs.ext X1.out.1).alloc _) rfl (CellsAt.one w3 _ _) (by rfl) (by simp; rfl) (by omega) (by unfold maxLen; omega) ?_; intro v4 w4 hr4 hk4; obtain ⟨la4, lcap4, elv4, _, _⟩ := hr4.shape; subst elv4; have HB4 := qH (show Blk w4 wb [.pointer (some ⟨mb, 0, none⟩), .slice ca m cc, .slice (some ⟨rb, 0, none⟩) M.N.length M.N.length, .func (.yield l) #[] #[]] 186 from ((hA2.out.box.ext X1.out.1).alloc _).kp hk4 (fun h2 => HNo.out h2)); have X2 := qH (And.intro hr4 hk4); have y1 : w4.cell? ⟨wb, 1, none⟩ = some (.slice ca m cc) := (by rw [HB4.out.cell']; rfl); have yf := HB4.out.free 1; clear hr4 hk4
   refine hK.out _ _ ?_
   clear hK K; (try simp only [Act.put,sI,sZ,sS])
   refine aE (i := 9) ?_
   refine aI (i := 9) rfl (by kernel_rfl) (fun K hK => ?_)
   go_simp
   refine hK.out _ _ ?_
   clear hK K; (try simp only [Act.put,sI,sZ,sS])
   refine aE (i := 10) ?_
   refine aI (i := 10) rfl (by kernel_rfl) (fun K hK => ?_)
   go_simp
   refine hK.out _ _ ?_
   clear hK K; (try simp only [Act.put,sI,sZ,sS])
   refine aE (i := 11) ?_
   refine aI (i := 11) rfl (by kernel_rfl) (fun K hK => ?_)
   go_simp
   refine hK.out _ _ ?_
   clear hK K; (try simp only [Act.put,sI,sZ,sS])
   refine aK (by kernel_rfl) ?_ _
   clear hHeld
   have HP2 := qH (AllAt.push hA2.out HLo.out HTt.out X1.out.1 X1.out.2.1 X1.out.2.2 X2.out.1 X2.out.2)
   obtain ⟨w5, e5⟩ : ∃ x, w4.setCell ⟨wb, 1, none⟩ (.slice la4 (m + 1) lcap4) = x := ⟨_, rfl⟩
   rw [e5] at HP2 ⊢
   clear e5 y1 yf
   go_wp2
   go_roundw
   case rel => exact ⟨m + 1, _, _, by rw [enT]; omega, by first | rfl | (congr 1; done) | (congr 1; omega), HP2⟩
   case measure => simp [intOf]; omega
  ·obtain rfl : m = nT := by omega
   have hA3 := hA2.out
   rw [<- enT] at hA3
   obtain ⟨hwalk, hnew⟩ := hA3.walk HLo.out (by rw [erb]; exact Nat.le_refl _)
   obtain ⟨C, eC⟩ : ∃ C : WCtx, C = ⟨Z, W.heap.size, M, A, wb, mb, rb, .func (.yield l) #[] #[], .slice ca M.Ts.length cc, cb, J, Jx, Lall, w0⟩ := ⟨_, rfl⟩
   have hCok : C.Ok := by subst eC; exact ⟨hZ, hmat, hM⟩
   have hCY : C.Yields l n := by subst eC; exact ⟨rfl, hY⟩
   have hAt : C.At (fun _ => .slice none 0 0) (List.replicate M.N.length ⟨#[]⟩) (fun _ => []) wr := by subst eC; exact ⟨hwalk, hnew, hW.trans' hA2.out.kp fun i _ hi => hi.elim⟩
   have hFr := aBl hCok hCY M.N.length 0 (by subst eC; exact Nat.zero_add _) [] (fun _ => False) (fun _ => .slice none 0 0) _ (fun _ => []) [] Lall wr rfl hAt (by rw [List.take_zero]) (fun j t ht => by
    rw [aHc]; exact PathOk.nil) (fun k hk => by omega) (by subst eC; exact hL) ⟨[], by subst eC; simp⟩ ⟨fun _ => False, W, by subst eC; exact hJ, hA2.out.kp, fun k hk => by
     rcases hk with hk | hk
     ·refine .inr ?_
      have := hAt.new k hk
      subst eC; exact this
     ·exact hk.elim⟩ ⟨fun k hk => hk.elim, fun k _ hk => hk, fun k hk => hk.elim⟩
   have HFr := qH (show Calls Tryz.prog 123 #[.pointer (some ⟨wb, 0, none⟩), .int .i64 0] wr (aFf J Jx Lall) from by
    have e1 : C.wb = wb := by subst eC; rfl
    rw [e1] at hFr
    refine hFr.mono ?_
    rintro e w' ⟨b, ov', R', rfl, hk, -, -, -, hE⟩
    refine ⟨⟨_, rfl⟩, ?_⟩
    subst eC
    rcases hE with ⟨-, xs, h1, T, W1, h2, h3, -⟩ | ⟨-, pre', h1, T, W1, h2, h3, -⟩
    ·exact ⟨T, W1, h3, .inl ⟨xs, h1, h2⟩⟩
    ·exact ⟨T, W1, h3, .inr ⟨pre', h1, h2⟩⟩)
   clear hA3 hwalk hnew hFr hAt hCY hCok eC C hm hlt hcc
   go_wp2_with fail
   refine HFr.out.mono ?_
   rintro e w9 ⟨⟨v9, rfl⟩, h9⟩
   have H9 := qH h9
   clear h9
   go_wp2
   go_end0
   exact ⟨⟨_, rfl⟩, H9.out⟩
end Go.Proofs.YtinnmeiphbdogaaGreat
/- join: Over: the bindings of a rule, one by one. -/
namespace Go.Proofs.YtinnmeiphbdogaaGreat
open Go.RowKit Go.Shelf
attribute [local go_sem] Oper.semAt_some
def lP (r : cN) (R : Nat -> aD) (L : aD) : Prop := (bD r = 0 -> IsBinds r.2.1 R L) /\ (bD r ≠ 0 -> L = [])
theorem yY (tb : Nat) (w : World) : (binOp .neq 123 (.pointer (some ⟨tb, 0, none⟩)) (.pointer none)).run Tryz.prog w = .ok (.bool true) w := by kernel_rfl
theorem yZ (w : World) : (binOp .neq 123 (.pointer none) (.pointer none)).run Tryz.prog w = .ok (.bool false) w := by kernel_rfl
set_option maxRecDepth 100000 in
set_option maxHeartbeats 2000000 in
theorem aF2 {w0 w1 w : World} {r : cN} {Es : Nat -> List Ent} {v : Value} {xb : Nat} {L : aD} (hM : aEo w0 w1 r Es v) (hx : Ext w1 w) (hB : Blk w xb [v] 123) (hxb : w0.heap.size ≤ xb) (hL : lP r (bI Es r.2.1) L) (n : Nat) :
 vH Fence.wide n Tryz.prog 82 #[.pointer (some ⟨xb, 0, none⟩)] encX (fun k => w0.heap.size ≤ k /\ k < w.heap.size) GvRow (fun xs => xs.map Prod.snd = L) (fun pre => pre.map Prod.snd <+: L) w := by
 intro l J Jx W hW hY hJ
 refine callsIn_wide.2 ?_
 have hxl := hB.lt
 have c0 : W.cell? ⟨xb, 0, none⟩ = some v := hW.cell (by rw [hB.cell']; rfl) fun h => h ⟨hxb, hxl⟩
 rcases hM with ⟨rfl, hno⟩ | ⟨mb, Ts, tests, A, rfl, hc, hIs, hF⟩
 ·have hL0 : L = [] := by
   by_cases hc : bD r = 0
   ·rcases hno with hno | hno
    ·exact absurd hc hno
    ·cases L with
     | nil => rfl
     | cons V L => exact absurd (((hL.1 hc).iff V).1 (List.mem_cons_self ..)) (hno V)
   ·exact hL.2 hc
  have HE := qH (And.intro hL0 hJ)
  have hmn := yZ W
  clear hno hL hL0 hJ hY hW hB
  go_enter Tryz.func82, Tryz.ntmps82
  go_wp2
  go_end0
  exact ⟨⟨_, rfl⟩, fun _ => False, W, Kp.refl _, .inl ⟨[], by rw [HE.out.1]; rfl, HE.out.2⟩⟩
 ·have hok := aDi hc hIs
  have hsol : AllB (lT ⟨aB r.2.1, Ts, tests⟩) [] L := by
   have e : lT ⟨aB r.2.1, Ts, tests⟩ = cE r.2.1 (bI Es r.2.1) := funext fun V => propext (hok.2 V)
   rw [e]; exact hL.1 hc
  have HA := qH (aJ9 (Z := fun k => w0.heap.size ≤ k /\ k < w.heap.size) (w0 := w) (W := W) (n := n - 1) (A := A) (fun k hk => Nat.lt_of_lt_of_le hk.2 hW.size) hW (fun W' hW' => hF W' ((Ext.kp hx).trans' hW' (F := fun k => ¬ (w0.heap.size ≤ k /\ k < w1.heap.size)) fun i hi h => fun h2 => h ⟨h2.1, Nat.lt_of_lt_of_le h2.2 hx.size⟩)) hok.1 hsol hY hJ)
  have hms := yY mb W
  clear hok hsol hL hJ hY hW hB hF hIs
  go_enter Tryz.func82, Tryz.ntmps82
  go_wp2_with fail
  refine HA.out.mono ?_
  rintro e w9 ⟨⟨v9, rfl⟩, h9⟩
  have H9 := qH h9
  clear h9
  go_wp2
  go_end0
  exact ⟨⟨_, rfl⟩, H9.out⟩
def aJn (w0 w : World) (L : aD) (v : Value) : Prop := ∃ xb lo, w0.heap.size ≤ lo /\ v = .func (.func 82) #[] #[.pointer (some ⟨xb, 0, none⟩)] /\
 ∀ n, vH Fence.wide n Tryz.prog 82 #[.pointer (some ⟨xb, 0, none⟩)] encX (fun k => lo ≤ k /\ k < w.heap.size) GvRow (fun xs => xs.map Prod.snd = L) (fun pre => pre.map Prod.snd <+: L) w
set_option maxRecDepth 100000 in
set_option maxHeartbeats 2000000 in
theorem aIc {w : World} {p : ByteArray} {hs : List aG} {ls : List aO} {ha ba bsa : Option Addr} {hn hcap n bcap nb bsc : Nat} {G : Nat -> Prop} {bvs : List Value} {Es : Nat -> List Ent} {L : aD} (hhn : hn = hs.length) (hh : aW w G ha hs) (hhl : hn ≤ 1048576) (hbn : n = ls.length) (h : cK w G ba ls) (hf : Fit ls) (hnv : (aB ls).length ≤ 1048576) (hn16 : n ≤ 1048576)
 (hnb : nb = bvs.length) (hbs : CellsAt w bsa bvs) (hB : ∀ j, ∃ S, BaseV S w (bvs.getD j (.pointer none)) (Es j)) (hL : lP ((p, hs, ()), ls, ()) (bI Es ls) L) :
 Calls Tryz.prog 39 #[eF p ha hn hcap ba n bcap, .slice bsa nb bsc] w (RetN w fun w' v => aJn w w' L v) := by
 have HMt := qH (fun W (hW : Ext w W) => aGb (w := W) (p := p) (hs := hs) (ls := ls) (ha := ha) (ba := ba) (bsa := bsa) (hn := hn) (hcap := hcap) (n := n) (bcap := bcap) (nb := nb) (bsc := bsc) (G := G) (bvs := bvs) (Es := Es) hhn (hh.ext hW) hhl hbn (h.ext hW) hf hnv hn16 hnb (hbs.ext hW) (fun j => by
  obtain ⟨S, hb⟩ := hB j
  exact ⟨S, hb.ext hW⟩))
 have HL := qH hL
 obtain ⟨gb, egb⟩ : ∃ g, w.heap.size = g := ⟨_, rfl⟩
 obtain ⟨w1, e1⟩ : ∃ x, w.alloc (.cells #[.string p, .slice ha hn hcap, .slice ba n bcap] 27) = x := ⟨_, rfl⟩
 have x1 : Ext w w1 := by rw [<- e1]; exact (Kp.refl w).alloc _
 have hB1 : Blk w1 gb [.string p, .slice ha hn hcap, .slice ba n bcap] 27 := by rw [<- e1, <- egb]; exact Blk.new w _ _
 have H1 := qH x1
 have r0 : w1.cell? ⟨gb, 0, none⟩ = some (.string p) := by rw [hB1.cell']; rfl
 have r1 : w1.cell? ⟨gb, 1, none⟩ = some (.slice ha hn hcap) := by rw [hB1.cell']; rfl
 have r2 : w1.cell? ⟨gb, 2, none⟩ = some (.slice ba n bcap) := by rw [hB1.cell']; rfl
 clear hhn hh hbn h hf hnb hbs hB hL x1 hB1
 go_enter Tryz.func39, Tryz.ntmps39
 go_wp2_with fail
 clear e1 egb
 refine (HMt.out w1 H1.out).mono ?_
 rintro e w2 ⟨v2, rfl, hk2, hM⟩
 obtain ⟨o, rfl⟩ : ∃ o, v2 = .pointer o := by
  rcases hM with ⟨e, _⟩ | ⟨mb, _, _, _, e, _⟩
  ·exact ⟨_, e⟩
  ·exact ⟨_, e⟩
 have HM := qH (And.intro hk2 hM)
 clear hk2 hM r0 r1 r2
 go_wp2
 go_ret
 have hx3 : Ext w2 (w2.alloc (.cells #[.pointer o] 123)) := (Kp.refl w2).alloc _
 exact RetN.mk (H1.out.trans (HM.out.1.trans hx3)) ⟨w2.heap.size, w1.heap.size, H1.out.size, rfl, fun n => aF2 HM.out.2 hx3 (Blk.new w2 [.pointer o] 123) HM.out.1.size HL.out n⟩
end Go.Proofs.YtinnmeiphbdogaaGreat
