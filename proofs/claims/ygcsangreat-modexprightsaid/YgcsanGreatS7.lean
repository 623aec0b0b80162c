/-
  World.move of nothing; Tx.Fees.
-/
import Derived.Test.YgcsanGreatS6
namespace Go.Proofs.YgcsanGreat
open Go.RowKit
set_option linter.unusedSimpArgs false
set_option linter.unusedVariables false
attribute [-go_sem] loadVar storeVar Instr.build Instr.fill Instr.buildSlice Builtin.append_


theorem fld106_2 (M : List Value) (v : Value) (w : World) (h : M[21]? = some v) : (Instr.field 106 (.agg M.toArray) 2).run Sang.prog w = .ok v w := by
  simp [Instr.field, run_underlying Sang.underlying106, Go.part, isAgg, run_underlying Sang.underlying56, asAgg, h]

set_option maxRecDepth 10000 in
set_option maxHeartbeats 400000 in
theorem move_none (c : Nat) (t : TypeId) (L LA : List Value) (g cap : Nat) (A B : List Nat) (n b v : Value) (bb : Nat) (w : World) (h : VB w c t L) (c0 : L[0]? = some (.slice (some ⟨g, 0, none⟩) 1 cap)) (hA : VB w g 106 LA) (lA : A.length = 20) (lB : B.length = 20)
    (hs : subV LA 0 24 = acV A n b (.slice none 0 0) (.slice none 0 0)) (hl : 24 ≤ LA.length) (f1 : n.oneCell' = true) (hb : Sl w .u8 b (digs bb)) (hbs : (digs bb).length ≤ 8388608) (hv : Sl w .u8 v (digs 0)) :
    Calls Sang.prog 141 #[.pointer (some ⟨c, 0, none⟩), .agg (byV A).toArray, .agg (byV B).toArray, v] w fun e w' => e = .returned (.tuple #[]) ∧ Fr w.heap.size no w w' := by
  have h1 := (h.alloc (.cells (byV A).toArray 23)).alloc (.cells (byV B).toArray 23)
  have hA1 := (hA.alloc (.cells (byV A).toArray 23)).alloc (.cells (byV B).toArray 23)
  have hX1 := (VB.new w 23 (byV A)).alloc (.cells (byV B).toArray 23)
  have hf : Fr w.heap.size no w ((w.alloc (.cells (byV A).toArray 23)).alloc (.cells (byV B).toArray 23)) := ((Fr.refl _ _ _).alloc (Nat.le_refl _) _).alloc (by simp) _
  have lBv : (byV A).length = 20 := by simp [byV, lA]
  have eB : subV (byV A) 0 20 = byV A := by simp [subV, ← lBv]
  have qX := hX1.q
  go_enter Sang.func141, Sang.ntmps141
  go_wp2_with fail
  generalize (w.alloc (.cells (byV A).toArray 23)).alloc (.cells (byV B).toArray 23) = w1 at h1 hA1 hX1 hf qX ⊢
  refine (account_hit c t L LA g cap A n b (.slice none 0 0) (.slice none 0 0) w1 h1 c0 hA1 lA hs hl f1 hb.one rfl rfl).mono ?_
  rintro e w2 ⟨rfl, hf2⟩
  replace hf := hf.step hf2 hf.size (fun _ _ x => x)
  clear hf2 qX hX1
  have m2 := acV_bal A n b (.slice none 0 0) (.slice none 0 0) lA
  generalize acV A n b (.slice none 0 0) (.slice none 0 0) = M at *
  have hfd := fun w => fld106_2 M b w m2
  go_wp2_with fail
  refine (sub_any b v bb 0 w2 (hb.fr hf) (hv.fr hf) hbs).mono ?_
  rintro e w3 ⟨v3, rfl, hv3, hf3⟩
  replace hf := hf.step hf3 hf.size (fun _ _ x => x)
  clear hf3
  have hz : decide (0 ≤ bb) = true := by simp
  try rw [hz]
  go_wp2_with fail
  refine (isZero_any v 0 w3 (hv.fr hf)).mono ?_
  rintro e w4 ⟨rfl, hf4⟩
  replace hf := hf.step hf4 hf.size (fun _ _ x => x)
  go_wp2_with fail
  exact bodyPost_ret (results_none Sang.results141 _ _ _) rfl ⟨rfl, hf⟩

/-- 32 zero bytes -/
def z32 : List Nat := List.replicate 32 0
theorem z32_length : z32.length = 32 := by simp [z32]
theorem siz26 : (Sang.prog.info? 26).map (·.size) = some 32 := by kernel_rfl
theorem results_twoV {P : Program} {fn : Func} {t t2 : Tmp} {ty ty2 : TypeId} (hr : fn.results = #[.cell t ty, .cell t2 ty2]) {tmps : Array Value} {w : World} {b b2 : Nat} {t' t2' : TypeId} {L L2 : List Value}
    (hp : tmps.getD t undef = .pointer (some ⟨b, 0, none⟩)) (h : VB w b t' L) (hp2 : tmps.getD t2 undef = .pointer (some ⟨b2, 0, none⟩)) (h2 : VB w b2 t2' L2)
    (d : TypeDesc) (hd : P.underlying ty = some d) (hagg : rowish d = true) (hi : (P.info? ty).map (·.size) = some L.length)
    (d2 : TypeDesc) (hd2 : P.underlying ty2 = some d2) (hagg2 : rowish d2 = true) (hi2 : (P.info? ty2).map (·.size) = some L2.length) :
    (results fn tmps).run P w = .ok (.tuple #[.agg L.toArray, .agg L2.toArray]) w := by
  have hl := run_loadVarV (P := P) w b 0 L.length t' ty L h d hd hagg (by omega) hi
  have hl2 := run_loadVarV (P := P) w b2 0 L2.length t2' ty2 L2 h2 d2 hd2 hagg2 (by omega) hi2
  rw [List.drop_zero, List.take_length] at hl hl2
  have hp' : tmps[t]?.getD undef = .pointer (some ⟨b, 0, none⟩) := by simpa using hp
  have hp2' : tmps[t2]?.getD undef = .pointer (some ⟨b2, 0, none⟩) := by simpa using hp2
  simp [results, hr, hp', hp2', asAddr, hl, hl2]

set_option maxRecDepth 10000 in
set_option maxHeartbeats 400000 in
theorem fees_any (b : Nat) (t : TypeId) (T : List Value) (w : World) (h : VB w b t T) (hT : T.length = 174) (hd : T[108]? = some (.bool false)) (hp : subV T 43 32 = byV z32) :
    Calls Sang.prog 132 #[.pointer (some ⟨b, 0, none⟩)] w fun e w' => e = .returned (.tuple #[.agg (byV z32).toArray, .agg (byV z32).toArray]) ∧ Fr w.heap.size no w w' := by
  have h1 := (h.alloc (.cells #[Value.int IntKind.u8 0, Value.int IntKind.u8 0, Value.int IntKind.u8 0, Value.int IntKind.u8 0, Value.int IntKind.u8 0, Value.int IntKind.u8 0, Value.int IntKind.u8 0, Value.int IntKind.u8 0, Value.int IntKind.u8 0, Value.int IntKind.u8 0, Value.int IntKind.u8 0, Value.int IntKind.u8 0, Value.int IntKind.u8 0, Value.int IntKind.u8 0, Value.int IntKind.u8 0, Value.int IntKind.u8 0, Value.int IntKind.u8 0, Value.int IntKind.u8 0, Value.int IntKind.u8 0, Value.int IntKind.u8 0, Value.int IntKind.u8 0, Value.int IntKind.u8 0, Value.int IntKind.u8 0, Value.int IntKind.u8 0, Value.int IntKind.u8 0, Value.int IntKind.u8 0, Value.int IntKind.u8 0, Value.int IntKind.u8 0, Value.int IntKind.u8 0, Value.int IntKind.u8 0, Value.int IntKind.u8 0, Value.int IntKind.u8 0] 26)).alloc (.cells #[Value.int IntKind.u8 0, Value.int IntKind.u8 0, Value.int IntKind.u8 0, Value.int IntKind.u8 0, Value.int IntKind.u8 0, Value.int IntKind.u8 0, Value.int IntKind.u8 0, Value.int IntKind.u8 0, Value.int IntKind.u8 0, Value.int IntKind.u8 0, Value.int IntKind.u8 0, Value.int IntKind.u8 0, Value.int IntKind.u8 0, Value.int IntKind.u8 0, Value.int IntKind.u8 0, Value.int IntKind.u8 0, Value.int IntKind.u8 0, Value.int IntKind.u8 0, Value.int IntKind.u8 0, Value.int IntKind.u8 0, Value.int IntKind.u8 0, Value.int IntKind.u8 0, Value.int IntKind.u8 0, Value.int IntKind.u8 0, Value.int IntKind.u8 0, Value.int IntKind.u8 0, Value.int IntKind.u8 0, Value.int IntKind.u8 0, Value.int IntKind.u8 0, Value.int IntKind.u8 0, Value.int IntKind.u8 0, Value.int IntKind.u8 0] 26)
  have hR1 : VB ((w.alloc (.cells #[Value.int IntKind.u8 0, Value.int IntKind.u8 0, Value.int IntKind.u8 0, Value.int IntKind.u8 0, Value.int IntKind.u8 0, Value.int IntKind.u8 0, Value.int IntKind.u8 0, Value.int IntKind.u8 0, Value.int IntKind.u8 0, Value.int IntKind.u8 0, Value.int IntKind.u8 0, Value.int IntKind.u8 0, Value.int IntKind.u8 0, Value.int IntKind.u8 0, Value.int IntKind.u8 0, Value.int IntKind.u8 0, Value.int IntKind.u8 0, Value.int IntKind.u8 0, Value.int IntKind.u8 0, Value.int IntKind.u8 0, Value.int IntKind.u8 0, Value.int IntKind.u8 0, Value.int IntKind.u8 0, Value.int IntKind.u8 0, Value.int IntKind.u8 0, Value.int IntKind.u8 0, Value.int IntKind.u8 0, Value.int IntKind.u8 0, Value.int IntKind.u8 0, Value.int IntKind.u8 0, Value.int IntKind.u8 0, Value.int IntKind.u8 0] 26)).alloc (.cells #[Value.int IntKind.u8 0, Value.int IntKind.u8 0, Value.int IntKind.u8 0, Value.int IntKind.u8 0, Value.int IntKind.u8 0, Value.int IntKind.u8 0, Value.int IntKind.u8 0, Value.int IntKind.u8 0, Value.int IntKind.u8 0, Value.int IntKind.u8 0, Value.int IntKind.u8 0, Value.int IntKind.u8 0, Value.int IntKind.u8 0, Value.int IntKind.u8 0, Value.int IntKind.u8 0, Value.int IntKind.u8 0, Value.int IntKind.u8 0, Value.int IntKind.u8 0, Value.int IntKind.u8 0, Value.int IntKind.u8 0, Value.int IntKind.u8 0, Value.int IntKind.u8 0, Value.int IntKind.u8 0, Value.int IntKind.u8 0, Value.int IntKind.u8 0, Value.int IntKind.u8 0, Value.int IntKind.u8 0, Value.int IntKind.u8 0, Value.int IntKind.u8 0, Value.int IntKind.u8 0, Value.int IntKind.u8 0, Value.int IntKind.u8 0] 26)) w.heap.size 26 (byV z32) := (VB.newAt rfl (by rfl)).alloc _
  have hR2 : VB ((w.alloc (.cells #[Value.int IntKind.u8 0, Value.int IntKind.u8 0, Value.int IntKind.u8 0, Value.int IntKind.u8 0, Value.int IntKind.u8 0, Value.int IntKind.u8 0, Value.int IntKind.u8 0, Value.int IntKind.u8 0, Value.int IntKind.u8 0, Value.int IntKind.u8 0, Value.int IntKind.u8 0, Value.int IntKind.u8 0, Value.int IntKind.u8 0, Value.int IntKind.u8 0, Value.int IntKind.u8 0, Value.int IntKind.u8 0, Value.int IntKind.u8 0, Value.int IntKind.u8 0, Value.int IntKind.u8 0, Value.int IntKind.u8 0, Value.int IntKind.u8 0, Value.int IntKind.u8 0, Value.int IntKind.u8 0, Value.int IntKind.u8 0, Value.int IntKind.u8 0, Value.int IntKind.u8 0, Value.int IntKind.u8 0, Value.int IntKind.u8 0, Value.int IntKind.u8 0, Value.int IntKind.u8 0, Value.int IntKind.u8 0, Value.int IntKind.u8 0] 26)).alloc (.cells #[Value.int IntKind.u8 0, Value.int IntKind.u8 0, Value.int IntKind.u8 0, Value.int IntKind.u8 0, Value.int IntKind.u8 0, Value.int IntKind.u8 0, Value.int IntKind.u8 0, Value.int IntKind.u8 0, Value.int IntKind.u8 0, Value.int IntKind.u8 0, Value.int IntKind.u8 0, Value.int IntKind.u8 0, Value.int IntKind.u8 0, Value.int IntKind.u8 0, Value.int IntKind.u8 0, Value.int IntKind.u8 0, Value.int IntKind.u8 0, Value.int IntKind.u8 0, Value.int IntKind.u8 0, Value.int IntKind.u8 0, Value.int IntKind.u8 0, Value.int IntKind.u8 0, Value.int IntKind.u8 0, Value.int IntKind.u8 0, Value.int IntKind.u8 0, Value.int IntKind.u8 0, Value.int IntKind.u8 0, Value.int IntKind.u8 0, Value.int IntKind.u8 0, Value.int IntKind.u8 0, Value.int IntKind.u8 0, Value.int IntKind.u8 0] 26)) (w.heap.size + 1) 26 (byV z32) := VB.newAt (by simp) (by rfl)
  have hf : Fr w.heap.size no w ((w.alloc (.cells #[Value.int IntKind.u8 0, Value.int IntKind.u8 0, Value.int IntKind.u8 0, Value.int IntKind.u8 0, Value.int IntKind.u8 0, Value.int IntKind.u8 0, Value.int IntKind.u8 0, Value.int IntKind.u8 0, Value.int IntKind.u8 0, Value.int IntKind.u8 0, Value.int IntKind.u8 0, Value.int IntKind.u8 0, Value.int IntKind.u8 0, Value.int IntKind.u8 0, Value.int IntKind.u8 0, Value.int IntKind.u8 0, Value.int IntKind.u8 0, Value.int IntKind.u8 0, Value.int IntKind.u8 0, Value.int IntKind.u8 0, Value.int IntKind.u8 0, Value.int IntKind.u8 0, Value.int IntKind.u8 0, Value.int IntKind.u8 0, Value.int IntKind.u8 0, Value.int IntKind.u8 0, Value.int IntKind.u8 0, Value.int IntKind.u8 0, Value.int IntKind.u8 0, Value.int IntKind.u8 0, Value.int IntKind.u8 0, Value.int IntKind.u8 0] 26)).alloc (.cells #[Value.int IntKind.u8 0, Value.int IntKind.u8 0, Value.int IntKind.u8 0, Value.int IntKind.u8 0, Value.int IntKind.u8 0, Value.int IntKind.u8 0, Value.int IntKind.u8 0, Value.int IntKind.u8 0, Value.int IntKind.u8 0, Value.int IntKind.u8 0, Value.int IntKind.u8 0, Value.int IntKind.u8 0, Value.int IntKind.u8 0, Value.int IntKind.u8 0, Value.int IntKind.u8 0, Value.int IntKind.u8 0, Value.int IntKind.u8 0, Value.int IntKind.u8 0, Value.int IntKind.u8 0, Value.int IntKind.u8 0, Value.int IntKind.u8 0, Value.int IntKind.u8 0, Value.int IntKind.u8 0, Value.int IntKind.u8 0, Value.int IntKind.u8 0, Value.int IntKind.u8 0, Value.int IntKind.u8 0, Value.int IntKind.u8 0, Value.int IntKind.u8 0, Value.int IntKind.u8 0, Value.int IntKind.u8 0, Value.int IntKind.u8 0] 26)) := ((Fr.refl _ _ _).alloc (Nat.le_refl _) _).alloc (by simp) _
  have k := h1.cell 108 hd
  have lz : (byV z32).length = 32 := by rw [byV_length, z32_length]
  have fz := byV_flat z32
  have la : layV (byV z32) 0 (byV z32) = byV z32 := layV_all _ _ rfl
  generalize byV z32 = Z at *
  have hi : (Sang.prog.info? 26).map (·.size) = some Z.length := by rw [lz]; exact siz26
  go_enter Sang.func132, Sang.ntmps132
  go_wp2_with fail
  generalize (w.alloc (.cells #[Value.int IntKind.u8 0, Value.int IntKind.u8 0, Value.int IntKind.u8 0, Value.int IntKind.u8 0, Value.int IntKind.u8 0, Value.int IntKind.u8 0, Value.int IntKind.u8 0, Value.int IntKind.u8 0, Value.int IntKind.u8 0, Value.int IntKind.u8 0, Value.int IntKind.u8 0, Value.int IntKind.u8 0, Value.int IntKind.u8 0, Value.int IntKind.u8 0, Value.int IntKind.u8 0, Value.int IntKind.u8 0, Value.int IntKind.u8 0, Value.int IntKind.u8 0, Value.int IntKind.u8 0, Value.int IntKind.u8 0, Value.int IntKind.u8 0, Value.int IntKind.u8 0, Value.int IntKind.u8 0, Value.int IntKind.u8 0, Value.int IntKind.u8 0, Value.int IntKind.u8 0, Value.int IntKind.u8 0, Value.int IntKind.u8 0, Value.int IntKind.u8 0, Value.int IntKind.u8 0, Value.int IntKind.u8 0, Value.int IntKind.u8 0] 26)).alloc (.cells #[Value.int IntKind.u8 0, Value.int IntKind.u8 0, Value.int IntKind.u8 0, Value.int IntKind.u8 0, Value.int IntKind.u8 0, Value.int IntKind.u8 0, Value.int IntKind.u8 0, Value.int IntKind.u8 0, Value.int IntKind.u8 0, Value.int IntKind.u8 0, Value.int IntKind.u8 0, Value.int IntKind.u8 0, Value.int IntKind.u8 0, Value.int IntKind.u8 0, Value.int IntKind.u8 0, Value.int IntKind.u8 0, Value.int IntKind.u8 0, Value.int IntKind.u8 0, Value.int IntKind.u8 0, Value.int IntKind.u8 0, Value.int IntKind.u8 0, Value.int IntKind.u8 0, Value.int IntKind.u8 0, Value.int IntKind.u8 0, Value.int IntKind.u8 0, Value.int IntKind.u8 0, Value.int IntKind.u8 0, Value.int IntKind.u8 0, Value.int IntKind.u8 0, Value.int IntKind.u8 0, Value.int IntKind.u8 0, Value.int IntKind.u8 0] 26) = w1 at h1 hR1 hR2 hf k ⊢
  have h1d := h1.drew
  have hR1d := hR1.drew
  have hR2d := hR2.drew
  have s1 := setV_self hR1d
  have s2 := setV_self hR2d
  have q0 := h1d.q
  have q1 := hR1d.q
  have q2 := hR2d.q
  have hfd := hf.drew
  clear h1 hR1 hR2 hf k
  go_region_with fail
  all_goals (
    go_wp2_with fail
    refine bodyPost_ret (results_twoV Sang.results132 rfl hR1d rfl hR2d _ Sang.underlying26 rfl hi _ Sang.underlying26 rfl hi) rfl ⟨rfl, hfd⟩)
end Go.Proofs.YgcsanGreat
