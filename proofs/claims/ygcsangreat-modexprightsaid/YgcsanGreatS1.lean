/-
  Small functions: EnvOK, wordsOf, creates, nativeAt, logsOf, StageEnv.
-/
import Derived.Test.YgcsanGreatStV
namespace Go.Proofs.YgcsanGreat
open Go.RowKit
set_option linter.unusedSimpArgs false
set_option linter.unusedVariables false
attribute [-go_sem] loadVar storeVar Instr.build Instr.fill Instr.buildSlice Builtin.append_

set_option maxRecDepth 10000 in
set_option maxHeartbeats 400000 in
theorem envOK_any (E : List Value) (w : World) (h : E[119]? = some (.slice none 0 0)) :
    Calls Sang.prog 114 #[.agg E.toArray] w fun e w' => e = .returned (.bool true) ∧ Fr w.heap.size no w w' := by
  have k := (VB.new w 64 E).cell 119 h
  have hf : Fr w.heap.size no w (w.alloc (.cells E.toArray 64)) := (Fr.refl _ _ _).alloc (Nat.le_refl _) _
  go_enter Sang.func114, Sang.ntmps114
  go_wp2_with fail
  go_ret
  exact ⟨rfl, hf⟩

set_option maxRecDepth 10000 in
set_option maxHeartbeats 400000 in
theorem wordsOf_nil (w : World) :
    Calls Sang.prog 53 #[.slice none 0 0] w fun e w' => e = .returned (.slice none 0 0) ∧ w' = w := by
  have hnil := run_eql_nil (P := Sang.prog) 62 26 none 0 0 Sang.underlying62
  go_enter Sang.func53, Sang.ntmps53
  go_wp2_with fail
  go_ret
  exact ⟨rfl, rfl⟩

set_option maxRecDepth 10000 in
set_option maxHeartbeats 400000 in
theorem logsOf_nil (w : World) :
    Calls Sang.prog 90 #[.slice none 0 0] w fun e w' => e = .returned (.slice none 0 0) ∧ w' = w := by
  have hnil := run_eql_nil (P := Sang.prog) 35 200 none 0 0 Sang.underlying35
  go_enter Sang.func90, Sang.ntmps90
  go_wp2_with fail
  go_ret
  exact ⟨rfl, rfl⟩

set_option maxRecDepth 10000 in
set_option maxHeartbeats 400000 in
theorem creates_zero (w : World) :
    Calls Sang.prog 63 #[.int .u8 0] w fun e w' => e = .returned (.bool false) ∧ w' = w := by
  go_enter Sang.func63, Sang.ntmps63
  go_wp2_with fail
  go_ret
  exact ⟨rfl, rfl⟩

theorem bld23 (n : Nat) (w : World) : (Instr.build 23 #[(19, .int .u8 (n : Int))]).run Sang.prog w = .ok (.agg (byV (adNo n)).toArray) w := by kernel_rfl
theorem bld23z (w : World) : (Instr.build 23 #[]).run Sang.prog w = .ok (.agg (byV (List.replicate 20 0)).toArray) w := by kernel_rfl

set_option maxRecDepth 10000 in
set_option maxHeartbeats 400000 in
theorem nativeAt_five (w : World) :
    Calls Sang.prog 84 #[.agg (byV (adNo 5)).toArray] w fun e w' => e = .returned (.int .u8 5) ∧ Fr w.heap.size no w w' := by
  have hV := VB.new w 23 (byV (adNo 5))
  have b4 : ∀ w, (Instr.build 23 #[(19, .int .u8 4)]).run Sang.prog w = .ok (.agg (byV (adNo 4)).toArray) w := bld23 4
  have b5 : ∀ w, (Instr.build 23 #[(19, .int .u8 5)]).run Sang.prog w = .ok (.agg (byV (adNo 5)).toArray) w := bld23 5
  have hf : Fr w.heap.size no w (w.alloc (.cells (byV (adNo 5)).toArray 23)) := (Fr.refl _ _ _).alloc (Nat.le_refl _) _
  have l5 : (adNo 5).length = 20 := rfl
  have l4 : (adNo 4).length = 20 := rfl
  have e54 : (adNo 5 == adNo 4) = false := rfl
  have k := hV.cell 19 (show (byV (adNo 5))[19]? = some (.int .u8 5) from rfl)
  have q := hV.q
  have lv : (byV (adNo 5)).length = 20 := rfl
  have es : subV (byV (adNo 5)) 0 20 = byV (adNo 5) := rfl
  generalize adNo 5 = A at *
  generalize adNo 4 = B at *
  go_enter Sang.func84, Sang.ntmps84
  go_wp2_with fail
  go_ret
  exact ⟨rfl, hf⟩

theorem und64f : ∃ fs, Sang.prog.underlying 64 = some (.struct fs) ∧ fs.all (fun f => (Sang.prog.info? f.type).isSome) = true ∧
    fs.map (gOf Sang.prog) = #[(0, 20), (20, 1), (21, 1), (22, 1), (23, 32), (55, 32), (87, 32), (119, 1)] :=
  ⟨_, Sang.underlying64, by kernel_rfl, by kernel_rfl⟩
theorem zer64 : (Sang.prog.info? 64).map (·.zero) = some (some (.agg (zsV 20 ++ (([.int .u64 0, .int .u64 0, .int .u64 0] : List Value) ++ (zsV 96 ++ ([Value.slice none 0 0] : List Value)))).toArray)) := by kernel_rfl
theorem siz64 : (Sang.prog.info? 64).map (·.size) = some 120 := by kernel_rfl
theorem bld64 (w : World) : (Instr.build 64 #[(0, .agg (byV (adNo 192)).toArray), (3, .int .u64 1048576)]).run Sang.prog w = .ok (.agg envV.toArray) w := by
  obtain ⟨fs, h1, h2, h3⟩ := und64f
  exact run_buildP 64 fs _ _ [(0, .agg (byV (adNo 192)).toArray, byV (adNo 192)), (3, .int .u64 1048576, [.int .u64 1048576])] _ h1 h2 h3 zer64 (by intro p hp; simp at hp; rcases hp with rfl | rfl <;> rfl) (by kernel_rfl) w
theorem zc64 : Sang.zeroCells64.toList.length = 120 := by kernel_rfl

set_option maxRecDepth 10000 in
set_option maxHeartbeats 400000 in
theorem stageEnv_any (w : World) :
    Calls Sang.prog 43 #[] w fun e w' => e = .returned (.agg envV.toArray) ∧ Fr w.heap.size no w w' := by
  have hb := bld64
  have hE := envV_flat
  have hEl := envV_length
  have had : ∀ w, Calls Sang.prog 11 #[.int .u8 192] w fun e w' => e = .returned (.agg (byV (adNo 192)).toArray) ∧ Fr w.heap.size no w w' := addrNo_any 192
  generalize envV = E at *
  generalize adNo 192 = A at *
  have hs : (Sang.prog.info? 64).map (·.size) = some E.length := by rw [hEl]; exact siz64
  have und : ∃ fs, Sang.prog.underlying 64 = some (.struct fs) := ⟨_, Sang.underlying64⟩
  obtain ⟨fs, hu⟩ := und
  have HA : Hid (∀ w, Calls Sang.prog 11 #[.int .u8 192] w fun e w' => e = .returned (.agg (byV A).toArray) ∧ Fr w.heap.size no w w') := had
  clear had
  go_enter Sang.func43, Sang.ntmps43
  go_wp2_with fail
  have hZ := zeroV w Sang.zeroCells64 64
  have hZl := zc64
  have hf : Fr w.heap.size no w (w.alloc (.cells Sang.zeroCells64 64)) := (Fr.refl _ _ _).alloc (Nat.le_refl _) _
  generalize w.alloc (.cells Sang.zeroCells64 64) = w1 at hZ hf ⊢
  generalize Sang.zeroCells64.toList = Z at hZ hZl
  refine (HA.out w1).mono ?_
  rintro e w2 ⟨rfl, hf2⟩
  replace hZ := hZ.fr hf2 hZ.lt (fun x => x)
  replace hf := hf.step hf2 hf.size (fun _ _ x => x)
  clear hf2 HA
  have hla : layV Z 0 E = E := layV_all _ _ (by omega)
  have q := hZ.q
  go_wp2_with fail
  refine bodyPost_ret (results_cellV Sang.results43 rfl (VB.setV hZ.lt _ _) _ hu rfl hs) rfl ⟨rfl, ?_⟩
  exact hf.setV (.inl (Nat.le_refl _)) _ _
end Go.Proofs.YgcsanGreat
