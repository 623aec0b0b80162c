/-
  Package law: sender, toA1.
-/
import Derived.Test.YgcsanGreatSt
import Derived.Test.YgcsanGreatBuild
namespace Go.Proofs.YgcsanGreat
open Go.RowKit
set_option linter.unusedSimpArgs false
set_option linter.unusedVariables false

/-- bytes as values -/
def byV (L : List Nat) : List Value := L.map fun (n : Nat) => Value.int .u8 (n : Int)
/-- zero bytes -/
def zsV (n : Nat) : List Value := List.replicate n (Value.int .u8 0)

/-- a transaction of the sender, nothing in it but To, Gas, Value and Data -/
def txV (to : List Nat) (value : List Nat) (data : Value) : List Value :=
  byV (adNo 240) ++ (byV to ++ ([.bool false, .int .u64 0, .int .u64 200000] ++ (zsV 32 ++ (byV value ++ ([data, .bool false] ++ (zsV 64 ++ [.slice none 0 0]))))))

theorem und30 : ∃ fs, Sang.prog.underlying 30 = some (.struct fs) ∧ fs.all (fun f => (Sang.prog.info? f.type).isSome) = true ∧
    fs.map (gOf Sang.prog) = #[(0, 20), (20, 20), (40, 1), (41, 1), (42, 1), (43, 32), (75, 32), (107, 1), (108, 1), (109, 32), (141, 32), (173, 1)] :=
  ⟨_, Sang.underlying30, by kernel_rfl, by kernel_rfl⟩
theorem siz30 : (Sang.prog.info? 30).map (·.size) = some 174 := by kernel_rfl
theorem zer30 : (Sang.prog.info? 30).map (·.zero) = some (some (.agg (zsV 40 ++ (([.bool false, .int .u64 0, .int .u64 0] : List Value) ++ (zsV 64 ++ (([.slice none 0 0, .bool false] : List Value) ++ (zsV 64 ++ ([.slice none 0 0] : List Value)))))).toArray)) := by kernel_rfl

set_option maxRecDepth 10000 in
set_option maxHeartbeats 400000 in
theorem sender_any (w : World) :
    Calls Sang.prog 38 #[] w fun e w' => e = .returned (.agg (ints .u8 (adNo 240))) ∧ Fr w.heap.size no w w' := by
  have hs : (Sang.prog.info? 23).map (·.size) = some (List.replicate 20 0).length := siz23
  have hl : (adNo 240).length = (List.replicate 20 0).length := rfl
  go_enter Sang.func38, Sang.ntmps38
  go_wp2_with fail
  have hR : IB (w.alloc (.cells #[.int .u8 0, .int .u8 0, .int .u8 0, .int .u8 0, .int .u8 0, .int .u8 0, .int .u8 0, .int .u8 0, .int .u8 0, .int .u8 0, .int .u8 0, .int .u8 0, .int .u8 0, .int .u8 0, .int .u8 0, .int .u8 0, .int .u8 0, .int .u8 0, .int .u8 0, .int .u8 0] 23)) w.heap.size .u8 23 (List.replicate 20 0) := by refine IB.newAt ?_ ?_ <;> rfl
  have hf : Fr w.heap.size no w (w.alloc (.cells #[.int .u8 0, .int .u8 0, .int .u8 0, .int .u8 0, .int .u8 0, .int .u8 0, .int .u8 0, .int .u8 0, .int .u8 0, .int .u8 0, .int .u8 0, .int .u8 0, .int .u8 0, .int .u8 0, .int .u8 0, .int .u8 0, .int .u8 0, .int .u8 0, .int .u8 0, .int .u8 0] 23)) := (Fr.refl _ _ _).alloc (Nat.le_refl _) _
  generalize w.alloc (.cells #[.int .u8 0, .int .u8 0, .int .u8 0, .int .u8 0, .int .u8 0, .int .u8 0, .int .u8 0, .int .u8 0, .int .u8 0, .int .u8 0, .int .u8 0, .int .u8 0, .int .u8 0, .int .u8 0, .int .u8 0, .int .u8 0, .int .u8 0, .int .u8 0, .int .u8 0, .int .u8 0] 23) = w1 at hR hf ⊢
  refine (addrNo_any 240 w1).mono ?_
  rintro e w2 ⟨rfl, hf2⟩
  have hR2 := hR.fr hf2 hR.lt (fun x => x)
  have hfw := hf.step hf2 hf.size (fun _ _ x => x)
  go_wp2_with ((with_reducible refine wl_store 23 (.tmp 0) (.tmp 1) w.heap.size .u8 23 (List.replicate 20 0) (adNo 240) ?_ ?_ hR2 hl hs ?_); rfl; rfl)
  refine bodyPost_ret (results_cell Sang.results38 rfl (IB.setRow hR2.lt _ _ _) _ und23 rfl siz23) rfl ⟨rfl, ?_⟩
  exact hfw.setRow (.inl (Nat.le_refl _)) _ _ _

theorem build_toA1 : ∀ w, (Instr.build 30 #[(0, .agg (ints .u8 (adNo 240))), (1, .agg (ints .u8 (adNo 1))), (4, .int .u64 200000)]).run Sang.prog w = .ok (.agg (txV (adNo 1) (List.replicate 32 0) (.slice none 0 0)).toArray) w := by
  obtain ⟨fs, h1, h2, h3⟩ := und30
  exact run_buildP 30 fs _ _ [(0, .agg (ints .u8 (adNo 240)), byV (adNo 240)), (1, .agg (ints .u8 (adNo 1)), byV (adNo 1)), (4, .int .u64 200000, [.int .u64 200000])] _ h1 h2 h3 zer30
    (by intro p hp; simp at hp; rcases hp with rfl | rfl | rfl <;> rfl) (by kernel_rfl)

theorem txV_length (to value : List Nat) (data : Value) (h1 : to.length = 20) (h2 : value.length = 32) : (txV to value data).length = 174 := by
  simp [txV, byV, zsV, adNo, h1, h2]

theorem txV_flat (to value : List Nat) (data : Value) (h : data.oneCell' = true) : Flat (txV to value data) := by
  refine (flat_ints _ _).append ((flat_ints _ _).append (Flat.append ?_ ((Flat.replicate rfl _).append ((flat_ints _ _).append (Flat.append ?_ ((Flat.replicate rfl _).append ?_))))))
  · exact Flat.cons rfl (Flat.cons rfl (Flat.cons rfl Flat.nil))
  · exact Flat.cons h (Flat.cons rfl Flat.nil)
  · exact Flat.cons rfl Flat.nil

theorem zc30 : Sang.zeroCells30.toList.length = 174 := by kernel_rfl
theorem zeroV (w : World) (cs : Array Value) (t : TypeId) : VB (w.alloc (.cells cs t)) w.heap.size t cs.toList := VB.newAt rfl (by simp)

set_option maxRecDepth 10000 in
set_option maxHeartbeats 400000 in
theorem toA1_any (w : World) :
    Calls Sang.prog 10 #[] w fun e w' => e = .returned (.agg (txV (adNo 1) (List.replicate 32 0) (.slice none 0 0)).toArray) ∧ Fr w.heap.size no w w' := by
  have hb := build_toA1
  have hT := txV_flat (adNo 1) (List.replicate 32 0) (.slice none 0 0) rfl
  have hTl := txV_length (adNo 1) (List.replicate 32 0) (.slice none 0 0) rfl (by simp)
  generalize txV (adNo 1) (List.replicate 32 0) (.slice none 0 0) = T at *
  have hs : (Sang.prog.info? 30).map (·.size) = some T.length := by rw [hTl]; exact siz30
  have und : ∃ fs, Sang.prog.underlying 30 = some (.struct fs) := ⟨_, Sang.underlying30⟩
  obtain ⟨fs, hu⟩ := und
  have HB : Hid (∀ w, (Instr.build 30 #[(0, .agg (ints .u8 (adNo 240))), (1, .agg (ints .u8 (adNo 1))), (4, .int .u64 200000)]).run Sang.prog w = .ok (.agg T.toArray) w) := hb
  clear hb
  go_enter Sang.func10, Sang.ntmps10
  go_wp2_with fail
  have hZ := zeroV w Sang.zeroCells30 30
  have hZl := zc30
  have hf : Fr w.heap.size no w (w.alloc (.cells Sang.zeroCells30 30)) := (Fr.refl _ _ _).alloc (Nat.le_refl _) _
  generalize w.alloc (.cells Sang.zeroCells30 30) = w1 at hZ hf ⊢
  generalize Sang.zeroCells30.toList = Z at hZ hZl
  refine (sender_any w1).mono ?_
  rintro e w2 ⟨rfl, hf2⟩
  replace hZ := hZ.fr hf2 hZ.lt (fun x => x)
  replace hf := hf.step hf2 hf.size (fun _ _ x => x)
  clear hf2
  have hb := HB.out
  generalize ints .u8 (adNo 240) = A0 at hb ⊢
  go_wp2_with fail
  refine (addrNo_any 1 w2).mono ?_
  rintro e w3 ⟨rfl, hf2⟩
  replace hZ := hZ.fr hf2 hZ.lt (fun x => x)
  replace hf := hf.step hf2 hf.size (fun _ _ x => x)
  clear hf2 HB
  generalize ints .u8 (adNo 1) = A1 at hb ⊢
  have hla : layV Z 0 T = T := layV_all _ _ (by rw [hTl, hZl])
  go_wp2_with (first
    | ((with_reducible refine wl_build 30 #[(0, .tmp 1), (1, .tmp 2), (4, .const (.int .u64 200000))] #[(0, .agg A0), (1, .agg A1), (4, .int .u64 200000)] (.agg T.toArray) ?_ hb ?_); (simp [Act.eval]))
    | ((with_reducible refine wl_storeV 30 (.tmp 0) (.tmp 3) w.heap.size 0 30 Z T T.toArray T ?_ ?_ rfl hT hZ ?_ hs hla ?_); rfl; rfl; omega))
  refine bodyPost_ret (results_cellV Sang.results10 rfl (VB.setV hZ.lt _ _) _ hu rfl hs) rfl ⟨rfl, ?_⟩
  exact hf.setV (.inl (Nat.le_refl _)) _ _
end Go.Proofs.YgcsanGreat
