/-
  Package u256: Rem1024, no divisor.
-/
import Derived.Test.YgcsanRowLaw
namespace Go.Proofs.Ygcsan
open Go.RowKit
set_option linter.unusedSimpArgs false
set_option linter.unusedVariables false

set_option maxRecDepth 10000 in
set_option maxHeartbeats 4000000 in
theorem rem_zero (bx bm : Nat) (tx tm : TypeId) (X M : List Nat) (w : World) (hX : IB w bx .u64 tx X) (hM : IB w bm .u64 tm M) (lX : X.length = 16) (lM : M.length = 8)
    (hn : lcF M 8 = 0) :
    Calls Sang.prog 13 #[.pointer (some ⟨bx, 0, none⟩), .pointer (some ⟨bm, 0, none⟩)] w fun e w' => e = .returned (.tuple #[.agg (ints .u64 (List.replicate 8 0)), .agg (ints .u8 [0, 0, 0])]) ∧ Fr w.heap.size no w w' := by
  have HLim : Hid (∀ w', IB w' bm .u64 tm M → Calls Sang.prog 32 #[.pointer (some ⟨bm, 0, none⟩)] w' fun e w'' => e = .returned (.int .u8 (0 : Nat)) ∧ w'' = w') := fun w' h => by
    have := limbs_any bm tm M w' h lM
    rw [hn] at this
    exact this
  clear hn
  go_enter Sang.func13, Sang.ntmps13
  go_wp2_with fail
  refine (HLim.out _ ((hM.alloc _).alloc _)).mono ?_
  rintro e w' ⟨rfl, rfl⟩
  go_wp2_with fail
  go_loopw [7] (fun i wr => ∃ k : Nat, k ≤ 16 ∧ i = .int .u8 k ∧ Hid (lcF X k = lcF X 16) ∧ IB wr w.heap.size .u64 26 (List.replicate 8 0) ∧ IB wr (w.heap.size + 1) .u8 41 [0, 0, 0] ∧ w.heap.size + 2 ≤ wr.heap.size ∧ Fr w.heap.size no w wr) (fun i _ => (intOf i).toNat)
  case atStart =>
    refine ⟨16, Nat.le_refl _, rfl, rfl, ?_, ?_, by simp, ((Fr.refl _ _ _).alloc (Nat.le_refl _) _).alloc (by simp) _⟩
    · refine IB.alloc (IB.newAt ?_ ?_) _
      · rfl
      · rfl
    · refine IB.newAt ?_ ?_
      · simp
      · rfl
  case round =>
    obtain ⟨k, hk, rfl, HT, hR, hP, hsz, hf⟩ := hrel
    cases k with
    | zero =>
      go_wp2
      have hR1 := hR.drew
      have hP1 := hP.drew
      have hs1 : (Sang.prog.info? 26).map (·.size) = some (List.replicate 8 0).length := siz26
      have hs2 : (Sang.prog.info? 41).map (·.size) = some [0, 0, 0].length := siz41
      refine wp_region_any (by kernel_rfl) ?_
      try (change wpAny _ _ _ _ _ _ _ (World.drew _))
      refine wpAny_ready (rs := [0, 1]) (by kernel_rfl) (by simp) ?_
      refine AllReady.cons rfl (fun K hK => ?_) ?_
      · refine step_load_all 26 (.tmp 4) w.heap.size .u64 26 (List.replicate 8 0) rfl hR1 _ und26 rfl hs1 ?_
        refine hK _ _ ?_
        clear hK K
        refine wpAny_ready (rs := [1, 2]) (by kernel_rfl) (by simp) ?_
        refine AllReady.cons rfl (fun K hK => ?_) ?_
        · refine step_load_all 41 (.tmp 5) (w.heap.size + 1) .u8 41 [0, 0, 0] rfl hP1 _ Sang.underlying41 rfl hs2 ?_
          refine hK _ _ ?_
          clear hK K
          refine wpAny_ready (rs := [2]) (by kernel_rfl) (by simp) ?_
          refine AllReady.cons rfl (fun K hK => ?_) ?_
          · refine step_store_same 26 (.tmp 4) (.tmp 37) w.heap.size .u64 26 (List.replicate 8 0) rfl rfl hR1 hs1 ?_
            refine hK _ _ ?_
            clear hK K
            refine wpAny_ready (rs := [3]) (by kernel_rfl) (by simp) ?_
            refine AllReady.cons rfl (fun K hK => ?_) ?_
            · refine step_store_same 41 (.tmp 5) (.tmp 38) (w.heap.size + 1) .u8 41 [0, 0, 0] rfl rfl hP1 hs2 ?_
              refine hK _ _ ?_
              clear hK K
              refine wpAny_done (by kernel_rfl) ?_ _
              go_wp2_with fail
              exact bodyPost_ret (results_two Sang.results13 rfl hR1 rfl hP1 _ und26 rfl hs1 _ Sang.underlying41 rfl hs2) rfl ⟨rfl, hf.drew⟩
            exact AllReady.nil
          exact AllReady.nil
        refine AllReady.cons rfl (fun K hK => ?_) ?_
        · refine step_store_same 26 (.tmp 4) (.tmp 37) w.heap.size .u64 26 (List.replicate 8 0) rfl rfl hR1 hs1 ?_
          refine hK _ _ ?_
          clear hK K
          refine wpAny_ready (rs := [1]) (by kernel_rfl) (by simp) ?_
          refine AllReady.cons rfl (fun K hK => ?_) ?_
          · refine step_load_all 41 (.tmp 5) (w.heap.size + 1) .u8 41 [0, 0, 0] rfl hP1 _ Sang.underlying41 rfl hs2 ?_
            refine hK _ _ ?_
            clear hK K
            refine wpAny_ready (rs := [3]) (by kernel_rfl) (by simp) ?_
            refine AllReady.cons rfl (fun K hK => ?_) ?_
            · refine step_store_same 41 (.tmp 5) (.tmp 38) (w.heap.size + 1) .u8 41 [0, 0, 0] rfl rfl hP1 hs2 ?_
              refine hK _ _ ?_
              clear hK K
              refine wpAny_done (by kernel_rfl) ?_ _
              go_wp2_with fail
              exact bodyPost_ret (results_two Sang.results13 rfl hR1 rfl hP1 _ und26 rfl hs1 _ Sang.underlying41 rfl hs2) rfl ⟨rfl, hf.drew⟩
            exact AllReady.nil
          exact AllReady.nil
        exact AllReady.nil
      refine AllReady.cons rfl (fun K hK => ?_) ?_
      · refine step_load_all 41 (.tmp 5) (w.heap.size + 1) .u8 41 [0, 0, 0] rfl hP1 _ Sang.underlying41 rfl hs2 ?_
        refine hK _ _ ?_
        clear hK K
        refine wpAny_ready (rs := [0]) (by kernel_rfl) (by simp) ?_
        refine AllReady.cons rfl (fun K hK => ?_) ?_
        · refine step_load_all 26 (.tmp 4) w.heap.size .u64 26 (List.replicate 8 0) rfl hR1 _ und26 rfl hs1 ?_
          refine hK _ _ ?_
          clear hK K
          refine wpAny_ready (rs := [2]) (by kernel_rfl) (by simp) ?_
          refine AllReady.cons rfl (fun K hK => ?_) ?_
          · refine step_store_same 26 (.tmp 4) (.tmp 37) w.heap.size .u64 26 (List.replicate 8 0) rfl rfl hR1 hs1 ?_
            refine hK _ _ ?_
            clear hK K
            refine wpAny_ready (rs := [3]) (by kernel_rfl) (by simp) ?_
            refine AllReady.cons rfl (fun K hK => ?_) ?_
            · refine step_store_same 41 (.tmp 5) (.tmp 38) (w.heap.size + 1) .u8 41 [0, 0, 0] rfl rfl hP1 hs2 ?_
              refine hK _ _ ?_
              clear hK K
              refine wpAny_done (by kernel_rfl) ?_ _
              go_wp2_with fail
              exact bodyPost_ret (results_two Sang.results13 rfl hR1 rfl hP1 _ und26 rfl hs1 _ Sang.underlying41 rfl hs2) rfl ⟨rfl, hf.drew⟩
            exact AllReady.nil
          exact AllReady.nil
        exact AllReady.nil
      exact AllReady.nil

    | succ k =>
      obtain ⟨d, HD, hcell⟩ : ∃ d : Nat, Hid (X.getD k 0 = d) ∧ wr.cell? ⟨bx, k, none⟩ = some (.int .u64 (d : Int)) := ⟨_, rfl, (hX.fr hf hX.lt (fun x => x)).cell k (by omega)⟩
      by_cases hz : d = 0
      · subst hz
        go_wp2
        refine ⟨⟨k, by omega, rfl, ?_, hR, hP, hsz, hf⟩, by simp [intOf]⟩
        unfold Hid
        rw [← HT.out, lcF, if_pos HD.out]
      · have hz' : ((d : Int) == 0) = false := by simpa using hz
        have HT2 : Hid (lcF X 16 = k + 1) := by
          unfold Hid
          rw [← HT.out, lcF, if_neg (by rw [HD.out]; exact hz)]
        clear hz
        go_wp2
        have hR1 := hR.drew
        have hP1 := hP.drew
        have hs1 : (Sang.prog.info? 26).map (·.size) = some (List.replicate 8 0).length := siz26
        have hs2 : (Sang.prog.info? 41).map (·.size) = some [0, 0, 0].length := siz41
        refine wp_region_any (by kernel_rfl) ?_
        try (change wpAny _ _ _ _ _ _ _ (World.drew _))
        refine wpAny_ready (rs := [0, 1]) (by kernel_rfl) (by simp) ?_
        refine AllReady.cons rfl (fun K hK => ?_) ?_
        · refine step_load_all 26 (.tmp 4) w.heap.size .u64 26 (List.replicate 8 0) rfl hR1 _ und26 rfl hs1 ?_
          refine hK _ _ ?_
          clear hK K
          refine wpAny_ready (rs := [1, 2]) (by kernel_rfl) (by simp) ?_
          refine AllReady.cons rfl (fun K hK => ?_) ?_
          · refine step_load_all 41 (.tmp 5) (w.heap.size + 1) .u8 41 [0, 0, 0] rfl hP1 _ Sang.underlying41 rfl hs2 ?_
            refine hK _ _ ?_
            clear hK K
            refine wpAny_ready (rs := [2]) (by kernel_rfl) (by simp) ?_
            refine AllReady.cons rfl (fun K hK => ?_) ?_
            · refine step_store_same 26 (.tmp 4) (.tmp 37) w.heap.size .u64 26 (List.replicate 8 0) rfl rfl hR1 hs1 ?_
              refine hK _ _ ?_
              clear hK K
              refine wpAny_ready (rs := [3]) (by kernel_rfl) (by simp) ?_
              refine AllReady.cons rfl (fun K hK => ?_) ?_
              · refine step_store_same 41 (.tmp 5) (.tmp 38) (w.heap.size + 1) .u8 41 [0, 0, 0] rfl rfl hP1 hs2 ?_
                refine hK _ _ ?_
                clear hK K
                refine wpAny_done (by kernel_rfl) ?_ _
                go_wp2_with fail
                exact bodyPost_ret (results_two Sang.results13 rfl hR1 rfl hP1 _ und26 rfl hs1 _ Sang.underlying41 rfl hs2) rfl ⟨rfl, hf.drew⟩
              exact AllReady.nil
            exact AllReady.nil
          refine AllReady.cons rfl (fun K hK => ?_) ?_
          · refine step_store_same 26 (.tmp 4) (.tmp 37) w.heap.size .u64 26 (List.replicate 8 0) rfl rfl hR1 hs1 ?_
            refine hK _ _ ?_
            clear hK K
            refine wpAny_ready (rs := [1]) (by kernel_rfl) (by simp) ?_
            refine AllReady.cons rfl (fun K hK => ?_) ?_
            · refine step_load_all 41 (.tmp 5) (w.heap.size + 1) .u8 41 [0, 0, 0] rfl hP1 _ Sang.underlying41 rfl hs2 ?_
              refine hK _ _ ?_
              clear hK K
              refine wpAny_ready (rs := [3]) (by kernel_rfl) (by simp) ?_
              refine AllReady.cons rfl (fun K hK => ?_) ?_
              · refine step_store_same 41 (.tmp 5) (.tmp 38) (w.heap.size + 1) .u8 41 [0, 0, 0] rfl rfl hP1 hs2 ?_
                refine hK _ _ ?_
                clear hK K
                refine wpAny_done (by kernel_rfl) ?_ _
                go_wp2_with fail
                exact bodyPost_ret (results_two Sang.results13 rfl hR1 rfl hP1 _ und26 rfl hs1 _ Sang.underlying41 rfl hs2) rfl ⟨rfl, hf.drew⟩
              exact AllReady.nil
            exact AllReady.nil
          exact AllReady.nil
        refine AllReady.cons rfl (fun K hK => ?_) ?_
        · refine step_load_all 41 (.tmp 5) (w.heap.size + 1) .u8 41 [0, 0, 0] rfl hP1 _ Sang.underlying41 rfl hs2 ?_
          refine hK _ _ ?_
          clear hK K
          refine wpAny_ready (rs := [0]) (by kernel_rfl) (by simp) ?_
          refine AllReady.cons rfl (fun K hK => ?_) ?_
          · refine step_load_all 26 (.tmp 4) w.heap.size .u64 26 (List.replicate 8 0) rfl hR1 _ und26 rfl hs1 ?_
            refine hK _ _ ?_
            clear hK K
            refine wpAny_ready (rs := [2]) (by kernel_rfl) (by simp) ?_
            refine AllReady.cons rfl (fun K hK => ?_) ?_
            · refine step_store_same 26 (.tmp 4) (.tmp 37) w.heap.size .u64 26 (List.replicate 8 0) rfl rfl hR1 hs1 ?_
              refine hK _ _ ?_
              clear hK K
              refine wpAny_ready (rs := [3]) (by kernel_rfl) (by simp) ?_
              refine AllReady.cons rfl (fun K hK => ?_) ?_
              · refine step_store_same 41 (.tmp 5) (.tmp 38) (w.heap.size + 1) .u8 41 [0, 0, 0] rfl rfl hP1 hs2 ?_
                refine hK _ _ ?_
                clear hK K
                refine wpAny_done (by kernel_rfl) ?_ _
                go_wp2_with fail
                exact bodyPost_ret (results_two Sang.results13 rfl hR1 rfl hP1 _ und26 rfl hs1 _ Sang.underlying41 rfl hs2) rfl ⟨rfl, hf.drew⟩
              exact AllReady.nil
            exact AllReady.nil
          exact AllReady.nil
        exact AllReady.nil

end Go.Proofs.Ygcsan
