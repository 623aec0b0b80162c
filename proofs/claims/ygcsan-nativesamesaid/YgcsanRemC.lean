/-
  Package u256: Rem1024, one limb.
-/
import Derived.Test.YgcsanRowLaw
namespace Go.Proofs.Ygcsan
open Go.RowKit
set_option linter.unusedSimpArgs false
set_option linter.unusedVariables false

theorem rem_top {X : List Nat} {k : Nat} (lX : X.length = 16) (h : lcF X 16 = k) {m : Nat} : 0 = val W64 (X.drop k) % m := by
  have h3 : val W64 (X.drop k) = 0 := by
    apply val_zeros
    intro d hd
    obtain ⟨i, hi, rfl⟩ := List.getElem_of_mem hd
    simp only [List.length_drop] at hi
    have := lcF_zero X 16 (k + i) (by omega) (by omega)
    rw [List.getElem_drop]
    simpa [List.getD, show k + i < X.length by omega] using this
  rw [h3, Nat.zero_mod]

theorem rem_step {X : List Nat} {i m : Nat} (hi : i < X.length) : (val W64 (X.drop (i + 1)) % m * W64 + X.getD i 0) % m = val W64 (X.drop i) % m := by
  have e : val W64 (X.drop i) = X.getD i 0 + W64 * val W64 (X.drop (i + 1)) := by
    rw [List.drop_eq_getElem_cons hi, val]
    simp [List.getD, hi]
  rw [e, Nat.add_mod, Nat.mod_mul_mod, ← Nat.add_mod, Nat.mul_comm W64, Nat.add_comm]

set_option maxRecDepth 10000 in
set_option maxHeartbeats 4000000 in
theorem rem_one (bx bm : Nat) (tx tm : TypeId) (X M : List Nat) (w : World) (hX : IB w bx .u64 tx X) (hM : IB w bm .u64 tm M) (lX : X.length = 16) (lM : M.length = 8)
    (dX : Dg W64 X) (dM : Dg W64 M) (hn : lcF M 8 = 1) (ht : 0 < lcF X 16) :
    Calls Sang.prog 13 #[.pointer (some ⟨bx, 0, none⟩), .pointer (some ⟨bm, 0, none⟩)] w fun e w' => e = .returned (.tuple #[.agg (ints .u64 ((List.replicate 8 0).set 0 (val W64 X % M.getD 0 0))), .agg (ints .u8 [lcF X 16, 0, 0])]) ∧ Fr w.heap.size no w w' := by
  have HLim : Hid (∀ w', IB w' bm .u64 tm M → Calls Sang.prog 32 #[.pointer (some ⟨bm, 0, none⟩)] w' fun e w'' => e = .returned (.int .u8 (1 : Nat)) ∧ w'' = w') := fun w' h => by
    have := limbs_any bm tm M w' h lM
    rw [hn] at this
    exact this
  have HT0 : Hid (0 < lcF X 16) := ht
  have HM0 : Hid (M.getD 0 0 ≠ 0) := by
    have := lcF_top M 8 (by omega)
    rw [hn] at this
    exact this
  have HDg : Hid (Dg W64 X ∧ Dg W64 M) := ⟨dX, dM⟩
  clear hn ht dX dM
  go_enter Sang.func13, Sang.ntmps13
  go_wp2_with fail
  refine (HLim.out _ ((hM.alloc _).alloc _)).mono ?_
  rintro e w' ⟨rfl, rfl⟩
  go_wp2_with fail
  go_loopw [7] (fun i wr => ∃ k : Nat, k ≤ 16 ∧ i = .int .u8 k ∧ Hid (lcF X k = lcF X 16) ∧ IB wr w.heap.size .u64 26 (List.replicate 8 0) ∧ IB wr (w.heap.size + 1) .u8 41 [0, 0, 0] ∧ w.heap.size + 2 ≤ wr.heap.size ∧ Fr w.heap.size no w wr) (fun i _ => (intOf i).toNat)
  case atStart =>
    refine ⟨16, Nat.le_refl _, rfl, rfl, ?_, ?_, by simp, ((Fr.refl _ _ _).alloc (Nat.le_refl _) _).alloc (by simp) _⟩
    · refine IB.alloc (IB.newAt ?_ ?_) _
      · rfl
      · rfl
    · refine IB.newAt ?_ ?_
      · simp
      · rfl
  case round =>
    obtain ⟨k, hk, rfl, HT, hR, hP, hsz, hf⟩ := hrel
    cases k with
    | zero =>
      exact absurd HT0.out (by rw [← HT.out]; simp [lcF])
    | succ k =>
      obtain ⟨d, HD, hcell⟩ : ∃ d : Nat, Hid (X.getD k 0 = d) ∧ wr.cell? ⟨bx, k, none⟩ = some (.int .u64 (d : Int)) := ⟨_, rfl, (hX.fr hf hX.lt (fun x => x)).cell k (by omega)⟩
      by_cases hz : d = 0
      · subst hz
        go_wp2
        refine ⟨⟨k, by omega, rfl, ?_, hR, hP, hsz, hf⟩, by simp [intOf]⟩
        unfold Hid
        rw [← HT.out, lcF, if_pos HD.out]
      · have hz' : ((d : Int) == 0) = false := by simpa using hz
        have HT2 : Hid (lcF X 16 = k + 1) := by
          unfold Hid
          rw [← HT.out, lcF, if_neg (by rw [HD.out]; exact hz)]
        clear hz
        have hp0 := hP.cell 0 (by simp)
        have hu0 := hP.unfrozen 0
        have e1 : IntKind.u8.wrap (((k + 1 : Nat) : Int) - 1) = (k : Int) := by rw [IntKind.wrap_u8]; omega
        have e2 : IntKind.u8.wrap ((k : Int) + 1) = ((k + 1 : Nat) : Int) := by rw [IntKind.wrap_u8]; omega
        have hk1 : decide ((k : Int) + 1 < 1) = false := by simp; omega
        go_wp2
        go_loopw [9, 8] (fun iv rv w2 => ∃ (i r : Nat), i ≤ 16 ∧ iv = .int .u8 i ∧ rv = .int .u64 r ∧ Hid (r = val W64 (X.drop i) % M.getD 0 0) ∧ IB w2 w.heap.size .u64 26 (List.replicate 8 0) ∧ IB w2 (w.heap.size + 1) .u8 41 [k + 1, 0, 0] ∧ Fr w.heap.size no w w2) (fun i _ _ => (intOf i).toNat)
        case atStart =>
          refine ⟨k + 1, 0, by omega, by go_num, rfl, ?_, hR.other (by simp) _, hP.set' 0 (k + 1) (by go_num) rfl, hf.setCell (.inl (by simp)) _⟩
          unfold Hid
          exact rem_top lX HT2.out
        case round =>
          obtain ⟨i, r, hi, rfl, rfl, HR, hR2, hP2, hf2⟩ := hrel
          cases i with
          | zero =>
            have HR0 : Hid (val W64 X % M.getD 0 0 = r) := HR.out.symm
            have hc0 := hR2.cell 0 (by simp)
            have hz0 := hR2.unfrozen 0
            go_wp2
            have hR1 := (hR2.set' 0 r rfl rfl).drew
            have hP1 := (hP2.other (a := ⟨w.heap.size, 0, none⟩) (by simp) (.int .u64 (r : Int))).drew
            have hf3 := (hf2.setCell (p := ⟨w.heap.size, 0, none⟩) (.inl (Nat.le_refl _)) (.int .u64 (r : Int)))
            have hs1 : (Sang.prog.info? 26).map (·.size) = some ((List.replicate 8 0).set 0 r).length := siz26
            have hs2 : (Sang.prog.info? 41).map (·.size) = some [k + 1, 0, 0].length := siz41
            refine wp_region_any (by kernel_rfl) ?_
            try (change wpAny _ _ _ _ _ _ _ (World.drew _))
            refine wpAny_ready (rs := [0, 1]) (by kernel_rfl) (by simp) ?_
            refine AllReady.cons rfl (fun K hK => ?_) ?_
            · refine step_load_all 26 (.tmp 4) w.heap.size .u64 26 ((List.replicate 8 0).set 0 r) rfl hR1 _ und26 rfl hs1 ?_
              refine hK _ _ ?_
              clear hK K
              refine wpAny_ready (rs := [1, 2]) (by kernel_rfl) (by simp) ?_
              refine AllReady.cons rfl (fun K hK => ?_) ?_
              · refine step_load_all 41 (.tmp 5) (w.heap.size + 1) .u8 41 [k + 1, 0, 0] rfl hP1 _ Sang.underlying41 rfl hs2 ?_
                refine hK _ _ ?_
                clear hK K
                refine wpAny_ready (rs := [2]) (by kernel_rfl) (by simp) ?_
                refine AllReady.cons rfl (fun K hK => ?_) ?_
                · refine step_store_same 26 (.tmp 4) (.tmp 79) w.heap.size .u64 26 ((List.replicate 8 0).set 0 r) rfl rfl hR1 hs1 ?_
                  refine hK _ _ ?_
                  clear hK K
                  refine wpAny_ready (rs := [3]) (by kernel_rfl) (by simp) ?_
                  refine AllReady.cons rfl (fun K hK => ?_) ?_
                  · refine step_store_same 41 (.tmp 5) (.tmp 80) (w.heap.size + 1) .u8 41 [k + 1, 0, 0] rfl rfl hP1 hs2 ?_
                    refine hK _ _ ?_
                    clear hK K
                    refine wpAny_done (by kernel_rfl) ?_ _
                    go_wp2_with fail
                    refine bodyPost_ret (results_two Sang.results13 rfl hR1 rfl hP1 _ und26 rfl hs1 _ Sang.underlying41 rfl hs2) rfl ⟨?_, hf3.drew⟩
                    rw [HT2.out, HR0.out]
                  exact AllReady.nil
                exact AllReady.nil
              refine AllReady.cons rfl (fun K hK => ?_) ?_
              · refine step_store_same 26 (.tmp 4) (.tmp 79) w.heap.size .u64 26 ((List.replicate 8 0).set 0 r) rfl rfl hR1 hs1 ?_
                refine hK _ _ ?_
                clear hK K
                refine wpAny_ready (rs := [1]) (by kernel_rfl) (by simp) ?_
                refine AllReady.cons rfl (fun K hK => ?_) ?_
                · refine step_load_all 41 (.tmp 5) (w.heap.size + 1) .u8 41 [k + 1, 0, 0] rfl hP1 _ Sang.underlying41 rfl hs2 ?_
                  refine hK _ _ ?_
                  clear hK K
                  refine wpAny_ready (rs := [3]) (by kernel_rfl) (by simp) ?_
                  refine AllReady.cons rfl (fun K hK => ?_) ?_
                  · refine step_store_same 41 (.tmp 5) (.tmp 80) (w.heap.size + 1) .u8 41 [k + 1, 0, 0] rfl rfl hP1 hs2 ?_
                    refine hK _ _ ?_
                    clear hK K
                    refine wpAny_done (by kernel_rfl) ?_ _
                    go_wp2_with fail
                    refine bodyPost_ret (results_two Sang.results13 rfl hR1 rfl hP1 _ und26 rfl hs1 _ Sang.underlying41 rfl hs2) rfl ⟨?_, hf3.drew⟩
                    rw [HT2.out, HR0.out]
                  exact AllReady.nil
                exact AllReady.nil
              exact AllReady.nil
            refine AllReady.cons rfl (fun K hK => ?_) ?_
            · refine step_load_all 41 (.tmp 5) (w.heap.size + 1) .u8 41 [k + 1, 0, 0] rfl hP1 _ Sang.underlying41 rfl hs2 ?_
              refine hK _ _ ?_
              clear hK K
              refine wpAny_ready (rs := [0]) (by kernel_rfl) (by simp) ?_
              refine AllReady.cons rfl (fun K hK => ?_) ?_
              · refine step_load_all 26 (.tmp 4) w.heap.size .u64 26 ((List.replicate 8 0).set 0 r) rfl hR1 _ und26 rfl hs1 ?_
                refine hK _ _ ?_
                clear hK K
                refine wpAny_ready (rs := [2]) (by kernel_rfl) (by simp) ?_
                refine AllReady.cons rfl (fun K hK => ?_) ?_
                · refine step_store_same 26 (.tmp 4) (.tmp 79) w.heap.size .u64 26 ((List.replicate 8 0).set 0 r) rfl rfl hR1 hs1 ?_
                  refine hK _ _ ?_
                  clear hK K
                  refine wpAny_ready (rs := [3]) (by kernel_rfl) (by simp) ?_
                  refine AllReady.cons rfl (fun K hK => ?_) ?_
                  · refine step_store_same 41 (.tmp 5) (.tmp 80) (w.heap.size + 1) .u8 41 [k + 1, 0, 0] rfl rfl hP1 hs2 ?_
                    refine hK _ _ ?_
                    clear hK K
                    refine wpAny_done (by kernel_rfl) ?_ _
                    go_wp2_with fail
                    refine bodyPost_ret (results_two Sang.results13 rfl hR1 rfl hP1 _ und26 rfl hs1 _ Sang.underlying41 rfl hs2) rfl ⟨?_, hf3.drew⟩
                    rw [HT2.out, HR0.out]
                  exact AllReady.nil
                exact AllReady.nil
              exact AllReady.nil
            exact AllReady.nil
          | succ i =>
            obtain ⟨c, HC, hcc⟩ : ∃ c : Nat, Hid (X.getD i 0 = c) ∧ wr.cell? ⟨bx, i, none⟩ = some (.int .u64 (c : Int)) := ⟨_, rfl, (hX.fr hf2 hX.lt (fun x => x)).cell i (by omega)⟩
            obtain ⟨m, HM1, hcm⟩ : ∃ c : Nat, Hid (M.getD 0 0 = c) ∧ wr.cell? ⟨bm, 0, none⟩ = some (.int .u64 (c : Int)) := ⟨_, rfl, (hM.fr hf2 hM.lt (fun x => x)).cell 0 (by omega)⟩
            have hm0 : 0 < m := by have := HM0.out; rw [HM1.out] at this; omega
            have hrm : r < m := by rw [HR.out, HM1.out]; exact Nat.mod_lt _ hm0
            have hdv := div64_ok r c m hrm (by rw [← HC.out]; exact HDg.out.1.getD W64_pos _) (by rw [← HM1.out]; exact HDg.out.2.getD W64_pos _)
            obtain ⟨r', HR'⟩ : ∃ r', Hid ((r * W64 + c) % m = r') := ⟨_, rfl⟩
            rw [HR'.out] at hdv
            generalize (r * W64 + c) / m = q at hdv
            have HDv : Hid (∀ w, Calls Sang.prog 33 #[.int .u64 (r : Int), .int .u64 (c : Int), .int .u64 (m : Int)] w fun e w' => e = .returned (.tuple #[.int .u64 (q : Nat), .int .u64 (r' : Nat), .bool true]) ∧ ∃ m, w' = w.drewN m) := hdv
            clear hdv hm0 hrm
            go_wp2
            go_quiet ((go_at_call 33; exact Calls.quiet_of (HDv.out _)))
            go_wp2
            refine ⟨⟨i, r', by omega, by go_num, rfl, ?_, hR2.drewN _, hP2.drewN _, hf2.drewN _⟩, by simp [intOf]⟩
            unfold Hid
            rw [← HR'.out, HR.out, ← HC.out, ← HM1.out]
            exact rem_step (by omega)

end Go.Proofs.Ygcsan
