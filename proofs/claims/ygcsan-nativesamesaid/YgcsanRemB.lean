/-
  Package u256: Rem1024, the dividend is shorter.
-/
import Derived.Test.YgcsanFrame
namespace Go.Proofs.Ygcsan
open Go.RowKit
set_option linter.unusedSimpArgs false
set_option linter.unusedVariables false

set_option maxRecDepth 10000 in
set_option maxHeartbeats 4000000 in
theorem rem_less (bx bm : Nat) (tx tm : TypeId) (X M : List Nat) (w : World) (hX : IB w bx .u64 tx X) (hM : IB w bm .u64 tm M) (lX : X.length = 16) (lM : M.length = 8)
    (n : Nat) (hn : lcF M 8 = n) (hz0 : n ≠ 0) (hlt : lcF X 16 < n) :
    Calls Sang.prog 13 #[.pointer (some ⟨bx, 0, none⟩), .pointer (some ⟨bm, 0, none⟩)] w fun e w' => e = .returned (.tuple #[.agg (ints .u64 (X.take 8)), .agg (ints .u8 [0, 0, 0])]) ∧ Fr w.heap.size no w w' := by
  have HLim : Hid (∀ w', IB w' bm .u64 tm M → Calls Sang.prog 32 #[.pointer (some ⟨bm, 0, none⟩)] w' fun e w'' => e = .returned (.int .u8 (n : Nat)) ∧ w'' = w') := fun w' h => by
    have := limbs_any bm tm M w' h lM
    rw [hn] at this
    exact this
  have hAt : ∀ w, (Instr.arrayAt 26 (.slice (some ⟨bx, 0, none⟩) 8 16)).run Sang.prog w = .ok (.pointer (some ⟨bx, 0, none⟩)) w := by
    intro w
    simp [Instr.arrayAt, run_underlying und26]
  have hn0 : ((n : Int) == 0) = false := by simp; omega
  have HLt : Hid (lcF X 16 < n) := hlt
  clear hn hlt hz0
  go_enter Sang.func13, Sang.ntmps13
  go_wp2_with fail
  refine (HLim.out _ ((hM.alloc _).alloc _)).mono ?_
  rintro e w' ⟨rfl, rfl⟩
  go_wp2_with fail
  go_loopw [7] (fun i wr => ∃ k : Nat, k ≤ 16 ∧ i = .int .u8 k ∧ Hid (lcF X k = lcF X 16) ∧ IB wr w.heap.size .u64 26 (List.replicate 8 0) ∧ IB wr (w.heap.size + 1) .u8 41 [0, 0, 0] ∧ w.heap.size + 2 ≤ wr.heap.size ∧ Fr w.heap.size no w wr) (fun i _ => (intOf i).toNat)
  case atStart =>
    refine ⟨16, Nat.le_refl _, rfl, rfl, ?_, ?_, by simp, ((Fr.refl _ _ _).alloc (Nat.le_refl _) _).alloc (by simp) _⟩
    · refine IB.alloc (IB.newAt ?_ ?_) _
      · rfl
      · rfl
    · refine IB.newAt ?_ ?_
      · simp
      · rfl
  case round =>
    obtain ⟨k, hk, rfl, HT, hR, hP, hsz, hf⟩ := hrel
    cases k with
    | zero =>
      have hlt : 0 < n := by have := HLt.out; omega
      have hkn : ((0 : Nat) : Int) < (n : Int) := by omega
      go_wp2
      have hR1 := hR.drew
      have hP1 := hP.drew
      have hX1 := (hX.fr hf hX.lt (fun x => x)).drew
      have hne : w.heap.size + 1 ≠ w.heap.size := by omega
      have hl8 : (X.take 8).length = (List.replicate 8 0).length := by simp [lX]
      have hs1 : (Sang.prog.info? 26).map (·.size) = some (List.replicate 8 0).length := siz26
      have hs1' : (Sang.prog.info? 26).map (·.size) = some (X.take 8).length := by rw [hl8]; exact siz26
      have hs2 : (Sang.prog.info? 41).map (·.size) = some [0, 0, 0].length := siz41
      refine wp_region_any (by kernel_rfl) ?_
      try (change wpAny _ _ _ _ _ _ _ (World.drew _))
      refine wpAny_take (i := 0) (v := ?_) rfl (by kernel_rfl) (by kernel_rfl) (by kernel_rfl) (fun _ _ _ h => h) (Or.inl ⟨by rfl, ?_⟩) ?_
      rotate_left
      · intro w; go_simp
        try with_reducible rfl
      refine wpAny_take (i := 1) (v := ?_) rfl (by kernel_rfl) (by kernel_rfl) (by kernel_rfl) (fun _ _ _ h => h) (Or.inl ⟨by rfl, ?_⟩) ?_
      rotate_left
      · intro w; go_simp
        try with_reducible rfl
      refine wpAny_take (i := 2) (v := ?_) rfl (by kernel_rfl) (by kernel_rfl) (by kernel_rfl) (fun _ _ _ h => h) (Or.inl ⟨by rfl, ?_⟩) ?_
      rotate_left
      · intro w; go_simp
        try with_reducible rfl
      refine wpAny_take (i := 3) (v := ?_) rfl (by kernel_rfl) (by kernel_rfl) (by kernel_rfl) (fun _ _ _ h => h) (Or.inl ⟨by rfl, ?_⟩) ?_
      rotate_left
      · intro w; go_simp
        try with_reducible rfl
      change wpAny _ _ _ _ _ _ (Act.put (Act.put (Act.put (Act.put _ (some 42) _) (some 43) _) (some 44) _) (some 45) _) _
      refine frame_abs3 (p := fun a => wpAny _ _ _ _ _ _ a _) _ 133 45 4 5 (.pointer (some ⟨bx, 0, none⟩)) (.pointer (some ⟨w.heap.size, 0, none⟩)) (.pointer (some ⟨w.heap.size + 1, 0, none⟩)) ?_ ?_ ?_ ?_ ?_ ?_
      · simp only [size_put]; rfl
      · simp only [defers_put]
      · refine eval_put_same ?_
        simp only [size_put]
        exact Nat.lt_of_lt_of_eq (show 45 < 133 by decide) rfl
      · rw [eval_put_ne (by decide), eval_put_ne (by decide), eval_put_ne (by decide), eval_put_ne (by decide)]; rfl
      · rw [eval_put_ne (by decide), eval_put_ne (by decide), eval_put_ne (by decide), eval_put_ne (by decide)]; rfl
      intro a0 h45 h4 h5 hn hd
      show wpAny _ _ _ _ _ _ a0 _
      refine wpAny_ready (rs := [4, 5]) (by kernel_rfl) (by simp) ?_
      refine AllReady.cons rfl (fun K hK => ?_) ?_
      · refine step_load 26 (.tmp 45) bx .u64 tx X 8 (by simp (discharger := decide) only [eval_put_ne, put_none, ne_eq, not_false_eq_true, h45]) hX1 _ und26 rfl (by omega) siz26 ?_
        refine hK _ _ ?_
        clear hK K
        refine wpAny_ready (rs := [5, 6]) (by kernel_rfl) (by simp) ?_
        refine AllReady.cons rfl (fun K hK => ?_) ?_
        · refine step_load_all 41 (.tmp 5) (w.heap.size + 1) .u8 41 [0, 0, 0] (by simp (discharger := decide) only [eval_put_ne, put_none, h5]) hP1 _ Sang.underlying41 rfl hs2 ?_
          refine hK _ _ ?_
          clear hK K
          refine wpAny_ready (rs := [6]) (by kernel_rfl) (by simp) ?_
          refine AllReady.cons rfl (fun K hK => ?_) ?_
          · refine step_store 26 (.tmp 4) (.tmp 46) w.heap.size .u64 26 (List.replicate 8 0) (X.take 8) (by simp (discharger := decide) only [eval_put_ne, put_none, h4]) (by (try simp only [put_none]); first | exact eval_put_same (by simp only [size_put, hn]; decide) | (rw [eval_put_ne (by decide)]; exact eval_put_same (by simp only [size_put, hn]; decide))) hR1 hl8 hs1 ?_
            refine hK _ _ ?_
            clear hK K
            refine wpAny_ready (rs := [7]) (by kernel_rfl) (by simp) ?_
            refine AllReady.cons rfl (fun K hK => ?_) ?_
            · refine step_store_same 41 (.tmp 5) (.tmp 47) (w.heap.size + 1) .u8 41 [0, 0, 0] (by simp (discharger := decide) only [eval_put_ne, put_none, h5]) (by (try simp only [put_none]); first | exact eval_put_same (by simp only [size_put, hn]; decide) | (rw [eval_put_ne (by decide)]; exact eval_put_same (by simp only [size_put, hn]; decide))) (hP1.otherRow hne _ _ _) hs2 ?_
              refine hK _ _ ?_
              clear hK K
              refine wpAny_done (by kernel_rfl) ?_ _
              go_wp2_with fail
              refine bodyPost_ret (results_two Sang.results13 ((getD_eval _ _).trans (by simp (discharger := decide) only [eval_put_ne, put_none, h4])) (IB.setRow hR1.lt _ _ _) ((getD_eval _ _).trans (by simp (discharger := decide) only [eval_put_ne, put_none, h5])) (hP1.otherRow hne _ _ _) _ und26 rfl hs1' _ Sang.underlying41 rfl hs2) (by simp only [defers_put, put_none, hd]) ⟨rfl, ?_⟩
              exact hf.drew.setRow (.inl (Nat.le_refl _)) _ _ _
            exact AllReady.nil
          exact AllReady.nil
        refine AllReady.cons rfl (fun K hK => ?_) ?_
        · refine step_store 26 (.tmp 4) (.tmp 46) w.heap.size .u64 26 (List.replicate 8 0) (X.take 8) (by simp (discharger := decide) only [eval_put_ne, put_none, h4]) (by (try simp only [put_none]); first | exact eval_put_same (by simp only [size_put, hn]; decide) | (rw [eval_put_ne (by decide)]; exact eval_put_same (by simp only [size_put, hn]; decide))) hR1 hl8 hs1 ?_
          refine hK _ _ ?_
          clear hK K
          refine wpAny_ready (rs := [5]) (by kernel_rfl) (by simp) ?_
          refine AllReady.cons rfl (fun K hK => ?_) ?_
          · refine step_load_all 41 (.tmp 5) (w.heap.size + 1) .u8 41 [0, 0, 0] (by simp (discharger := decide) only [eval_put_ne, put_none, h5]) (hP1.otherRow hne _ _ _) _ Sang.underlying41 rfl hs2 ?_
            refine hK _ _ ?_
            clear hK K
            refine wpAny_ready (rs := [7]) (by kernel_rfl) (by simp) ?_
            refine AllReady.cons rfl (fun K hK => ?_) ?_
            · refine step_store_same 41 (.tmp 5) (.tmp 47) (w.heap.size + 1) .u8 41 [0, 0, 0] (by simp (discharger := decide) only [eval_put_ne, put_none, h5]) (by (try simp only [put_none]); first | exact eval_put_same (by simp only [size_put, hn]; decide) | (rw [eval_put_ne (by decide)]; exact eval_put_same (by simp only [size_put, hn]; decide))) (hP1.otherRow hne _ _ _) hs2 ?_
              refine hK _ _ ?_
              clear hK K
              refine wpAny_done (by kernel_rfl) ?_ _
              go_wp2_with fail
              refine bodyPost_ret (results_two Sang.results13 ((getD_eval _ _).trans (by simp (discharger := decide) only [eval_put_ne, put_none, h4])) (IB.setRow hR1.lt _ _ _) ((getD_eval _ _).trans (by simp (discharger := decide) only [eval_put_ne, put_none, h5])) (hP1.otherRow hne _ _ _) _ und26 rfl hs1' _ Sang.underlying41 rfl hs2) (by simp only [defers_put, put_none, hd]) ⟨rfl, ?_⟩
              exact hf.drew.setRow (.inl (Nat.le_refl _)) _ _ _
            exact AllReady.nil
          exact AllReady.nil
        exact AllReady.nil
      refine AllReady.cons rfl (fun K hK => ?_) ?_
      · refine step_load_all 41 (.tmp 5) (w.heap.size + 1) .u8 41 [0, 0, 0] (by simp (discharger := decide) only [eval_put_ne, put_none, h5]) hP1 _ Sang.underlying41 rfl hs2 ?_
        refine hK _ _ ?_
        clear hK K
        refine wpAny_ready (rs := [4]) (by kernel_rfl) (by simp) ?_
        refine AllReady.cons rfl (fun K hK => ?_) ?_
        · refine step_load 26 (.tmp 45) bx .u64 tx X 8 (by simp (discharger := decide) only [eval_put_ne, put_none, ne_eq, not_false_eq_true, h45]) hX1 _ und26 rfl (by omega) siz26 ?_
          refine hK _ _ ?_
          clear hK K
          refine wpAny_ready (rs := [6]) (by kernel_rfl) (by simp) ?_
          refine AllReady.cons rfl (fun K hK => ?_) ?_
          · refine step_store 26 (.tmp 4) (.tmp 46) w.heap.size .u64 26 (List.replicate 8 0) (X.take 8) (by simp (discharger := decide) only [eval_put_ne, put_none, h4]) (by (try simp only [put_none]); first | exact eval_put_same (by simp only [size_put, hn]; decide) | (rw [eval_put_ne (by decide)]; exact eval_put_same (by simp only [size_put, hn]; decide))) hR1 hl8 hs1 ?_
            refine hK _ _ ?_
            clear hK K
            refine wpAny_ready (rs := [7]) (by kernel_rfl) (by simp) ?_
            refine AllReady.cons rfl (fun K hK => ?_) ?_
            · refine step_store_same 41 (.tmp 5) (.tmp 47) (w.heap.size + 1) .u8 41 [0, 0, 0] (by simp (discharger := decide) only [eval_put_ne, put_none, h5]) (by (try simp only [put_none]); first | exact eval_put_same (by simp only [size_put, hn]; decide) | (rw [eval_put_ne (by decide)]; exact eval_put_same (by simp only [size_put, hn]; decide))) (hP1.otherRow hne _ _ _) hs2 ?_
              refine hK _ _ ?_
              clear hK K
              refine wpAny_done (by kernel_rfl) ?_ _
              go_wp2_with fail
              refine bodyPost_ret (results_two Sang.results13 ((getD_eval _ _).trans (by simp (discharger := decide) only [eval_put_ne, put_none, h4])) (IB.setRow hR1.lt _ _ _) ((getD_eval _ _).trans (by simp (discharger := decide) only [eval_put_ne, put_none, h5])) (hP1.otherRow hne _ _ _) _ und26 rfl hs1' _ Sang.underlying41 rfl hs2) (by simp only [defers_put, put_none, hd]) ⟨rfl, ?_⟩
              exact hf.drew.setRow (.inl (Nat.le_refl _)) _ _ _
            exact AllReady.nil
          exact AllReady.nil
        exact AllReady.nil
      exact AllReady.nil

    | succ k =>
      obtain ⟨d, HD, hcell⟩ : ∃ d : Nat, Hid (X.getD k 0 = d) ∧ wr.cell? ⟨bx, k, none⟩ = some (.int .u64 (d : Int)) := ⟨_, rfl, (hX.fr hf hX.lt (fun x => x)).cell k (by omega)⟩
      by_cases hz : d = 0
      · subst hz
        go_wp2
        refine ⟨⟨k, by omega, rfl, ?_, hR, hP, hsz, hf⟩, by simp [intOf]⟩
        unfold Hid
        rw [← HT.out, lcF, if_pos HD.out]
      · have hz' : ((d : Int) == 0) = false := by simpa using hz
        have HT2 : Hid (lcF X 16 = k + 1) := by
          unfold Hid
          rw [← HT.out, lcF, if_neg (by rw [HD.out]; exact hz)]
        clear hz
        have hlt : k + 1 < n := by have := HLt.out; rw [HT2.out] at this; exact this
        have hkn : ((k + 1 : Nat) : Int) < (n : Int) := by omega
        go_wp2
        have hR1 := hR.drew
        have hP1 := hP.drew
        have hX1 := (hX.fr hf hX.lt (fun x => x)).drew
        have hne : w.heap.size + 1 ≠ w.heap.size := by omega
        have hl8 : (X.take 8).length = (List.replicate 8 0).length := by simp [lX]
        have hs1 : (Sang.prog.info? 26).map (·.size) = some (List.replicate 8 0).length := siz26
        have hs1' : (Sang.prog.info? 26).map (·.size) = some (X.take 8).length := by rw [hl8]; exact siz26
        have hs2 : (Sang.prog.info? 41).map (·.size) = some [0, 0, 0].length := siz41
        refine wp_region_any (by kernel_rfl) ?_
        try (change wpAny _ _ _ _ _ _ _ (World.drew _))
        refine wpAny_take (i := 0) (v := ?_) rfl (by kernel_rfl) (by kernel_rfl) (by kernel_rfl) (fun _ _ _ h => h) (Or.inl ⟨by rfl, ?_⟩) ?_
        rotate_left
        · intro w; go_simp
          try with_reducible rfl
        refine wpAny_take (i := 1) (v := ?_) rfl (by kernel_rfl) (by kernel_rfl) (by kernel_rfl) (fun _ _ _ h => h) (Or.inl ⟨by rfl, ?_⟩) ?_
        rotate_left
        · intro w; go_simp
          try with_reducible rfl
        refine wpAny_take (i := 2) (v := ?_) rfl (by kernel_rfl) (by kernel_rfl) (by kernel_rfl) (fun _ _ _ h => h) (Or.inl ⟨by rfl, ?_⟩) ?_
        rotate_left
        · intro w; go_simp
          try with_reducible rfl
        refine wpAny_take (i := 3) (v := ?_) rfl (by kernel_rfl) (by kernel_rfl) (by kernel_rfl) (fun _ _ _ h => h) (Or.inl ⟨by rfl, ?_⟩) ?_
        rotate_left
        · intro w; go_simp
          try with_reducible rfl
        change wpAny _ _ _ _ _ _ (Act.put (Act.put (Act.put (Act.put _ (some 42) _) (some 43) _) (some 44) _) (some 45) _) _
        refine frame_abs3 (p := fun a => wpAny _ _ _ _ _ _ a _) _ 133 45 4 5 (.pointer (some ⟨bx, 0, none⟩)) (.pointer (some ⟨w.heap.size, 0, none⟩)) (.pointer (some ⟨w.heap.size + 1, 0, none⟩)) ?_ ?_ ?_ ?_ ?_ ?_
        · simp only [size_put]; rfl
        · simp only [defers_put]
        · refine eval_put_same ?_
          simp only [size_put]
          exact Nat.lt_of_lt_of_eq (show 45 < 133 by decide) rfl
        · rw [eval_put_ne (by decide), eval_put_ne (by decide), eval_put_ne (by decide), eval_put_ne (by decide)]; rfl
        · rw [eval_put_ne (by decide), eval_put_ne (by decide), eval_put_ne (by decide), eval_put_ne (by decide)]; rfl
        intro a0 h45 h4 h5 hn hd
        show wpAny _ _ _ _ _ _ a0 _
        refine wpAny_ready (rs := [4, 5]) (by kernel_rfl) (by simp) ?_
        refine AllReady.cons rfl (fun K hK => ?_) ?_
        · refine step_load 26 (.tmp 45) bx .u64 tx X 8 (by simp (discharger := decide) only [eval_put_ne, put_none, ne_eq, not_false_eq_true, h45]) hX1 _ und26 rfl (by omega) siz26 ?_
          refine hK _ _ ?_
          clear hK K
          refine wpAny_ready (rs := [5, 6]) (by kernel_rfl) (by simp) ?_
          refine AllReady.cons rfl (fun K hK => ?_) ?_
          · refine step_load_all 41 (.tmp 5) (w.heap.size + 1) .u8 41 [0, 0, 0] (by simp (discharger := decide) only [eval_put_ne, put_none, h5]) hP1 _ Sang.underlying41 rfl hs2 ?_
            refine hK _ _ ?_
            clear hK K
            refine wpAny_ready (rs := [6]) (by kernel_rfl) (by simp) ?_
            refine AllReady.cons rfl (fun K hK => ?_) ?_
            · refine step_store 26 (.tmp 4) (.tmp 46) w.heap.size .u64 26 (List.replicate 8 0) (X.take 8) (by simp (discharger := decide) only [eval_put_ne, put_none, h4]) (by (try simp only [put_none]); first | exact eval_put_same (by simp only [size_put, hn]; decide) | (rw [eval_put_ne (by decide)]; exact eval_put_same (by simp only [size_put, hn]; decide))) hR1 hl8 hs1 ?_
              refine hK _ _ ?_
              clear hK K
              refine wpAny_ready (rs := [7]) (by kernel_rfl) (by simp) ?_
              refine AllReady.cons rfl (fun K hK => ?_) ?_
              · refine step_store_same 41 (.tmp 5) (.tmp 47) (w.heap.size + 1) .u8 41 [0, 0, 0] (by simp (discharger := decide) only [eval_put_ne, put_none, h5]) (by (try simp only [put_none]); first | exact eval_put_same (by simp only [size_put, hn]; decide) | (rw [eval_put_ne (by decide)]; exact eval_put_same (by simp only [size_put, hn]; decide))) (hP1.otherRow hne _ _ _) hs2 ?_
                refine hK _ _ ?_
                clear hK K
                refine wpAny_done (by kernel_rfl) ?_ _
                go_wp2_with fail
                refine bodyPost_ret (results_two Sang.results13 ((getD_eval _ _).trans (by simp (discharger := decide) only [eval_put_ne, put_none, h4])) (IB.setRow hR1.lt _ _ _) ((getD_eval _ _).trans (by simp (discharger := decide) only [eval_put_ne, put_none, h5])) (hP1.otherRow hne _ _ _) _ und26 rfl hs1' _ Sang.underlying41 rfl hs2) (by simp only [defers_put, put_none, hd]) ⟨rfl, ?_⟩
                exact hf.drew.setRow (.inl (Nat.le_refl _)) _ _ _
              exact AllReady.nil
            exact AllReady.nil
          refine AllReady.cons rfl (fun K hK => ?_) ?_
          · refine step_store 26 (.tmp 4) (.tmp 46) w.heap.size .u64 26 (List.replicate 8 0) (X.take 8) (by simp (discharger := decide) only [eval_put_ne, put_none, h4]) (by (try simp only [put_none]); first | exact eval_put_same (by simp only [size_put, hn]; decide) | (rw [eval_put_ne (by decide)]; exact eval_put_same (by simp only [size_put, hn]; decide))) hR1 hl8 hs1 ?_
            refine hK _ _ ?_
            clear hK K
            refine wpAny_ready (rs := [5]) (by kernel_rfl) (by simp) ?_
            refine AllReady.cons rfl (fun K hK => ?_) ?_
            · refine step_load_all 41 (.tmp 5) (w.heap.size + 1) .u8 41 [0, 0, 0] (by simp (discharger := decide) only [eval_put_ne, put_none, h5]) (hP1.otherRow hne _ _ _) _ Sang.underlying41 rfl hs2 ?_
              refine hK _ _ ?_
              clear hK K
              refine wpAny_ready (rs := [7]) (by kernel_rfl) (by simp) ?_
              refine AllReady.cons rfl (fun K hK => ?_) ?_
              · refine step_store_same 41 (.tmp 5) (.tmp 47) (w.heap.size + 1) .u8 41 [0, 0, 0] (by simp (discharger := decide) only [eval_put_ne, put_none, h5]) (by (try simp only [put_none]); first | exact eval_put_same (by simp only [size_put, hn]; decide) | (rw [eval_put_ne (by decide)]; exact eval_put_same (by simp only [size_put, hn]; decide))) (hP1.otherRow hne _ _ _) hs2 ?_
                refine hK _ _ ?_
                clear hK K
                refine wpAny_done (by kernel_rfl) ?_ _
                go_wp2_with fail
                refine bodyPost_ret (results_two Sang.results13 ((getD_eval _ _).trans (by simp (discharger := decide) only [eval_put_ne, put_none, h4])) (IB.setRow hR1.lt _ _ _) ((getD_eval _ _).trans (by simp (discharger := decide) only [eval_put_ne, put_none, h5])) (hP1.otherRow hne _ _ _) _ und26 rfl hs1' _ Sang.underlying41 rfl hs2) (by simp only [defers_put, put_none, hd]) ⟨rfl, ?_⟩
                exact hf.drew.setRow (.inl (Nat.le_refl _)) _ _ _
              exact AllReady.nil
            exact AllReady.nil
          exact AllReady.nil
        refine AllReady.cons rfl (fun K hK => ?_) ?_
        · refine step_load_all 41 (.tmp 5) (w.heap.size + 1) .u8 41 [0, 0, 0] (by simp (discharger := decide) only [eval_put_ne, put_none, h5]) hP1 _ Sang.underlying41 rfl hs2 ?_
          refine hK _ _ ?_
          clear hK K
          refine wpAny_ready (rs := [4]) (by kernel_rfl) (by simp) ?_
          refine AllReady.cons rfl (fun K hK => ?_) ?_
          · refine step_load 26 (.tmp 45) bx .u64 tx X 8 (by simp (discharger := decide) only [eval_put_ne, put_none, ne_eq, not_false_eq_true, h45]) hX1 _ und26 rfl (by omega) siz26 ?_
            refine hK _ _ ?_
            clear hK K
            refine wpAny_ready (rs := [6]) (by kernel_rfl) (by simp) ?_
            refine AllReady.cons rfl (fun K hK => ?_) ?_
            · refine step_store 26 (.tmp 4) (.tmp 46) w.heap.size .u64 26 (List.replicate 8 0) (X.take 8) (by simp (discharger := decide) only [eval_put_ne, put_none, h4]) (by (try simp only [put_none]); first | exact eval_put_same (by simp only [size_put, hn]; decide) | (rw [eval_put_ne (by decide)]; exact eval_put_same (by simp only [size_put, hn]; decide))) hR1 hl8 hs1 ?_
              refine hK _ _ ?_
              clear hK K
              refine wpAny_ready (rs := [7]) (by kernel_rfl) (by simp) ?_
              refine AllReady.cons rfl (fun K hK => ?_) ?_
              · refine step_store_same 41 (.tmp 5) (.tmp 47) (w.heap.size + 1) .u8 41 [0, 0, 0] (by simp (discharger := decide) only [eval_put_ne, put_none, h5]) (by (try simp only [put_none]); first | exact eval_put_same (by simp only [size_put, hn]; decide) | (rw [eval_put_ne (by decide)]; exact eval_put_same (by simp only [size_put, hn]; decide))) (hP1.otherRow hne _ _ _) hs2 ?_
                refine hK _ _ ?_
                clear hK K
                refine wpAny_done (by kernel_rfl) ?_ _
                go_wp2_with fail
                refine bodyPost_ret (results_two Sang.results13 ((getD_eval _ _).trans (by simp (discharger := decide) only [eval_put_ne, put_none, h4])) (IB.setRow hR1.lt _ _ _) ((getD_eval _ _).trans (by simp (discharger := decide) only [eval_put_ne, put_none, h5])) (hP1.otherRow hne _ _ _) _ und26 rfl hs1' _ Sang.underlying41 rfl hs2) (by simp only [defers_put, put_none, hd]) ⟨rfl, ?_⟩
                exact hf.drew.setRow (.inl (Nat.le_refl _)) _ _ _
              exact AllReady.nil
            exact AllReady.nil
          exact AllReady.nil
        exact AllReady.nil

end Go.Proofs.Ygcsan
