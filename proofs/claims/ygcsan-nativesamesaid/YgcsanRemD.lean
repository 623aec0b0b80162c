/-
  Package u256: Rem1024, two limbs and more.
-/
import Derived.Test.YgcsanRowLaw
import Derived.Test.YgcsanPlainD
namespace Go.Proofs.Ygcsan
open Go.RowKit
set_option linter.unusedSimpArgs false
set_option linter.unusedVariables false

theorem und36 : Sang.prog.underlying 36 = some (.slice 24) := by kernel_rfl
theorem siz24 : (Sang.prog.info? 24).map (·.size) = some 1 := by kernel_rfl
theorem wl_load_part {P : Program} {ops : Array Oper} {rest : List Oper} {Q : Exit → Act → World → Prop} {a : Act} {w : World} {dst : Option Tmp} {type : TypeId} {pos : String} {after : Array Edge}
    (ty : TypeId) (x : Operand) (b : Nat) (k : IntKind) (t : TypeId) (L : List Nat) (n : Nat) (T : List Nat) (hx : a.eval x = .pointer (some ⟨b, 0, none⟩)) (h : IB w b k t L)
    (d : TypeDesc) (hd : P.underlying ty = some d) (hagg : rowish d = true) (hn : n ≤ L.length) (hi : (P.info? ty).map (·.size) = some n) (hT : L.take n = T)
    (hK : wpList P ops Q rest (a.put dst (.agg (ints k T))) w) : wpList P ops Q (⟨dst, .load ty x, type, pos, after, none⟩ :: rest) a w := by
  subst hT
  refine wpList_plain rfl fun K hK' => ?_
  have hr := run_loadVar_part (P := P) w b k t ty L h d hd hagg n hn hi
  unfold Oper.wp execOp
  simp only [hx, Instr.loadAt, Instr.sureAddr, Sem.run_bind, Sem.run_pure, Result.andThen_ok, hr]
  exact hK' _ _ hK

theorem lay_u {X : List Nat} (lX : X.length = 16) : lay [0, 0, 0, 0, 0, 0, 0, 0, 0, 0, 0, 0, 0, 0, 0, 0, 0] 0 (X.take 17) = X ++ [0] := by
  rw [List.take_of_length_le (by omega), lay_eq _ _ _ (by simp; omega), lX]
  rfl

set_option maxRecDepth 10000 in
set_option maxHeartbeats 4000000 in
theorem rem_many (bx bm : Nat) (tx tm : TypeId) (X M : List Nat) (w : World) (hX : IB w bx .u64 tx X) (hM : IB w bm .u64 tm M) (lX : X.length = 16) (lM : M.length = 8)
    (n : Nat) (dX : Dg W64 X) (dM : Dg W64 M) (hn : lcF M 8 = n) (h2 : 2 ≤ n) (hnt : n ≤ lcF X 16) :
    Calls Sang.prog 13 #[.pointer (some ⟨bx, 0, none⟩), .pointer (some ⟨bm, 0, none⟩)] w fun e w' => e = .returned (.tuple #[.agg (ints .u64 (limbs W64 8 (val W64 X % val W64 M))), .agg (ints .u8 (pathF (lcF X 16) n (64 - Lib.bitLen (M.getD (n - 1) 0)) (val W64 X) (val W64 M)))]) ∧ Fr w.heap.size no w w' := by
  have HLim : Hid (∀ w', IB w' bm .u64 tm M → Calls Sang.prog 32 #[.pointer (some ⟨bm, 0, none⟩)] w' fun e w'' => e = .returned (.int .u8 (n : Nat)) ∧ w'' = w') := fun w' h => by
    have := limbs_any bm tm M w' h lM
    rw [hn] at this
    exact this
  have ht16 := lcF_le X 16
  have hn8 := lcF_le M 8
  rw [hn] at hn8
  have hNX := Nl_lc dX lX
  have hNM := Nl_lc dM lM
  rw [hn] at hNM
  have HF : Hid (Dg W64 X ∧ Dg W64 M ∧ Nl (lcF X 16) (val W64 X) ∧ Nl n (val W64 M) ∧ n ≤ lcF X 16 ∧ lcF M 8 = n) := ⟨dX, dM, hNX, hNM, hnt, hn⟩
  have hn0 : ((n : Int) == 0) = false := by simp; omega
  have hn1 : ((n : Int) == 1) = false := by simp; omega
  have hn2 : (2 : Int) ≤ (n : Int) := by omega
  clear hNX hNM dX dM hn hnt ht16
  go_enter Sang.func13, Sang.ntmps13
  go_wp2_with fail
  refine (HLim.out _ ((hM.alloc _).alloc _)).mono ?_
  rintro e w' ⟨rfl, rfl⟩
  go_wp2_with fail
  go_loopw [7] (fun i wr => ∃ k : Nat, k ≤ 16 ∧ i = .int .u8 k ∧ Hid (lcF X k = lcF X 16) ∧ IB wr w.heap.size .u64 26 (List.replicate 8 0) ∧ IB wr (w.heap.size + 1) .u8 41 [0, 0, 0] ∧ w.heap.size + 2 ≤ wr.heap.size ∧ Fr w.heap.size no w wr) (fun i _ => (intOf i).toNat)
  case atStart =>
    refine ⟨16, Nat.le_refl _, rfl, rfl, ?_, ?_, by simp, ((Fr.refl _ _ _).alloc (Nat.le_refl _) _).alloc (by simp) _⟩
    · refine IB.alloc (IB.newAt ?_ ?_) _
      · rfl
      · rfl
    · refine IB.newAt ?_ ?_
      · simp
      · rfl
  case round =>
    obtain ⟨k, hk, rfl, HT, hR, hP, hsz, hf⟩ := hrel
    cases k with
    | zero =>
      exact absurd HF.out.2.2.2.2.1 (by rw [← HT.out]; simp [lcF]; omega)
    | succ k =>
      obtain ⟨d, HD, hcell⟩ : ∃ d : Nat, Hid (X.getD k 0 = d) ∧ wr.cell? ⟨bx, k, none⟩ = some (.int .u64 (d : Int)) := ⟨_, rfl, (hX.fr hf hX.lt (fun x => x)).cell k (by omega)⟩
      by_cases hz : d = 0
      · subst hz
        go_wp2
        refine ⟨⟨k, by omega, rfl, ?_, hR, hP, hsz, hf⟩, by simp [intOf]⟩
        unfold Hid
        rw [← HT.out, lcF, if_pos HD.out]
      · have hz' : ((d : Int) == 0) = false := by simpa using hz
        have HT2 : Hid (lcF X 16 = k + 1) := by
          unfold Hid
          rw [← HT.out, lcF, if_neg (by rw [HD.out]; exact hz)]
        clear hz
        have hnt : n ≤ k + 1 := by rw [← HT2.out]; exact HF.out.2.2.2.2.1
        have hp0 := hP.cell 0 (by simp)
        have hu0 := hP.unfrozen 0
        obtain ⟨r1, hr1⟩ : ∃ r1, r1 = k + 1 - n := ⟨_, rfl⟩
        obtain ⟨r0, hr0⟩ : ∃ r0, r0 = k + 1 - n + 1 := ⟨_, rfl⟩
        have HR0 : Hid (r0 = k + 1 - n + 1) := hr0
        have e1 : IntKind.u8.wrap (((k + 1 : Nat) : Int) - 1) = (k : Int) := by rw [IntKind.wrap_u8]; omega
        have e2 : IntKind.u8.wrap ((k : Int) + 1 - (n : Int)) = (r1 : Int) := by rw [IntKind.wrap_u8]; omega
        have e3 : IntKind.u8.wrap ((r1 : Int) + 1) = (r0 : Int) := by rw [IntKind.wrap_u8]; omega
        have e4 : decide ((k : Int) + 1 < (n : Int)) = false := by simp; omega
        clear hr1 hr0
        go_wp2
        generalize hw1 : (wr.setCell ⟨w.heap.size + 1, 0, none⟩ (.int .u8 (r0 : Int))).alloc (.cells #[.int .u64 0, .int .u64 0, .int .u64 0, .int .u64 0, .int .u64 0, .int .u64 0, .int .u64 0, .int .u64 0, .int .u64 0, .int .u64 0, .int .u64 0, .int .u64 0, .int .u64 0, .int .u64 0, .int .u64 0, .int .u64 0, .int .u64 0] 95) = w1
        have hf1 : Fr w.heap.size no w w1 := by rw [← hw1]; exact (hf.setCell (.inl (by simp)) _).alloc (by simp [World.setCell]; omega) _
        have hR1 : IB w1 w.heap.size .u64 26 (List.replicate 8 0) := by rw [← hw1]; exact (hR.other (by simp) _).alloc _
        have hP1 : IB w1 (w.heap.size + 1) .u8 41 [r0, 0, 0] := by rw [← hw1]; exact (hP.set' 0 r0 rfl rfl).alloc _
        have hU1 : IB w1 wr.heap.size .u64 95 (List.replicate 17 0) := by
          rw [← hw1]
          refine IB.newAt ?_ ?_
          · simp [World.setCell]
          · rfl
        have hsz1 : w1.heap.size = wr.heap.size + 1 := by rw [← hw1]; simp [World.setCell]
        clear hw1 hf hR hP hcell hp0 hu0
        generalize wr.heap.size = U at hsz hU1 hsz1 ⊢
        have hX1 := hX.fr hf1 hX.lt (fun x => x)
        have hM1 := hM.fr hf1 hM.lt (fun x => x)
        have hSl : Sl w1.drew .u64 (.slice (some ⟨bx, 0, none⟩) 16 16) X := by
          have := Sl.of_ib hX1.drew 16 16 (by omega) (Nat.le_refl _) (by decide)
          rwa [List.take_of_length_le (by omega)] at this
        have hU0 := hU1.drew
        obtain ⟨i24, hi24, hs24⟩ := Option.map_eq_some_iff.1 siz24
        go_region_law (refine step_copy 36 36 24 (.tmp 81) (.tmp 84) U 0 17 17 .u64 95 (List.replicate 17 0) X (.slice (some ⟨bx, 0, none⟩) 16 16) rfl rfl hU0 hSl (by decide) i24 und36 hi24 hs24 ?_)
        rw [lay_u lX]
        clear hSl hU0 hi24 hs24 hX1
        have hf2 : Fr w.heap.size no w (setRow w1.drew U .u64 95 (X ++ [0])) := hf1.drew.setRow (.inl (by omega)) _ _ _
        have hU2 : IB (setRow w1.drew U .u64 95 (X ++ [0])) U .u64 95 (X ++ [0]) := IB.setRow hU1.lt _ _ _
        have hR2 := hR1.drew.otherRow (b' := U) (by omega) .u64 95 (X ++ [0])
        have hP2 := hP1.drew.otherRow (b' := U) (by omega) .u64 95 (X ++ [0])
        have hsz2 : (setRow w1.drew U .u64 95 (X ++ [0])).heap.size = U + 1 := by rw [setRow_size]; exact hsz1
        generalize setRow w1.drew U .u64 95 (X ++ [0]) = w2 at hf2 hU2 hR2 hP2 hsz2 ⊢
        clear hf1 hR1 hP1 hU1 hsz1 hM1
        have hM2 := hM.fr hf2 hM.lt (fun x => x)
        obtain ⟨n1, HN1⟩ : ∃ n1, Hid (n1 = n - 1) := ⟨_, rfl⟩
        have e5 : IntKind.u8.wrap ((n : Int) - 1) = (n1 : Int) := by rw [IntKind.wrap_u8, HN1.out]; omega
        have hn18 : (n1 : Int) < 8 := by rw [HN1.out]; omega
        have hn1c : n1 < 8 := by omega
        have hV3 : IB (setRow (w2.alloc (.cells #[.int .u64 0, .int .u64 0, .int .u64 0, .int .u64 0, .int .u64 0, .int .u64 0, .int .u64 0, .int .u64 0] 26)) (U + 1) .u64 26 M) (U + 1) .u64 26 M := IB.setRow (by simp; omega) _ _ _
        obtain ⟨c, HC, hcv⟩ : ∃ c : Nat, Hid (M.getD n1 0 = c) ∧ (setRow (w2.alloc (.cells #[.int .u64 0, .int .u64 0, .int .u64 0, .int .u64 0, .int .u64 0, .int .u64 0, .int .u64 0, .int .u64 0] 26)) (U + 1) .u64 26 M).cell? ⟨U + 1, n1, none⟩ = some (.int .u64 (c : Int)) := ⟨_, rfl, hV3.cell _ (by omega)⟩
        have hcW : c < W64 := by rw [← HC.out]; exact HF.out.2.1.getD W64_pos _
        have hc0 : c ≠ 0 := by
          have := lcF_top M 8 (by rw [HF.out.2.2.2.2.2]; omega)
          rw [HF.out.2.2.2.2.2, ← HN1.out, HC.out] at this
          exact this
        obtain ⟨hs64, hfl1, hfl2⟩ := lz_norm c hcW hc0
        have hlz := lz64_any c hcW
        obtain ⟨s, HS⟩ : ∃ s, Hid (64 - Lib.bitLen c = s) := ⟨_, rfl⟩
        rw [HS.out] at hs64 hfl1 hfl2 hlz
        have HFull : Hid (Full n s (val W64 M)) := Full_of_top HF.out.2.1 lM HF.out.2.2.2.2.2 (by omega) (by rw [← HN1.out, HC.out]; exact hfl1) (by rw [← HN1.out, HC.out]; exact hfl2) hs64
        have HLz : Hid (∀ w, Calls Sang.prog 34 #[.int .u64 (c : Int)] w fun e w' => e = .returned (.int .i64 (s : Nat)) ∧ w' = w) := hlz
        have e6 : IntKind.u8.wrap (s : Int) = (s : Int) := by rw [IntKind.wrap_u8]; omega
        clear hfl1 hfl2 hlz hc0 hcW
        have hr26 : M.length = (List.replicate 8 0).length := by rw [lM]; rfl
        have hs26 : (Sang.prog.info? 26).map (·.size) = some M.length := by rw [lM]; exact siz26
        have hs26r : (Sang.prog.info? 26).map (·.size) = some (List.replicate 8 0).length := siz26
        have hNew : IB (w2.alloc (.cells #[.int .u64 0, .int .u64 0, .int .u64 0, .int .u64 0, .int .u64 0, .int .u64 0, .int .u64 0, .int .u64 0] 26)) (U + 1) .u64 26 (List.replicate 8 0) := by
          refine IB.newAt hsz2 ?_
          rfl
        go_wp2_with (first
          | ((with_reducible refine wl_load 26 (.tmp 87) bm .u64 tm M ?_ hM2 (.array 8 24) und26 ?_ hs26 ?_); rfl; rfl)
          | ((with_reducible refine wl_store 26 (.tmp 14) (.tmp 88) (U + 1) .u64 26 (List.replicate 8 0) M ?_ ?_ hNew hr26 hs26r ?_); rfl; rfl))
        refine (HLz.out _).mono ?_
        rintro e w3 ⟨rfl, rfl⟩
        have hf3 : Fr w.heap.size no w (setRow (w2.alloc (.cells #[.int .u64 0, .int .u64 0, .int .u64 0, .int .u64 0, .int .u64 0, .int .u64 0, .int .u64 0, .int .u64 0] 26)) (U + 1) .u64 26 M) := (hf2.alloc (by omega) _).setRow (.inl (by omega)) _ _ _
        have hU3 := (hU2.alloc (.cells #[.int .u64 0, .int .u64 0, .int .u64 0, .int .u64 0, .int .u64 0, .int .u64 0, .int .u64 0, .int .u64 0] 26)).otherRow (b' := U + 1) (by omega) .u64 26 M
        have hR3 := (hR2.alloc (.cells #[.int .u64 0, .int .u64 0, .int .u64 0, .int .u64 0, .int .u64 0, .int .u64 0, .int .u64 0, .int .u64 0] 26)).otherRow (b' := U + 1) (by omega) .u64 26 M
        have hP3 := (hP2.alloc (.cells #[.int .u64 0, .int .u64 0, .int .u64 0, .int .u64 0, .int .u64 0, .int .u64 0, .int .u64 0, .int .u64 0] 26)).otherRow (b' := U + 1) (by omega) .u64 26 M
        have hsz3 : (setRow (w2.alloc (.cells #[.int .u64 0, .int .u64 0, .int .u64 0, .int .u64 0, .int .u64 0, .int .u64 0, .int .u64 0, .int .u64 0] 26)) (U + 1) .u64 26 M).heap.size = U + 2 := by rw [setRow_size]; simp; omega
        clear hcv hNew hf2 hU2 hR2 hP2 hM2 hsz2
        generalize setRow (w2.alloc (.cells #[.int .u64 0, .int .u64 0, .int .u64 0, .int .u64 0, .int .u64 0, .int .u64 0, .int .u64 0, .int .u64 0] 26)) (U + 1) .u64 26 M = w3 at hf3 hU3 hR3 hP3 hV3 hsz3 ⊢
        clear HLz hs26 hs26r hr26
        have hSU : ∀ w, IB w U .u64 95 (X ++ [0]) → Calls Sang.prog 35 #[.slice (some ⟨U, 0, none⟩) 17 17, .int .u8 (s : Int)] w fun e w' => e = .returned (.tuple #[]) ∧ IB w' U .u64 95 (limbs W64 17 (val W64 X * 2 ^ s)) ∧ Fr w.heap.size (fun k => k = U) w w' := by
          intro w h
          have := shiftUp_any U 17 95 (X ++ [0]) s w h (HF.out.1.append (Dg.cons W64_pos (Dg.nil _))) hs64 (by simp [lX]) (by decide)
          have hl17 : (X ++ [0]).length = 17 := by simp [lX]
          have hv0 : val W64 (X ++ [0]) = val W64 X := by rw [val_append]; simp [val]
          rw [hv0, hl17] at this
          exact this
        have hSV : ∀ w, IB w (U + 1) .u64 26 M → Calls Sang.prog 35 #[.slice (some ⟨U + 1, 0, none⟩) 8 8, .int .u8 (s : Int)] w fun e w' => e = .returned (.tuple #[]) ∧ IB w' (U + 1) .u64 26 (limbs W64 8 (val W64 M * 2 ^ s)) ∧ Fr w.heap.size (fun k => k = U + 1) w w' := by
          intro w h
          have := shiftUp_any (U + 1) 8 26 M s w h HF.out.2.1 hs64 (by omega) (by decide)
          rw [lM] at this
          exact this
        obtain ⟨hv1, hv2, hv3⟩ := Full_limbs (by omega) hn8 HFull.out
        have hv4 := limbs_dg W64_pos 8 (val W64 M * 2 ^ s)
        have hv5 := limbs_length W64 8 (val W64 M * 2 ^ s)
        obtain ⟨P0, HP0⟩ : ∃ P0, Hid (rdRun n (limbs W64 8 (val W64 M * 2 ^ s)) (k + 1 - n + 1) (val W64 X * 2 ^ s) (0, 0) = P0) := ⟨_, rfl⟩
        have hst := start_lt (s := s) HF.out.2.2.1.1 (HF.out.2.2.2.1.2.resolve_left (by omega)) (by omega) HF.out.2.2.2.2.1
        rw [HT2.out, ← HR0.out] at hst
        rw [← hv1] at hst
        have HA : Hid (val W64 (limbs W64 8 (val W64 M * 2 ^ s)) = val W64 M * 2 ^ s) := hv1
        generalize hVL : limbs W64 8 (val W64 M * 2 ^ s) = VL at hv1 hv2 hv3 hv4 hv5 HP0 hst HA hSV
        have HVL : Hid (limbs W64 8 (val W64 M * 2 ^ s) = VL) := hVL
        clear hVL
        have HV : Hid (lcF VL 8 = n ∧ H63 ≤ VL.getD (n - 1) 0 ∧ Dg W64 VL ∧ VL.length = 8) := ⟨hv2, hv3, hv4, hv5⟩
        have HVlt : Hid (val W64 VL < W64 ^ n) := by unfold Hid; rw [HA.out]; exact HFull.out.2
        have HSU : Hid (∀ w, IB w U .u64 95 (X ++ [0]) → Calls Sang.prog 35 #[.slice (some ⟨U, 0, none⟩) 17 17, .int .u8 (s : Int)] w fun e w' => e = .returned (.tuple #[]) ∧ IB w' U .u64 95 (limbs W64 17 (val W64 X * 2 ^ s)) ∧ Fr w.heap.size (fun k => k = U) w w') := hSU
        have HSV : Hid (∀ w, IB w (U + 1) .u64 26 M → Calls Sang.prog 35 #[.slice (some ⟨U + 1, 0, none⟩) 8 8, .int .u8 (s : Int)] w fun e w' => e = .returned (.tuple #[]) ∧ IB w' (U + 1) .u64 26 VL ∧ Fr w.heap.size (fun k => k = U + 1) w w') := hSV
        have HST : Hid (val W64 X * 2 ^ s < val W64 VL * W64 ^ r0) := hst
        clear hv1 hv2 hv3 hv4 hv5 hSU hSV hst
        go_wp2_with fail
        refine (HSU.out _ hU3).mono ?_
        rintro e w4 ⟨rfl, hU4, hf4⟩
        have hsz4 : U + 2 ≤ w4.heap.size := by have := hf4.size; omega
        have hR4 := hR3.fr hf4 hR3.lt (by omega)
        have hP4 := hP3.fr hf4 hP3.lt (by omega)
        have hV4 := hV3.fr hf4 hV3.lt (by omega)
        have hf4' : Fr w.heap.size no w w4 := hf3.step hf4 (by omega) (fun i hi x => absurd x (by omega))
        clear hf4 hR3 hP3 hV3 hf3 hU3 hsz3
        go_wp2_with fail
        refine (HSV.out _ hV4).mono ?_
        rintro e w5 ⟨rfl, hV5, hf5⟩
        have hsz5 : U + 2 ≤ w5.heap.size := by have := hf5.size; omega
        have hR5 := hR4.fr hf5 hR4.lt (by omega)
        have hP5 := hP4.fr hf5 hP4.lt (by omega)
        have hU5 := hU4.fr hf5 hU4.lt (by omega)
        have hf5' : Fr w.heap.size no w w5 := hf4'.step hf5 (by omega) (fun i hi x => absurd x (by omega))
        clear hf5 hR4 hP4 hU4 hf4' hV4 hsz4
        have hc5 := hP5.cell 0 (by simp)
        go_wp2_with fail
        go_loopw [16] (fun jv w6 => ∃ (j A f b : Nat), j ≤ r0 ∧ jv = .int .u8 j ∧ IB w6 U .u64 95 (limbs W64 17 A) ∧ IB w6 (U + 1) .u64 26 VL ∧ IB w6 (w.heap.size + 1) .u8 41 [r0, f, b] ∧ IB w6 w.heap.size .u64 26 (List.replicate 8 0) ∧
          Hid (rdRun n VL j A (f, b) = P0) ∧ Hid (A % val W64 VL = val W64 X * 2 ^ s % val W64 VL) ∧ Hid (A < val W64 VL * W64 ^ j) ∧ Hid (b < 256) ∧ U + 2 ≤ w6.heap.size ∧ Fr w.heap.size no w w6) (fun j _ => (intOf j).toNat)
        case atStart =>
          refine ⟨r0, _, 0, 0, Nat.le_refl _, rfl, hU5, hV5, hP5, hR5, ?_, rfl, HST.out, ?_, hsz5, hf5'⟩
          rotate_left
          · show 0 < 256
            decide
          unfold Hid
          rw [HR0.out]
          exact HP0.out
        case round =>
          obtain ⟨j, A, f, b, hj, rfl, hU6, hV6, hP6, hR6, HRun, HMod, HLt, HB, hsz6, hf6⟩ := hrel
          cases j with
          | zero =>
            have hvp : A < val W64 VL := by have := HLt.out; rwa [Nat.pow_zero, Nat.mul_one] at this
            have hV8 : val W64 VL < W64 ^ 8 := by
              have := val_lt HV.out.2.2.1
              rwa [HV.out.2.2.2] at this
            have HA8 : Hid ((limbs W64 17 A).take 8 = limbs W64 8 A) := limbs_take W64_pos A (Nat.lt_trans hvp hV8)
            have HVal : Hid (val W64 (limbs W64 8 A) / 2 ^ s = val W64 X % val W64 M) := by
              unfold Hid
              rw [val_limbs, Nat.mod_eq_of_lt (Nat.lt_trans hvp hV8), ← Nat.mod_eq_of_lt hvp, HMod.out, HA.out, shift_back]
            have hAt : ∀ w, (Instr.arrayAt 26 (.slice (some ⟨U, 0, none⟩) 8 17)).run Sang.prog w = .ok (.pointer (some ⟨U, 0, none⟩)) w := by
              intro w
              simp [Instr.arrayAt, run_underlying und26]
            have hl17 : 8 ≤ (limbs W64 17 A).length := by rw [limbs_length]; decide
            have hl8 : (limbs W64 8 A).length = (List.replicate 8 0).length := by rw [limbs_length]; rfl
            have hsr : (Sang.prog.info? 26).map (·.size) = some (List.replicate 8 0).length := siz26
            clear hvp hV8
            go_wp2_with (first
              | ((with_reducible refine wl_load_part 26 (.tmp 126) U .u64 95 (limbs W64 17 A) 8 (limbs W64 8 A) ?_ hU6 (.array 8 24) und26 ?_ hl17 siz26 HA8.out ?_); rfl; rfl)
              | ((with_reducible refine wl_store 26 (.tmp 4) (.tmp 127) w.heap.size .u64 26 (List.replicate 8 0) (limbs W64 8 A) ?_ ?_ hR6 hl8 hsr ?_); rfl; rfl))
            have hSD := shiftDown_any w.heap.size 8 26 (limbs W64 8 A) s (setRow wr w.heap.size .u64 26 (limbs W64 8 A)) (IB.setRow hR6.lt _ _ _) (limbs_dg W64_pos _ _) hs64 (by rw [limbs_length]; decide) (by decide)
            rw [limbs_length, HVal.out] at hSD
            refine hSD.mono ?_
            rintro e w7 ⟨rfl, hR7, hf7⟩
            have hP7 := (hP6.otherRow (b' := w.heap.size) (by omega) .u64 26 (limbs W64 8 A)).fr hf7 (by rw [setRow_size]; exact hP6.lt) (by omega)
            have hf7' : Fr w.heap.size no w w7 := by
              have h1 : Fr w.heap.size no w (setRow wr w.heap.size .u64 26 (limbs W64 8 A)) := hf6.setRow (.inl (Nat.le_refl _)) _ _ _
              exact h1.step hf7 (by rw [setRow_size]; omega) (fun i hi x => absurd x (by omega))
            clear hf7 hR6 hP6 hU6 hV6 hf6 hSD
            go_wp2_with fail
            have hR1 := hR7.drew
            have hP1 := hP7.drew
            have hs1 : (Sang.prog.info? 26).map (·.size) = some (limbs W64 8 (val W64 X % val W64 M)).length := by rw [limbs_length]; exact siz26
            have hs2 : (Sang.prog.info? 41).map (·.size) = some [r0, f, b].length := siz41
            have HPath : Hid (pathF (lcF X 16) n (64 - Lib.bitLen (M.getD (n - 1) 0)) (val W64 X) (val W64 M) = [r0, f, b]) := by
              unfold Hid pathF
              rw [HT2.out, ← HN1.out, HC.out, HS.out, HVL.out, HP0.out, ← HRun.out, HR0.out]
              rfl
            refine wp_region_any (by kernel_rfl) ?_
            try (change wpAny _ _ _ _ _ _ _ (World.drew _))
            refine wpAny_ready (rs := [0, 1]) (by kernel_rfl) (by simp) ?_
            refine AllReady.cons rfl (fun K hK => ?_) ?_
            · refine step_load_all 26 (.tmp 4) w.heap.size .u64 26 (limbs W64 8 (val W64 X % val W64 M)) rfl hR1 _ und26 rfl hs1 ?_
              refine hK _ _ ?_
              clear hK K
              refine wpAny_ready (rs := [1, 2]) (by kernel_rfl) (by simp) ?_
              refine AllReady.cons rfl (fun K hK => ?_) ?_
              · refine step_load_all 41 (.tmp 5) (w.heap.size + 1) .u8 41 [r0, f, b] rfl hP1 _ Sang.underlying41 rfl hs2 ?_
                refine hK _ _ ?_
                clear hK K
                refine wpAny_ready (rs := [2]) (by kernel_rfl) (by simp) ?_
                refine AllReady.cons rfl (fun K hK => ?_) ?_
                · refine step_store_same 26 (.tmp 4) (.tmp 131) w.heap.size .u64 26 (limbs W64 8 (val W64 X % val W64 M)) rfl rfl hR1 hs1 ?_
                  refine hK _ _ ?_
                  clear hK K
                  refine wpAny_ready (rs := [3]) (by kernel_rfl) (by simp) ?_
                  refine AllReady.cons rfl (fun K hK => ?_) ?_
                  · refine step_store_same 41 (.tmp 5) (.tmp 132) (w.heap.size + 1) .u8 41 [r0, f, b] rfl rfl hP1 hs2 ?_
                    refine hK _ _ ?_
                    clear hK K
                    refine wpAny_done (by kernel_rfl) ?_ _
                    go_wp2_with fail
                    refine bodyPost_ret (results_two Sang.results13 rfl hR1 rfl hP1 _ und26 rfl hs1 _ Sang.underlying41 rfl hs2) rfl ⟨?_, hf7'.drew⟩
                    rw [HPath.out]
                  exact AllReady.nil
                exact AllReady.nil
              refine AllReady.cons rfl (fun K hK => ?_) ?_
              · refine step_store_same 26 (.tmp 4) (.tmp 131) w.heap.size .u64 26 (limbs W64 8 (val W64 X % val W64 M)) rfl rfl hR1 hs1 ?_
                refine hK _ _ ?_
                clear hK K
                refine wpAny_ready (rs := [1]) (by kernel_rfl) (by simp) ?_
                refine AllReady.cons rfl (fun K hK => ?_) ?_
                · refine step_load_all 41 (.tmp 5) (w.heap.size + 1) .u8 41 [r0, f, b] rfl hP1 _ Sang.underlying41 rfl hs2 ?_
                  refine hK _ _ ?_
                  clear hK K
                  refine wpAny_ready (rs := [3]) (by kernel_rfl) (by simp) ?_
                  refine AllReady.cons rfl (fun K hK => ?_) ?_
                  · refine step_store_same 41 (.tmp 5) (.tmp 132) (w.heap.size + 1) .u8 41 [r0, f, b] rfl rfl hP1 hs2 ?_
                    refine hK _ _ ?_
                    clear hK K
                    refine wpAny_done (by kernel_rfl) ?_ _
                    go_wp2_with fail
                    refine bodyPost_ret (results_two Sang.results13 rfl hR1 rfl hP1 _ und26 rfl hs1 _ Sang.underlying41 rfl hs2) rfl ⟨?_, hf7'.drew⟩
                    rw [HPath.out]
                  exact AllReady.nil
                exact AllReady.nil
              exact AllReady.nil
            refine AllReady.cons rfl (fun K hK => ?_) ?_
            · refine step_load_all 41 (.tmp 5) (w.heap.size + 1) .u8 41 [r0, f, b] rfl hP1 _ Sang.underlying41 rfl hs2 ?_
              refine hK _ _ ?_
              clear hK K
              refine wpAny_ready (rs := [0]) (by kernel_rfl) (by simp) ?_
              refine AllReady.cons rfl (fun K hK => ?_) ?_
              · refine step_load_all 26 (.tmp 4) w.heap.size .u64 26 (limbs W64 8 (val W64 X % val W64 M)) rfl hR1 _ und26 rfl hs1 ?_
                refine hK _ _ ?_
                clear hK K
                refine wpAny_ready (rs := [2]) (by kernel_rfl) (by simp) ?_
                refine AllReady.cons rfl (fun K hK => ?_) ?_
                · refine step_store_same 26 (.tmp 4) (.tmp 131) w.heap.size .u64 26 (limbs W64 8 (val W64 X % val W64 M)) rfl rfl hR1 hs1 ?_
                  refine hK _ _ ?_
                  clear hK K
                  refine wpAny_ready (rs := [3]) (by kernel_rfl) (by simp) ?_
                  refine AllReady.cons rfl (fun K hK => ?_) ?_
                  · refine step_store_same 41 (.tmp 5) (.tmp 132) (w.heap.size + 1) .u8 41 [r0, f, b] rfl rfl hP1 hs2 ?_
                    refine hK _ _ ?_
                    clear hK K
                    refine wpAny_done (by kernel_rfl) ?_ _
                    go_wp2_with fail
                    refine bodyPost_ret (results_two Sang.results13 rfl hR1 rfl hP1 _ und26 rfl hs1 _ Sang.underlying41 rfl hs2) rfl ⟨?_, hf7'.drew⟩
                    rw [HPath.out]
                  exact AllReady.nil
                exact AllReady.nil
              exact AllReady.nil
            exact AllReady.nil
          | succ j =>
            have hnj : j + n ≤ 16 := by rw [HR0.out] at hj; omega
            have hA17 : A < W64 ^ 17 := by
              have h1 : val W64 VL * W64 ^ (j + 1) ≤ W64 ^ n * W64 ^ (j + 1) := Nat.mul_le_mul_right _ (Nat.le_of_lt HVlt.out)
              have h2 : W64 ^ n * W64 ^ (j + 1) ≤ W64 ^ 17 := by rw [← Nat.pow_add]; exact Nat.pow_le_pow_right W64_pos (by omega)
              exact Nat.lt_of_lt_of_le HLt.out (Nat.le_trans h1 h2)
            have hvA : val W64 (limbs W64 17 A) = A := by rw [val_limbs, Nat.mod_eq_of_lt hA17]
            have hrw := roundWide_any U (U + 1) n j 95 26 (limbs W64 17 A) VL wr hU6 hV6 (by omega) (limbs_length _ _ _) HV.out.2.2.2 (limbs_dg W64_pos _ _) HV.out.2.2.1 h2 hn8 hnj HV.out.1 HV.out.2.1 (by rw [hvA]; exact HLt.out)
            rw [hvA] at hrw
            have hRun := HRun.out
            unfold rdRun at hRun
            have hMod2 : A % (val W64 VL * W64 ^ j) % val W64 VL = val W64 X * 2 ^ s % val W64 VL := by
              rw [Nat.mod_mul_right_mod]; exact HMod.out
            have hVp : 0 < val W64 VL := by
              rcases Nat.eq_zero_or_pos (val W64 VL) with h | h
              · have := HLt.out; rw [h, Nat.zero_mul] at this; omega
              · exact h
            have hLt2 : A % (val W64 VL * W64 ^ j) < val W64 VL * W64 ^ j := Nat.mod_lt _ (Nat.mul_pos hVp (Nat.pow_pos W64_pos))
            generalize A % (val W64 VL * W64 ^ j) = A2 at hRun hMod2 hLt2 hrw
            have hfx : rdFix (limbs W64 17 A) VL n j < 256 ∨ True := .inr trivial
            generalize rdFix (limbs W64 17 A) VL n j = fx at hRun hrw
            generalize rdBack (limbs W64 17 A) VL n j = bk at hRun hrw
            obtain ⟨f2, HF2⟩ : ∃ f2, Hid ((f + fx) % 256 = f2) := ⟨_, rfl⟩
            have e7 : IntKind.u8.wrap ((f : Int) + (fx : Int)) = (f2 : Int) := by rw [← HF2.out, IntKind.wrap_u8]; omega
            have HRun2 : Hid (rdRun n VL j A2 (f2, (b + bk.toNat) % 256) = P0) := by rw [← HF2.out]; exact hRun
            have HMod2 : Hid (A2 % val W64 VL = val W64 X * 2 ^ s % val W64 VL) := hMod2
            have HLt2 : Hid (A2 < val W64 VL * W64 ^ j) := hLt2
            have HRW : Hid (Calls Sang.prog 36 #[.pointer (some ⟨U, 0, none⟩), .pointer (some ⟨U + 1, 0, none⟩), .int .u8 (n : Int), .int .u8 (j : Int)] wr fun e w' => (∃ q : Nat, e = .returned (.tuple #[.int .u64 (q : Int), .int .u8 (fx : Nat), .bool bk])) ∧ IB w' U .u64 95 (limbs W64 17 A2) ∧ Fr wr.heap.size (fun k => k = U) wr w') := hrw
            clear hRun hMod2 hLt2 hrw hA17 hvA hVp hfx HRun HMod HLt
            go_wp2_with fail
            refine HRW.out.mono ?_
            rintro e w7 ⟨⟨q, rfl⟩, hU7, hf7⟩
            have hsz7 : U + 2 ≤ w7.heap.size := by have := hf7.size; omega
            have hR7 := hR6.fr hf7 hR6.lt (by omega)
            have hP7 := hP6.fr hf7 hP6.lt (by omega)
            have hV7 := hV6.fr hf7 hV6.lt (by omega)
            have hf7' : Fr w.heap.size no w w7 := hf6.step hf7 (by omega) (fun i hi x => absurd x (by omega))
            clear hf7 hR6 hP6 hV6 hf6 hU6 HRW
            have hc1 : w7.cell? ⟨w.heap.size + 1, 1, none⟩ = some (.int .u8 (f : Int)) := hP7.cell 1 (by simp)
            have hc2 : w7.cell? ⟨w.heap.size + 1, 2, none⟩ = some (.int .u8 (b : Int)) := hP7.cell 2 (by simp)
            have hz1 := hP7.unfrozen 1
            have hz2 := hP7.unfrozen 2
            cases bk with
            | false =>
              go_wp2_with fail
              refine ⟨⟨j, A2, f2, b, by omega, by go_num, hU7.other (by simp; omega) _, hV7.other (by simp; omega) _, ?_, hR7.other (by simp) _, ?_, HMod2, HLt2, HB, by simp [World.setCell]; omega, hf7'.setCell (.inl (by simp)) _⟩, by simp [intOf]⟩
              · exact hP7.set' 1 f2 rfl rfl
              · have := HRun2.out
                rw [show (b + false.toNat) % 256 = b from Nat.mod_eq_of_lt HB.out] at this
                exact this
            | true =>
              obtain ⟨b2, HB2⟩ : ∃ b2, Hid ((b + 1) % 256 = b2) := ⟨_, rfl⟩
              have e8 : IntKind.u8.wrap ((b : Int) + 1) = (b2 : Int) := by rw [← HB2.out, IntKind.wrap_u8]; omega
              go_wp2_with fail
              refine ⟨⟨j, A2, f2, b2, by omega, by go_num, (hU7.other (by simp; omega) _).other (by simp; omega) _, (hV7.other (by simp; omega) _).other (by simp; omega) _, ?_, (hR7.other (by simp) _).other (by simp) _, ?_, HMod2, HLt2, ?_, by simp [World.setCell]; omega, (hf7'.setCell (.inl (by simp)) _).setCell (.inl (by simp)) _⟩, by simp [intOf]⟩
              · exact (hP7.set' 1 f2 rfl rfl).set' 2 b2 rfl rfl
              · rw [← HB2.out]; exact HRun2
              · unfold Hid; rw [← HB2.out]; exact Nat.mod_lt _ (by decide)

end Go.Proofs.Ygcsan
