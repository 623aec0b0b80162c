/-
  Package law: WideRounds.
-/
import Derived.Test.YgcsanWr
namespace Go.Proofs.Ygcsan
open Go.RowKit
set_option linter.unusedSimpArgs false
set_option linter.unusedVariables false

theorem und23 : Sang.prog.underlying 23 = some (.array 128 5) := by kernel_rfl
theorem siz23 : (Sang.prog.info? 23).map (·.size) = some 128 := by kernel_rfl

/-- a new variable, and at once a row is stored to it -/
theorem wl_store_new {P : Program} {ops : Array Oper} {rest : List Oper} {Q : Exit → Act → World → Prop} {a : Act} {dst : Option Tmp} {type : TypeId} {pos : String} {after : Array Edge}
    (w0 : World) (cs : Array Value) (ty : TypeId) (x y : Operand) (b : Nat) (k : IntKind) (t : TypeId) (L M : List Nat) (hx : a.eval x = .pointer (some ⟨b, 0, none⟩)) (hy : a.eval y = .agg (ints k M)) (hb : b = w0.heap.size) (hc : cs = ints k L)
    (hM : M.length = L.length) (hi : (P.info? ty).map (·.size) = some L.length)
    (hK : wpList P ops Q rest (a.put dst undef) (w0.alloc (.cells (ints k M) t))) : wpList P ops Q (⟨dst, .store ty x y, type, pos, after, none⟩ :: rest) a (w0.alloc (.cells cs t)) := by
  subst hb
  subst hc
  refine wl_store ty x y w0.heap.size k t L M hx hy (IB.new w0 k t L) hM hi ?_
  rw [setRow_alloc]
  exact hK

theorem be_room {L : List Nat} {n : Nat} (h : Dg 256 L) (hl : L.length = 8 * n) : be L < W64 ^ n := by
  have := be_lt h
  rw [hl, Nat.pow_mul] at this
  exact this

set_option maxRecDepth 10000 in
set_option maxHeartbeats 4000000 in
theorem wideRounds_any (A B M X : List Nat) (w : World) (lA : A.length = 64) (lB : B.length = 64) (lM : M.length = 64) (lX : X.length = 128) (dA : Dg 256 A) (dB : Dg 256 B) (dM : Dg 256 M) (dX : Dg 256 X) :
    Calls Sang.prog 3 #[.agg (ints .u8 A), .agg (ints .u8 B), .agg (ints .u8 M), .agg (ints .u8 X)] w fun e w' => e = .returned (.bool true) ∧ Fr w.heap.size no w w' := by
  obtain ⟨i5, hi5, hz5, hs5, hb5⟩ := info_parts info5
  have HD : Hid (Dg 256 A ∧ Dg 256 B ∧ Dg 256 M ∧ Dg 256 X) := ⟨dA, dB, dM, dX⟩
  have rA : be A < W64 ^ 8 := be_room dA lA
  have rB : be B < W64 ^ 8 := be_room dB lB
  have rM : be M < W64 ^ 8 := be_room dM lM
  have rX : be X < W64 ^ 16 := be_room dX lX
  have HRm : Hid (be A < W64 ^ 8 ∧ be B < W64 ^ 8 ∧ be M < W64 ^ 8 ∧ be X < W64 ^ 16) := ⟨rA, rB, rM, rX⟩
  clear dA dB dM dX rA rB rM rX
  have hsA : (Sang.prog.info? 22).map (·.size) = some A.length := by rw [lA]; exact siz22
  have hsB : (Sang.prog.info? 22).map (·.size) = some B.length := by rw [lB]; exact siz22
  have hsM : (Sang.prog.info? 22).map (·.size) = some M.length := by rw [lM]; exact siz22
  have hsX : (Sang.prog.info? 23).map (·.size) = some X.length := by rw [lX]; exact siz23
  have hs26 : (Sang.prog.info? 26).map (·.size) = some (List.replicate 8 0).length := siz26
  have hs28 : (Sang.prog.info? 28).map (·.size) = some (List.replicate 16 0).length := siz28
  have hs41 : (Sang.prog.info? 41).map (·.size) = some [0, 0, 0].length := siz41
  have hl8 : ∀ n, (limbs W64 8 n).length = (List.replicate 8 0).length := fun n => by rw [limbs_length]; rfl
  have hl16 : ∀ n, (limbs W64 16 n).length = (List.replicate 16 0).length := fun n => by rw [limbs_length]; rfl
  go_enter Sang.func3, Sang.ntmps3
  have hA0 : IB ((((w.alloc (.cells (ints .u8 A) 22)).alloc (.cells (ints .u8 B) 22)).alloc (.cells (ints .u8 M) 22)).alloc (.cells (ints .u8 X) 23)) w.heap.size .u8 22 A := (((IB.new w .u8 22 A).alloc _).alloc _).alloc _
  have hB0 : IB ((((w.alloc (.cells (ints .u8 A) 22)).alloc (.cells (ints .u8 B) 22)).alloc (.cells (ints .u8 M) 22)).alloc (.cells (ints .u8 X) 23)) (w.heap.size + 1) .u8 22 B := ((IB.newAt (by simp) rfl).alloc _).alloc _
  have hM0 : IB ((((w.alloc (.cells (ints .u8 A) 22)).alloc (.cells (ints .u8 B) 22)).alloc (.cells (ints .u8 M) 22)).alloc (.cells (ints .u8 X) 23)) (w.heap.size + 1 + 1) .u8 22 M := (IB.newAt (by simp) rfl).alloc _
  have hX0 : IB ((((w.alloc (.cells (ints .u8 A) 22)).alloc (.cells (ints .u8 B) 22)).alloc (.cells (ints .u8 M) 22)).alloc (.cells (ints .u8 X) 23)) (w.heap.size + 1 + 1 + 1) .u8 23 X := IB.newAt (by simp) rfl
  have hf0 : Fr w.heap.size no w ((((w.alloc (.cells (ints .u8 A) 22)).alloc (.cells (ints .u8 B) 22)).alloc (.cells (ints .u8 M) 22)).alloc (.cells (ints .u8 X) 23)) := ((((Fr.refl _ _ _).alloc (Nat.le_refl _) _).alloc (by simp) _).alloc (by simp; omega) _).alloc (by simp; omega) _
  go_wp2_with ((with_reducible refine wl_load 22 (.tmp 4) w.heap.size .u8 22 A ?_ hA0 (.array 64 5) und22 ?_ hsA ?_); rfl; rfl)
  generalize (((w.alloc (.cells (ints .u8 A) 22)).alloc (.cells (ints .u8 B) 22)).alloc (.cells (ints .u8 M) 22)).alloc (.cells (ints .u8 X) 23) = w1 at hA0 hB0 hM0 hX0 hf0 ⊢
  refine (wideOf_any A w1 lA HD.out.1).mono ?_
  rintro e w2 ⟨rfl, hf2⟩
  have hA1 := hA0.fr hf2 hA0.lt (fun x => x)
  have hB1 := hB0.fr hf2 hB0.lt (fun x => x)
  have hM1 := hM0.fr hf2 hM0.lt (fun x => x)
  have hX1 := hX0.fr hf2 hX0.lt (fun x => x)
  have hfw2 : Fr w.heap.size no w w2 := hf0.step hf2 hf0.size (fun _ _ x => x)
  clear hA0 hB0 hM0 hX0 hf0 hf2
  have hB2 := hB1.alloc (.cells (ints .u64 (limbs W64 8 (be A))) 26)
  go_wp2_with (first
    | ((with_reducible refine wl_store_new w2 #[.int .u64 0, .int .u64 0, .int .u64 0, .int .u64 0, .int .u64 0, .int .u64 0, .int .u64 0, .int .u64 0] 26 (.tmp 9) (.tmp 19) w2.heap.size .u64 26 (List.replicate 8 0) (limbs W64 8 (be A)) ?_ ?_ rfl ?_ (hl8 _) hs26 ?_); rfl; rfl; rfl)
    | ((with_reducible refine wl_load 22 (.tmp 5) (w.heap.size + 1) .u8 22 B ?_ hB2 (.array 64 5) und22 ?_ hsB ?_); rfl; rfl))
  have hA2 := hA1.alloc (.cells (ints .u64 (limbs W64 8 (be A))) 26)
  have hM2 := hM1.alloc (.cells (ints .u64 (limbs W64 8 (be A))) 26)
  have hX2 := hX1.alloc (.cells (ints .u64 (limbs W64 8 (be A))) 26)
  have hLA2 := IB.new w2 .u64 26 (limbs W64 8 (be A))
  have hfw3 : Fr w.heap.size no w (w2.alloc (.cells (ints .u64 (limbs W64 8 (be A))) 26)) := hfw2.alloc hfw2.size _
  clear hA1 hB1 hM1 hX1
  generalize w2.alloc (.cells (ints .u64 (limbs W64 8 (be A))) 26) = w3 at hA2 hB2 hM2 hX2 hLA2 hfw3 ⊢
  generalize w2.heap.size = a1 at hLA2 ⊢
  clear hfw2
  refine (wideOf_any B w3 lB HD.out.2.1).mono ?_
  rintro e w4 ⟨rfl, hf4⟩
  have hA3 := hA2.fr hf4 hA2.lt (fun x => x)
  have hB3 := hB2.fr hf4 hB2.lt (fun x => x)
  have hM3 := hM2.fr hf4 hM2.lt (fun x => x)
  have hX3 := hX2.fr hf4 hX2.lt (fun x => x)
  have hLA3 := hLA2.fr hf4 hLA2.lt (fun x => x)
  have hfw4 : Fr w.heap.size no w w4 := hfw3.step hf4 hfw3.size (fun _ _ x => x)
  clear hA2 hB2 hM2 hX2 hLA2 hfw3 hf4
  go_wp2_with ((with_reducible refine wl_store_new w4 #[.int .u64 0, .int .u64 0, .int .u64 0, .int .u64 0, .int .u64 0, .int .u64 0, .int .u64 0, .int .u64 0] 26 (.tmp 10) (.tmp 21) w4.heap.size .u64 26 (List.replicate 8 0) (limbs W64 8 (be B)) ?_ ?_ rfl ?_ (hl8 _) hs26 ?_); rfl; rfl; rfl)
  have hA4 := hA3.alloc (.cells (ints .u64 (limbs W64 8 (be B))) 26)
  have hB4 := hB3.alloc (.cells (ints .u64 (limbs W64 8 (be B))) 26)
  have hM4 := hM3.alloc (.cells (ints .u64 (limbs W64 8 (be B))) 26)
  have hX4 := hX3.alloc (.cells (ints .u64 (limbs W64 8 (be B))) 26)
  have hLA4 := hLA3.alloc (.cells (ints .u64 (limbs W64 8 (be B))) 26)
  have hLB4 := IB.new w4 .u64 26 (limbs W64 8 (be B))
  have hfw5 : Fr w.heap.size no w (w4.alloc (.cells (ints .u64 (limbs W64 8 (be B))) 26)) := hfw4.alloc hfw4.size _
  clear hA3 hB3 hM3 hX3 hLA3
  generalize w4.alloc (.cells (ints .u64 (limbs W64 8 (be B))) 26) = w5 at hA4 hB4 hM4 hX4 hLA4 hLB4 hfw5 ⊢
  generalize w4.heap.size = a2 at hLB4 ⊢
  clear hfw4
  have hmul := mul1024_any a1 a2 26 26 _ _ w5 hLA4 hLB4 (limbs_length _ _ _) (limbs_length _ _ _) (limbs_dg W64_pos _ _) (limbs_dg W64_pos _ _)
  rw [val_limbs, val_limbs, Nat.mod_eq_of_lt HRm.out.1, Nat.mod_eq_of_lt HRm.out.2.1] at hmul
  refine hmul.mono ?_
  clear hmul
  rintro e w6 ⟨rfl, hf6⟩
  have hA5 := hA4.fr hf6 hA4.lt (fun x => x)
  have hB5 := hB4.fr hf6 hB4.lt (fun x => x)
  have hM5 := hM4.fr hf6 hM4.lt (fun x => x)
  have hX5 := hX4.fr hf6 hX4.lt (fun x => x)
  have hfw6 : Fr w.heap.size no w w6 := hfw5.step hf6 hfw5.size (fun _ _ x => x)
  clear hA4 hB4 hM4 hX4 hLA4 hLB4 hfw5 hf6
  have HPr : Hid (be A * be B < W64 ^ 16) := by
    unfold Hid
    rw [show (16 : Nat) = 8 + 8 from rfl, Nat.pow_add]
    exact Nat.mul_lt_mul'' HRm.out.1 HRm.out.2.1
  go_wp2_with ((with_reducible refine wl_store_new w6 #[.int .u64 0, .int .u64 0, .int .u64 0, .int .u64 0, .int .u64 0, .int .u64 0, .int .u64 0, .int .u64 0, .int .u64 0, .int .u64 0, .int .u64 0, .int .u64 0, .int .u64 0, .int .u64 0, .int .u64 0, .int .u64 0] 28 (.tmp 11) (.tmp 22) w6.heap.size .u64 28 (List.replicate 16 0) (limbs W64 16 (be A * be B)) ?_ ?_ rfl ?_ (hl16 _) hs28 ?_); rfl; rfl; rfl)
  have hA6 := hA5.alloc (.cells (ints .u64 (limbs W64 16 (be A * be B))) 28)
  have hB6 := hB5.alloc (.cells (ints .u64 (limbs W64 16 (be A * be B))) 28)
  have hM6 := hM5.alloc (.cells (ints .u64 (limbs W64 16 (be A * be B))) 28)
  have hX6 := hX5.alloc (.cells (ints .u64 (limbs W64 16 (be A * be B))) 28)
  have hPr6 := IB.new w6 .u64 28 (limbs W64 16 (be A * be B))
  have hfw7 : Fr w.heap.size no w (w6.alloc (.cells (ints .u64 (limbs W64 16 (be A * be B))) 28)) := hfw6.alloc hfw6.size _
  clear hA5 hB5 hM5 hX5
  generalize w6.alloc (.cells (ints .u64 (limbs W64 16 (be A * be B))) 28) = w7 at hA6 hB6 hM6 hX6 hPr6 hfw7 ⊢
  generalize w6.heap.size = a3 at hPr6 ⊢
  clear hfw6
  have hlv : val W64 (limbs W64 16 (be A * be B)) = be A * be B := by rw [val_limbs, Nat.mod_eq_of_lt HPr.out]
  have HLN : Hid (∀ w, IB w a3 .u64 28 (limbs W64 16 (be A * be B)) → Calls Sang.prog 10 #[.slice (some ⟨a3, 0, none⟩) 16 16] w fun e w' => ∃ v', e = .returned v' ∧ Sl w' .u8 v' (digs (be A * be B)) ∧ Fr w.heap.size no w w') := by
    intro w h
    have h1 := Sl.of_ib h 16 16 (by rw [limbs_length]; decide) (Nat.le_refl _) (by decide)
    rw [List.take_of_length_le (by rw [limbs_length]; decide)] at h1
    have := limbsNat_any _ _ w h1 (limbs_dg W64_pos _ _) (by rw [limbs_length]; decide)
    rw [hlv] at this
    exact this
  have HFB : Hid (∀ w b t L n, L.length = n → n ≤ 128 → Dg 256 L → IB w b .u8 t L → Calls Sang.prog 12 #[.slice (some ⟨b, 0, none⟩) n n] w fun e w' => ∃ v', e = .returned v' ∧ Sl w' .u8 v' (digs (be L)) ∧ Fr w.heap.size no w w') := by
    intro w b t L n hn hn2 hd h
    have h1 := Sl.of_ib h n n (by omega) (Nat.le_refl _) (Nat.le_trans hn2 (by decide))
    rw [List.take_of_length_le (by omega)] at h1
    exact fromBE_any _ _ w h1 hd (by omega)
  clear hlv
  have hA7 := hA6.drew
  have hB7 := hB6.drew
  have hM7 := hM6.drew
  have hX7 := hX6.drew
  have hPr7 := hPr6.drew
  have hfw7d := hfw7.drew
  clear hA6 hB6 hM6 hX6 hPr6 hfw7
  go_region_with (first
    | (go_at_call 10; refine (HLN.out _ hPr7).mono ?_; rintro e w8 ⟨v8, rfl, hv8, hf8⟩; have hA8 := hA7.fr hf8 hA7.lt (fun x => x); have hB8 := hB7.fr hf8 hB7.lt (fun x => x); have hM8 := hM7.fr hf8 hM7.lt (fun x => x); have hX8 := hX7.fr hf8 hX7.lt (fun x => x); have hfw8 := hfw7d.step hf8 hfw7d.size (fun _ _ x => x))
    | (go_at_call 12; (with_reducible refine (HFB.out w8 w.heap.size 22 A 64 lA (by decide) HD.out.1 hA8).mono ?_); rintro e w9 ⟨v9, rfl, hv9, hf9⟩; have hv8' := hv8.fr hf9; have hB9 := hB8.fr hf9 hB8.lt (fun x => x); have hM9 := hM8.fr hf9 hM8.lt (fun x => x); have hX9 := hX8.fr hf9 hX8.lt (fun x => x); have hfw9 := hfw8.step hf9 hfw8.size (fun _ _ x => x))
    | (go_at_call 12; (with_reducible refine (HFB.out w9 (w.heap.size + 1) 22 B 64 lB (by decide) HD.out.2.1 hB9).mono ?_); rintro e wA ⟨vA, rfl, hvA, hfA⟩; have hv8'' := hv8'.fr hfA; have hv9' := hv9.fr hfA; have hMA := hM9.fr hfA hM9.lt (fun x => x); have hXA := hX9.fr hfA hX9.lt (fun x => x); have hfwA := hfw9.step hfA hfw9.size (fun _ _ x => x))
    | (go_at_call 11; refine (mul_any v9 vA _ _ wA hv9' (digs_dg _) hvA (digs_dg _) (Nat.le_trans (digs_room _ 8 HRm.out.1) (by decide)) (Nat.le_trans (digs_room _ 8 HRm.out.2.1) (by decide))).mono ?_; rintro e wB ⟨vB, rfl, hvB, hfB⟩; rw [val_digs, val_digs] at hvB; have hv8c := hv8''.fr hfB; have hMB := hMA.fr hfB hMA.lt (fun x => x); have hXB := hXA.fr hfB hXA.lt (fun x => x); have hfwB := hfwA.step hfB hfwA.size (fun _ _ x => x))
    | (go_at_call 9; refine (cmp_any v8 vB _ _ wB hv8c (digs_dg _) hvB (digs_dg _)).mono ?_; rintro e wC ⟨rfl, hfC⟩; rw [cmpZ_eq]; have hMC := hMB.fr hfC hMB.lt (fun x => x); have hXC := hXB.fr hfC hXB.lt (fun x => x); have hfwC := hfwB.step hfC hfwB.size (fun _ _ x => x)))
  clear hA7 hB7 hM7 hX7 hPr7 hfw7d hA8 hB8 hM8 hX8 hfw8 hf8 hv8 hv8' hB9 hM9 hX9 hfw9 hf9 hv9 hv8'' hv9' hMA hXA hfwA hfA hvA hv8c hMB hXB hfwB hfB hvB hfC HLN
  have hM1 := hMC.alloc (.cells #[.int .u64 0, .int .u64 0, .int .u64 0, .int .u64 0, .int .u64 0, .int .u64 0, .int .u64 0, .int .u64 0, .int .u64 0, .int .u64 0, .int .u64 0, .int .u64 0, .int .u64 0, .int .u64 0, .int .u64 0, .int .u64 0] 28)
  have hX1 := hXC.alloc (.cells #[.int .u64 0, .int .u64 0, .int .u64 0, .int .u64 0, .int .u64 0, .int .u64 0, .int .u64 0, .int .u64 0, .int .u64 0, .int .u64 0, .int .u64 0, .int .u64 0, .int .u64 0, .int .u64 0, .int .u64 0, .int .u64 0] 28)
  have hY1 : IB (wC.alloc (.cells #[.int .u64 0, .int .u64 0, .int .u64 0, .int .u64 0, .int .u64 0, .int .u64 0, .int .u64 0, .int .u64 0, .int .u64 0, .int .u64 0, .int .u64 0, .int .u64 0, .int .u64 0, .int .u64 0, .int .u64 0, .int .u64 0] 28)) wC.heap.size .u64 28 (limbs W64 16 (beY 16 X 0)) := by
    refine IB.newAt rfl ?_
    rw [beY_zero, limbs_zero]
    rfl
  have hf1 : Fr w.heap.size no w (wC.alloc (.cells #[.int .u64 0, .int .u64 0, .int .u64 0, .int .u64 0, .int .u64 0, .int .u64 0, .int .u64 0, .int .u64 0, .int .u64 0, .int .u64 0, .int .u64 0, .int .u64 0, .int .u64 0, .int .u64 0, .int .u64 0, .int .u64 0] 28)) := hfwC.alloc hfwC.size _
  have hs1 : w.heap.size ≤ wC.heap.size := hfwC.size
  have hMl := hMC.lt
  have hXl := hXC.lt
  go_wp2_with ((with_reducible refine wl_load 23 (.tmp 7) (w.heap.size + 1 + 1 + 1) .u8 23 X ?_ hX1 (.array 128 5) und23 ?_ hsX ?_); rfl; rfl)
  go_loopw [33] (fun i wr => ∃ k : Nat, k ≤ 128 ∧ i = .int .i64 k ∧ IB wr wC.heap.size .u64 28 (limbs W64 16 (beY 16 X k)) ∧ IB wr (w.heap.size + 1 + 1) .u8 22 M ∧ IB wr (w.heap.size + 1 + 1 + 1) .u8 23 X ∧ Fr w.heap.size no w wr) (fun i _ => 128 - (intOf i).toNat)
  case atStart => exact ⟨0, by omega, rfl, hY1, hM1, hX1, hf1⟩
  case round =>
    obtain ⟨k, hk, rfl, hY, hM, hXb, hf⟩ := hrel
    clear hY1 hM1 hX1 hf1 hMC hXC hfwC
    by_cases hlt : k < 128
    · have hst := be_step 16 X k (by omega) (by omega) HD.out.2.2.2
      obtain ⟨g, HG, hcg⟩ : ∃ g : Nat, Hid ((limbs W64 16 (beY 16 X k)).getD (15 - k / 8) 0 = g) ∧ wr.cell? ⟨wC.heap.size, 15 - k / 8, none⟩ = some (.int .u64 (g : Int)) := ⟨_, rfl, hY.cell (15 - k / 8) (by rw [limbs_length]; omega)⟩
      have HST : Hid (g * 256 < W64 ∧ (limbs W64 16 (beY 16 X k)).set (15 - k / 8) (g * 256 + X.getD k 0) = limbs W64 16 (beY 16 X (k + 1))) := by
        unfold Hid; rw [← HG.out]; exact hst
      clear hst
      have hz := hY.unfrozen (15 - k / 8)
      have hkL : k < X.length := by omega
      go_wp2_with ((with_reducible refine wl_index 23 5 (.tmp 32) (.tmp 33) .u8 .i64 X k 128 ?_ ?_ hkL hlt (.int .u8) i5 und23 hi5 hs5 und5 ?_ ?_); rfl; rfl; rfl)
      refine ⟨⟨k + 1, by omega, by go_num, ?_, hM.other (by simp; omega) _, hXb.other (by simp; omega) _, hf.setCell (.inl hs1) _⟩, by simp [intOf]; omega⟩
      refine hY.set' _ _ (shlOr _ _ HST.out.1 (HD.out.2.2.2 _ (by simp))) ?_
      rw [← HST.out.2]
      simp [hkL]
    · have : k = 128 := by omega
      subst this
      have e : beY 16 X 128 = be X := beY_all 16 X lX
      rw [e] at hY
      go_wp2_with ((with_reducible refine wl_load 22 (.tmp 6) (w.heap.size + 1 + 1) .u8 22 M ?_ hM (.array 64 5) und22 ?_ hsM ?_); rfl; rfl)
      refine (wideOf_any M wr lM HD.out.2.2.1).mono ?_
      rintro e w2 ⟨rfl, hf2⟩
      have hY2 := hY.fr hf2 hY.lt (fun x => x)
      have hM2 := hM.fr hf2 hM.lt (fun x => x)
      have hX2 := hXb.fr hf2 hXb.lt (fun x => x)
      have hfw2 : Fr w.heap.size no w w2 := hf.step hf2 hf.size (fun _ _ x => x)
      clear hY hM hXb hf hf2
      go_wp2_with ((with_reducible refine wl_store_new w2 #[.int .u64 0, .int .u64 0, .int .u64 0, .int .u64 0, .int .u64 0, .int .u64 0, .int .u64 0, .int .u64 0] 26 (.tmp 15) (.tmp 52) w2.heap.size .u64 26 (List.replicate 8 0) (limbs W64 8 (be M)) ?_ ?_ rfl ?_ (hl8 _) hs26 ?_); rfl; rfl; rfl)
      have hY3 := hY2.alloc (.cells (ints .u64 (limbs W64 8 (be M))) 26)
      have hM3 := hM2.alloc (.cells (ints .u64 (limbs W64 8 (be M))) 26)
      have hX3 := hX2.alloc (.cells (ints .u64 (limbs W64 8 (be M))) 26)
      have hLM3 := IB.new w2 .u64 26 (limbs W64 8 (be M))
      have hfw3 : Fr w.heap.size no w (w2.alloc (.cells (ints .u64 (limbs W64 8 (be M))) 26)) := hfw2.alloc hfw2.size _
      clear hY2 hM2 hX2
      generalize w2.alloc (.cells (ints .u64 (limbs W64 8 (be M))) 26) = w3 at hY3 hM3 hX3 hLM3 hfw3 ⊢
      generalize w2.heap.size = a5 at hLM3 ⊢
      clear hfw2
      have hrem := rem1024_any wC.heap.size a5 28 26 _ _ w3 hY3 hLM3 (limbs_length _ _ _) (limbs_length _ _ _) (limbs_dg W64_pos _ _) (limbs_dg W64_pos _ _)
      rw [val_limbs, val_limbs, Nat.mod_eq_of_lt HRm.out.2.2.1, Nat.mod_eq_of_lt HRm.out.2.2.2] at hrem
      refine hrem.mono ?_
      clear hrem
      rintro e w4 ⟨rfl, hf4⟩
      have hM4 := hM3.fr hf4 hM3.lt (fun x => x)
      have hX4 := hX3.fr hf4 hX3.lt (fun x => x)
      have hfw4 : Fr w.heap.size no w w4 := hfw3.step hf4 hfw3.size (fun _ _ x => x)
      clear hY3 hM3 hX3 hLM3 hfw3 hf4
      have hRH := fun v1 v2 w h1 h2 => remHolds_any v1 v2 (be X) (be M) w h1 h2 HRm.out.2.2.2 HRm.out.2.2.1
      obtain ⟨p0, p1, p2, hp⟩ := pathA_three (be X) (be M)
      obtain ⟨r0, r1, r2, r3, r4, r5, r6, r7, hr⟩ : ∃ r0 r1 r2 r3 r4 r5 r6 r7, limbs W64 8 (remF (be X) (be M)) = [r0, r1, r2, r3, r4, r5, r6, r7] := ⟨_, _, _, _, _, _, _, _, rfl⟩
      rw [hp, hr] at hRH ⊢
      have HRH : Hid (∀ v1 v2 w, Sl w .u8 v1 (digs (be X)) → Sl w .u8 v2 (digs (be M)) → Calls Sang.prog 14 #[v1, v2, .agg #[.int .u64 (r0 : Int), .int .u64 (r1 : Int), .int .u64 (r2 : Int), .int .u64 (r3 : Int), .int .u64 (r4 : Int), .int .u64 (r5 : Int), .int .u64 (r6 : Int), .int .u64 (r7 : Int)], .agg #[.int .u8 (p0 : Int), .int .u8 (p1 : Int), .int .u8 (p2 : Int)]] w fun e w' => e = .returned (.bool true) ∧ Fr w.heap.size no w w') := hRH
      clear hRH hp hr
      have hlr : [r0, r1, r2, r3, r4, r5, r6, r7].length = (List.replicate 8 0).length := rfl
      have hlp : [p0, p1, p2].length = [0, 0, 0].length := rfl
      have hI0 : IB ((w4.alloc (.cells #[.int .u64 0, .int .u64 0, .int .u64 0, .int .u64 0, .int .u64 0, .int .u64 0, .int .u64 0, .int .u64 0] 26)).alloc (.cells #[.int .u8 0, .int .u8 0, .int .u8 0] 41)) w4.heap.size .u64 26 (List.replicate 8 0) := by
        refine IB.alloc (IB.newAt rfl ?_) _
        rfl
      have hJ0 : IB ((w4.alloc (.cells #[.int .u64 0, .int .u64 0, .int .u64 0, .int .u64 0, .int .u64 0, .int .u64 0, .int .u64 0, .int .u64 0] 26)).alloc (.cells #[.int .u8 0, .int .u8 0, .int .u8 0] 41)) (w4.heap.size + 1) .u8 41 [0, 0, 0] := by
        refine IB.newAt (by simp) ?_
        rfl
      have hJ1 := hJ0.otherRow (b' := w4.heap.size) (by omega) .u64 26 [r0, r1, r2, r3, r4, r5, r6, r7]
      have hI5 : IB (setRow (setRow ((w4.alloc (.cells #[.int .u64 0, .int .u64 0, .int .u64 0, .int .u64 0, .int .u64 0, .int .u64 0, .int .u64 0, .int .u64 0] 26)).alloc (.cells #[.int .u8 0, .int .u8 0, .int .u8 0] 41)) w4.heap.size .u64 26 [r0, r1, r2, r3, r4, r5, r6, r7]) (w4.heap.size + 1) .u8 41 [p0, p1, p2]) w4.heap.size .u64 26 [r0, r1, r2, r3, r4, r5, r6, r7] := (IB.setRow hI0.lt _ _ _).otherRow (by omega) _ _ _
      have hJ5 : IB (setRow (setRow ((w4.alloc (.cells #[.int .u64 0, .int .u64 0, .int .u64 0, .int .u64 0, .int .u64 0, .int .u64 0, .int .u64 0, .int .u64 0] 26)).alloc (.cells #[.int .u8 0, .int .u8 0, .int .u8 0] 41)) w4.heap.size .u64 26 [r0, r1, r2, r3, r4, r5, r6, r7]) (w4.heap.size + 1) .u8 41 [p0, p1, p2]) (w4.heap.size + 1) .u8 41 [p0, p1, p2] := IB.setRow hJ1.lt _ _ _
      have hMl4 := hM4.lt
      have hXl4 := hX4.lt
      have hM5 : IB (setRow (setRow ((w4.alloc (.cells #[.int .u64 0, .int .u64 0, .int .u64 0, .int .u64 0, .int .u64 0, .int .u64 0, .int .u64 0, .int .u64 0] 26)).alloc (.cells #[.int .u8 0, .int .u8 0, .int .u8 0] 41)) w4.heap.size .u64 26 [r0, r1, r2, r3, r4, r5, r6, r7]) (w4.heap.size + 1) .u8 41 [p0, p1, p2]) (w.heap.size + 1 + 1) .u8 22 M := (((hM4.alloc _).alloc _).otherRow (by omega) _ _ _).otherRow (by omega) _ _ _
      have hX5 : IB (setRow (setRow ((w4.alloc (.cells #[.int .u64 0, .int .u64 0, .int .u64 0, .int .u64 0, .int .u64 0, .int .u64 0, .int .u64 0, .int .u64 0] 26)).alloc (.cells #[.int .u8 0, .int .u8 0, .int .u8 0] 41)) w4.heap.size .u64 26 [r0, r1, r2, r3, r4, r5, r6, r7]) (w4.heap.size + 1) .u8 41 [p0, p1, p2]) (w.heap.size + 1 + 1 + 1) .u8 23 X := (((hX4.alloc _).alloc _).otherRow (by omega) _ _ _).otherRow (by omega) _ _ _
      have hfw5 : Fr w.heap.size no w (setRow (setRow ((w4.alloc (.cells #[.int .u64 0, .int .u64 0, .int .u64 0, .int .u64 0, .int .u64 0, .int .u64 0, .int .u64 0, .int .u64 0] 26)).alloc (.cells #[.int .u8 0, .int .u8 0, .int .u8 0] 41)) w4.heap.size .u64 26 [r0, r1, r2, r3, r4, r5, r6, r7]) (w4.heap.size + 1) .u8 41 [p0, p1, p2]) := (((hfw4.alloc hfw4.size _).alloc (Nat.le_trans hfw4.size (by simp)) _).setRow (.inl hfw4.size) _ _ _).setRow (.inl (Nat.le_trans hfw4.size (Nat.le_succ _))) _ _ _
      go_wp2_with (first
        | ((with_reducible refine wl_store 26 (.tmp 16) (.tmp 55) w4.heap.size .u64 26 (List.replicate 8 0) [r0, r1, r2, r3, r4, r5, r6, r7] ?_ ?_ hI0 hlr hs26 ?_); rfl; rfl)
        | ((with_reducible refine wl_store 41 (.tmp 17) (.tmp 56) (w4.heap.size + 1) .u8 41 [0, 0, 0] [p0, p1, p2] ?_ ?_ hJ1 hlp hs41 ?_); rfl; rfl))
      generalize (setRow (setRow ((w4.alloc (.cells #[.int .u64 0, .int .u64 0, .int .u64 0, .int .u64 0, .int .u64 0, .int .u64 0, .int .u64 0, .int .u64 0] 26)).alloc (.cells #[.int .u8 0, .int .u8 0, .int .u8 0] 41)) w4.heap.size .u64 26 [r0, r1, r2, r3, r4, r5, r6, r7]) (w4.heap.size + 1) .u8 41 [p0, p1, p2]) = w5 at hI5 hJ5 hM5 hX5 hfw5 ⊢
      clear hI0 hJ0 hJ1 hM4 hX4 hfw4 hMl4 hXl4
      generalize w4.heap.size = a6 at hI5 hJ5 ⊢
      have hI6 := hI5.drew
      have hJ6 := hJ5.drew
      have hM6 := hM5.drew
      have hX6 := hX5.drew
      have hfw6 := hfw5.drew
      clear hI5 hJ5 hM5 hX5 hfw5
      have ca0 := hI6.cell 0 (by simp)
      have ca1 := hI6.cell 1 (by simp)
      have ca2 := hI6.cell 2 (by simp)
      have ca3 := hI6.cell 3 (by simp)
      have ca4 := hI6.cell 4 (by simp)
      have ca5 := hI6.cell 5 (by simp)
      have ca6 := hI6.cell 6 (by simp)
      have ca7 := hI6.cell 7 (by simp)
      have cap0 := hJ6.cell 0 (by simp)
      have cap1 := hJ6.cell 1 (by simp)
      have cap2 := hJ6.cell 2 (by simp)
      go_region_with (first
        | (go_at_call 12; (with_reducible refine (HFB.out w5.drew (w.heap.size + 1 + 1 + 1) 23 X 128 lX (by decide) HD.out.2.2.2 hX6).mono ?_); rintro e w7 ⟨v7, rfl, hv7, hf7⟩; have hI7 := hI6.fr hf7 hI6.lt (fun x => x); have hJ7 := hJ6.fr hf7 hJ6.lt (fun x => x); have hM7 := hM6.fr hf7 hM6.lt (fun x => x); have hfw7 := hfw6.step hf7 hfw6.size (fun _ _ x => x); have cb0 := hI7.cell 0 (by simp); have cb1 := hI7.cell 1 (by simp); have cb2 := hI7.cell 2 (by simp); have cb3 := hI7.cell 3 (by simp); have cb4 := hI7.cell 4 (by simp); have cb5 := hI7.cell 5 (by simp); have cb6 := hI7.cell 6 (by simp); have cb7 := hI7.cell 7 (by simp); have cbp0 := hJ7.cell 0 (by simp); have cbp1 := hJ7.cell 1 (by simp); have cbp2 := hJ7.cell 2 (by simp))
        | (go_at_call 12; (with_reducible refine (HFB.out w7 (w.heap.size + 1 + 1) 22 M 64 lM (by decide) HD.out.2.2.1 hM7).mono ?_); rintro e w8 ⟨v8, rfl, hv8, hf8⟩; have hv7' := hv7.fr hf8; have hI8 := hI7.fr hf8 hI7.lt (fun x => x); have hJ8 := hJ7.fr hf8 hJ7.lt (fun x => x); have hfw8 := hfw7.step hf8 hfw7.size (fun _ _ x => x); have cc0 := hI8.cell 0 (by simp); have cc1 := hI8.cell 1 (by simp); have cc2 := hI8.cell 2 (by simp); have cc3 := hI8.cell 3 (by simp); have cc4 := hI8.cell 4 (by simp); have cc5 := hI8.cell 5 (by simp); have cc6 := hI8.cell 6 (by simp); have cc7 := hI8.cell 7 (by simp); have ccp0 := hJ8.cell 0 (by simp); have ccp1 := hJ8.cell 1 (by simp); have ccp2 := hJ8.cell 2 (by simp))
        | (go_at_call 14; refine (HRH.out v7 v8 w8 hv7' hv8).mono ?_; rintro e w9 ⟨rfl, hf9⟩; have hfw9 := hfw8.step hf9 hfw8.size (fun _ _ x => x)))
      all_goals (go_wp2_with fail; go_ret; exact ⟨rfl, hfw9⟩)
end Go.Proofs.Ygcsan
