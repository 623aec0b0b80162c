/-
  The law's own helpers over limbs: limbsNat, natWide, wideOf.
-/
import Derived.Test.YgcsanNatD
import Derived.Test.YgcsanNum
namespace Go.Proofs.Ygcsan
open Go.RowKit
set_option linter.unusedSimpArgs false
set_option linter.unusedVariables false

set_option maxRecDepth 10000 in
set_option maxHeartbeats 1000000 in
theorem limbsNat_any (v : Value) (l : List Nat) (w : World) (h : Sl w .u64 v l) (hd : Dg W64 l) (hsm : l.length ≤ 65536) :
    Calls Sang.prog 10 #[v] w fun e w' => ∃ v', e = .returned v' ∧ Sl w' .u8 v' (digs (val W64 l)) ∧ Fr w.heap.size no w w' := by
  obtain ⟨i5, hi5, hz5, hs5, hb5⟩ := info_parts info5
  have HM : Hid (∀ i, i < 8 * l.length → (limbs 256 (8 * l.length) (val W64 l)).getD i 0 = l.getD (i / 8) 0 / 2 ^ (8 * (i % 8)) % 256) := fun i hi => limb_byte hd i hi
  have HV : Hid (val 256 (limbs 256 (8 * l.length) (val W64 l)) = val W64 l) := val_limb_bytes hd
  have hMl : (limbs 256 (8 * l.length) (val W64 l)).length = 8 * l.length := limbs_length _ _ _
  have hMd : Dg 256 (limbs 256 (8 * l.length) (val W64 l)) := limbs_dg (by decide) _ _
  generalize limbs 256 (8 * l.length) (val W64 l) = M at *
  have HMl : Hid (M.length = 8 * l.length) := hMl
  clear hMl
  obtain ⟨a, cap, rfl, hl, hm, hc⟩ := h
  have HC : Hid (l = [] ∨ ∃ b off, a = some ⟨b, off, none⟩ ∧ ∀ i, i < l.length → w.cell? ⟨b, off + i, none⟩ = some (.int .u64 ((l.getD i 0 : Nat) : Int))) := hc
  clear hc
  unfold maxLen at hm
  go_enter Sang.func10, Sang.ntmps10
  go_wp2_with (first
    | ((with_reducible refine wl_make 34 5 (.tmp 7) (.tmp 7) .u8 .i64 .i64 (8 * l.length) ?_ ?_ i5 und34 hi5 hz5 hs5 ?_ ?_ ?_); rfl; rfl; (rw [hb5]; omega); (unfold maxLen; omega)))
  go_loopw [11] (fun i wr => ∃ j : Nat, j ≤ 8 * l.length ∧ i = .int .i64 j ∧ IB wr w.heap.size .u8 5 (part M j) ∧ Fr w.heap.size no w wr) (fun i _ => 8 * l.length - (intOf i).toNat)
  case atStart =>
    refine ⟨0, by omega, rfl, ?_, ?_⟩
    · rw [part_zero, HMl.out]; exact IB.new _ _ _ _
    · exact (Fr.refl _ _ _).alloc (Nat.le_refl _) _
  case round =>
    obtain ⟨j, hj, rfl, h1, hf⟩ := hrel
    have hpl : (part M j).length = 8 * l.length := by rw [part_length _ _ (by rw [HMl.out]; exact hj), HMl.out]
    have HPL : Hid ((part M j).length = 8 * l.length) := hpl
    clear hpl
    by_cases hjn : j < 8 * l.length
    · have hj8 : j / 8 < l.length := by omega
      rcases HC.out with h0 | ⟨b, off, rfl, hc⟩
      · rw [h0] at hjn; simp at hjn
      obtain ⟨d, HD, hcd⟩ := Sl.at (n := 0) (cap := 0) hc (j / 8) hj8
      rw [← hf.cell (cell_lt hcd) (fun x => x)] at hcd
      clear hc
      have hc3 := h1.cell j (by rw [HPL.out]; exact hjn)
      have hz3 := h1.unfrozen j
      go_wp2
      refine ⟨⟨j + 1, by omega, by go_num, ?_, hf.setCell (.inl (Nat.le_refl _)) _⟩, by simp [intOf]; omega⟩
      refine h1.set' j (d / 2 ^ (8 * (j % 8)) % 256) (by rw [shr_nat]; omega) ?_
      rw [part_succ _ _ (by rw [HMl.out]; exact hjn), HM.out j hjn, HD.out]
    · have : j = 8 * l.length := by omega
      subst this
      have hp : part M (8 * l.length) = M := by rw [← HMl.out]; exact part_all M
      rw [hp] at h1
      have hsl := Sl.of_ib h1 (8 * l.length) (8 * l.length) (by rw [HMl.out]; omega) (Nat.le_refl _) (by unfold maxLen; omega)
      rw [List.take_of_length_le (by rw [HMl.out]; omega)] at hsl
      clear hp
      go_wp2_with fail
      refine (norm_any _ M _ hsl hMd (by rw [HMl.out]; omega)).mono ?_
      rintro e w1 ⟨v', rfl, hs, hf1⟩
      rw [HV.out] at hs
      go_wp2_with fail
      go_ret
      exact ⟨v', rfl, hs, hf.step hf1 hf.size (fun _ _ x => x)⟩

theorem orDigit (g d r : Nat) (hr : r < 8) (hg : g < 256 ^ r) (hd : d < 256) : bits .or .u64 (g : Int) (IntKind.u64.wrap ((d : Int) * 2 ^ (8 * r))) = ((g + d * 256 ^ r : Nat) : Int) := by
  have h256 : 256 ^ (r + 1) ≤ W64 := by rw [W64_pow]; exact Nat.pow_le_pow_right (by decide) (by omega)
  rw [Nat.pow_succ] at h256
  have h1 : d * 256 ^ r ≤ 255 * 256 ^ r := Nat.mul_le_mul_right _ (by omega)
  have e : IntKind.u64.wrap ((d : Int) * 2 ^ (8 * r)) = ((d * 256 ^ r : Nat) : Int) := by
    have e1 : ((2 : Int) ^ (8 * r)) = ((256 ^ r : Nat) : Int) := by rw [Int.pow_mul]; simp
    rw [e1, ← Int.natCast_mul, IntKind.wrap_u64]
    rw [W64_eq] at h256
    omega
  rw [e, u64_or_nat _ _ (by rw [← W64_eq]; omega) (by rw [← W64_eq]; omega)]
  congr 1
  rw [show 256 ^ r = 2 ^ (8 * r) by rw [Nat.pow_mul]] at hg ⊢
  exact or_low g d _ hg

theorem und26 : Sang.prog.underlying 26 = some (.array 8 24) := by kernel_rfl
theorem siz26 : (Sang.prog.info? 26).map (·.size) = some 8 := by kernel_rfl

set_option maxRecDepth 10000 in
set_option maxHeartbeats 1000000 in
theorem natWide_any (v : Value) (l : List Nat) (w : World) (h : Sl w .u8 v l) (hd : Dg 256 l) (hsm : l.length ≤ 64) :
    Calls Sang.prog 20 #[v] w fun e w' => e = .returned (.agg (ints .u64 (limbs W64 8 (val 256 l)))) ∧ Fr w.heap.size no w w' := by
  obtain ⟨a, cap, rfl, hl, hm, hc⟩ := h
  have HC : Hid (l = [] ∨ ∃ b off, a = some ⟨b, off, none⟩ ∧ ∀ i, i < l.length → w.cell? ⟨b, off + i, none⟩ = some (.int .u8 ((l.getD i 0 : Nat) : Int))) := hc
  clear hc
  unfold maxLen at hm
  go_enter Sang.func20, Sang.ntmps20
  go_wp2
  go_loopw [4] (fun i wr => ∃ j : Nat, j ≤ l.length ∧ i = .int .i64 j ∧ IB wr (w.heap.size + 1) .u64 26 (limbs W64 8 (val 256 (l.take j))) ∧ IB wr w.heap.size .u64 26 (List.replicate 8 0) ∧ Fr w.heap.size no w wr) (fun i _ => l.length - (intOf i).toNat)
  case atStart =>
    refine ⟨0, by omega, rfl, ?_, ?_, ((Fr.refl _ _ _).alloc (Nat.le_refl _) _).alloc (by simp) _⟩
    · refine IB.newAt ?_ ?_
      · simp
      · rw [List.take_zero, val, limbs_zero]; rfl
    · refine IB.alloc (IB.newAt ?_ ?_) _
      · rfl
      · rfl
  case round =>
    obtain ⟨j, hj, rfl, h1, h2, hf⟩ := hrel
    by_cases hjn : j < l.length
    · rcases HC.out with h0 | ⟨b, off, rfl, hc⟩
      · rw [h0] at hjn; simp at hjn
      obtain ⟨d, HD, hcd⟩ := Sl.at (n := 0) (cap := 0) hc j hjn
      rw [← hf.cell (cell_lt hcd) (fun x => x)] at hcd
      have hd256 : d < 256 := by rw [← HD.out]; exact hd.getD (by decide) _
      clear hc
      have hb64 : (j : Int) < 64 := by omega
      have HN : Hid (val 256 (l.take j) < 256 ^ j) := by
        have := val_lt (hd.take j)
        rwa [show (l.take j).length = j by simp; omega] at this
      obtain ⟨g, HG, hcg⟩ : ∃ g : Nat, Hid ((limbs W64 8 (val 256 (l.take j))).getD (j / 8) 0 = g) ∧ wr.cell? ⟨w.heap.size + 1, j / 8, none⟩ = some (.int .u64 (g : Int)) := ⟨_, rfl, h1.cell (j / 8) (by rw [limbs_length]; omega)⟩
      have hz3 := h1.unfrozen (j / 8)
      go_wp2
      go_region
      go_wp2
      have hlow := limb_low 8 _ j HN.out (by omega)
      rw [HG.out] at hlow
      refine ⟨⟨j + 1, by omega, by go_num, ?_, (h2.other (by simp) _).drew, (hf.setCell (.inl (by simp)) _).drew⟩, by simp [intOf]; omega⟩
      refine IB.drew (h1.set' (j / 8) (g + d * 256 ^ (j % 8)) (orDigit g d (j % 8) (by omega) hlow hd256) ?_)
      rw [val_take_succ 256 l j hjn, HD.out, ← lay_digit 8 _ j d HN.out hd256 (by omega), HG.out]
    · have : j = l.length := by omega
      subst this
      have hs1 : (Sang.prog.info? 26).map (·.size) = some (limbs W64 8 (val 256 (l.take l.length))).length := by rw [limbs_length]; exact siz26
      have hs2 : (Sang.prog.info? 26).map (·.size) = some (List.replicate 8 0).length := siz26
      have hln : (limbs W64 8 (val 256 (l.take l.length))).length = (List.replicate 8 0).length := by rw [limbs_length]; rfl
      go_wp2_with (first
        | ((with_reducible refine wl_load 26 (.tmp 3) (w.heap.size + 1) .u64 26 (limbs W64 8 (val 256 (l.take l.length))) ?_ h1 (.array 8 24) und26 ?_ hs1 ?_); rfl; rfl)
        | ((with_reducible refine wl_store 26 (.tmp 2) (.tmp 30) w.heap.size .u64 26 (List.replicate 8 0) (limbs W64 8 (val 256 (l.take l.length))) ?_ ?_ h2 hln hs2 ?_); rfl; rfl))
      rw [List.take_length] at *
      refine bodyPost_ret (results_cell Sang.results20 rfl (IB.setRow h2.lt _ _ _) _ und26 rfl hs1) rfl ⟨rfl, ?_⟩
      exact hf.setRow (.inl (Nat.le_refl _)) _ _ _

theorem und22 : Sang.prog.underlying 22 = some (.array 64 5) := by kernel_rfl
theorem siz22 : (Sang.prog.info? 22).map (·.size) = some 64 := by kernel_rfl

theorem shlOr (x c : Nat) (hx : x * 256 < W64) (hc : c < 256) : bits .or .u64 (IntKind.u64.wrap ((x : Int) * 256)) (IntKind.u64.wrap (c : Int)) = ((x * 256 + c : Nat) : Int) := by
  rw [W64_eq] at hx
  rw [IntKind.wrap_u64, IntKind.wrap_u64]
  have e1 : ((x : Int) * 256) % 18446744073709551616 = ((x * 256 : Nat) : Int) := by omega
  have e2 : (c : Int) % 18446744073709551616 = ((c : Nat) : Int) := by omega
  rw [e1, e2, u64_or_nat _ _ (by omega) (by omega), nat_join 8 _ _ (by omega) hc]

set_option maxRecDepth 10000 in
set_option maxHeartbeats 400000 in
theorem wideOf_any (L : List Nat) (w : World) (hL : L.length = 64) (hb : Dg 256 L) :
    Calls Sang.prog 7 #[.agg (ints .u8 L)] w fun e w' => e = .returned (.agg (ints .u64 (limbs W64 8 (be L)))) ∧ Fr w.heap.size no w w' := by
  obtain ⟨i5, hi5, hz5, hs5, hb5⟩ := info_parts info5
  have hs : (Sang.prog.info? 22).map (·.size) = some L.length := by rw [hL]; exact siz22
  go_enter Sang.func7, Sang.ntmps7
  go_wp2_with ((with_reducible refine wl_load 22 (.tmp 1) w.heap.size .u8 22 L ?_ ?_ (.array 64 5) und22 ?_ hs ?_); rfl; exact ((IB.new w .u8 22 L).alloc _).alloc _; rfl)
  go_loopw [7] (fun i wr => ∃ k : Nat, k ≤ 64 ∧ i = .int .i64 k ∧ IB wr (w.heap.size + 1 + 1) .u64 26 (limbs W64 8 (beY 8 L k)) ∧ IB wr (w.heap.size + 1) .u64 26 (List.replicate 8 0) ∧ Fr w.heap.size no w wr) (fun i _ => 64 - (intOf i).toNat)
  case atStart =>
    refine ⟨0, by omega, rfl, ?_, ?_, ?_⟩
    · refine IB.newAt ?_ ?_
      · simp
      · rw [beY_zero, limbs_zero]; rfl
    · refine IB.alloc (IB.newAt ?_ ?_) _
      · simp
      · rfl
    · exact (((Fr.refl _ _ _).alloc (Nat.le_refl _) _).alloc (by simp) _).alloc (by simp; omega) _
  case round =>
    obtain ⟨k, hk, rfl, h1, h2, hf⟩ := hrel
    by_cases hlt : k < 64
    · have hst := be_step 8 L k (by omega) (by omega) hb
      obtain ⟨g, HG, hcg⟩ : ∃ g : Nat, Hid ((limbs W64 8 (beY 8 L k)).getD (7 - k / 8) 0 = g) ∧ wr.cell? ⟨w.heap.size + 1 + 1, 7 - k / 8, none⟩ = some (.int .u64 (g : Int)) := ⟨_, rfl, h1.cell (7 - k / 8) (by rw [limbs_length]; omega)⟩
      have HST : Hid (g * 256 < W64 ∧ (limbs W64 8 (beY 8 L k)).set (7 - k / 8) (g * 256 + L.getD k 0) = limbs W64 8 (beY 8 L (k + 1))) := by
        unfold Hid; rw [← HG.out]; exact hst
      clear hst
      have hz := h1.unfrozen (7 - k / 8)
      have hkL : k < L.length := by omega
      go_wp2_with ((with_reducible refine wl_index 22 5 (.tmp 6) (.tmp 7) .u8 .i64 L k 64 ?_ ?_ hkL hlt (.int .u8) i5 und22 hi5 hs5 und5 ?_ ?_); rfl; rfl; rfl)
      refine ⟨⟨k + 1, by omega, by go_num, ?_, ?_, ?_⟩, by simp [intOf]; omega⟩
      · refine h1.set' _ _ (shlOr _ _ HST.out.1 (hb _ (by simp))) ?_
        rw [← HST.out.2]
        simp [hkL]
      · exact h2.other (by simp) _
      · exact hf.setCell (.inl (by simp; omega)) _
    · have : k = 64 := by omega
      subst this
      have hs1 : (Sang.prog.info? 26).map (·.size) = some (limbs W64 8 (beY 8 L 64)).length := by rw [limbs_length]; exact siz26
      have hs2 : (Sang.prog.info? 26).map (·.size) = some (List.replicate 8 0).length := siz26
      have hln : (limbs W64 8 (beY 8 L 64)).length = (List.replicate 8 0).length := by rw [limbs_length]; rfl
      go_wp2_with (first
        | ((with_reducible refine wl_load 26 (.tmp 3) (w.heap.size + 1 + 1) .u64 26 (limbs W64 8 (beY 8 L 64)) ?_ h1 (.array 8 24) und26 ?_ hs1 ?_); rfl; rfl)
        | ((with_reducible refine wl_store 26 (.tmp 2) (.tmp 25) (w.heap.size + 1) .u64 26 (List.replicate 8 0) (limbs W64 8 (beY 8 L 64)) ?_ ?_ h2 hln hs2 ?_); rfl; rfl))
      have e : beY 8 L 64 = be L := beY_all 8 L hL
      rw [e] at *
      refine bodyPost_ret (results_cell Sang.results7 rfl (IB.setRow h2.lt _ _ _) _ und26 rfl hs1) rfl ⟨rfl, ?_⟩
      exact hf.setRow (.inl (by omega)) _ _ _
end Go.Proofs.Ygcsan
