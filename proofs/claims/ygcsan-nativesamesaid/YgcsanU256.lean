/-
  Package u256: Limbs, Mul1024, ShiftUp, ShiftDown.
-/
import Derived.Test.YgcsanWide
namespace Go.Proofs.Ygcsan
open Go.RowKit
set_option linter.unusedSimpArgs false
set_option linter.unusedVariables false

set_option maxRecDepth 10000 in
set_option maxHeartbeats 400000 in
theorem limbs_any (b : Nat) (t : TypeId) (L : List Nat) (w : World) (h : IB w b .u64 t L) (hL : L.length = 8) :
    Calls Sang.prog 32 #[.pointer (some ⟨b, 0, none⟩)] w fun e w' => e = .returned (.int .u8 (lcF L 8 : Nat)) ∧ w' = w := by
  go_enter Sang.func32, Sang.ntmps32
  go_wp2
  go_loop [3] (fun i => ∃ k : Nat, k ≤ 8 ∧ i = .int .u8 k ∧ Hid (lcF L k = lcF L 8)) (fun i => (intOf i).toNat)
  case atStart => exact ⟨8, Nat.le_refl _, rfl, rfl⟩
  case round =>
    obtain ⟨k, hk, rfl, HT⟩ := hrel
    cases k with
    | zero =>
      go_wp2
      go_ret
      refine ⟨?_, rfl⟩
      rw [← HT.out]
      rfl
    | succ k =>
      obtain ⟨d, HD, hcell⟩ : ∃ d : Nat, Hid (L.getD k 0 = d) ∧ w.cell? ⟨b, k, none⟩ = some (.int .u64 (d : Int)) := ⟨_, rfl, h.cell k (by omega)⟩
      by_cases hz : d = 0
      · subst hz
        go_wp2
        refine ⟨⟨k, by omega, rfl, ?_⟩, by simp [intOf]⟩
        unfold Hid
        rw [← HT.out, lcF, if_pos HD.out]
      · have hz' : ((d : Int) == 0) = false := by simpa using hz
        have HZ : Hid (d ≠ 0) := hz
        clear hz
        go_wp2
        go_ret
        refine ⟨?_, rfl⟩
        rw [← HT.out, lcF, if_neg (by rw [HD.out]; exact HZ.out)]
        rfl

theorem und28 : Sang.prog.underlying 28 = some (.array 16 24) := by kernel_rfl
theorem siz28 : (Sang.prog.info? 28).map (·.size) = some 16 := by kernel_rfl

theorem IB.drewN {w : World} {b : Nat} {k : IntKind} {t : TypeId} {L : List Nat} (h : IB w b k t L) (n : Nat) : IB (w.drewN n) b k t L := h

theorem getD_replicate (n p : Nat) : (List.replicate n 0).getD p 0 = 0 := by
  by_cases h : p < n <;> simp [List.getD, List.getElem?_replicate, h]

theorem ma_step (L : List Nat) (k j c d e g v A : Nat) (hp : k + j < L.length) (HG : L.getD (k + j) 0 = g) (HV : val W64 L + c * W64 ^ (k + j) = A + d * v * W64 ^ k) :
    val W64 (L.set (k + j) (maLo d e g c)) + maHi d e g c * W64 ^ (k + (j + 1)) = A + d * (v + e * W64 ^ j) * W64 ^ k := by
  have := mul_step W64 L k j c d e g v A hp HG HV
  rw [show c + (d * e + g) = d * e + g + c by omega] at this
  exact this

set_option maxRecDepth 10000 in
set_option maxHeartbeats 2000000 in
theorem mul1024_any (ba bb : Nat) (ta tb : TypeId) (A B : List Nat) (w : World) (hA : IB w ba .u64 ta A) (hB : IB w bb .u64 tb B) (lA : A.length = 8) (lB : B.length = 8) (dA : Dg W64 A) (dB : Dg W64 B) :
    Calls Sang.prog 8 #[.pointer (some ⟨ba, 0, none⟩), .pointer (some ⟨bb, 0, none⟩)] w fun e w' => e = .returned (.agg (ints .u64 (limbs W64 16 (val W64 A * val W64 B)))) ∧ Fr w.heap.size no w w' := by
  generalize hy : val W64 B = y at *
  have HY : Hid (val W64 B = y) := hy
  have HlA : Hid (A.length = 8) := lA
  have HlB : Hid (B.length = 8) := lB
  clear hy
  go_enter Sang.func8, Sang.ntmps8
  go_wp2
  go_loopw [14] (fun i wr => ∃ (k : Nat) (L : List Nat), k ≤ 8 ∧ i = .int .i64 k ∧ IB wr (w.heap.size + 1) .u64 28 L ∧ IB wr w.heap.size .u64 28 (List.replicate 16 0) ∧ L.length = 16 ∧ Dg W64 L ∧ Hid (val W64 L = val W64 (A.take k) * y) ∧ Hid (∀ p, k + 8 ≤ p → L.getD p 0 = 0) ∧ Fr w.heap.size no w wr) (fun i _ => 8 - (intOf i).toNat)
  case atStart =>
    refine ⟨0, List.replicate 16 0, by omega, rfl, ?_, ?_, by simp, Dg.replicate W64_pos _, ?_, ?_, ((Fr.refl _ _ _).alloc (Nat.le_refl _) _).alloc (by simp) _⟩
    · refine IB.newAt ?_ ?_
      · simp
      · rfl
    · refine IB.alloc (IB.newAt ?_ ?_) _
      · rfl
      · rfl
    · unfold Hid; rw [val_replicate]; simp [val]
    · intro p _; exact getD_replicate 16 p
  case round =>
    obtain ⟨k, L, hk, rfl, hL, hR, hLl, hLd, HV, HZ, hf⟩ := hrel
    by_cases hkn : k < 8
    · obtain ⟨d, HD, hcd⟩ : ∃ d : Nat, Hid (A.getD k 0 = d) ∧ wr.cell? ⟨ba, k, none⟩ = some (.int .u64 (d : Int)) := ⟨_, rfl, (hA.fr hf hA.lt (fun x => x)).cell k (by omega)⟩
      have hdW : d < W64 := by rw [← HD.out]; exact dA.getD W64_pos k
      have hk8 : decide ((k : Int) < 8) = true := by simp; omega
      go_wp2
      go_quiet (fail)
      go_wp2
      go_loopw [21, 8] (fun i cv wr' => ∃ (j c : Nat) (L' : List Nat), j ≤ 8 ∧ i = .int .i64 j ∧ cv = .int .u64 c ∧ c < W64 ∧ IB wr' (w.heap.size + 1) .u64 28 L' ∧ IB wr' w.heap.size .u64 28 (List.replicate 16 0) ∧ L'.length = 16 ∧ Dg W64 L' ∧ Hid (val W64 L' + c * W64 ^ (k + j) = val W64 (A.take k) * y + d * val W64 (B.take j) * W64 ^ k) ∧ Hid (∀ p, k + 8 ≤ p → L'.getD p 0 = 0) ∧ Fr w.heap.size no w wr') (fun i _ _ => 8 - (intOf i).toNat)
      case atStart =>
        refine ⟨0, 0, L, by omega, rfl, rfl, W64_pos, hL.drewN _, hR.drewN _, hLl, hLd, ?_, HZ, hf.drewN _⟩
        unfold Hid; rw [HV.out]; simp [val]
      case round =>
        obtain ⟨j, c, L', hj, rfl, rfl, hc, hL', hR', hLl', hLd', HV', HZ', hf'⟩ := hrel
        by_cases hjn : j < 8
        · obtain ⟨e, HE, hce⟩ : ∃ e : Nat, Hid (B.getD j 0 = e) ∧ wr.cell? ⟨bb, j, none⟩ = some (.int .u64 (e : Int)) := ⟨_, rfl, (hB.fr hf' hB.lt (fun x => x)).cell j (by omega)⟩
          have heW : e < W64 := by rw [← HE.out]; exact dB.getD W64_pos j
          obtain ⟨g, HG, hcg⟩ : ∃ g : Nat, Hid (L'.getD (k + j) 0 = g) ∧ wr.cell? ⟨w.heap.size + 1, k + j, none⟩ = some (.int .u64 (g : Int)) := ⟨_, rfl, hL'.cell (k + j) (by omega)⟩
          have hzg := hL'.unfrozen (k + j)
          have hgW : g < W64 := by rw [← HG.out]; exact hLd'.getD W64_pos _
          have hb1 : (k : Int) + (j : Int) < 16 := by omega
          have hj8 : decide ((j : Int) < 8) = true := by simp; omega
          go_wp2
          go_quiet (fail)
          go_wp2_with fail
          refine (mulAdd_any d e g c hdW heW hgW hc _).mono ?_
          rintro e' w1 ⟨rfl, rfl⟩
          go_wp2_with fail
          refine ⟨⟨j + 1, maHi d e g c, L'.set (k + j) (maLo d e g c), by omega, by go_num, rfl, maHi_lt _ _ _ _ hdW heW hgW hc, ?_, ?_, by simpa using hLl', hLd'.set _ _ (maLo_lt _ _ _ _), ?_, ?_, ?_⟩, by simp [intOf]; omega⟩
          · exact (hL'.drewN _).set' (k + j) _ rfl rfl
          · exact (hR'.drewN _).other (by simp) _
          · unfold Hid
            rw [val_take_succ W64 B j (by omega), HE.out]
            exact ma_step L' k j c d e g _ _ (by omega) HG.out HV'.out
          · intro p hp
            have := HZ'.out p hp
            simp only [List.getD, List.getElem?_set] at this ⊢
            rw [if_neg (by omega)]
            exact this
          · exact (hf'.drewN _).setCell (.inl (by simp)) _
        · have : j = 8 := by omega
          subst this
          have hcz := hL'.cell (k + 8) (by omega)
          have hzz := hL'.unfrozen (k + 8)
          have hb1 : (k : Int) + 8 < 16 := by omega
          go_wp2
          refine ⟨⟨k + 1, L'.set (k + 8) c, by omega, by go_num, hL'.set (k + 8) c, hR'.other (by simp) _, by simpa using hLl', hLd'.set _ _ hc, ?_, ?_, hf'.setCell (.inl (by simp)) _⟩, by simp [intOf]; omega⟩
          · unfold Hid
            refine mul_last W64 L' (k + 8) c _ (by omega) (HZ'.out _ (Nat.le_refl _)) ?_
            rw [HV'.out, val_take_succ W64 A k (by omega), HD.out, show B.take 8 = B from List.take_of_length_le (by omega), HY.out, Nat.add_mul]
            congr 1
            rw [Nat.mul_assoc, Nat.mul_comm y, ← Nat.mul_assoc]
          · intro p hp
            have := HZ'.out p (by omega)
            simp only [List.getD, List.getElem?_set] at this ⊢
            rw [if_neg (by omega)]
            exact this
    · have : k = 8 := by omega
      subst this
      have hs1 : (Sang.prog.info? 28).map (·.size) = some L.length := by rw [hLl]; exact siz28
      have hs2 : (Sang.prog.info? 28).map (·.size) = some (List.replicate 16 0).length := siz28
      have hln : L.length = (List.replicate 16 0).length := by rw [hLl]; rfl
      go_wp2_with (first
        | ((with_reducible refine wl_load 28 (.tmp 5) (w.heap.size + 1) .u64 28 L ?_ hL (.array 16 24) und28 ?_ hs1 ?_); rfl; rfl)
        | ((with_reducible refine wl_store 28 (.tmp 4) (.tmp 51) w.heap.size .u64 28 (List.replicate 16 0) L ?_ ?_ hR hln hs2 ?_); rfl; rfl))
      have e : L = limbs W64 16 (val W64 A * y) := by
        refine eq_limbs hLd 16 _ hLl ?_
        rw [HV.out, List.take_of_length_le (by omega)]
      subst e
      refine bodyPost_ret (results_cell Sang.results8 rfl (IB.setRow hR.lt _ _ _) _ und28 rfl hs1) rfl ⟨rfl, ?_⟩
      exact hf.setRow (.inl (Nat.le_refl _)) _ _ _
end Go.Proofs.Ygcsan
