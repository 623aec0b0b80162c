/-
  Package u256: midHolds, WideMid, round, RoundWide.
-/
import Derived.Test.YgcsanRound
import Derived.Deep.RegionHeld3
namespace Go.Proofs.Ygcsan
open Go.RowKit
set_option linter.unusedSimpArgs false
set_option linter.unusedVariables false

theorem top_shift (t : Nat) (h1 : H63 ≤ t) (h2 : t < W64) : (t : Int) / 9223372036854775808 = 1 := by
  unfold H63 at h1
  rw [W64_eq] at h2
  omega

set_option maxRecDepth 10000 in
set_option maxHeartbeats 4000000 in
theorem midHolds_any (bu bv n j : Nat) (tu tv : TypeId) (L V : List Nat) (w : World) (hL : IB w bu .u64 tu L) (hV : IB w bv .u64 tv V) (lL : L.length = 17) (lV : V.length = 8) (dL : Dg W64 L) (dV : Dg W64 V)
    (hn1 : 2 ≤ n) (hn2 : n ≤ 8) (hj : j + n ≤ 16) (htop : H63 ≤ V.getD (n - 1) 0) (hz : ∀ p, j + n < p → L.getD p 0 = 0) (hlt : val W64 ((L.drop (j + 1)).take n) < val W64 (V.take n)) :
    Calls Sang.prog 110 #[.slice (some ⟨bu, 0, none⟩) 17 17, .slice (some ⟨bv, 0, none⟩) 8 8, .int .u8 (n : Int), .int .u8 (j : Int)] w fun e w' => e = .returned (.bool true) ∧ Fr w.heap.size no w w' := by
  have HZ : Hid (∀ p, j + n < p → L.getD p 0 = 0) := hz
  obtain ⟨t, HT, hct⟩ : ∃ t : Nat, Hid (V.getD (n - 1) 0 = t) ∧ w.cell? ⟨bv, n - 1, none⟩ = some (.int .u64 (t : Int)) := ⟨_, rfl, hV.cell (n - 1) (by omega)⟩
  have htd := top_shift t (by rw [← HT.out]; exact htop) (by rw [← HT.out]; exact dV.getD W64_pos _)
  clear hz htop
  generalize hS : (L.drop (j + 1)).take n = S at *
  generalize hTT : V.take n = T at *
  have lS : S.length = n := by rw [← hS]; simp; omega
  have lT : T.length = n := by rw [← hTT]; simp; omega
  have dS : Dg W64 S := by rw [← hS]; exact (dL.drop _).take _
  have dT : Dg W64 T := by rw [← hTT]; exact dV.take _
  have HSg : Hid (∀ p, p < n → S.getD p 0 = L.getD (j + 1 + p) 0) := by
    intro p hp; rw [← hS]; simp only [List.getD]; rw [List.getElem?_take, if_pos hp, List.getElem?_drop]
  have HTg : Hid (∀ p, p < n → T.getD p 0 = V.getD p 0) := by
    intro p hp; rw [← hTT]; simp only [List.getD]; rw [List.getElem?_take, if_pos hp]
  have HLt : Hid (val W64 S < val W64 T) := hlt
  have HlS : Hid (S.length = n ∧ T.length = n) := ⟨lS, lT⟩
  have HLl : Hid (L.length = 17 ∧ V.length = 8) := ⟨lL, lV⟩
  clear hS hTT hlt lS lT lL lV
  go_enter Sang.func110, Sang.ntmps110
  go_wp2
  go_loop [9] (fun iv => ∃ i : Nat, j + n + 1 ≤ i ∧ i ≤ 17 ∧ iv = .int .i64 i) (fun iv => 17 - (intOf iv).toNat)
  case atStart => exact ⟨j + n + 1, by omega, by omega, by go_num⟩
  case round =>
    obtain ⟨i, hi1, hi2, rfl⟩ := hrel
    by_cases hi : i < 17
    · have hcell : w.cell? ⟨bu, i, none⟩ = some (.int .u64 0) := by
        have := hL.cell i (by have := HLl.out; omega)
        rw [HZ.out i (by omega)] at this
        exact this
      go_wp2
      exact ⟨⟨i + 1, by omega, by omega, by go_num⟩, by simp [intOf]; omega⟩
    · have : i = 17 := by omega
      subst this
      go_wp2
      go_loopw [10] (fun iv wr => ∃ i : Nat, i ≤ n ∧ iv = .int .u8 i ∧ Hid (S.drop i = T.drop i) ∧ Fr w.heap.size no w wr) (fun iv _ => (intOf iv).toNat)
      case atStart =>
        refine ⟨n, Nat.le_refl _, rfl, ?_, Fr.refl _ _ _⟩
        have := HlS.out
        unfold Hid
        rw [List.drop_of_length_le (by omega), List.drop_of_length_le (by omega)]
      case round =>
        obtain ⟨i, hi, rfl, HE, hf⟩ := hrel
        cases i with
        | zero =>
          exfalso
          have h1 : S = T := by simpa using HE.out
          have h2 := HLt.out
          rw [h1] at h2
          omega
        | succ i =>
          obtain ⟨a, HA, hca⟩ : ∃ a : Nat, Hid (L.getD (j + (i + 1)) 0 = a) ∧ wr.cell? ⟨bu, j + (i + 1), none⟩ = some (.int .u64 (a : Int)) := ⟨_, rfl, (hL.fr hf hL.lt (fun x => x)).cell _ (by have := HLl.out; omega)⟩
          obtain ⟨b, HB, hcb⟩ : ∃ b : Nat, Hid (V.getD i 0 = b) ∧ wr.cell? ⟨bv, i, none⟩ = some (.int .u64 (b : Int)) := ⟨_, rfl, (hV.fr hf hV.lt (fun x => x)).cell _ (by have := HLl.out; omega)⟩
          have HAS : Hid (S.getD i 0 = a) := by unfold Hid; rw [HSg.out i (by omega), ← HA.out]; congr 1; omega
          have HBT : Hid (T.getD i 0 = b) := by unfold Hid; rw [HTg.out i (by omega), HB.out]
          have hb1 : (j : Int) + ((i : Int) + 1) < 17 := by omega
          have hb2 : (i : Int) < 8 := by omega
          go_wp2
          go_quiet (fail)
          by_cases hab : a = b
          · subst hab
            go_wp2
            refine ⟨⟨i, by omega, rfl, ?_, hf.drewN _⟩, by simp [intOf]⟩
            have := HlS.out
            unfold Hid
            rw [List.drop_eq_getElem_cons (show i < S.length by omega), List.drop_eq_getElem_cons (show i < T.length by omega), HE.out]
            have e1 : S.getD i 0 = S[i]'(by omega) := by simp [List.getD, show i < S.length by omega]
            have e2 : T.getD i 0 = T[i]'(by omega) := by simp [List.getD, show i < T.length by omega]
            rw [← e1, ← e2, HAS.out, HBT.out]
          · have hne : ((a : Int) != (b : Int)) = true := by simp; omega
            have hltab : a < b := by
              rcases Nat.lt_or_ge a b with h | h
              · exact h
              · exfalso
                have := HlS.out
                have h3 := val_lt_top dT (by omega) i (by omega) HE.out.symm (by rw [HAS.out, HBT.out]; omega)
                have := HLt.out
                omega
            have hltI : (a : Int) < (b : Int) := by omega
            clear hab
            go_wp2
            go_quiet (fail)
            go_wp2
            go_ret
            exact ⟨rfl, (hf.drewN _).drewN _⟩
end Go.Proofs.Ygcsan
