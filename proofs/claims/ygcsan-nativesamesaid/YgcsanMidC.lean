/-
  Package u256: RoundWide.
-/
import Derived.Test.YgcsanMidB
namespace Go.Proofs.Ygcsan
open Go.RowKit
set_option linter.unusedSimpArgs false
set_option linter.unusedVariables false

theorem val_take_lc {V : List Nat} {n : Nat} (lV : V.length = 8) (hlc : lcF V 8 = n) : val W64 (V.take n) = val W64 V := by
  have hn : n ≤ 8 := by rw [← hlc]; exact lcF_le V 8
  have h1 := val_split W64 V n (by omega)
  have h3 : val W64 (V.drop n) = 0 := by
    apply val_zeros
    intro d hd
    obtain ⟨i, hi, rfl⟩ := List.getElem_of_mem hd
    simp only [List.length_drop] at hi
    have := lcF_zero V 8 (n + i) (by omega) (by omega)
    rw [List.getElem_drop]
    simpa [List.getD, show n + i < V.length by omega] using this
  rw [h1, h3, Nat.mul_zero, Nat.add_zero]

theorem mid_lt {L V : List Nat} {n j : Nat} (hVn : val W64 (V.take n) = val W64 V) (hX : val W64 L < val W64 V * W64 ^ (j + 1)) (hj : j + 1 ≤ L.length) :
    val W64 ((L.drop (j + 1)).take n) < val W64 (V.take n) := by
  have h1 := val_split W64 L (j + 1) hj
  have hp : 0 < W64 ^ (j + 1) := Nat.pow_pos W64_pos
  have h2 : val W64 ((L.drop (j + 1)).take n) ≤ val W64 (L.drop (j + 1)) := by
    rcases Nat.lt_or_ge n (L.drop (j + 1)).length with h | h
    · have := val_split W64 (L.drop (j + 1)) n (by omega)
      omega
    · rw [List.take_of_length_le h]; exact Nat.le_refl _
  have h3 : val W64 (L.drop (j + 1)) * W64 ^ (j + 1) ≤ val W64 L := by
    rw [Nat.mul_comm]; omega
  have h4 : val W64 (L.drop (j + 1)) < val W64 V := Nat.lt_of_mul_lt_mul_right (Nat.lt_of_le_of_lt h3 hX)
  rw [hVn]
  omega

set_option maxRecDepth 10000 in
set_option maxHeartbeats 4000000 in
theorem roundWide_any (bu bv n j : Nat) (tu tv : TypeId) (L V : List Nat) (w : World) (hL : IB w bu .u64 tu L) (hV : IB w bv .u64 tv V) (hne : bv ≠ bu) (lL : L.length = 17) (lV : V.length = 8) (dL : Dg W64 L) (dV : Dg W64 V)
    (hn1 : 2 ≤ n) (hn2 : n ≤ 8) (hj : j + n ≤ 16) (hlc : lcF V 8 = n) (htop : H63 ≤ V.getD (n - 1) 0) (hX : val W64 L < val W64 V * W64 ^ (j + 1)) :
    Calls Sang.prog 36 #[.pointer (some ⟨bu, 0, none⟩), .pointer (some ⟨bv, 0, none⟩), .int .u8 (n : Int), .int .u8 (j : Int)] w fun e w' => (∃ q : Nat, e = .returned (.tuple #[.int .u64 (q : Int), .int .u8 (rdFix L V n j : Nat), .bool (rdBack L V n j)])) ∧
      IB w' bu .u64 tu (limbs W64 17 (val W64 L % (val W64 V * W64 ^ j))) ∧ Fr w.heap.size (fun k => k = bu) w w' := by
  have hVn := val_take_lc lV hlc
  have hVlt : val W64 V < W64 ^ n := by
    rw [← hVn]
    have := val_lt (dV.take n)
    rwa [show (V.take n).length = n by simp; omega] at this
  obtain ⟨-, -, -, f4, -⟩ := rd_facts (n := n) (o := j) dL dV hn1 hVlt htop hX
  have hmid := wideMid_any bu bv n j tu tv L V w hL hV lL lV dL dV hn1 hn2 hj hlc htop f4 (mid_lt hVn hX (by omega))
  have hrd : ∀ w1, Fr w.heap.size no w w1 → Calls Sang.prog 80 #[.slice (some ⟨bu, j, none⟩) (n + 1) (n + 1), .slice (some ⟨bv, 0, none⟩) n n] w1 fun e w' => (∃ q : Nat, e = .returned (.tuple #[.int .u64 (q : Int), .int .u8 (rdFix L V n j : Nat), .bool (rdBack L V n j)])) ∧
      IB w' bu .u64 tu (limbs W64 17 (val W64 L % (val W64 V * W64 ^ j))) ∧ Fr w1.heap.size (fun k => k = bu) w1 w' :=
    fun w1 hf => round_any bu bv n j tu tv L V w1 (hL.fr hf hL.lt (fun x => x)) (hV.fr hf hV.lt (fun x => x)) hne lL lV dL dV hn1 hn2 hj hVn htop hX
  have HR : Hid (∀ w1, Fr w.heap.size no w w1 → Calls Sang.prog 80 #[.slice (some ⟨bu, j, none⟩) (n + 1) (n + 1), .slice (some ⟨bv, 0, none⟩) n n] w1 fun e w' => (∃ q : Nat, e = .returned (.tuple #[.int .u64 (q : Int), .int .u8 (rdFix L V n j : Nat), .bool (rdBack L V n j)])) ∧
      IB w' bu .u64 tu (limbs W64 17 (val W64 L % (val W64 V * W64 ^ j))) ∧ Fr w1.heap.size (fun k => k = bu) w1 w') := hrd
  have HM : Hid (Calls Sang.prog 79 #[.pointer (some ⟨bu, 0, none⟩), .pointer (some ⟨bv, 0, none⟩), .int .u8 (n : Int), .int .u8 (j : Int)] w fun e w' => e = .returned (.bool true) ∧ Fr w.heap.size no w w') := hmid
  clear hrd hmid f4 hVlt hVn hX htop hlc dL dV hL hV
  generalize rdFix L V n j = fx at *
  generalize rdBack L V n j = bk at *
  generalize limbs W64 17 (val W64 L % (val W64 V * W64 ^ j)) = R at *
  clear lL lV
  obtain ⟨m1, hm1⟩ : ∃ m, m = j + n := ⟨_, rfl⟩
  obtain ⟨m, hm⟩ : ∃ m, m = j + n + 1 := ⟨_, rfl⟩
  have e1 : IntKind.u8.wrap ((j : Int) + (n : Int)) = (m1 : Int) := by rw [IntKind.wrap_u8]; omega
  have e2 : IntKind.u8.wrap ((m1 : Int) + 1) = (m : Int) := by rw [IntKind.wrap_u8]; omega
  have hjm : j ≤ m := by omega
  have hm17 : m ≤ 17 := by omega
  have em : m - j = n + 1 := by omega
  clear hm1 hm
  have i1 : (j : Int) ≤ (m : Int) := by omega
  have i2 : (m : Int) ≤ 17 := by omega
  have i3 : ¬ m = j := by omega
  have hs : ∀ w, (Instr.sliceAt 95 (.pointer (some ⟨bu, 0, none⟩)) (some (.int .u8 (j : Int))) (some (.int .u8 (m : Int))) (some (.int .u8 (m : Int)))).run Sang.prog w = .ok (.slice (some ⟨bu, j, none⟩) (n + 1) (n + 1)) w := by
    intro w
    go_simp
  have i4 : (n : Int) ≤ 8 := by omega
  have i5 : ¬ n = 0 := by omega
  have hs2 : ∀ w, (Instr.sliceAt 26 (.pointer (some ⟨bv, 0, none⟩)) none (some (.int .u8 (n : Int))) (some (.int .u8 (n : Int)))).run Sang.prog w = .ok (.slice (some ⟨bv, 0, none⟩) n n) w := by
    intro w
    go_simp
  go_enter Sang.func36, Sang.ntmps36
  go_wp2_with fail
  refine HM.out.mono ?_
  rintro e w1 ⟨rfl, hf1⟩
  go_wp2_with fail
  go_region_with (go_at_call 80; refine (HR.out _ hf1.drew).mono ?_; rintro e w' ⟨⟨q, rfl⟩, hR, hf⟩)
  go_wp2
  go_ret3
  exact ⟨⟨q, rfl⟩, hR, ((Fr.refl w.heap.size (fun k => k = bu) w).step hf1 (Nat.le_refl _) (fun _ _ x => False.elim x)).drew.step hf hf1.size (fun _ _ x => x)⟩
