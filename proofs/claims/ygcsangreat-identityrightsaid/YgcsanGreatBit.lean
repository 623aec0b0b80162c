/-
  Package nat: Bit; package yp: bits.
-/
import Derived.Test.YgcsanGreatAdd
import Derived.Test.YgcsanGreatPlainF
namespace Go.Proofs.YgcsanGreat
open Go.RowKit
set_option linter.unusedSimpArgs false
set_option linter.unusedVariables false

set_option maxRecDepth 10000 in
set_option maxHeartbeats 400000 in
theorem bit_any (v : Value) (l : List Nat) (n i : Nat) (w : World) (h : Sl w .u8 v l) (hd : Dg 256 l) (hn : val 256 l = n) (hi : i < 65536) :
    Calls Sang.prog 199 #[v, .int .u16 (i : Int)] w fun e w' => e = .returned (.bool (decide (n / 2 ^ i % 2 = 1))) ∧ w' = w := by
  obtain ⟨a, cap, rfl, hl, hm, hc⟩ := h
  have HC : Hid (l = [] ∨ ∃ b off, a = some ⟨b, off, none⟩ ∧ ∀ i, i < l.length → w.cell? ⟨b, off + i, none⟩ = some (.int .u8 ((l.getD i 0 : Nat) : Int))) := hc
  have HN : Hid (val 256 l = n) := hn
  clear hc hn
  unfold maxLen at hm
  have hbit := bit_of_digit hd i
  rw [HN.out] at hbit
  have HB : Hid (l.getD (i / 8) 0 / 2 ^ (i % 8) % 2 = n / 2 ^ i % 2) := hbit
  clear hbit
  by_cases hin : i / 8 < l.length
  · rcases HC.out with h0 | ⟨b, off, rfl, hcs⟩
    · rw [h0] at hin; simp at hin
    obtain ⟨d, HD, hcd⟩ := Sl.at (n := 0) (cap := 0) hcs (i / 8) hin
    have hd256 : d < 256 := by rw [← HD.out]; exact hd.getD (by decide) _
    clear hcs
    have hb : Hid (bits .and .u8 ((d : Int) / 2 ^ (i % 8)) 1 = ((n / 2 ^ i % 2 : Nat) : Int)) := by
      unfold Hid
      have e : (d : Int) / 2 ^ (i % 8) = ((d / 2 ^ (i % 8) : Nat) : Int) := by simp
      rw [e, and1_nat _ (Nat.lt_of_le_of_lt (Nat.div_le_self _ _) hd256), ← HB.out, HD.out]
    go_enter Sang.func199, Sang.ntmps199
    go_wp2_with fail
    go_ret
    refine ⟨?_, rfl⟩
    show Ending.returned (Value.bool (bits BinOp.and IntKind.u8 ((d : Int) / 2 ^ (i % 8)) 1 == 1)) = _
    rw [hb.out]
    congr 2
    generalize n / 2 ^ i % 2 = p
    rw [Bool.eq_iff_iff]
    simp
    omega
  · go_enter Sang.func199, Sang.ntmps199
    go_wp2_with fail
    go_ret
    refine ⟨?_, rfl⟩
    have h1 := HB.out
    rw [show l.getD (i / 8) 0 = 0 by simp [List.getD, show l.length ≤ i / 8 by omega], Nat.zero_div, Nat.zero_mod] at h1
    rw [← h1]
    rfl

set_option maxRecDepth 10000 in
set_option maxHeartbeats 400000 in
theorem bits_any (v : Value) (l : List Nat) (n : Nat) (w : World) (h : Sl w .u8 v l) (hd : Dg 256 l) (hn : val 256 l = n) (hsm : l.length ≤ 8192) :
    Calls Sang.prog 179 #[v] w fun e w' => e = .returned (.int .u64 (bitsF n (8 * l.length) : Nat)) ∧ w' = w := by
  have HBit : Hid (∀ (w : World) (i : Nat), Sl w .u8 v l → i < 65536 → Calls Sang.prog 199 #[v, .int .u16 (i : Int)] w fun e w' => e = .returned (.bool (decide (n / 2 ^ i % 2 = 1))) ∧ w' = w) := fun w i h hi => bit_any v l n i w h hd hn hi
  have HS : Hid (Sl w .u8 v l) := h
  obtain ⟨a, cap, rfl, hl, hm, hc⟩ := h
  clear hc
  unfold maxLen at hm
  go_enter Sang.func179, Sang.ntmps179
  go_wp2_with fail
  go_loop [3] (fun i => ∃ k : Nat, k ≤ 8 * l.length ∧ i = .int .i64 k ∧ Hid (bitsF n (8 * l.length) = bitsF n k)) (fun i => (intOf i).toNat)
  case atStart => exact ⟨8 * l.length, Nat.le_refl _, by simp, rfl⟩
  case round =>
    obtain ⟨k, hk, rfl, HT⟩ := hrel
    cases k with
    | zero =>
      go_wp2_with fail
      go_ret
      exact ⟨by rw [HT.out]; rfl, rfl⟩
    | succ k =>
      have e1 : ((k + 1 : Nat) : Int) - 1 = (k : Int) := by omega
      go_wp2_with fail
      refine (HBit.out _ k HS.out (by omega)).mono ?_
      rintro e w1 ⟨rfl, rfl⟩
      by_cases hb : n / 2 ^ k % 2 = 1
      · have hb' : decide (n / 2 ^ k % 2 = 1) = true := by simpa using hb
        have HB : Hid (n / 2 ^ k % 2 = 1) := hb
        rw [hb']
        clear hb hb'
        go_wp2_with fail
        go_ret
        refine ⟨?_, rfl⟩
        rw [HT.out]
        unfold bitsF
        rw [if_pos HB.out]
        rfl
      · have hb' : decide (n / 2 ^ k % 2 = 1) = false := by simpa using hb
        have HB : Hid (¬ n / 2 ^ k % 2 = 1) := hb
        rw [hb']
        clear hb hb'
        go_wp2_with fail
        refine ⟨⟨k, by omega, by simp, ?_⟩, by simp [intOf]⟩
        unfold Hid
        rw [HT.out]
        conv => lhs; unfold bitsF
        rw [if_neg HB.out]
end Go.Proofs.YgcsanGreat
