/-
  Package u256: ShiftUp, ShiftDown.
-/
import Derived.Test.YgcsanU256
import Derived.Test.YgcsanPlainB
namespace Go.Proofs.Ygcsan
open Go.RowKit
set_option linter.unusedSimpArgs false
set_option linter.unusedVariables false

theorem upOr (d c s : Nat) (hs : s < 64) (hc : c < 2 ^ s) : bits .or .u64 (IntKind.u64.wrap ((d : Int) * 2 ^ s)) (c : Int) = ((d * 2 ^ s % W64 + c : Nat) : Int) := by
  have e : IntKind.u64.wrap ((d : Int) * 2 ^ s) = ((d * 2 ^ s % W64 : Nat) : Int) := by
    have e1 : ((2 : Int) ^ s) = ((2 ^ s : Nat) : Int) := by simp
    rw [e1, ← Int.natCast_mul, IntKind.wrap_u64, W64_eq]
    omega
  have h1 : 2 ^ s ≤ 2 ^ 63 := Nat.pow_le_pow_right (by decide) (by omega)
  have h2 := Nat.mod_lt (d * 2 ^ s) W64_pos
  rw [e, u64_or_nat _ _ (by rw [← W64_eq]; exact h2) (by omega), nat_join s _ _ (shl_low d s hs) hc]

set_option maxRecDepth 10000 in
set_option maxHeartbeats 1000000 in
theorem shiftUp_any (b cap : Nat) (t : TypeId) (L : List Nat) (s : Nat) (w : World) (h : IB w b .u64 t L) (hd : Dg W64 L) (hs : s < 64) (hc : L.length ≤ cap) (hm : cap ≤ maxLen) :
    Calls Sang.prog 35 #[.slice (some ⟨b, 0, none⟩) L.length cap, .int .u8 (s : Int)] w fun e w' => e = .returned (.tuple #[]) ∧ IB w' b .u64 t (limbs W64 L.length (val W64 L * 2 ^ s)) ∧ Fr w.heap.size (fun k => k = b) w w' := by
  unfold maxLen at hm
  go_enter Sang.func35, Sang.ntmps35
  go_wp2
  go_loopw [11, 4] (fun iv cv wr => ∃ (i c : Nat) (L' : List Nat), i ≤ L.length ∧ iv = .int .i64 i ∧ cv = .int .u64 c ∧ Hid (c < 2 ^ s) ∧ IB wr b .u64 t L' ∧ L'.length = L.length ∧ Dg W64 L' ∧
    Hid (val W64 L' + c * W64 ^ i + val W64 (L.take i) = val W64 L + val W64 (L.take i) * 2 ^ s) ∧ Hid (∀ p, i ≤ p → L'.getD p 0 = L.getD p 0) ∧ Fr w.heap.size (fun k => k = b) w wr) (fun i _ _ => L.length - (intOf i).toNat)
  case atStart => exact ⟨0, 0, L, by omega, rfl, rfl, Nat.two_pow_pos s, h, rfl, hd, by unfold Hid; simp [val], fun _ _ => rfl, Fr.refl _ _ _⟩
  case round =>
    obtain ⟨i, c, L', hi, rfl, rfl, HC, hL', hLl', hLd', HV', HP, hf⟩ := hrel
    by_cases hin : i < L.length
    · obtain ⟨d, HD, hcd⟩ : ∃ d : Nat, Hid (L'.getD i 0 = d) ∧ wr.cell? ⟨b, i, none⟩ = some (.int .u64 (d : Int)) := ⟨_, rfl, hL'.cell i (by omega)⟩
      have hzd := hL'.unfrozen i
      have HDW : Hid (d < W64) := by unfold Hid; rw [← HD.out]; exact hLd'.getD W64_pos _
      go_wp2
      refine ⟨⟨i + 1, d / 2 ^ (64 - s), L'.set i (d * 2 ^ s % W64 + c), by omega, by go_num, by rw [shr_nat], carry_lt d s hs HDW.out, hL'.set' i _ (upOr d c s hs HC.out) rfl, by simpa using hLl', hLd'.set _ _ (up_limb_lt d s c hs HC.out), ?_, ?_, hf.setCell (.inr rfl) _⟩, by simp [intOf]; omega⟩
      · unfold Hid
        rw [val_take_any, ← HP.out i (Nat.le_refl _), HD.out]
        have h1 := up_step L' s i c d _ hs (by omega) HD.out rfl
        have h2 := HV'.out
        have h3 := Nat.add_mul (val W64 (L.take i)) (d * W64 ^ i) (2 ^ s)
        have h4 : d * W64 ^ i * 2 ^ s = d * 2 ^ s * W64 ^ i := by rw [Nat.mul_assoc, Nat.mul_comm (W64 ^ i), ← Nat.mul_assoc]
        omega
      · intro p hp
        rw [← HP.out p (by omega)]
        simp only [List.getD, List.getElem?_set]
        rw [if_neg (by omega)]
    · have : i = L.length := by omega
      subst this
      go_wp2
      go_end0
      refine ⟨rfl, ?_, hf⟩
      have hval := HV'.out
      rw [List.take_length] at hval
      have e : L' = limbs W64 L.length (val W64 L * 2 ^ s) := by
        refine val_inj hLd' (limbs_dg W64_pos _ _) (by rw [limbs_length, hLl']) ?_
        have h1 := val_lt hLd'
        rw [hLl'] at h1
        rw [val_limbs, show val W64 L * 2 ^ s = val W64 L' + W64 ^ L.length * c by rw [Nat.mul_comm _ c]; omega, Nat.add_mul_mod_self_left, Nat.mod_eq_of_lt h1]
      rw [← e]
      exact hL'

theorem downOr (d r s : Nat) (hs : s < 64) (h : d / 2 ^ s < 2 ^ (64 - s)) (hr : r < 2 ^ s) : bits .or .u64 ((d : Int) / 2 ^ s) ((r * 2 ^ (64 - s) : Nat) : Int) = ((d / 2 ^ s + r * 2 ^ (64 - s) : Nat) : Int) := by
  have h1 : (r + 1) * 2 ^ (64 - s) ≤ 2 ^ s * 2 ^ (64 - s) := Nat.mul_le_mul_right _ hr
  rw [Nat.mul_comm (2 ^ s), W64_split s hs, Nat.add_mul, W64_eq] at h1
  have h2 := Nat.two_pow_pos (64 - s)
  rw [shr_nat, u64_or_nat _ _ (by omega) (by omega)]
  congr 1
  exact or_low _ _ _ h
theorem wrapMul (d s : Nat) : IntKind.u64.wrap ((d : Int) * 2 ^ s) = ((d * 2 ^ s % W64 : Nat) : Int) := by
  have e1 : ((2 : Int) ^ s) = ((2 ^ s : Nat) : Int) := by simp
  rw [e1, ← Int.natCast_mul, IntKind.wrap_u64, W64_eq]
  omega

set_option maxRecDepth 10000 in
set_option maxHeartbeats 1000000 in
theorem shiftDown_any (b cap : Nat) (t : TypeId) (L : List Nat) (s : Nat) (w : World) (h : IB w b .u64 t L) (hd : Dg W64 L) (hs : s < 64) (hc : L.length ≤ cap) (hm : cap ≤ maxLen) :
    Calls Sang.prog 37 #[.slice (some ⟨b, 0, none⟩) L.length cap, .int .u8 (s : Int)] w fun e w' => e = .returned (.tuple #[]) ∧ IB w' b .u64 t (limbs W64 L.length (val W64 L / 2 ^ s)) ∧ Fr w.heap.size (fun k => k = b) w w' := by
  unfold maxLen at hm
  go_enter Sang.func37, Sang.ntmps37
  go_wp2
  go_loopw [5, 4] (fun iv cv wr => ∃ (i c : Nat), i ≤ L.length ∧ iv = .int .i64 i ∧ cv = .int .u64 c ∧ Hid (c = val W64 (L.drop i) % 2 ^ s * 2 ^ (64 - s)) ∧ IB wr b .u64 t (L.take i ++ limbs W64 (L.length - i) (val W64 (L.drop i) / 2 ^ s)) ∧ Fr w.heap.size (fun k => k = b) w wr) (fun i _ _ => (intOf i).toNat)
  case atStart =>
    refine ⟨L.length, 0, Nat.le_refl _, rfl, rfl, ?_, ?_, Fr.refl _ _ _⟩
    · unfold Hid; simp [val]
    · simpa [limbs] using h
  case round =>
    obtain ⟨i, c, hi, rfl, rfl, HC, hL', hf⟩ := hrel
    cases i with
    | zero =>
      go_wp2
      go_end0
      refine ⟨rfl, ?_, hf⟩
      simpa using hL'
    | succ i =>
      have hlen : (L.take (i + 1) ++ limbs W64 (L.length - (i + 1)) (val W64 (L.drop (i + 1)) / 2 ^ s)).length = L.length := by simp [limbs_length]; omega
      have hget : (L.take (i + 1) ++ limbs W64 (L.length - (i + 1)) (val W64 (L.drop (i + 1)) / 2 ^ s)).getD i 0 = L.getD i 0 := by
        simp only [List.getD]
        rw [List.getElem?_append_left (by simp; omega), List.getElem?_take, if_pos (by omega)]
      obtain ⟨d, HD, hcd⟩ : ∃ d : Nat, Hid (L.getD i 0 = d) ∧ wr.cell? ⟨b, i, none⟩ = some (.int .u64 (d : Int)) := ⟨_, rfl, by rw [← hget]; exact hL'.cell i (by omega)⟩
      have hzd := hL'.unfrozen i
      have HDW : Hid (d < W64) := by unfold Hid; rw [← HD.out]; exact hd.getD W64_pos _
      clear hget hlen
      go_wp2
      have hdrop : L.drop i = d :: L.drop (i + 1) := by
        rw [List.drop_eq_getElem_cons (by omega)]
        congr 1
        rw [← HD.out]; simp [List.getD, show i < L.length by omega]
      have hvd : val W64 (L.drop i) = d + W64 * val W64 (L.drop (i + 1)) := by rw [hdrop, val]
      obtain ⟨e1, e2, e3, e4⟩ := down_step s (val W64 (L.drop (i + 1))) d hs HDW.out
      have hrr := Nat.mod_lt (val W64 (L.drop (i + 1))) (Nat.two_pow_pos s)
      refine ⟨⟨i, d % 2 ^ s * 2 ^ (64 - s), by omega, rfl, by rw [wrapMul, down_in d s hs], ?_, ?_, hf.setCell (.inr rfl) _⟩, by simp [intOf]⟩
      · unfold Hid; rw [hvd, e3]
      · refine hL'.set' i (d / 2 ^ s + val W64 (L.drop (i + 1)) % 2 ^ s * 2 ^ (64 - s)) ?_ ?_
        · rw [HC.out]; exact downOr d _ s hs e4 hrr
        · rw [List.take_succ_eq_append_getElem (by omega), List.append_assoc, List.set_append_right _ _ (by simp; omega), show i - (L.take i).length = 0 by simp; omega]
          congr 1
          rw [hvd, show L.length - i = (L.length - (i + 1)) + 1 by omega, limbs, e1, e2]
          rfl
end Go.Proofs.Ygcsan
