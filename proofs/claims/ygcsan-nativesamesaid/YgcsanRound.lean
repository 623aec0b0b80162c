/-
  Package u256: takeTimes, putBack.
-/
import Derived.Test.YgcsanTrial
namespace Go.Proofs.Ygcsan
open Go.RowKit
set_option linter.unusedSimpArgs false
set_option linter.unusedVariables false

theorem ma_split (q x c : Nat) : maLo q x c 0 + W64 * maHi q x c 0 = q * x + c := by
  unfold maLo maHi
  rw [Nat.add_zero, Nat.add_comm]
  exact Nat.div_add_mod _ _

theorem sub_split (u x b : Nat) (hu : u < W64) (hx : x < W64) (hb : b ≤ 1) : subLo u x b + x + b = u + W64 * subHi u x b := by
  unfold subLo subHi
  by_cases h : u < x + b
  · rw [if_pos h, Nat.mul_one, Nat.mod_eq_of_lt (by omega)]
    omega
  · rw [if_neg h, Nat.mul_zero]
    have e : u + W64 - x - b = (u - x - b) + W64 * 1 := by omega
    rw [e, Nat.add_mul_mod_self_left, Nat.mod_eq_of_lt (by omega)]
    omega

theorem times_step (L : List Nat) (o i q x c b u v A : Nat) (hp : o + i < L.length) (HG : L.getD (o + i) 0 = u) (hu : u < W64) (hb : b ≤ 1)
    (HV : val W64 L + q * v * W64 ^ o = A + (b + c) * W64 ^ (o + i)) :
    val W64 (L.set (o + i) (subLo u (maLo q x c 0) b)) + q * (v + x * W64 ^ i) * W64 ^ o = A + (subHi u (maLo q x c 0) b + maHi q x c 0) * W64 ^ (o + (i + 1)) := by
  have h1 := val_set W64 L (o + i) (subLo u (maLo q x c 0) b) hp
  rw [HG] at h1
  have h2 := ma_split q x c
  have h3 := sub_split u (maLo q x c 0) b hu (maLo_lt _ _ _ _) hb
  generalize subLo u (maLo q x c 0) b = d at *
  generalize subHi u (maLo q x c 0) b = b' at *
  generalize maLo q x c 0 = lo at *
  generalize maHi q x c 0 = hi at *
  have e1 : q * (v + x * W64 ^ i) * W64 ^ o = q * v * W64 ^ o + q * x * W64 ^ (o + i) := by
    rw [Nat.mul_add, Nat.add_mul, ← Nat.mul_assoc q x, Nat.mul_assoc (q * x), ← Nat.pow_add, Nat.add_comm i o]
  have e2 : (b' + hi) * W64 ^ (o + (i + 1)) = (W64 * b' + W64 * hi) * W64 ^ (o + i) := by
    rw [← Nat.add_assoc, Nat.pow_succ, Nat.mul_comm (W64 ^ (o + i)) W64, ← Nat.mul_assoc, Nat.mul_comm (b' + hi) W64, Nat.mul_add]
  have e3 : (W64 * b' + W64 * hi + u) * W64 ^ (o + i) = (d + b + c + q * x) * W64 ^ (o + i) := by
    congr 1
    omega
  rw [e1, e2]
  simp only [Nat.add_mul] at e3 HV ⊢
  omega

theorem times_last (L : List Nat) (p c b u A : Nat) (B : Nat) (hp : p < L.length) (HG : L.getD p 0 = u) (hu : u < W64) (hc : c < W64) (hb : b ≤ 1) (HV : val W64 L + B = A + (b + c) * W64 ^ p) :
    val W64 (L.set p (subLo u c b)) + B = A + subHi u c b * W64 ^ (p + 1) := by
  have h1 := val_set W64 L p (subLo u c b) hp
  rw [HG] at h1
  have h3 := sub_split u c b hu hc hb
  generalize subLo u c b = d at *
  generalize subHi u c b = b' at *
  have e2 : b' * W64 ^ (p + 1) = W64 * b' * W64 ^ p := by rw [Nat.pow_succ, Nat.mul_comm (W64 ^ p) W64, ← Nat.mul_assoc, Nat.mul_comm b' W64]
  have e3 : (W64 * b' + u) * W64 ^ p = (d + b + c) * W64 ^ p := by congr 1; omega
  rw [e2]
  simp only [Nat.add_mul] at e3 HV ⊢
  omega

set_option maxRecDepth 10000 in
set_option maxHeartbeats 4000000 in
theorem takeTimes_any (bu bv o n cu cv : Nat) (tu tv : TypeId) (L V : List Nat) (q : Nat) (w : World) (hL : IB w bu .u64 tu L) (hV : IB w bv .u64 tv V) (hne : bv ≠ bu) (dL : Dg W64 L) (dV : Dg W64 V) (hq : q < W64)
    (ho : o + n + 1 ≤ L.length) (hn : n ≤ V.length) (hcu : n + 1 ≤ cu) (hcv : n ≤ cv) (hm1 : cu ≤ 1000) (hm2 : cv ≤ 1000) :
    Calls Sang.prog 112 #[.slice (some ⟨bu, o, none⟩) (n + 1) cu, .slice (some ⟨bv, 0, none⟩) n cv, .int .u64 (q : Int)] w fun e w' => ∃ (L' : List Nat) (b : Nat), e = .returned (.bool ((b : Int) != 0)) ∧ b ≤ 1 ∧ IB w' bu .u64 tu L' ∧ L'.length = L.length ∧ Dg W64 L' ∧
      val W64 L' + q * val W64 (V.take n) * W64 ^ o = val W64 L + b * W64 ^ (o + n + 1) ∧ (∀ p, p < o ∨ o + n < p → L'.getD p 0 = L.getD p 0) ∧ Fr w.heap.size (fun k => k = bu) w w' := by
  go_enter Sang.func112, Sang.ntmps112
  go_wp2
  go_loopw [19, 7, 8] (fun iv cv bv' wr => ∃ (i c b : Nat) (L' : List Nat), i ≤ n ∧ iv = .int .i64 i ∧ cv = .int .u64 c ∧ bv' = .int .u64 b ∧ c < W64 ∧ b ≤ 1 ∧ IB wr bu .u64 tu L' ∧ L'.length = L.length ∧ Dg W64 L' ∧
    Hid (val W64 L' + q * val W64 (V.take i) * W64 ^ o = val W64 L + (b + c) * W64 ^ (o + i)) ∧ Hid (∀ p, p < o ∨ o + n < p → L'.getD p 0 = L.getD p 0) ∧ Fr w.heap.size (fun k => k = bu) w wr) (fun i _ _ _ => n - (intOf i).toNat)
  case atStart =>
    refine ⟨0, 0, 0, L, by omega, rfl, rfl, rfl, W64_pos, by omega, hL, rfl, dL, ?_, fun _ _ => rfl, Fr.refl _ _ _⟩
    unfold Hid
    rw [List.take_zero, val, Nat.mul_zero, Nat.zero_mul, Nat.add_zero, Nat.zero_mul, Nat.add_zero]
  case round =>
    obtain ⟨i, c, b, L', hi, rfl, rfl, rfl, hc, hb, hL', hLl', dL', HV', HP, hf⟩ := hrel
    by_cases hin : i < n
    · obtain ⟨x, HX, hcx⟩ : ∃ x : Nat, Hid (V.getD i 0 = x) ∧ wr.cell? ⟨bv, i, none⟩ = some (.int .u64 (x : Int)) := ⟨_, rfl, (hV.fr hf hV.lt hne).cell i (by omega)⟩
      have hxW : x < W64 := by rw [← HX.out]; exact dV.getD W64_pos _
      obtain ⟨u, HU, hcu'⟩ : ∃ u : Nat, Hid (L'.getD (o + i) 0 = u) ∧ wr.cell? ⟨bu, o + i, none⟩ = some (.int .u64 (u : Int)) := ⟨_, rfl, hL'.cell (o + i) (by omega)⟩
      have huW : u < W64 := by rw [← HU.out]; exact dL'.getD W64_pos _
      have hzu := hL'.unfrozen (o + i)
      have hb1 : (i : Int) < (n : Int) + 1 := by omega
      go_wp2_with fail
      refine (mulAdd_any q x c 0 hq hxW hc W64_pos _).mono ?_
      rintro e wr ⟨rfl, rfl⟩
      go_wp2_with fail
      refine (sub64_any u (maLo q x c 0) b hb _).mono ?_
      rintro e wr ⟨rfl, rfl⟩
      go_wp2_with fail
      refine ⟨⟨i + 1, maHi q x c 0, subHi u (maLo q x c 0) b, L'.set (o + i) (subLo u (maLo q x c 0) b), by omega, by go_num, rfl, rfl, maHi_lt _ _ _ _ hq hxW hc W64_pos, subHi_le _ _ _, hL'.set _ _, by simpa using hLl', dL'.set _ _ (subLo_lt _ _ _), ?_, ?_, hf.setCell (.inr rfl) _⟩, by simp [intOf]; omega⟩
      · unfold Hid
        rw [val_take_succ W64 V i (by omega), HX.out]
        exact times_step L' o i q x c b u _ _ (by omega) HU.out huW hb HV'.out
      · intro p hp
        rw [← HP.out p hp]
        simp only [List.getD, List.getElem?_set]
        rw [if_neg (by omega)]
    · have : i = n := by omega
      subst this
      obtain ⟨u, HU, hcu'⟩ : ∃ u : Nat, Hid (L'.getD (o + i) 0 = u) ∧ wr.cell? ⟨bu, o + i, none⟩ = some (.int .u64 (u : Int)) := ⟨_, rfl, hL'.cell (o + i) (by omega)⟩
      have huW : u < W64 := by rw [← HU.out]; exact dL'.getD W64_pos _
      have hzu := hL'.unfrozen (o + i)
      go_wp2_with fail
      refine (sub64_any u c b hb _).mono ?_
      rintro e wr ⟨rfl, rfl⟩
      go_wp2_with fail
      go_ret
      refine ⟨L'.set (o + i) (subLo u c b), subHi u c b, rfl, subHi_le _ _ _, hL'.set _ _, by simpa using hLl', dL'.set _ _ (subLo_lt _ _ _), times_last L' (o + i) c b u _ _ (by omega) HU.out huW hc hb HV'.out, ?_, hf.setCell (.inr rfl) _⟩
      intro p hp
      rw [← HP.out p hp]
      simp only [List.getD, List.getElem?_set]
      rw [if_neg (by omega)]

theorem add_split' (u x c : Nat) : addLo u x c + W64 * addHi u x c = u + x + c := by
  unfold addLo addHi
  rw [Nat.add_comm]
  exact Nat.div_add_mod _ _

theorem back_step (L : List Nat) (o i x c u v A : Nat) (hp : o + i < L.length) (HG : L.getD (o + i) 0 = u) (HV : val W64 L + c * W64 ^ (o + i) = A + v * W64 ^ o) :
    val W64 (L.set (o + i) (addLo u x c)) + addHi u x c * W64 ^ (o + (i + 1)) = A + (v + x * W64 ^ i) * W64 ^ o := by
  have h1 := val_set W64 L (o + i) (addLo u x c) hp
  rw [HG] at h1
  have h2 := add_split' u x c
  generalize addLo u x c = d at *
  generalize addHi u x c = c' at *
  have e1 : (v + x * W64 ^ i) * W64 ^ o = v * W64 ^ o + x * W64 ^ (o + i) := by rw [Nat.add_mul, Nat.mul_assoc, ← Nat.pow_add, Nat.add_comm i o]
  have e2 : c' * W64 ^ (o + (i + 1)) = W64 * c' * W64 ^ (o + i) := by
    rw [← Nat.add_assoc, Nat.pow_succ, Nat.mul_comm (W64 ^ (o + i)) W64, ← Nat.mul_assoc, Nat.mul_comm c' W64]
  have e3 : (d + W64 * c') * W64 ^ (o + i) = (u + x + c) * W64 ^ (o + i) := by congr 1
  rw [e1, e2]
  simp only [Nat.add_mul] at e3
  omega

theorem back_last (L : List Nat) (p c u A : Nat) (hp : p < L.length) (HG : L.getD p 0 = u) (HV : val W64 L + c * W64 ^ p = A) :
    val W64 (L.set p (addLo u c 0)) + addHi u c 0 * W64 ^ (p + 1) = A := by
  have h1 := val_set W64 L p (addLo u c 0) hp
  rw [HG] at h1
  have h2 := add_split u c
  generalize addLo u c 0 = d at *
  generalize addHi u c 0 = c' at *
  have e2 : c' * W64 ^ (p + 1) = W64 * c' * W64 ^ p := by rw [Nat.pow_succ, Nat.mul_comm (W64 ^ p) W64, ← Nat.mul_assoc, Nat.mul_comm c' W64]
  have e3 : (d + W64 * c') * W64 ^ p = (u + c) * W64 ^ p := by congr 1
  rw [e2]
  simp only [Nat.add_mul] at e3
  omega

theorem wrapAdd (u c : Nat) : IntKind.u64.wrap ((u : Int) + (c : Int)) = (addLo u c 0 : Nat) := by
  unfold addLo
  rw [IntKind.wrap_u64, W64_eq]
  omega

set_option maxRecDepth 10000 in
set_option maxHeartbeats 4000000 in
theorem putBack_any (bu bv o n cu cv : Nat) (tu tv : TypeId) (L V : List Nat) (w : World) (hL : IB w bu .u64 tu L) (hV : IB w bv .u64 tv V) (hne : bv ≠ bu) (dL : Dg W64 L) (dV : Dg W64 V)
    (ho : o + n + 1 ≤ L.length) (hn : n ≤ V.length) (hcu : n + 1 ≤ cu) (hcv : n ≤ cv) (hm1 : cu ≤ 1000) (hm2 : cv ≤ 1000) :
    Calls Sang.prog 113 #[.slice (some ⟨bu, o, none⟩) (n + 1) cu, .slice (some ⟨bv, 0, none⟩) n cv] w fun e w' => e = .returned (.tuple #[]) ∧ ∃ (L' : List Nat) (k : Nat), k ≤ 1 ∧ IB w' bu .u64 tu L' ∧ L'.length = L.length ∧ Dg W64 L' ∧
      val W64 L' + k * W64 ^ (o + n + 1) = val W64 L + val W64 (V.take n) * W64 ^ o ∧ (∀ p, p < o ∨ o + n < p → L'.getD p 0 = L.getD p 0) ∧ Fr w.heap.size (fun k => k = bu) w w' := by
  go_enter Sang.func113, Sang.ntmps113
  go_wp2
  go_loopw [11, 4] (fun iv cv wr => ∃ (i c : Nat) (L' : List Nat), i ≤ n ∧ iv = .int .i64 i ∧ cv = .int .u64 c ∧ c ≤ 1 ∧ IB wr bu .u64 tu L' ∧ L'.length = L.length ∧ Dg W64 L' ∧
    Hid (val W64 L' + c * W64 ^ (o + i) = val W64 L + val W64 (V.take i) * W64 ^ o) ∧ Hid (∀ p, p < o ∨ o + n < p → L'.getD p 0 = L.getD p 0) ∧ Fr w.heap.size (fun k => k = bu) w wr) (fun i _ _ => n - (intOf i).toNat)
  case atStart =>
    refine ⟨0, 0, L, by omega, rfl, rfl, by omega, hL, rfl, dL, ?_, fun _ _ => rfl, Fr.refl _ _ _⟩
    unfold Hid
    rw [List.take_zero, val, Nat.zero_mul, Nat.zero_mul]
  case round =>
    obtain ⟨i, c, L', hi, rfl, rfl, hc, hL', hLl', dL', HV', HP, hf⟩ := hrel
    by_cases hin : i < n
    · obtain ⟨x, HX, hcx⟩ : ∃ x : Nat, Hid (V.getD i 0 = x) ∧ wr.cell? ⟨bv, i, none⟩ = some (.int .u64 (x : Int)) := ⟨_, rfl, (hV.fr hf hV.lt hne).cell i (by omega)⟩
      have hxW : x < W64 := by rw [← HX.out]; exact dV.getD W64_pos _
      obtain ⟨u, HU, hcu'⟩ : ∃ u : Nat, Hid (L'.getD (o + i) 0 = u) ∧ wr.cell? ⟨bu, o + i, none⟩ = some (.int .u64 (u : Int)) := ⟨_, rfl, hL'.cell (o + i) (by omega)⟩
      have huW : u < W64 := by rw [← HU.out]; exact dL'.getD W64_pos _
      have hzu := hL'.unfrozen (o + i)
      have hb1 : (i : Int) < (n : Int) + 1 := by omega
      go_wp2_with fail
      refine (add64_any u x c hc _).mono ?_
      rintro e wr ⟨rfl, rfl⟩
      go_wp2_with fail
      refine ⟨⟨i + 1, addHi u x c, L'.set (o + i) (addLo u x c), by omega, by go_num, rfl, addHi_le _ _ _ huW hxW hc, hL'.set _ _, by simpa using hLl', dL'.set _ _ (addLo_lt _ _ _), ?_, ?_, hf.setCell (.inr rfl) _⟩, by simp [intOf]; omega⟩
      · unfold Hid
        rw [val_take_succ W64 V i (by omega), HX.out]
        exact back_step L' o i x c u _ _ (by omega) HU.out HV'.out
      · intro p hp
        rw [← HP.out p hp]
        simp only [List.getD, List.getElem?_set]
        rw [if_neg (by omega)]
    · have : i = n := by omega
      subst this
      obtain ⟨u, HU, hcu'⟩ : ∃ u : Nat, Hid (L'.getD (o + i) 0 = u) ∧ wr.cell? ⟨bu, o + i, none⟩ = some (.int .u64 (u : Int)) := ⟨_, rfl, hL'.cell (o + i) (by omega)⟩
      have huW : u < W64 := by rw [← HU.out]; exact dL'.getD W64_pos _
      have hzu := hL'.unfrozen (o + i)
      have hww := wrapAdd u c
      go_wp2_with fail
      go_end0
      refine ⟨rfl, L'.set (o + i) (addLo u c 0), addHi u c 0, addHi_le _ _ _ huW (by have : 1 < W64 := by decide
                                                                                     omega) (by omega), hL'.set _ _, by simpa using hLl', dL'.set _ _ (addLo_lt _ _ _), back_last L' (o + i) c u _ (by omega) HU.out HV'.out, ?_, hf.setCell (.inr rfl) _⟩
      intro p hp
      rw [← HP.out p hp]
      simp only [List.getD, List.getElem?_set]
      rw [if_neg (by omega)]
end Go.Proofs.Ygcsan
