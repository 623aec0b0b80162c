/-
  num.Div64; package u256: trial.
-/
import Derived.Test.YgcsanDiv64
import Derived.Test.YgcsanPlainC
namespace Go.Proofs.Ygcsan
open Go.RowKit
set_option linter.unusedSimpArgs false
set_option linter.unusedVariables false

theorem div64_ok (hi lo y : Nat) (h1 : hi < y) (h2 : lo < W64) (h3 : y < W64) (w : World) :
    Calls Sang.prog 33 #[.int .u64 (hi : Int), .int .u64 (lo : Int), .int .u64 (y : Int)] w fun e w' => e = .returned (.tuple #[.int .u64 ((hi * W64 + lo) / y : Nat), .int .u64 ((hi * W64 + lo) % y : Nat), .bool true]) ∧ ∃ m, w' = w.drewN m := by
  have hd := bitsDiv_any hi lo y h1 h2 h3
  generalize (hi * W64 + lo) / y = q at *
  generalize (hi * W64 + lo) % y = r at *
  have hy0 : ((y : Int) == 0) = false := by simp; omega
  have hyh : decide ((y : Int) ≤ (hi : Int)) = false := by simp; omega
  go_enter Sang.func33, Sang.ntmps33
  go_wp2_with fail
  refine (hd _).mono ?_
  rintro e w' ⟨rfl, hf⟩
  go_wp2_with fail
  go_ret3
  exact ⟨rfl, hf⟩

theorem div64_no (hi lo y : Nat) (h1 : y ≤ hi) (w : World) :
    Calls Sang.prog 33 #[.int .u64 (hi : Int), .int .u64 (lo : Int), .int .u64 (y : Int)] w fun e w' => e = .returned (.tuple #[.int .u64 0, .int .u64 0, .bool false]) ∧ w' = w := by
  by_cases h0 : y = 0
  · subst h0
    go_enter Sang.func33, Sang.ntmps33
    go_wp2_with fail
    go_ret3
    exact ⟨rfl, rfl⟩
  · have hy0 : ((y : Int) == 0) = false := by simp; omega
    have hyh : (y : Int) ≤ (hi : Int) := by omega
    go_enter Sang.func33, Sang.ntmps33
    go_wp2_with fail
    go_ret3
    exact ⟨rfl, rfl⟩

def M2 : Nat := 2 * W64

theorem mul_test (q next rl low : Nat) (hl : low < W64) : q * next ≤ rl * W64 + low ↔ mulHi q next < rl ∨ (mulHi q next = rl ∧ mulLo q next ≤ low) := by
  unfold mulHi mulLo
  have h := Nat.div_add_mod (q * next) W64
  have h2 := Nat.mod_lt (q * next) W64_pos
  generalize q * next / W64 = a at *
  generalize q * next % W64 = b at *
  generalize q * next = p at *
  rw [W64_eq] at *
  constructor
  · intro h3
    rcases Nat.lt_trichotomy a rl with h4 | h4 | h4
    · exact .inl h4
    · exact .inr ⟨h4, by subst h4; omega⟩
    · exfalso; omega
  · rintro (h3 | ⟨h3, h4⟩)
    · omega
    · subst h3; omega

theorem top_word : Value.int .u64 18446744073709551615 = .int .u64 ((W64 - 1 : Nat) : Int) := by
  rw [W64_eq]
  rfl
theorem topW (top next : Nat) (ht : H63 ≤ top) : 0 < top * W64 + next := by
  have h1 : 0 < top := Nat.lt_of_lt_of_le H63_pos ht
  have : 1 * W64 ≤ top * W64 := Nat.mul_le_mul_right _ h1
  have := W64_pos
  omega
theorem fix_small (f rl : Nat) (hrl : rl < W64) (h : f * H63 ≤ rl) : f ≤ 1 := by
  rcases Nat.lt_or_ge 1 f with h1 | h1
  · exfalso
    have : 2 * H63 ≤ f * H63 := Nat.mul_le_mul_right _ h1
    have e : 2 * H63 = W64 := rfl
    omega
  · exact h1
theorem add_split (x y : Nat) : addLo x y 0 + W64 * addHi x y 0 = x + y := by
  unfold addLo addHi
  rw [Nat.add_comm]
  exact Nat.div_add_mod _ _

set_option maxRecDepth 10000 in
set_option maxHeartbeats 4000000 in
theorem trial_any (high mid low top next q0 : Nat) (h1 : high < W64) (h2 : mid < W64) (h3 : low < W64) (h4 : top < W64) (h5 : next < W64) (ht : H63 ≤ top) (hle : high ≤ top) (hq0 : guess high mid top = q0) (w : World) :
    Calls Sang.prog 111 #[.int .u64 (high : Int), .int .u64 (mid : Int), .int .u64 (low : Int), .int .u64 (top : Int), .int .u64 (next : Int)] w fun e w' =>
      e = .returned (.tuple #[.int .u64 (qhat W64 top next low (high * W64 + mid) : Nat), .int .u8 (q0 - qhat W64 top next low (high * W64 + mid) : Nat)]) ∧ ∃ m, w' = w.drewN m := by
  have hV := topW top next ht
  generalize hqh : qhat W64 top next low (high * W64 + mid) = qh at *
  have HQH : Hid (qhat W64 top next low (high * W64 + mid) = qh) := hqh
  have HQ0 : Hid (guess high mid top = q0) := hq0
  have HT : Hid (H63 ≤ top ∧ 0 < top * W64 + next) := ⟨ht, hV⟩
  have htp : 0 < top := Nat.lt_of_lt_of_le H63_pos ht
  clear hqh hq0 ht hV
  by_cases hlt : high < top
  · have hd := div64_ok high mid top hlt h2 h4
    have HU : Hid ((high * W64 + mid) / top * top + (high * W64 + mid) % top = high * W64 + mid) := by
      unfold Hid; rw [Nat.mul_comm]; exact Nat.div_add_mod _ _
    have HRl := Nat.mod_lt (high * W64 + mid) (show top > 0 by omega)
    have HQW : (high * W64 + mid) / top < W64 := by
      rw [Nat.div_lt_iff_lt_mul (by omega)]
      have : (high + 1) * W64 ≤ top * W64 := Nat.mul_le_mul_right _ hlt
      rw [Nat.add_mul] at this
      rw [Nat.mul_comm W64 top]
      omega
    have HGe : Hid (qh ≤ (high * W64 + mid) / top) := by
      unfold Hid
      rw [← HQH.out]
      have := first_ge W64 top next low (high * W64 + mid) (by omega) W64_pos h3
      unfold qhat
      generalize (high * W64 + mid) / top = z at *
      generalize ((high * W64 + mid) * W64 + low) / (top * W64 + next) = z1 at *
      omega
    have hq0' : Hid ((high * W64 + mid) / top = q0) := by
      unfold Hid; rw [← HQ0.out]; unfold guess; rw [if_pos hlt]
    generalize (high * W64 + mid) / top = q1 at *
    generalize (high * W64 + mid) % top = r1 at *
    go_enter Sang.func111, Sang.ntmps111
    go_wp2_with fail
    refine (hd _).mono ?_
    rintro e w1 ⟨rfl, md, rfl⟩
    go_wp2_with fail
    go_loopw [10, 12, 14, 11] (fun qv rv ov fv wr => ∃ q rl o f : Nat, qv = .int .u64 q ∧ rv = .int .u64 rl ∧ ov = .int .u64 o ∧ fv = .int .u8 f ∧ q < W64 ∧ rl < W64 ∧ Hid (o ≤ 1) ∧ Hid (q * top + (rl + W64 * o) = high * W64 + mid) ∧ Hid (qh ≤ q) ∧ Hid (q + f = q0) ∧ Hid (f * H63 ≤ rl + W64 * o) ∧ ∃ m, wr = w.drewN m) (fun _ rv ov _ _ => M2 - ((intOf rv).toNat + W64 * (intOf ov).toNat))
    case atStart =>
      refine ⟨q1, r1, 0, 0, rfl, rfl, rfl, rfl, HQW, by omega, ?_, ?_, HGe, ?_, ?_, ⟨_, rfl⟩⟩
      · exact Nat.zero_le _
      · unfold Hid; rw [Nat.mul_zero, Nat.add_zero]; exact HU.out
      · unfold Hid; rw [hq0'.out, Nat.add_zero]
      · unfold Hid; rw [Nat.zero_mul]; exact Nat.zero_le _
    case round =>
      obtain ⟨q, rl, o, f, rfl, rfl, rfl, rfl, hq, hrl, HO, HE, HG, HF, HFB, md', rfl⟩ := hrel
      by_cases ho : o = 0
      · subst ho
        have HE0 : Hid (q * top + rl = high * W64 + mid) := by
          have := HE.out; rw [Nat.mul_zero, Nat.add_zero] at this; exact this
        have HFB0 : Hid (f * H63 ≤ rl) := by
          have := HFB.out; rw [Nat.mul_zero, Nat.add_zero] at this; exact this
        clear HE HFB HO
        have HT2 : Hid (q * next ≤ rl * W64 + low ↔ q * (top * W64 + next) ≤ (high * W64 + mid) * W64 + low) := test_iff W64 top next low (high * W64 + mid) q rl HE0.out
        have HMT : Hid (q * next ≤ rl * W64 + low ↔ mulHi q next < rl ∨ (mulHi q next = rl ∧ mulLo q next ≤ low)) := mul_test q next rl low h3
        have hfs : f ≤ 1 := fix_small f rl hrl HFB0.out
        go_wp2_with fail
        refine (mul64_any q next hq h5 _).mono ?_
        rintro e wr ⟨rfl, rfl⟩
        generalize mulHi q next = a at *
        generalize mulLo q next = b at *
        have HYes : Hid (a < rl ∨ (a = rl ∧ b ≤ low) → q = qh) := by
          intro hx
          rw [← HQH.out]
          exact qhat_of_le W64 top next low _ q HT.out.2 (HT2.out.1 (HMT.out.2 hx)) hq (by rw [HQH.out]; exact HG.out)
        have HNo : Hid (¬ (a < rl ∨ (a = rl ∧ b ≤ low)) → qh ≤ q - 1 ∧ 0 < q) := by
          intro hx
          rw [← HQH.out]
          exact qhat_of_gt W64 top next low _ q HT.out.2 (fun h => hx (HMT.out.1 (HT2.out.2 h)))
        have HEnd : Hid (q = qh → f = q0 - qh) := by intro hx; have := HF.out; omega
        rcases Nat.lt_trichotomy a rl with hab | hab | hab
        · have hA : (a : Int) < (rl : Int) := by omega
          have HX := HYes.out (.inl hab)
          have HXX : Hid (q = qh) := HX
          clear HX hab
          go_wp2_with fail
          go_ret2
          refine ⟨?_, _, rfl⟩
          rw [← HEnd.out HXX.out, ← HXX.out]
          rfl
        · have hB : ((a : Int) == (rl : Int)) = true := by simp; omega
          have hA : ¬ (a : Int) < (rl : Int) := by omega
          by_cases hbl : b ≤ low
          · have hb : (b : Int) ≤ (low : Int) := by omega
            have HX := HYes.out (.inr ⟨hab, hbl⟩)
            have HXX : Hid (q = qh) := HX
            clear HX hab hbl
            go_wp2_with fail
            go_ret2
            refine ⟨?_, _, rfl⟩
            rw [← HEnd.out HXX.out, ← HXX.out]
            rfl
          · have hb : ¬ (b : Int) ≤ (low : Int) := by omega
            have HX := HNo.out (by omega)
            have HXX : Hid (qh ≤ q - 1 ∧ 0 < q) := HX
            clear HX hab hbl
            have em : IntKind.u64.wrap ((q : Int) - 1) = ((q - 1 : Nat) : Int) := by
              have := HXX.out.2
              rw [W64_eq] at hq
              rw [IntKind.wrap_u64]; omega
            generalize hq2 : q - 1 = q2 at *
            have HQ2 : Hid (q - 1 = q2) := hq2
            clear hq2
            go_wp2_with fail
            refine (add64_0 rl top _).mono ?_
            rintro e wr ⟨rfl, rfl⟩
            go_wp2_with fail
            refine ⟨⟨q2, addLo rl top 0, addHi rl top 0, f + 1, rfl, rfl, rfl, by go_num, ?_, addLo_lt _ _ _, addHi_le _ _ _ hrl h4 (by omega), ?_, HXX.out.1, ?_, ?_, ⟨_, rfl⟩⟩, ?_⟩
            · have := HQ2.out; omega
            · unfold Hid
              have e0 := add_split rl top
              have e1 := HE0.out
              have e2 : q = q2 + 1 := by have := HQ2.out; have := HXX.out.2; omega
              rw [e2, Nat.add_mul] at e1
              omega
            · unfold Hid; have := HQ2.out; have := HXX.out.2; have := HF.out; omega
            · unfold Hid
              have e0 := add_split rl top
              have e1 := HFB0.out
              have e2 := HT.out.1
              rw [Nat.add_mul]
              omega
            · have e0 := add_split rl top
              have e2 := HT.out.1
              have e3 := H63_pos
              have e4 : rl < M2 := by unfold M2; omega
              simp only [intOf, Int.toNat_natCast]
              generalize addLo rl top 0 = z1 at *
              generalize addHi rl top 0 = z2 at *
              generalize W64 * z2 = z3 at *
              simp
              omega
        · have hB : ((a : Int) == (rl : Int)) = false := by simp; omega
          have hA : ¬ (a : Int) < (rl : Int) := by omega
          have HX := HNo.out (by omega)
          have HXX : Hid (qh ≤ q - 1 ∧ 0 < q) := HX
          clear HX hab
          have em : IntKind.u64.wrap ((q : Int) - 1) = ((q - 1 : Nat) : Int) := by
            have := HXX.out.2
            rw [W64_eq] at hq
            rw [IntKind.wrap_u64]; omega
          generalize hq2 : q - 1 = q2 at *
          have HQ2 : Hid (q - 1 = q2) := hq2
          clear hq2
          go_wp2_with fail
          refine (add64_0 rl top _).mono ?_
          rintro e wr ⟨rfl, rfl⟩
          go_wp2_with fail
          refine ⟨⟨q2, addLo rl top 0, addHi rl top 0, f + 1, rfl, rfl, rfl, by go_num, ?_, addLo_lt _ _ _, addHi_le _ _ _ hrl h4 (by omega), ?_, HXX.out.1, ?_, ?_, ⟨_, rfl⟩⟩, ?_⟩
          · have := HQ2.out; omega
          · unfold Hid
            have e0 := add_split rl top
            have e1 := HE0.out
            have e2 : q = q2 + 1 := by have := HQ2.out; have := HXX.out.2; omega
            rw [e2, Nat.add_mul] at e1
            omega
          · unfold Hid; have := HQ2.out; have := HXX.out.2; have := HF.out; omega
          · unfold Hid
            have e0 := add_split rl top
            have e1 := HFB0.out
            have e2 := HT.out.1
            rw [Nat.add_mul]
            omega
          · have e0 := add_split rl top
            have e2 := HT.out.1
            have e3 := H63_pos
            have e4 : rl < M2 := by unfold M2; omega
            simp only [intOf, Int.toNat_natCast]
            generalize addLo rl top 0 = z1 at *
            generalize addHi rl top 0 = z2 at *
            generalize W64 * z2 = z3 at *
            simp
            omega
      · have ho' : ((o : Int) == 0) = false := by simp; omega
        have HX : Hid (q = qh) := by
          unfold Hid
          rw [← HQH.out]
          refine qhat_of_le W64 top next low _ q HT.out.2 ?_ hq (by rw [HQH.out]; exact HG.out)
          refine past_base W64 top next low _ q (rl + W64 * o) HE.out hq h5 ?_
          have : W64 * 1 ≤ W64 * o := Nat.mul_le_mul_left _ (by omega)
          omega
        have HEnd : Hid (f = q0 - qh) := by unfold Hid; have := HF.out; have := HX.out; omega
        clear ho
        go_wp2_with fail
        go_ret2
        refine ⟨?_, _, rfl⟩
        rw [← HEnd.out, ← HX.out]
        rfl
  · have htt : high = top := by omega
    have hd := div64_no high mid top (by omega)
    have HU : Hid ((W64 - 1) * top + (addLo mid top 0 + W64 * addHi mid top 0) = high * W64 + mid) := by
      unfold Hid
      rw [add_split, htt, Nat.mul_comm top W64]
      have : W64 * top = (W64 - 1) * top + top := by
        have h9 := W64_pos
        generalize W64 = W at *
        have e : W = (W - 1) + 1 := by omega
        conv => lhs; rw [e, Nat.add_mul, Nat.one_mul]
      omega
    have HGe : Hid (qh ≤ W64 - 1) := by
      unfold Hid; rw [← HQH.out]; unfold qhat; omega
    have hq0' : Hid (W64 - 1 = q0) := by
      unfold Hid; rw [← HQ0.out]; unfold guess; rw [if_neg hlt]
    clear htt
    go_enter Sang.func111, Sang.ntmps111
    go_wp2_with fail
    refine (hd _).mono ?_
    rintro e w ⟨rfl, rfl⟩
    go_wp2_with fail
    refine (add64_0 mid top _).mono ?_
    rintro e w ⟨rfl, rfl⟩
    go_wp2_with fail
    go_loopw [10, 12, 14, 11] (fun qv rv ov fv wr => ∃ q rl o f : Nat, qv = .int .u64 q ∧ rv = .int .u64 rl ∧ ov = .int .u64 o ∧ fv = .int .u8 f ∧ q < W64 ∧ rl < W64 ∧ Hid (o ≤ 1) ∧ Hid (q * top + (rl + W64 * o) = high * W64 + mid) ∧ Hid (qh ≤ q) ∧ Hid (q + f = q0) ∧ Hid (f * H63 ≤ rl + W64 * o) ∧ ∃ m, wr = w.drewN m) (fun _ rv ov _ _ => M2 - ((intOf rv).toNat + W64 * (intOf ov).toNat))
    case atStart =>
      refine ⟨W64 - 1, addLo mid top 0, addHi mid top 0, 0, ?_, rfl, rfl, rfl, ?_, addLo_lt _ _ _, addHi_le _ _ _ h2 h4 (by omega), HU, HGe, ?_, ?_, ⟨0, rfl⟩⟩
      · exact top_word
      · exact Nat.sub_lt W64_pos (by decide)
      · unfold Hid; rw [hq0'.out, Nat.add_zero]
      · unfold Hid; rw [Nat.zero_mul]; exact Nat.zero_le _
    case round =>
      obtain ⟨q, rl, o, f, rfl, rfl, rfl, rfl, hq, hrl, HO, HE, HG, HF, HFB, md', rfl⟩ := hrel
      by_cases ho : o = 0
      · subst ho
        have HE0 : Hid (q * top + rl = high * W64 + mid) := by
          have := HE.out; rw [Nat.mul_zero, Nat.add_zero] at this; exact this
        have HFB0 : Hid (f * H63 ≤ rl) := by
          have := HFB.out; rw [Nat.mul_zero, Nat.add_zero] at this; exact this
        clear HE HFB HO
        have HT2 : Hid (q * next ≤ rl * W64 + low ↔ q * (top * W64 + next) ≤ (high * W64 + mid) * W64 + low) := test_iff W64 top next low (high * W64 + mid) q rl HE0.out
        have HMT : Hid (q * next ≤ rl * W64 + low ↔ mulHi q next < rl ∨ (mulHi q next = rl ∧ mulLo q next ≤ low)) := mul_test q next rl low h3
        have hfs : f ≤ 1 := fix_small f rl hrl HFB0.out
        go_wp2_with fail
        refine (mul64_any q next hq h5 _).mono ?_
        rintro e wr ⟨rfl, rfl⟩
        generalize mulHi q next = a at *
        generalize mulLo q next = b at *
        have HYes : Hid (a < rl ∨ (a = rl ∧ b ≤ low) → q = qh) := by
          intro hx
          rw [← HQH.out]
          exact qhat_of_le W64 top next low _ q HT.out.2 (HT2.out.1 (HMT.out.2 hx)) hq (by rw [HQH.out]; exact HG.out)
        have HNo : Hid (¬ (a < rl ∨ (a = rl ∧ b ≤ low)) → qh ≤ q - 1 ∧ 0 < q) := by
          intro hx
          rw [← HQH.out]
          exact qhat_of_gt W64 top next low _ q HT.out.2 (fun h => hx (HMT.out.1 (HT2.out.2 h)))
        have HEnd : Hid (q = qh → f = q0 - qh) := by intro hx; have := HF.out; omega
        rcases Nat.lt_trichotomy a rl with hab | hab | hab
        · have hA : (a : Int) < (rl : Int) := by omega
          have HX := HYes.out (.inl hab)
          have HXX : Hid (q = qh) := HX
          clear HX hab
          go_wp2_with fail
          go_ret2
          refine ⟨?_, _, rfl⟩
          rw [← HEnd.out HXX.out, ← HXX.out]
          rfl
        · have hB : ((a : Int) == (rl : Int)) = true := by simp; omega
          have hA : ¬ (a : Int) < (rl : Int) := by omega
          by_cases hbl : b ≤ low
          · have hb : (b : Int) ≤ (low : Int) := by omega
            have HX := HYes.out (.inr ⟨hab, hbl⟩)
            have HXX : Hid (q = qh) := HX
            clear HX hab hbl
            go_wp2_with fail
            go_ret2
            refine ⟨?_, _, rfl⟩
            rw [← HEnd.out HXX.out, ← HXX.out]
            rfl
          · have hb : ¬ (b : Int) ≤ (low : Int) := by omega
            have HX := HNo.out (by omega)
            have HXX : Hid (qh ≤ q - 1 ∧ 0 < q) := HX
            clear HX hab hbl
            have em : IntKind.u64.wrap ((q : Int) - 1) = ((q - 1 : Nat) : Int) := by
              have := HXX.out.2
              rw [W64_eq] at hq
              rw [IntKind.wrap_u64]; omega
            generalize hq2 : q - 1 = q2 at *
            have HQ2 : Hid (q - 1 = q2) := hq2
            clear hq2
            go_wp2_with fail
            refine (add64_0 rl top _).mono ?_
            rintro e wr ⟨rfl, rfl⟩
            go_wp2_with fail
            refine ⟨⟨q2, addLo rl top 0, addHi rl top 0, f + 1, rfl, rfl, rfl, by go_num, ?_, addLo_lt _ _ _, addHi_le _ _ _ hrl h4 (by omega), ?_, HXX.out.1, ?_, ?_, ⟨_, rfl⟩⟩, ?_⟩
            · have := HQ2.out; omega
            · unfold Hid
              have e0 := add_split rl top
              have e1 := HE0.out
              have e2 : q = q2 + 1 := by have := HQ2.out; have := HXX.out.2; omega
              rw [e2, Nat.add_mul] at e1
              omega
            · unfold Hid; have := HQ2.out; have := HXX.out.2; have := HF.out; omega
            · unfold Hid
              have e0 := add_split rl top
              have e1 := HFB0.out
              have e2 := HT.out.1
              rw [Nat.add_mul]
              omega
            · have e0 := add_split rl top
              have e2 := HT.out.1
              have e3 := H63_pos
              have e4 : rl < M2 := by unfold M2; omega
              simp only [intOf, Int.toNat_natCast]
              generalize addLo rl top 0 = z1 at *
              generalize addHi rl top 0 = z2 at *
              generalize W64 * z2 = z3 at *
              simp
              omega
        · have hB : ((a : Int) == (rl : Int)) = false := by simp; omega
          have hA : ¬ (a : Int) < (rl : Int) := by omega
          have HX := HNo.out (by omega)
          have HXX : Hid (qh ≤ q - 1 ∧ 0 < q) := HX
          clear HX hab
          have em : IntKind.u64.wrap ((q : Int) - 1) = ((q - 1 : Nat) : Int) := by
            have := HXX.out.2
            rw [W64_eq] at hq
            rw [IntKind.wrap_u64]; omega
          generalize hq2 : q - 1 = q2 at *
          have HQ2 : Hid (q - 1 = q2) := hq2
          clear hq2
          go_wp2_with fail
          refine (add64_0 rl top _).mono ?_
          rintro e wr ⟨rfl, rfl⟩
          go_wp2_with fail
          refine ⟨⟨q2, addLo rl top 0, addHi rl top 0, f + 1, rfl, rfl, rfl, by go_num, ?_, addLo_lt _ _ _, addHi_le _ _ _ hrl h4 (by omega), ?_, HXX.out.1, ?_, ?_, ⟨_, rfl⟩⟩, ?_⟩
          · have := HQ2.out; omega
          · unfold Hid
            have e0 := add_split rl top
            have e1 := HE0.out
            have e2 : q = q2 + 1 := by have := HQ2.out; have := HXX.out.2; omega
            rw [e2, Nat.add_mul] at e1
            omega
          · unfold Hid; have := HQ2.out; have := HXX.out.2; have := HF.out; omega
          · unfold Hid
            have e0 := add_split rl top
            have e1 := HFB0.out
            have e2 := HT.out.1
            rw [Nat.add_mul]
            omega
          · have e0 := add_split rl top
            have e2 := HT.out.1
            have e3 := H63_pos
            have e4 : rl < M2 := by unfold M2; omega
            simp only [intOf, Int.toNat_natCast]
            generalize addLo rl top 0 = z1 at *
            generalize addHi rl top 0 = z2 at *
            generalize W64 * z2 = z3 at *
            simp
            omega
      · have ho' : ((o : Int) == 0) = false := by simp; omega
        have HX : Hid (q = qh) := by
          unfold Hid
          rw [← HQH.out]
          refine qhat_of_le W64 top next low _ q HT.out.2 ?_ hq (by rw [HQH.out]; exact HG.out)
          refine past_base W64 top next low _ q (rl + W64 * o) HE.out hq h5 ?_
          have : W64 * 1 ≤ W64 * o := Nat.mul_le_mul_left _ (by omega)
          omega
        have HEnd : Hid (f = q0 - qh) := by unfold Hid; have := HF.out; have := HX.out; omega
        clear ho
        go_wp2_with fail
        go_ret2
        refine ⟨?_, _, rfl⟩
        rw [← HEnd.out, ← HX.out]
        rfl

end Go.Proofs.Ygcsan
