/-
  Package nat: the contracts, second part.
-/
import Derived.Test.YgcsanGreatNat
namespace Go.Proofs.YgcsanGreat
open Go.RowKit
set_option linter.unusedSimpArgs false
set_option linter.unusedVariables false

/-- cell i of a slice, its number under a name -/
theorem Sl.at {w : World} {k : IntKind} {b off cap n : Nat} {l : List Nat} (hc : ∀ i, i < l.length → w.cell? ⟨b, off + i, none⟩ = some (.int k ((l.getD i 0 : Nat) : Int))) (i : Nat) (hi : i < l.length) :
    ∃ d : Nat, Hid (l.getD i 0 = d) ∧ w.cell? ⟨b, off + i, none⟩ = some (.int k (d : Int)) := ⟨_, rfl, hc i hi⟩

set_option maxRecDepth 10000 in
set_option maxHeartbeats 1000000 in
theorem fromBE_any (v : Value) (l : List Nat) (w : World) (h : Sl w .u8 v l) (hd : Dg 256 l) (hsm : l.length ≤ 16777216) :
    Calls Sang.prog 83 #[v] w fun e w' => ∃ v', e = .returned v' ∧ Sl w' .u8 v' (digs (val 256 l.reverse)) ∧ Fr w.heap.size no w w' := by
  obtain ⟨i5, hi5, hz5, hs5, hb5⟩ := info_parts info5
  have h' := h
  obtain ⟨a, cap, rfl, hl, hm, hc⟩ := h
  have HC : Hid (l = [] ∨ ∃ b off, a = some ⟨b, off, none⟩ ∧ ∀ i, i < l.length → w.cell? ⟨b, off + i, none⟩ = some (.int .u8 ((l.getD i 0 : Nat) : Int))) := hc
  clear h' hc
  unfold maxLen at hm
  go_enter Sang.func83, Sang.ntmps83
  go_wp2
  go_loop [3] (fun i => ∃ k : Nat, k ≤ l.length ∧ i = .int .i64 k ∧ Hid (∀ j, j < k → l.getD j 0 = 0)) (fun i => l.length - (intOf i).toNat)
  case atStart => exact ⟨0, Nat.zero_le _, rfl, fun j hj => by omega⟩
  case round =>
    obtain ⟨k, hk, rfl, HT⟩ := hrel
    by_cases hkl : k = l.length
    · subst hkl
      go_wp2
      go_ret
      refine ⟨_, rfl, ?_, Fr.refl _ _ _⟩
      rw [be_zero HT.out]
      exact Sl.nil _ _
    · have hlt : k < l.length := by omega
      have hne : ((k : Int) == (l.length : Int)) = false := by simp; omega
      clear hkl
      rcases HC.out with h0 | ⟨b, off, rfl, hc⟩
      · rw [h0] at hlt; simp at hlt
      have HC2 : Hid (∀ i, i < l.length → w.cell? ⟨b, off + i, none⟩ = some (.int .u8 ((l.getD i 0 : Nat) : Int))) := hc
      obtain ⟨d, HD, hcell⟩ := Sl.at (n := 0) (cap := 0) hc k hlt
      clear hc
      by_cases hz : d = 0
      · subst hz
        go_wp2
        refine ⟨⟨k + 1, by omega, by go_num, ?_⟩, by simp [intOf]; omega⟩
        intro j hj
        by_cases e : j = k
        · subst e; exact HD.out
        · exact HT.out j (by omega)
      · have hz' : ((d : Int) == 0) = false := by simpa using hz
        have HZ : Hid (l.getD k 0 ≠ 0) := by unfold Hid; rw [HD.out]; exact hz
        clear hz
        have HE : Hid ((l.drop k).reverse = digs (val 256 l.reverse)) := be_top hd k hlt HT.out HZ.out
        have e1 : (l.length : Int) - (k : Int) = ((l.length - k : Nat) : Int) := by omega
        have hlm : (l.drop k).reverse.length = l.length - k := by simp
        generalize hM : (l.drop k).reverse = M at *
        have HM : Hid ((l.drop k).reverse = M) := hM
        have HLM : Hid (M.length = l.length - k) := hlm
        clear hM hlm
        generalize hn : l.length - k = n at *
        have HN : Hid (l.length - k = n) := hn
        have hn2 : n ≤ 16777216 := by omega
        clear hn
        go_wp2_with (first
          | ((with_reducible refine wl_make 56 5 (.tmp 26) (.tmp 26) .u8 .i64 .i64 n ?_ ?_ i5 und34 hi5 hz5 hs5 ?_ ?_ ?_); rfl; rfl; (rw [hb5]; omega); (unfold maxLen; omega)))
        go_loopw [30] (fun i wr => ∃ j : Nat, j ≤ n ∧ i = .int .i64 j ∧ IB wr w.heap.size .u8 5 (part M j) ∧ Fr w.heap.size no w wr) (fun i _ => n - (intOf i).toNat)
        case atStart =>
          refine ⟨0, by omega, rfl, ?_, ?_⟩
          · rw [part_zero, HLM.out]; exact IB.new _ _ _ _
          · exact (Fr.refl _ _ _).alloc (Nat.le_refl _) _
        case round =>
          obtain ⟨j, hj, rfl, h1, hf⟩ := hrel
          have hpl : (part M j).length = n := by rw [part_length _ _ (by rw [HLM.out]; exact hj), HLM.out]
          by_cases hjn : j < n
          · have HNo : l.length - k = n := HN.out
            obtain ⟨d2, HD2, hc2⟩ := Sl.at (n := 0) (cap := 0) HC2.out (l.length - 1 - j) (by omega)
            rw [← hf.cell (cell_lt hc2) (fun x => x)] at hc2
            have hc3 := h1.cell j (by omega)
            have hz3 := h1.unfrozen j
            have hi1 : 0 ≤ (l.length : Int) - 1 - (j : Int) := by omega
            have hi2 : (l.length : Int) - 1 - (j : Int) < (l.length : Int) := by omega
            clear HNo
            go_wp2
            refine ⟨⟨j + 1, by omega, by go_num, ?_, ?_⟩, by simp [intOf]; omega⟩
            · refine h1.set' j d2 rfl ?_
              rw [part_succ _ _ (by rw [HLM.out]; exact hjn)]
              congr 1
              rw [← HD2.out, ← HM.out]
              have := HN.out
              simp only [List.getD, List.getElem?_reverse (show j < (l.drop k).length by simp; omega), List.getElem?_drop, List.length_drop]
              congr 2
              omega
            · exact hf.setCell (.inl (Nat.le_refl _)) _
          · have : j = n := by omega
            subst this
            go_wp2
            go_ret
            refine ⟨_, rfl, ?_, hf⟩
            rw [← HE.out, ← part_all M, HLM.out]
            have := Sl.of_ib h1 j j (by omega) (Nat.le_refl _) (by unfold maxLen; omega)
            rw [List.take_of_length_le (by omega)] at this
            exact this

theorem Fr.drewN {B : Nat} {X : Nat → Prop} {a w : World} (h : Fr B X a w) (n : Nat) : Fr B X a (w.drewN n) := ⟨h.os, h.tape, h.output, h.size, h.block⟩

set_option maxRecDepth 10000 in
set_option maxHeartbeats 1000000 in
theorem cmp_any (v1 v2 : Value) (l1 l2 : List Nat) (w : World) (h1 : Sl w .u8 v1 l1) (hd1 : Dg 256 l1) (h2 : Sl w .u8 v2 l2) (hd2 : Dg 256 l2) :
    Calls Sang.prog 64 #[v1, v2] w fun e w' => e = .returned (.int .i8 (cmpZ (val 256 l1) (val 256 l2))) ∧ Fr w.heap.size no w w' := by
  generalize hx : val 256 l1 = x at *
  generalize hy : val 256 l2 = y at *
  have HX : Hid (val 256 l1 = x) := hx
  have HY : Hid (val 256 l2 = y) := hy
  clear hx hy
  go_enter Sang.func64, Sang.ntmps64
  go_wp2_with fail
  refine (trim_any v1 l1 _ h1 hd1).mono ?_
  rintro e w ⟨v1', rfl, hs1, rfl⟩
  go_wp2_with fail
  refine (trim_any v2 l2 _ h2 hd2).mono ?_
  rintro e w ⟨v2', rfl, hs2, rfl⟩
  rw [HX.out] at hs1
  rw [HY.out] at hs2
  have hdm1 := digs_dg x
  have hdm2 := digs_dg y
  have hv1 := val_digs x
  have hv2 := val_digs y
  have hll : Hid ((digs x).length < (digs y).length → x < y) := digs_lt_of_length
  have hll2 : Hid ((digs y).length < (digs x).length → y < x) := digs_lt_of_length
  generalize digs x = m1 at *
  generalize digs y = m2 at *
  have HV1 : Hid (val 256 m1 = x) := hv1
  have HV2 : Hid (val 256 m2 = y) := hv2
  clear hv1 hv2 HX HY h1 h2
  obtain ⟨a1, c1, rfl, g1, g2, g3⟩ := hs1
  obtain ⟨a2, c2, rfl, k1, k2, k3⟩ := hs2
  have HC1 : Hid (m1 = [] ∨ ∃ b off, a1 = some ⟨b, off, none⟩ ∧ ∀ i, i < m1.length → w.cell? ⟨b, off + i, none⟩ = some (.int .u8 ((m1.getD i 0 : Nat) : Int))) := g3
  have HC2 : Hid (m2 = [] ∨ ∃ b off, a2 = some ⟨b, off, none⟩ ∧ ∀ i, i < m2.length → w.cell? ⟨b, off + i, none⟩ = some (.int .u8 ((m2.getD i 0 : Nat) : Int))) := k3
  clear g3 k3
  unfold maxLen at g2 k2
  by_cases hlt : m1.length < m2.length
  · go_wp2_with fail
    go_ret
    exact ⟨by rw [cmpZ_lt (hll.out hlt)]; rfl, Fr.refl _ _ _⟩
  by_cases hgt : m2.length < m1.length
  · go_wp2_with fail
    go_ret
    exact ⟨by rw [cmpZ_gt (hll2.out hgt)]; rfl, Fr.refl _ _ _⟩
  have hle1 : m2.length ≤ m1.length := by omega
  have hle2 : m1.length ≤ m2.length := by omega
  clear hlt hgt
  go_wp2_with fail
  go_loopw [5] (fun i wr => ∃ k n : Nat, k ≤ m1.length ∧ i = .int .i64 k ∧ Hid (m1.drop k = m2.drop k) ∧ wr = w.drewN n) (fun i _ => (intOf i).toNat)
  case atStart => exact ⟨m1.length, 0, Nat.le_refl _, rfl, by unfold Hid; rw [List.drop_of_length_le (Nat.le_refl _), List.drop_of_length_le hle1], rfl⟩
  case round =>
    obtain ⟨k, n, hk, rfl, HT, rfl⟩ := hrel
    cases k with
    | zero =>
      go_wp2
      go_ret
      refine ⟨?_, (Fr.refl _ _ _).drewN n⟩
      have : m1 = m2 := by simpa using HT.out
      have e : x = y := by rw [← HV1.out, ← HV2.out, this]
      rw [e, cmpZ_eq]
      rfl
    | succ k =>
      rcases HC1.out with h0 | ⟨b1, o1, rfl, hc1⟩
      · rw [h0] at hk; simp at hk
      rcases HC2.out with h0 | ⟨b2, o2, rfl, hc2⟩
      · rw [h0] at hle2; simp at hle2; rw [hle2] at hk; simp at hk
      obtain ⟨d1, HD1, hcell1⟩ := Sl.at (n := 0) (cap := 0) hc1 k (by omega)
      obtain ⟨d2, HD2, hcell2⟩ := Sl.at (n := 0) (cap := 0) hc2 k (by omega)
      clear hc1 hc2
      have hb1 : (k : Int) < (m1.length : Int) := by omega
      have hb2 : (k : Int) < (m2.length : Int) := by omega
      go_wp2
      go_quiet (fail)
      by_cases hlt : d1 < d2
      · go_wp2
        go_ret
        refine ⟨?_, ((Fr.refl _ _ _).drewN _).drewN _⟩
        have : x < y := by
          rw [← HV1.out, ← HV2.out]
          exact val_lt_top hdm1 (by omega) k (by omega) HT.out (by rw [HD1.out, HD2.out]; exact hlt)
        rw [cmpZ_lt this]
        rfl
      · go_wp2
        go_quiet (fail)
        by_cases hgt : d2 < d1
        · go_wp2
          go_ret
          refine ⟨?_, (((Fr.refl _ _ _).drewN _).drewN _).drewN _⟩
          have : y < x := by
            rw [← HV1.out, ← HV2.out]
            exact val_lt_top hdm2 (by omega) k (by omega) HT.out.symm (by rw [HD1.out, HD2.out]; exact hgt)
          rw [cmpZ_gt this]
          rfl
        · go_wp2
          refine ⟨⟨k, _, by omega, rfl, ?_, rfl⟩, by simp [intOf]⟩
          unfold Hid
          rw [List.drop_eq_getElem_cons (show k < m1.length by omega), List.drop_eq_getElem_cons (show k < m2.length by omega), HT.out]
          have e1 : m1.getD k 0 = m1[k] := by simp [List.getD, show k < m1.length by omega]
          have e2 : m2.getD k 0 = m2[k] := by simp [List.getD, show k < m2.length by omega]
          rw [← e1, ← e2, HD1.out, HD2.out, show d1 = d2 by omega]

set_option maxRecDepth 10000 in
set_option maxHeartbeats 1000000 in
theorem pow2_any (k : Nat) (hk : k < 65536) (w : World) :
    Calls Sang.prog 112 #[.int .u16 (k : Int)] w fun e w' => ∃ v', e = .returned v' ∧ Sl w' .u8 v' (digs (2 ^ k)) ∧ Fr w.heap.size no w w' := by
  obtain ⟨i5, hi5, hz5, hs5, hb5⟩ := info_parts info5
  go_enter Sang.func112, Sang.ntmps112
  have hg : (ints .u8 (List.replicate (k / 8 + 1) 0))[k / 8]? = some (.int .u8 0) := by simp [ints]
  go_wp2_with (first
    | ((with_reducible refine wl_make 56 5 (.tmp 7) (.tmp 7) .u8 .i64 .i64 (k / 8 + 1) ?_ ?_ i5 und34 hi5 hz5 hs5 ?_ ?_ ?_); rfl; rfl; (rw [hb5]; omega); (unfold maxLen; omega)))
  go_ret
  have hlt : 2 ^ (k % 8) < 256 := by
    have : 2 ^ (k % 8) ≤ 2 ^ 7 := Nat.pow_le_pow_right (by decide) (by omega)
    omega
  have hv : (2 : Int) ^ (k % 8) % 256 = ((2 ^ (k % 8) : Nat) : Int) := by
    have e : ((2 : Int) ^ (k % 8)) = ((2 ^ (k % 8) : Nat) : Int) := by simp
    rw [e]
    generalize 2 ^ (k % 8) = p at *
    omega
  rw [hv, ints_set]
  have hset : (List.replicate (k / 8 + 1) 0).set (k / 8) (2 ^ (k % 8)) = List.replicate (k / 8) 0 ++ [2 ^ (k % 8)] := by
    rw [List.replicate_succ', List.set_append_right _ _ (by simp)]
    simp
  have hdg : (List.replicate (k / 8 + 1) 0).set (k / 8) (2 ^ (k % 8)) = digs (2 ^ k) := by
    refine eq_digs ((Dg.replicate (by decide) _).set _ _ hlt) ?_ ?_
    · rw [hset]; exact .inr ⟨_, _, rfl, by have := Nat.two_pow_pos (k % 8); omega⟩
    · rw [hset, val_append, val_replicate]
      simp only [val, List.length_replicate, Nat.mul_zero, Nat.add_zero, Nat.zero_add]
      rw [show 256 = 2 ^ 8 from rfl, ← Nat.pow_mul, ← Nat.pow_add]
      congr 1
      omega
  rw [hdg]
  refine ⟨_, rfl, ?_, (Fr.refl _ _ _).alloc (Nat.le_refl _) _⟩
  have h1 := IB.new w .u8 5 (digs (2 ^ k))
  have hlen : (digs (2 ^ k)).length = k / 8 + 1 := by rw [← hdg]; simp
  have := Sl.of_ib h1 (k / 8 + 1) (k / 8 + 1) (by omega) (Nat.le_refl _) (by unfold maxLen; omega)
  rw [List.take_of_length_le (by omega)] at this
  exact this
end Go.Proofs.YgcsanGreat
