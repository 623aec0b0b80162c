/-
  Package nat: Add, FromU64, Bit; package yp: num, bits.
-/
import Derived.Test.YgcsanGreatNatD
namespace Go.Proofs.YgcsanGreat
open Go.RowKit
set_option linter.unusedSimpArgs false
set_option linter.unusedVariables false

theorem add_step (B : Nat) (L : List Nat) (i c d e A C : Nat) (hp : i < L.length) (HG : L.getD i 0 = 0) (HV : val B L + c * B ^ i = A + C) :
    val B (L.set i ((c + d + e) % B)) + (c + d + e) / B * B ^ (i + 1) = A + d * B ^ i + (C + e * B ^ i) := by
  have h1 := val_set B L i ((c + d + e) % B) hp
  rw [HG, Nat.zero_mul, Nat.add_zero] at h1
  have h2 : (c + d + e) % B * B ^ i + (c + d + e) / B * B ^ (i + 1) = (c + d + e) * B ^ i := by
    rw [Nat.pow_succ, Nat.mul_comm (B ^ i) B, ← Nat.mul_assoc, ← Nat.add_mul]
    congr 1
    have := Nat.mod_add_div (c + d + e) B
    rw [Nat.mul_comm] at this
    exact this
  have h3 : (c + d + e) * B ^ i = c * B ^ i + d * B ^ i + e * B ^ i := by rw [Nat.add_mul, Nat.add_mul]
  omega

set_option maxRecDepth 10000 in
set_option maxHeartbeats 2000000 in
theorem add_any (v1 v2 : Value) (l1 l2 : List Nat) (w : World) (h1 : Sl w .u8 v1 l1) (hd1 : Dg 256 l1) (h2 : Sl w .u8 v2 l2) (hd2 : Dg 256 l2) (s1 : l1.length ≤ 8388608) (s2 : l2.length ≤ 8388608) :
    Calls Sang.prog 78 #[v1, v2] w fun e w' => ∃ v', e = .returned v' ∧ Sl w' .u8 v' (digs (val 256 l1 + val 256 l2)) ∧ Fr w.heap.size no w w' := by
  obtain ⟨i5, hi5, hz5, hs5, hb5⟩ := info_parts info5
  have hn1 := digs_small hd1 s1
  have hn2 := digs_small hd2 s2
  generalize hx : val 256 l1 = x at *
  generalize hy : val 256 l2 = y at *
  have HX : Hid (val 256 l1 = x) := hx
  have HY : Hid (val 256 l2 = y) := hy
  clear hx hy
  go_enter Sang.func78, Sang.ntmps78
  go_wp2_with fail
  refine (trim_any v1 l1 _ h1 hd1).mono ?_
  rintro e w ⟨v1', rfl, hs1, rfl⟩
  go_wp2_with fail
  refine (trim_any v2 l2 _ h2 hd2).mono ?_
  rintro e w ⟨v2', rfl, hs2, rfl⟩
  rw [HX.out] at hs1
  rw [HY.out] at hs2
  have hdm1 := digs_dg x
  have hdm2 := digs_dg y
  have hv1 := val_digs x
  have hv2 := val_digs y
  generalize digs x = m1 at *
  generalize digs y = m2 at *
  have HV1 : Hid (val 256 m1 = x) := hv1
  have HV2 : Hid (val 256 m2 = y) := hv2
  clear hv1 hv2 HX HY h1 h2
  obtain ⟨a1, c1, rfl, g1, g2, g3⟩ := hs1
  obtain ⟨a2, c2, rfl, k1, k2, k3⟩ := hs2
  have HC1 : Hid (m1 = [] ∨ ∃ b off, a1 = some ⟨b, off, none⟩ ∧ ∀ i, i < m1.length → w.cell? ⟨b, off + i, none⟩ = some (.int .u8 ((m1.getD i 0 : Nat) : Int))) := g3
  have HC2 : Hid (m2 = [] ∨ ∃ b off, a2 = some ⟨b, off, none⟩ ∧ ∀ i, i < m2.length → w.cell? ⟨b, off + i, none⟩ = some (.int .u8 ((m2.getD i 0 : Nat) : Int))) := k3
  clear g3 k3
  unfold maxLen at g2 k2
  by_cases hlt : m1.length < m2.length
  · go_wp2_with (first
      | ((with_reducible refine wl_make 56 5 (.tmp 22) (.tmp 22) .u8 .i64 .i64 (m2.length + 1) ?_ ?_ i5 und34 hi5 hz5 hs5 ?_ ?_ ?_); rfl; rfl; (rw [hb5]; omega); (unfold maxLen; omega)))
    go_loopw [26, 6] (fun iv cv wr => ∃ (i c : Nat) (L : List Nat), i ≤ m2.length ∧ iv = .int .i64 i ∧ cv = .int .u16 c ∧ c ≤ 1 ∧ IB wr w.heap.size .u8 5 L ∧ L.length = m2.length + 1 ∧ Dg 256 L ∧ Hid (val 256 L + c * 256 ^ i = val 256 (m2.take i) + val 256 (m1.take i)) ∧ Hid (∀ p, i ≤ p → L.getD p 0 = 0) ∧ Fr w.heap.size no w wr) (fun i _ _ => m2.length - (intOf i).toNat)
    case atStart =>
      refine ⟨0, 0, List.replicate (m2.length + 1) 0, by omega, rfl, rfl, by omega, IB.new _ _ _ _, by simp, Dg.replicate (by decide) _, ?_, ?_, (Fr.refl _ _ _).alloc (Nat.le_refl _) _⟩
      · unfold Hid; rw [val_replicate]; simp [val]
      · intro p _; simp [List.getD, List.getElem?_replicate]; split <;> rfl
    case round =>
      obtain ⟨i, c, L, hi, rfl, rfl, hc, hL, hLl, hLd, HV, HZ, hf⟩ := hrel
      by_cases hin : i < m2.length
      · rcases HC2.out with h0 | ⟨b1, o1, rfl, hc1⟩
        · rw [h0] at hin; simp at hin
        obtain ⟨d, HD, hcd⟩ := Sl.at (n := 0) (cap := 0) hc1 i hin
        rw [← hf.cell (cell_lt hcd) (fun x => x)] at hcd
        have hd256 : d < 256 := by rw [← HD.out]; exact hdm2.getD (by decide) i
        clear hc1
        obtain ⟨g, HG, hcg⟩ : ∃ g : Nat, Hid (L.getD i 0 = g) ∧ wr.cell? ⟨w.heap.size, i, none⟩ = some (.int .u8 (g : Int)) := ⟨_, rfl, hL.cell i (by omega)⟩
        have hzg := hL.unfrozen i
        have hb1 : (i : Int) < (((m2.length + 1 : Nat)) : Int) := by omega
        have HZ1 : Hid (∀ (v : Nat) (p : Nat), i + 1 ≤ p → (L.set i v).getD p 0 = 0) := by
          intro v p hp
          have := HZ.out p (by omega)
          simp only [List.getD, List.getElem?_set] at this ⊢
          rw [if_neg (by omega)]
          exact this
        by_cases hjn : i < m1.length
        · rcases HC1.out with h0 | ⟨b2, o2, rfl, hc2⟩
          · rw [h0] at hjn; simp at hjn
          obtain ⟨e, HE, hce⟩ := Sl.at (n := 0) (cap := 0) hc2 i hjn
          rw [← hf.cell (cell_lt hce) (fun x => x)] at hce
          have he256 : e < 256 := by rw [← HE.out]; exact hdm1.getD (by decide) i
          clear hc2
          go_wp2
          refine ⟨⟨i + 1, (c + d + e) / 256, L.set i ((c + d + e) % 256), by omega, by go_num, ?_, by omega, ?_, by simpa using hLl, hLd.set _ _ (Nat.mod_lt _ (by decide)), ?_, HZ1.out _, ?_⟩, by simp [intOf]; omega⟩
          · congr 1
          · refine hL.set' i _ ?_ rfl
            omega
          · unfold Hid
            rw [val_take_any, val_take_any 256 m1, HD.out, HE.out]
            exact add_step 256 L i c d e _ _ (by omega) (HZ.out i (Nat.le_refl _)) HV.out
          · exact hf.setCell (.inl (Nat.le_refl _)) _
        · have HE : Hid (m1.getD i 0 = 0) := by unfold Hid; simp [List.getD, show m1.length ≤ i by omega]
          go_wp2
          refine ⟨⟨i + 1, (c + d + 0) / 256, L.set i ((c + d + 0) % 256), by omega, by go_num, ?_, by omega, ?_, by simpa using hLl, hLd.set _ _ (Nat.mod_lt _ (by decide)), ?_, HZ1.out _, ?_⟩, by simp [intOf]; omega⟩
          · congr 1
          · refine hL.set' i _ ?_ rfl
            omega
          · unfold Hid
            rw [val_take_any, val_take_any 256 m1, HD.out, HE.out]
            exact add_step 256 L i c d 0 _ _ (by omega) (HZ.out i (Nat.le_refl _)) HV.out
          · exact hf.setCell (.inl (Nat.le_refl _)) _
      · have : i = m2.length := by omega
        subst this
        have hcz := hL.cell m2.length (by omega)
        have hzz := hL.unfrozen m2.length
        have hb1 : (m2.length : Int) < (((m2.length + 1 : Nat)) : Int) := by omega
        go_wp2_with fail
        have hL2 := hL.set m2.length c
        have hsl := Sl.of_ib hL2 (m2.length + 1) (m2.length + 1) (by simp; omega) (Nat.le_refl _) (by unfold maxLen; omega)
        rw [List.take_of_length_le (by simp; omega)] at hsl
        refine (clip_any _ _ _ hsl (hLd.set _ _ (by omega))).mono ?_
        rintro e wr ⟨v', rfl, hs, rfl⟩
        go_wp2_with fail
        go_ret
        refine ⟨_, rfl, ?_, hf.setCell (.inl (Nat.le_refl _)) _⟩
        have h9 := HV.out
        rw [List.take_length, List.take_of_length_le (show m1.length ≤ m2.length by omega), HV2.out, HV1.out] at h9
        rw [mul_last 256 L m2.length c _ (by omega) (HZ.out _ (Nat.le_refl _)) h9] at hs
        rw [Nat.add_comm x y]
        exact hs
  · go_wp2_with (first
      | ((with_reducible refine wl_make 56 5 (.tmp 22) (.tmp 22) .u8 .i64 .i64 (m1.length + 1) ?_ ?_ i5 und34 hi5 hz5 hs5 ?_ ?_ ?_); rfl; rfl; (rw [hb5]; omega); (unfold maxLen; omega)))
    go_loopw [26, 6] (fun iv cv wr => ∃ (i c : Nat) (L : List Nat), i ≤ m1.length ∧ iv = .int .i64 i ∧ cv = .int .u16 c ∧ c ≤ 1 ∧ IB wr w.heap.size .u8 5 L ∧ L.length = m1.length + 1 ∧ Dg 256 L ∧ Hid (val 256 L + c * 256 ^ i = val 256 (m1.take i) + val 256 (m2.take i)) ∧ Hid (∀ p, i ≤ p → L.getD p 0 = 0) ∧ Fr w.heap.size no w wr) (fun i _ _ => m1.length - (intOf i).toNat)
    case atStart =>
      refine ⟨0, 0, List.replicate (m1.length + 1) 0, by omega, rfl, rfl, by omega, IB.new _ _ _ _, by simp, Dg.replicate (by decide) _, ?_, ?_, (Fr.refl _ _ _).alloc (Nat.le_refl _) _⟩
      · unfold Hid; rw [val_replicate]; simp [val]
      · intro p _; simp [List.getD, List.getElem?_replicate]; split <;> rfl
    case round =>
      obtain ⟨i, c, L, hi, rfl, rfl, hc, hL, hLl, hLd, HV, HZ, hf⟩ := hrel
      by_cases hin : i < m1.length
      · rcases HC1.out with h0 | ⟨b1, o1, rfl, hc1⟩
        · rw [h0] at hin; simp at hin
        obtain ⟨d, HD, hcd⟩ := Sl.at (n := 0) (cap := 0) hc1 i hin
        rw [← hf.cell (cell_lt hcd) (fun x => x)] at hcd
        have hd256 : d < 256 := by rw [← HD.out]; exact hdm1.getD (by decide) i
        clear hc1
        obtain ⟨g, HG, hcg⟩ : ∃ g : Nat, Hid (L.getD i 0 = g) ∧ wr.cell? ⟨w.heap.size, i, none⟩ = some (.int .u8 (g : Int)) := ⟨_, rfl, hL.cell i (by omega)⟩
        have hzg := hL.unfrozen i
        have hb1 : (i : Int) < (((m1.length + 1 : Nat)) : Int) := by omega
        have HZ1 : Hid (∀ (v : Nat) (p : Nat), i + 1 ≤ p → (L.set i v).getD p 0 = 0) := by
          intro v p hp
          have := HZ.out p (by omega)
          simp only [List.getD, List.getElem?_set] at this ⊢
          rw [if_neg (by omega)]
          exact this
        by_cases hjn : i < m2.length
        · rcases HC2.out with h0 | ⟨b2, o2, rfl, hc2⟩
          · rw [h0] at hjn; simp at hjn
          obtain ⟨e, HE, hce⟩ := Sl.at (n := 0) (cap := 0) hc2 i hjn
          rw [← hf.cell (cell_lt hce) (fun x => x)] at hce
          have he256 : e < 256 := by rw [← HE.out]; exact hdm2.getD (by decide) i
          clear hc2
          go_wp2
          refine ⟨⟨i + 1, (c + d + e) / 256, L.set i ((c + d + e) % 256), by omega, by go_num, ?_, by omega, ?_, by simpa using hLl, hLd.set _ _ (Nat.mod_lt _ (by decide)), ?_, HZ1.out _, ?_⟩, by simp [intOf]; omega⟩
          · congr 1
          · refine hL.set' i _ ?_ rfl
            omega
          · unfold Hid
            rw [val_take_any, val_take_any 256 m2, HD.out, HE.out]
            exact add_step 256 L i c d e _ _ (by omega) (HZ.out i (Nat.le_refl _)) HV.out
          · exact hf.setCell (.inl (Nat.le_refl _)) _
        · have HE : Hid (m2.getD i 0 = 0) := by unfold Hid; simp [List.getD, show m2.length ≤ i by omega]
          go_wp2
          refine ⟨⟨i + 1, (c + d + 0) / 256, L.set i ((c + d + 0) % 256), by omega, by go_num, ?_, by omega, ?_, by simpa using hLl, hLd.set _ _ (Nat.mod_lt _ (by decide)), ?_, HZ1.out _, ?_⟩, by simp [intOf]; omega⟩
          · congr 1
          · refine hL.set' i _ ?_ rfl
            omega
          · unfold Hid
            rw [val_take_any, val_take_any 256 m2, HD.out, HE.out]
            exact add_step 256 L i c d 0 _ _ (by omega) (HZ.out i (Nat.le_refl _)) HV.out
          · exact hf.setCell (.inl (Nat.le_refl _)) _
      · have : i = m1.length := by omega
        subst this
        have hcz := hL.cell m1.length (by omega)
        have hzz := hL.unfrozen m1.length
        have hb1 : (m1.length : Int) < (((m1.length + 1 : Nat)) : Int) := by omega
        go_wp2_with fail
        have hL2 := hL.set m1.length c
        have hsl := Sl.of_ib hL2 (m1.length + 1) (m1.length + 1) (by simp; omega) (Nat.le_refl _) (by unfold maxLen; omega)
        rw [List.take_of_length_le (by simp; omega)] at hsl
        refine (clip_any _ _ _ hsl (hLd.set _ _ (by omega))).mono ?_
        rintro e wr ⟨v', rfl, hs, rfl⟩
        go_wp2_with fail
        go_ret
        refine ⟨_, rfl, ?_, hf.setCell (.inl (Nat.le_refl _)) _⟩
        have h9 := HV.out
        rw [List.take_length, List.take_of_length_le (show m2.length ≤ m1.length by omega), HV1.out, HV2.out] at h9
        rw [mul_last 256 L m1.length c _ (by omega) (HZ.out _ (Nat.le_refl _)) h9] at hs
        exact hs

theorem siz174 : (Sang.prog.info? 217).map (·.size) = some 8 := by kernel_rfl

set_option maxRecDepth 10000 in
set_option maxHeartbeats 1000000 in
theorem fromU64_any (x : Nat) (w : World) (hx : x < W64) :
    Calls Sang.prog 109 #[.int .u64 (x : Int)] w fun e w' => ∃ v', e = .returned v' ∧ Sl w' .u8 v' (digs x) ∧ Fr w.heap.size no w w' := by
  have HX : Hid (x < W64) := hx
  clear hx
  have HG : Hid (∀ i, i < 8 → (limbs 256 8 x).getD i 0 = x / 256 ^ i % 256) := fun i hi => limbs_get 256 8 x i hi
  have HD := limbs_dg (B := 256) (by decide) 8 x
  have HL : (limbs 256 8 x).length = 8 := limbs_length _ _ _
  have HV : Hid (val 256 (limbs 256 8 x) = x) := by unfold Hid; rw [val_limbs]; exact Nat.mod_eq_of_lt HX.out
  generalize limbs 256 8 x = M at *
  go_enter Sang.func109, Sang.ntmps109
  go_wp2
  go_loopw [5, 0] (fun iv xv wr => ∃ i : Nat, i ≤ 8 ∧ iv = .int .i64 i ∧ xv = .int .u64 ((x / 256 ^ i : Nat) : Int) ∧ IB wr w.heap.size .u8 217 (part M i) ∧ Fr w.heap.size no w wr) (fun i _ _ => 8 - (intOf i).toNat)
  case atStart =>
    refine ⟨0, by omega, rfl, by simp, ?_, (Fr.refl _ _ _).alloc (Nat.le_refl _) _⟩
    refine IB.newAt rfl ?_
    rw [part_zero, HL]; rfl
  case round =>
    obtain ⟨i, hi, rfl, rfl, hL, hf⟩ := hrel
    have hpl : (part M i).length = 8 := by rw [part_length _ _ (by omega), HL]
    by_cases hin : i < 8
    · have hq : Hid (x / 256 ^ i / 256 = x / 256 ^ (i + 1)) := by unfold Hid; rw [Nat.pow_succ, Nat.div_div_eq_div_mul]
      have hlt : Hid (x / 256 ^ i < W64) := Nat.lt_of_le_of_lt (Nat.div_le_self _ _) HX.out
      have HGi := HG.out i hin
      have HGi' : Hid (M.getD i 0 = x / 256 ^ i % 256) := HGi
      clear HGi
      have hcz := hL.cell i (by omega)
      have hzz := hL.unfrozen i
      generalize x / 256 ^ i = q at *
      go_wp2
      refine ⟨⟨i + 1, by omega, by go_num, ?_, ?_, ?_⟩, by simp [intOf]; omega⟩
      · rw [← hq.out]; congr 1
      · refine hL.set' i (q % 256) ?_ ?_
        · omega
        · rw [part_succ _ _ (by omega), HGi'.out]
      · exact hf.setCell (.inl (Nat.le_refl _)) _
    · have : i = 8 := by omega
      subst this
      go_wp2_with fail
      have hsl := Sl.of_ib hL 8 8 (by omega) (Nat.le_refl _) (by decide)
      have e8 : (part M 8).take 8 = M := by
        have := part_all M
        rw [HL] at this
        rw [this, List.take_of_length_le (by omega)]
      rw [e8] at hsl
      refine (norm_any _ _ _ hsl HD (by omega)).mono ?_
      rintro e w2 ⟨v', rfl, hs, hf2⟩
      rw [HV.out] at hs
      go_wp2_with fail
      go_ret
      exact ⟨_, rfl, hs, hf.step hf2 hf.size (fun _ _ x => x)⟩

set_option maxRecDepth 10000 in
set_option maxHeartbeats 400000 in
theorem num_any (x : Nat) (w : World) (hx : x < W64) :
    Calls Sang.prog 65 #[.int .u64 (x : Int)] w fun e w' => ∃ v', e = .returned v' ∧ Sl w' .u8 v' (digs x) ∧ Fr w.heap.size no w w' := by
  go_enter Sang.func65, Sang.ntmps65
  go_wp2_with fail
  refine (fromU64_any x _ hx).mono ?_
  rintro e w2 ⟨v', rfl, hs, hf2⟩
  go_wp2_with fail
  go_ret
  exact ⟨_, rfl, hs, hf2⟩
end Go.Proofs.YgcsanGreat
