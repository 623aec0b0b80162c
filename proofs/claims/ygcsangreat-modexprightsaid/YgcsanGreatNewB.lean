/-
  Numbers once more: sums and products lie in new memory.
-/
import Derived.Test.YgcsanGreatNewA
namespace Go.Proofs.YgcsanGreat
open Go.RowKit
set_option linter.unusedSimpArgs false
set_option linter.unusedVariables false

theorem clip_newE {b n : Nat} (cap : Nat) (t : TypeId) (L : List Nat) (w : World) (h : IB w b .u8 t L) (hd : Dg 256 L) (hn : n = L.length) (hcap : L.length ≤ cap) (hmx : cap ≤ maxLen) :
    Calls Sang.prog 137 #[.slice (some ⟨b, 0, none⟩) n cap] w fun e w' => ∃ v', e = .returned v' ∧ NewD b w v' (digs (val 256 L)) ∧ w' = w := by
  subst hn; exact clip_new b cap t L w h hd hcap hmx

set_option maxRecDepth 10000 in
set_option maxHeartbeats 2000000 in
theorem add_new (v1 v2 : Value) (l1 l2 : List Nat) (w : World) (h1 : Sl w .u8 v1 l1) (hd1 : Dg 256 l1) (h2 : Sl w .u8 v2 l2) (hd2 : Dg 256 l2) (s1 : l1.length ≤ 8388608) (s2 : l2.length ≤ 8388608) :
    Calls Sang.prog 78 #[v1, v2] w fun e w' => ∃ v', e = .returned v' ∧ NewD w.heap.size w' v' (digs (val 256 l1 + val 256 l2)) ∧ Fr w.heap.size no w w' := by
  obtain ⟨i5, hi5, hz5, hs5, hb5⟩ := info_parts info5
  have hn1 := digs_small hd1 s1
  have hn2 := digs_small hd2 s2
  generalize hx : val 256 l1 = x at *
  generalize hy : val 256 l2 = y at *
  have HX : Hid (val 256 l1 = x) := hx
  have HY : Hid (val 256 l2 = y) := hy
  clear hx hy
  go_enter Sang.func78, Sang.ntmps78
  go_wp2_with fail
  refine (trim_any v1 l1 _ h1 hd1).mono ?_
  rintro e w ⟨v1', rfl, hs1, rfl⟩
  go_wp2_with fail
  refine (trim_any v2 l2 _ h2 hd2).mono ?_
  rintro e w ⟨v2', rfl, hs2, rfl⟩
  rw [HX.out] at hs1
  rw [HY.out] at hs2
  have hdm1 := digs_dg x
  have hdm2 := digs_dg y
  have hv1 := val_digs x
  have hv2 := val_digs y
  generalize digs x = m1 at *
  generalize digs y = m2 at *
  have HV1 : Hid (val 256 m1 = x) := hv1
  have HV2 : Hid (val 256 m2 = y) := hv2
  clear hv1 hv2 HX HY h1 h2
  obtain ⟨a1, c1, rfl, g1, g2, g3⟩ := hs1
  obtain ⟨a2, c2, rfl, k1, k2, k3⟩ := hs2
  have HC1 : Hid (m1 = [] ∨ ∃ b off, a1 = some ⟨b, off, none⟩ ∧ ∀ i, i < m1.length → w.cell? ⟨b, off + i, none⟩ = some (.int .u8 ((m1.getD i 0 : Nat) : Int))) := g3
  have HC2 : Hid (m2 = [] ∨ ∃ b off, a2 = some ⟨b, off, none⟩ ∧ ∀ i, i < m2.length → w.cell? ⟨b, off + i, none⟩ = some (.int .u8 ((m2.getD i 0 : Nat) : Int))) := k3
  clear g3 k3
  unfold maxLen at g2 k2
  by_cases hlt : m1.length < m2.length
  · go_wp2_with (first
      | ((with_reducible refine wl_make 56 5 (.tmp 22) (.tmp 22) .u8 .i64 .i64 (m2.length + 1) ?_ ?_ i5 und34 hi5 hz5 hs5 ?_ ?_ ?_); rfl; rfl; (rw [hb5]; omega); (unfold maxLen; omega)))
    go_loopw [26, 6] (fun iv cv wr => ∃ (i c : Nat) (L : List Nat), i ≤ m2.length ∧ iv = .int .i64 i ∧ cv = .int .u16 c ∧ c ≤ 1 ∧ IB wr w.heap.size .u8 5 L ∧ L.length = m2.length + 1 ∧ Dg 256 L ∧ Hid (val 256 L + c * 256 ^ i = val 256 (m2.take i) + val 256 (m1.take i)) ∧ Hid (∀ p, i ≤ p → L.getD p 0 = 0) ∧ Fr w.heap.size no w wr) (fun i _ _ => m2.length - (intOf i).toNat)
    case atStart =>
      refine ⟨0, 0, List.replicate (m2.length + 1) 0, by omega, rfl, rfl, by omega, IB.new _ _ _ _, by simp, Dg.replicate (by decide) _, ?_, ?_, (Fr.refl _ _ _).alloc (Nat.le_refl _) _⟩
      · unfold Hid; rw [val_replicate]; simp [val]
      · intro p _; simp [List.getD, List.getElem?_replicate]; split <;> rfl
    case round =>
      obtain ⟨i, c, L, hi, rfl, rfl, hc, hL, hLl, hLd, HV, HZ, hf⟩ := hrel
      by_cases hin : i < m2.length
      · rcases HC2.out with h0 | ⟨b1, o1, rfl, hc1⟩
        · rw [h0] at hin; simp at hin
        obtain ⟨d, HD, hcd⟩ := Sl.at (n := 0) (cap := 0) hc1 i hin
        rw [← hf.cell (cell_lt hcd) (fun x => x)] at hcd
        have hd256 : d < 256 := by rw [← HD.out]; exact hdm2.getD (by decide) i
        clear hc1
        obtain ⟨g, HG, hcg⟩ : ∃ g : Nat, Hid (L.getD i 0 = g) ∧ wr.cell? ⟨w.heap.size, i, none⟩ = some (.int .u8 (g : Int)) := ⟨_, rfl, hL.cell i (by omega)⟩
        have hzg := hL.unfrozen i
        have hb1 : (i : Int) < (((m2.length + 1 : Nat)) : Int) := by omega
        have HZ1 : Hid (∀ (v : Nat) (p : Nat), i + 1 ≤ p → (L.set i v).getD p 0 = 0) := by
          intro v p hp
          have := HZ.out p (by omega)
          simp only [List.getD, List.getElem?_set] at this ⊢
          rw [if_neg (by omega)]
          exact this
        by_cases hjn : i < m1.length
        · rcases HC1.out with h0 | ⟨b2, o2, rfl, hc2⟩
          · rw [h0] at hjn; simp at hjn
          obtain ⟨e, HE, hce⟩ := Sl.at (n := 0) (cap := 0) hc2 i hjn
          rw [← hf.cell (cell_lt hce) (fun x => x)] at hce
          have he256 : e < 256 := by rw [← HE.out]; exact hdm1.getD (by decide) i
          clear hc2
          go_wp2
          refine ⟨⟨i + 1, (c + d + e) / 256, L.set i ((c + d + e) % 256), by omega, by go_num, ?_, by omega, ?_, by simpa using hLl, hLd.set _ _ (Nat.mod_lt _ (by decide)), ?_, HZ1.out _, ?_⟩, by simp [intOf]; omega⟩
          · congr 1
          · refine hL.set' i _ ?_ rfl
            omega
          · unfold Hid
            rw [val_take_any, val_take_any 256 m1, HD.out, HE.out]
            exact add_step 256 L i c d e _ _ (by omega) (HZ.out i (Nat.le_refl _)) HV.out
          · exact hf.setCell (.inl (Nat.le_refl _)) _
        · have HE : Hid (m1.getD i 0 = 0) := by unfold Hid; simp [List.getD, show m1.length ≤ i by omega]
          go_wp2
          refine ⟨⟨i + 1, (c + d + 0) / 256, L.set i ((c + d + 0) % 256), by omega, by go_num, ?_, by omega, ?_, by simpa using hLl, hLd.set _ _ (Nat.mod_lt _ (by decide)), ?_, HZ1.out _, ?_⟩, by simp [intOf]; omega⟩
          · congr 1
          · refine hL.set' i _ ?_ rfl
            omega
          · unfold Hid
            rw [val_take_any, val_take_any 256 m1, HD.out, HE.out]
            exact add_step 256 L i c d 0 _ _ (by omega) (HZ.out i (Nat.le_refl _)) HV.out
          · exact hf.setCell (.inl (Nat.le_refl _)) _
      · have : i = m2.length := by omega
        subst this
        have hcz := hL.cell m2.length (by omega)
        have hzz := hL.unfrozen m2.length
        have hb1 : (m2.length : Int) < (((m2.length + 1 : Nat)) : Int) := by omega
        go_wp2_with fail
        have hL2 := hL.set m2.length c
        have hsl := Sl.of_ib hL2 (m2.length + 1) (m2.length + 1) (by simp; omega) (Nat.le_refl _) (by unfold maxLen; omega)
        rw [List.take_of_length_le (by simp; omega)] at hsl
        clear hsl
        refine (clip_newE _ _ _ _ hL2 (hLd.set _ _ (by omega)) (by simp; omega) (by simp; omega) (by unfold maxLen; omega)).mono ?_
        rintro e wr ⟨v', rfl, hs, rfl⟩
        go_wp2_with fail
        go_ret
        refine ⟨_, rfl, ?_, hf.setCell (.inl (Nat.le_refl _)) _⟩
        have h9 := HV.out
        rw [List.take_length, List.take_of_length_le (show m1.length ≤ m2.length by omega), HV2.out, HV1.out] at h9
        rw [mul_last 256 L m2.length c _ (by omega) (HZ.out _ (Nat.le_refl _)) h9] at hs
        rw [Nat.add_comm x y]
        exact hs
  · go_wp2_with (first
      | ((with_reducible refine wl_make 56 5 (.tmp 22) (.tmp 22) .u8 .i64 .i64 (m1.length + 1) ?_ ?_ i5 und34 hi5 hz5 hs5 ?_ ?_ ?_); rfl; rfl; (rw [hb5]; omega); (unfold maxLen; omega)))
    go_loopw [26, 6] (fun iv cv wr => ∃ (i c : Nat) (L : List Nat), i ≤ m1.length ∧ iv = .int .i64 i ∧ cv = .int .u16 c ∧ c ≤ 1 ∧ IB wr w.heap.size .u8 5 L ∧ L.length = m1.length + 1 ∧ Dg 256 L ∧ Hid (val 256 L + c * 256 ^ i = val 256 (m1.take i) + val 256 (m2.take i)) ∧ Hid (∀ p, i ≤ p → L.getD p 0 = 0) ∧ Fr w.heap.size no w wr) (fun i _ _ => m1.length - (intOf i).toNat)
    case atStart =>
      refine ⟨0, 0, List.replicate (m1.length + 1) 0, by omega, rfl, rfl, by omega, IB.new _ _ _ _, by simp, Dg.replicate (by decide) _, ?_, ?_, (Fr.refl _ _ _).alloc (Nat.le_refl _) _⟩
      · unfold Hid; rw [val_replicate]; simp [val]
      · intro p _; simp [List.getD, List.getElem?_replicate]; split <;> rfl
    case round =>
      obtain ⟨i, c, L, hi, rfl, rfl, hc, hL, hLl, hLd, HV, HZ, hf⟩ := hrel
      by_cases hin : i < m1.length
      · rcases HC1.out with h0 | ⟨b1, o1, rfl, hc1⟩
        · rw [h0] at hin; simp at hin
        obtain ⟨d, HD, hcd⟩ := Sl.at (n := 0) (cap := 0) hc1 i hin
        rw [← hf.cell (cell_lt hcd) (fun x => x)] at hcd
        have hd256 : d < 256 := by rw [← HD.out]; exact hdm1.getD (by decide) i
        clear hc1
        obtain ⟨g, HG, hcg⟩ : ∃ g : Nat, Hid (L.getD i 0 = g) ∧ wr.cell? ⟨w.heap.size, i, none⟩ = some (.int .u8 (g : Int)) := ⟨_, rfl, hL.cell i (by omega)⟩
        have hzg := hL.unfrozen i
        have hb1 : (i : Int) < (((m1.length + 1 : Nat)) : Int) := by omega
        have HZ1 : Hid (∀ (v : Nat) (p : Nat), i + 1 ≤ p → (L.set i v).getD p 0 = 0) := by
          intro v p hp
          have := HZ.out p (by omega)
          simp only [List.getD, List.getElem?_set] at this ⊢
          rw [if_neg (by omega)]
          exact this
        by_cases hjn : i < m2.length
        · rcases HC2.out with h0 | ⟨b2, o2, rfl, hc2⟩
          · rw [h0] at hjn; simp at hjn
          obtain ⟨e, HE, hce⟩ := Sl.at (n := 0) (cap := 0) hc2 i hjn
          rw [← hf.cell (cell_lt hce) (fun x => x)] at hce
          have he256 : e < 256 := by rw [← HE.out]; exact hdm2.getD (by decide) i
          clear hc2
          go_wp2
          refine ⟨⟨i + 1, (c + d + e) / 256, L.set i ((c + d + e) % 256), by omega, by go_num, ?_, by omega, ?_, by simpa using hLl, hLd.set _ _ (Nat.mod_lt _ (by decide)), ?_, HZ1.out _, ?_⟩, by simp [intOf]; omega⟩
          · congr 1
          · refine hL.set' i _ ?_ rfl
            omega
          · unfold Hid
            rw [val_take_any, val_take_any 256 m2, HD.out, HE.out]
            exact add_step 256 L i c d e _ _ (by omega) (HZ.out i (Nat.le_refl _)) HV.out
          · exact hf.setCell (.inl (Nat.le_refl _)) _
        · have HE : Hid (m2.getD i 0 = 0) := by unfold Hid; simp [List.getD, show m2.length ≤ i by omega]
          go_wp2
          refine ⟨⟨i + 1, (c + d + 0) / 256, L.set i ((c + d + 0) % 256), by omega, by go_num, ?_, by omega, ?_, by simpa using hLl, hLd.set _ _ (Nat.mod_lt _ (by decide)), ?_, HZ1.out _, ?_⟩, by simp [intOf]; omega⟩
          · congr 1
          · refine hL.set' i _ ?_ rfl
            omega
          · unfold Hid
            rw [val_take_any, val_take_any 256 m2, HD.out, HE.out]
            exact add_step 256 L i c d 0 _ _ (by omega) (HZ.out i (Nat.le_refl _)) HV.out
          · exact hf.setCell (.inl (Nat.le_refl _)) _
      · have : i = m1.length := by omega
        subst this
        have hcz := hL.cell m1.length (by omega)
        have hzz := hL.unfrozen m1.length
        have hb1 : (m1.length : Int) < (((m1.length + 1 : Nat)) : Int) := by omega
        go_wp2_with fail
        have hL2 := hL.set m1.length c
        have hsl := Sl.of_ib hL2 (m1.length + 1) (m1.length + 1) (by simp; omega) (Nat.le_refl _) (by unfold maxLen; omega)
        rw [List.take_of_length_le (by simp; omega)] at hsl
        clear hsl
        refine (clip_newE _ _ _ _ hL2 (hLd.set _ _ (by omega)) (by simp; omega) (by simp; omega) (by unfold maxLen; omega)).mono ?_
        rintro e wr ⟨v', rfl, hs, rfl⟩
        go_wp2_with fail
        go_ret
        refine ⟨_, rfl, ?_, hf.setCell (.inl (Nat.le_refl _)) _⟩
        have h9 := HV.out
        rw [List.take_length, List.take_of_length_le (show m2.length ≤ m1.length by omega), HV1.out, HV2.out] at h9
        rw [mul_last 256 L m1.length c _ (by omega) (HZ.out _ (Nat.le_refl _)) h9] at hs
        exact hs

set_option maxRecDepth 10000 in
set_option maxHeartbeats 2000000 in
theorem mul_new (v1 v2 : Value) (l1 l2 : List Nat) (w : World) (h1 : Sl w .u8 v1 l1) (hd1 : Dg 256 l1) (h2 : Sl w .u8 v2 l2) (hd2 : Dg 256 l2) (s1 : l1.length ≤ 8388608) (s2 : l2.length ≤ 8388608) :
    Calls Sang.prog 80 #[v1, v2] w fun e w' => ∃ v', e = .returned v' ∧ NewD w.heap.size w' v' (digs (val 256 l1 * val 256 l2)) ∧ Fr w.heap.size no w w' := by
  obtain ⟨i5, hi5, hz5, hs5, hb5⟩ := info_parts info5
  have hn1 := digs_small hd1 s1
  have hn2 := digs_small hd2 s2
  generalize hx : val 256 l1 = x at *
  generalize hy : val 256 l2 = y at *
  have HX : Hid (val 256 l1 = x) := hx
  have HY : Hid (val 256 l2 = y) := hy
  clear hx hy
  go_enter Sang.func80, Sang.ntmps80
  go_wp2_with fail
  refine (trim_any v1 l1 _ h1 hd1).mono ?_
  rintro e w ⟨v1', rfl, hs1, rfl⟩
  go_wp2_with fail
  refine (trim_any v2 l2 _ h2 hd2).mono ?_
  rintro e w ⟨v2', rfl, hs2, rfl⟩
  rw [HX.out] at hs1
  rw [HY.out] at hs2
  have hdm1 := digs_dg x
  have hdm2 := digs_dg y
  have hv1 := val_digs x
  have hv2 := val_digs y
  generalize digs x = m1 at *
  generalize digs y = m2 at *
  have HV1 : Hid (val 256 m1 = x) := hv1
  have HV2 : Hid (val 256 m2 = y) := hv2
  clear hv1 hv2 HX HY h1 h2
  obtain ⟨a1, c1, rfl, g1, g2, g3⟩ := hs1
  obtain ⟨a2, c2, rfl, k1, k2, k3⟩ := hs2
  have HC1 : Hid (m1 = [] ∨ ∃ b off, a1 = some ⟨b, off, none⟩ ∧ ∀ i, i < m1.length → w.cell? ⟨b, off + i, none⟩ = some (.int .u8 ((m1.getD i 0 : Nat) : Int))) := g3
  have HC2 : Hid (m2 = [] ∨ ∃ b off, a2 = some ⟨b, off, none⟩ ∧ ∀ i, i < m2.length → w.cell? ⟨b, off + i, none⟩ = some (.int .u8 ((m2.getD i 0 : Nat) : Int))) := k3
  clear g3 k3
  unfold maxLen at g2 k2
  go_wp2_with (first
    | ((with_reducible refine wl_make 56 5 (.tmp 19) (.tmp 19) .u8 .i64 .i64 (m1.length + m2.length) ?_ ?_ i5 und34 hi5 hz5 hs5 ?_ ?_ ?_); rfl; rfl; (rw [hb5]; omega); (unfold maxLen; omega)))
  go_loopw [23] (fun i wr => ∃ (k : Nat) (L : List Nat), k ≤ m1.length ∧ i = .int .i64 k ∧ IB wr w.heap.size .u8 5 L ∧ L.length = m1.length + m2.length ∧ Dg 256 L ∧ Hid (val 256 L = val 256 (m1.take k) * y) ∧ Hid (∀ p, k + m2.length ≤ p → L.getD p 0 = 0) ∧ Fr w.heap.size no w wr) (fun i _ => m1.length - (intOf i).toNat)
  case atStart =>
    refine ⟨0, List.replicate (m1.length + m2.length) 0, by omega, rfl, IB.new _ _ _ _, by simp, Dg.replicate (by decide) _, ?_, ?_, (Fr.refl _ _ _).alloc (Nat.le_refl _) _⟩
    · unfold Hid; rw [val_replicate]; simp [val]
    · intro p _; simp [List.getD, List.getElem?_replicate]; split <;> rfl
  case round =>
    obtain ⟨k, L, hk, rfl, hL, hLl, hLd, HV, HZ, hf⟩ := hrel
    by_cases hkn : k < m1.length
    · rcases HC1.out with h0 | ⟨b1, o1, rfl, hc1⟩
      · rw [h0] at hkn; simp at hkn
      obtain ⟨d, HD, hcd⟩ := Sl.at (n := 0) (cap := 0) hc1 k hkn
      rw [← hf.cell (cell_lt hcd) (fun x => x)] at hcd
      have hd256 : d < 256 := by rw [← HD.out]; exact hdm1.getD (by decide) k
      clear hc1
      go_wp2
      go_loopw [30, 8] (fun i cv wr' => ∃ (j c : Nat) (L' : List Nat), j ≤ m2.length ∧ i = .int .i64 j ∧ cv = .int .u32 c ∧ c < 256 ∧ IB wr' w.heap.size .u8 5 L' ∧ L'.length = m1.length + m2.length ∧ Dg 256 L' ∧ Hid (val 256 L' + c * 256 ^ (k + j) = val 256 (m1.take k) * y + d * val 256 (m2.take j) * 256 ^ k) ∧ Hid (∀ p, k + m2.length ≤ p → L'.getD p 0 = 0) ∧ Fr w.heap.size no w wr') (fun i _ _ => m2.length - (intOf i).toNat)
      case atStart =>
        refine ⟨0, 0, L, by omega, rfl, rfl, by omega, hL, hLl, hLd, ?_, HZ, hf⟩
        unfold Hid; rw [HV.out]; simp [val]
      case round =>
        obtain ⟨j, c, L', hj, rfl, rfl, hc, hL', hLl', hLd', HV', HZ', hf'⟩ := hrel
        by_cases hjn : j < m2.length
        · rcases HC2.out with h0 | ⟨b2, o2, rfl, hc2⟩
          · rw [h0] at hjn; simp at hjn
          obtain ⟨e, HE, hce⟩ := Sl.at (n := 0) (cap := 0) hc2 j hjn
          rw [← hf'.cell (cell_lt hce) (fun x => x)] at hce
          have he256 : e < 256 := by rw [← HE.out]; exact hdm2.getD (by decide) j
          clear hc2
          obtain ⟨g, HG, hcg⟩ : ∃ g : Nat, Hid (L'.getD (k + j) 0 = g) ∧ wr.cell? ⟨w.heap.size, k + j, none⟩ = some (.int .u8 (g : Int)) := ⟨_, rfl, hL'.cell (k + j) (by omega)⟩
          have hzg := hL'.unfrozen (k + j)
          have hg256 : g < 256 := by rw [← HG.out]; exact hLd'.getD (by decide) _
          have hb1 : (k : Int) + (j : Int) < ((m1.length + m2.length : Nat) : Int) := by omega
          go_wp2
          have hde : d * e ≤ 255 * 255 := Nat.mul_le_mul (by omega) (by omega)
          refine ⟨⟨j + 1, (c + (d * e + g)) / 256, L'.set (k + j) ((c + (d * e + g)) % 256), by omega, by go_num, ?_, ?_, ?_, by simpa using hLl', hLd'.set _ _ (Nat.mod_lt _ (by decide)), ?_, ?_, ?_⟩, by simp [intOf]; omega⟩
          · congr 1
            omega
          · generalize d * e = p at *
            omega
          · refine hL'.set' (k + j) _ ?_ rfl
            omega
          · unfold Hid
            rw [val_take_succ 256 m2 j hjn, HE.out]
            exact mul_step 256 L' k j c d e g _ _ (by omega) HG.out HV'.out
          · intro p hp
            have := HZ'.out p hp
            simp only [List.getD, List.getElem?_set] at this ⊢
            rw [if_neg (by omega)]
            exact this
          · exact hf'.setCell (.inl (Nat.le_refl _)) _
        · have : j = m2.length := by omega
          subst this
          have hcz := hL'.cell (k + m2.length) (by omega)
          have hzz := hL'.unfrozen (k + m2.length)
          have hb1 : (k : Int) + (m2.length : Int) < ((m1.length + m2.length : Nat) : Int) := by omega
          go_wp2
          refine ⟨⟨k + 1, L'.set (k + m2.length) c, by omega, by go_num, hL'.set (k + m2.length) c, by simpa using hLl', hLd'.set _ _ hc, ?_, ?_, hf'.setCell (.inl (Nat.le_refl _)) _⟩, by simp [intOf]; omega⟩
          · unfold Hid
            refine mul_last 256 L' (k + m2.length) c _ (by omega) (HZ'.out _ (Nat.le_refl _)) ?_
            rw [HV'.out, val_take_succ 256 m1 k hkn, HD.out, List.take_length, HV2.out, Nat.add_mul]
            congr 1
            rw [Nat.mul_assoc, Nat.mul_comm y, ← Nat.mul_assoc]
          · intro p hp
            have := HZ'.out p (by omega)
            simp only [List.getD, List.getElem?_set] at this ⊢
            rw [if_neg (by omega)]
            exact this
    · have : k = m1.length := by omega
      subst this
      go_wp2_with fail
      have hsl := Sl.of_ib hL (m1.length + m2.length) (m1.length + m2.length) (by omega) (Nat.le_refl _) (by unfold maxLen; omega)
      rw [List.take_of_length_le (by omega)] at hsl
      clear hsl
      refine (clip_newE _ _ _ _ hL hLd (by omega) (by omega) (by unfold maxLen; omega)).mono ?_
      rintro e wr ⟨v', rfl, hs, rfl⟩
      go_wp2_with fail
      go_ret
      refine ⟨_, rfl, ?_, hf⟩
      rw [HV.out, List.take_length, HV1.out] at hs
      exact hs

end Go.Proofs.YgcsanGreat
