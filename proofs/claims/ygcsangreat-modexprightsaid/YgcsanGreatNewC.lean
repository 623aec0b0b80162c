/-
  Numbers once more: quotients and differences lie in new memory.
-/
import Derived.Test.YgcsanGreatNewB
namespace Go.Proofs.YgcsanGreat
open Go.RowKit
set_option linter.unusedSimpArgs false
set_option linter.unusedVariables false

set_option maxRecDepth 10000 in
set_option maxHeartbeats 4000000 in
theorem divMod_new (v1 v2 : Value) (l1 l2 : List Nat) (w : World) (h1 : Sl w .u8 v1 l1) (hd1 : Dg 256 l1) (h2 : Sl w .u8 v2 l2) (hd2 : Dg 256 l2) (s1 : l1.length ≤ 8388608) (s2 : l2.length ≤ 8388608) (hy0 : val 256 l2 ≠ 0) :
    Calls Sang.prog 142 #[v1, v2] w fun e w' => ∃ vq vr, e = .returned (.tuple #[vq, vr, .bool true]) ∧ NewD w.heap.size w' vq (digs (val 256 l1 / val 256 l2)) ∧ Sl w' .u8 vr (digs (val 256 l1 % val 256 l2)) ∧ Fr w.heap.size no w w' := by
  obtain ⟨i5, hi5, hz5, hs5, hb5⟩ := info_parts info5
  have hn1 := digs_small hd1 s1
  have hn2 := digs_small hd2 s2
  generalize hx : val 256 l1 = x at *
  generalize hy : val 256 l2 = y at *
  have HX : Hid (val 256 l1 = x) := hx
  have HY : Hid (val 256 l2 = y) := hy
  have HY0 : Hid (y ≠ 0) := hy0
  clear hx hy hy0
  go_enter Sang.func142, Sang.ntmps142
  go_wp2_with fail
  refine (trim_any v1 l1 _ h1 hd1).mono ?_
  rintro e w ⟨v1', rfl, hs1, rfl⟩
  go_wp2_with fail
  refine (trim_any v2 l2 _ h2 hd2).mono ?_
  rintro e w ⟨v2', rfl, hs2, rfl⟩
  rw [HX.out] at hs1
  rw [HY.out] at hs2
  have hdm1 := digs_dg x
  have hdm2 := digs_dg y
  have hv1 := val_digs x
  have hv2 := val_digs y
  generalize digs x = m1 at *
  generalize digs y = m2 at *
  have HV1 : Hid (val 256 m1 = x) := hv1
  have HV2 : Hid (val 256 m2 = y) := hv2
  clear hv1 hv2 HX HY h1 h2
  have HS2 : Hid (Sl w .u8 v2' m2) := hs2
  obtain ⟨a1, c1, rfl, g1, g2, g3⟩ := hs1
  obtain ⟨a2, c2, rfl, k1, k2, k3⟩ := hs2
  have HC1 : Hid (m1 = [] ∨ ∃ b off, a1 = some ⟨b, off, none⟩ ∧ ∀ i, i < m1.length → w.cell? ⟨b, off + i, none⟩ = some (.int .u8 ((m1.getD i 0 : Nat) : Int))) := g3
  clear g3 k3
  unfold maxLen at g2 k2
  have hm2 : ((m2.length : Int) == 0) = false := by
    have : m2 ≠ [] := fun h => HY0.out (by rw [← HV2.out, h]; rfl)
    have := List.length_pos_iff.2 this
    simp; omega
  go_wp2_with (first
    | ((with_reducible refine wl_make 56 5 (.tmp 23) (.tmp 23) .u8 .i64 .i64 m1.length ?_ ?_ i5 und34 hi5 hz5 hs5 ?_ ?_ ?_); rfl; rfl; (rw [hb5]; omega); (unfold maxLen; omega))
    | ((with_reducible refine wl_make 56 5 (.tmp 27) (.tmp 27) .u8 .i64 .i64 (m2.length + 1) ?_ ?_ i5 und34 hi5 hz5 hs5 ?_ ?_ ?_); rfl; rfl; (rw [hb5]; omega); (unfold maxLen; omega)))
  go_loopw [9] (fun iv wr => ∃ (i : Nat) (qL rL : List Nat), i ≤ 8 * m1.length ∧ iv = .int .i64 i ∧ IB wr w.heap.size .u8 5 qL ∧ qL.length = m1.length ∧ Dg 256 qL ∧ IB wr (w.heap.size + 1) .u8 5 rL ∧ rL.length = m2.length + 1 ∧ Dg 256 rL ∧
    Hid (val 256 qL = x / 2 ^ i / y * 2 ^ i) ∧ Hid (val 256 rL = x / 2 ^ i % y) ∧ Fr w.heap.size no w wr) (fun i _ => (intOf i).toNat)
  case atStart =>
    have h0 : x / 2 ^ (8 * m1.length) = 0 := by
      apply Nat.div_eq_of_lt
      rw [Nat.pow_mul, ← HV1.out]
      exact val_lt hdm1
    refine ⟨8 * m1.length, List.replicate m1.length 0, List.replicate (m2.length + 1) 0, Nat.le_refl _, by go_num, (IB.new _ _ _ _).alloc _, by simp, Dg.replicate (by decide) _, ?_, by simp, Dg.replicate (by decide) _, ?_, ?_, ((Fr.refl _ _ _).alloc (Nat.le_refl _) _).alloc (by simp) _⟩
    · exact IB.newAt (by simp) rfl
    · unfold Hid; rw [val_replicate, h0]; simp
    · unfold Hid; rw [val_replicate, h0]; simp
  case round =>
    obtain ⟨i, qL, rL, hi, rfl, hq, hql, hqd, hr, hrl, hrd, HQ, HR, hf⟩ := hrel
    cases i with
    | zero => 
      have hslq := Sl.of_ib hq m1.length m1.length (by omega) (Nat.le_refl _) (by unfold maxLen; omega)
      rw [List.take_of_length_le (by omega)] at hslq
      have hslr := Sl.of_ib hr (m2.length + 1) (m2.length + 1) (by omega) (Nat.le_refl _) (by unfold maxLen; omega)
      rw [List.take_of_length_le (by omega)] at hslr
      go_wp2_with fail
      refine (clip_newE _ _ _ _ hq hqd (by omega) (by omega) (by unfold maxLen; omega)).mono ?_
      rintro e wr ⟨vq, rfl, hsq, rfl⟩
      go_wp2_with fail
      refine (clip_any _ rL _ hslr hrd).mono ?_
      rintro e wr ⟨vr, rfl, hsr, rfl⟩
      go_wp2_with fail
      go_ret3
      refine ⟨vq, vr, rfl, ?_, ?_, hf⟩
      · have := HQ.out
        simp at this
        rw [this] at hsq
        exact hsq
      · have := HR.out
        simp at this
        rw [this] at hsr
        exact hsr
    | succ i =>
      have hi8 : i / 8 < m1.length := by omega
      rcases HC1.out with h0 | ⟨b1, o1, rfl, hc1⟩
      · rw [h0] at hi; simp at hi
      obtain ⟨d, HD, hcd⟩ := Sl.at (n := 0) (cap := 0) hc1 (i / 8) hi8
      rw [← hf.cell (cell_lt hcd) (fun x => x)] at hcd
      have hd256 : d < 256 := by rw [← HD.out]; exact hdm1.getD (by decide) _
      clear hc1
      have hlt2 : d / 2 ^ (i % 8) < 256 := Nat.lt_of_le_of_lt (Nat.div_le_self _ _) hd256
      have hbit : Hid (bits .and .u8 ((d : Int) / 2 ^ (i % 8)) 1 = ((x / 2 ^ i % 2 : Nat) : Int)) := by
        unfold Hid
        rw [shr_nat, and1_nat _ hlt2, ← HD.out, bit_of_digit hdm1 i, HV1.out]
      clear hlt2
      go_wp2_with fail
      rw [hbit.out]
      generalize hbb : x / 2 ^ i % 2 = b at *
      have HB : Hid (x / 2 ^ i % 2 = b) := hbb
      have hb2 : b < 2 := by rw [← hbb]; exact Nat.mod_lt _ (by decide)
      clear hbb hbit
      go_loopw [52, 12] (fun jv cv wr' => ∃ (j c : Nat) (L' : List Nat), j ≤ m2.length + 1 ∧ jv = .int .i64 j ∧ cv = .int .u8 c ∧ c < 2 ∧ IB wr' w.heap.size .u8 5 qL ∧ IB wr' (w.heap.size + 1) .u8 5 L' ∧ L'.length = m2.length + 1 ∧ Dg 256 L' ∧
        Hid (val 256 L' + c * 256 ^ j = val 256 rL + val 256 (rL.take j) + b) ∧ Hid (∀ p, j ≤ p → L'.getD p 0 = rL.getD p 0) ∧ Fr w.heap.size no w wr') (fun j _ _ => m2.length + 1 - (intOf j).toNat)
      case atStart => exact ⟨0, b, rL, by omega, rfl, rfl, hb2, hq, hr, hrl, hrd, by unfold Hid; simp [val], fun _ _ => rfl, hf⟩
      case round =>
        obtain ⟨j, c, L', hj, rfl, rfl, hc, hq', hr', hrl', hrd', HV', HP, hf'⟩ := hrel
        by_cases hjn : j < m2.length + 1
        · obtain ⟨g, HG, hcg⟩ : ∃ g : Nat, Hid (L'.getD j 0 = g) ∧ wr.cell? ⟨w.heap.size + 1, j, none⟩ = some (.int .u8 (g : Int)) := ⟨_, rfl, hr'.cell j (by omega)⟩
          have hzg := hr'.unfrozen j
          have hg256 : g < 256 := by rw [← HG.out]; exact hrd'.getD (by decide) _
          go_wp2
          refine ⟨⟨j + 1, g / 128, L'.set j (2 * g % 256 + c), by omega, by go_num, by go_num, by omega, hq'.other (by simp) _, hr'.set' j (2 * g % 256 + c) (dblOr g c hg256 hc) rfl, by simpa using hrl', hrd'.set _ _ (by omega), ?_, ?_, hf'.setCell (.inl (by simp)) _⟩, by simp [intOf]; omega⟩
          · unfold Hid
            rw [val_take_any, ← HP.out j (Nat.le_refl _), HG.out, dbl_step L' j c g _ (by omega) HG.out HV'.out]
            omega
          · intro p hp
            rw [← HP.out p (by omega)]
            simp only [List.getD, List.getElem?_set]
            rw [if_neg (by omega)]
        · have : j = m2.length + 1 := by omega
          subst this
          have hVlt : val 256 L' < 256 ^ (m2.length + 1) := by rw [← hrl']; exact val_lt hrd'
          have hRy : val 256 rL < y := by rw [HR.out]; exact Nat.mod_lt _ (by have := HY0.out; omega)
          have hy256 : y < 256 ^ m2.length := by rw [← HV2.out]; exact val_lt hdm2
          have hval : val 256 L' = 2 * val 256 rL + b := by
            have := HV'.out
            rw [List.take_of_length_le (by omega)] at this
            have h3 : 256 ^ (m2.length + 1) = 256 * 256 ^ m2.length := by rw [Nat.pow_succ, Nat.mul_comm]
            have : c = 0 := by
              rcases Nat.eq_zero_or_pos c with h | h
              · exact h
              · have : 1 * 256 ^ (m2.length + 1) ≤ c * 256 ^ (m2.length + 1) := Nat.mul_le_mul_right _ h
                omega
            subst this
            omega
          have HVAL : Hid (val 256 L' = 2 * (x / 2 ^ (i + 1) % y) + x / 2 ^ i % 2) := by unfold Hid; rw [hval, HR.out, HB.out]
          have hdb := div_bit x y i HY0.out
          have HDB1 : Hid (y ≤ val 256 L' → x / 2 ^ i / y = 2 * (x / 2 ^ (i + 1) / y) + 1 ∧ x / 2 ^ i % y = val 256 L' - y) := by
            unfold Hid; rw [HVAL.out]; exact hdb.2.1
          have HDB2 : Hid (val 256 L' < y → x / 2 ^ i / y = 2 * (x / 2 ^ (i + 1) / y) ∧ x / 2 ^ i % y = val 256 L') := by
            unfold Hid; rw [HVAL.out]; exact hdb.2.2
          have HVL : Hid (val 256 L' < 256 ^ (m2.length + 1)) := hVlt
          clear hval hdb hVlt hRy hy256
          have hsl := Sl.of_ib hr' (m2.length + 1) (m2.length + 1) (by omega) (Nat.le_refl _) (by unfold maxLen; omega)
          rw [List.take_of_length_le (by omega)] at hsl
          have hsl2 := Sl.fr HS2.out hf'
          go_wp2_with fail
          refine (cmp_any _ _ L' m2 _ hsl hrd' hsl2 hdm2).mono ?_
          rintro e w1 ⟨rfl, hf1⟩
          have hq1 := hq'.fr hf1 hq'.lt (fun x => x)
          have hr1 := hr'.fr hf1 hr'.lt (fun x => x)
          have hf2 := hf'.step hf1 hf'.size (fun _ _ x => x)
          rw [HV2.out]
          by_cases hge : y ≤ val 256 L'
          · have hz := cmpZ_ge hge
            generalize cmpZ (val 256 L') y = z at *
            have HGE : Hid (y ≤ val 256 L') := hge
            clear hge hsl hsl2
            have hx2 := Sl.apart HS2.out hf2 (ba := w.heap.size + 1) (by omega)
            have htk := take_any (w.heap.size + 1) (m2.length + 1) 5 L' m2 _ w1 hr1 hrd' (by omega) (by unfold maxLen; omega) hx2 hdm2 (by omega)
            rw [hrl'] at htk
            clear hx2
            go_wp2_with fail
            refine htk.mono ?_
            rintro e w2 ⟨L2, br, rfl, hbr, hr2, hrl2, hrd2, hv2, hf3⟩
            have hq2 := hq1.fr hf3 hq1.lt (by simp)
            have hf4 := hf2.step hf3 hf2.size (fun j hj h => by omega)
            have hvL2 : Hid (val 256 L2 = val 256 L' - y) := by
              unfold Hid
              rw [HV2.out] at hv2
              have h3 : val 256 L2 < 256 ^ (m2.length + 1) := by rw [← hrl2]; exact val_lt hrd2
              have h4 := HGE.out
              have : br = 0 := by
                rcases Nat.eq_zero_or_pos br with h | h
                · exact h
                · have : 1 * 256 ^ (m2.length + 1) ≤ br * 256 ^ (m2.length + 1) := Nat.mul_le_mul_right _ h
                  omega
              subst this
              omega
            clear hv2 htk
            obtain ⟨g, HG, hcg⟩ : ∃ g : Nat, Hid (qL.getD (i / 8) 0 = g) ∧ w2.cell? ⟨w.heap.size, i / 8, none⟩ = some (.int .u8 (g : Int)) := ⟨_, rfl, hq2.cell (i / 8) (by omega)⟩
            have hzg := hq2.unfrozen (i / 8)
            have hg256 : g < 256 := by rw [← HG.out]; exact hqd.getD (by decide) _
            have hqdig : Hid (g % 2 ^ (i % 8 + 1) = 0) := by unfold Hid; rw [← HG.out]; exact quo_digit qL hqd _ i HQ.out
            have hor := or_bit g (i % 8) (by omega) hg256 hqdig.out
            have HOR : Hid (g ||| 2 ^ (i % 8) = g + 2 ^ (i % 8) ∧ g + 2 ^ (i % 8) < 256) := hor
            clear hor
            go_wp2_with fail
            refine ⟨⟨i, qL.set (i / 8) (g + 2 ^ (i % 8)), L2, by omega, by go_num, ?_, by simpa using hql, hqd.set _ _ HOR.out.2, hr2.other (by simp) _, hrl2, hrd2, ?_, ?_, hf4.setCell (.inl (by simp)) _⟩, by simp [intOf]⟩
            · refine hq2.set' (i / 8) (g + 2 ^ (i % 8)) ?_ rfl
              exact orBit_int g (i % 8) hg256 HOR.out.1 HOR.out.2
            · unfold Hid
              rw [(HDB1.out HGE.out).1, ← quo_set qL _ i (by omega) HQ.out, HG.out]
            · unfold Hid
              rw [(HDB1.out HGE.out).2, hvL2.out]
          · have hz : cmpZ (val 256 L') y < 0 := by rw [cmpZ_lt (by omega)]; decide
            generalize cmpZ (val 256 L') y = z at *
            go_wp2_with fail
            refine ⟨⟨i, qL, L', by omega, by go_num, hq1, hql, hqd, hr1, hrl', hrd', ?_, ?_, hf2⟩, by simp [intOf]⟩
            · unfold Hid
              rw [(HDB2.out (by omega)).1, HQ.out, Nat.pow_succ', Nat.mul_comm 2 (x / _ / y), Nat.mul_assoc]
            · unfold Hid
              rw [(HDB2.out (by omega)).2]

set_option maxRecDepth 10000 in
set_option maxHeartbeats 400000 in
theorem clip_nil (w : World) : Calls Sang.prog 137 #[.slice none 0 0] w fun e w' => ∃ v', e = .returned v' ∧ NewD w.heap.size w v' (digs 0) ∧ w' = w := by
  have htr := trim_exact none 0 [] w (Sl.nil w .u8) (Dg.nil _)
  have e0 : (digs (val 256 [])).length = 0 := rfl
  rw [e0] at htr
  simp only [List.length_nil] at htr
  clear e0
  go_enter Sang.func137, Sang.ntmps137
  go_wp2_with fail
  refine htr.mono ?_
  clear htr
  rintro e w ⟨rfl, rfl⟩
  go_wp2_with fail
  go_ret
  exact ⟨_, rfl, NewD.nil _ _, rfl⟩

set_option maxRecDepth 10000 in
set_option maxHeartbeats 600000 in
theorem sub_new (va vb : Value) (a b : Nat) (w : World) (h1 : Sl w .u8 va (digs a)) (h2 : Sl w .u8 vb (digs b)) (s1 : (digs a).length ≤ 8388608) :
    Calls Sang.prog 111 #[va, vb] w fun e w' => ∃ v', e = .returned (.tuple #[v', .bool (decide (b ≤ a))]) ∧ NewD w.heap.size w' v' (digs (a - b)) ∧ Fr w.heap.size no w w' := by
  have hcm := cmp_any va vb _ _ w h1 (digs_dg _) h2 (digs_dg _)
  rw [val_digs, val_digs] at hcm
  have H1 : Hid (Sl w .u8 va (digs a)) := h1
  have H2 : Hid (Sl w .u8 vb (digs b)) := h2
  by_cases hab : b ≤ a
  · have hge : (0 : Int) ≤ cmpZ a b := cmpZ_ge hab
    have hge' : ¬ cmpZ a b < 0 := by omega
    rw [show decide (b ≤ a) = true by simpa using hab]
    generalize cmpZ a b = cz at *
    have HAB : Hid (∀ _ : Unit, b ≤ a) := fun _ => hab
    have HS1 : Hid (∀ _ : Unit, (digs a).length ≤ 8388608) := fun _ => s1
    have HLL : Hid (∀ _ : Unit, (digs b).length ≤ (digs a).length) := fun _ => (digs_length_le b _).2 (Nat.lt_of_le_of_lt hab ((digs_length_le a _).1 (Nat.le_refl _)))
    obtain ⟨ab, cb, rfl, hb1, hb2, hb3⟩ := h2
    clear hab s1 h1 hb1 hb2 hb3 hge
    go_enter Sang.func111, Sang.ntmps111
    go_wp2_with fail
    refine hcm.mono ?_
    clear hcm
    rintro e w1 ⟨rfl, hf1⟩
    go_wp2_with fail
    refine (norm_own va a w1 (H1.out.fr hf1) (HS1.out ())).mono ?_
    rintro e w2 (⟨h0, rfl, rfl⟩ | ⟨hn0, rfl, hib, hf2⟩)
    · have hb0 : b = 0 := by have := HAB.out (); omega
      subst h0
      subst hb0
      have htr := trim_exact ab cb (digs 0) w2 (H2.out.fr hf1) (digs_dg _)
      rw [val_digs] at htr
      have e0 : (digs 0).length = 0 := rfl
      rw [e0] at htr
      have htk := take_nil (.slice ab 0 0) w2
      have hcl := clip_nil w2
      clear e0
      go_wp2_with fail
      refine htr.mono ?_
      clear htr
      rintro e w2 ⟨rfl, rfl⟩
      go_wp2_with fail
      refine htk.mono ?_
      clear htk
      rintro e w2 ⟨rfl, rfl⟩
      go_wp2_with fail
      refine hcl.mono ?_
      clear hcl
      rintro e w4 ⟨v4, rfl, hv4, rfl⟩
      go_wp2_with fail
      go_ret2
      exact ⟨_, rfl, hv4.low hf1.size, hf1⟩
    · have htr := trim_exact ab cb (digs b) w2 (H2.out.fr (hf1.step hf2 hf1.size (fun _ _ x => x))) (digs_dg _)
      rw [val_digs] at htr
      have hX : SlX w2 .u8 (.slice ab (digs b).length (digs b).length) (digs b) w1.heap.size := by
        have := (H2.out.fr hf1).sub (digs b).length (Nat.le_refl _)
        rw [List.take_length] at this
        exact this.apart hf2 (Nat.le_refl _)
      have htk := take_any w1.heap.size (digs a).length 5 (digs a) (digs b) _ w2 hib (digs_dg _) (Nat.le_refl _) (by have := HS1.out (); unfold maxLen; omega) hX (digs_dg _) (HLL.out ())
      rw [val_digs, val_digs] at htk
      have hfw2 := hf1.step hf2 hf1.size (fun _ _ x => x)
      have hml : Hid (∀ _ : Unit, (digs a).length ≤ maxLen) := fun _ => by have := HS1.out (); unfold maxLen; omega
      have HPw : Hid (∀ _ : Unit, a < 256 ^ (digs a).length) := fun _ => (digs_length_le a _).1 (Nat.le_refl _)
      generalize digs a = A at *
      generalize (digs b).length = lb at *
      go_wp2_with fail
      refine htr.mono ?_
      clear htr
      rintro e w2 ⟨rfl, rfl⟩
      go_wp2_with fail
      refine htk.mono ?_
      clear htk
      rintro e w3 ⟨L', br, rfl, hbr, hL', hLl, hLd, hval, hf3⟩
      have hbr0 : br = 0 := by
        have h1 := val_lt hLd
        have h2 := HAB.out ()
        have h3 := HPw.out ()
        rw [hLl] at h1
        by_cases hb1 : br = 0
        · exact hb1
        · have : br = 1 := by omega
          subst this
          omega
      subst hbr0
      have hvL : val 256 L' = a - b := by omega
      have hsl := Sl.of_ib hL' A.length A.length (by omega) (Nat.le_refl _) (hml.out ())
      rw [List.take_of_length_le (by omega)] at hsl
      have hcl := clip_newE A.length 5 L' w3 hL' hLd hLl.symm (by omega) (hml.out ())
      rw [hvL] at hcl
      clear hval hvL hsl
      go_wp2_with fail
      refine hcl.mono ?_
      clear hcl
      rintro e w4 ⟨v4, rfl, hv4, rfl⟩
      go_wp2_with fail
      go_ret2
      exact ⟨_, rfl, hv4.low hf1.size, hfw2.step hf3 hfw2.size (fun i hi hx => by have := hf1.size; omega)⟩
  · rw [cmpZ_lt (show a < b by omega)] at hcm
    rw [show decide (b ≤ a) = false by simpa using hab, show a - b = 0 by omega]
    clear hab s1
    go_enter Sang.func111, Sang.ntmps111
    go_wp2_with fail
    refine hcm.mono ?_
    clear hcm
    rintro e w1 ⟨rfl, hf1⟩
    go_wp2_with fail
    go_ret2
    exact ⟨_, rfl, NewD.nil _ _, hf1⟩

end Go.Proofs.YgcsanGreat
