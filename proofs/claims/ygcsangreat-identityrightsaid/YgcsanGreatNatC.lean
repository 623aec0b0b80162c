/-
  Package nat: the contracts, third part.
-/
import Derived.Test.YgcsanGreatNatB
namespace Go.Proofs.YgcsanGreat
open Go.RowKit
set_option linter.unusedSimpArgs false
set_option linter.unusedVariables false

theorem digs_small {l : List Nat} (hd : Dg 256 l) {N : Nat} (h : l.length ≤ N) : (digs (val 256 l)).length ≤ N := Nat.le_trans ((digs_length_le _ _).2 (val_lt hd)) h

set_option maxRecDepth 10000 in
set_option maxHeartbeats 2000000 in
theorem mul_any (v1 v2 : Value) (l1 l2 : List Nat) (w : World) (h1 : Sl w .u8 v1 l1) (hd1 : Dg 256 l1) (h2 : Sl w .u8 v2 l2) (hd2 : Dg 256 l2) (s1 : l1.length ≤ 8388608) (s2 : l2.length ≤ 8388608) :
    Calls Sang.prog 80 #[v1, v2] w fun e w' => ∃ v', e = .returned v' ∧ Sl w' .u8 v' (digs (val 256 l1 * val 256 l2)) ∧ Fr w.heap.size no w w' := by
  obtain ⟨i5, hi5, hz5, hs5, hb5⟩ := info_parts info5
  have hn1 := digs_small hd1 s1
  have hn2 := digs_small hd2 s2
  generalize hx : val 256 l1 = x at *
  generalize hy : val 256 l2 = y at *
  have HX : Hid (val 256 l1 = x) := hx
  have HY : Hid (val 256 l2 = y) := hy
  clear hx hy
  go_enter Sang.func80, Sang.ntmps80
  go_wp2_with fail
  refine (trim_any v1 l1 _ h1 hd1).mono ?_
  rintro e w ⟨v1', rfl, hs1, rfl⟩
  go_wp2_with fail
  refine (trim_any v2 l2 _ h2 hd2).mono ?_
  rintro e w ⟨v2', rfl, hs2, rfl⟩
  rw [HX.out] at hs1
  rw [HY.out] at hs2
  have hdm1 := digs_dg x
  have hdm2 := digs_dg y
  have hv1 := val_digs x
  have hv2 := val_digs y
  generalize digs x = m1 at *
  generalize digs y = m2 at *
  have HV1 : Hid (val 256 m1 = x) := hv1
  have HV2 : Hid (val 256 m2 = y) := hv2
  clear hv1 hv2 HX HY h1 h2
  obtain ⟨a1, c1, rfl, g1, g2, g3⟩ := hs1
  obtain ⟨a2, c2, rfl, k1, k2, k3⟩ := hs2
  have HC1 : Hid (m1 = [] ∨ ∃ b off, a1 = some ⟨b, off, none⟩ ∧ ∀ i, i < m1.length → w.cell? ⟨b, off + i, none⟩ = some (.int .u8 ((m1.getD i 0 : Nat) : Int))) := g3
  have HC2 : Hid (m2 = [] ∨ ∃ b off, a2 = some ⟨b, off, none⟩ ∧ ∀ i, i < m2.length → w.cell? ⟨b, off + i, none⟩ = some (.int .u8 ((m2.getD i 0 : Nat) : Int))) := k3
  clear g3 k3
  unfold maxLen at g2 k2
  go_wp2_with (first
    | ((with_reducible refine wl_make 56 5 (.tmp 19) (.tmp 19) .u8 .i64 .i64 (m1.length + m2.length) ?_ ?_ i5 und34 hi5 hz5 hs5 ?_ ?_ ?_); rfl; rfl; (rw [hb5]; omega); (unfold maxLen; omega)))
  go_loopw [23] (fun i wr => ∃ (k : Nat) (L : List Nat), k ≤ m1.length ∧ i = .int .i64 k ∧ IB wr w.heap.size .u8 5 L ∧ L.length = m1.length + m2.length ∧ Dg 256 L ∧ Hid (val 256 L = val 256 (m1.take k) * y) ∧ Hid (∀ p, k + m2.length ≤ p → L.getD p 0 = 0) ∧ Fr w.heap.size no w wr) (fun i _ => m1.length - (intOf i).toNat)
  case atStart =>
    refine ⟨0, List.replicate (m1.length + m2.length) 0, by omega, rfl, IB.new _ _ _ _, by simp, Dg.replicate (by decide) _, ?_, ?_, (Fr.refl _ _ _).alloc (Nat.le_refl _) _⟩
    · unfold Hid; rw [val_replicate]; simp [val]
    · intro p _; simp [List.getD, List.getElem?_replicate]; split <;> rfl
  case round =>
    obtain ⟨k, L, hk, rfl, hL, hLl, hLd, HV, HZ, hf⟩ := hrel
    by_cases hkn : k < m1.length
    · rcases HC1.out with h0 | ⟨b1, o1, rfl, hc1⟩
      · rw [h0] at hkn; simp at hkn
      obtain ⟨d, HD, hcd⟩ := Sl.at (n := 0) (cap := 0) hc1 k hkn
      rw [← hf.cell (cell_lt hcd) (fun x => x)] at hcd
      have hd256 : d < 256 := by rw [← HD.out]; exact hdm1.getD (by decide) k
      clear hc1
      go_wp2
      go_loopw [30, 8] (fun i cv wr' => ∃ (j c : Nat) (L' : List Nat), j ≤ m2.length ∧ i = .int .i64 j ∧ cv = .int .u32 c ∧ c < 256 ∧ IB wr' w.heap.size .u8 5 L' ∧ L'.length = m1.length + m2.length ∧ Dg 256 L' ∧ Hid (val 256 L' + c * 256 ^ (k + j) = val 256 (m1.take k) * y + d * val 256 (m2.take j) * 256 ^ k) ∧ Hid (∀ p, k + m2.length ≤ p → L'.getD p 0 = 0) ∧ Fr w.heap.size no w wr') (fun i _ _ => m2.length - (intOf i).toNat)
      case atStart =>
        refine ⟨0, 0, L, by omega, rfl, rfl, by omega, hL, hLl, hLd, ?_, HZ, hf⟩
        unfold Hid; rw [HV.out]; simp [val]
      case round =>
        obtain ⟨j, c, L', hj, rfl, rfl, hc, hL', hLl', hLd', HV', HZ', hf'⟩ := hrel
        by_cases hjn : j < m2.length
        · rcases HC2.out with h0 | ⟨b2, o2, rfl, hc2⟩
          · rw [h0] at hjn; simp at hjn
          obtain ⟨e, HE, hce⟩ := Sl.at (n := 0) (cap := 0) hc2 j hjn
          rw [← hf'.cell (cell_lt hce) (fun x => x)] at hce
          have he256 : e < 256 := by rw [← HE.out]; exact hdm2.getD (by decide) j
          clear hc2
          obtain ⟨g, HG, hcg⟩ : ∃ g : Nat, Hid (L'.getD (k + j) 0 = g) ∧ wr.cell? ⟨w.heap.size, k + j, none⟩ = some (.int .u8 (g : Int)) := ⟨_, rfl, hL'.cell (k + j) (by omega)⟩
          have hzg := hL'.unfrozen (k + j)
          have hg256 : g < 256 := by rw [← HG.out]; exact hLd'.getD (by decide) _
          have hb1 : (k : Int) + (j : Int) < ((m1.length + m2.length : Nat) : Int) := by omega
          go_wp2
          have hde : d * e ≤ 255 * 255 := Nat.mul_le_mul (by omega) (by omega)
          refine ⟨⟨j + 1, (c + (d * e + g)) / 256, L'.set (k + j) ((c + (d * e + g)) % 256), by omega, by go_num, ?_, ?_, ?_, by simpa using hLl', hLd'.set _ _ (Nat.mod_lt _ (by decide)), ?_, ?_, ?_⟩, by simp [intOf]; omega⟩
          · congr 1
            omega
          · generalize d * e = p at *
            omega
          · refine hL'.set' (k + j) _ ?_ rfl
            omega
          · unfold Hid
            rw [val_take_succ 256 m2 j hjn, HE.out]
            exact mul_step 256 L' k j c d e g _ _ (by omega) HG.out HV'.out
          · intro p hp
            have := HZ'.out p hp
            simp only [List.getD, List.getElem?_set] at this ⊢
            rw [if_neg (by omega)]
            exact this
          · exact hf'.setCell (.inl (Nat.le_refl _)) _
        · have : j = m2.length := by omega
          subst this
          have hcz := hL'.cell (k + m2.length) (by omega)
          have hzz := hL'.unfrozen (k + m2.length)
          have hb1 : (k : Int) + (m2.length : Int) < ((m1.length + m2.length : Nat) : Int) := by omega
          go_wp2
          refine ⟨⟨k + 1, L'.set (k + m2.length) c, by omega, by go_num, hL'.set (k + m2.length) c, by simpa using hLl', hLd'.set _ _ hc, ?_, ?_, hf'.setCell (.inl (Nat.le_refl _)) _⟩, by simp [intOf]; omega⟩
          · unfold Hid
            refine mul_last 256 L' (k + m2.length) c _ (by omega) (HZ'.out _ (Nat.le_refl _)) ?_
            rw [HV'.out, val_take_succ 256 m1 k hkn, HD.out, List.take_length, HV2.out, Nat.add_mul]
            congr 1
            rw [Nat.mul_assoc, Nat.mul_comm y, ← Nat.mul_assoc]
          · intro p hp
            have := HZ'.out p (by omega)
            simp only [List.getD, List.getElem?_set] at this ⊢
            rw [if_neg (by omega)]
            exact this
    · have : k = m1.length := by omega
      subst this
      go_wp2_with fail
      have hsl := Sl.of_ib hL (m1.length + m2.length) (m1.length + m2.length) (by omega) (Nat.le_refl _) (by unfold maxLen; omega)
      rw [List.take_of_length_le (by omega)] at hsl
      refine (clip_any _ L _ hsl hLd).mono ?_
      rintro e wr ⟨v', rfl, hs, rfl⟩
      go_wp2_with fail
      go_ret
      refine ⟨_, rfl, ?_, hf⟩
      rw [HV.out, List.take_length, HV1.out] at hs
      exact hs

/-- a slice that lies outside block ba -/
def SlX (w : World) (k : IntKind) (v : Value) (l : List Nat) (ba : Nat) : Prop :=
  ∃ (a : Option Addr) (cap : Nat), v = .slice a l.length cap ∧ l.length ≤ cap ∧ cap ≤ maxLen ∧
    (l = [] ∨ ∃ b off, a = some ⟨b, off, none⟩ ∧ b ≠ ba ∧ ∀ i, i < l.length → w.cell? ⟨b, off + i, none⟩ = some (.int k ((l.getD i 0 : Nat) : Int)))

theorem Sl.apart {w w' : World} {k : IntKind} {v : Value} {l : List Nat} (h : Sl w k v l) (f : Fr w.heap.size no w w') {ba : Nat} (hb : w.heap.size ≤ ba) : SlX w' k v l ba := by
  obtain ⟨a, cap, hv, h1, h2, h3⟩ := h
  refine ⟨a, cap, hv, h1, h2, ?_⟩
  by_cases h0 : l = []
  · exact .inl h0
  rcases h3 with h3 | ⟨b, off, ha, hc⟩
  · exact .inl h3
  · have hp : 0 < l.length := List.length_pos_iff.2 h0
    have := cell_lt (hc 0 hp)
    exact .inr ⟨b, off, ha, by simp at this; omega, fun i hi => by
      have := hc i hi
      rw [f.cell (cell_lt (p := ⟨b, off + i, none⟩) this) (fun x => x)]
      exact this⟩

set_option maxRecDepth 10000 in
set_option maxHeartbeats 2000000 in
theorem take_any (ba cap : Nat) (t : TypeId) (L l2 : List Nat) (v2 : Value) (w : World) (hL : IB w ba .u8 t L) (hd : Dg 256 L) (hcap : L.length ≤ cap) (hm : cap ≤ maxLen) (h2 : SlX w .u8 v2 l2 ba) (hd2 : Dg 256 l2) (hl2 : l2.length ≤ L.length) :
    Calls Sang.prog 171 #[.slice (some ⟨ba, 0, none⟩) L.length cap, v2] w fun e w' => ∃ (L' : List Nat) (br : Nat), e = .returned (.int .u16 (br : Int)) ∧ br ≤ 1 ∧ IB w' ba .u8 t L' ∧ L'.length = L.length ∧ Dg 256 L' ∧
      val 256 L' + val 256 l2 = val 256 L + br * 256 ^ L.length ∧ Fr w.heap.size (fun b => b = ba) w w' := by
  obtain ⟨a2, c2, rfl, k1, k2, k3⟩ := h2
  have HC2 : Hid (l2 = [] ∨ ∃ b off, a2 = some ⟨b, off, none⟩ ∧ b ≠ ba ∧ ∀ i, i < l2.length → w.cell? ⟨b, off + i, none⟩ = some (.int .u8 ((l2.getD i 0 : Nat) : Int))) := k3
  clear k3
  unfold maxLen at hm k2
  go_enter Sang.func171, Sang.ntmps171
  go_wp2
  go_loopw [11, 5] (fun iv bv wr => ∃ (i br : Nat) (L' : List Nat), i ≤ L.length ∧ iv = .int .i64 i ∧ bv = .int .u16 br ∧ br ≤ 1 ∧ IB wr ba .u8 t L' ∧ L'.length = L.length ∧ Dg 256 L' ∧ Hid (val 256 L' + val 256 (l2.take i) = val 256 L + br * 256 ^ i) ∧ Fr w.heap.size (fun b => b = ba) w wr) (fun i _ _ => L.length - (intOf i).toNat)
  case atStart => exact ⟨0, 0, L, by omega, rfl, rfl, by omega, hL, rfl, hd, by unfold Hid; simp [val], Fr.refl _ _ _⟩
  case round =>
    obtain ⟨i, br, L', hi, rfl, rfl, hbr, hL', hLl', hLd', HV', hf'⟩ := hrel
    by_cases hin : i < L.length
    · obtain ⟨g, HG, hcg⟩ : ∃ g : Nat, Hid (L'.getD i 0 = g) ∧ wr.cell? ⟨ba, i, none⟩ = some (.int .u8 (g : Int)) := ⟨_, rfl, hL'.cell i (by omega)⟩
      have hzg := hL'.unfrozen i
      have hg256 : g < 256 := by rw [← HG.out]; exact hLd'.getD (by decide) _
      by_cases hjn : i < l2.length
      · rcases HC2.out with h0 | ⟨b2, o2, rfl, hne, hc2⟩
        · rw [h0] at hjn; simp at hjn
        obtain ⟨e, HE, hce⟩ := Sl.at (n := 0) (cap := 0) hc2 i hjn
        rw [← hf'.cell (cell_lt hce) hne] at hce
        have he256 : e < 256 := by rw [← HE.out]; exact hd2.getD (by decide) i
        clear hc2
        by_cases hgs : g < br + e
        · go_wp2
          refine ⟨⟨i + 1, 1, L'.set i (g + 256 - (br + e)), by omega, by go_num, rfl, by omega, hL'.set' i (g + 256 - (br + e)) (by omega) rfl, by simpa using hLl', hLd'.set _ _ (by omega), ?_, hf'.setCell (.inr rfl) _⟩, by simp [intOf]; omega⟩
          unfold Hid
          rw [val_take_any, HE.out]
          exact sub_step 256 L' i br 1 e g (g + 256 - (br + e)) _ _ (by omega) HG.out HV'.out (by omega)
        · go_wp2
          refine ⟨⟨i + 1, 0, L'.set i (g - (br + e)), by omega, by go_num, rfl, by omega, hL'.set' i (g - (br + e)) (by omega) rfl, by simpa using hLl', hLd'.set _ _ (by omega), ?_, hf'.setCell (.inr rfl) _⟩, by simp [intOf]; omega⟩
          unfold Hid
          rw [val_take_any, HE.out]
          exact sub_step 256 L' i br 0 e g (g - (br + e)) _ _ (by omega) HG.out HV'.out (by omega)
      · obtain ⟨e, HE, he0⟩ : ∃ e : Nat, Hid (l2.getD i 0 = e) ∧ e = 0 := ⟨0, by unfold Hid; simp [List.getD, show l2.length ≤ i by omega], rfl⟩
        have He0 : Hid (e = 0) := he0
        clear he0
        by_cases hgs : g < br
        · go_wp2
          have := He0.out
          refine ⟨⟨i + 1, 1, L'.set i (g + 256 - (br + e)), by omega, by go_num, rfl, by omega, hL'.set' i (g + 256 - (br + e)) (by omega) rfl, by simpa using hLl', hLd'.set _ _ (by omega), ?_, hf'.setCell (.inr rfl) _⟩, by simp [intOf]; omega⟩
          unfold Hid
          rw [val_take_any, HE.out]
          exact sub_step 256 L' i br 1 e g (g + 256 - (br + e)) _ _ (by omega) HG.out HV'.out (by omega)
        · go_wp2
          have := He0.out
          refine ⟨⟨i + 1, 0, L'.set i (g - (br + e)), by omega, by go_num, rfl, by omega, hL'.set' i (g - (br + e)) (by omega) rfl, by simpa using hLl', hLd'.set _ _ (by omega), ?_, hf'.setCell (.inr rfl) _⟩, by simp [intOf]; omega⟩
          unfold Hid
          rw [val_take_any, HE.out]
          exact sub_step 256 L' i br 0 e g (g - (br + e)) _ _ (by omega) HG.out HV'.out (by omega)
    · have : i = L.length := by omega
      subst this
      go_wp2
      go_ret
      refine ⟨L', br, rfl, hbr, hL', hLl', hLd', ?_, hf'⟩
      have := HV'.out
      rw [List.take_of_length_le hl2] at this
      exact this
end Go.Proofs.YgcsanGreat
