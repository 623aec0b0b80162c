/-
  Package nat: Sub; package yp: less, minNat, isZero.
-/
import Derived.Test.YgcsanGreatHolds
namespace Go.Proofs.YgcsanGreat
open Go.RowKit
set_option linter.unusedSimpArgs false
set_option linter.unusedVariables false

set_option maxRecDepth 10000 in
set_option maxHeartbeats 400000 in
theorem norm_own (v : Value) (n : Nat) (w : World) (h : Sl w .u8 v (digs n)) (hsm : (digs n).length ≤ 8388608) :
    Calls Sang.prog 127 #[v] w fun e w' => (n = 0 ∧ e = .returned (.slice none 0 0) ∧ w' = w) ∨
      (n ≠ 0 ∧ e = .returned (.slice (some ⟨w.heap.size, 0, none⟩) (digs n).length (digs n).length) ∧ IB w' w.heap.size .u8 5 (digs n) ∧ Fr w.heap.size no w w') := by
  obtain ⟨i5, hi5, hz5, hs5, hb5⟩ := info_parts info5
  have htr := trim_any v (digs n) w h (digs_dg _)
  rw [val_digs] at htr
  have hz : Hid ((digs n).length = 0 ↔ n = 0) := by
    constructor
    · intro h0
      have h2 := val_digs n
      rw [List.eq_nil_of_length_eq_zero h0] at h2
      exact h2.symm
    · intro h0; rw [h0]; rfl
  generalize digs n = m at *
  go_enter Sang.func127, Sang.ntmps127
  go_wp2_with fail
  refine htr.mono ?_
  clear htr
  rintro e w ⟨v', rfl, hs, rfl⟩
  have hs' := hs
  obtain ⟨a, cap, rfl, hl1, hl2, hl3⟩ := hs'
  have HS : Hid (Sl w .u8 (.slice a m.length cap) m) := hs
  clear hs hl3
  by_cases h0 : m.length = 0
  · have hn := hz.out.1 h0
    have : m = [] := List.eq_nil_of_length_eq_zero h0
    subst this
    go_wp2_with fail
    go_ret
    exact .inl ⟨hn, rfl, rfl⟩
  · have h0' : ((m.length : Int) == 0) = false := by simpa using h0
    have HNZ : Hid (n ≠ 0) := fun h => h0 (hz.out.2 h)
    clear h0
    have hf : Fr w.heap.size no w (w.alloc (.cells (ints .u8 (List.replicate m.length 0)) 5)) := (Fr.refl _ _ _).alloc (Nat.le_refl _) _
    have HF : Hid _ := hf
    clear hf
    go_wp2_with (first
      | ((with_reducible refine wl_make 56 5 (.tmp 10) (.tmp 10) .u8 .i64 .i64 m.length ?_ ?_ i5 und34 hi5 hz5 hs5 ?_ ?_ ?_); rfl; rfl; (rw [hb5]; omega); (unfold maxLen; omega))
      | ((with_reducible refine wl_copy 56 56 5 (.tmp 12) (.tmp 13) w.heap.size 0 m.length m.length .u8 5 (List.replicate m.length 0) m _ ?_ ?_ ?_ (Sl.fr HS.out HF.out) ?_ i5 und34 hi5 hs5 ?_); rfl; rfl; exact IB.new w .u8 5 _; (simp)))
    go_ret
    have hlm : lay (List.replicate m.length 0) 0 m = m := lay_all _ _ (by simp)
    rw [hlm]
    exact .inr ⟨HNZ.out, rfl, IB.setRow (by simp) _ _ _, HF.out.setRow (.inl (Nat.le_refl _)) _ _ _⟩

set_option maxRecDepth 10000 in
set_option maxHeartbeats 400000 in
theorem trim_exact (a : Option Addr) (cap : Nat) (l : List Nat) (w : World) (h : Sl w .u8 (.slice a l.length cap) l) (hd : Dg 256 l) :
    Calls Sang.prog 126 #[.slice a l.length cap] w fun e w' => e = .returned (.slice a (digs (val 256 l)).length (digs (val 256 l)).length) ∧ w' = w := by
  have H : Hid (Sl w .u8 (.slice a l.length cap) l) := h
  obtain ⟨a', cap', hv, hl, hm, hc⟩ := h
  cases hv
  have HC : Hid (l = [] ∨ ∃ b off, a = some ⟨b, off, none⟩ ∧ ∀ i, i < l.length → w.cell? ⟨b, off + i, none⟩ = some (.int .u8 ((l.getD i 0 : Nat) : Int))) := hc
  clear hc
  unfold maxLen at hm
  go_enter Sang.func126, Sang.ntmps126
  go_wp2
  go_loop [3] (fun i => ∃ k : Nat, k ≤ l.length ∧ i = .int .i64 k ∧ Hid (val 256 (l.take k) = val 256 l)) (fun i => (intOf i).toNat)
  case atStart => exact ⟨l.length, Nat.le_refl _, rfl, by unfold Hid; simp⟩
  case round =>
    obtain ⟨k, hk, rfl, HT⟩ := hrel
    cases k with
    | zero =>
      have hv0 : Hid (∀ _ : Unit, (digs (val 256 l)).length = 0) := fun _ => by rw [← HT.out]; rfl
      go_wp2
      go_ret
      refine ⟨?_, rfl⟩
      rw [hv0.out ()]
      rfl
    | succ k =>
      rcases HC.out with h0 | ⟨b, off, rfl, hc⟩
      · rw [h0] at hk; simp at hk
      obtain ⟨d, HD, hcell⟩ : ∃ d : Nat, Hid (l.getD k 0 = d) ∧ w.cell? ⟨b, off + k, none⟩ = some (.int .u8 (d : Int)) := ⟨_, rfl, hc k (by omega)⟩
      clear hc
      by_cases hz : d = 0
      · subst hz
        go_wp2
        refine ⟨⟨k, by omega, rfl, ?_⟩, by simp [intOf]⟩
        unfold Hid
        rw [← HT.out, val_take_zero k (by omega) HD.out]
      · have hz' : ((d : Int) == 0) = false := by simpa using hz
        have HZ : Hid _ := hz
        clear hz
        have hvk : Hid (∀ _ : Unit, (digs (val 256 l)).length = k + 1) := fun _ => by
          rw [← HT.out, ← digs_take_top hd k (by omega) (by rw [HD.out]; exact HZ.out)]
          simp
          omega
        go_wp2
        go_ret
        refine ⟨?_, rfl⟩
        rw [hvk.out ()]
        rfl

set_option maxRecDepth 10000 in
set_option maxHeartbeats 400000 in
theorem take_nil (v : Value) (w : World) :
    Calls Sang.prog 171 #[.slice none 0 0, v] w fun e w' => e = .returned (.int .u16 0) ∧ w' = w := by
  go_enter Sang.func171, Sang.ntmps171
  go_wp2_with fail
  go_loop [11, 5] (fun iv bv => iv = .int .i64 0 ∧ bv = .int .u16 0) (fun _ _ => 0)
  case atStart => exact ⟨rfl, rfl⟩
  case round =>
    obtain ⟨rfl, rfl⟩ := hrel
    go_wp2_with fail
    go_ret
    exact ⟨rfl, rfl⟩

set_option maxRecDepth 10000 in
set_option maxHeartbeats 600000 in
theorem sub_any (va vb : Value) (a b : Nat) (w : World) (h1 : Sl w .u8 va (digs a)) (h2 : Sl w .u8 vb (digs b)) (s1 : (digs a).length ≤ 8388608) :
    Calls Sang.prog 111 #[va, vb] w fun e w' => ∃ v', e = .returned (.tuple #[v', .bool (decide (b ≤ a))]) ∧ Sl w' .u8 v' (digs (a - b)) ∧ Fr w.heap.size no w w' := by
  have hcm := cmp_any va vb _ _ w h1 (digs_dg _) h2 (digs_dg _)
  rw [val_digs, val_digs] at hcm
  have H1 : Hid (Sl w .u8 va (digs a)) := h1
  have H2 : Hid (Sl w .u8 vb (digs b)) := h2
  by_cases hab : b ≤ a
  · have hge : (0 : Int) ≤ cmpZ a b := cmpZ_ge hab
    have hge' : ¬ cmpZ a b < 0 := by omega
    rw [show decide (b ≤ a) = true by simpa using hab]
    generalize cmpZ a b = cz at *
    have HAB : Hid (∀ _ : Unit, b ≤ a) := fun _ => hab
    have HS1 : Hid (∀ _ : Unit, (digs a).length ≤ 8388608) := fun _ => s1
    have HLL : Hid (∀ _ : Unit, (digs b).length ≤ (digs a).length) := fun _ => (digs_length_le b _).2 (Nat.lt_of_le_of_lt hab ((digs_length_le a _).1 (Nat.le_refl _)))
    obtain ⟨ab, cb, rfl, hb1, hb2, hb3⟩ := h2
    clear hab s1 h1 hb1 hb2 hb3 hge
    go_enter Sang.func111, Sang.ntmps111
    go_wp2_with fail
    refine hcm.mono ?_
    clear hcm
    rintro e w1 ⟨rfl, hf1⟩
    go_wp2_with fail
    refine (norm_own va a w1 (H1.out.fr hf1) (HS1.out ())).mono ?_
    rintro e w2 (⟨h0, rfl, rfl⟩ | ⟨hn0, rfl, hib, hf2⟩)
    · have hb0 : b = 0 := by have := HAB.out (); omega
      subst h0
      subst hb0
      have htr := trim_exact ab cb (digs 0) w2 (H2.out.fr hf1) (digs_dg _)
      rw [val_digs] at htr
      have e0 : (digs 0).length = 0 := rfl
      rw [e0] at htr
      have htk := take_nil (.slice ab 0 0) w2
      have hcl := clip_any _ [] w2 (Sl.nil w2 .u8) (Dg.nil _)
      clear e0
      go_wp2_with fail
      refine htr.mono ?_
      clear htr
      rintro e w2 ⟨rfl, rfl⟩
      go_wp2_with fail
      refine htk.mono ?_
      clear htk
      rintro e w2 ⟨rfl, rfl⟩
      go_wp2_with fail
      refine hcl.mono ?_
      clear hcl
      rintro e w4 ⟨v4, rfl, hv4, rfl⟩
      go_wp2_with fail
      go_ret2
      exact ⟨_, rfl, hv4, hf1⟩
    · have htr := trim_exact ab cb (digs b) w2 (H2.out.fr (hf1.step hf2 hf1.size (fun _ _ x => x))) (digs_dg _)
      rw [val_digs] at htr
      have hX : SlX w2 .u8 (.slice ab (digs b).length (digs b).length) (digs b) w1.heap.size := by
        have := (H2.out.fr hf1).sub (digs b).length (Nat.le_refl _)
        rw [List.take_length] at this
        exact this.apart hf2 (Nat.le_refl _)
      have htk := take_any w1.heap.size (digs a).length 5 (digs a) (digs b) _ w2 hib (digs_dg _) (Nat.le_refl _) (by have := HS1.out (); unfold maxLen; omega) hX (digs_dg _) (HLL.out ())
      rw [val_digs, val_digs] at htk
      have hfw2 := hf1.step hf2 hf1.size (fun _ _ x => x)
      have hml : Hid (∀ _ : Unit, (digs a).length ≤ maxLen) := fun _ => by have := HS1.out (); unfold maxLen; omega
      have HPw : Hid (∀ _ : Unit, a < 256 ^ (digs a).length) := fun _ => (digs_length_le a _).1 (Nat.le_refl _)
      generalize digs a = A at *
      generalize (digs b).length = lb at *
      go_wp2_with fail
      refine htr.mono ?_
      clear htr
      rintro e w2 ⟨rfl, rfl⟩
      go_wp2_with fail
      refine htk.mono ?_
      clear htk
      rintro e w3 ⟨L', br, rfl, hbr, hL', hLl, hLd, hval, hf3⟩
      have hbr0 : br = 0 := by
        have h1 := val_lt hLd
        have h2 := HAB.out ()
        have h3 := HPw.out ()
        rw [hLl] at h1
        by_cases hb1 : br = 0
        · exact hb1
        · have : br = 1 := by omega
          subst this
          omega
      subst hbr0
      have hvL : val 256 L' = a - b := by omega
      have hsl := Sl.of_ib hL' A.length A.length (by omega) (Nat.le_refl _) (hml.out ())
      rw [List.take_of_length_le (by omega)] at hsl
      have hcl := clip_any _ L' w3 hsl hLd
      rw [hvL] at hcl
      clear hval hvL hsl
      go_wp2_with fail
      refine hcl.mono ?_
      clear hcl
      rintro e w4 ⟨v4, rfl, hv4, rfl⟩
      go_wp2_with fail
      go_ret2
      exact ⟨_, rfl, hv4, hfw2.step hf3 hfw2.size (fun i hi hx => by have := hf1.size; omega)⟩
  · rw [cmpZ_lt (show a < b by omega)] at hcm
    rw [show decide (b ≤ a) = false by simpa using hab, show a - b = 0 by omega]
    clear hab s1
    go_enter Sang.func111, Sang.ntmps111
    go_wp2_with fail
    refine hcm.mono ?_
    clear hcm
    rintro e w1 ⟨rfl, hf1⟩
    go_wp2_with fail
    go_ret2
    exact ⟨_, rfl, Sl.nil _ _, hf1⟩

set_option maxRecDepth 10000 in
set_option maxHeartbeats 400000 in
theorem less_any (va vb : Value) (a b : Nat) (w : World) (h1 : Sl w .u8 va (digs a)) (h2 : Sl w .u8 vb (digs b)) (s1 : (digs a).length ≤ 8388608) :
    Calls Sang.prog 74 #[va, vb] w fun e w' => ∃ v', e = .returned v' ∧ Sl w' .u8 v' (digs (a - b)) ∧ Fr w.heap.size no w w' := by
  have hs := sub_any va vb a b w h1 h2 s1
  generalize decide (b ≤ a) = ok at hs
  clear s1 h1 h2
  go_enter Sang.func74, Sang.ntmps74
  go_wp2_with fail
  refine hs.mono ?_
  clear hs
  rintro e w1 ⟨v1, rfl, hv, hf⟩
  go_wp2_with fail
  go_ret
  exact ⟨_, rfl, hv, hf⟩

set_option maxRecDepth 10000 in
set_option maxHeartbeats 400000 in
theorem minNat_any (va vb : Value) (a b : Nat) (w : World) (h1 : Sl w .u8 va (digs a)) (h2 : Sl w .u8 vb (digs b)) :
    Calls Sang.prog 87 #[va, vb] w fun e w' => ∃ v', e = .returned v' ∧ Sl w' .u8 v' (digs (min a b)) ∧ Fr w.heap.size no w w' := by
  have hcm := cmp_any va vb _ _ w h1 (digs_dg _) h2 (digs_dg _)
  rw [val_digs, val_digs] at hcm
  by_cases hab : a < b
  · rw [cmpZ_lt hab] at hcm
    rw [show min a b = a by omega]
    clear hab
    go_enter Sang.func87, Sang.ntmps87
    go_wp2_with fail
    refine hcm.mono ?_
    rintro e w1 ⟨rfl, hf1⟩
    go_wp2_with fail
    go_ret
    exact ⟨_, rfl, h1.fr hf1, hf1⟩
  · have hge := cmpZ_ge (x := a) (y := b) (by omega)
    have hle : ¬ cmpZ a b < 0 := by omega
    rw [show min a b = b by omega]
    clear hab hge
    generalize cmpZ a b = c at hcm hle
    go_enter Sang.func87, Sang.ntmps87
    go_wp2_with fail
    refine hcm.mono ?_
    rintro e w1 ⟨rfl, hf1⟩
    go_wp2_with fail
    go_ret
    exact ⟨_, rfl, h2.fr hf1, hf1⟩

set_option maxRecDepth 10000 in
set_option maxHeartbeats 400000 in
theorem isZero_any (v : Value) (n : Nat) (w : World) (h : Sl w .u8 v (digs n)) :
    Calls Sang.prog 115 #[v] w fun e w' => e = .returned (.bool (decide (n = 0))) ∧ Fr w.heap.size no w w' := by
  have hcm := cmp_any v (.slice none 0 0) _ [] w h (digs_dg _) (Sl.nil w .u8) (Dg.nil _)
  rw [val_digs, show val 256 [] = 0 from rfl] at hcm
  by_cases h0 : n = 0
  · rw [h0, cmpZ_eq] at hcm
    rw [show decide (n = 0) = true by simpa using h0]
    clear h0 h
    go_enter Sang.func115, Sang.ntmps115
    go_wp2_with fail
    refine hcm.mono ?_
    rintro e w1 ⟨rfl, hf1⟩
    go_wp2_with fail
    go_ret
    exact ⟨rfl, hf1⟩
  · rw [cmpZ_gt (show 0 < n by omega)] at hcm
    rw [show decide (n = 0) = false by simpa using h0]
    clear h0 h
    go_enter Sang.func115, Sang.ntmps115
    go_wp2_with fail
    refine hcm.mono ?_
    rintro e w1 ⟨rfl, hf1⟩
    go_wp2_with fail
    go_ret
    exact ⟨rfl, hf1⟩

set_option maxRecDepth 10000 in
set_option maxHeartbeats 400000 in
theorem natOf_any (v : Value) (l : List Nat) (w : World) (h : Sl w .u8 v l) (hsm : l.length ≤ 16777216) :
    Calls Sang.prog 51 #[v] w fun e w' => ∃ v', e = .returned v' ∧ Sl w' .u8 v' l ∧ Fr w.heap.size no w w' := by
  go_enter Sang.func51, Sang.ntmps51
  go_wp2_with fail
  refine (bytesOf_any v l _ h hsm).mono ?_
  rintro e w1 ⟨v', rfl, hv, hf⟩
  obtain ⟨a, n, c, rfl⟩ : ∃ a n c, v' = Value.slice a n c := by obtain ⟨a, c, h, _⟩ := hv; exact ⟨a, _, c, h⟩
  go_wp2_with fail
  go_ret
  exact ⟨_, rfl, hv, hf⟩
end Go.Proofs.YgcsanGreat
