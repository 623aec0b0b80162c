/-
  Numbers once more: the results lie in new memory.
-/
import Derived.Test.YgcsanGreatSub
namespace Go.Proofs.YgcsanGreat
open Go.RowKit
set_option linter.unusedSimpArgs false
set_option linter.unusedVariables false

/-- a row of bytes in memory from block B on -/
def NewD (B : Nat) (w : World) (v : Value) (l : List Nat) : Prop :=
  (l = [] ∧ ∃ a c, v = .slice a 0 c ∧ c ≤ maxLen) ∨
  ∃ b cap T M, v = .slice (some ⟨b, 0, none⟩) l.length cap ∧ l.length ≤ cap ∧ cap ≤ maxLen ∧ B ≤ b ∧ IB w b .u8 T M ∧ M.take l.length = l
theorem NewD.nil (B : Nat) (w : World) : NewD B w (.slice none 0 0) [] := .inl ⟨rfl, none, 0, rfl, by unfold maxLen; omega⟩
theorem NewD.of_ib {B : Nat} {w : World} {b : Nat} {t : TypeId} {L : List Nat} (h : IB w b .u8 t L) (n : Nat) (hn : n ≤ L.length) (hm : n ≤ maxLen) (hB : B ≤ b) : NewD B w (.slice (some ⟨b, 0, none⟩) n n) (L.take n) := by
  have e : (L.take n).length = n := by simp; omega
  exact .inr ⟨b, n, t, L, by rw [e], by omega, hm, hB, h, by rw [e]⟩
theorem NewD.low {B B' : Nat} {w : World} {v : Value} {l : List Nat} (h : NewD B w v l) (hB : B' ≤ B) : NewD B' w v l := by
  rcases h with h | ⟨b, cap, T, M, h1, h2, h3, h4, h5⟩
  · exact .inl h
  · exact .inr ⟨b, cap, T, M, h1, h2, h3, Nat.le_trans hB h4, h5⟩
theorem NewD.shape {B : Nat} {w : World} {v : Value} {l : List Nat} (h : NewD B w v l) : ∃ a n c, v = .slice a n c := by
  rcases h with ⟨_, a, c, h, _⟩ | ⟨b, cap, T, M, h, _⟩
  · exact ⟨a, _, c, h⟩
  · exact ⟨_, _, _, h⟩
theorem NewD.fr {B : Nat} {w w' : World} {v : Value} {l : List Nat} (h : NewD B w v l) (f : Fr w.heap.size no w w') : NewD B w' v l := by
  rcases h with h | ⟨b, cap, T, M, h1, h2, h3, h4, h5, h6⟩
  · exact .inl h
  · exact .inr ⟨b, cap, T, M, h1, h2, h3, h4, h5.fr f h5.lt (fun x => x), h6⟩
theorem trimL_take : ∀ l : List Nat, l.take (trimL l).length = trimL l := by
  intro l
  induction l with
  | nil => rfl
  | cons d l ih =>
    unfold trimL
    split
    · by_cases h0 : d = 0 <;> simp [h0]
    · rename_i e m h
      rw [h] at ih
      simpa using ih
theorem digs_take {l : List Nat} (h : Dg 256 l) : l.take (digs (val 256 l)).length = digs (val 256 l) := by
  rw [← trimL_eq h]; exact trimL_take l

set_option maxRecDepth 10000 in
set_option maxHeartbeats 400000 in
theorem clip_new (b cap : Nat) (t : TypeId) (L : List Nat) (w : World) (h : IB w b .u8 t L) (hd : Dg 256 L) (hcap : L.length ≤ cap) (hmx : cap ≤ maxLen) :
    Calls Sang.prog 137 #[.slice (some ⟨b, 0, none⟩) L.length cap] w fun e w' => ∃ v', e = .returned v' ∧ NewD b w v' (digs (val 256 L)) ∧ w' = w := by
  have hsl := Sl.of_ib h L.length cap (Nat.le_refl _) hcap hmx
  rw [List.take_length] at hsl
  have htr := trim_exact (some ⟨b, 0, none⟩) cap L w hsl hd
  have htk := digs_take hd
  have hml : (digs (val 256 L)).length ≤ L.length := (digs_length_le _ _).2 (val_lt hd)
  generalize digs (val 256 L) = m at *
  have HI : Hid (IB w b .u8 t L) := h
  have HT : Hid (∀ _ : Unit, L.take m.length = m) := fun _ => htk
  have HL : Hid (∀ _ : Unit, m.length ≤ L.length ∧ m.length ≤ maxLen) := fun _ => ⟨hml, by omega⟩
  clear h hsl hd htk hml hcap hmx
  go_enter Sang.func137, Sang.ntmps137
  go_wp2_with fail
  refine htr.mono ?_
  clear htr
  rintro e w ⟨rfl, rfl⟩
  by_cases h0 : m.length = 0
  · have : m = [] := List.eq_nil_of_length_eq_zero h0
    subst this
    go_wp2_with fail
    go_ret
    exact ⟨_, rfl, NewD.nil _ _, rfl⟩
  · have h0' : ((m.length : Int) == 0) = false := by simpa using h0
    clear h0
    go_wp2_with fail
    go_ret
    refine ⟨_, rfl, ?_, rfl⟩
    have := NewD.of_ib (B := b) HI.out m.length (HL.out ()).1 (HL.out ()).2 (Nat.le_refl _)
    rw [HT.out ()] at this
    exact this

set_option maxRecDepth 10000 in
set_option maxHeartbeats 400000 in
theorem norm_new (v : Value) (l : List Nat) (w : World) (h : Sl w .u8 v l) (hd : Dg 256 l) (hsm : l.length ≤ 16777216) :
    Calls Sang.prog 127 #[v] w fun e w' => ∃ v', e = .returned v' ∧ NewD w.heap.size w' v' (digs (val 256 l)) ∧ Fr w.heap.size no w w' := by
  obtain ⟨i5, hi5, hz5, hs5, hb5⟩ := info_parts info5
  have hlen : (digs (val 256 l)).length ≤ 16777216 := Nat.le_trans ((digs_length_le _ _).2 (val_lt hd)) hsm
  generalize hm : digs (val 256 l) = m at *
  have HM : Hid _ := hm
  clear hm
  go_enter Sang.func127, Sang.ntmps127
  go_wp2_with fail
  refine (trim_any v l _ h hd).mono ?_
  rintro e w ⟨v', rfl, hs, rfl⟩
  rw [HM.out] at hs
  have hs' := hs
  obtain ⟨a, cap, rfl, hl1, hl2, hl3⟩ := hs'
  have HS : Hid (Sl w .u8 (.slice a m.length cap) m) := hs
  clear hs hl3
  by_cases h0 : m.length = 0
  · have : m = [] := List.eq_nil_of_length_eq_zero h0
    subst this
    go_wp2_with fail
    go_ret
    exact ⟨_, rfl, NewD.nil _ _, Fr.refl _ _ _⟩
  · have h0' : ((m.length : Int) == 0) = false := by simpa using h0
    have H0 : Hid _ := h0
    clear h0
    have hf : Fr w.heap.size no w (w.alloc (.cells (ints .u8 (List.replicate m.length 0)) 5)) := (Fr.refl _ _ _).alloc (Nat.le_refl _) _
    have HF : Hid _ := hf
    clear hf
    go_wp2_with (first
      | ((with_reducible refine wl_make 56 5 (.tmp 10) (.tmp 10) .u8 .i64 .i64 m.length ?_ ?_ i5 und34 hi5 hz5 hs5 ?_ ?_ ?_); rfl; rfl; (rw [hb5]; omega); (unfold maxLen; omega))
      | ((with_reducible refine wl_copy 56 56 5 (.tmp 12) (.tmp 13) w.heap.size 0 m.length m.length .u8 5 (List.replicate m.length 0) m _ ?_ ?_ ?_ (Sl.fr HS.out HF.out) ?_ i5 und34 hi5 hs5 ?_); rfl; rfl; exact IB.new w .u8 5 _; (simp)))
    go_ret
    have hlm : lay (List.replicate m.length 0) 0 m = m := lay_all _ _ (by simp)
    rw [hlm]
    have hib : IB (setRow (w.alloc (.cells (ints .u8 (List.replicate m.length 0)) 5)) w.heap.size .u8 5 m) w.heap.size .u8 5 m := IB.setRow (by simp) _ _ _
    refine ⟨_, rfl, ?_, HF.out.setRow (.inl (Nat.le_refl _)) _ _ _⟩
    have := NewD.of_ib (B := w.heap.size) hib m.length (Nat.le_refl _) (by unfold maxLen; omega) (Nat.le_refl _)
    rw [List.take_length] at this
    exact this

set_option maxRecDepth 10000 in
set_option maxHeartbeats 1000000 in
theorem fromBE_new (v : Value) (l : List Nat) (w : World) (h : Sl w .u8 v l) (hd : Dg 256 l) (hsm : l.length ≤ 16777216) :
    Calls Sang.prog 83 #[v] w fun e w' => ∃ v', e = .returned v' ∧ NewD w.heap.size w' v' (digs (val 256 l.reverse)) ∧ Fr w.heap.size no w w' := by
  obtain ⟨i5, hi5, hz5, hs5, hb5⟩ := info_parts info5
  have h' := h
  obtain ⟨a, cap, rfl, hl, hm, hc⟩ := h
  have HC : Hid (l = [] ∨ ∃ b off, a = some ⟨b, off, none⟩ ∧ ∀ i, i < l.length → w.cell? ⟨b, off + i, none⟩ = some (.int .u8 ((l.getD i 0 : Nat) : Int))) := hc
  clear h' hc
  unfold maxLen at hm
  go_enter Sang.func83, Sang.ntmps83
  go_wp2
  go_loop [3] (fun i => ∃ k : Nat, k ≤ l.length ∧ i = .int .i64 k ∧ Hid (∀ j, j < k → l.getD j 0 = 0)) (fun i => l.length - (intOf i).toNat)
  case atStart => exact ⟨0, Nat.zero_le _, rfl, fun j hj => by omega⟩
  case round =>
    obtain ⟨k, hk, rfl, HT⟩ := hrel
    by_cases hkl : k = l.length
    · subst hkl
      go_wp2
      go_ret
      refine ⟨_, rfl, ?_, Fr.refl _ _ _⟩
      rw [be_zero HT.out]
      exact NewD.nil _ _
    · have hlt : k < l.length := by omega
      have hne : ((k : Int) == (l.length : Int)) = false := by simp; omega
      clear hkl
      rcases HC.out with h0 | ⟨b, off, rfl, hc⟩
      · rw [h0] at hlt; simp at hlt
      have HC2 : Hid (∀ i, i < l.length → w.cell? ⟨b, off + i, none⟩ = some (.int .u8 ((l.getD i 0 : Nat) : Int))) := hc
      obtain ⟨d, HD, hcell⟩ := Sl.at (n := 0) (cap := 0) hc k hlt
      clear hc
      by_cases hz : d = 0
      · subst hz
        go_wp2
        refine ⟨⟨k + 1, by omega, by go_num, ?_⟩, by simp [intOf]; omega⟩
        intro j hj
        by_cases e : j = k
        · subst e; exact HD.out
        · exact HT.out j (by omega)
      · have hz' : ((d : Int) == 0) = false := by simpa using hz
        have HZ : Hid (l.getD k 0 ≠ 0) := by unfold Hid; rw [HD.out]; exact hz
        clear hz
        have HE : Hid ((l.drop k).reverse = digs (val 256 l.reverse)) := be_top hd k hlt HT.out HZ.out
        have e1 : (l.length : Int) - (k : Int) = ((l.length - k : Nat) : Int) := by omega
        have hlm : (l.drop k).reverse.length = l.length - k := by simp
        generalize hM : (l.drop k).reverse = M at *
        have HM : Hid ((l.drop k).reverse = M) := hM
        have HLM : Hid (M.length = l.length - k) := hlm
        clear hM hlm
        generalize hn : l.length - k = n at *
        have HN : Hid (l.length - k = n) := hn
        have hn2 : n ≤ 16777216 := by omega
        clear hn
        go_wp2_with (first
          | ((with_reducible refine wl_make 56 5 (.tmp 26) (.tmp 26) .u8 .i64 .i64 n ?_ ?_ i5 und34 hi5 hz5 hs5 ?_ ?_ ?_); rfl; rfl; (rw [hb5]; omega); (unfold maxLen; omega)))
        go_loopw [30] (fun i wr => ∃ j : Nat, j ≤ n ∧ i = .int .i64 j ∧ IB wr w.heap.size .u8 5 (part M j) ∧ Fr w.heap.size no w wr) (fun i _ => n - (intOf i).toNat)
        case atStart =>
          refine ⟨0, by omega, rfl, ?_, ?_⟩
          · rw [part_zero, HLM.out]; exact IB.new _ _ _ _
          · exact (Fr.refl _ _ _).alloc (Nat.le_refl _) _
        case round =>
          obtain ⟨j, hj, rfl, h1, hf⟩ := hrel
          have hpl : (part M j).length = n := by rw [part_length _ _ (by rw [HLM.out]; exact hj), HLM.out]
          by_cases hjn : j < n
          · have HNo : l.length - k = n := HN.out
            obtain ⟨d2, HD2, hc2⟩ := Sl.at (n := 0) (cap := 0) HC2.out (l.length - 1 - j) (by omega)
            rw [← hf.cell (cell_lt hc2) (fun x => x)] at hc2
            have hc3 := h1.cell j (by omega)
            have hz3 := h1.unfrozen j
            have hi1 : 0 ≤ (l.length : Int) - 1 - (j : Int) := by omega
            have hi2 : (l.length : Int) - 1 - (j : Int) < (l.length : Int) := by omega
            clear HNo
            go_wp2
            refine ⟨⟨j + 1, by omega, by go_num, ?_, ?_⟩, by simp [intOf]; omega⟩
            · refine h1.set' j d2 rfl ?_
              rw [part_succ _ _ (by rw [HLM.out]; exact hjn)]
              congr 1
              rw [← HD2.out, ← HM.out]
              have := HN.out
              simp only [List.getD, List.getElem?_reverse (show j < (l.drop k).length by simp; omega), List.getElem?_drop, List.length_drop]
              congr 2
              omega
            · exact hf.setCell (.inl (Nat.le_refl _)) _
          · have : j = n := by omega
            subst this
            go_wp2
            go_ret
            refine ⟨_, rfl, ?_, hf⟩
            rw [← HE.out, ← part_all M, HLM.out]
            have := NewD.of_ib (B := w.heap.size) h1 j (by omega) (by unfold maxLen; omega) (Nat.le_refl _)
            rw [List.take_of_length_le (by omega)] at this
            exact this

set_option maxRecDepth 10000 in
set_option maxHeartbeats 1000000 in
theorem fromU64_new (x : Nat) (w : World) (hx : x < W64) :
    Calls Sang.prog 109 #[.int .u64 (x : Int)] w fun e w' => ∃ v', e = .returned v' ∧ NewD w.heap.size w' v' (digs x) ∧ Fr w.heap.size no w w' := by
  have HX : Hid (x < W64) := hx
  clear hx
  have HG : Hid (∀ i, i < 8 → (limbs 256 8 x).getD i 0 = x / 256 ^ i % 256) := fun i hi => limbs_get 256 8 x i hi
  have HD := limbs_dg (B := 256) (by decide) 8 x
  have HL : (limbs 256 8 x).length = 8 := limbs_length _ _ _
  have HV : Hid (val 256 (limbs 256 8 x) = x) := by unfold Hid; rw [val_limbs]; exact Nat.mod_eq_of_lt HX.out
  generalize limbs 256 8 x = M at *
  go_enter Sang.func109, Sang.ntmps109
  go_wp2
  go_loopw [5, 0] (fun iv xv wr => ∃ i : Nat, i ≤ 8 ∧ iv = .int .i64 i ∧ xv = .int .u64 ((x / 256 ^ i : Nat) : Int) ∧ IB wr w.heap.size .u8 217 (part M i) ∧ Fr w.heap.size no w wr) (fun i _ _ => 8 - (intOf i).toNat)
  case atStart =>
    refine ⟨0, by omega, rfl, by simp, ?_, (Fr.refl _ _ _).alloc (Nat.le_refl _) _⟩
    refine IB.newAt rfl ?_
    rw [part_zero, HL]; rfl
  case round =>
    obtain ⟨i, hi, rfl, rfl, hL, hf⟩ := hrel
    have hpl : (part M i).length = 8 := by rw [part_length _ _ (by omega), HL]
    by_cases hin : i < 8
    · have hq : Hid (x / 256 ^ i / 256 = x / 256 ^ (i + 1)) := by unfold Hid; rw [Nat.pow_succ, Nat.div_div_eq_div_mul]
      have hlt : Hid (x / 256 ^ i < W64) := Nat.lt_of_le_of_lt (Nat.div_le_self _ _) HX.out
      have HGi := HG.out i hin
      have HGi' : Hid (M.getD i 0 = x / 256 ^ i % 256) := HGi
      clear HGi
      have hcz := hL.cell i (by omega)
      have hzz := hL.unfrozen i
      generalize x / 256 ^ i = q at *
      go_wp2
      refine ⟨⟨i + 1, by omega, by go_num, ?_, ?_, ?_⟩, by simp [intOf]; omega⟩
      · rw [← hq.out]; congr 1
      · refine hL.set' i (q % 256) ?_ ?_
        · omega
        · rw [part_succ _ _ (by omega), HGi'.out]
      · exact hf.setCell (.inl (Nat.le_refl _)) _
    · have : i = 8 := by omega
      subst this
      go_wp2_with fail
      have hsl := Sl.of_ib hL 8 8 (by omega) (Nat.le_refl _) (by decide)
      have e8 : (part M 8).take 8 = M := by
        have := part_all M
        rw [HL] at this
        rw [this, List.take_of_length_le (by omega)]
      rw [e8] at hsl
      refine (norm_new _ _ _ hsl HD (by omega)).mono ?_
      rintro e w2 ⟨v', rfl, hs, hf2⟩
      rw [HV.out] at hs
      go_wp2_with fail
      go_ret
      exact ⟨_, rfl, hs.low hf.size, hf.step hf2 hf.size (fun _ _ x => x)⟩

set_option maxRecDepth 10000 in
set_option maxHeartbeats 400000 in
theorem num_new (x : Nat) (w : World) (hx : x < W64) :
    Calls Sang.prog 65 #[.int .u64 (x : Int)] w fun e w' => ∃ v', e = .returned v' ∧ NewD w.heap.size w' v' (digs x) ∧ Fr w.heap.size no w w' := by
  go_enter Sang.func65, Sang.ntmps65
  go_wp2_with fail
  refine (fromU64_new x _ hx).mono ?_
  rintro e w2 ⟨v', rfl, hs, hf2⟩
  go_wp2_with fail
  go_ret
  exact ⟨_, rfl, hs, hf2⟩

end Go.Proofs.YgcsanGreat
