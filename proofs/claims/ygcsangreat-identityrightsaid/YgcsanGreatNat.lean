/-
  Package nat: the contracts.
-/
import Derived.Test.YgcsanGreatProg
import Derived.Test.YgcsanGreatBase
import Derived.Test.YgcsanGreatPlain
import Derived.BigQuiet
namespace Go.Proofs.YgcsanGreat
open Go.RowKit
set_option linter.unusedSimpArgs false
set_option linter.unusedVariables false

theorem und5 : Sang.prog.underlying 5 = some (.int .u8) := by kernel_rfl
theorem info5 : (Sang.prog.info? 5).map (fun i => (i.zero, i.size, i.bytes)) = some (some (.int .u8 0), 1, 1) := by kernel_rfl
theorem und34 : Sang.prog.underlying 56 = some (.slice 5) := by kernel_rfl

theorem Sl.sub {w : World} {k : IntKind} {a : Option Addr} {cap : Nat} {l : List Nat} (h : Sl w k (.slice a l.length cap) l) (n : Nat) (hn : n ≤ l.length) : Sl w k (.slice a n n) (l.take n) := by
  obtain ⟨a', c', hv, h1, h2, h3⟩ := h
  cases hv
  have e : (l.take n).length = n := by simp; omega
  refine ⟨a, n, by rw [e], by omega, by omega, ?_⟩
  rcases h3 with rfl | ⟨b, off, ha, hc⟩
  · exact .inl (by simp)
  · exact .inr ⟨b, off, ha, fun i hi => by
      rw [e] at hi
      rw [hc i (by omega)]
      simp [List.getD, hi]⟩

set_option maxRecDepth 10000 in
set_option maxHeartbeats 400000 in
theorem trim_any (v : Value) (l : List Nat) (w : World) (h : Sl w .u8 v l) (hd : Dg 256 l) :
    Calls Sang.prog 126 #[v] w fun e w' => ∃ v', e = .returned v' ∧ Sl w .u8 v' (digs (val 256 l)) ∧ w' = w := by
  have h' := h
  obtain ⟨a, cap, rfl, hl, hm, hc⟩ := h
  have H : Hid (Sl w .u8 (.slice a l.length cap) l) := h'
  have HC : Hid _ := hc
  clear h' hc
  unfold maxLen at hm
  go_enter Sang.func126, Sang.ntmps126
  go_wp2
  go_loop [3] (fun i => ∃ k : Nat, k ≤ l.length ∧ i = .int .i64 k ∧ Hid (val 256 (l.take k) = val 256 l)) (fun i => (intOf i).toNat)
  case atStart => exact ⟨l.length, Nat.le_refl _, rfl, by unfold Hid; simp⟩
  case round =>
    obtain ⟨k, hk, rfl, HT⟩ := hrel
    cases k with
    | zero =>
      go_wp2
      go_ret
      refine ⟨_, rfl, ?_, rfl⟩
      rw [← HT.out]
      exact H.out.sub 0 (by omega)
    | succ k =>
      rcases HC.out with h0 | ⟨b, off, rfl, hc⟩
      · rw [h0] at hk; simp at hk
      obtain ⟨d, HD, hcell⟩ : ∃ d : Nat, Hid (l.getD k 0 = d) ∧ w.cell? ⟨b, off + k, none⟩ = some (.int .u8 (d : Int)) := ⟨_, rfl, hc k (by omega)⟩
      clear hc
      by_cases hz : d = 0
      · subst hz
        go_wp2
        refine ⟨⟨k, by omega, rfl, ?_⟩, by simp [intOf]⟩
        unfold Hid
        rw [← HT.out, val_take_zero k (by omega) HD.out]
      · have hz' : ((d : Int) == 0) = false := by simpa using hz
        have HZ : Hid _ := hz
        clear hz
        go_wp2
        go_ret
        refine ⟨_, rfl, ?_, rfl⟩
        rw [← HT.out, ← digs_take_top hd k (by omega) (by rw [HD.out]; exact HZ.out)]
        exact H.out.sub (k + 1) (by omega)

theorem Sl.nil (w : World) (k : IntKind) : Sl w k (.slice none 0 0) [] := ⟨none, 0, rfl, Nat.le_refl _, by unfold maxLen; omega, .inl rfl⟩

set_option maxRecDepth 10000 in
set_option maxHeartbeats 400000 in
theorem norm_any (v : Value) (l : List Nat) (w : World) (h : Sl w .u8 v l) (hd : Dg 256 l) (hsm : l.length ≤ 16777216) :
    Calls Sang.prog 127 #[v] w fun e w' => ∃ v', e = .returned v' ∧ Sl w' .u8 v' (digs (val 256 l)) ∧ Fr w.heap.size no w w' := by
  obtain ⟨i5, hi5, hz5, hs5, hb5⟩ := info_parts info5
  have hlen : (digs (val 256 l)).length ≤ 16777216 := Nat.le_trans ((digs_length_le _ _).2 (val_lt hd)) hsm
  generalize hm : digs (val 256 l) = m at *
  have HM : Hid _ := hm
  clear hm
  go_enter Sang.func127, Sang.ntmps127
  go_wp2_with fail
  refine (trim_any v l _ h hd).mono ?_
  rintro e w ⟨v', rfl, hs, rfl⟩
  rw [HM.out] at hs
  have hs' := hs
  obtain ⟨a, cap, rfl, hl1, hl2, hl3⟩ := hs'
  have HS : Hid (Sl w .u8 (.slice a m.length cap) m) := hs
  clear hs hl3
  by_cases h0 : m.length = 0
  · have : m = [] := List.eq_nil_of_length_eq_zero h0
    subst this
    go_wp2_with fail
    go_ret
    exact ⟨_, rfl, Sl.nil _ _, Fr.refl _ _ _⟩
  · have h0' : ((m.length : Int) == 0) = false := by simpa using h0
    have H0 : Hid _ := h0
    clear h0
    have hf : Fr w.heap.size no w (w.alloc (.cells (ints .u8 (List.replicate m.length 0)) 5)) := (Fr.refl _ _ _).alloc (Nat.le_refl _) _
    have HF : Hid _ := hf
    clear hf
    go_wp2_with (first
      | ((with_reducible refine wl_make 56 5 (.tmp 10) (.tmp 10) .u8 .i64 .i64 m.length ?_ ?_ i5 und34 hi5 hz5 hs5 ?_ ?_ ?_); rfl; rfl; (rw [hb5]; omega); (unfold maxLen; omega))
      | ((with_reducible refine wl_copy 56 56 5 (.tmp 12) (.tmp 13) w.heap.size 0 m.length m.length .u8 5 (List.replicate m.length 0) m _ ?_ ?_ ?_ (Sl.fr HS.out HF.out) ?_ i5 und34 hi5 hs5 ?_); rfl; rfl; exact IB.new w .u8 5 _; (simp)))
    go_ret
    have hlm : lay (List.replicate m.length 0) 0 m = m := lay_all _ _ (by simp)
    rw [hlm]
    have hib : IB (setRow (w.alloc (.cells (ints .u8 (List.replicate m.length 0)) 5)) w.heap.size .u8 5 m) w.heap.size .u8 5 m := IB.setRow (by simp) _ _ _
    refine ⟨_, rfl, ?_, HF.out.setRow (.inl (Nat.le_refl _)) _ _ _⟩
    have := Sl.of_ib hib m.length m.length (Nat.le_refl _) (Nat.le_refl _) (by unfold maxLen; omega)
    rw [List.take_length] at this
    exact this

set_option maxRecDepth 10000 in
set_option maxHeartbeats 400000 in
theorem clip_any (v : Value) (l : List Nat) (w : World) (h : Sl w .u8 v l) (hd : Dg 256 l) :
    Calls Sang.prog 137 #[v] w fun e w' => ∃ v', e = .returned v' ∧ Sl w .u8 v' (digs (val 256 l)) ∧ w' = w := by
  generalize hm : digs (val 256 l) = m at *
  have HM : Hid (digs (val 256 l) = m) := hm
  clear hm
  go_enter Sang.func137, Sang.ntmps137
  go_wp2_with fail
  refine (trim_any v l _ h hd).mono ?_
  rintro e w ⟨v', rfl, hs, rfl⟩
  rw [HM.out] at hs
  have hs' := hs
  obtain ⟨a, cap, rfl, hl1, hl2, hl3⟩ := hs'
  have HS : Hid (Sl w .u8 (.slice a m.length cap) m) := hs
  clear hs hl3
  by_cases h0 : m.length = 0
  · have : m = [] := List.eq_nil_of_length_eq_zero h0
    subst this
    go_wp2_with fail
    go_ret
    exact ⟨_, rfl, Sl.nil _ _, rfl⟩
  · have h0' : ((m.length : Int) == 0) = false := by simpa using h0
    clear h0
    go_wp2_with fail
    go_ret
    refine ⟨_, rfl, ?_, rfl⟩
    have := HS.out.sub m.length (Nat.le_refl _)
    rw [List.take_length] at this
    exact this
end Go.Proofs.YgcsanGreat
