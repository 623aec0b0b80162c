/-
  Package nat: U64; package yp: small, place, cut, part, bytesOf, divided, words, maxNat; package law: sameGas.
-/
import Derived.Test.YgcsanGreatBit
import Derived.Test.YgcsanGreatRm
import Derived.Test.YgcsanGreatEq
import Derived.Laws.Cover3
namespace Go.Proofs.YgcsanGreat
open Go.RowKit
set_option linter.unusedSimpArgs false
set_option linter.unusedVariables false

theorem val_drop_pred {B : Nat} {l : List Nat} (k : Nat) (h : k < l.length) : val B (l.drop k) = l.getD k 0 + B * val B (l.drop (k + 1)) := by
  rw [List.drop_eq_getElem_cons h, val]
  simp [List.getD, h]

theorem digs_room' (X k : Nat) (h : X < W64 ^ k) : (digs X).length ≤ 8 * k := by
  refine (digs_length_le X (8 * k)).2 ?_
  rw [show W64 = 256 ^ 8 from rfl, ← Nat.pow_mul] at h
  exact h

set_option maxRecDepth 10000 in
set_option maxHeartbeats 400000 in
theorem natU64_any (v : Value) (l : List Nat) (n : Nat) (w : World) (h : Sl w .u8 v l) (hd : Dg 256 l) (hn : val 256 l = n) (hlt : n < W64) :
    Calls Sang.prog 116 #[v] w fun e w' => e = .returned (.tuple #[.int .u64 (n : Int), .bool true]) ∧ w' = w := by
  have HLT : Hid (n < W64) := hlt
  have HN : Hid (val 256 l = n) := hn
  clear hlt hn
  go_enter Sang.func116, Sang.ntmps116
  go_wp2_with fail
  refine (trim_any v l _ h hd).mono ?_
  rintro e w ⟨v', rfl, hs, rfl⟩
  rw [HN.out] at hs
  have hdm := digs_dg n
  have HV : Hid (val 256 (digs n) = n) := val_digs n
  have hlen : (digs n).length ≤ 8 := (digs_length_le n 8).2 HLT.out
  have HW : Hid (∀ k, val 256 ((digs n).drop k) * 256 ^ k ≤ n) := by
    intro k
    rw [val_drop hdm (by decide), HV.out]
    exact Nat.div_mul_le_self _ _
  generalize digs n = m at *
  obtain ⟨a, cap, rfl, hl, hm, hc⟩ := hs
  have HC : Hid (m = [] ∨ ∃ b off, a = some ⟨b, off, none⟩ ∧ ∀ i, i < m.length → w.cell? ⟨b, off + i, none⟩ = some (.int .u8 ((m.getD i 0 : Nat) : Int))) := hc
  clear hc h
  unfold maxLen at hm
  go_wp2_with fail
  go_loop [5, 4] (fun iv xv => ∃ k : Nat, k ≤ m.length ∧ iv = .int .i64 k ∧ xv = .int .u64 ((val 256 (m.drop k) : Nat) : Int)) (fun i _ => (intOf i).toNat)
  case atStart => exact ⟨m.length, Nat.le_refl _, rfl, by simp [val]⟩
  case round =>
    obtain ⟨k, hk, rfl, rfl⟩ := hrel
    cases k with
    | zero =>
      rw [List.drop_zero, HV.out]
      go_wp2_with fail
      go_ret2
      exact ⟨rfl, rfl⟩
    | succ k =>
      rcases HC.out with h0 | ⟨b, off, rfl, hcs⟩
      · rw [h0] at hk; simp at hk
      obtain ⟨d, HD, hcd⟩ := Sl.at (n := 0) (cap := 0) hcs k hk
      have hd256 : d < 256 := by rw [← HD.out]; exact hdm.getD (by decide) _
      clear hcs
      have HX : Hid (val 256 (m.drop (k + 1)) * 256 < W64) := by
        have h1 := HW.out (k + 1)
        have h2 := HLT.out
        have h3 : 256 ≤ 256 ^ (k + 1) := by
          have := Nat.pow_le_pow_right (show 256 > 0 by decide) (show 1 ≤ k + 1 by omega)
          simpa using this
        have h4 := Nat.mul_le_mul_left (val 256 (m.drop (k + 1))) h3
        unfold Hid
        omega
      have HE := val_drop_pred (B := 256) (l := m) k hk
      rw [HD.out] at HE
      have HE2 : Hid (val 256 (m.drop k) = d + 256 * val 256 (m.drop (k + 1))) := HE
      clear HE
      generalize val 256 (m.drop (k + 1)) = x at *
      have e1 : ((k + 1 : Nat) : Int) - 1 = (k : Int) := by omega
      go_wp2_with fail
      refine ⟨⟨k, by omega, by simp, ?_⟩, by simp [intOf]⟩
      congr 1
      have h := shlOr x d HX.out hd256
      have e2 : IntKind.u64.wrap (d : Int) = (d : Int) := by rw [IntKind.wrap_u64]; omega
      rw [e2] at h
      rw [h, HE2.out]
      omega

set_option maxRecDepth 10000 in
set_option maxHeartbeats 400000 in
theorem small_any (v : Value) (n : Nat) (w : World) (h : Sl w .u8 v (digs n)) (hlt : n < W64) :
    Calls Sang.prog 47 #[v] w fun e w' => e = .returned (.int .u64 (n : Int)) ∧ w' = w := by
  go_enter Sang.func47, Sang.ntmps47
  go_wp2_with fail
  refine (natU64_any v _ n _ h (digs_dg _) (val_digs _) hlt).mono ?_
  rintro e w ⟨rfl, rfl⟩
  go_wp2_with fail
  go_ret
  exact ⟨rfl, rfl⟩

set_option maxRecDepth 10000 in
set_option maxHeartbeats 400000 in
theorem place_any (v : Value) (n len : Nat) (w : World) (h : Sl w .u8 v (digs n)) (hlt : n < 4294967296) (hl : len < 4294967296) :
    Calls Sang.prog 122 #[v, .int .i64 (len : Int)] w fun e w' => e = .returned (.tuple #[.int .i64 ((if n < len then n else 0 : Nat) : Int), .bool (decide (n < len))]) ∧ w' = w := by
  have HS : Hid (Sl w .u8 v (digs n)) := h
  clear h
  by_cases hc : n < len
  · have e1 : decide (n < len) = true := by simpa using hc
    rw [if_pos hc, e1]
    clear e1
    go_enter Sang.func122, Sang.ntmps122
    go_wp2_with fail
    refine (natU64_any v _ n _ HS.out (digs_dg _) (val_digs _) (by rw [W64_eq]; omega)).mono ?_
    rintro e w ⟨rfl, rfl⟩
    go_wp2_with fail
    go_ret2
    exact ⟨rfl, rfl⟩
  · have e1 : decide (n < len) = false := by simpa using hc
    rw [if_neg hc, e1]
    clear e1
    go_enter Sang.func122, Sang.ntmps122
    go_wp2_with fail
    refine (natU64_any v _ n _ HS.out (digs_dg _) (val_digs _) (by rw [W64_eq]; omega)).mono ?_
    rintro e w ⟨rfl, rfl⟩
    go_wp2_with fail
    go_ret2
    exact ⟨rfl, rfl⟩

/-- n bytes of I from off, zeros past its end -/
def partB (I : List Nat) (off n : Nat) : List Nat := (List.range n).map fun i => I.getD (off + i) 0

theorem partB_length (I : List Nat) (off n : Nat) : (partB I off n).length = n := by simp [partB]
theorem partB_get (I : List Nat) (off n i : Nat) (h : i < n) : (partB I off n)[i]? = some (I.getD (off + i) 0) := by simp [partB, h]
theorem partB_dg {I : List Nat} (h : Dg 256 I) (off n : Nat) : Dg 256 (partB I off n) := by
  intro x hx
  obtain ⟨i, _, rfl⟩ := List.mem_map.1 hx
  exact h.getD (by decide) _
/-- bytes past the end -/
theorem partB_past (I : List Nat) (off n : Nat) (h : I.length ≤ off) : partB I off n = List.replicate n 0 := by
  apply List.ext_getElem?
  intro i
  by_cases hi : i < n
  · rw [partB_get _ _ _ _ hi]
    simp [List.getD, show I.length ≤ off + i by omega, hi]
  · rw [List.getElem?_eq_none (by rw [partB_length]; omega), List.getElem?_eq_none (by simp; omega)]
/-- zeros, and what there is laid over them -/
theorem partB_lay (I : List Nat) (off n : Nat) : lay (List.replicate n 0) 0 ((I.drop off).take n) = partB I off n := by
  apply List.ext_getElem?
  intro i
  rw [lay_get _ _ _ _ (by simp; omega)]
  by_cases hi : i < n
  · rw [partB_get _ _ _ _ hi]
    by_cases h2 : off + i < I.length
    · rw [if_pos (by simp; omega)]
      simp [List.getElem?_take, List.getElem?_drop, hi, List.getD, h2]
    · rw [if_neg (by simp; omega)]
      simp [List.getD, show I.length ≤ off + i by omega, hi]
  · rw [if_neg (by simp; omega), List.getElem?_eq_none (by simp; omega), List.getElem?_eq_none (by rw [partB_length]; omega)]

theorem Sl.drop {w : World} {k : IntKind} {a : Option Addr} {cap : Nat} {l : List Nat} (h : Sl w k (.slice a l.length cap) l) (n : Nat) (hn : n < l.length) :
    ∃ b off, a = some ⟨b, off, none⟩ ∧ Sl w k (.slice (some ⟨b, off + n, none⟩) (l.length - n) (cap - n)) (l.drop n) := by
  obtain ⟨a', c', hv, h1, h2, h3⟩ := h
  cases hv
  rcases h3 with rfl | ⟨b, off, ha, hc⟩
  · simp at hn
  · refine ⟨b, off, ha, some ⟨b, off + n, none⟩, cap - n, by simp, by simp; omega, by omega, .inr ⟨b, off + n, rfl, fun i hi => ?_⟩⟩
    simp at hi
    rw [show off + n + i = off + (n + i) by omega, hc (n + i) (by omega)]
    simp [List.getD]

set_option maxRecDepth 10000 in
set_option maxHeartbeats 400000 in
theorem cut_any (v vo vn : Value) (I : List Nat) (off n : Nat) (w : World) (h : Sl w .u8 v I) (ho : Sl w .u8 vo (digs off)) (hn : Sl w .u8 vn (digs n)) (sI : I.length ≤ 16777216) (so : off ≤ 16777216) (sn : n ≤ 16777216) :
    Calls Sang.prog 154 #[v, vo, vn] w fun e w' => ∃ v', e = .returned v' ∧ Sl w' .u8 v' (partB I off n) ∧ Fr w.heap.size no w w' := by
  obtain ⟨i5, hi5, hz5, hs5, hb5⟩ := info_parts info5
  have HS : Hid (Sl w .u8 v I) := h
  have HO : Hid (Sl w .u8 vo (digs off)) := ho
  have HN : Hid (Sl w .u8 vn (digs n)) := hn
  obtain ⟨a, cap, rfl, hl, hm, hc⟩ := h
  clear hc ho hn
  unfold maxLen at hm
  have hf : Fr w.heap.size no w (w.alloc (.cells (ints .u8 (List.replicate n 0)) 5)) := (Fr.refl _ _ _).alloc (Nat.le_refl _) _
  have HF : Hid _ := hf
  have hIB := IB.new w .u8 5 (List.replicate n 0)
  clear hf
  go_enter Sang.func154, Sang.ntmps154
  go_wp2_with fail
  refine (small_any vn n _ HN.out (by rw [W64_eq]; omega)).mono ?_
  rintro e w ⟨rfl, rfl⟩
  go_wp2_with ((with_reducible refine wl_make 27 5 (.tmp 11) (.tmp 11) .u8 .u64 .u64 n ?_ ?_ i5 und33 hi5 hz5 hs5 ?_ ?_ ?_); rfl; rfl; (rw [hb5]; omega); (unfold maxLen; omega))
  refine (place_any vo off I.length _ (HO.out.fr HF.out) (by omega) (by omega)).mono ?_
  have hSl := HS.out.fr HF.out
  have hfr := HF.out
  have hln : (List.replicate n 0).length = n := by simp
  clear HF HS HO HN
  generalize w.alloc (.cells (ints .u8 (List.replicate n 0)) 5) = w1 at hIB hSl hfr ⊢
  generalize hU : w.heap.size = U at hIB hfr ⊢
  rintro e w1 ⟨rfl, rfl⟩
  by_cases hc : off < I.length
  · obtain ⟨b, o, rfl, hSd⟩ := hSl.drop off hc
    rw [if_pos hc, show decide (off < I.length) = true by simpa using hc]
    have hi1 : (0 : Int) ≤ (off : Int) := by omega
    have hi2 : (off : Int) ≤ (I.length : Int) := by omega
    go_wp2_with ((with_reducible refine wl_copy 27 27 5 (.tmp 21) (.tmp 24) U 0 n n .u8 5 (List.replicate n 0) (I.drop off) _ ?_ ?_ hIB hSd ?_ i5 und33 hi5 hs5 ?_); rfl; rfl; omega)
    go_ret
    rw [partB_lay]
    subst hU
    have hib := IB.setRow hIB.lt .u8 5 (partB I off n)
    refine ⟨_, rfl, ?_, hfr.setRow (.inl (Nat.le_refl _)) _ _ _⟩
    have := Sl.of_ib hib n n (by rw [partB_length]; omega) (Nat.le_refl _) (by unfold maxLen; omega)
    rw [List.take_of_length_le (by rw [partB_length]; omega)] at this
    exact this
  · rw [if_neg hc, show decide (off < I.length) = false by simpa using hc]
    go_wp2_with fail
    go_ret
    rw [partB_past _ _ _ (by omega)]
    subst hU
    refine ⟨_, rfl, ?_, hfr⟩
    have := Sl.of_ib hIB n n (by omega) (Nat.le_refl _) (by unfold maxLen; omega)
    rw [List.take_of_length_le (by omega)] at this
    exact this

set_option maxRecDepth 10000 in
set_option maxHeartbeats 400000 in
theorem ypPart_any (v : Value) (I : List Nat) (off n : Nat) (w : World) (h : Sl w .u8 v I) (sI : I.length ≤ 16777216) (so : off ≤ 16777216) (sn : n ≤ 16777216) :
    Calls Sang.prog 180 #[v, .int .u64 (off : Int), .int .u64 (n : Int)] w fun e w' => ∃ v', e = .returned v' ∧ Sl w' .u8 v' (partB I off n) ∧ Fr w.heap.size no w w' := by
  go_enter Sang.func180, Sang.ntmps180
  go_wp2_with fail
  refine (num_any off _ (by rw [W64_eq]; omega)).mono ?_
  rintro e w1 ⟨v1, rfl, hv1, hf1⟩
  go_wp2_with fail
  refine (num_any n _ (by rw [W64_eq]; omega)).mono ?_
  rintro e w2 ⟨v2, rfl, hv2, hf2⟩
  have hfw2 := hf1.step hf2 hf1.size (fun _ _ x => x)
  have hv1' := hv1.fr hf2
  go_wp2_with fail
  refine (cut_any v v1 v2 I off n w2 (h.fr hfw2) hv1' hv2 sI so sn).mono ?_
  rintro e w3 ⟨v3, rfl, hv3, hf3⟩
  go_wp2_with fail
  go_ret
  exact ⟨_, rfl, hv3, hfw2.step hf3 hfw2.size (fun _ _ x => x)⟩

theorem run_eql_nil {P : Program} (t e : TypeId) (a : Option Addr) (l c : Nat) (h : P.underlying t = some (.slice e)) : ∀ w, (binOp .eql t (.slice a l c) (.slice none 0 0)).run P w = .ok (.bool a.isNone) w := by
  intro w
  simp only [binOp]
  simp [run_equal_slice_nil w t e a l c h]

set_option maxRecDepth 10000 in
set_option maxHeartbeats 400000 in
theorem bytesOf_any (v : Value) (l : List Nat) (w : World) (h : Sl w .u8 v l) (hsm : l.length ≤ 16777216) :
    Calls Sang.prog 49 #[v] w fun e w' => ∃ v', e = .returned v' ∧ Sl w' .u8 v' l ∧ Fr w.heap.size no w w' := by
  obtain ⟨i5, hi5, hz5, hs5, hb5⟩ := info_parts info5
  have HS : Hid (Sl w .u8 v l) := h
  obtain ⟨a, cap, rfl, hl, hm, hc⟩ := h
  have hf : Fr w.heap.size no w (w.alloc (.cells (ints .u8 (List.replicate l.length 0)) 5)) := (Fr.refl _ _ _).alloc (Nat.le_refl _) _
  have HF : Hid _ := hf
  clear hf
  cases a with
  | none =>
    have h0 : l = [] := by
      rcases hc with h | ⟨b, o, h, _⟩
      · exact h
      · cases h
    subst h0
    clear hc
    have hnil := run_eql_nil (P := Sang.prog) 27 5 none 0 cap und33
    go_enter Sang.func49, Sang.ntmps49
    go_wp2_with fail
    go_ret
    exact ⟨_, rfl, Sl.nil _ _, Fr.refl _ _ _⟩
  | some a =>
    clear hc
    have hnil := run_eql_nil (P := Sang.prog) 27 5 (some a) l.length cap und33
    go_enter Sang.func49, Sang.ntmps49
    go_wp2_with (first
      | ((with_reducible refine wl_make 27 5 (.tmp 7) (.tmp 7) .u8 .i64 .i64 l.length ?_ ?_ i5 und33 hi5 hz5 hs5 ?_ ?_ ?_); rfl; rfl; (rw [hb5]; omega); (unfold maxLen; omega))
      | ((with_reducible refine wl_copy 27 27 5 (.tmp 9) (.tmp 10) w.heap.size 0 l.length l.length .u8 5 (List.replicate l.length 0) l _ ?_ ?_ ?_ (Sl.fr HS.out HF.out) ?_ i5 und33 hi5 hs5 ?_); rfl; rfl; exact IB.new w .u8 5 _; (simp)))
    go_ret
    have hlm : lay (List.replicate l.length 0) 0 (l.take l.length) = l := by rw [List.take_length]; exact lay_all _ _ (by simp)
    rw [List.take_length] at hlm
    rw [hlm]
    have hib : IB (setRow (w.alloc (.cells (ints .u8 (List.replicate l.length 0)) 5)) w.heap.size .u8 5 l) w.heap.size .u8 5 l := IB.setRow (by simp) _ _ _
    refine ⟨_, rfl, ?_, HF.out.setRow (.inl (Nat.le_refl _)) _ _ _⟩
    have := Sl.of_ib hib l.length l.length (Nat.le_refl _) (Nat.le_refl _) (by unfold maxLen; omega)
    rw [List.take_length] at this
    exact this

set_option maxRecDepth 10000 in
set_option maxHeartbeats 400000 in
theorem divided_any (v : Value) (n d : Nat) (w : World) (h : Sl w .u8 v (digs n)) (hn : n < W64 ^ 16) (hd : d < W64) (h0 : d ≠ 0) :
    Calls Sang.prog 88 #[v, .int .u64 (d : Int)] w fun e w' => ∃ v', e = .returned v' ∧ Sl w' .u8 v' (digs (n / d)) ∧ Fr w.heap.size no w w' := by
  have H1 : Hid ((digs n).length ≤ 8388608) := Nat.le_trans (digs_room' _ 16 hn) (by decide)
  have H2 : Hid ((digs d).length ≤ 8388608) := Nat.le_trans (digs_room' _ 1 (by rw [Nat.pow_one]; exact hd)) (by decide)
  have HD : Hid (d < W64 ∧ d ≠ 0) := ⟨hd, h0⟩
  clear hn hd h0
  go_enter Sang.func88, Sang.ntmps88
  go_wp2_with fail
  refine (num_any d _ HD.out.1).mono ?_
  rintro e w1 ⟨v1, rfl, hv1, hf1⟩
  go_wp2_with fail
  refine (divMod_any v v1 _ _ w1 (h.fr hf1) (digs_dg _) hv1 (digs_dg _) H1.out H2.out (by rw [val_digs]; exact HD.out.2)).mono ?_
  rintro e w2 ⟨vq, vr, rfl, hq, hr, hf2⟩
  rw [val_digs, val_digs] at hq
  go_wp2_with fail
  go_ret
  exact ⟨_, rfl, hq, hf1.step hf2 hf1.size (fun _ _ x => x)⟩

/-- the sum of small numbers -/
theorem addN_any (va vb : Value) (a b : Nat) (w : World) (h1 : Sl w .u8 va (digs a)) (h2 : Sl w .u8 vb (digs b)) (ha : a < W64 ^ 8) (hb : b < W64 ^ 8) :
    Calls Sang.prog 78 #[va, vb] w fun e w' => ∃ v', e = .returned v' ∧ Sl w' .u8 v' (digs (a + b)) ∧ Fr w.heap.size no w w' := by
  have := add_any va vb _ _ w h1 (digs_dg _) h2 (digs_dg _) (Nat.le_trans (digs_room' _ 8 ha) (by decide)) (Nat.le_trans (digs_room' _ 8 hb) (by decide))
  rw [val_digs, val_digs] at this
  exact this

set_option maxRecDepth 10000 in
set_option maxHeartbeats 400000 in
theorem words_any (v : Value) (n : Nat) (w : World) (h : Sl w .u8 v (digs n)) (hn : n < W64) :
    Calls Sang.prog 135 #[v] w fun e w' => ∃ v', e = .returned v' ∧ Sl w' .u8 v' (digs ((n + 31) / 32)) ∧ Fr w.heap.size no w w' := by
  have HN : Hid (n < W64) := hn
  clear hn
  go_enter Sang.func135, Sang.ntmps135
  go_wp2_with fail
  refine (num_any 31 _ (by decide)).mono ?_
  rintro e w1 ⟨v1, rfl, hv1, hf1⟩
  go_wp2_with fail
  refine (addN_any v v1 n 31 w1 (h.fr hf1) hv1 (Nat.lt_of_lt_of_le HN.out (by decide)) (by decide)).mono ?_
  rintro e w2 ⟨v2, rfl, hv2, hf2⟩
  have hfw2 := hf1.step hf2 hf1.size (fun _ _ x => x)
  go_wp2_with fail
  refine (divided_any v2 (n + 31) 32 w2 hv2 (Nat.lt_trans (Nat.add_lt_add_right HN.out 31) (by decide)) (by decide) (by decide)).mono ?_
  rintro e w3 ⟨v3, rfl, hv3, hf3⟩
  go_wp2_with fail
  go_ret
  exact ⟨_, rfl, hv3, hfw2.step hf3 hfw2.size (fun _ _ x => x)⟩

set_option maxRecDepth 10000 in
set_option maxHeartbeats 400000 in
theorem maxNat_any (va vb : Value) (a b : Nat) (w : World) (h1 : Sl w .u8 va (digs a)) (h2 : Sl w .u8 vb (digs b)) :
    Calls Sang.prog 153 #[va, vb] w fun e w' => ∃ v', e = .returned v' ∧ Sl w' .u8 v' (digs (max a b)) ∧ Fr w.heap.size no w w' := by
  have hcm := cmp_any va vb _ _ w h1 (digs_dg _) h2 (digs_dg _)
  rw [val_digs, val_digs] at hcm
  by_cases hab : b < a
  · rw [cmpZ_gt hab] at hcm
    rw [show max a b = a by omega]
    clear hab
    go_enter Sang.func153, Sang.ntmps153
    go_wp2_with fail
    refine hcm.mono ?_
    rintro e w1 ⟨rfl, hf1⟩
    go_wp2_with fail
    go_ret
    exact ⟨_, rfl, h1.fr hf1, hf1⟩
  · have hle : ¬ (0 : Int) < cmpZ a b := by
      unfold cmpZ
      split
      · omega
      · first
          | omega
          | (split <;> omega)
    rw [show max a b = b by omega]
    clear hab
    generalize cmpZ a b = c at hcm hle
    go_enter Sang.func153, Sang.ntmps153
    go_wp2_with fail
    refine hcm.mono ?_
    rintro e w1 ⟨rfl, hf1⟩
    go_wp2_with fail
    go_ret
    exact ⟨_, rfl, h2.fr hf1, hf1⟩

end Go.Proofs.YgcsanGreat
