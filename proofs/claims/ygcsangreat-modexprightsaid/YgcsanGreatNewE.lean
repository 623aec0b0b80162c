/-
  copyBytes, bytesOf, natOf, BE32, addrOf: results in new memory.
-/
import Derived.Test.YgcsanGreatNewC
import Derived.Test.YgcsanGreatYpA
namespace Go.Proofs.YgcsanGreat
open Go.RowKit
set_option linter.unusedSimpArgs false
set_option linter.unusedVariables false

set_option maxRecDepth 10000 in
set_option maxHeartbeats 400000 in
theorem copyBytes_some (a : Addr) (cap : Nat) (l : List Nat) (w : World) (h : Sl w .u8 (.slice (some a) l.length cap) l) (hsm : l.length ≤ 16777216) :
    Calls Sang.prog 17 #[.slice (some a) l.length cap] w fun e w' => e = .returned (.slice (some ⟨w.heap.size, 0, none⟩) l.length l.length) ∧ IB w' w.heap.size .u8 5 l ∧ Fr w.heap.size no w w' := by
  obtain ⟨i5, hi5, hz5, hs5, hb5⟩ := info_parts info5
  have HS : Hid (Sl w .u8 (.slice (some a) l.length cap) l) := h
  clear h
  have hf : Fr w.heap.size no w (w.alloc (.cells (ints .u8 (List.replicate l.length 0)) 5)) := (Fr.refl _ _ _).alloc (Nat.le_refl _) _
  have HF : Hid _ := hf
  clear hf
  have hnil := run_eql_nil (P := Sang.prog) 27 5 (some a) l.length cap und33
  go_enter Sang.func17, Sang.ntmps17
  go_wp2_with (first
    | ((with_reducible refine wl_make 27 5 (.tmp 7) (.tmp 7) .u8 .i64 .i64 l.length ?_ ?_ i5 und33 hi5 hz5 hs5 ?_ ?_ ?_); rfl; rfl; (rw [hb5]; omega); (unfold maxLen; omega))
    | ((with_reducible refine wl_copy 27 27 5 (.tmp 9) (.tmp 10) w.heap.size 0 l.length l.length .u8 5 (List.replicate l.length 0) l _ ?_ ?_ ?_ (Sl.fr HS.out HF.out) ?_ i5 und33 hi5 hs5 ?_); rfl; rfl; exact IB.new w .u8 5 _; (simp)))
  go_ret
  have hlm : lay (List.replicate l.length 0) 0 (l.take l.length) = l := by rw [List.take_length]; exact lay_all _ _ (by simp)
  rw [List.take_length] at hlm
  rw [hlm]
  exact ⟨rfl, IB.setRow (by simp) _ _ _, HF.out.setRow (.inl (Nat.le_refl _)) _ _ _⟩

set_option maxRecDepth 10000 in
set_option maxHeartbeats 400000 in
theorem bytesOf_some (a : Addr) (cap : Nat) (l : List Nat) (w : World) (h : Sl w .u8 (.slice (some a) l.length cap) l) (hsm : l.length ≤ 16777216) :
    Calls Sang.prog 49 #[.slice (some a) l.length cap] w fun e w' => e = .returned (.slice (some ⟨w.heap.size, 0, none⟩) l.length l.length) ∧ IB w' w.heap.size .u8 5 l ∧ Fr w.heap.size no w w' := by
  obtain ⟨i5, hi5, hz5, hs5, hb5⟩ := info_parts info5
  have HS : Hid (Sl w .u8 (.slice (some a) l.length cap) l) := h
  clear h
  have hf : Fr w.heap.size no w (w.alloc (.cells (ints .u8 (List.replicate l.length 0)) 5)) := (Fr.refl _ _ _).alloc (Nat.le_refl _) _
  have HF : Hid _ := hf
  clear hf
  have hnil := run_eql_nil (P := Sang.prog) 27 5 (some a) l.length cap und33
  go_enter Sang.func49, Sang.ntmps49
  go_wp2_with (first
    | ((with_reducible refine wl_make 27 5 (.tmp 7) (.tmp 7) .u8 .i64 .i64 l.length ?_ ?_ i5 und33 hi5 hz5 hs5 ?_ ?_ ?_); rfl; rfl; (rw [hb5]; omega); (unfold maxLen; omega))
    | ((with_reducible refine wl_copy 27 27 5 (.tmp 9) (.tmp 10) w.heap.size 0 l.length l.length .u8 5 (List.replicate l.length 0) l _ ?_ ?_ ?_ (Sl.fr HS.out HF.out) ?_ i5 und33 hi5 hs5 ?_); rfl; rfl; exact IB.new w .u8 5 _; (simp)))
  go_ret
  have hlm : lay (List.replicate l.length 0) 0 (l.take l.length) = l := by rw [List.take_length]; exact lay_all _ _ (by simp)
  rw [List.take_length] at hlm
  rw [hlm]
  exact ⟨rfl, IB.setRow (by simp) _ _ _, HF.out.setRow (.inl (Nat.le_refl _)) _ _ _⟩

set_option maxRecDepth 10000 in
set_option maxHeartbeats 400000 in
theorem bytesOf_none (c : Nat) (w : World) :
    Calls Sang.prog 49 #[.slice none 0 c] w fun e w' => e = .returned (.slice none 0 0) ∧ w' = w := by
  have hnil := run_eql_nil (P := Sang.prog) 27 5 none 0 c und33
  go_enter Sang.func49, Sang.ntmps49
  go_wp2_with fail
  go_ret
  exact ⟨rfl, rfl⟩

theorem bytesOf_new (v : Value) (l : List Nat) (w : World) (h : Sl w .u8 v l) (hsm : l.length ≤ 16777216) :
    Calls Sang.prog 49 #[v] w fun e w' => ∃ v', e = .returned v' ∧ NewD w.heap.size w' v' l ∧ Fr w.heap.size no w w' := by
  have h' := h
  obtain ⟨a, cap, rfl, hl, hm, hc⟩ := h
  cases a with
  | none =>
    have h0 : l = [] := by
      rcases hc with h | ⟨b, o, h, _⟩
      · exact h
      · cases h
    subst h0
    refine (bytesOf_none cap w).mono ?_
    rintro e w' ⟨rfl, rfl⟩
    exact ⟨_, rfl, NewD.nil _ _, Fr.refl _ _ _⟩
  | some a =>
    refine (bytesOf_some a cap l w h' hsm).mono ?_
    rintro e w' ⟨rfl, hi, hf⟩
    have := NewD.of_ib (B := w.heap.size) hi l.length (Nat.le_refl _) (by unfold maxLen; omega) (Nat.le_refl _)
    rw [List.take_length] at this
    exact ⟨_, rfl, this, hf⟩

set_option maxRecDepth 10000 in
set_option maxHeartbeats 400000 in
theorem natOf_new (v : Value) (l : List Nat) (w : World) (h : Sl w .u8 v l) (hsm : l.length ≤ 16777216) :
    Calls Sang.prog 51 #[v] w fun e w' => ∃ v', e = .returned v' ∧ NewD w.heap.size w' v' l ∧ Fr w.heap.size no w w' := by
  go_enter Sang.func51, Sang.ntmps51
  go_wp2_with fail
  refine (bytesOf_new v l _ h hsm).mono ?_
  rintro e w1 ⟨v', rfl, hv, hf⟩
  obtain ⟨a, n, c, rfl⟩ := hv.shape
  go_wp2_with fail
  go_ret
  exact ⟨_, rfl, hv, hf⟩

theorem und25 : Sang.prog.underlying 25 = some (.array 32 5) := by kernel_rfl
theorem siz25 : (Sang.prog.info? 25).map (·.size) = some 32 := by kernel_rfl
def z32n : List Nat := List.replicate 32 0
/-- the bytes on the way: the first i digits are laid, from the end on -/
def laidBE (m : List Nat) (i : Nat) : List Nat := List.replicate (32 - i) 0 ++ (m.take i).reverse
theorem laidBE_length {m : List Nat} {i : Nat} (hi : i ≤ m.length) (hm : m.length ≤ 32) : (laidBE m i).length = 32 := by simp [laidBE]; omega
theorem laidBE_zero (m : List Nat) : laidBE m 0 = z32n := by simp [laidBE, z32n]
theorem laidBE_succ {m : List Nat} {i d : Nat} (hi : i < m.length) (hm : m.length ≤ 32) (hd : m.getD i 0 = d) : laidBE m (i + 1) = (laidBE m i).set (31 - i) d := by
  unfold laidBE
  have e : 32 - i = (31 - i) + 1 := by omega
  rw [e, List.replicate_succ', List.append_assoc, List.set_append_right _ _ (by simp)]
  simp only [List.length_replicate, Nat.sub_self]
  have h2 : 32 - (i + 1) = 31 - i := by omega
  rw [h2, List.take_add_one]
  have h3 : m[i]? = some d := by
    rw [List.getElem?_eq_getElem hi]
    simp [List.getD, hi] at hd
    rw [hd]
  rw [h3]
  simp

theorem results_cell_tmp {P : Program} {fn : Func} {t u : Tmp} {ty : TypeId} (hr : fn.results = #[.cell t ty, .tmp u]) {tmps : Array Value} {w : World} {b : Nat} {k : IntKind} {t' : TypeId} {L : List Nat} (hp : tmps.getD t undef = .pointer (some ⟨b, 0, none⟩)) (h : IB w b k t' L)
    (d : TypeDesc) (hd : P.underlying ty = some d) (hagg : rowish d = true) (hi : (P.info? ty).map (·.size) = some L.length) {v : Value} (hv : tmps.getD u undef = v) :
    (results fn tmps).run P w = .ok (.tuple #[.agg (ints k L), v]) w := by
  have hl := run_loadVar_ints (P := P) w b k t' ty L h d hd hagg hi
  have hp' : tmps[t]?.getD undef = .pointer (some ⟨b, 0, none⟩) := by simpa using hp
  have hv' : tmps[u]?.getD undef = v := by simpa using hv
  simp [results, hr, hp', asAddr, hl, hv']

set_option maxRecDepth 10000 in
set_option maxHeartbeats 1000000 in
theorem be32_any (v : Value) (N : Nat) (w : World) (h : Sl w .u8 v (digs N)) (hN : N < 256 ^ 32) :
    Calls Sang.prog 117 #[v] w fun e w' => e = .returned (.tuple #[.agg (ints .u8 (laidBE (digs N) (digs N).length)), .bool true]) ∧ Fr w.heap.size no w w' := by
  have hlen : (digs N).length ≤ 32 := (digs_length_le N 32).2 hN
  have hdg := digs_dg N
  have hval := val_digs N
  have h' := h
  obtain ⟨a, cap, rfl, hl1, hl2, hl3⟩ := h'
  have HT : Hid (∀ w', Sl w' .u8 (.slice a (digs N).length cap) (digs N) → Calls Sang.prog 126 #[.slice a (digs N).length cap] w' fun e w'' => e = .returned (.slice a (digs N).length (digs N).length) ∧ w'' = w') := fun w' hw => by
    have := trim_exact a cap (digs N) w' hw (digs_dg _)
    rw [val_digs] at this
    exact this
  generalize digs N = m at *
  have i0 : IB (w.alloc (.cells #[.int .u8 0, .int .u8 0, .int .u8 0, .int .u8 0, .int .u8 0, .int .u8 0, .int .u8 0, .int .u8 0, .int .u8 0, .int .u8 0, .int .u8 0, .int .u8 0, .int .u8 0, .int .u8 0, .int .u8 0, .int .u8 0, .int .u8 0, .int .u8 0, .int .u8 0, .int .u8 0, .int .u8 0, .int .u8 0, .int .u8 0, .int .u8 0, .int .u8 0, .int .u8 0, .int .u8 0, .int .u8 0, .int .u8 0, .int .u8 0, .int .u8 0, .int .u8 0] 25)) w.heap.size .u8 25 z32n := IB.newAt rfl rfl
  have i1 := i0.alloc (.cells #[.int .u8 0, .int .u8 0, .int .u8 0, .int .u8 0, .int .u8 0, .int .u8 0, .int .u8 0, .int .u8 0, .int .u8 0, .int .u8 0, .int .u8 0, .int .u8 0, .int .u8 0, .int .u8 0, .int .u8 0, .int .u8 0, .int .u8 0, .int .u8 0, .int .u8 0, .int .u8 0, .int .u8 0, .int .u8 0, .int .u8 0, .int .u8 0, .int .u8 0, .int .u8 0, .int .u8 0, .int .u8 0, .int .u8 0, .int .u8 0, .int .u8 0, .int .u8 0] 25)
  clear i0
  have i2 : IB ((w.alloc (.cells #[.int .u8 0, .int .u8 0, .int .u8 0, .int .u8 0, .int .u8 0, .int .u8 0, .int .u8 0, .int .u8 0, .int .u8 0, .int .u8 0, .int .u8 0, .int .u8 0, .int .u8 0, .int .u8 0, .int .u8 0, .int .u8 0, .int .u8 0, .int .u8 0, .int .u8 0, .int .u8 0, .int .u8 0, .int .u8 0, .int .u8 0, .int .u8 0, .int .u8 0, .int .u8 0, .int .u8 0, .int .u8 0, .int .u8 0, .int .u8 0, .int .u8 0, .int .u8 0] 25)).alloc (.cells #[.int .u8 0, .int .u8 0, .int .u8 0, .int .u8 0, .int .u8 0, .int .u8 0, .int .u8 0, .int .u8 0, .int .u8 0, .int .u8 0, .int .u8 0, .int .u8 0, .int .u8 0, .int .u8 0, .int .u8 0, .int .u8 0, .int .u8 0, .int .u8 0, .int .u8 0, .int .u8 0, .int .u8 0, .int .u8 0, .int .u8 0, .int .u8 0, .int .u8 0, .int .u8 0, .int .u8 0, .int .u8 0, .int .u8 0, .int .u8 0, .int .u8 0, .int .u8 0] 25)) (w.heap.size + 1) .u8 25 z32n := IB.newAt (by simp) rfl
  have hf : Fr w.heap.size no w ((w.alloc (.cells #[.int .u8 0, .int .u8 0, .int .u8 0, .int .u8 0, .int .u8 0, .int .u8 0, .int .u8 0, .int .u8 0, .int .u8 0, .int .u8 0, .int .u8 0, .int .u8 0, .int .u8 0, .int .u8 0, .int .u8 0, .int .u8 0, .int .u8 0, .int .u8 0, .int .u8 0, .int .u8 0, .int .u8 0, .int .u8 0, .int .u8 0, .int .u8 0, .int .u8 0, .int .u8 0, .int .u8 0, .int .u8 0, .int .u8 0, .int .u8 0, .int .u8 0, .int .u8 0] 25)).alloc (.cells #[.int .u8 0, .int .u8 0, .int .u8 0, .int .u8 0, .int .u8 0, .int .u8 0, .int .u8 0, .int .u8 0, .int .u8 0, .int .u8 0, .int .u8 0, .int .u8 0, .int .u8 0, .int .u8 0, .int .u8 0, .int .u8 0, .int .u8 0, .int .u8 0, .int .u8 0, .int .u8 0, .int .u8 0, .int .u8 0, .int .u8 0, .int .u8 0, .int .u8 0, .int .u8 0, .int .u8 0, .int .u8 0, .int .u8 0, .int .u8 0, .int .u8 0, .int .u8 0] 25)) := ((Fr.refl _ _ _).alloc (Nat.le_refl _) _).alloc (by simp) _
  have HS : Hid (Sl w .u8 (.slice a m.length cap) m) := h
  have HV : Hid (Dg 256 m) := hdg
  have HC : Hid (m = [] ∨ ∃ b off, a = some ⟨b, off, none⟩ ∧ ∀ i, i < m.length → w.cell? ⟨b, off + i, none⟩ = some (.int .u8 ((m.getD i 0 : Nat) : Int))) := hl3
  clear h hval hdg hl3 hl2
  have hcast : (m.length : Int) ≤ 32 := by omega
  go_enter Sang.func117, Sang.ntmps117
  go_wp2_with fail
  generalize ((w.alloc (.cells #[.int .u8 0, .int .u8 0, .int .u8 0, .int .u8 0, .int .u8 0, .int .u8 0, .int .u8 0, .int .u8 0, .int .u8 0, .int .u8 0, .int .u8 0, .int .u8 0, .int .u8 0, .int .u8 0, .int .u8 0, .int .u8 0, .int .u8 0, .int .u8 0, .int .u8 0, .int .u8 0, .int .u8 0, .int .u8 0, .int .u8 0, .int .u8 0, .int .u8 0, .int .u8 0, .int .u8 0, .int .u8 0, .int .u8 0, .int .u8 0, .int .u8 0, .int .u8 0] 25)).alloc (.cells #[.int .u8 0, .int .u8 0, .int .u8 0, .int .u8 0, .int .u8 0, .int .u8 0, .int .u8 0, .int .u8 0, .int .u8 0, .int .u8 0, .int .u8 0, .int .u8 0, .int .u8 0, .int .u8 0, .int .u8 0, .int .u8 0, .int .u8 0, .int .u8 0, .int .u8 0, .int .u8 0, .int .u8 0, .int .u8 0, .int .u8 0, .int .u8 0, .int .u8 0, .int .u8 0, .int .u8 0, .int .u8 0, .int .u8 0, .int .u8 0, .int .u8 0, .int .u8 0] 25)) = w2 at i1 i2 hf ⊢
  refine (HT.out w2 (HS.out.fr hf)).mono ?_
  rintro e w2 ⟨rfl, rfl⟩
  go_wp2_with fail
  go_loopw [15] (fun iv wr => ∃ i : Nat, i ≤ m.length ∧ iv = .int .i64 i ∧ IB wr (w.heap.size + 1) .u8 25 (laidBE m i) ∧ IB wr w.heap.size .u8 25 z32n ∧ Fr w.heap.size no w wr) (fun i _ => m.length - (intOf i).toNat)
  case atStart => exact ⟨0, Nat.zero_le _, rfl, by rw [laidBE_zero]; exact i2, i1, hf⟩
  case round =>
    obtain ⟨i, hi, rfl, h1, h2, hfr⟩ := hrel
    clear i1 i2 hf
    have hll : (laidBE m i).length = 32 := laidBE_length hi hlen
    by_cases hin : i < m.length
    · rcases HC.out with h0 | ⟨b, off, rfl, hc⟩
      · rw [h0] at hin; simp at hin
      obtain ⟨d, HD, hcd⟩ := Sl.at (n := 0) (cap := 0) hc i hin
      rw [← hfr.cell (cell_lt hcd) (fun x => x)] at hcd
      have hcz := h1.cell (31 - i) (by omega)
      have hzz := h1.unfrozen (31 - i)
      have hidx : (31 : Int) - (i : Int) = ((31 - i : Nat) : Int) := by omega
      have hii : (i : Int) < (m.length : Int) := by omega
      have hix : ((31 - i : Nat) : Int) < 32 := by omega
      clear hc
      go_wp2
      refine ⟨⟨i + 1, by omega, by go_num, ?_, ?_, ?_⟩, by simp [intOf]; omega⟩
      · rw [laidBE_succ hin hlen HD.out]
        exact h1.set' (31 - i) d rfl rfl
      · exact h2.other (by simp) _
      · exact hfr.setCell (.inl (by simp)) _
    · have : i = m.length := by omega
      subst this
      go_wp2_with (first
        | ((with_reducible refine wl_load 25 (.tmp 4) (w.heap.size + 1) .u8 25 (laidBE m m.length) ?_ h1 (.array 32 5) und25 rfl ?_ ?_); rfl; (rw [hll]; exact siz25))
        | ((with_reducible refine wl_store 25 (.tmp 2) (.tmp 25) w.heap.size .u8 25 z32n (laidBE m m.length) ?_ ?_ h2 ?_ ?_ ?_); rfl; rfl; (rw [hll]; rfl); exact siz25))
      have hib : IB (setRow _ w.heap.size .u8 25 (laidBE m m.length)) w.heap.size .u8 25 (laidBE m m.length) := IB.setRow h2.lt _ _ _
      refine bodyPost_ret (results_cell_tmp Sang.results117 rfl hib _ und25 rfl (by rw [hll]; exact siz25) rfl) rfl ⟨rfl, ?_⟩
      exact hfr.setRow (.inl (Nat.le_refl _)) _ _ _
end Go.Proofs.YgcsanGreat
