/-
  Package yp: World.put, setNonce, setBalance on a list of one account.
-/
import Derived.Test.YgcsanGreatS2
namespace Go.Proofs.YgcsanGreat
open Go.RowKit
set_option linter.unusedSimpArgs false
set_option linter.unusedVariables false
attribute [-go_sem] loadVar storeVar Instr.build Instr.fill Instr.buildSlice Builtin.append_


theorem Fr.weak {B : Nat} {X : Nat → Prop} {w w' : World} (h : Fr B no w w') : Fr B X w w' := ⟨h.os, h.tape, h.output, h.size, fun k hk _ => h.block k hk (fun x => x)⟩

set_option maxRecDepth 10000 in
set_option maxHeartbeats 1000000 in
theorem put_hit (c : Nat) (t : TypeId) (L LA : List Value) (g cap : Nat) (A : List Nat) (n b : Value) (w : World) (h : VB w c t L) (c0 : L[0]? = some (.slice (some ⟨g, 0, none⟩) 1 cap)) (hA : VB w g 106 LA) (lA : A.length = 20)
    (hs : subV LA 0 24 = acV A n b (.slice none 0 0) (.slice none 0 0)) (hl : 24 ≤ LA.length) (f1 : n.oneCell' = true) (f2 : b.oneCell' = true)
    (n' b' : Value) (nn bb : Nat) (hn : Sl w .u8 n' (digs nn)) (hb : Sl w .u8 b' (digs bb)) (hnb : (decide (nn = 0) && decide (bb = 0)) = false) :
    Calls Sang.prog 136 #[.pointer (some ⟨c, 0, none⟩), .agg (acV A n' b' (.slice none 0 0) (.slice none 0 0)).toArray] w fun e w' => e = .returned (.tuple #[]) ∧ ∃ g' cap' LA', VB w' c t (L.set 0 (.slice (some ⟨g', 0, none⟩) 1 cap')) ∧ VB w' g' 106 LA' ∧ subV LA' 0 24 = acV A n' b' (.slice none 0 0) (.slice none 0 0) ∧ 24 ≤ LA'.length ∧ w.heap.size ≤ g' ∧ Fr w.heap.size (· = c) w w'  := by
  obtain ⟨i106, hi, hz, hsz, hby⟩ := info_parts info106
  have zsz : (Value.agg zaV.toArray).cells.size = 24 := rfl
  have l0 : 0 < L.length := by
    by_cases h0 : 0 < L.length
    · exact h0
    · rw [List.getElem?_eq_none (by omega)] at c0; cases c0
  have hFl := acV_flat A n b (.slice none 0 0) (.slice none 0 0) f1 f2 rfl rfl
  have hLn := acV_length A n b (.slice none 0 0) (.slice none 0 0) lA
  have e1 := acV_addr A n b (.slice none 0 0) (.slice none 0 0) lA
  generalize acV A n b (.slice none 0 0) (.slice none 0 0) = M at *
  have hFl' := acV_flat A n' b' (.slice none 0 0) (.slice none 0 0) hn.one hb.one rfl rfl
  have hLn' := acV_length A n' b' (.slice none 0 0) (.slice none 0 0) lA
  have e1' := acV_addr A n' b' (.slice none 0 0) (.slice none 0 0) lA
  have e2' := acV_all A n' b' (.slice none 0 0) (.slice none 0 0) lA
  have m1 := acV_nonce A n' b' (.slice none 0 0) (.slice none 0 0) lA
  have m2 := acV_bal A n' b' (.slice none 0 0) (.slice none 0 0) lA
  have m3 := acV_code A n' b' (.slice none 0 0) (.slice none 0 0) lA
  generalize acV A n' b' (.slice none 0 0) (.slice none 0 0) = N at *
  have hN1 := VB.new w 106 N
  have hf : Fr w.heap.size no w (w.alloc (.cells N.toArray 106)) := (Fr.refl _ _ _).alloc (Nat.le_refl _) _
  have h1 := h.alloc (.cells N.toArray 106)
  have hA1 := hA.alloc (.cells N.toArray 106)
  have hem := empty_any w.heap.size 106 N n' b' nn bb _ hN1 m1 m2 m3 (hn.fr hf) (hb.fr hf)
  rw [hnb] at hem
  go_enter Sang.func136, Sang.ntmps136
  go_wp2_with fail
  generalize w.alloc (.cells N.toArray 106) = w1 at hN1 hf h1 hA1 hem ⊢
  refine hem.mono ?_
  rintro e w2 ⟨rfl, hf2⟩
  clear hem hn hb hnb m1 m2 m3
  replace hN1 := hN1.fr hf2 hN1.lt (fun x => x)
  replace h1 := h1.fr hf2 h1.lt (fun x => x)
  replace hA1 := hA1.fr hf2 hA1.lt (fun x => x)
  replace hf := hf.step hf2 hf.size (fun _ _ x => x)
  clear hf2
  have k0 := h1.cell 0 c0
  go_wp2_with fail
  go_loopw [20, 5, 4] (fun iv lv sv wr => (iv = .int .i64 0 ∧ lv = .bool false ∧ sv = .slice none 0 0 ∧ wr = w2) ∨ (iv = .int .i64 1 ∧ lv = .bool true ∧ ∃ g' cap' LA', sv = .slice (some ⟨g', 0, none⟩) 1 cap' ∧ VB wr c t L ∧ VB wr g' 106 LA' ∧ subV LA' 0 24 = N ∧ 24 ≤ LA'.length ∧ w.heap.size ≤ g' ∧ Fr w.heap.size no w wr)) (fun i _ _ _ => 1 - (intOf i).toNat)
  case atStart => exact .inl ⟨rfl, rfl, rfl, rfl⟩
  case round =>
    rcases hrel with ⟨rfl, rfl, rfl, rfl⟩ | ⟨rfl, rfl, g', cap', LA', rfl, hL, hA', hs', hl', hg', hf'⟩
    · have qA := hA1.q
      have hM := VB.new wr 106 M
      have hN2 := hN1.alloc (.cells M.toArray 106)
      have h2 := h1.alloc (.cells M.toArray 106)
      have hfr := hf.alloc hf.size (.cells M.toArray 106)
      have qM := hM.q
      have qN := hN2.q
      go_wp2_with fail
      generalize wr.alloc (.cells M.toArray 106) = w3 at hM hN2 h2 hfr qM qN ⊢
      refine (before_self A w3 lA).mono ?_
      rintro e w4 ⟨rfl, hf4⟩
      replace hM := hM.fr hf4 hM.lt (fun x => x)
      replace hN2 := hN2.fr hf4 hN2.lt (fun x => x)
      replace h2 := h2.fr hf4 h2.lt (fun x => x)
      replace hfr := hfr.step hf4 hfr.size (fun _ _ x => x)
      clear qM qN qA hf4
      have qN := hN2.q
      have hB := VB.new w4 106 N
      have hM5 := hM.alloc (.cells N.toArray 106)
      have hN5 := hN2.alloc (.cells N.toArray 106)
      have h5 := h2.alloc (.cells N.toArray 106)
      have hf5 := hfr.alloc hfr.size (.cells N.toArray 106)
      have hsz5 := hfr.size
      go_wp2_with ((with_reducible refine wl_append_nil (.tmp 34) (.tmp 36) 53 106 i106 _ 24 120 Sang.underlying53 hi hz hsz hby zsz (by decide) (by decide) ?_ w4.heap.size 1 106 N ?_ hB hLn' hFl' ?_); rfl; rfl; (intro g' cap' LA' w6 hg hVg hc1 hcm hlen hsub hf6); have hM6 := hM5.fr hf6 hM5.lt (fun x => x); have hN6 := hN5.fr hf6 hN5.lt (fun x => x); have h6 := h5.fr hf6 h5.lt (fun x => x); have hff := hf5.step hf6 hf5.size (fun _ _ x => x); have qM := hM6.q; have qN6 := hN6.q; clear hf6)
      have hgg : w.heap.size ≤ g' := by simp at hg; omega
      have hll : 24 ≤ LA'.length := by omega
      refine ⟨.inr ⟨rfl, rfl, g', cap', LA', rfl, h6, hVg, hsub, hll, hgg, hff⟩, by simp [intOf]⟩
    · have k := hL.cell 0 c0
      have z := hL.unfrozen 0
      go_wp2_with fail
      go_end0
      refine ⟨rfl, g', cap', LA', hL.set l0 _, hA'.other (by simp only; have := h.lt; omega) _, hs', hl', hg', (Fr.weak (X := (· = c)) hf').setCell (.inr rfl) _⟩

set_option maxRecDepth 10000 in
set_option maxHeartbeats 1000000 in
theorem put_miss (c : Nat) (t : TypeId) (L LA : List Value) (g cap : Nat) (A : List Nat) (n b : Value) (w : World) (h : VB w c t L) (c0 : L[0]? = some (.slice (some ⟨g, 0, none⟩) 1 cap)) (hA : VB w g 106 LA) (lA : A.length = 20)
    (hs : subV LA 0 24 = acV A n b (.slice none 0 0) (.slice none 0 0)) (hl : 24 ≤ LA.length) (f1 : n.oneCell' = true) (f2 : b.oneCell' = true)
    (B : List Nat) (lB : B.length = 20) (hAB : (A == B) = false) (n' b' : Value) (hn : Sl w .u8 n' (digs 0)) (hb : Sl w .u8 b' (digs 0)) :
    Calls Sang.prog 136 #[.pointer (some ⟨c, 0, none⟩), .agg (acV B n' b' (.slice none 0 0) (.slice none 0 0)).toArray] w fun e w' => e = .returned (.tuple #[]) ∧ ∃ g' cap' LA', VB w' c t (L.set 0 (.slice (some ⟨g', 0, none⟩) 1 cap')) ∧ VB w' g' 106 LA' ∧ subV LA' 0 24 = acV A n b (.slice none 0 0) (.slice none 0 0) ∧ 24 ≤ LA'.length ∧ w.heap.size ≤ g' ∧ Fr w.heap.size (· = c) w w'  := by
  obtain ⟨i106, hi, hz, hsz, hby⟩ := info_parts info106
  have zsz : (Value.agg zaV.toArray).cells.size = 24 := rfl
  have l0 : 0 < L.length := by
    by_cases h0 : 0 < L.length
    · exact h0
    · rw [List.getElem?_eq_none (by omega)] at c0; cases c0
  have hFl := acV_flat A n b (.slice none 0 0) (.slice none 0 0) f1 f2 rfl rfl
  have hLn := acV_length A n b (.slice none 0 0) (.slice none 0 0) lA
  have e1 := acV_addr A n b (.slice none 0 0) (.slice none 0 0) lA
  have e2 := acV_all A n b (.slice none 0 0) (.slice none 0 0) lA
  generalize acV A n b (.slice none 0 0) (.slice none 0 0) = M at *
  have hFl' := acV_flat B n' b' (.slice none 0 0) (.slice none 0 0) hn.one hb.one rfl rfl
  have hLn' := acV_length B n' b' (.slice none 0 0) (.slice none 0 0) lB
  have e1' := acV_addr B n' b' (.slice none 0 0) (.slice none 0 0) lB
  have m1 := acV_nonce B n' b' (.slice none 0 0) (.slice none 0 0) lB
  have m2 := acV_bal B n' b' (.slice none 0 0) (.slice none 0 0) lB
  have m3 := acV_code B n' b' (.slice none 0 0) (.slice none 0 0) lB
  have m4 := acV_slots B n' b' (.slice none 0 0) (.slice none 0 0) lB
  generalize acV B n' b' (.slice none 0 0) (.slice none 0 0) = N at *
  have hN1 := VB.new w 106 N
  have hf : Fr w.heap.size no w (w.alloc (.cells N.toArray 106)) := (Fr.refl _ _ _).alloc (Nat.le_refl _) _
  have h1 := h.alloc (.cells N.toArray 106)
  have hA1 := hA.alloc (.cells N.toArray 106)
  have hem := empty_any w.heap.size 106 N n' b' 0 0 _ hN1 m1 m2 m3 (hn.fr hf) (hb.fr hf)
  go_enter Sang.func136, Sang.ntmps136
  go_wp2_with fail
  generalize w.alloc (.cells N.toArray 106) = w1 at hN1 hf h1 hA1 hem ⊢
  refine hem.mono ?_
  rintro e w2 ⟨rfl, hf2⟩
  clear hem hn hb m1 m2 m3
  replace hN1 := hN1.fr hf2 hN1.lt (fun x => x)
  replace h1 := h1.fr hf2 h1.lt (fun x => x)
  replace hA1 := hA1.fr hf2 hA1.lt (fun x => x)
  replace hf := hf.step hf2 hf.size (fun _ _ x => x)
  clear hf2
  have k0 := h1.cell 0 c0
  have k23 := hN1.cell 23 m4
  go_wp2_with fail
  go_loopw [20, 5, 4] (fun iv lv sv wr => (iv = .int .i64 0 ∧ lv = .bool true ∧ sv = .slice none 0 0 ∧ wr = w2) ∨ (iv = .int .i64 1 ∧ lv = .bool true ∧ ∃ g' cap' LA', sv = .slice (some ⟨g', 0, none⟩) 1 cap' ∧ VB wr c t L ∧ VB wr g' 106 LA' ∧ subV LA' 0 24 = M ∧ 24 ≤ LA'.length ∧ w.heap.size ≤ g' ∧ Fr w.heap.size no w wr)) (fun i _ _ _ => 1 - (intOf i).toNat)
  case atStart => exact .inl ⟨rfl, rfl, rfl, rfl⟩
  case round =>
    rcases hrel with ⟨rfl, rfl, rfl, rfl⟩ | ⟨rfl, rfl, g', cap', LA', rfl, hL, hA', hs', hl', hg', hf'⟩
    · have qA := hA1.q
      have hM := VB.new wr 106 M
      have hN2 := hN1.alloc (.cells M.toArray 106)
      have h2 := h1.alloc (.cells M.toArray 106)
      have hfr := hf.alloc hf.size (.cells M.toArray 106)
      have qM := hM.q
      have qN := hN2.q
      have hB := VB.new (wr.alloc (.cells M.toArray 106)) 106 M
      have h5 := h2.alloc (.cells M.toArray 106)
      have hf5 := hfr.alloc hfr.size (.cells M.toArray 106)
      have hsz1 : (wr.alloc (.cells M.toArray 106)).heap.size = wr.heap.size + 1 := by simp
      rw [hsz1] at hB
      go_wp2_with ((with_reducible refine wl_append_nil (.tmp 43) (.tmp 45) 53 106 i106 _ 24 120 Sang.underlying53 hi hz hsz hby zsz (by decide) (by decide) ?_ (wr.heap.size + 1) 1 106 M ?_ hB hLn hFl ?_); rfl; rfl; (intro g' cap' LA' w6 hg hVg hc1 hcm hlen hsub hf6))
      have h6 := h5.fr hf6 h5.lt (fun x => x)
      have hff := hf5.step hf6 hf5.size (fun _ _ x => x)
      have hgg : w.heap.size ≤ g' := by have := hf.size; simp at hg; omega
      have hll : 24 ≤ LA'.length := by omega
      clear hf6 hf5 hB h5
      go_wp2_with fail
      refine ⟨.inr ⟨rfl, rfl, g', cap', LA', rfl, h6, hVg, hsub, hll, hgg, hff⟩, by simp [intOf]⟩
    · have k := hL.cell 0 c0
      have z := hL.unfrozen 0
      go_wp2_with fail
      go_end0
      refine ⟨rfl, g', cap', LA', hL.set l0 _, hA'.other (by simp only; have := h.lt; omega) _, hs', hl', hg', (Fr.weak (X := (· = c)) hf').setCell (.inr rfl) _⟩

set_option maxRecDepth 10000 in
set_option maxHeartbeats 400000 in
theorem setNonce_hit (c : Nat) (t : TypeId) (L LA : List Value) (g cap : Nat) (A : List Nat) (n b : Value) (w : World) (h : VB w c t L) (c0 : L[0]? = some (.slice (some ⟨g, 0, none⟩) 1 cap)) (hA : VB w g 106 LA) (lA : A.length = 20)
    (hs : subV LA 0 24 = acV A n b (.slice none 0 0) (.slice none 0 0)) (hl : 24 ≤ LA.length) (f1 : n.oneCell' = true) (f2 : b.oneCell' = true)
    (v : Value) (nn bb : Nat) (hv : Sl w .u8 v (digs nn)) (hb : Sl w .u8 b (digs bb)) (hnb : (decide (nn = 0) && decide (bb = 0)) = false) :
    Calls Sang.prog 77 #[.pointer (some ⟨c, 0, none⟩), .agg (byV A).toArray, v] w fun e w' => e = .returned (.tuple #[]) ∧ ∃ g' cap' LA', VB w' c t (L.set 0 (.slice (some ⟨g', 0, none⟩) 1 cap')) ∧ VB w' g' 106 LA' ∧ subV LA' 0 24 = acV A v b (.slice none 0 0) (.slice none 0 0) ∧ 24 ≤ LA'.length ∧ w.heap.size ≤ g' ∧ Fr w.heap.size (· = c) w w'  := by
  have hl1 : (A).length = 20 := lA
  have h1 := h.alloc (.cells (byV A).toArray 23)
  have hA1 := hA.alloc (.cells (byV A).toArray 23)
  have hX1 := VB.new w 23 (byV A)
  have hf : Fr w.heap.size no w (w.alloc (.cells (byV A).toArray 23)) := (Fr.refl _ _ _).alloc (Nat.le_refl _) _
  have lB' : (byV A).length = 20 := by simp [byV, hl1]
  have eB : subV (byV A) 0 20 = byV A := by simp [subV, ← lB']
  have qX := hX1.q
  have hv1 := hv.one
  go_enter Sang.func77, Sang.ntmps77
  go_wp2_with fail
  generalize w.alloc (.cells (byV A).toArray 23) = w1 at h1 hA1 hX1 hf qX ⊢
  refine (account_hit c t L LA g cap A n b (.slice none 0 0) (.slice none 0 0) w1 h1 c0 hA1 lA hs hl f1 f2 rfl rfl).mono ?_
  rintro e w2 ⟨rfl, hf2⟩
  replace h1 := h1.fr hf2 h1.lt (fun x => x)
  replace hA1 := hA1.fr hf2 hA1.lt (fun x => x)
  replace hf := hf.step hf2 hf.size (fun _ _ x => x)
  clear hf2 qX hX1
  have hFl := acV_flat A n b (.slice none 0 0) (.slice none 0 0) f1 f2 rfl rfl
  have hLn := acV_length A n b (.slice none 0 0) (.slice none 0 0) hl1
  have m1 := acV_nonce A n b (.slice none 0 0) (.slice none 0 0) hl1
  have hset : (acV A n b (.slice none 0 0) (.slice none 0 0)).set 20 v = acV A v b (.slice none 0 0) (.slice none 0 0) := by
    rw [acV, acV, List.set_append_right _ _ (by simp [byV, hl1])]
    simp [byV, hl1]
  have e2 := acV_all A v b (.slice none 0 0) (.slice none 0 0) hl1
  have hLn' := acV_length A v b (.slice none 0 0) (.slice none 0 0) hl1
  generalize hMe : acV A n b (.slice none 0 0) (.slice none 0 0) = M at *
  have hMV := VB.new w2 106 M
  generalize hNe : acV A v b (.slice none 0 0) (.slice none 0 0) = N at *
  have hM2 := VB.new w2 106 N
  have k := hMV.cell 20 m1
  have z := hMV.unfrozen 20
  have q := hM2.q
  have hfa := hf.alloc hf.size (.cells N.toArray 106)
  have h3 := h1.alloc (.cells N.toArray 106)
  have hA3 := hA1.alloc (.cells N.toArray 106)
  go_wp2_with fail
  generalize w2.alloc (.cells N.toArray 106) = w3 at hM2 q hfa h3 hA3 ⊢
  have hput := put_hit c t L LA g cap A n b w3 h3 c0 hA3 lA (hs.trans hMe.symm) hl f1 f2 v b nn bb (hv.fr hfa) (hb.fr hfa) hnb
  rw [hNe] at hput
  refine hput.mono ?_
  rintro e w4 ⟨rfl, g', cap', LA', r1, r2, r3, r4, r5, r6⟩
  go_wp2_with fail
  go_end0
  exact ⟨rfl, g', cap', LA', r1, r2, r3.trans hNe.symm, r4, by have := hfa.size; omega, hfa.weak.step r6 hfa.size (fun _ _ x => x)⟩

set_option maxRecDepth 10000 in
set_option maxHeartbeats 400000 in
theorem setBalance_hit (c : Nat) (t : TypeId) (L LA : List Value) (g cap : Nat) (A : List Nat) (n b : Value) (w : World) (h : VB w c t L) (c0 : L[0]? = some (.slice (some ⟨g, 0, none⟩) 1 cap)) (hA : VB w g 106 LA) (lA : A.length = 20)
    (hs : subV LA 0 24 = acV A n b (.slice none 0 0) (.slice none 0 0)) (hl : 24 ≤ LA.length) (f1 : n.oneCell' = true) (f2 : b.oneCell' = true)
    (v : Value) (nn bb : Nat) (hv : Sl w .u8 v (digs bb)) (hn : Sl w .u8 n (digs nn)) (hnb : (decide (nn = 0) && decide (bb = 0)) = false) :
    Calls Sang.prog 79 #[.pointer (some ⟨c, 0, none⟩), .agg (byV A).toArray, v] w fun e w' => e = .returned (.tuple #[]) ∧ ∃ g' cap' LA', VB w' c t (L.set 0 (.slice (some ⟨g', 0, none⟩) 1 cap')) ∧ VB w' g' 106 LA' ∧ subV LA' 0 24 = acV A n v (.slice none 0 0) (.slice none 0 0) ∧ 24 ≤ LA'.length ∧ w.heap.size ≤ g' ∧ Fr w.heap.size (· = c) w w'  := by
  have hl1 : (A).length = 20 := lA
  have h1 := h.alloc (.cells (byV A).toArray 23)
  have hA1 := hA.alloc (.cells (byV A).toArray 23)
  have hX1 := VB.new w 23 (byV A)
  have hf : Fr w.heap.size no w (w.alloc (.cells (byV A).toArray 23)) := (Fr.refl _ _ _).alloc (Nat.le_refl _) _
  have lB' : (byV A).length = 20 := by simp [byV, hl1]
  have eB : subV (byV A) 0 20 = byV A := by simp [subV, ← lB']
  have qX := hX1.q
  have hv1 := hv.one
  go_enter Sang.func79, Sang.ntmps79
  go_wp2_with fail
  generalize w.alloc (.cells (byV A).toArray 23) = w1 at h1 hA1 hX1 hf qX ⊢
  refine (account_hit c t L LA g cap A n b (.slice none 0 0) (.slice none 0 0) w1 h1 c0 hA1 lA hs hl f1 f2 rfl rfl).mono ?_
  rintro e w2 ⟨rfl, hf2⟩
  replace h1 := h1.fr hf2 h1.lt (fun x => x)
  replace hA1 := hA1.fr hf2 hA1.lt (fun x => x)
  replace hf := hf.step hf2 hf.size (fun _ _ x => x)
  clear hf2 qX hX1
  have hFl := acV_flat A n b (.slice none 0 0) (.slice none 0 0) f1 f2 rfl rfl
  have hLn := acV_length A n b (.slice none 0 0) (.slice none 0 0) hl1
  have m1 := acV_bal A n b (.slice none 0 0) (.slice none 0 0) hl1
  have hset : (acV A n b (.slice none 0 0) (.slice none 0 0)).set 21 v = acV A n v (.slice none 0 0) (.slice none 0 0) := by
    rw [acV, acV, List.set_append_right _ _ (by simp [byV, hl1])]
    simp [byV, hl1]
  have e2 := acV_all A n v (.slice none 0 0) (.slice none 0 0) hl1
  have hLn' := acV_length A n v (.slice none 0 0) (.slice none 0 0) hl1
  generalize hMe : acV A n b (.slice none 0 0) (.slice none 0 0) = M at *
  have hMV := VB.new w2 106 M
  generalize hNe : acV A n v (.slice none 0 0) (.slice none 0 0) = N at *
  have hM2 := VB.new w2 106 N
  have k := hMV.cell 21 m1
  have z := hMV.unfrozen 21
  have q := hM2.q
  have hfa := hf.alloc hf.size (.cells N.toArray 106)
  have h3 := h1.alloc (.cells N.toArray 106)
  have hA3 := hA1.alloc (.cells N.toArray 106)
  go_wp2_with fail
  generalize w2.alloc (.cells N.toArray 106) = w3 at hM2 q hfa h3 hA3 ⊢
  have hput := put_hit c t L LA g cap A n b w3 h3 c0 hA3 lA (hs.trans hMe.symm) hl f1 f2 n v nn bb (hn.fr hfa) (hv.fr hfa) hnb
  rw [hNe] at hput
  refine hput.mono ?_
  rintro e w4 ⟨rfl, g', cap', LA', r1, r2, r3, r4, r5, r6⟩
  go_wp2_with fail
  go_end0
  exact ⟨rfl, g', cap', LA', r1, r2, r3.trans hNe.symm, r4, by have := hfa.size; omega, hfa.weak.step r6 hfa.size (fun _ _ x => x)⟩

set_option maxRecDepth 10000 in
set_option maxHeartbeats 400000 in
theorem setBalance_miss (c : Nat) (t : TypeId) (L LA : List Value) (g cap : Nat) (A : List Nat) (n b : Value) (w : World) (h : VB w c t L) (c0 : L[0]? = some (.slice (some ⟨g, 0, none⟩) 1 cap)) (hA : VB w g 106 LA) (lA : A.length = 20)
    (hs : subV LA 0 24 = acV A n b (.slice none 0 0) (.slice none 0 0)) (hl : 24 ≤ LA.length) (f1 : n.oneCell' = true) (f2 : b.oneCell' = true)
    (B : List Nat) (lB : B.length = 20) (hAB : (A == B) = false) (v : Value) (hv : Sl w .u8 v (digs 0)) :
    Calls Sang.prog 79 #[.pointer (some ⟨c, 0, none⟩), .agg (byV B).toArray, v] w fun e w' => e = .returned (.tuple #[]) ∧ ∃ g' cap' LA', VB w' c t (L.set 0 (.slice (some ⟨g', 0, none⟩) 1 cap')) ∧ VB w' g' 106 LA' ∧ subV LA' 0 24 = acV A n b (.slice none 0 0) (.slice none 0 0) ∧ 24 ≤ LA'.length ∧ w.heap.size ≤ g' ∧ Fr w.heap.size (· = c) w w'  := by
  have hl1 : (B).length = 20 := lB
  have h1 := h.alloc (.cells (byV B).toArray 23)
  have hA1 := hA.alloc (.cells (byV B).toArray 23)
  have hX1 := VB.new w 23 (byV B)
  have hf : Fr w.heap.size no w (w.alloc (.cells (byV B).toArray 23)) := (Fr.refl _ _ _).alloc (Nat.le_refl _) _
  have lB' : (byV B).length = 20 := by simp [byV, hl1]
  have eB : subV (byV B) 0 20 = byV B := by simp [subV, ← lB']
  have qX := hX1.q
  have hv1 := hv.one
  go_enter Sang.func79, Sang.ntmps79
  go_wp2_with fail
  generalize w.alloc (.cells (byV B).toArray 23) = w1 at h1 hA1 hX1 hf qX ⊢
  refine (account_miss c t L LA g cap A B n b (.slice none 0 0) (.slice none 0 0) w1 h1 c0 hA1 lA lB hAB hs hl f1 f2 rfl rfl).mono ?_
  rintro e w2 ⟨rfl, hf2⟩
  replace h1 := h1.fr hf2 h1.lt (fun x => x)
  replace hA1 := hA1.fr hf2 hA1.lt (fun x => x)
  replace hf := hf.step hf2 hf.size (fun _ _ x => x)
  clear hf2 qX hX1
  have hFl := acV_flat B (.slice none 0 0) (.slice none 0 0) (.slice none 0 0) (.slice none 0 0) rfl rfl rfl rfl
  have hLn := acV_length B (.slice none 0 0) (.slice none 0 0) (.slice none 0 0) (.slice none 0 0) hl1
  have m1 := acV_bal B (.slice none 0 0) (.slice none 0 0) (.slice none 0 0) (.slice none 0 0) hl1
  have hset : (acV B (.slice none 0 0) (.slice none 0 0) (.slice none 0 0) (.slice none 0 0)).set 21 v = acV B (.slice none 0 0) v (.slice none 0 0) (.slice none 0 0) := by
    rw [acV, acV, List.set_append_right _ _ (by simp [byV, hl1])]
    simp [byV, hl1]
  have e2 := acV_all B (.slice none 0 0) v (.slice none 0 0) (.slice none 0 0) hl1
  have hLn' := acV_length B (.slice none 0 0) v (.slice none 0 0) (.slice none 0 0) hl1
  generalize hMe : acV B (.slice none 0 0) (.slice none 0 0) (.slice none 0 0) (.slice none 0 0) = M at *
  have hMV := VB.new w2 106 M
  generalize hNe : acV B (.slice none 0 0) v (.slice none 0 0) (.slice none 0 0) = N at *
  have hM2 := VB.new w2 106 N
  have k := hMV.cell 21 m1
  have z := hMV.unfrozen 21
  have q := hM2.q
  have hfa := hf.alloc hf.size (.cells N.toArray 106)
  have h3 := h1.alloc (.cells N.toArray 106)
  have hA3 := hA1.alloc (.cells N.toArray 106)
  go_wp2_with fail
  generalize w2.alloc (.cells N.toArray 106) = w3 at hM2 q hfa h3 hA3 ⊢
  have hput := put_miss c t L LA g cap A n b w3 h3 c0 hA3 lA hs hl f1 f2 B lB hAB (.slice none 0 0) v (Sl.nil w3 .u8) (hv.fr hfa)
  rw [hNe] at hput
  refine hput.mono ?_
  rintro e w4 ⟨rfl, g', cap', LA', r1, r2, r3, r4, r5, r6⟩
  go_wp2_with fail
  go_end0
  exact ⟨rfl, g', cap', LA', r1, r2, r3, r4, by have := hfa.size; omega, hfa.weak.step r6 hfa.size (fun _ _ x => x)⟩
end Go.Proofs.YgcsanGreat
