/-
  Package law: ModExpRec.
-/
import Derived.Test.YgcsanHolds
import Derived.Test.YgcsanUPow
namespace Go.Proofs.Ygcsan
open Go.RowKit
set_option linter.unusedSimpArgs false
set_option linter.unusedVariables false

theorem fromBE_block (w : World) (b t : Nat) (L : List Nat) (n : Nat) (hn : L.length = n) (hn2 : n ≤ 128) (hd : Dg 256 L) (h : IB w b .u8 t L) :
    Calls Sang.prog 12 #[.slice (some ⟨b, 0, none⟩) n n] w fun e w' => ∃ v', e = .returned v' ∧ Sl w' .u8 v' (digs (be L)) ∧ Fr w.heap.size no w w' := by
  have h1 := Sl.of_ib h n n (by omega) (Nat.le_refl _) (Nat.le_trans hn2 (by decide))
  rw [List.take_of_length_le (by omega)] at h1
  exact fromBE_any _ _ w h1 hd (by omega)

theorem limbsNat_block (w : World) (b N : Nat) (hN : N < W64 ^ 8) (h : IB w b .u64 26 (limbs W64 8 N)) :
    Calls Sang.prog 10 #[.slice (some ⟨b, 0, none⟩) 8 8] w fun e w' => ∃ v', e = .returned v' ∧ Sl w' .u8 v' (digs N) ∧ Fr w.heap.size no w w' := by
  have h1 := Sl.of_ib h 8 8 (by rw [limbs_length]; decide) (Nat.le_refl _) (by decide)
  rw [List.take_of_length_le (by rw [limbs_length]; decide)] at h1
  have := limbsNat_any _ _ w h1 (limbs_dg W64_pos _ _) (by rw [limbs_length]; decide)
  rw [val_limbs, Nat.mod_eq_of_lt hN] at this
  exact this

theorem uPowN (bb be bm : Nat) (B E M : Nat) (w : World) (hB : IB w bb .u64 26 (limbs W64 8 B)) (hE : IB w be .u64 26 (limbs W64 8 E)) (hM : IB w bm .u64 26 (limbs W64 8 M)) (rB : B < W64 ^ 8) (rE : E < W64 ^ 8) (rM : M < W64 ^ 8) :
    Calls Sang.prog 17 #[.pointer (some ⟨bb, 0, none⟩), .pointer (some ⟨be, 0, none⟩), .pointer (some ⟨bm, 0, none⟩)] w fun e w' =>
      e = .returned (.agg (ints .u64 (limbs W64 8 (powF B E M)))) ∧ Fr w.heap.size no w w' := by
  have := uPow_any bb be bm 26 26 26 _ _ _ w hB hE hM (limbs_length _ _ _) (limbs_length _ _ _) (limbs_length _ _ _) (limbs_dg W64_pos _ _) (limbs_dg W64_pos _ _) (limbs_dg W64_pos _ _)
  rw [val_limbs, val_limbs, val_limbs, Nat.mod_eq_of_lt rB, Nat.mod_eq_of_lt rE, Nat.mod_eq_of_lt rM] at this
  exact this

theorem pow_limb (n k : Nat) (h : n = 64 * k) : 2 ^ n = W64 ^ k := by
  subst h
  rw [Nat.pow_mul]
  rfl

theorem Sl.form {w : World} {k : IntKind} {v : Value} {l : List Nat} (h : Sl w k v l) : ∃ a n c, v = .slice a n c := by
  obtain ⟨a, c, h, _⟩ := h
  exact ⟨a, _, c, h⟩

theorem cell_new1 (w : World) (cs : Array Value) (t : TypeId) (i : Nat) (v : Value) (h : cs[i]? = some v) : (w.alloc (.cells cs t)).cell? ⟨w.heap.size, i, none⟩ = some v := by
  have e : (w.alloc (.cells cs t)).heap[w.heap.size]? = some (.cells cs t (0, 0)) := by
    show (w.heap.push _)[w.heap.size]? = _
    simp
  simp only [World.cell?, e]
  exact h

theorem cmp_same (v1 v2 : Value) (N : Nat) (w : World) (h1 : Sl w .u8 v1 (digs N)) (h2 : Sl w .u8 v2 (digs N)) :
    Calls Sang.prog 9 #[v1, v2] w fun e w' => e = .returned (.int .i8 0) ∧ Fr w.heap.size no w w' := by
  have := cmp_any v1 v2 _ _ w h1 (digs_dg _) h2 (digs_dg _)
  rw [cmpZ_eq] at this
  exact this

theorem cell_row {w : World} {b : Nat} {k : IntKind} {t : TypeId} {L : List Nat} {p : Addr} {v : Value} (h : w.cell? p = some v) (hb : p.block ≠ b) : (setRow w b k t L).cell? p = some v := by
  rw [World.cell?_of_block (w := w) (setRow_heap w b k t L p.block hb)]
  exact h

theorem Sl.row {w : World} {v : Value} {l : List Nat} (h : Sl w .u8 v l) {b : Nat} {t : TypeId} {L : List Nat} (hI : IB w b .u64 t L) (L' : List Nat) : Sl (setRow w b .u64 t L') .u8 v l := by
  obtain ⟨a, cap, hv, h1, h2, h3⟩ := h
  refine ⟨a, cap, hv, h1, h2, ?_⟩
  rcases h3 with h3 | ⟨b', off, ha, hc⟩
  · exact .inl h3
  · refine .inr ⟨b', off, ha, fun i hi => cell_row (hc i hi) ?_⟩
    intro e
    have h4 := hc i hi
    simp only at e
    subst e
    have := hI.kind h4
    cases this

theorem pow512 (w : World) : ∃ T : Nat, T = W64 ^ 8 ∧ ∀ w : World, Calls Sang.prog 18 #[.int .u16 512] w fun e w' => ∃ v', e = .returned v' ∧ Sl w' .u8 v' (digs T) ∧ Fr w.heap.size no w w' := by
  obtain ⟨n, hn⟩ : ∃ n : Nat, n = 512 := ⟨_, rfl⟩
  refine ⟨2 ^ n, ?_, fun w => ?_⟩
  · exact pow_limb n 8 (by omega)
  · have := pow2_any n (by omega) w
    rw [show (n : Int) = 512 by omega] at this
    exact this

set_option maxRecDepth 10000 in
set_option maxHeartbeats 4000000 in
theorem modExpRec_any (A E M : List Nat) (w : World) (lA : A.length = 64) (lE : E.length = 64) (lM : M.length = 64) (dA : Dg 256 A) (dE : Dg 256 E) (dM : Dg 256 M) :
    Calls Sang.prog 4 #[.agg (ints .u8 A), .agg (ints .u8 E), .agg (ints .u8 M)] w fun e w' => e = .returned (.bool true) ∧ Fr w.heap.size no w w' := by
  have HD : Hid (Dg 256 A ∧ Dg 256 E ∧ Dg 256 M) := ⟨dA, dE, dM⟩
  have HR : Hid (be A < W64 ^ 8 ∧ be E < W64 ^ 8 ∧ be M < W64 ^ 8) := ⟨be_room dA lA, be_room dE lE, be_room dM lM⟩
  have HL1 : Hid ((digs (be E + 1)).length ≤ 8192) := by
    unfold Hid
    refine Nat.le_trans (digs_room _ 9 ?_) (by decide)
    have h1 := HR.out.2.1
    have h2 : W64 ^ 9 = W64 ^ 8 * W64 := rfl
    have h3 : 1 ≤ W64 ^ 8 := Nat.pow_pos W64_pos
    have h4 : W64 ^ 8 * 2 ≤ W64 ^ 8 * W64 := Nat.mul_le_mul_left _ (by decide)
    generalize W64 ^ 9 = x at *
    generalize W64 ^ 8 = y at *
    omega
  clear dA dE dM
  have hsA : (Sang.prog.info? 22).map (·.size) = some A.length := by rw [lA]; exact siz22
  have hsE : (Sang.prog.info? 22).map (·.size) = some E.length := by rw [lE]; exact siz22
  have hsM : (Sang.prog.info? 22).map (·.size) = some M.length := by rw [lM]; exact siz22
  have hs26 : (Sang.prog.info? 26).map (·.size) = some (List.replicate 8 0).length := siz26
  have hl8 : ∀ n, (limbs W64 8 n).length = (List.replicate 8 0).length := fun n => by rw [limbs_length]; rfl
  have hs26' : ∀ n, (Sang.prog.info? 26).map (·.size) = some (limbs W64 8 n).length := fun n => by rw [limbs_length]; exact siz26
  have hll : ∀ n n', (limbs W64 8 n).length = (limbs W64 8 n').length := fun n n' => by rw [limbs_length, limbs_length]
  go_enter Sang.func4, Sang.ntmps4
  go_wp2_with fail
  have hw : Fr w.heap.size no w (((w.alloc (.cells (ints .u8 A) 22)).alloc (.cells (ints .u8 E) 22)).alloc (.cells (ints .u8 M) 22)) := (((Fr.refl _ _ _).alloc (Nat.le_refl _) _).alloc (by simp) _).alloc (by simp; omega) _
  have hA : IB (((w.alloc (.cells (ints .u8 A) 22)).alloc (.cells (ints .u8 E) 22)).alloc (.cells (ints .u8 M) 22)) w.heap.size .u8 22 A := ((IB.new w .u8 22 A).alloc _).alloc _
  have hE : IB (((w.alloc (.cells (ints .u8 A) 22)).alloc (.cells (ints .u8 E) 22)).alloc (.cells (ints .u8 M) 22)) (w.heap.size + 1) .u8 22 E := (IB.newAt (by simp) rfl).alloc _
  have hM : IB (((w.alloc (.cells (ints .u8 A) 22)).alloc (.cells (ints .u8 E) 22)).alloc (.cells (ints .u8 M) 22)) (w.heap.size + 1 + 1) .u8 22 M := IB.newAt (by simp) rfl
  generalize ((w.alloc (.cells (ints .u8 A) 22)).alloc (.cells (ints .u8 E) 22)).alloc (.cells (ints .u8 M) 22) = w0 at hw hA hE hM ⊢
  refine (fromBE_block w0 w.heap.size 22 A 64 lA (by decide) HD.out.1 hA).mono ?_
  rintro e w1 ⟨vb, rfl, hvb, hf2⟩
  replace hA := hA.fr hf2 hA.lt (fun x => x)
  replace hE := hE.fr hf2 hE.lt (fun x => x)
  replace hM := hM.fr hf2 hM.lt (fun x => x)
  replace hw := hw.step hf2 hw.size (fun _ _ x => x)
  clear hf2
  go_wp2_with fail
  refine (fromBE_block w1 (w.heap.size + 1) 22 E 64 lE (by decide) HD.out.2.1 hE).mono ?_
  rintro e w3 ⟨ve, rfl, hve, hf4⟩
  replace hA := hA.fr hf4 hA.lt (fun x => x)
  replace hE := hE.fr hf4 hE.lt (fun x => x)
  replace hM := hM.fr hf4 hM.lt (fun x => x)
  replace hvb := hvb.fr hf4
  replace hw := hw.step hf4 hw.size (fun _ _ x => x)
  clear hf4
  go_wp2_with fail
  refine (fromBE_block w3 (w.heap.size + 1 + 1) 22 M 64 lM (by decide) HD.out.2.2 hM).mono ?_
  rintro e w5 ⟨vm, rfl, hvm, hf6⟩
  replace hA := hA.fr hf6 hA.lt (fun x => x)
  replace hE := hE.fr hf6 hE.lt (fun x => x)
  replace hM := hM.fr hf6 hM.lt (fun x => x)
  replace hvb := hvb.fr hf6
  replace hve := hve.fr hf6
  replace hw := hw.step hf6 hw.size (fun _ _ x => x)
  clear hf6
  go_wp2_with fail
  have hone : IB (w5.alloc (.cells #[.int .u8 1] 5)) w5.heap.size .u8 5 [1] := IB.newAt rfl rfl
  have hf8 : Fr w5.heap.size no w5 (w5.alloc (.cells #[.int .u8 1] 5)) := (Fr.refl _ _ _).alloc (Nat.le_refl _) _
  have hone0 := hone
  replace hA := hA.fr hf8 hA.lt (fun x => x)
  replace hE := hE.fr hf8 hE.lt (fun x => x)
  replace hM := hM.fr hf8 hM.lt (fun x => x)
  replace hvb := hvb.fr hf8
  replace hve := hve.fr hf8
  replace hvm := hvm.fr hf8
  replace hw := hw.step hf8 hw.size (fun _ _ x => x)
  clear hf8
  generalize w5.alloc (.cells #[.int .u8 1] 5) = w7 at hA hE hM hvb hve hvm hone0 hw ⊢
  generalize w5.heap.size = ob at hone0 ⊢
  have hS1 : Sl w7 .u8 (.slice (some ⟨ob, 0, none⟩) 1 1) (digs 1) := Sl.of_ib hone0 1 1 (by decide) (by decide) (by decide)
  have hadd := add_any ve _ _ _ w7 hve (digs_dg _) hS1 (digs_dg _) (Nat.le_trans (digs_room _ 8 HR.out.2.1) (by decide)) (by decide)
  rw [val_digs, val_digs] at hadd
  refine (hadd).mono ?_
  rintro e w9 ⟨vn, rfl, hvn, hf10⟩
  replace hA := hA.fr hf10 hA.lt (fun x => x)
  replace hE := hE.fr hf10 hE.lt (fun x => x)
  replace hM := hM.fr hf10 hM.lt (fun x => x)
  replace hvb := hvb.fr hf10
  replace hve := hve.fr hf10
  replace hvm := hvm.fr hf10
  replace hone0 := hone0.fr hf10 hone0.lt (fun x => x)
  replace hw := hw.step hf10 hw.size (fun _ _ x => x)
  clear hf10
  clear hadd hone0 hS1
  go_wp2_with fail
  have hnil : Sl w9 .u8 (.slice none 0 0) (digs 0) := Sl.nil _ _
  refine (ypPow_any vb _ vm (be A) 0 (be M) w9 hvb hnil hvm HR.out.1 HR.out.2.2 (by decide)).mono ?_
  rintro e w11 ⟨s0, rfl, hs0, hf12⟩
  replace hA := hA.fr hf12 hA.lt (fun x => x)
  replace hE := hE.fr hf12 hE.lt (fun x => x)
  replace hM := hM.fr hf12 hM.lt (fun x => x)
  replace hvb := hvb.fr hf12
  replace hve := hve.fr hf12
  replace hvm := hvm.fr hf12
  replace hvn := hvn.fr hf12
  replace hw := hw.step hf12 hw.size (fun _ _ x => x)
  clear hf12
  clear hnil
  go_wp2_with fail
  refine (ypPow_any vb ve vm (be A) (be E) (be M) w11 hvb hve hvm HR.out.1 HR.out.2.2 (Nat.le_trans (digs_room _ 8 HR.out.2.1) (by decide))).mono ?_
  rintro e w13 ⟨s1, rfl, hs1, hf14⟩
  replace hA := hA.fr hf14 hA.lt (fun x => x)
  replace hE := hE.fr hf14 hE.lt (fun x => x)
  replace hM := hM.fr hf14 hM.lt (fun x => x)
  replace hvb := hvb.fr hf14
  replace hve := hve.fr hf14
  replace hvm := hvm.fr hf14
  replace hvn := hvn.fr hf14
  replace hs0 := hs0.fr hf14
  replace hw := hw.step hf14 hw.size (fun _ _ x => x)
  clear hf14
  go_wp2_with fail
  refine (ypPow_any vb vn vm (be A) (be E + 1) (be M) w13 hvb hvn hvm HR.out.1 HR.out.2.2 HL1.out).mono ?_
  rintro e w15 ⟨s2, rfl, hs2, hf16⟩
  replace hA := hA.fr hf16 hA.lt (fun x => x)
  replace hE := hE.fr hf16 hE.lt (fun x => x)
  replace hM := hM.fr hf16 hM.lt (fun x => x)
  replace hvb := hvb.fr hf16
  replace hve := hve.fr hf16
  replace hvm := hvm.fr hf16
  replace hvn := hvn.fr hf16
  replace hs0 := hs0.fr hf16
  replace hs1 := hs1.fr hf16
  replace hw := hw.step hf16 hw.size (fun _ _ x => x)
  clear hf16
  obtain ⟨z0, n0, c0, rfl⟩ := hs0.form
  obtain ⟨z1, n1, c1, rfl⟩ := hs1.form
  obtain ⟨z2, n2, c2, rfl⟩ := hs2.form
  have hld := hA.alloc (.cells #[.slice z0 n0 c0, .slice z1 n1 c1, .slice z2 n2 c2] 48)
  go_wp2_with ((with_reducible refine wl_load 22 (.tmp 3) w.heap.size .u8 22 A ?_ hld (.array 64 5) und22 ?_ hsA ?_); rfl; rfl)
  clear hld
  have hf18 : Fr w15.heap.size no w15 (w15.alloc (.cells #[.slice z0 n0 c0, .slice z1 n1 c1, .slice z2 n2 c2] 48)) := (Fr.refl _ _ _).alloc (Nat.le_refl _) _
  have hc0 := cell_new1 w15 #[.slice z0 n0 c0, .slice z1 n1 c1, .slice z2 n2 c2] 48 0 _ rfl
  have hc1 := cell_new1 w15 #[.slice z0 n0 c0, .slice z1 n1 c1, .slice z2 n2 c2] 48 1 _ rfl
  have hc2 := cell_new1 w15 #[.slice z0 n0 c0, .slice z1 n1 c1, .slice z2 n2 c2] 48 2 _ rfl
  replace hA := hA.fr hf18 hA.lt (fun x => x)
  replace hE := hE.fr hf18 hE.lt (fun x => x)
  replace hM := hM.fr hf18 hM.lt (fun x => x)
  replace hvb := hvb.fr hf18
  replace hve := hve.fr hf18
  replace hvm := hvm.fr hf18
  replace hvn := hvn.fr hf18
  replace hs0 := hs0.fr hf18
  replace hs1 := hs1.fr hf18
  replace hs2 := hs2.fr hf18
  replace hw := hw.step hf18 hw.size (fun _ _ x => x)
  clear hf18
  generalize w15.alloc (.cells #[.slice z0 n0 c0, .slice z1 n1 c1, .slice z2 n2 c2] 48) = w17 at hA hE hM hvb hve hvm hvn hs0 hs1 hs2 hc0 hc1 hc2 hw ⊢
  generalize w15.heap.size = sb at hc0 hc1 hc2 ⊢
  refine (wideOf_any A w17 lA HD.out.1).mono ?_
  rintro e w19 ⟨rfl, hf20⟩
  replace hA := hA.fr hf20 hA.lt (fun x => x)
  replace hE := hE.fr hf20 hE.lt (fun x => x)
  replace hM := hM.fr hf20 hM.lt (fun x => x)
  replace hvb := hvb.fr hf20
  replace hve := hve.fr hf20
  replace hvm := hvm.fr hf20
  replace hvn := hvn.fr hf20
  replace hs0 := hs0.fr hf20
  replace hs1 := hs1.fr hf20
  replace hs2 := hs2.fr hf20
  rw [← hf20.cell (cell_lt hc0) (fun x => x)] at hc0
  rw [← hf20.cell (cell_lt hc1) (fun x => x)] at hc1
  rw [← hf20.cell (cell_lt hc2) (fun x => x)] at hc2
  replace hw := hw.step hf20 hw.size (fun _ _ x => x)
  clear hf20
  have hld := hE.alloc (.cells (ints .u64 (limbs W64 8 (be A))) 26)

  go_wp2_with (first | ((with_reducible refine wl_store_new w19 #[.int .u64 0, .int .u64 0, .int .u64 0, .int .u64 0, .int .u64 0, .int .u64 0, .int .u64 0, .int .u64 0] 26 (.tmp 12) (.tmp 40) w19.heap.size .u64 26 (List.replicate 8 0) (limbs W64 8 (be A)) ?_ ?_ rfl ?_ (hl8 _) hs26 ?_); rfl; rfl; rfl) | ((with_reducible refine wl_load 22 (.tmp 4) (w.heap.size + 1) .u8 22 E ?_ hld (.array 64 5) und22 ?_ hsE ?_); rfl; rfl))
  clear hld
  have hf22 : Fr w19.heap.size no w19 (w19.alloc (.cells (ints .u64 (limbs W64 8 (be A))) 26)) := (Fr.refl _ _ _).alloc (Nat.le_refl _) _
  have hx := IB.new w19 .u64 26 (limbs W64 8 (be A))
  replace hA := hA.fr hf22 hA.lt (fun x => x)
  replace hE := hE.fr hf22 hE.lt (fun x => x)
  replace hM := hM.fr hf22 hM.lt (fun x => x)
  replace hvb := hvb.fr hf22
  replace hve := hve.fr hf22
  replace hvm := hvm.fr hf22
  replace hvn := hvn.fr hf22
  replace hs0 := hs0.fr hf22
  replace hs1 := hs1.fr hf22
  replace hs2 := hs2.fr hf22
  rw [← hf22.cell (cell_lt hc0) (fun x => x)] at hc0
  rw [← hf22.cell (cell_lt hc1) (fun x => x)] at hc1
  rw [← hf22.cell (cell_lt hc2) (fun x => x)] at hc2
  replace hw := hw.step hf22 hw.size (fun _ _ x => x)
  clear hf22
  generalize w19.alloc (.cells (ints .u64 (limbs W64 8 (be A))) 26) = w21 at hA hE hM hvb hve hvm hvn hs0 hs1 hs2 hc0 hc1 hc2 hx hw ⊢
  generalize w19.heap.size = xb at hx ⊢
  refine (wideOf_any E w21 lE HD.out.2.1).mono ?_
  rintro e w23 ⟨rfl, hf24⟩
  replace hA := hA.fr hf24 hA.lt (fun x => x)
  replace hE := hE.fr hf24 hE.lt (fun x => x)
  replace hM := hM.fr hf24 hM.lt (fun x => x)
  replace hvb := hvb.fr hf24
  replace hve := hve.fr hf24
  replace hvm := hvm.fr hf24
  replace hvn := hvn.fr hf24
  replace hs0 := hs0.fr hf24
  replace hs1 := hs1.fr hf24
  replace hs2 := hs2.fr hf24
  rw [← hf24.cell (cell_lt hc0) (fun x => x)] at hc0
  rw [← hf24.cell (cell_lt hc1) (fun x => x)] at hc1
  rw [← hf24.cell (cell_lt hc2) (fun x => x)] at hc2
  replace hx := hx.fr hf24 hx.lt (fun x => x)
  replace hw := hw.step hf24 hw.size (fun _ _ x => x)
  clear hf24
  have hnx : xb ≠ w23.heap.size := by have := hx.lt; omega
  have hns : sb ≠ w23.heap.size := by have := cell_lt hc0; simp at this; omega
  have hUy : w.heap.size ≤ w23.heap.size := by exact hw.size
  have hld := hM.alloc (.cells (ints .u64 (limbs W64 8 (be E))) 26)

  go_wp2_with (first | ((with_reducible refine wl_store_new w23 #[.int .u64 0, .int .u64 0, .int .u64 0, .int .u64 0, .int .u64 0, .int .u64 0, .int .u64 0, .int .u64 0] 26 (.tmp 13) (.tmp 42) w23.heap.size .u64 26 (List.replicate 8 0) (limbs W64 8 (be E)) ?_ ?_ rfl ?_ (hl8 _) hs26 ?_); rfl; rfl; rfl) | ((with_reducible refine wl_load 22 (.tmp 5) (w.heap.size + 1 + 1) .u8 22 M ?_ hld (.array 64 5) und22 ?_ hsM ?_); rfl; rfl))
  clear hld
  have hf26 : Fr w23.heap.size no w23 (w23.alloc (.cells (ints .u64 (limbs W64 8 (be E))) 26)) := (Fr.refl _ _ _).alloc (Nat.le_refl _) _
  have hy := IB.new w23 .u64 26 (limbs W64 8 (be E))
  replace hA := hA.fr hf26 hA.lt (fun x => x)
  replace hE := hE.fr hf26 hE.lt (fun x => x)
  replace hM := hM.fr hf26 hM.lt (fun x => x)
  replace hvb := hvb.fr hf26
  replace hve := hve.fr hf26
  replace hvm := hvm.fr hf26
  replace hvn := hvn.fr hf26
  replace hs0 := hs0.fr hf26
  replace hs1 := hs1.fr hf26
  replace hs2 := hs2.fr hf26
  rw [← hf26.cell (cell_lt hc0) (fun x => x)] at hc0
  rw [← hf26.cell (cell_lt hc1) (fun x => x)] at hc1
  rw [← hf26.cell (cell_lt hc2) (fun x => x)] at hc2
  replace hx := hx.fr hf26 hx.lt (fun x => x)
  replace hw := hw.step hf26 hw.size (fun _ _ x => x)
  clear hf26
  generalize w23.alloc (.cells (ints .u64 (limbs W64 8 (be E))) 26) = w25 at hA hE hM hvb hve hvm hvn hs0 hs1 hs2 hc0 hc1 hc2 hx hy hw ⊢
  generalize w23.heap.size = yb at hy hnx hns hUy ⊢
  refine (wideOf_any M w25 lM HD.out.2.2).mono ?_
  rintro e w27 ⟨rfl, hf28⟩
  replace hA := hA.fr hf28 hA.lt (fun x => x)
  replace hE := hE.fr hf28 hE.lt (fun x => x)
  replace hM := hM.fr hf28 hM.lt (fun x => x)
  replace hvb := hvb.fr hf28
  replace hve := hve.fr hf28
  replace hvm := hvm.fr hf28
  replace hvn := hvn.fr hf28
  replace hs0 := hs0.fr hf28
  replace hs1 := hs1.fr hf28
  replace hs2 := hs2.fr hf28
  rw [← hf28.cell (cell_lt hc0) (fun x => x)] at hc0
  rw [← hf28.cell (cell_lt hc1) (fun x => x)] at hc1
  rw [← hf28.cell (cell_lt hc2) (fun x => x)] at hc2
  replace hx := hx.fr hf28 hx.lt (fun x => x)
  replace hy := hy.fr hf28 hy.lt (fun x => x)
  replace hw := hw.step hf28 hw.size (fun _ _ x => x)
  clear hf28
  clear hA hE hM
  obtain ⟨T, hT, hP⟩ := pow512 w
  have HT : Hid (T = W64 ^ 8) := hT
  have HP : Hid (∀ w : World, Calls Sang.prog 18 #[.int .u16 512] w fun e w' => ∃ v', e = .returned v' ∧ Sl w' .u8 v' (digs T) ∧ Fr w.heap.size no w w') := hP
  clear hT hP
  go_wp2_with ((with_reducible refine wl_store_new w27 #[.int .u64 0, .int .u64 0, .int .u64 0, .int .u64 0, .int .u64 0, .int .u64 0, .int .u64 0, .int .u64 0] 26 (.tmp 14) (.tmp 44) w27.heap.size .u64 26 (List.replicate 8 0) (limbs W64 8 (be M)) ?_ ?_ rfl ?_ (hl8 _) hs26 ?_); rfl; rfl; rfl)
  have hf30 : Fr w27.heap.size no w27 ((w27.alloc (.cells (ints .u64 (limbs W64 8 (be M))) 26)).alloc (.cells #[.int .u64 0, .int .u64 0, .int .u64 0, .int .u64 0, .int .u64 0, .int .u64 0, .int .u64 0, .int .u64 0] 26)) := ((Fr.refl _ _ _).alloc (Nat.le_refl _) _).alloc (by simp) _
  have hm : IB ((w27.alloc (.cells (ints .u64 (limbs W64 8 (be M))) 26)).alloc (.cells #[.int .u64 0, .int .u64 0, .int .u64 0, .int .u64 0, .int .u64 0, .int .u64 0, .int .u64 0, .int .u64 0] 26)) w27.heap.size .u64 26 (limbs W64 8 (be M)) := (IB.new w27 .u64 26 (limbs W64 8 (be M))).alloc _
  have hz : IB ((w27.alloc (.cells (ints .u64 (limbs W64 8 (be M))) 26)).alloc (.cells #[.int .u64 0, .int .u64 0, .int .u64 0, .int .u64 0, .int .u64 0, .int .u64 0, .int .u64 0, .int .u64 0] 26)) (w27.heap.size + 1) .u64 26 (limbs W64 8 0) := by rw [limbs_zero]; exact IB.newAt (by simp) rfl
  have hnm : w27.heap.size ≠ yb := by have := hy.lt; omega
  replace hvb := hvb.fr hf30
  replace hve := hve.fr hf30
  replace hvm := hvm.fr hf30
  replace hvn := hvn.fr hf30
  replace hs0 := hs0.fr hf30
  replace hs1 := hs1.fr hf30
  replace hs2 := hs2.fr hf30
  rw [← hf30.cell (cell_lt hc0) (fun x => x)] at hc0
  rw [← hf30.cell (cell_lt hc1) (fun x => x)] at hc1
  rw [← hf30.cell (cell_lt hc2) (fun x => x)] at hc2
  replace hx := hx.fr hf30 hx.lt (fun x => x)
  replace hy := hy.fr hf30 hy.lt (fun x => x)
  replace hw := hw.step hf30 hw.size (fun _ _ x => x)
  clear hf30
  generalize (w27.alloc (.cells (ints .u64 (limbs W64 8 (be M))) 26)).alloc (.cells #[.int .u64 0, .int .u64 0, .int .u64 0, .int .u64 0, .int .u64 0, .int .u64 0, .int .u64 0, .int .u64 0] 26) = w29 at hvb hve hvm hvn hs0 hs1 hs2 hc0 hc1 hc2 hx hy hm hz hw ⊢
  generalize w27.heap.size = mb at hm hz hnm ⊢
  have r0 : (0 : Nat) < W64 ^ 8 := Nat.pow_pos W64_pos
  refine (uPowN xb (mb + 1) mb (be A) 0 (be M) w29 hx hz hm HR.out.1 r0 HR.out.2.2).mono ?_
  rintro e w31 ⟨rfl, hf32⟩
  replace hvb := hvb.fr hf32
  replace hve := hve.fr hf32
  replace hvm := hvm.fr hf32
  replace hvn := hvn.fr hf32
  replace hs0 := hs0.fr hf32
  replace hs1 := hs1.fr hf32
  replace hs2 := hs2.fr hf32
  rw [← hf32.cell (cell_lt hc0) (fun x => x)] at hc0
  rw [← hf32.cell (cell_lt hc1) (fun x => x)] at hc1
  rw [← hf32.cell (cell_lt hc2) (fun x => x)] at hc2
  replace hx := hx.fr hf32 hx.lt (fun x => x)
  replace hy := hy.fr hf32 hy.lt (fun x => x)
  replace hm := hm.fr hf32 hm.lt (fun x => x)
  replace hz := hz.fr hf32 hz.lt (fun x => x)
  replace hw := hw.step hf32 hw.size (fun _ _ x => x)
  clear hf32
  clear hz r0
  have hnz : w31.heap.size ≠ yb := by have := hy.lt; omega
  go_wp2_with ((with_reducible refine wl_store_new w31 #[.int .u64 0, .int .u64 0, .int .u64 0, .int .u64 0, .int .u64 0, .int .u64 0, .int .u64 0, .int .u64 0] 26 (.tmp 15) (.tmp 47) w31.heap.size .u64 26 (List.replicate 8 0) (limbs W64 8 (powF (be A) 0 (be M))) ?_ ?_ rfl ?_ (hl8 _) hs26 ?_); rfl; rfl; rfl)
  have hf34 : Fr w31.heap.size no w31 (w31.alloc (.cells (ints .u64 (limbs W64 8 (powF (be A) 0 (be M)))) 26)) := (Fr.refl _ _ _).alloc (Nat.le_refl _) _
  have hzr := IB.new w31 .u64 26 (limbs W64 8 (powF (be A) 0 (be M)))
  replace hvb := hvb.fr hf34
  replace hve := hve.fr hf34
  replace hvm := hvm.fr hf34
  replace hvn := hvn.fr hf34
  replace hs0 := hs0.fr hf34
  replace hs1 := hs1.fr hf34
  replace hs2 := hs2.fr hf34
  rw [← hf34.cell (cell_lt hc0) (fun x => x)] at hc0
  rw [← hf34.cell (cell_lt hc1) (fun x => x)] at hc1
  rw [← hf34.cell (cell_lt hc2) (fun x => x)] at hc2
  replace hx := hx.fr hf34 hx.lt (fun x => x)
  replace hy := hy.fr hf34 hy.lt (fun x => x)
  replace hm := hm.fr hf34 hm.lt (fun x => x)
  replace hw := hw.step hf34 hw.size (fun _ _ x => x)
  clear hf34
  generalize w31.alloc (.cells (ints .u64 (limbs W64 8 (powF (be A) 0 (be M)))) 26) = w33 at hvb hve hvm hvn hs0 hs1 hs2 hc0 hc1 hc2 hx hy hm hzr hw ⊢
  generalize w31.heap.size = zb at hzr hnz ⊢
  refine (uPowN xb yb mb (be A) (be E) (be M) w33 hx hy hm HR.out.1 HR.out.2.1 HR.out.2.2).mono ?_
  rintro e w35 ⟨rfl, hf36⟩
  replace hvb := hvb.fr hf36
  replace hve := hve.fr hf36
  replace hvm := hvm.fr hf36
  replace hvn := hvn.fr hf36
  replace hs0 := hs0.fr hf36
  replace hs1 := hs1.fr hf36
  replace hs2 := hs2.fr hf36
  rw [← hf36.cell (cell_lt hc0) (fun x => x)] at hc0
  rw [← hf36.cell (cell_lt hc1) (fun x => x)] at hc1
  rw [← hf36.cell (cell_lt hc2) (fun x => x)] at hc2
  replace hx := hx.fr hf36 hx.lt (fun x => x)
  replace hy := hy.fr hf36 hy.lt (fun x => x)
  replace hm := hm.fr hf36 hm.lt (fun x => x)
  replace hzr := hzr.fr hf36 hzr.lt (fun x => x)
  replace hw := hw.step hf36 hw.size (fun _ _ x => x)
  clear hf36
  have hno : w35.heap.size ≠ yb := by have := hy.lt; omega
  go_wp2_with ((with_reducible refine wl_store_new w35 #[.int .u64 0, .int .u64 0, .int .u64 0, .int .u64 0, .int .u64 0, .int .u64 0, .int .u64 0, .int .u64 0] 26 (.tmp 16) (.tmp 48) w35.heap.size .u64 26 (List.replicate 8 0) (limbs W64 8 (powF (be A) (be E) (be M))) ?_ ?_ rfl ?_ (hl8 _) hs26 ?_); rfl; rfl; rfl)
  have hf38 : Fr w35.heap.size no w35 (w35.alloc (.cells (ints .u64 (limbs W64 8 (powF (be A) (be E) (be M)))) 26)) := (Fr.refl _ _ _).alloc (Nat.le_refl _) _
  have hor := IB.new w35 .u64 26 (limbs W64 8 (powF (be A) (be E) (be M)))
  replace hvb := hvb.fr hf38
  replace hve := hve.fr hf38
  replace hvm := hvm.fr hf38
  replace hvn := hvn.fr hf38
  replace hs0 := hs0.fr hf38
  replace hs1 := hs1.fr hf38
  replace hs2 := hs2.fr hf38
  rw [← hf38.cell (cell_lt hc0) (fun x => x)] at hc0
  rw [← hf38.cell (cell_lt hc1) (fun x => x)] at hc1
  rw [← hf38.cell (cell_lt hc2) (fun x => x)] at hc2
  replace hx := hx.fr hf38 hx.lt (fun x => x)
  replace hy := hy.fr hf38 hy.lt (fun x => x)
  replace hm := hm.fr hf38 hm.lt (fun x => x)
  replace hzr := hzr.fr hf38 hzr.lt (fun x => x)
  replace hw := hw.step hf38 hw.size (fun _ _ x => x)
  clear hf38
  generalize w35.alloc (.cells (ints .u64 (limbs W64 8 (powF (be A) (be E) (be M)))) 26) = w37 at hvb hve hvm hvn hs0 hs1 hs2 hc0 hc1 hc2 hx hy hm hzr hor hw ⊢
  generalize w35.heap.size = ub at hor hno ⊢
  refine (HP.out w37).mono ?_
  rintro e w39 ⟨vp, rfl, hvp, hf40⟩
  replace hvb := hvb.fr hf40
  replace hve := hve.fr hf40
  replace hvm := hvm.fr hf40
  replace hvn := hvn.fr hf40
  replace hs0 := hs0.fr hf40
  replace hs1 := hs1.fr hf40
  replace hs2 := hs2.fr hf40
  rw [← hf40.cell (cell_lt hc0) (fun x => x)] at hc0
  rw [← hf40.cell (cell_lt hc1) (fun x => x)] at hc1
  rw [← hf40.cell (cell_lt hc2) (fun x => x)] at hc2
  replace hx := hx.fr hf40 hx.lt (fun x => x)
  replace hy := hy.fr hf40 hy.lt (fun x => x)
  replace hm := hm.fr hf40 hm.lt (fun x => x)
  replace hzr := hzr.fr hf40 hzr.lt (fun x => x)
  replace hor := hor.fr hf40 hor.lt (fun x => x)
  replace hw := hw.step hf40 hw.size (fun _ _ x => x)
  clear hf40
  go_wp2_with fail
  have hcm := cmp_any vn vp _ _ w39 hvn (digs_dg _) hvp (digs_dg _)
  rw [val_digs, val_digs] at hcm
  clear HP
  by_cases hcase : be E + 1 = T
  · rw [hcase, cmpZ_eq] at hcm
    clear hcase
    refine (hcm).mono ?_
    rintro e w41 ⟨rfl, hf42⟩
    replace hvb := hvb.fr hf42
    replace hve := hve.fr hf42
    replace hvm := hvm.fr hf42
    replace hvn := hvn.fr hf42
    replace hs0 := hs0.fr hf42
    replace hs1 := hs1.fr hf42
    replace hs2 := hs2.fr hf42
    rw [← hf42.cell (cell_lt hc0) (fun x => x)] at hc0
    rw [← hf42.cell (cell_lt hc1) (fun x => x)] at hc1
    rw [← hf42.cell (cell_lt hc2) (fun x => x)] at hc2
    replace hx := hx.fr hf42 hx.lt (fun x => x)
    replace hy := hy.fr hf42 hy.lt (fun x => x)
    replace hm := hm.fr hf42 hm.lt (fun x => x)
    replace hzr := hzr.fr hf42 hzr.lt (fun x => x)
    replace hor := hor.fr hf42 hor.lt (fun x => x)
    replace hvp := hvp.fr hf42
    replace hw := hw.step hf42 hw.size (fun _ _ x => x)
    clear hf42
    clear hcm
    clear hvp
    go_wp2_with fail
    have hf43 : Fr w41.heap.size no w41 w41.drew := (Fr.refl _ _ _).drew
    replace hvb := hvb.fr hf43
    replace hve := hve.fr hf43
    replace hvm := hvm.fr hf43
    replace hvn := hvn.fr hf43
    replace hs0 := hs0.fr hf43
    replace hs1 := hs1.fr hf43
    replace hs2 := hs2.fr hf43
    rw [← hf43.cell (cell_lt hc0) (fun x => x)] at hc0
    rw [← hf43.cell (cell_lt hc1) (fun x => x)] at hc1
    rw [← hf43.cell (cell_lt hc2) (fun x => x)] at hc2
    replace hx := hx.fr hf43 hx.lt (fun x => x)
    replace hy := hy.fr hf43 hy.lt (fun x => x)
    replace hm := hm.fr hf43 hm.lt (fun x => x)
    replace hzr := hzr.fr hf43 hzr.lt (fun x => x)
    replace hor := hor.fr hf43 hor.lt (fun x => x)
    replace hw := hw.step hf43 hw.size (fun _ _ x => x)
    clear hf43
    have hten : ((0 : Int) == 0) = true := rfl
    go_region_with (first
      | (go_at_call 19; (with_reducible refine (modExpHolds_any vb vm (.slice z0 n0 c0) (.slice z1 n1 c1) (.slice z2 n2 c2) (be A) (be M) (be E) _ hvb hvm hs0 hs1 hs2 HR.out.1 HR.out.2.2).mono ?_); rintro e wA ⟨rfl, hfA⟩; have hs1A := hs1.fr hfA; have horA := hor.fr hfA hor.lt (fun x => x); have hc1A := hc1; rw [← hfA.cell (cell_lt hc1) (fun x => x)] at hc1A; have hwA := hw.step hfA hw.size (fun _ _ x => x))
      | (go_at_call 10; (with_reducible refine (limbsNat_block _ ub (powF (be A) (be E) (be M)) (powF_room _ _ _ HR.out.2.2) horA).mono ?_); rintro e wB ⟨vB, rfl, hvB, hfB⟩; have hs1B := hs1A.fr hfB; have hc1B := hc1A; rw [← hfB.cell (cell_lt hc1A) (fun x => x)] at hc1B; have hwB := hwA.step hfB hwA.size (fun _ _ x => x))
      | (go_at_call 9; (with_reducible refine (cmp_same vB _ (powF (be A) (be E) (be M)) _ hvB hs1B).mono ?_); rintro e wC ⟨rfl, hfC⟩; have hwC := hwB.step hfC hwB.size (fun _ _ x => x)))
    all_goals (go_wp2_with fail; go_ret; exact ⟨rfl, hwC⟩)
  · have HLt : Hid (be E + 1 < W64 ^ 8) := by
      have h1 := HR.out.2.1
      have h2 := HT.out
      unfold Hid
      rw [← h2] at h1 ⊢
      omega
    rw [cmpZ_lt (show be E + 1 < T by rw [HT.out]; exact HLt.out)] at hcm
    clear hcase
    refine (hcm).mono ?_
    rintro e w41 ⟨rfl, hf42⟩
    replace hvb := hvb.fr hf42
    replace hve := hve.fr hf42
    replace hvm := hvm.fr hf42
    replace hvn := hvn.fr hf42
    replace hs0 := hs0.fr hf42
    replace hs1 := hs1.fr hf42
    replace hs2 := hs2.fr hf42
    rw [← hf42.cell (cell_lt hc0) (fun x => x)] at hc0
    rw [← hf42.cell (cell_lt hc1) (fun x => x)] at hc1
    rw [← hf42.cell (cell_lt hc2) (fun x => x)] at hc2
    replace hx := hx.fr hf42 hx.lt (fun x => x)
    replace hy := hy.fr hf42 hy.lt (fun x => x)
    replace hm := hm.fr hf42 hm.lt (fun x => x)
    replace hzr := hzr.fr hf42 hzr.lt (fun x => x)
    replace hor := hor.fr hf42 hor.lt (fun x => x)
    replace hvp := hvp.fr hf42
    replace hw := hw.step hf42 hw.size (fun _ _ x => x)
    clear hf42
    clear hcm
    clear hvp
    go_wp2_with fail
    have hnw := natWide_any vn _ w41 hvn (digs_dg _) (digs_room _ 8 HLt.out)
    rw [val_digs] at hnw
    refine (hnw).mono ?_
    rintro e w43 ⟨rfl, hf44⟩
    replace hvb := hvb.fr hf44
    replace hve := hve.fr hf44
    replace hvm := hvm.fr hf44
    replace hvn := hvn.fr hf44
    replace hs0 := hs0.fr hf44
    replace hs1 := hs1.fr hf44
    replace hs2 := hs2.fr hf44
    rw [← hf44.cell (cell_lt hc0) (fun x => x)] at hc0
    rw [← hf44.cell (cell_lt hc1) (fun x => x)] at hc1
    rw [← hf44.cell (cell_lt hc2) (fun x => x)] at hc2
    replace hx := hx.fr hf44 hx.lt (fun x => x)
    replace hy := hy.fr hf44 hy.lt (fun x => x)
    replace hm := hm.fr hf44 hm.lt (fun x => x)
    replace hzr := hzr.fr hf44 hzr.lt (fun x => x)
    replace hor := hor.fr hf44 hor.lt (fun x => x)
    replace hw := hw.step hf44 hw.size (fun _ _ x => x)
    clear hf44
    clear hnw
    go_wp2_with ((with_reducible refine wl_store 26 (.tmp 13) (.tmp 66) yb .u64 26 (limbs W64 8 (be E)) (limbs W64 8 (be E + 1)) ?_ ?_ hy (hll _ _) (hs26' _) ?_); rfl; rfl)
    replace hvb := hvb.row hy (limbs W64 8 (be E + 1))
    replace hve := hve.row hy (limbs W64 8 (be E + 1))
    replace hvm := hvm.row hy (limbs W64 8 (be E + 1))
    replace hvn := hvn.row hy (limbs W64 8 (be E + 1))
    replace hs0 := hs0.row hy (limbs W64 8 (be E + 1))
    replace hs1 := hs1.row hy (limbs W64 8 (be E + 1))
    replace hs2 := hs2.row hy (limbs W64 8 (be E + 1))
    replace hc0 := cell_row (k := .u64) (t := 26) (L := limbs W64 8 (be E + 1)) hc0 (b := yb) hns
    replace hc1 := cell_row (k := .u64) (t := 26) (L := limbs W64 8 (be E + 1)) hc1 (b := yb) hns
    replace hc2 := cell_row (k := .u64) (t := 26) (L := limbs W64 8 (be E + 1)) hc2 (b := yb) hns
    replace hx := hx.otherRow (b' := yb) hnx .u64 26 (limbs W64 8 (be E + 1))
    replace hm := hm.otherRow (b' := yb) hnm .u64 26 (limbs W64 8 (be E + 1))
    replace hzr := hzr.otherRow (b' := yb) hnz .u64 26 (limbs W64 8 (be E + 1))
    replace hor := hor.otherRow (b' := yb) hno .u64 26 (limbs W64 8 (be E + 1))
    replace hw : Fr w.heap.size no w (setRow w43 yb .u64 26 (limbs W64 8 (be E + 1))) := hw.setRow (.inl hUy) _ _ _
    replace hy : IB (setRow w43 yb .u64 26 (limbs W64 8 (be E + 1))) yb .u64 26 (limbs W64 8 (be E + 1)) := IB.setRow hy.lt _ _ _
    generalize setRow w43 yb .u64 26 (limbs W64 8 (be E + 1)) = w45 at hvb hve hvm hvn hs0 hs1 hs2 hc0 hc1 hc2 hx hy hm hzr hor hw ⊢
    refine (uPowN xb yb mb (be A) (be E + 1) (be M) w45 hx hy hm HR.out.1 HLt.out HR.out.2.2).mono ?_
    rintro e w46 ⟨rfl, hf47⟩
    replace hvb := hvb.fr hf47
    replace hve := hve.fr hf47
    replace hvm := hvm.fr hf47
    replace hvn := hvn.fr hf47
    replace hs0 := hs0.fr hf47
    replace hs1 := hs1.fr hf47
    replace hs2 := hs2.fr hf47
    rw [← hf47.cell (cell_lt hc0) (fun x => x)] at hc0
    rw [← hf47.cell (cell_lt hc1) (fun x => x)] at hc1
    rw [← hf47.cell (cell_lt hc2) (fun x => x)] at hc2
    replace hx := hx.fr hf47 hx.lt (fun x => x)
    replace hy := hy.fr hf47 hy.lt (fun x => x)
    replace hm := hm.fr hf47 hm.lt (fun x => x)
    replace hzr := hzr.fr hf47 hzr.lt (fun x => x)
    replace hor := hor.fr hf47 hor.lt (fun x => x)
    replace hw := hw.step hf47 hw.size (fun _ _ x => x)
    clear hf47
    clear hx hy hm
    go_wp2_with ((with_reducible refine wl_store_new w46 #[.int .u64 0, .int .u64 0, .int .u64 0, .int .u64 0, .int .u64 0, .int .u64 0, .int .u64 0, .int .u64 0] 26 (.tmp 17) (.tmp 67) w46.heap.size .u64 26 (List.replicate 8 0) (limbs W64 8 (powF (be A) (be E + 1) (be M))) ?_ ?_ rfl ?_ (hl8 _) hs26 ?_); rfl; rfl; rfl)
    have hf49 : Fr w46.heap.size no w46 (w46.alloc (.cells (ints .u64 (limbs W64 8 (powF (be A) (be E + 1) (be M)))) 26)) := (Fr.refl _ _ _).alloc (Nat.le_refl _) _
    have htr := IB.new w46 .u64 26 (limbs W64 8 (powF (be A) (be E + 1) (be M)))
    replace hvb := hvb.fr hf49
    replace hve := hve.fr hf49
    replace hvm := hvm.fr hf49
    replace hvn := hvn.fr hf49
    replace hs0 := hs0.fr hf49
    replace hs1 := hs1.fr hf49
    replace hs2 := hs2.fr hf49
    rw [← hf49.cell (cell_lt hc0) (fun x => x)] at hc0
    rw [← hf49.cell (cell_lt hc1) (fun x => x)] at hc1
    rw [← hf49.cell (cell_lt hc2) (fun x => x)] at hc2
    replace hzr := hzr.fr hf49 hzr.lt (fun x => x)
    replace hor := hor.fr hf49 hor.lt (fun x => x)
    replace hw := hw.step hf49 hw.size (fun _ _ x => x)
    clear hf49
    generalize w46.alloc (.cells (ints .u64 (limbs W64 8 (powF (be A) (be E + 1) (be M)))) 26) = w48 at hvb hve hvm hvn hs0 hs1 hs2 hc0 hc1 hc2 hzr hor htr hw ⊢
    generalize w46.heap.size = tb at htr ⊢
    have hf50 : Fr w48.heap.size no w48 w48.drew := (Fr.refl _ _ _).drew
    replace hvb := hvb.fr hf50
    replace hve := hve.fr hf50
    replace hvm := hvm.fr hf50
    replace hvn := hvn.fr hf50
    replace hs0 := hs0.fr hf50
    replace hs1 := hs1.fr hf50
    replace hs2 := hs2.fr hf50
    rw [← hf50.cell (cell_lt hc0) (fun x => x)] at hc0
    rw [← hf50.cell (cell_lt hc1) (fun x => x)] at hc1
    rw [← hf50.cell (cell_lt hc2) (fun x => x)] at hc2
    replace hzr := hzr.fr hf50 hzr.lt (fun x => x)
    replace hor := hor.fr hf50 hor.lt (fun x => x)
    replace htr := htr.fr hf50 htr.lt (fun x => x)
    replace hw := hw.step hf50 hw.size (fun _ _ x => x)
    clear hf50
    go_region_with (first
      | (go_at_call 19; (with_reducible refine (modExpHolds_any vb vm (.slice z0 n0 c0) (.slice z1 n1 c1) (.slice z2 n2 c2) (be A) (be M) (be E) _ hvb hvm hs0 hs1 hs2 HR.out.1 HR.out.2.2).mono ?_); rintro e wA ⟨rfl, hfA⟩; have hvbA := hvb.fr hfA; have hvmA := hvm.fr hfA; have hzrA := hzr.fr hfA hzr.lt (fun x => x); have horA := hor.fr hfA hor.lt (fun x => x); have htrA := htr.fr hfA htr.lt (fun x => x); have hwA := hw.step hfA hw.size (fun _ _ x => x))
      | (go_at_call 10; (with_reducible refine (limbsNat_block _ zb (powF (be A) 0 (be M)) (powF_room _ _ _ HR.out.2.2) hzrA).mono ?_); rintro e wB ⟨vB, rfl, hvB, hfB⟩; have hvbB := hvbA.fr hfB; have hvmB := hvmA.fr hfB; have horB := horA.fr hfB horA.lt (fun x => x); have htrB := htrA.fr hfB htrA.lt (fun x => x); have hwB := hwA.step hfB hwA.size (fun _ _ x => x))
      | (go_at_call 10; (with_reducible refine (limbsNat_block _ ub (powF (be A) (be E) (be M)) (powF_room _ _ _ HR.out.2.2) horB).mono ?_); rintro e wC ⟨vC, rfl, hvC, hfC⟩; have hvbC := hvbB.fr hfC; have hvmC := hvmB.fr hfC; have htrC := htrB.fr hfC htrB.lt (fun x => x); have hwC := hwB.step hfC hwB.size (fun _ _ x => x); have hvB2 := hvB.fr hfC)
      | (go_at_call 10; (with_reducible refine (limbsNat_block _ tb (powF (be A) (be E + 1) (be M)) (powF_room _ _ _ HR.out.2.2) htrC).mono ?_); rintro e wD ⟨vD, rfl, hvD, hfD⟩; have hvbD := hvbC.fr hfD; have hvmD := hvmC.fr hfD; have hwD := hwC.step hfD hwC.size (fun _ _ x => x); have hvB3 := hvB2.fr hfD; have hvC3 := hvC.fr hfD; obtain ⟨y0, k0, d0, rfl⟩ := hvB3.form; obtain ⟨y1, k1, d1, rfl⟩ := hvC3.form; obtain ⟨y2, k2, d2, rfl⟩ := hvD.form)
      | (go_at_call 19; (with_reducible refine (modExpHolds_any vb vm (.slice y0 k0 d0) (.slice y1 k1 d1) (.slice y2 k2 d2) (be A) (be M) (be E) _ hvbD hvmD hvB3 hvC3 hvD HR.out.1 HR.out.2.2).mono ?_); rintro e wE ⟨rfl, hfE⟩; have hwE := hwD.step hfE hwD.size (fun _ _ x => x)))
    all_goals (go_wp2_with fail; go_ret; exact ⟨rfl, hwE⟩)
end Go.Proofs.Ygcsan
