/-
  Package law: modExpHolds.
-/
import Derived.Test.YgcsanPow
import Derived.Test.YgcsanEq
namespace Go.Proofs.Ygcsan
open Go.RowKit
set_option linter.unusedSimpArgs false
set_option linter.unusedVariables false

theorem cell_new2 (w : World) (cs : Array Value) (t : TypeId) (o : Obj) (i : Nat) (v : Value) (h : cs[i]? = some v) : ((w.alloc (.cells cs t)).alloc o).cell? ⟨w.heap.size, i, none⟩ = some v := by
  have e : ((w.alloc (.cells cs t)).alloc o).heap[w.heap.size]? = some (.cells cs t (0, 0)) := by
    rw [Below.heap_alloc _ _ _ (by simp)]
    show (w.heap.push _)[w.heap.size]? = _
    simp
  simp only [World.cell?, e]
  exact h

set_option maxRecDepth 10000 in
set_option maxHeartbeats 1000000 in
theorem modExpHolds_any (vb vm v0 v1 v2 : Value) (B M K : Nat) (w : World) (hb : Sl w .u8 vb (digs B)) (hm : Sl w .u8 vm (digs M)) (h0 : Sl w .u8 v0 (digs (powF B 0 M))) (h1 : Sl w .u8 v1 (digs (powF B K M))) (h2 : Sl w .u8 v2 (digs (powF B (K + 1) M)))
    (rB : B < W64 ^ 8) (rM : M < W64 ^ 8) :
    Calls Sang.prog 19 #[vb, vm, .agg #[v0, v1, v2]] w fun e w' => e = .returned (.bool true) ∧ Fr w.heap.size no w w' := by
  have HR : Hid (B < W64 ^ 8 ∧ M < W64 ^ 8) := ⟨rB, rM⟩
  clear rB rM
  have Hb : Hid (Sl w .u8 vb (digs B)) := hb
  have Hm : Hid (Sl w .u8 vm (digs M)) := hm
  have H0 : Hid (Sl w .u8 v0 (digs (powF B 0 M))) := h0
  have H1 : Hid (Sl w .u8 v1 (digs (powF B K M))) := h1
  have H2 : Hid (Sl w .u8 v2 (digs (powF B (K + 1) M))) := h2
  obtain ⟨am, cm, rfl, gm1, gm2, gm3⟩ := hm
  obtain ⟨a0, c0, rfl, g01, g02, g03⟩ := h0
  obtain ⟨a1, c1, rfl, g11, g12, g13⟩ := h1
  obtain ⟨a2, c2, rfl, g21, g22, g23⟩ := h2
  clear hb gm3 g03 g13 g23 gm2 g02 g12 g22 gm1 g01 g11 g21
  by_cases hz : M = 0
  · subst hz
    have e0 : ∀ x, (digs (powF B x 0)).length = 0 := fun x => by rw [powF_none]; rfl
    have e1 : (digs 0).length = 0 := rfl
    rw [e0, e0, e0, e1]
    go_enter Sang.func19, Sang.ntmps19
    go_wp2_with fail
    go_ret
    exact ⟨rfl, (Fr.refl _ _ _).alloc (Nat.le_refl _) _⟩
  · have hz' : (((digs M).length : Int) == 0) = false := by
      have : (digs M).length ≠ 0 := by
        intro h
        have h2 := val_digs M
        rw [List.length_eq_zero_iff.1 h] at h2
        exact hz h2.symm
      simpa using this
    have HZ : Hid (M ≠ 0) := hz
    clear hz
    generalize (digs M).length = lm at *
    generalize (digs (powF B 0 M)).length = l0 at *
    generalize (digs (powF B K M)).length = l1 at *
    generalize (digs (powF B (K + 1) M)).length = l2 at *
    go_enter Sang.func19, Sang.ntmps19
    go_wp2_with fail
    have hw1 : Fr w.heap.size no w ((w.alloc (.cells #[.slice a0 l0 c0, .slice a1 l1 c1, .slice a2 l2 c2] 48)).alloc (.cells #[.int .u8 1] 5)) := ((Fr.refl _ _ _).alloc (Nat.le_refl _) _).alloc (by simp) _
    have hc0 := cell_new2 w #[.slice a0 l0 c0, .slice a1 l1 c1, .slice a2 l2 c2] 48 (.cells #[.int .u8 1] 5) 0 _ rfl
    have hc1 := cell_new2 w #[.slice a0 l0 c0, .slice a1 l1 c1, .slice a2 l2 c2] 48 (.cells #[.int .u8 1] 5) 1 _ rfl
    have hc2 := cell_new2 w #[.slice a0 l0 c0, .slice a1 l1 c1, .slice a2 l2 c2] 48 (.cells #[.int .u8 1] 5) 2 _ rfl
    have hI1 : IB ((w.alloc (.cells #[.slice a0 l0 c0, .slice a1 l1 c1, .slice a2 l2 c2] 48)).alloc (.cells #[.int .u8 1] 5)) (w.heap.size + 1) .u8 5 [1] := IB.newAt (by simp) rfl
    generalize (w.alloc (.cells #[.slice a0 l0 c0, .slice a1 l1 c1, .slice a2 l2 c2] 48)).alloc (.cells #[.int .u8 1] 5) = w1 at hw1 hc0 hc1 hc2 hI1 ⊢
    have hS1 : Sl w1 .u8 (.slice (some ⟨w.heap.size + 1, 0, none⟩) 1 1) (digs 1) := Sl.of_ib hI1 1 1 (by decide) (by decide) (by decide)
    refine (divMod_all _ _ 1 M w1 hS1 (Hm.out.fr hw1) (by decide) HR.out.2).mono ?_
    rintro e w2 ⟨vq, vr, ok, rfl, hvr, hf2⟩
    rw [← powF_zero B M] at hvr
    have hfw2 := hw1.step hf2 hw1.size (fun _ _ x => x)
    rw [← hf2.cell (cell_lt hc0) (fun x => x)] at hc0
    rw [← hf2.cell (cell_lt hc1) (fun x => x)] at hc1
    rw [← hf2.cell (cell_lt hc2) (fun x => x)] at hc2
    clear hw1 hI1 hS1 hf2
    go_wp2_with fail
    refine (mulN_any _ _ _ _ w2 (H1.out.fr hfw2) (Hb.out.fr hfw2) (powF_room _ _ _ HR.out.2) HR.out.1).mono ?_
    rintro e w3 ⟨v3, rfl, hv3, hf3⟩
    have hfw3 := hfw2.step hf3 hfw2.size (fun _ _ x => x)
    rw [← hf3.cell (cell_lt hc0) (fun x => x)] at hc0
    rw [← hf3.cell (cell_lt hc1) (fun x => x)] at hc1
    rw [← hf3.cell (cell_lt hc2) (fun x => x)] at hc2
    have hvr3 := hvr.fr hf3
    clear hf3 hvr hfw2
    go_wp2_with fail
    refine (divMod_all _ _ _ M w3 hv3 (Hm.out.fr hfw3) (prod_room (powF_room _ _ _ HR.out.2) HR.out.1) HR.out.2).mono ?_
    rintro e w4 ⟨vq4, vr4, ok4, rfl, hvr4, hf4⟩
    rw [powF_mul] at hvr4
    have hfw4 := hfw3.step hf4 hfw3.size (fun _ _ x => x)
    rw [← hf4.cell (cell_lt hc0) (fun x => x)] at hc0
    rw [← hf4.cell (cell_lt hc1) (fun x => x)] at hc1
    rw [← hf4.cell (cell_lt hc2) (fun x => x)] at hc2
    have hvr5 := hvr3.fr hf4
    clear hf4 hvr3 hfw3 hv3
    go_wp2_with fail
    refine (equalBytes_same _ _ _ w4 (H0.out.fr hfw4) hvr5).mono ?_
    rintro e w4 ⟨rfl, rfl⟩
    go_wp2_with fail
    have hcm := cmp_any _ _ _ _ w4 (H1.out.fr hfw4) (digs_dg _) (Hm.out.fr hfw4) (digs_dg _)
    rw [val_digs, val_digs, cmpZ_lt (powF_lt B K HZ.out)] at hcm
    refine hcm.mono ?_
    clear hcm
    rintro e w5 ⟨rfl, hf5⟩
    have hfw5 := hfw4.step hf5 hfw4.size (fun _ _ x => x)
    rw [← hf5.cell (cell_lt hc2) (fun x => x)] at hc2
    have hvr6 := hvr4.fr hf5
    clear hf5 hvr4 hfw4 hc0 hc1 hvr5
    go_wp2_with fail
    refine (equalBytes_same _ _ _ w5 (H2.out.fr hfw5) hvr6).mono ?_
    rintro e w5 ⟨rfl, rfl⟩
    go_wp2_with fail
    go_ret
    exact ⟨rfl, hfw5⟩
end Go.Proofs.Ygcsan
