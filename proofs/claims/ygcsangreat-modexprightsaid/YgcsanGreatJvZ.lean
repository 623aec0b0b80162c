/-
  law.ModExpRight: the head of its body; every input is one of the runs.
-/
import Derived.Test.YgcsanGreatJvW
import Derived.Test.YgcsanGreatJvQ
import Derived.WalkKit
import Derived.Below
namespace Go.Jv
open Go Go.Proofs Go.RowKit
open Go.Proofs.YgcsanGreat (Sl Dg mxIn mxIn_dg mxIn_length outN costN mx_len mx_cost limbs_length blen blen_small)
set_option linter.unusedVariables false
set_option linter.unusedSimpArgs false

/-- where an operation stands in the text -/
def posAt (c : Code) (i : Nat) : String := match c with
  | .region _ ops _ => match ops[i]? with
    | some o => o.pos
    | none => default
  | _ => default
def hd0 (fn : Func) : Code := seqL (bodyOf fn)
def hd1 (fn : Func) : Code := seqL (seqR (bodyOf fn))
def hd2 (fn : Func) : Code := seqL (seqR (seqR (bodyOf fn)))
def hd3 (fn : Func) : Code := seqL (seqR (seqR (seqR (bodyOf fn))))
theorem body3_eq : Sang.f3.body = some (.seq (hd0 Sang.f3) (.seq (hd1 Sang.f3) (.seq (hd2 Sang.f3) (.seq (hd3 Sang.f3) (tailOf Sang.f3))))) := by kernel_rfl
/-- the frame behind the head -/
def frame3 (a b c d e f t14 t15 t16 t17 t18 t19 : Value) : List Value := [a, b, c, d, e, f, undef, undef, undef, undef, undef, undef, .bool false, undef, t14, t15, t16, t17, t18, t19]
theorem frame3_eq (a b c d e f t14 t15 t16 t17 t18 t19 : Value) : (frame3 a b c d e f t14 t15 t16 t17 t18 t19).toArray ++ Array.replicate (42 - 20) undef =
    #[a, b, c, d, e, f, undef, undef, undef, undef, undef, undef, .bool false, undef, t14, t15, t16, t17, t18, t19, undef, undef, undef, undef, undef, undef, undef, undef, undef, undef, undef, undef, undef, undef, undef, undef, undef, undef, undef, undef, undef, undef] := by kernel_rfl
theorem begin3_eq (a b c d e f : Value) : #[a, b, c, d, e, f] ++ Array.replicate (42 - 6) undef = #[a, b, c, d, e, f, undef, undef, undef, undef, undef, undef, undef, undef, undef, undef, undef, undef, undef, undef, undef, undef, undef, undef, undef, undef, undef, undef, undef, undef, undef, undef, undef, undef, undef, undef, undef, undef, undef, undef, undef, undef] := by kernel_rfl
theorem hd0_eq : hd0 Sang.f3 = Code.region 0 #[⟨some 12, .assign (.const (.bool false)), 4, posAt (hd0 Sang.f3) 0, #[], none⟩] false := by kernel_rfl
theorem hd1_eq : hd1 Sang.f3 = Code.region 1 #[⟨some 14, .move (.tmp 0), 5, posAt (hd1 Sang.f3) 0, #[], none⟩, ⟨some 15, .binOp .rem 5 (.tmp 14) (.const (.int .u8 70)) 5, 5, posAt (hd1 Sang.f3) 1, #[⟨0, .data⟩], none⟩,
      ⟨some 0, .assign (.tmp 15), 5, posAt (hd1 Sang.f3) 2, #[⟨1, .data⟩, ⟨0, .phase⟩, ⟨1, .phase⟩], none⟩] false := by kernel_rfl
theorem hd2_eq : hd2 Sang.f3 = Code.region 2 #[⟨some 16, .move (.tmp 1), 5, posAt (hd2 Sang.f3) 0, #[], none⟩, ⟨some 17, .binOp .rem 5 (.tmp 16) (.const (.int .u8 70)) 5, 5, posAt (hd2 Sang.f3) 1, #[⟨0, .data⟩], none⟩,
      ⟨some 1, .assign (.tmp 17), 5, posAt (hd2 Sang.f3) 2, #[⟨1, .data⟩, ⟨0, .phase⟩, ⟨1, .phase⟩], none⟩] false := by kernel_rfl
theorem hd3_eq : hd3 Sang.f3 = Code.region 3 #[⟨some 18, .move (.tmp 2), 5, posAt (hd3 Sang.f3) 0, #[], none⟩, ⟨some 19, .binOp .rem 5 (.tmp 18) (.const (.int .u8 70)) 5, 5, posAt (hd3 Sang.f3) 1, #[⟨0, .data⟩], none⟩,
      ⟨some 2, .assign (.tmp 19), 5, posAt (hd3 Sang.f3) 2, #[⟨1, .data⟩, ⟨0, .phase⟩, ⟨1, .phase⟩], none⟩] false := by kernel_rfl

set_option maxRecDepth 10000 in
set_option maxHeartbeats 400000 in
theorem head3 (a b c d e f : Nat) (ha : a < 256) (hb : b < 256) (hc : c < 256) (X : Code) (Q : Exit → Act → World → Prop) (w : World)
    (hX : ∀ t14 t15 t16 t17 t18 t19, X.wp Sang.prog Q { tmps := (frame3 (.int .u8 ((a : Int) % 70)) (.int .u8 ((b : Int) % 70)) (.int .u8 ((c : Int) % 70)) (.int .u8 (d : Int)) (.int .u8 (e : Int)) (.int .u8 (f : Int)) t14 t15 t16 t17 t18 t19).toArray ++ Array.replicate (42 - 20) undef, defers := [] } w) :
    (Code.seq (hd0 Sang.f3) (.seq (hd1 Sang.f3) (.seq (hd2 Sang.f3) (.seq (hd3 Sang.f3) X)))).wp Sang.prog Q { tmps := #[.int .u8 (a : Int), .int .u8 (b : Int), .int .u8 (c : Int), .int .u8 (d : Int), .int .u8 (e : Int), .int .u8 (f : Int)] ++ Array.replicate (42 - 6) undef, defers := [] } w := by
  have e0 := hd0_eq
  have e1 := hd1_eq
  have e2 := hd2_eq
  have e3 := hd3_eq
  generalize posAt (hd0 Sang.f3) 0 = p0 at e0
  generalize posAt (hd1 Sang.f3) 0 = p1 at e1
  generalize posAt (hd1 Sang.f3) 1 = p2 at e1
  generalize posAt (hd1 Sang.f3) 2 = p3 at e1
  generalize posAt (hd2 Sang.f3) 0 = p4 at e2
  generalize posAt (hd2 Sang.f3) 1 = p5 at e2
  generalize posAt (hd2 Sang.f3) 2 = p6 at e2
  generalize posAt (hd3 Sang.f3) 0 = p7 at e3
  generalize posAt (hd3 Sang.f3) 1 = p8 at e3
  generalize posAt (hd3 Sang.f3) 2 = p9 at e3
  rw [e0, e1, e2, e3, begin3_eq]
  clear e0 e1 e2 e3
  simp only [frame3_eq] at hX
  have HX : Hid _ := hX
  clear hX
  go_wp2_with fail
  exact HX.out _ _ _ _ _ _

/-! ### the unknowns -/
def xsO (n y C L lb le lm b e m : Nat) : List Nat := [1, n, y, C, L, lb, le, lm, b, e, m, (21000 + 4 * n + 12 * y + C) / 5]
theorem xsO_okb {n y C L lb le lm b e m : Nat} (n1 : 96 ≤ n) (n2 : n ≤ 303) (y2 : y ≤ 303) (c1 : 200 ≤ C) (c2 : C ≤ 6000) (l1 : 1 ≤ L) (l2 : L ≤ 64) (b0 : lb < 70) (b1 : le < 70) (b2 : lm < 70) (b3 : b < 256) (b4 : e < 256) (b5 : m < 256) : okB (xsO n y C L lb le lm b e m) bnds := by
  simp only [xsO, bnds, okB]
  refine ⟨by omega, by omega, n1, n2, by omega, y2, c1, c2, l1, l2, ?_⟩
  refine ⟨?_, ?_, ?_, ?_, ?_, ?_, ?_, ?_, ?_, ?_, ?_, ?_, ?_, ?_, trivial⟩ <;> omega
theorem xsO_okq {n y C L lb le lm b e m : Nat} : okQ (xsO n y C L lb le lm b e m) quos := by
  simp only [xsO, quos, okQ, evL]
  refine ⟨⟨?_, by decide⟩, trivial⟩
  omega
theorem cost_bounds {lb le lm b e m : Nat} (h0 : lb ≤ 64) (h1 : le ≤ 64) (h2 : lm ≤ 64) (h4 : e < 256) : 200 ≤ costN 5 (mxIn lb le lm b e m) ∧ costN 5 (mxIn lb le lm b e m) ≤ 6000 := by
  rw [mx_cost]
  have hf : (max lb lm + 7) / 8 ≤ 8 := by omega
  have hff : (max lb lm + 7) / 8 * ((max lb lm + 7) / 8) ≤ 64 := Nat.mul_le_mul hf hf
  have hb : blen (if le = 0 then 0 else e) ≤ 8 := by
    split
    · exact blen_small (by decide)
    · exact blen_small h4
  have ht : max (if 32 < le then 8 * (le - 32) else blen (if le = 0 then 0 else e) - 1) 1 ≤ 256 := by
    split <;> omega
  have hm := Nat.mul_le_mul hff ht
  constructor
  · exact Nat.le_max_left _ _
  · generalize (max lb lm + 7) / 8 * ((max lb lm + 7) / 8) * max (if 32 < le then 8 * (le - 32) else blen (if le = 0 then 0 else e) - 1) 1 = X at hm
    omega
/-- refused; taken, no output; taken -/
def mode (lb le lm : Nat) : Nat := if lb ≤ 64 ∧ le ≤ 64 ∧ lm ≤ 64 then (if lm = 0 then 1 else 2) else 0
def costOr (lb le lm b e m : Nat) : Nat := if lb ≤ 64 ∧ le ≤ 64 ∧ lm ≤ 64 then costN 5 (mxIn lb le lm b e m) else 200
def lenOr (lb le lm : Nat) : Nat := if (lb ≤ 64 ∧ le ≤ 64 ∧ lm ≤ 64) ∧ lm ≠ 0 then lm else 1
theorem out_length (lb le lm b e m : Nat) : (outN (mxIn lb le lm b e m)).length = lm := by
  unfold outN
  rw [List.length_reverse, limbs_length, (mx_len lb le lm b e m).2.2]
def vaOf (lb le lm b e m : Nat) (b0 : lb < 70) (b1 : le < 70) (b2 : lm < 70) (b3 : b < 256) (b4 : e < 256) (b5 : m < 256) : Va where
  xs := xsO (mxIn lb le lm b e m).length ((mxIn lb le lm b e m).countP (fun x => x != 0)) (costOr lb le lm b e m) (lenOr lb le lm) lb le lm b e m
  data := mxIn lb le lm b e m
  out := outN (mxIn lb le lm b e m)
  md := mode lb le lm
  arg := undef
  old := fun _ => none
  okb := by
    have hl := mxIn_length lb le lm b e m
    have hy : (mxIn lb le lm b e m).countP (fun x => x != 0) ≤ (mxIn lb le lm b e m).length := List.countP_le_length
    have hc : 200 ≤ costOr lb le lm b e m ∧ costOr lb le lm b e m ≤ 6000 := by
      unfold costOr
      split
      · rename_i h; exact cost_bounds h.1 h.2.1 h.2.2 b4
      · omega
    have hL : 1 ≤ lenOr lb le lm ∧ lenOr lb le lm ≤ 64 := by
      unfold lenOr
      split
      · rename_i h; omega
      · omega
    exact xsO_okb (by omega) (by omega) (by omega) hc.1 hc.2 hL.1 hL.2 b0 b1 b2 b3 b4 b5
  okq := xsO_okq
  okl := by simp only [dataLen, xsO, evL]; omega
  oky := by simp only [xsO, evL]; omega
  okd := mxIn_dg lb le lm b e m (by omega) (by omega) (by omega) b3 b4 b5
section
variable {lb le lm b e m : Nat} {b0 : lb < 70} {b1 : le < 70} {b2 : lm < 70} {b3 : b < 256} {b4 : e < 256} {b5 : m < 256}
theorem vaOf_xs : (vaOf lb le lm b e m b0 b1 b2 b3 b4 b5).xs = xsO (mxIn lb le lm b e m).length ((mxIn lb le lm b e m).countP (fun x => x != 0)) (costOr lb le lm b e m) (lenOr lb le lm) lb le lm b e m := by simp only [vaOf]
theorem vaOf_out : (vaOf lb le lm b e m b0 b1 b2 b3 b4 b5).out = outN (mxIn lb le lm b e m) := by simp only [vaOf]
theorem vaOf_data : (vaOf lb le lm b e m b0 b1 b2 b3 b4 b5).data = mxIn lb le lm b e m := by simp only [vaOf]
theorem vaOf_md : (vaOf lb le lm b e m b0 b1 b2 b3 b4 b5).md = mode lb le lm := by simp only [vaOf]
end
theorem vaOf_mx (lb le lm b e m : Nat) (b0 : lb < 70) (b1 : le < 70) (b2 : lm < 70) (b3 : b < 256) (b4 : e < 256) (b5 : m < 256) : Mx (vaOf lb le lm b e m b0 b1 b2 b3 b4 b5) lb le lm b e m where
  ps := by
    rw [vaOf_xs]
    simp only [pars, List.map_cons, List.map_nil, xsO, evL, Int.zero_mul, Int.zero_add, Int.one_mul, Int.add_zero]
  b0 := b0
  b1 := b1
  b2 := b2
  b3 := b3
  b4 := b4
  b5 := b5
  data := vaOf_data
  out := by rw [vaOf_out, vaOf_data]
  no := by
    rw [vaOf_md]
    intro h
    unfold mode at h
    split at h
    · split at h <;> omega
    · assumption
  yes := by
    rw [vaOf_md, vaOf_xs, vaOf_data]
    intro h
    unfold mode at h
    split at h
    · rename_i hh
      refine ⟨hh, ?_⟩
      have hc : costOr lb le lm b e m = costN 5 (mxIn lb le lm b e m) := by unfold costOr; rw [if_pos hh]
      rw [hc]
      simp only [costE, xsO, evL]
      omega
    · omega
  one := by
    rw [vaOf_md, vaOf_out]
    intro h
    have h0 : lm = 0 := by
      unfold mode at h
      split at h
      · split at h <;> omega
      · omega
    exact List.eq_nil_of_length_eq_zero (by rw [out_length]; exact h0)
  two := by
    rw [vaOf_md, vaOf_xs, vaOf_out, out_length]
    intro h h'
    have hh : (lb ≤ 64 ∧ le ≤ 64 ∧ lm ≤ 64) ∧ lm ≠ 0 := by
      unfold mode at h h'
      split at h
      · rename_i g
        rw [if_pos g] at h'
        exact ⟨g, fun e => h' (if_pos e)⟩
      · omega
    have hL : lenOr lb le lm = lm := by unfold lenOr; rw [if_pos hh]
    refine ⟨?_, by omega⟩
    rw [hL]
    simp only [outE, xsO, evL]
    omega

/-! ### every input is one of the runs -/
theorem mixed : Sang.prog.follows .mixedOrders = true := by kernel_rfl
theorem ok3_some {r : Res} (h : ok3 r = true) : ∃ ex a h', r = some (ex, a, h') ∧ (ex = .normal ∨ ex = .ret) ∧ Ac.eval a (.tmp 12) = .bool true := by
  unfold ok3 at h
  split at h
  · exact ⟨_, _, _, rfl, .inl rfl, beqV_eq h⟩
  · exact ⟨_, _, _, rfl, .inr rfl, beqV_eq h⟩
  · cases h
theorem par_rel {σ : Va} {x : List Int} {n : Nat} (h : evL x σ.xs = (n : Nat)) (hn : n < 256) : VRel σ (fun _ => none) (tokV 0 x) (.int .u8 (n : Int)) := by
  refine .cell (.tok (.inl ⟨.u8, _, rfl, rfl, ?_⟩))
  rw [List.toList_toArray, decE_encE, h]
  exact ⟨by omega, by show ((n : Nat) : Int) ≤ (255 : Nat); omega, rfl⟩
theorem mode_lt (lb le lm : Nat) : mode lb le lm < 3 := by
  unfold mode
  split
  · split <;> omega
  · omega

theorem walk3 (hr : ∀ md, md < 3 → run3 Sang.prog Sang.f3 md = true) (k0 k1 k2 b e m : Nat) (h0 : k0 < 256) (h1 : k1 < 256) (h2 : k2 < 256) (b3 : b < 256) (b4 : e < 256) (b5 : m < 256) (w : World) :
    Calls Sang.prog 3 #[.int .u8 (k0 : Int), .int .u8 (k1 : Int), .int .u8 (k2 : Int), .int .u8 (b : Int), .int .u8 (e : Int), .int .u8 (m : Int)] w fun e w' => e = .returned (.bool true) ∧ Below w.heap.size w w' := by
  have e0 : ((k0 : Int) % 70) = ((k0 % 70 : Nat) : Int) := by omega
  have e1 : ((k1 : Int) % 70) = ((k1 % 70 : Nat) : Int) := by omega
  have e2 : ((k2 : Int) % 70) = ((k2 % 70 : Nat) : Int) := by omega
  have b0 : k0 % 70 < 70 := Nat.mod_lt _ (by decide)
  have b1 : k1 % 70 < 70 := Nat.mod_lt _ (by decide)
  have b2 : k2 % 70 < 70 := Nat.mod_lt _ (by decide)
  have hrun := hr (mode (k0 % 70) (k1 % 70) (k2 % 70)) (mode_lt _ _ _)
  generalize k0 % 70 = lb at *
  generalize k1 % 70 = le at *
  generalize k2 % 70 = lm at *
  have M := vaOf_mx lb le lm b e m b0 b1 b2 b3 b4 b5
  generalize hσ : vaOf lb le lm b e m b0 b1 b2 b3 b4 b5 = σ at M
  have hmd : σ.md = mode lb le lm := by rw [← hσ]; rfl
  have hold : σ.old = fun _ => none := by rw [← hσ]; rfl
  rw [← hmd] at hrun
  clear hσ hmd
  unfold run3 at hrun
  cases ht : fromList start3 0 .nil with
  | none => rw [ht] at hrun; simp [from3] at hrun
  | some t =>
    rw [ht] at hrun
    simp only [from3] at hrun
    obtain ⟨ex, a', h', he, hex, hval⟩ := ok3_some hrun
    obtain ⟨mm, hev⟩ := fCode_some _ _ _ _ _ he
    have hps := M.ps
    simp only [pars, List.map_cons, List.map_nil, List.cons.injEq, Value.int.injEq, true_and, and_true] at hps
    obtain ⟨p0, p1, p2, p3, p4, p5⟩ := hps
    refine calls_of_wp Sang.func3 body3_eq ?_
    refine head3 k0 k1 k2 b e m h0 h1 h2 (tailOf Sang.f3) _ w ?_
    intro t14 t15 t16 t17 t18 t19
    rw [e0, e1, e2]
    have hus : All2 (VRel σ fun _ => none) start3 (frame3 (.int .u8 (lb : Int)) (.int .u8 (le : Int)) (.int .u8 (lm : Int)) (.int .u8 (b : Int)) (.int .u8 (e : Int)) (.int .u8 (m : Int)) t14 t15 t16 t17 t18 t19) :=
      .cons (par_rel p0 (by omega)) (.cons (par_rel p1 (by omega)) (.cons (par_rel p2 (by omega)) (.cons (par_rel p3 b3) (.cons (par_rel p4 b4) (.cons (par_rel p5 b5) (.cons .undef (.cons .undef (.cons .undef (.cons .undef (.cons .undef (.cons .undef
        (.cons (.cell (.bool _)) (.cons .undef (.cons (.top _) (.cons (.top _) (.cons (.top _) (.cons (.top _) (.cons (.top _) (.cons (.top _) .nil)))))))))))))))))))
    refine evCode_wp (fCall_ok (fun n0 => orcOk σ M n0) mixed 60) mixed mm (tailOf Sang.f3) t ⟨0, .nil⟩ _ _ w ex a' h' hev (HRel.first (n0 := 0) (fun b o e => by rw [hold] at e; cases e)) (ARel.start (N := 42) (by simp [start3]) hus ht) _ ?_
    rintro act' w' ⟨κ, K1, K2, K3⟩
    have hb : act'.tmps.getD 12 undef = .bool true := by
      have := K2.eval (.tmp 12)
      rw [hval] at this
      exact this.bool
    have hres : (results Sang.f3 act'.tmps).run Sang.prog w' = .ok (.bool true) w' := by
      have e : Sang.f3.results = #[.tmp 12] := by kernel_rfl
      rw [results_eq, e]
      simp [resOne]
      simpa using hb
    have hbel : Below w.heap.size w w' := ⟨K3.os, K3.tape, K3.output, K3.size, fun b hb => K3.frame b hb (fun k p z e => by cases e)⟩
    rcases hex with rfl | rfl
    · exact ⟨K2.defers, _, hres, rfl, hbel⟩
    · exact ⟨K2.defers, _, hres, rfl, hbel⟩
end Go.Jv
