/-
  The output of a precompiled contract, in plain numbers; package mach: NativeRun.
-/
import Derived.Test.YgcsanMachE
import Derived.Test.YgcsanRec
namespace Go.Proofs.Ygcsan
open Go.RowKit
set_option linter.unusedSimpArgs false
set_option linter.unusedVariables false

theorem und24u : Sang.prog.underlying 24 = some (.int .u64) := by kernel_rfl

theorem wl_index_v {P : Program} {ops : Array Oper} {rest : List Oper} {Q : Exit → Act → World → Prop} {a : Act} {w : World} {dst : Option Tmp} {type : TypeId} {pos : String} {after : Array Edge}
    (ty e : TypeId) (x y : Operand) (k ki : IntKind) (L : List Nat) (n N g : Nat) (hx : a.eval x = .agg (ints k L)) (hy : a.eval y = .int ki (n : Int)) (hn : n < L.length) (hN : n < N) (hg : L.getD n 0 = g)
    (d : TypeDesc) (i : TypeInfo) (h1 : P.underlying ty = some (.array N e)) (h2 : P.info? e = some i) (h4 : i.size = 1) (h3 : P.underlying e = some d) (hagg : rowish d = false)
    (hK : wpList P ops Q rest (a.put dst (.int k (g : Int))) w) : wpList P ops Q (⟨dst, .index ty x y, type, pos, after, none⟩ :: rest) a w := by
  subst hg
  exact wl_index ty e x y k ki L n N hx hy hn hN d i h1 h2 h4 h3 hagg hK

theorem limbs_append (B : Nat) : ∀ (a b n : Nat), limbs B (a + b) n = limbs B a n ++ limbs B b (n / B ^ a)
  | 0, b, n => by simp [limbs]
  | a + 1, b, n => by
    rw [show a + 1 + b = (a + b) + 1 by omega, limbs, limbs, limbs_append B a b (n / B), List.cons_append, Nat.div_div_eq_div_mul, Nat.pow_succ, Nat.mul_comm]

theorem limbs_mod (B k n : Nat) (hB : 0 < B) : limbs B k (n % B ^ k) = limbs B k n :=
  (eq_limbs (limbs_dg hB k n) k _ (limbs_length _ _ _) (val_limbs _ _ _)).symm

theorem limbs_room {B k n m : Nat} (hB : 0 < B) (h : k ≤ m) : (limbs B m n).take k = limbs B k n := by
  obtain ⟨d, rfl⟩ : ∃ d, m = k + d := ⟨m - k, by omega⟩
  rw [limbs_append, List.take_left' (limbs_length _ _ _)]

/-- the bytes out so far -/
def outP (P i : Nat) : List Nat := List.replicate (64 - 8 * i) 0 ++ (limbs 256 (8 * i) P).reverse

theorem outP_length (P i : Nat) (h : i ≤ 8) : (outP P i).length = 64 := by simp [outP, limbs_length]; omega
theorem outP_zero (P : Nat) : outP P 0 = List.replicate 64 0 := by simp [outP, limbs]
theorem outP_step (P i : Nat) (h : i < 8) : lay (outP P i) (56 - 8 * i) (limbs 256 8 ((limbs W64 8 P).getD i 0)).reverse = outP P (i + 1) := by
  rw [limbs_get W64 8 P i h, show W64 = 256 ^ 8 from rfl, limbs_mod 256 8 _ (by decide), lay_eq _ _ _ (by rw [outP_length P i (by omega), List.length_reverse, limbs_length]; omega)]
  rw [List.length_reverse, limbs_length]
  unfold outP
  rw [show 8 * (i + 1) = 8 * i + 8 by omega, limbs_append, List.reverse_append, ← Nat.pow_mul]
  have e1 : (List.replicate (64 - 8 * i) 0 ++ (limbs 256 (8 * i) P).reverse).take (56 - 8 * i) = List.replicate (64 - (8 * i + 8)) 0 := by
    rw [List.take_append_of_le_length (by simp; omega), List.take_replicate]
    congr 1
    omega
  have e2 : (List.replicate (64 - 8 * i) 0 ++ (limbs 256 (8 * i) P).reverse).drop (56 - 8 * i + 8) = (limbs 256 (8 * i) P).reverse := by
    rw [show 56 - 8 * i + 8 = 64 - 8 * i by omega, List.drop_left' (by simp)]
  rw [e1, e2]
theorem outP_all (P m : Nat) (h : m ≤ 64) : (outP P 8).drop (64 - m) = (limbs 256 m P).reverse := by
  unfold outP
  rw [show 8 * 8 = 64 from rfl, show 64 - 64 = 0 from rfl, List.replicate_zero, List.nil_append, List.drop_reverse, limbs_length, show 64 - (64 - m) = m by omega, limbs_room (by decide) h]

theorem Sl.of_ib_from {w : World} {b : Nat} {k : IntKind} {t : TypeId} {L : List Nat} (h : IB w b k t L) (o n cap : Nat) (hn : o + n ≤ L.length) (hnc : n ≤ cap) (hc : cap ≤ maxLen) :
    Sl w k (.slice (some ⟨b, o, none⟩) n cap) ((L.drop o).take n) := by
  have e : ((L.drop o).take n).length = n := by simp; omega
  refine ⟨some ⟨b, o, none⟩, cap, by rw [e], by omega, hc, .inr ⟨b, o, rfl, fun i hi => ?_⟩⟩
  rw [e] at hi
  rw [h.cell (o + i) (by omega)]
  simp [List.getD, List.getElem?_take, hi]

/-- the operands and the power -/
def baseN (I : List Nat) : Nat := be (partB I 96 (lenI I 0))
def expoN (I : List Nat) : Nat := be (partB I (96 + lenI I 0) (lenI I 1))
def modN (I : List Nat) : Nat := be (partB I (96 + lenI I 0 + lenI I 1) (lenI I 2))
/-- the output of the modular exponentiation -/
def outN (I : List Nat) : List Nat := (limbs 256 (lenI I 2) (powF (baseN I) (expoN I) (modN I))).reverse

theorem operand_room {I : List Nat} (h : Dg 256 I) (off n : Nat) (hn : n ≤ 64) : be (partB I off n) < W64 ^ 8 := by
  have := be_lt (partB_dg h off n)
  rw [partB_length] at this
  exact Nat.lt_of_lt_of_le this (Nat.pow_le_pow_right (by decide) hn)

set_option maxRecDepth 10000 in
set_option maxHeartbeats 400000 in
theorem mRun_id (v : Value) (I : List Nat) (w : World) (h : Sl w .u8 v I) (sI : I.length ≤ 16777216) :
    Calls Sang.prog 23 #[.int .u8 4, v] w fun e w' => ∃ v', e = .returned v' ∧ Sl w' .u8 v' I ∧ Fr w.heap.size no w w' := by
  go_enter Sang.func23, Sang.ntmps23
  go_wp2_with fail
  refine (copied_any v I _ h sI).mono ?_
  rintro e w1 ⟨v', rfl, hv, hf⟩
  go_wp2_with fail
  go_ret
  exact ⟨_, rfl, hv, hf⟩

set_option maxRecDepth 10000 in
set_option maxHeartbeats 400000 in
theorem mRun_other (kind : Nat) (v : Value) (I : List Nat) (w : World) (h : Sl w .u8 v I) (hd : Dg 256 I) (sI : I.length ≤ 16777216) (hk4 : kind ≠ 4) (hk5 : kind ≠ 5) :
    Calls Sang.prog 23 #[.int .u8 (kind : Int), v] w fun e w' => ∃ v', e = .returned v' ∧ Sl w' .u8 v' [] ∧ Fr w.heap.size no w w' := by
  have h4 : ((kind : Int) == 4) = false := by simp; omega
  have h5 : ((kind : Int) == 5) = false := by simp; omega
  have h5n : ((kind : Int) != 5) = true := by simp; omega
  have h5d : decide ((kind : Int) = 5) = false := by simp; omega
  clear hk4 hk5
  have hlen := mLengths_any v I w h hd sI
  go_enter Sang.func23, Sang.ntmps23
  go_wp2_with fail
  refine hlen.mono ?_
  clear hlen
  rintro e w1 ⟨hcase | hcase, hf1⟩
  · obtain ⟨hok, rfl⟩ := hcase
    clear hok
    go_wp2_with fail
    go_ret
    exact ⟨_, rfl, Sl.nil _ _, hf1⟩
  · obtain ⟨hno, rfl⟩ := hcase
    clear hno
    go_wp2_with fail
    go_ret
    exact ⟨_, rfl, Sl.nil _ _, hf1⟩

set_option maxRecDepth 10000 in
set_option maxHeartbeats 600000 in
theorem mRun_pow (v : Value) (I : List Nat) (w : World) (h : Sl w .u8 v I) (hd : Dg 256 I) (sI : I.length ≤ 16777216) :
    Calls Sang.prog 23 #[.int .u8 5, v] w fun e w' => ∃ v', e = .returned v' ∧ (lenOk I → Sl w' .u8 v' (outN I)) ∧ Fr w.heap.size no w w' := by
  have HS : Hid (Sl w .u8 v I) := h
  have HD : Hid (Dg 256 I) := hd
  have hlen := mLengths_any v I w h hd sI
  clear h hd
  have hs26 : (Sang.prog.info? 26).map (·.size) = some (List.replicate 8 0).length := siz26
  have hl8 : ∀ n, (limbs W64 8 n).length = (List.replicate 8 0).length := fun n => by rw [limbs_length]; rfl
  go_enter Sang.func23, Sang.ntmps23
  go_wp2_with fail
  refine hlen.mono ?_
  clear hlen
  rintro e w1 ⟨hcase | hcase, hf1⟩
  · obtain ⟨hok, rfl⟩ := hcase
    have HB0 : Hid (lenI I 0 ≤ 64) := hok 0 (by omega)
    have HB1 : Hid (lenI I 1 ≤ 64) := hok 1 (by omega)
    have HB2 : Hid (lenI I 2 ≤ 64) := hok 2 (by omega)
    have HOut : Hid (∀ _ : Unit, outN I = (limbs 256 (lenI I 2) (powF (baseN I) (expoN I) (modN I))).reverse) := fun _ => rfl
    have HBa : Hid (∀ _ : Unit, baseN I = be (partB I 96 (lenI I 0))) := fun _ => rfl
    have HEx : Hid (∀ _ : Unit, expoN I = be (partB I (96 + lenI I 0) (lenI I 1))) := fun _ => rfl
    have HMo : Hid (∀ _ : Unit, modN I = be (partB I (96 + lenI I 0 + lenI I 1) (lenI I 2))) := fun _ => rfl
    clear hok
    generalize lenI I 0 = nb at *
    generalize lenI I 1 = ne at *
    generalize lenI I 2 = nm at *
    have hb0 : (nb : Int) ≤ 64 := by have := HB0.out; omega
    have he0 : (ne : Int) ≤ 64 := by have := HB1.out; omega
    have hm0 : (nm : Int) ≤ 64 := by have := HB2.out; omega
    by_cases hz : nm = 0
    · have hz' : ((nm : Int) == 0) = true := by simpa using hz
      have HZ : Hid (∀ _ : Unit, outN I = []) := fun _ => by rw [HOut.out (), hz]; rfl
      clear hz
      go_wp2_with fail
      go_ret
      exact ⟨_, rfl, fun _ => by rw [HZ.out ()]; exact Sl.nil _ _, hf1⟩
    have hz' : ((nm : Int) == 0) = false := by simpa using hz
    have hzp : (0 : Int) < (nm : Int) := by omega
    clear hz
    obtain ⟨q1, HQ1⟩ : ∃ q : Nat, Hid (∀ _ : Unit, q = 96 + nb) := ⟨_, fun _ => rfl⟩
    have eQ1 : (96 : Int) + (nb : Int) = (q1 : Int) := by rw [HQ1.out ()]; omega
    have hQ1 : (q1 : Int) ≤ 160 := by rw [HQ1.out ()]; omega
    obtain ⟨q2, HQ2⟩ : ∃ q : Nat, Hid (∀ _ : Unit, q = 96 + nb + ne) := ⟨_, fun _ => rfl⟩
    have eQ2 : (q1 : Int) + (ne : Int) = (q2 : Int) := by rw [HQ2.out (), HQ1.out ()]; omega
    have hQ2 : (q2 : Int) ≤ 224 := by rw [HQ2.out ()]; omega
    have HrB : Hid (baseN I < W64 ^ 8) := by unfold Hid; rw [HBa.out ()]; exact operand_room HD.out _ _ HB0.out
    have HrE : Hid (expoN I < W64 ^ 8) := by unfold Hid; rw [HEx.out ()]; exact operand_room HD.out _ _ HB1.out
    have HrM : Hid (modN I < W64 ^ 8) := by unfold Hid; rw [HMo.out ()]; exact operand_room HD.out _ _ HB2.out
    have HOB : Hid (∀ w', Sl w' .u8 v I → Calls Sang.prog 54 #[v, .int .i64 96, .int .i64 (nb : Int)] w' fun e w'' => e = .returned (.agg (ints .u64 (limbs W64 8 (baseN I)))) ∧ Fr w'.heap.size no w' w'') := fun w' h => by
      have := operand_any v I 96 nb w' h HD.out sI (by omega) HB0.out
      rw [← HBa.out ()] at this
      exact this
    have HOE : Hid (∀ w', Sl w' .u8 v I → Calls Sang.prog 54 #[v, .int .i64 (q1 : Int), .int .i64 (ne : Int)] w' fun e w'' => e = .returned (.agg (ints .u64 (limbs W64 8 (expoN I)))) ∧ Fr w'.heap.size no w' w'') := fun w' h => by
      have := operand_any v I q1 ne w' h HD.out sI (by omega) HB1.out
      rw [HQ1.out (), ← HEx.out ()] at this
      rw [HQ1.out ()]
      exact this
    have HOM : Hid (∀ w', Sl w' .u8 v I → Calls Sang.prog 54 #[v, .int .i64 (q2 : Int), .int .i64 (nm : Int)] w' fun e w'' => e = .returned (.agg (ints .u64 (limbs W64 8 (modN I)))) ∧ Fr w'.heap.size no w' w'') := fun w' h => by
      have := operand_any v I q2 nm w' h HD.out sI (by omega) HB2.out
      rw [HQ2.out (), ← HMo.out ()] at this
      rw [HQ2.out ()]
      exact this
    clear HBa HEx HMo HQ1 HQ2
    generalize baseN I = B at *
    generalize expoN I = E at *
    generalize modN I = M at *
    go_wp2_with fail
    refine (HOB.out w1 (HS.out.fr hf1)).mono ?_
    rintro e wa1 ⟨rfl, hfa⟩
    replace hf1 := hf1.step hfa hf1.size (fun _ _ x => x)
    clear hfa
    go_wp2_with ((with_reducible refine wl_store_new wa1 #[.int .u64 0, .int .u64 0, .int .u64 0, .int .u64 0, .int .u64 0, .int .u64 0, .int .u64 0, .int .u64 0] 26 (.tmp 9) (.tmp 39) wa1.heap.size .u64 26 (List.replicate 8 0) (limbs W64 8 B) ?_ ?_ rfl ?_ (hl8 _) hs26 ?_); rfl; rfl; rfl)
    have hxB := IB.new wa1 .u64 26 (limbs W64 8 B)
    have hf2 : Fr w.heap.size no w (wa1.alloc (.cells (ints .u64 (limbs W64 8 B)) 26)) := hf1.alloc hf1.size _
    clear hf1
    generalize wa1.alloc (.cells (ints .u64 (limbs W64 8 B)) 26) = w2 at hxB hf2  ⊢
    generalize wa1.heap.size = xb at hxB ⊢
    refine (HOE.out w2 (HS.out.fr hf2)).mono ?_
    rintro e wa2 ⟨rfl, hfa⟩
    replace hxB := hxB.fr hfa hxB.lt (fun x => x)
    replace hf2 := hf2.step hfa hf2.size (fun _ _ x => x)
    clear hfa
    go_wp2_with ((with_reducible refine wl_store_new wa2 #[.int .u64 0, .int .u64 0, .int .u64 0, .int .u64 0, .int .u64 0, .int .u64 0, .int .u64 0, .int .u64 0] 26 (.tmp 10) (.tmp 44) wa2.heap.size .u64 26 (List.replicate 8 0) (limbs W64 8 E) ?_ ?_ rfl ?_ (hl8 _) hs26 ?_); rfl; rfl; rfl)
    have hxE := IB.new wa2 .u64 26 (limbs W64 8 E)
    have hf3 : Fr w.heap.size no w (wa2.alloc (.cells (ints .u64 (limbs W64 8 E)) 26)) := hf2.alloc hf2.size _
    replace hxB := hxB.alloc (.cells (ints .u64 (limbs W64 8 E)) 26)
    clear hf2
    generalize wa2.alloc (.cells (ints .u64 (limbs W64 8 E)) 26) = w3 at hxE hf3 hxB ⊢
    generalize wa2.heap.size = xe at hxE ⊢
    refine (HOM.out w3 (HS.out.fr hf3)).mono ?_
    rintro e wa3 ⟨rfl, hfa⟩
    replace hxB := hxB.fr hfa hxB.lt (fun x => x)
    replace hxE := hxE.fr hfa hxE.lt (fun x => x)
    replace hf3 := hf3.step hfa hf3.size (fun _ _ x => x)
    clear hfa
    go_wp2_with ((with_reducible refine wl_store_new wa3 #[.int .u64 0, .int .u64 0, .int .u64 0, .int .u64 0, .int .u64 0, .int .u64 0, .int .u64 0, .int .u64 0] 26 (.tmp 11) (.tmp 51) wa3.heap.size .u64 26 (List.replicate 8 0) (limbs W64 8 M) ?_ ?_ rfl ?_ (hl8 _) hs26 ?_); rfl; rfl; rfl)
    have hxM := IB.new wa3 .u64 26 (limbs W64 8 M)
    have hf4 : Fr w.heap.size no w (wa3.alloc (.cells (ints .u64 (limbs W64 8 M)) 26)) := hf3.alloc hf3.size _
    replace hxB := hxB.alloc (.cells (ints .u64 (limbs W64 8 M)) 26)
    replace hxE := hxE.alloc (.cells (ints .u64 (limbs W64 8 M)) 26)
    clear hf3
    generalize wa3.alloc (.cells (ints .u64 (limbs W64 8 M)) 26) = w4 at hxM hf4 hxB hxE ⊢
    generalize wa3.heap.size = xm at hxM ⊢
    refine (uPowN xb xe xm B E M w4 hxB hxE hxM HrB.out HrE.out HrM.out).mono ?_
    rintro e w5 ⟨rfl, hf5⟩
    replace hf4 := hf4.step hf5 hf4.size (fun _ _ x => x)
    clear hf5 hxB hxE hxM HOB HOE HOM
    have HPr : Hid (∀ _ : Unit, outN I = (limbs 256 nm (powF B E M)).reverse) := HOut
    clear HOut
    generalize powF B E M = PP at *
    have hPl : (limbs W64 8 PP).length = 8 := limbs_length _ _ _
    have HPd : Hid (Dg W64 (limbs W64 8 PP)) := limbs_dg W64_pos _ _
    have HSt : Hid (∀ i, i < 8 → lay (outP PP i) (56 - 8 * i) (limbs 256 8 ((limbs W64 8 PP).getD i 0)).reverse = outP PP (i + 1)) := fun i hi => outP_step PP i hi
    have hpl8 := hl8 PP
    generalize limbs W64 8 PP = G at *
    have hsG : (Sang.prog.info? 26).map (·.size) = some G.length := by rw [hPl]; exact siz26
    have hld : IB ((w5.alloc (.cells (ints .u64 G) 26)).alloc (.cells #[.int .u8 0, .int .u8 0, .int .u8 0, .int .u8 0, .int .u8 0, .int .u8 0, .int .u8 0, .int .u8 0, .int .u8 0, .int .u8 0, .int .u8 0, .int .u8 0, .int .u8 0, .int .u8 0, .int .u8 0, .int .u8 0, .int .u8 0, .int .u8 0, .int .u8 0, .int .u8 0, .int .u8 0, .int .u8 0, .int .u8 0, .int .u8 0, .int .u8 0, .int .u8 0, .int .u8 0, .int .u8 0, .int .u8 0, .int .u8 0, .int .u8 0, .int .u8 0, .int .u8 0, .int .u8 0, .int .u8 0, .int .u8 0, .int .u8 0, .int .u8 0, .int .u8 0, .int .u8 0, .int .u8 0, .int .u8 0, .int .u8 0, .int .u8 0, .int .u8 0, .int .u8 0, .int .u8 0, .int .u8 0, .int .u8 0, .int .u8 0, .int .u8 0, .int .u8 0, .int .u8 0, .int .u8 0, .int .u8 0, .int .u8 0, .int .u8 0, .int .u8 0, .int .u8 0, .int .u8 0, .int .u8 0, .int .u8 0, .int .u8 0, .int .u8 0] 22)) w5.heap.size .u64 26 G := (IB.new w5 .u64 26 G).alloc _
    go_wp2_with (first
      | ((with_reducible refine wl_store_new w5 #[.int .u64 0, .int .u64 0, .int .u64 0, .int .u64 0, .int .u64 0, .int .u64 0, .int .u64 0, .int .u64 0] 26 (.tmp 12) (.tmp 52) w5.heap.size .u64 26 (List.replicate 8 0) G ?_ ?_ rfl ?_ hpl8 hs26 ?_); rfl; rfl; rfl)
      | ((with_reducible refine wl_load 26 (.tmp 12) w5.heap.size .u64 26 G ?_ hld (.array 8 24) und26 ?_ hsG ?_); rfl; rfl))
    have hO : IB ((w5.alloc (.cells (ints .u64 G) 26)).alloc (.cells #[.int .u8 0, .int .u8 0, .int .u8 0, .int .u8 0, .int .u8 0, .int .u8 0, .int .u8 0, .int .u8 0, .int .u8 0, .int .u8 0, .int .u8 0, .int .u8 0, .int .u8 0, .int .u8 0, .int .u8 0, .int .u8 0, .int .u8 0, .int .u8 0, .int .u8 0, .int .u8 0, .int .u8 0, .int .u8 0, .int .u8 0, .int .u8 0, .int .u8 0, .int .u8 0, .int .u8 0, .int .u8 0, .int .u8 0, .int .u8 0, .int .u8 0, .int .u8 0, .int .u8 0, .int .u8 0, .int .u8 0, .int .u8 0, .int .u8 0, .int .u8 0, .int .u8 0, .int .u8 0, .int .u8 0, .int .u8 0, .int .u8 0, .int .u8 0, .int .u8 0, .int .u8 0, .int .u8 0, .int .u8 0, .int .u8 0, .int .u8 0, .int .u8 0, .int .u8 0, .int .u8 0, .int .u8 0, .int .u8 0, .int .u8 0, .int .u8 0, .int .u8 0, .int .u8 0, .int .u8 0, .int .u8 0, .int .u8 0, .int .u8 0, .int .u8 0] 22)) (w5.heap.size + 1) .u8 22 (outP PP 0) := by
      rw [outP_zero]
      exact IB.newAt (by simp) rfl
    have hfO : Fr w.heap.size no w ((w5.alloc (.cells (ints .u64 G) 26)).alloc (.cells #[.int .u8 0, .int .u8 0, .int .u8 0, .int .u8 0, .int .u8 0, .int .u8 0, .int .u8 0, .int .u8 0, .int .u8 0, .int .u8 0, .int .u8 0, .int .u8 0, .int .u8 0, .int .u8 0, .int .u8 0, .int .u8 0, .int .u8 0, .int .u8 0, .int .u8 0, .int .u8 0, .int .u8 0, .int .u8 0, .int .u8 0, .int .u8 0, .int .u8 0, .int .u8 0, .int .u8 0, .int .u8 0, .int .u8 0, .int .u8 0, .int .u8 0, .int .u8 0, .int .u8 0, .int .u8 0, .int .u8 0, .int .u8 0, .int .u8 0, .int .u8 0, .int .u8 0, .int .u8 0, .int .u8 0, .int .u8 0, .int .u8 0, .int .u8 0, .int .u8 0, .int .u8 0, .int .u8 0, .int .u8 0, .int .u8 0, .int .u8 0, .int .u8 0, .int .u8 0, .int .u8 0, .int .u8 0, .int .u8 0, .int .u8 0, .int .u8 0, .int .u8 0, .int .u8 0, .int .u8 0, .int .u8 0, .int .u8 0, .int .u8 0, .int .u8 0] 22)) := (hf4.alloc hf4.size _).alloc (by have := hf4.size; simp; omega) _
    have hUo : w.heap.size ≤ w5.heap.size + 1 := by have := hf4.size; omega
    clear hld hf4
    generalize (w5.alloc (.cells (ints .u64 G) 26)).alloc (.cells #[.int .u8 0, .int .u8 0, .int .u8 0, .int .u8 0, .int .u8 0, .int .u8 0, .int .u8 0, .int .u8 0, .int .u8 0, .int .u8 0, .int .u8 0, .int .u8 0, .int .u8 0, .int .u8 0, .int .u8 0, .int .u8 0, .int .u8 0, .int .u8 0, .int .u8 0, .int .u8 0, .int .u8 0, .int .u8 0, .int .u8 0, .int .u8 0, .int .u8 0, .int .u8 0, .int .u8 0, .int .u8 0, .int .u8 0, .int .u8 0, .int .u8 0, .int .u8 0, .int .u8 0, .int .u8 0, .int .u8 0, .int .u8 0, .int .u8 0, .int .u8 0, .int .u8 0, .int .u8 0, .int .u8 0, .int .u8 0, .int .u8 0, .int .u8 0, .int .u8 0, .int .u8 0, .int .u8 0, .int .u8 0, .int .u8 0, .int .u8 0, .int .u8 0, .int .u8 0, .int .u8 0, .int .u8 0, .int .u8 0, .int .u8 0, .int .u8 0, .int .u8 0, .int .u8 0, .int .u8 0, .int .u8 0, .int .u8 0, .int .u8 0, .int .u8 0] 22) = w6 at hO hfO ⊢
    generalize w5.heap.size + 1 = ob at hO hUo ⊢
    obtain ⟨i24, hi24, hs24⟩ := Option.map_eq_some_iff.1 siz24
    go_loopw [54] (fun iv wr => ∃ i : Nat, i ≤ 8 ∧ iv = .int .i64 (i : Int) ∧ IB wr ob .u8 22 (outP PP i) ∧ Fr w.heap.size no w wr) (fun i _ => 8 - (intOf i).toNat)
    case atStart => exact ⟨0, by omega, rfl, hO, hfO⟩
    case round =>
      obtain ⟨i, hi, rfl, hOi, hf⟩ := hrel
      clear hO hfO
      by_cases hin : i < 8
      · have hin' : (i : Int) < 8 := by omega
        obtain ⟨q, HQ⟩ : ∃ q : Nat, Hid (∀ _ : Unit, q = 56 - 8 * i) := ⟨_, fun _ => rfl⟩
        have eq1 : (56 : Int) - 8 * (i : Int) = (q : Int) := by rw [HQ.out ()]; omega
        have HQS : Hid (q + 8 ≤ 64) := by unfold Hid; rw [HQ.out ()]; omega
        have hiG : i < G.length := by omega
        have HSi : Hid (∀ _ : Unit, lay (outP PP i) q (limbs 256 8 (G.getD i 0)).reverse = outP PP (i + 1)) := fun _ => by rw [HQ.out ()]; exact HSt.out i hin
        have HGl : Hid (G.getD i 0 < W64) := HPd.out.getD W64_pos _
        obtain ⟨g, HGv⟩ : ∃ g : Nat, Hid (∀ _ : Unit, G.getD i 0 = g) := ⟨_, fun _ => rfl⟩
        rw [HGv.out ()] at HSi HGl
        have HLo : Hid (∀ _ : Unit, (outP PP i).length = 64) := fun _ => outP_length _ _ hi
        generalize outP PP i = OL at *
        go_wp2_with ((with_reducible refine wl_index_v 26 24 (.tmp 53) (.tmp 54) .u64 .i64 G i 8 g ?_ ?_ hiG hin (HGv.out ()) (.int .u64) i24 und26 hi24 hs24 und24u ?_ ?_); rfl; rfl; rfl)
        refine (putBE_any ob 22 64 q g OL wr hOi (HLo.out ()) (by omega) HQS.out HGl.out).mono ?_
        rintro e w7 ⟨rfl, hO7, hw7⟩
        rw [HSi.out ()] at hO7 hw7
        have hf7 : Fr w.heap.size no w w7 := by rw [hw7]; exact hf.setRow (.inl hUo) _ _ _
        clear hw7
        go_wp2_with fail
        exact ⟨⟨i + 1, by omega, by go_num, hO7, hf7⟩, by simp [intOf]; omega⟩
      · have : i = 8 := by omega
        subst this
        obtain ⟨r, HRr⟩ : ∃ r : Nat, Hid (∀ _ : Unit, r = 64 - nm) := ⟨_, fun _ => rfl⟩
        have eR : (64 : Int) - (nm : Int) = (r : Int) := by rw [HRr.out ()]; omega
        have hr1 : (r : Int) ≤ 64 := by omega
        have hr2 : 64 - r = nm := by rw [HRr.out ()]; omega
        have hr3 : (64 : Nat) ≠ r := by rw [HRr.out ()]; omega
        have hS := Sl.of_ib_from hOi r nm nm (by rw [outP_length _ _ (by omega), HRr.out ()]; omega) (Nat.le_refl _) (by unfold maxLen; omega)
        have eS : ((outP PP 8).drop r).take nm = outN I := by
          rw [HPr.out (), HRr.out (), outP_all _ _ HB2.out, List.take_of_length_le (by rw [List.length_reverse, limbs_length]; omega)]
        rw [eS] at hS
        have HlO : Hid ((outN I).length ≤ 16777216) := by unfold Hid; rw [HPr.out (), List.length_reverse, limbs_length]; omega
        clear eS
        go_wp2_with fail
        refine (copied_any _ _ wr hS HlO.out).mono ?_
        rintro e w7 ⟨v', rfl, hv, hf7⟩
        go_wp2_with fail
        go_ret
        exact ⟨_, rfl, fun _ => hv, hf.step hf7 hf.size (fun _ _ x => x)⟩
  · obtain ⟨hno, rfl⟩ := hcase
    have HNo : Hid (¬ lenOk I) := hno
    clear hno
    go_wp2_with fail
    go_ret
    exact ⟨_, rfl, fun h => absurd h HNo.out, hf1⟩
end Go.Proofs.Ygcsan
