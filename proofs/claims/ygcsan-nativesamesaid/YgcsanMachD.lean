/-
  Package num: PutBE64; package mach: operand.
-/
import Derived.Test.YgcsanMachC
namespace Go.Proofs.Ygcsan
open Go.RowKit
set_option linter.unusedSimpArgs false
set_option linter.unusedVariables false

theorem setRow_setRow (w : World) (b : Nat) (k : IntKind) (t : TypeId) (L M : List Nat) : setRow (setRow w b k t L) b k t M = setRow w b k t M := by
  simp [setRow]

section
variable {P : Program} {ops : Array Oper} {rest : List Oper} {Q : Exit → Act → World → Prop} {a : Act} {w : World} {dst : Option Tmp} {type : TypeId} {pos : String} {after : Array Edge}

/-- a number is stored into a row -/
theorem wl_put (ty : TypeId) (x y : Operand) (b i : Nat) (k : IntKind) (t : TypeId) (L : List Nat) (v : Nat) (z : Int) (hx : a.eval x = .pointer (some ⟨b, i, none⟩)) (hy : a.eval y = .int k z) (hz : z = (v : Int)) (hb : b < w.heap.size)
    (hi : i < L.length) (hs : (P.info? ty).map (·.size) = some 1)
    (hK : wpList P ops Q rest (a.put dst undef) (setRow w b k t (L.set i v))) : wpList P ops Q (⟨dst, .store ty x y, type, pos, after, none⟩ :: rest) a (setRow w b k t L) := by
  subst hz
  refine wpList_plain rfl fun K hK' => ?_
  obtain ⟨j, hj1, hj2⟩ := Option.map_eq_some_iff.1 hs
  have hst := run_storeCells_ints (P := P) [v] (setRow w b k t L) b k t L i 0 (IB.setRow hb k t L) (by simp; omega)
  rw [setRow_setRow] at hst
  have hr : (storeVar ty ⟨b, i, none⟩ (.int k (v : Int))).run P (setRow w b k t L) = .ok () (setRow w b k t (L.set i v)) := by
    simp only [Value.cells, storeVar, sizeOf, typeInfo, program, bind, Sem.bind, Sem.run, hj1, pure, hj2, ne_eq, List.size_toArray, List.length_cons, List.length_nil, Nat.zero_add, not_true_eq_false, if_false]
    exact hst
  unfold Oper.wp execOp
  simp only [hx, hy, Instr.storeAt, Instr.sureAddr, Sem.run_bind, Sem.run_pure, Result.andThen_ok, hr]
  exact hK' _ _ hK

theorem wl_putZ (ty : TypeId) (x y : Operand) (b i : Nat) (k : IntKind) (t : TypeId) (L : List Nat) (z : Int) (hx : a.eval x = .pointer (some ⟨b, i, none⟩)) (hy : a.eval y = .int k z) (hz : 0 ≤ z) (hb : b < w.heap.size)
    (hi : i < L.length) (hs : (P.info? ty).map (·.size) = some 1)
    (hK : wpList P ops Q rest (a.put dst undef) (setRow w b k t (L.set i z.toNat))) : wpList P ops Q (⟨dst, .store ty x y, type, pos, after, none⟩ :: rest) a (setRow w b k t L) :=
  wl_put ty x y b i k t L z.toNat z hx hy (by omega) hb hi hs hK
end

theorem list_eight_get {l : List Nat} (h : l.length = 8) : l = [l.getD 0 0, l.getD 1 0, l.getD 2 0, l.getD 3 0, l.getD 4 0, l.getD 5 0, l.getD 6 0, l.getD 7 0] := by
  match l, h with
  | [a, b, c, d, e, f, g, i], _ => rfl

theorem siz5 : (Sang.prog.info? 5).map (·.size) = some 1 := by kernel_rfl

set_option maxRecDepth 10000 in
set_option maxHeartbeats 1000000 in
theorem put_core (b t n off x : Nat) (L : List Nat) (w : World) (hb : b < w.heap.size) (hL : L.length = n) (hn : n ≤ 1024) (ho : off + 8 ≤ n) (hx : x < W64) :
    Calls Sang.prog 55 #[.slice (some ⟨b, 0, none⟩) n n, .int .i64 (off : Int), .int .u64 (x : Int)] (setRow w b .u8 t L) fun e w' => e = .returned (.bool true) ∧ w' = setRow w b .u8 t (lay L off (limbs 256 8 x).reverse) := by
  have HX : Hid (x < W64) := hx
  clear hx
  have hi1 : (0 : Int) ≤ (off : Int) := by omega
  have hi2 : (off : Int) ≤ (off : Int) + 8 := by omega
  have hi3 : (off : Int) + 8 ≤ (n : Int) := by omega
  have hat := fun (aa : Option Addr) (ll cc : Nat) (w : World) (hl : 8 ≤ ll) => run_arrayAt (P := Sang.prog) w 174 5 8 aa ll cc und174 hl
  obtain ⟨BS, HBS⟩ : ∃ BS, Hid (∀ _ : Unit, (limbs 256 8 x).reverse = BS) := ⟨_, fun _ => rfl⟩
  rw [HBS.out ()]
  obtain ⟨v0, HV0⟩ : ∃ v : Nat, Hid (∀ _ : Unit, v = x / 72057594037927936 % 256) := ⟨_, fun _ => rfl⟩
  have e0 : Hid (∀ _ : Unit, (x : Int) / 72057594037927936 % 256 = (v0 : Int)) := fun _ => by rw [HV0.out ()]; omega
  have hl0 : Hid (∀ _ : Unit, off < (L).length) := fun _ => by first | omega | (simp only [List.length_set]; omega)
  obtain ⟨v1, HV1⟩ : ∃ v : Nat, Hid (∀ _ : Unit, v = x / 281474976710656 % 256) := ⟨_, fun _ => rfl⟩
  have e1 : Hid (∀ _ : Unit, (x : Int) / 281474976710656 % 256 = (v1 : Int)) := fun _ => by rw [HV1.out ()]; omega
  have hl1 : Hid (∀ _ : Unit, (off + 1) < ((L).set off v0).length) := fun _ => by first | omega | (simp only [List.length_set]; omega)
  obtain ⟨v2, HV2⟩ : ∃ v : Nat, Hid (∀ _ : Unit, v = x / 1099511627776 % 256) := ⟨_, fun _ => rfl⟩
  have e2 : Hid (∀ _ : Unit, (x : Int) / 1099511627776 % 256 = (v2 : Int)) := fun _ => by rw [HV2.out ()]; omega
  have hl2 : Hid (∀ _ : Unit, (off + 2) < (((L).set off v0).set (off + 1) v1).length) := fun _ => by first | omega | (simp only [List.length_set]; omega)
  obtain ⟨v3, HV3⟩ : ∃ v : Nat, Hid (∀ _ : Unit, v = x / 4294967296 % 256) := ⟨_, fun _ => rfl⟩
  have e3 : Hid (∀ _ : Unit, (x : Int) / 4294967296 % 256 = (v3 : Int)) := fun _ => by rw [HV3.out ()]; omega
  have hl3 : Hid (∀ _ : Unit, (off + 3) < ((((L).set off v0).set (off + 1) v1).set (off + 2) v2).length) := fun _ => by first | omega | (simp only [List.length_set]; omega)
  obtain ⟨v4, HV4⟩ : ∃ v : Nat, Hid (∀ _ : Unit, v = x / 16777216 % 256) := ⟨_, fun _ => rfl⟩
  have e4 : Hid (∀ _ : Unit, (x : Int) / 16777216 % 256 = (v4 : Int)) := fun _ => by rw [HV4.out ()]; omega
  have hl4 : Hid (∀ _ : Unit, (off + 4) < (((((L).set off v0).set (off + 1) v1).set (off + 2) v2).set (off + 3) v3).length) := fun _ => by first | omega | (simp only [List.length_set]; omega)
  obtain ⟨v5, HV5⟩ : ∃ v : Nat, Hid (∀ _ : Unit, v = x / 65536 % 256) := ⟨_, fun _ => rfl⟩
  have e5 : Hid (∀ _ : Unit, (x : Int) / 65536 % 256 = (v5 : Int)) := fun _ => by rw [HV5.out ()]; omega
  have hl5 : Hid (∀ _ : Unit, (off + 5) < ((((((L).set off v0).set (off + 1) v1).set (off + 2) v2).set (off + 3) v3).set (off + 4) v4).length) := fun _ => by first | omega | (simp only [List.length_set]; omega)
  obtain ⟨v6, HV6⟩ : ∃ v : Nat, Hid (∀ _ : Unit, v = x / 256 % 256) := ⟨_, fun _ => rfl⟩
  have e6 : Hid (∀ _ : Unit, (x : Int) / 256 % 256 = (v6 : Int)) := fun _ => by rw [HV6.out ()]; omega
  have hl6 : Hid (∀ _ : Unit, (off + 6) < (((((((L).set off v0).set (off + 1) v1).set (off + 2) v2).set (off + 3) v3).set (off + 4) v4).set (off + 5) v5).length) := fun _ => by first | omega | (simp only [List.length_set]; omega)
  obtain ⟨v7, HV7⟩ : ∃ v : Nat, Hid (∀ _ : Unit, v = x % 256) := ⟨_, fun _ => rfl⟩
  have e7 : Hid (∀ _ : Unit, (x : Int) % 256 = (v7 : Int)) := fun _ => by rw [HV7.out ()]; omega
  have hl7 : Hid (∀ _ : Unit, (off + 7) < ((((((((L).set off v0).set (off + 1) v1).set (off + 2) v2).set (off + 3) v3).set (off + 4) v4).set (off + 5) v5).set (off + 6) v6).length) := fun _ => by first | omega | (simp only [List.length_set]; omega)
  go_enter Sang.func55, Sang.ntmps55
  go_wp2_with fail
  refine (inside_any n off _ (by omega) ho).mono ?_
  rintro e w' ⟨rfl, rfl⟩
  go_wp2_with (first
    | ((with_reducible refine wl_put 5 (.tmp 24) (.tmp 22) b off .u8 t (L) v0 ((x : Int) / 72057594037927936 % 256) ?_ ?_ (e0.out ()) hb (hl0.out ()) siz5 ?_); rfl; rfl)
    | ((with_reducible refine wl_put 5 (.tmp 30) (.tmp 28) b (off + 1) .u8 t ((L).set off v0) v1 ((x : Int) / 281474976710656 % 256) ?_ ?_ (e1.out ()) hb (hl1.out ()) siz5 ?_); rfl; rfl)
    | ((with_reducible refine wl_put 5 (.tmp 36) (.tmp 34) b (off + 2) .u8 t (((L).set off v0).set (off + 1) v1) v2 ((x : Int) / 1099511627776 % 256) ?_ ?_ (e2.out ()) hb (hl2.out ()) siz5 ?_); rfl; rfl)
    | ((with_reducible refine wl_put 5 (.tmp 42) (.tmp 40) b (off + 3) .u8 t ((((L).set off v0).set (off + 1) v1).set (off + 2) v2) v3 ((x : Int) / 4294967296 % 256) ?_ ?_ (e3.out ()) hb (hl3.out ()) siz5 ?_); rfl; rfl)
    | ((with_reducible refine wl_put 5 (.tmp 48) (.tmp 46) b (off + 4) .u8 t (((((L).set off v0).set (off + 1) v1).set (off + 2) v2).set (off + 3) v3) v4 ((x : Int) / 16777216 % 256) ?_ ?_ (e4.out ()) hb (hl4.out ()) siz5 ?_); rfl; rfl)
    | ((with_reducible refine wl_put 5 (.tmp 54) (.tmp 52) b (off + 5) .u8 t ((((((L).set off v0).set (off + 1) v1).set (off + 2) v2).set (off + 3) v3).set (off + 4) v4) v5 ((x : Int) / 65536 % 256) ?_ ?_ (e5.out ()) hb (hl5.out ()) siz5 ?_); rfl; rfl)
    | ((with_reducible refine wl_put 5 (.tmp 60) (.tmp 58) b (off + 6) .u8 t (((((((L).set off v0).set (off + 1) v1).set (off + 2) v2).set (off + 3) v3).set (off + 4) v4).set (off + 5) v5) v6 ((x : Int) / 256 % 256) ?_ ?_ (e6.out ()) hb (hl6.out ()) siz5 ?_); rfl; rfl)
    | ((with_reducible refine wl_put 5 (.tmp 65) (.tmp 63) b (off + 7) .u8 t ((((((((L).set off v0).set (off + 1) v1).set (off + 2) v2).set (off + 3) v3).set (off + 4) v4).set (off + 5) v5).set (off + 6) v6) v7 ((x : Int) % 256) ?_ ?_ (e7.out ()) hb (hl7.out ()) siz5 ?_); rfl; rfl))
  go_ret
  refine ⟨rfl, ?_⟩
  have hBS : BS = [v0, v1, v2, v3, v4, v5, v6, v7] := by
    rw [← HBS.out (), list_eight_get (limbs_length 256 8 x), limbs_get 256 8 x 0 (by decide), limbs_get 256 8 x 1 (by decide), limbs_get 256 8 x 2 (by decide), limbs_get 256 8 x 3 (by decide), limbs_get 256 8 x 4 (by decide),
      limbs_get 256 8 x 5 (by decide), limbs_get 256 8 x 6 (by decide), limbs_get 256 8 x 7 (by decide), HV0.out (), HV1.out (), HV2.out (), HV3.out (), HV4.out (), HV5.out (), HV6.out (), HV7.out ()]
    simp
  rw [hBS]
  rfl

theorem putBE_any (b t n off x : Nat) (L : List Nat) (w : World) (h : IB w b .u8 t L) (hL : L.length = n) (hn : n ≤ 1024) (ho : off + 8 ≤ n) (hx : x < W64) :
    Calls Sang.prog 55 #[.slice (some ⟨b, 0, none⟩) n n, .int .i64 (off : Int), .int .u64 (x : Int)] w fun e w' => e = .returned (.bool true) ∧ IB w' b .u8 t (lay L off (limbs 256 8 x).reverse) ∧ w' = setRow w b .u8 t (lay L off (limbs 256 8 x).reverse) := by
  have := put_core b t n off x L w h.lt hL hn ho hx
  rw [setRow_self h] at this
  exact this.mono fun e w' h' => ⟨h'.1, by rw [h'.2]; exact IB.setRow h.lt _ _ _, h'.2⟩

theorem be_zeros (p : Nat) (l : List Nat) : be (List.replicate p 0 ++ l) = be l := by
  rw [be_append]
  have : be (List.replicate p 0) = 0 := by
    unfold be
    rw [List.reverse_replicate, val_replicate]
  rw [this]
  omega

set_option maxRecDepth 10000 in
set_option maxHeartbeats 1000000 in
theorem operand_any (v : Value) (I : List Nat) (off n : Nat) (w : World) (h : Sl w .u8 v I) (hd : Dg 256 I) (sI : I.length ≤ 16777216) (so : off ≤ 16777216) (hn : n ≤ 64) :
    Calls Sang.prog 54 #[v, .int .i64 (off : Int), .int .i64 (n : Int)] w fun e w' => e = .returned (.agg (ints .u64 (limbs W64 8 (be (partB I off n))))) ∧ Fr w.heap.size no w w' := by
  have HS : Hid (Sl w .u8 v I) := h
  have HNN : Hid (n ≤ 64) := hn
  obtain ⟨p, hp⟩ : ∃ p, 64 = p + n := ⟨64 - n, by omega⟩
  have HP : Hid (64 = p + n) := hp
  have HE : Hid (∀ _ : Unit, be (List.replicate p 0 ++ partB I off n) = be (partB I off n)) := fun _ => be_zeros _ _
  have hLl : (List.replicate p 0 ++ partB I off n).length = 64 := by rw [List.length_append, List.length_replicate, partB_length]; omega
  have hLd : Dg 256 (List.replicate p 0 ++ partB I off n) := (Dg.replicate (by decide) _).append (partB_dg hd _ _)
  clear h hd hn hp
  have hs26 : (Sang.prog.info? 26).map (·.size) = some (List.replicate 8 0).length := siz26
  go_enter Sang.func54, Sang.ntmps54
  go_wp2_with fail
  have hf0 : Fr w.heap.size no w ((w.alloc (.cells #[.int .u64 0, .int .u64 0, .int .u64 0, .int .u64 0, .int .u64 0, .int .u64 0, .int .u64 0, .int .u64 0] 26)).alloc (.cells #[.int .u8 0, .int .u8 0, .int .u8 0, .int .u8 0, .int .u8 0, .int .u8 0, .int .u8 0, .int .u8 0, .int .u8 0, .int .u8 0, .int .u8 0, .int .u8 0, .int .u8 0, .int .u8 0, .int .u8 0, .int .u8 0, .int .u8 0, .int .u8 0, .int .u8 0, .int .u8 0, .int .u8 0, .int .u8 0, .int .u8 0, .int .u8 0, .int .u8 0, .int .u8 0, .int .u8 0, .int .u8 0, .int .u8 0, .int .u8 0, .int .u8 0, .int .u8 0, .int .u8 0, .int .u8 0, .int .u8 0, .int .u8 0, .int .u8 0, .int .u8 0, .int .u8 0, .int .u8 0, .int .u8 0, .int .u8 0, .int .u8 0, .int .u8 0, .int .u8 0, .int .u8 0, .int .u8 0, .int .u8 0, .int .u8 0, .int .u8 0, .int .u8 0, .int .u8 0, .int .u8 0, .int .u8 0, .int .u8 0, .int .u8 0, .int .u8 0, .int .u8 0, .int .u8 0, .int .u8 0, .int .u8 0, .int .u8 0, .int .u8 0, .int .u8 0] 22)) := ((Fr.refl _ _ _).alloc (Nat.le_refl _) _).alloc (by simp) _
  have hR0 : IB ((w.alloc (.cells #[.int .u64 0, .int .u64 0, .int .u64 0, .int .u64 0, .int .u64 0, .int .u64 0, .int .u64 0, .int .u64 0] 26)).alloc (.cells #[.int .u8 0, .int .u8 0, .int .u8 0, .int .u8 0, .int .u8 0, .int .u8 0, .int .u8 0, .int .u8 0, .int .u8 0, .int .u8 0, .int .u8 0, .int .u8 0, .int .u8 0, .int .u8 0, .int .u8 0, .int .u8 0, .int .u8 0, .int .u8 0, .int .u8 0, .int .u8 0, .int .u8 0, .int .u8 0, .int .u8 0, .int .u8 0, .int .u8 0, .int .u8 0, .int .u8 0, .int .u8 0, .int .u8 0, .int .u8 0, .int .u8 0, .int .u8 0, .int .u8 0, .int .u8 0, .int .u8 0, .int .u8 0, .int .u8 0, .int .u8 0, .int .u8 0, .int .u8 0, .int .u8 0, .int .u8 0, .int .u8 0, .int .u8 0, .int .u8 0, .int .u8 0, .int .u8 0, .int .u8 0, .int .u8 0, .int .u8 0, .int .u8 0, .int .u8 0, .int .u8 0, .int .u8 0, .int .u8 0, .int .u8 0, .int .u8 0, .int .u8 0, .int .u8 0, .int .u8 0, .int .u8 0, .int .u8 0, .int .u8 0, .int .u8 0] 22)) w.heap.size .u64 26 (List.replicate 8 0) := by refine IB.alloc (IB.newAt ?_ ?_) _ <;> rfl
  have hB0 : IB ((w.alloc (.cells #[.int .u64 0, .int .u64 0, .int .u64 0, .int .u64 0, .int .u64 0, .int .u64 0, .int .u64 0, .int .u64 0] 26)).alloc (.cells #[.int .u8 0, .int .u8 0, .int .u8 0, .int .u8 0, .int .u8 0, .int .u8 0, .int .u8 0, .int .u8 0, .int .u8 0, .int .u8 0, .int .u8 0, .int .u8 0, .int .u8 0, .int .u8 0, .int .u8 0, .int .u8 0, .int .u8 0, .int .u8 0, .int .u8 0, .int .u8 0, .int .u8 0, .int .u8 0, .int .u8 0, .int .u8 0, .int .u8 0, .int .u8 0, .int .u8 0, .int .u8 0, .int .u8 0, .int .u8 0, .int .u8 0, .int .u8 0, .int .u8 0, .int .u8 0, .int .u8 0, .int .u8 0, .int .u8 0, .int .u8 0, .int .u8 0, .int .u8 0, .int .u8 0, .int .u8 0, .int .u8 0, .int .u8 0, .int .u8 0, .int .u8 0, .int .u8 0, .int .u8 0, .int .u8 0, .int .u8 0, .int .u8 0, .int .u8 0, .int .u8 0, .int .u8 0, .int .u8 0, .int .u8 0, .int .u8 0, .int .u8 0, .int .u8 0, .int .u8 0, .int .u8 0, .int .u8 0, .int .u8 0, .int .u8 0] 22)) (w.heap.size + 1) .u8 22 (List.replicate 64 0) := IB.newAt (by simp) rfl
  generalize (w.alloc (.cells #[.int .u64 0, .int .u64 0, .int .u64 0, .int .u64 0, .int .u64 0, .int .u64 0, .int .u64 0, .int .u64 0] 26)).alloc (.cells #[.int .u8 0, .int .u8 0, .int .u8 0, .int .u8 0, .int .u8 0, .int .u8 0, .int .u8 0, .int .u8 0, .int .u8 0, .int .u8 0, .int .u8 0, .int .u8 0, .int .u8 0, .int .u8 0, .int .u8 0, .int .u8 0, .int .u8 0, .int .u8 0, .int .u8 0, .int .u8 0, .int .u8 0, .int .u8 0, .int .u8 0, .int .u8 0, .int .u8 0, .int .u8 0, .int .u8 0, .int .u8 0, .int .u8 0, .int .u8 0, .int .u8 0, .int .u8 0, .int .u8 0, .int .u8 0, .int .u8 0, .int .u8 0, .int .u8 0, .int .u8 0, .int .u8 0, .int .u8 0, .int .u8 0, .int .u8 0, .int .u8 0, .int .u8 0, .int .u8 0, .int .u8 0, .int .u8 0, .int .u8 0, .int .u8 0, .int .u8 0, .int .u8 0, .int .u8 0, .int .u8 0, .int .u8 0, .int .u8 0, .int .u8 0, .int .u8 0, .int .u8 0, .int .u8 0, .int .u8 0, .int .u8 0, .int .u8 0, .int .u8 0, .int .u8 0] 22) = w1 at hf0 hR0 hB0 ⊢
  refine (mPart_any (w.heap.size + 1) 22 p n 64 off v I w1 HP.out hB0 (HS.out.fr hf0) sI (by omega) so).mono ?_
  rintro e w2 ⟨rfl, hB2, hf2⟩
  have hR2 := hR0.fr hf2 hR0.lt (by omega)
  have hfw2 := hf0.step hf2 hf0.size (fun k hk hx => by omega)
  clear hR0 hB0 hf0 hf2
  generalize HLL : List.replicate p 0 ++ partB I off n = L at *
  go_wp2_with fail
  have hw3 : IB (w2.alloc (.cells #[.int .u64 0, .int .u64 0, .int .u64 0, .int .u64 0, .int .u64 0, .int .u64 0, .int .u64 0, .int .u64 0] 26)) w2.heap.size .u64 26 (part (limbs W64 8 (be L)) 0) := by
    refine IB.newAt rfl ?_
    rw [part_zero, limbs_length]
    rfl
  have hR3 := hR2.alloc (.cells #[.int .u64 0, .int .u64 0, .int .u64 0, .int .u64 0, .int .u64 0, .int .u64 0, .int .u64 0, .int .u64 0] 26)
  have hB3 := hB2.alloc (.cells #[.int .u64 0, .int .u64 0, .int .u64 0, .int .u64 0, .int .u64 0, .int .u64 0, .int .u64 0, .int .u64 0] 26)
  have hfw3 : Fr w.heap.size no w (w2.alloc (.cells #[.int .u64 0, .int .u64 0, .int .u64 0, .int .u64 0, .int .u64 0, .int .u64 0, .int .u64 0, .int .u64 0] 26)) := hfw2.alloc hfw2.size _
  have hlt1 : w.heap.size + 1 < w2.heap.size := hB2.lt
  clear hR2 hB2 hfw2
  generalize w2.alloc (.cells #[.int .u64 0, .int .u64 0, .int .u64 0, .int .u64 0, .int .u64 0, .int .u64 0, .int .u64 0, .int .u64 0] 26) = w3 at hw3 hR3 hB3 hfw3 ⊢
  generalize w2.heap.size = wb at hw3 hlt1 ⊢
  have HG : Hid (∀ i, i < 8 → (limbs W64 8 (be L)).getD i 0 = be ((L.drop (8 * (8 - 1 - i))).take 8)) := fun i hi => be_limb 8 i hLl hi hLd
  have HLim : Hid (∀ _ : Unit, limbs W64 8 (be L) = limbs W64 8 (be (partB I off n))) := fun _ => by rw [HE.out ()]
  have hLL8 : (limbs W64 8 (be L)).length = 8 := limbs_length _ _ _
  generalize HLG : limbs W64 8 (be L) = G at *
  clear HLG HLL
  go_loopw [17] (fun iv wr => ∃ i : Nat, i ≤ 8 ∧ iv = .int .i64 (i : Int) ∧ IB wr wb .u64 26 (part G i) ∧ IB wr (w.heap.size + 1) .u8 22 L ∧ IB wr w.heap.size .u64 26 (List.replicate 8 0) ∧ Fr w.heap.size no w wr) (fun i _ => 8 - (intOf i).toNat)
  case atStart => exact ⟨0, by omega, rfl, hw3, hB3, hR3, hfw3⟩
  case round =>
    obtain ⟨i, hi, rfl, hW, hB, hR, hf⟩ := hrel
    clear hw3 hB3 hR3 hfw3
    have hpl : (part G i).length = 8 := by rw [part_length _ _ (by rw [hLL8]; exact hi), hLL8]
    by_cases hin : i < 8
    · have hin' : (i : Int) < 8 := by omega
      obtain ⟨q, HQ⟩ : ∃ q : Nat, Hid (∀ _ : Unit, q = 8 * (8 - 1 - i)) := ⟨_, fun _ => rfl⟩
      have eq1 : (56 : Int) - 8 * (i : Int) = (q : Int) := by rw [HQ.out ()]; omega
      have HQS : Hid (q + 8 ≤ 64) := by unfold Hid; rw [HQ.out ()]; omega
      have HGi : Hid (∀ _ : Unit, G.getD i 0 = be ((L.drop q).take 8)) := fun _ => by rw [HG.out i hin, HQ.out ()]
      go_wp2_with fail
      refine (be64_any (w.heap.size + 1) 22 64 q L wr hB hLl hLd (by omega) HQS.out).mono ?_
      rintro e w4 ⟨rfl, hf4⟩
      have hW4 := hW.fr hf4 hW.lt (fun x => x)
      have hB4 := hB.fr hf4 hB.lt (fun x => x)
      have hR4 := hR.fr hf4 hR.lt (fun x => x)
      have hfw4 := hf.step hf4 hf.size (fun _ _ x => x)
      clear hW hB hR hf hf4
      generalize be ((L.drop q).take 8) = g at *
      have hc := hW4.cell i (by omega)
      have hz := hW4.unfrozen i
      generalize (part G i).getD i 0 = g0 at hc
      go_wp2_with fail
      refine ⟨⟨i + 1, by omega, by go_num, ?_, hB4.other (by show wb ≠ _; omega) _, hR4.other (by show wb ≠ _; omega) _, hfw4.setCell (.inl (by show _ ≤ wb; omega)) _⟩, by simp [intOf]; omega⟩
      refine hW4.set' i g rfl ?_
      rw [part_succ _ _ (by rw [hLL8]; exact hin), HGi.out ()]
    · have : i = 8 := by omega
      subst this
      have hall : part G 8 = G := by
        have h1 := part_all G
        rw [hLL8] at h1
        exact h1
      rw [hall] at hW
      have hGl : G.length = (List.replicate 8 0).length := by rw [hLL8]; rfl
      have hsG : (Sang.prog.info? 26).map (·.size) = some G.length := by rw [hLL8]; exact siz26
      go_wp2_with (first
        | ((with_reducible refine wl_load 26 (.tmp 8) wb .u64 26 G ?_ hW (.array 8 24) und26 ?_ hsG ?_); rfl; rfl)
        | ((with_reducible refine wl_store 26 (.tmp 6) (.tmp 32) w.heap.size .u64 26 (List.replicate 8 0) G ?_ ?_ hR hGl hs26 ?_); rfl; rfl))
      refine bodyPost_ret (results_cell Sang.results54 rfl (IB.setRow hR.lt _ _ _) _ und26 rfl hsG) rfl ⟨by rw [← HLim.out ()], ?_⟩
      exact hf.setRow (.inl (Nat.le_refl _)) _ _ _
end Go.Proofs.Ygcsan
