/-
  What a precompiled contract costs, in plain numbers; package mach: NativeCost.
-/
import Derived.Test.YgcsanMachD
import Derived.Test.YgcsanPlainF
import Derived.Test.YgcsanPlainE
namespace Go.Proofs.Ygcsan
open Go.RowKit
set_option linter.unusedSimpArgs false
set_option linter.unusedVariables false

/-- the number of bits -/
def blen (H : Nat) : Nat := bitsF H (8 * (digs H).length)

theorem blen_lt (H : Nat) : H < 2 ^ blen H := by
  refine bitsF_lt H _ ?_
  rw [Nat.pow_mul]
  exact (digs_length_le _ _).1 (Nat.le_refl _)
theorem blen_ge (H : Nat) (h : blen H ≠ 0) : 2 ^ (blen H - 1) ≤ H := bitsF_ge H _ h

theorem blen_unique {H a b : Nat} (ha : H < 2 ^ a) (ha' : a ≠ 0 → 2 ^ (a - 1) ≤ H) (hb : H < 2 ^ b) (hb' : b ≠ 0 → 2 ^ (b - 1) ≤ H) : a = b := by
  have key : ∀ {a b : Nat}, H < 2 ^ a → (b ≠ 0 → 2 ^ (b - 1) ≤ H) → b ≤ a := by
    intro a b h1 h2
    by_cases hb : b = 0
    · omega
    · have h3 := Nat.lt_of_le_of_lt (h2 hb) h1
      have := (Nat.pow_lt_pow_iff_right (show 1 < 2 by decide)).1 h3
      omega
  have h1 := key ha hb'
  have h2 := key hb ha'
  omega

theorem blen_zero : blen 0 = 0 := rfl

/-- the engine's number of bits -/
theorem blen_limbs {H n : Nat} (hH : H < W64 ^ 4) (hn : lcF (limbs W64 4 H) 4 = n) (h0 : n ≠ 0) : blen H = 64 * (n - 1) + Lib.bitLen ((limbs W64 4 H).getD (n - 1) 0) ∧ Lib.bitLen ((limbs W64 4 H).getD (n - 1) 0) ≠ 0 ∧ Lib.bitLen ((limbs W64 4 H).getD (n - 1) 0) ≤ 64 := by
  have hd := limbs_dg W64_pos 4 H
  have hl := limbs_length W64 4 H
  have hNl := Nl_lc hd hl
  rw [val_limbs, Nat.mod_eq_of_lt hH, hn] at hNl
  have hlo := hNl.2.resolve_left h0
  have hle : n ≤ 4 := by rw [← hn]; exact lcF_le _ _
  have e1 : (limbs W64 4 H).getD (n - 1) 0 = H / W64 ^ (n - 1) := by
    rw [limbs_get W64 4 H (n - 1) (by omega)]
    refine Nat.mod_eq_of_lt ?_
    rw [Nat.div_lt_iff_lt_mul (Nat.pow_pos W64_pos)]
    have := hNl.1
    rwa [show n = (n - 1) + 1 by omega, Nat.pow_succ, Nat.mul_comm] at this
  have hlt : (limbs W64 4 H).getD (n - 1) 0 < W64 := hd.getD W64_pos _
  rw [e1] at hlt ⊢
  have hpos : H / W64 ^ (n - 1) ≠ 0 := by
    have := Nat.div_pos hlo (Nat.pow_pos W64_pos)
    omega
  obtain ⟨s1, s2⟩ := bitLen_spec' _ hlt
  have s3 := bitLen_le64 _ hlt
  have s4 : Lib.bitLen (H / W64 ^ (n - 1)) ≠ 0 := by
    intro h
    rw [h] at s1
    simp at s1
    omega
  have s5 := s2 hpos
  refine ⟨?_, s4, s3⟩
  generalize Lib.bitLen (H / W64 ^ (n - 1)) = L at *
  have eW : W64 ^ (n - 1) = 2 ^ (64 * (n - 1)) := by rw [show W64 = 2 ^ 64 from rfl, ← Nat.pow_mul]
  rw [eW] at s1 s5
  refine blen_unique (blen_lt H) (blen_ge H) ?_ (fun _ => ?_)
  · rw [Nat.pow_add, Nat.mul_comm]
    exact (Nat.div_lt_iff_lt_mul (Nat.pow_pos (by decide))).1 s1
  · rw [show 64 * (n - 1) + L - 1 = (L - 1) + 64 * (n - 1) by omega, Nat.pow_add]
    exact (Nat.le_div_iff_mul_le (Nat.pow_pos (by decide))).1 s5

theorem blen_of_lc0 {H : Nat} (hH : H < W64 ^ 4) (hn : lcF (limbs W64 4 H) 4 = 0) : blen H = 0 := by
  have hNl := Nl_lc (limbs_dg W64_pos 4 H) (limbs_length W64 4 H)
  rw [val_limbs, Nat.mod_eq_of_lt hH, hn] at hNl
  have : H = 0 := by
    have := hNl.1
    simp at this
    exact this
  rw [this, blen_zero]

/-- the head of the exponent -/
def headN (I : List Nat) : Nat := be (partB I (96 + lenI I 0) (min (lenI I 1) 32))
/-- the turns of a modular exponentiation -/
def turnsN (I : List Nat) : Nat := (blen (headN I) - 1) + (if 32 < lenI I 1 then 8 * (lenI I 1 - 32) else 0)
/-- what the contract costs -/
def costN (kind : Nat) (I : List Nat) : Nat :=
  if kind = 4 then 15 + 3 * ((I.length + 31) / 32) else max 200 ((max (lenI I 0) (lenI I 2) + 7) / 8 * ((max (lenI I 0) (lenI I 2) + 7) / 8) * max (turnsN I) 1 / 3)
/-- whether the contract takes the input -/
def takesN (kind : Nat) (I : List Nat) : Prop := kind = 4 ∨ (kind = 5 ∧ lenOk I)

theorem headN_room {I : List Nat} (h : Dg 256 I) : headN I < W64 ^ 4 := by
  have := be_lt (partB_dg h (96 + lenI I 0) (min (lenI I 1) 32))
  rw [partB_length] at this
  have h2 : 256 ^ (min (lenI I 1) 32) ≤ 256 ^ 32 := Nat.pow_le_pow_right (by decide) (Nat.min_le_right _ _)
  exact Nat.lt_of_lt_of_le this h2

theorem blen_le {H : Nat} (h : H < W64 ^ 4) : blen H ≤ 256 := by
  by_cases h0 : lcF (limbs W64 4 H) 4 = 0
  · rw [blen_of_lc0 h h0]; omega
  · obtain ⟨h1, h2, h3⟩ := blen_limbs h rfl h0
    have := lcF_le (limbs W64 4 H) 4
    omega

set_option maxRecDepth 10000 in
set_option maxHeartbeats 400000 in
theorem mCost_other (kind : Nat) (v : Value) (w : World) (hk4 : kind ≠ 4) (hk5 : kind ≠ 5) :
    Calls Sang.prog 21 #[.int .u8 (kind : Int), v] w fun e w' => e = .returned (.tuple #[.int .u64 0, .bool false]) ∧ w' = w := by
  have h4 : ((kind : Int) == 4) = false := by simp; omega
  have h5 : ((kind : Int) == 5) = false := by simp; omega
  clear hk4 hk5
  go_enter Sang.func21, Sang.ntmps21
  go_wp2_with fail
  go_ret2
  exact ⟨rfl, rfl⟩

set_option maxRecDepth 10000 in
set_option maxHeartbeats 400000 in
theorem mCost_id (v : Value) (I : List Nat) (w : World) (h : Sl w .u8 v I) (sI : I.length ≤ 16777216) :
    Calls Sang.prog 21 #[.int .u8 4, v] w fun e w' => e = .returned (.tuple #[.int .u64 (costN 4 I : Nat), .bool true]) ∧ w' = w := by
  obtain ⟨a, cap, rfl, hl, hm, hc⟩ := h
  clear hc
  obtain ⟨c, HC⟩ : ∃ c : Nat, Hid (∀ _ : Unit, c = (I.length + 31) / 32) := ⟨_, fun _ => rfl⟩
  have hcl : (c : Int) ≤ 16777216 := by rw [HC.out ()]; omega
  have hw := numWords_any I.length w (by omega)
  rw [← HC.out ()] at hw
  go_enter Sang.func21, Sang.ntmps21
  go_wp2_with fail
  refine hw.mono ?_
  clear hw
  rintro e w ⟨rfl, rfl⟩
  go_wp2_with fail
  go_ret2
  refine ⟨?_, rfl⟩
  unfold costN
  rw [if_pos rfl, ← HC.out ()]
  rfl

set_option maxRecDepth 10000 in
set_option maxHeartbeats 1000000 in
theorem mCost_pow (v : Value) (I : List Nat) (w : World) (h : Sl w .u8 v I) (hd : Dg 256 I) (sI : I.length ≤ 16777216) :
    Calls Sang.prog 21 #[.int .u8 5, v] w fun e w' => ((lenOk I ∧ e = .returned (.tuple #[.int .u64 (costN 5 I : Nat), .bool true])) ∨ (¬ lenOk I ∧ e = .returned (.tuple #[.int .u64 0, .bool false]))) ∧ Fr w.heap.size no w w' := by
  have HS : Hid (Sl w .u8 v I) := h
  have HD : Hid (Dg 256 I) := hd
  have hlen := mLengths_any v I w h hd sI
  clear h hd
  go_enter Sang.func21, Sang.ntmps21
  go_wp2_with fail
  refine hlen.mono ?_
  clear hlen
  rintro e w1 ⟨hcase | hcase, hf1⟩
  · obtain ⟨hok, rfl⟩ := hcase
    have HOK : Hid (lenOk I) := hok
    have HB0 : Hid (lenI I 0 ≤ 64) := hok 0 (by omega)
    have HB1 : Hid (lenI I 1 ≤ 64) := hok 1 (by omega)
    have HB2 : Hid (lenI I 2 ≤ 64) := hok 2 (by omega)
    have HCost : Hid (∀ _ : Unit, costN 5 I = max 200 ((max (lenI I 0) (lenI I 2) + 7) / 8 * ((max (lenI I 0) (lenI I 2) + 7) / 8) * max (turnsN I) 1 / 3)) := fun _ => rfl
    have HTurn : Hid (∀ _ : Unit, turnsN I = (blen (headN I) - 1) + (if 32 < lenI I 1 then 8 * (lenI I 1 - 32) else 0)) := fun _ => rfl
    have HHead : Hid (∀ _ : Unit, headN I = be (partB I (96 + lenI I 0) (min (lenI I 1) 32))) := fun _ => rfl
    generalize lenI I 0 = b at *
    generalize lenI I 1 = e at *
    generalize lenI I 2 = m at *
    have hb0 : (b : Int) ≤ 64 := by have := HB0.out; omega
    have he0 : (e : Int) ≤ 64 := by have := HB1.out; omega
    have hm0 : (m : Int) ≤ 64 := by have := HB2.out; omega
    clear hok
    obtain ⟨M1, HM1⟩ : ∃ M1 : Nat, Hid (∀ _ : Unit, max b m = M1) := ⟨_, fun _ => rfl⟩
    have eM1 : max (b : Int) (m : Int) = (M1 : Int) := by rw [← HM1.out ()]; omega
    have hM1 : (M1 : Int) ≤ 64 := by rw [← HM1.out ()]; omega
    obtain ⟨wd, HWv⟩ : ∃ wd : Nat, Hid (∀ _ : Unit, wd = (M1 + 7) / 8) := ⟨_, fun _ => rfl⟩
    have eW : ((M1 : Int) + 7) / 8 = (wd : Int) := by rw [HWv.out ()]; omega
    have hWd : (wd : Int) ≤ 8 := by rw [HWv.out ()]; omega
    obtain ⟨S, HSv⟩ : ∃ S : Nat, Hid (∀ _ : Unit, S = wd * wd) := ⟨_, fun _ => rfl⟩
    have eS : (wd : Int) * (wd : Int) = (S : Int) := by rw [HSv.out ()]; simp
    have HSb : Hid (S ≤ 64) := by
      have h1 : wd * wd ≤ 8 * 8 := Nat.mul_le_mul (by omega) (by omega)
      unfold Hid; rw [HSv.out ()]; omega
    have hS : (S : Int) ≤ 64 := by have := HSb.out; omega
    obtain ⟨q, HQ⟩ : ∃ q : Nat, Hid (∀ _ : Unit, q = 96 + b) := ⟨_, fun _ => rfl⟩
    have eQ : (96 : Int) + (b : Int) = (q : Int) := by rw [HQ.out ()]; omega
    have hQ : (q : Int) ≤ 160 := by rw [HQ.out ()]; omega
    obtain ⟨k, HK⟩ : ∃ k : Nat, Hid (∀ _ : Unit, k = min e 32) := ⟨_, fun _ => rfl⟩
    have eK : min (e : Int) 32 = (k : Int) := by rw [HK.out ()]; omega
    have hK : (k : Int) ≤ 32 := by rw [HK.out ()]; omega
    go_wp2_with fail
    have hfa : Fr w.heap.size no w (w1.alloc (.cells #[.int .u8 0, .int .u8 0, .int .u8 0, .int .u8 0, .int .u8 0, .int .u8 0, .int .u8 0, .int .u8 0, .int .u8 0, .int .u8 0, .int .u8 0, .int .u8 0, .int .u8 0, .int .u8 0, .int .u8 0, .int .u8 0, .int .u8 0, .int .u8 0, .int .u8 0, .int .u8 0, .int .u8 0, .int .u8 0, .int .u8 0, .int .u8 0, .int .u8 0, .int .u8 0, .int .u8 0, .int .u8 0, .int .u8 0, .int .u8 0, .int .u8 0, .int .u8 0] 71)) := hf1.alloc hf1.size _
    have hbb : IB (w1.alloc (.cells #[.int .u8 0, .int .u8 0, .int .u8 0, .int .u8 0, .int .u8 0, .int .u8 0, .int .u8 0, .int .u8 0, .int .u8 0, .int .u8 0, .int .u8 0, .int .u8 0, .int .u8 0, .int .u8 0, .int .u8 0, .int .u8 0, .int .u8 0, .int .u8 0, .int .u8 0, .int .u8 0, .int .u8 0, .int .u8 0, .int .u8 0, .int .u8 0, .int .u8 0, .int .u8 0, .int .u8 0, .int .u8 0, .int .u8 0, .int .u8 0, .int .u8 0, .int .u8 0] 71)) w1.heap.size .u8 71 (List.replicate 32 0) := IB.newAt rfl rfl
    have hbU : w.heap.size ≤ w1.heap.size := hf1.size
    clear hf1
    generalize w1.alloc (.cells #[.int .u8 0, .int .u8 0, .int .u8 0, .int .u8 0, .int .u8 0, .int .u8 0, .int .u8 0, .int .u8 0, .int .u8 0, .int .u8 0, .int .u8 0, .int .u8 0, .int .u8 0, .int .u8 0, .int .u8 0, .int .u8 0, .int .u8 0, .int .u8 0, .int .u8 0, .int .u8 0, .int .u8 0, .int .u8 0, .int .u8 0, .int .u8 0, .int .u8 0, .int .u8 0, .int .u8 0, .int .u8 0, .int .u8 0, .int .u8 0, .int .u8 0, .int .u8 0] 71) = w2 at hfa hbb ⊢
    generalize w1.heap.size = bb at hbb hbU ⊢
    refine (mPart_any bb 71 (32 - k) k 32 q v I w2 (by omega) hbb (HS.out.fr hfa) sI (by omega) (by omega)).mono ?_
    rintro e' w3 ⟨rfl, hb3, hf3⟩
    have hfw3 := hfa.step hf3 hfa.size (fun i hi hx => by omega)
    clear hfa hf3 hbb
    have hbl : (List.replicate (32 - k) 0 ++ partB I q k).length = 32 := by rw [List.length_append, List.length_replicate, partB_length]; omega
    have hbd : Dg 256 (List.replicate (32 - k) 0 ++ partB I q k) := (Dg.replicate (by decide) _).append (partB_dg HD.out _ _)
    have HHe : Hid (∀ _ : Unit, be (List.replicate (32 - k) 0 ++ partB I q k) = headN I) := fun _ => by rw [be_zeros, HHead.out (), HQ.out (), HK.out ()]
    generalize List.replicate (32 - k) 0 ++ partB I q k = L at *
    have hs71 : (Sang.prog.info? 71).map (·.size) = some L.length := by rw [hbl]; exact siz71
    go_wp2_with ((with_reducible refine wl_load 71 (.tmp 11) bb .u8 71 L ?_ hb3 (.array 32 5) und71 ?_ hs71 ?_); rfl; rfl)
    refine (fromBytes_any L w3 hbl hbd).mono ?_
    rintro e' w4 ⟨rfl, hf4⟩
    have hfw4 := hfw3.step hf4 hfw3.size (fun _ _ x => x)
    rw [HHe.out ()]
    have HHr : Hid (headN I < W64 ^ 4) := headN_room HD.out
    clear hfw3 hf4 hb3 HHe
    generalize headN I = H at *
    have hLl : (limbs W64 4 H).length = 4 := limbs_length _ _ _
    have HLd : Hid (Dg W64 (limbs W64 4 H)) := limbs_dg W64_pos _ _
    have HB0' : Hid (∀ _ : Unit, lcF (limbs W64 4 H) 4 = 0 → blen H = 0) := fun _ h => blen_of_lc0 HHr.out h
    have HB1' : Hid (∀ n, lcF (limbs W64 4 H) 4 = n → n ≠ 0 → blen H = 64 * (n - 1) + Lib.bitLen ((limbs W64 4 H).getD (n - 1) 0) ∧ Lib.bitLen ((limbs W64 4 H).getD (n - 1) 0) ≠ 0 ∧ Lib.bitLen ((limbs W64 4 H).getD (n - 1) 0) ≤ 64) := fun n h1 h2 => blen_limbs HHr.out h1 h2
    generalize limbs W64 4 H = G at *
    have hGl : G.length = [0, 0, 0, 0].length := hLl
    have hs113 : (Sang.prog.info? 113).map (·.size) = some [0, 0, 0, 0].length := siz113
    have hsG : (Sang.prog.info? 113).map (·.size) = some G.length := by rw [hLl]; exact siz113
    have hnew := IB.new w4 .u64 113 G
    go_wp2_with (first
      | ((with_reducible refine wl_store_fresh w4 #[.int .u64 0, .int .u64 0, .int .u64 0, .int .u64 0] 113 (.tmp 12) (.tmp 49) w4.heap.size .u64 113 [0, 0, 0, 0] G ?_ ?_ rfl ?_ hGl hs113 ?_); rfl; rfl; rfl)
      | ((with_reducible refine wl_load 113 (.tmp 12) w4.heap.size .u64 113 G ?_ hnew (.array 4 24) und113 ?_ hsG ?_); rfl; rfl))
    have hfw5 : Fr w.heap.size no w (w4.alloc (.cells (ints .u64 G) 113)) := hfw4.alloc hfw4.size _
    clear hfw4
    generalize w4.alloc (.cells (ints .u64 G) 113) = w5 at hnew hfw5 ⊢
    generalize w4.heap.size = gb at hnew ⊢
    refine (wordLimbs_any G w5 hLl).mono ?_
    rintro e' w6 ⟨rfl, hf6⟩
    have hG6 := hnew.fr hf6 hnew.lt (fun x => x)
    have hfin := hfw5.step hf6 hfw5.size (fun _ _ x => x)
    clear hnew hfw5 hf6
    have hnle : lcF G 4 ≤ 4 := lcF_le _ _
    have hn4 : (lcF G 4 : Int) ≤ 4 := by omega
    generalize hnn : lcF G 4 = nn at *
    have HNN : Hid (∀ _ : Unit, lcF G 4 = nn) := fun _ => hnn
    clear hnn hnle
    by_cases hn0 : nn = 0
    · have HBz : Hid (∀ _ : Unit, blen H = 0) := fun _ => HB0'.out () hn0
      subst hn0
      obtain ⟨T0, HT00⟩ : ∃ T0 : Nat, Hid (∀ _ : Unit, T0 = 0) := ⟨0, fun _ => rfl⟩
      have HT0 : Hid (T0 ≤ 255) := by unfold Hid; rw [HT00.out ()]; omega
      have HT0v : Hid (∀ _ : Unit, blen H - 1 = T0) := fun _ => by rw [HBz.out (), HT00.out ()]
      by_cases he32 : 32 < e
      · have he' : (32 : Int) < (e : Int) := by omega
        obtain ⟨T, HTT⟩ : ∃ T : Nat, Hid (∀ _ : Unit, T = T0 + 8 * (e - 32)) := ⟨_, fun _ => rfl⟩
        have eT : 8 * ((e : Int) - 32) = (T : Int) := by rw [HTT.out ()]; have := HT00.out (); omega
        have HTb : Hid (T ≤ 599) := by
          unfold Hid; rw [HTT.out ()]
          have h1 := HT0.out
          have h2 := HB1.out
          omega
        have HTv : Hid (∀ _ : Unit, turnsN I = T) := fun _ => by rw [HTurn.out (), HTT.out (), if_pos he32, HT0v.out ()]
        clear he32
        obtain ⟨X, HX⟩ : ∃ X : Nat, Hid (∀ _ : Unit, X = max T 1) := ⟨_, fun _ => rfl⟩
        have eX : max (T : Int) 1 = (X : Int) := by rw [HX.out ()]; omega
        have hX : (X : Int) ≤ 600 := by rw [HX.out ()]; have := HTb.out; omega
        obtain ⟨Y, HY⟩ : ∃ Y : Nat, Hid (∀ _ : Unit, Y = S * X) := ⟨_, fun _ => rfl⟩
        have eY : (S : Int) * (X : Int) = (Y : Int) := by rw [HY.out ()]; simp
        have hY : (Y : Int) ≤ 38400 := by
          have h1 : S * X ≤ 64 * 600 := Nat.mul_le_mul (by have := HSb.out; omega) (by omega)
          rw [HY.out ()]; omega
        go_wp2_with fail
        go_ret2
        refine ⟨.inl ⟨HOK.out, ?_⟩, hfin⟩
        have hc : costN 5 I = max 200 (Y / 3) := by
          rw [HCost.out (), HY.out (), HSv.out (), HWv.out (), HM1.out (), HX.out (), HTv.out ()]
        rw [hc, show ((max 200 (Y / 3) : Nat) : Int) = max 200 ((Y : Int) / 3) by omega]
        rfl
      · have he' : ¬ (32 : Int) < (e : Int) := by omega
        have HTb : Hid (T0 ≤ 599) := by
          unfold Hid
          have h1 := HT0.out
          omega
        have HTv : Hid (∀ _ : Unit, turnsN I = T0) := fun _ => by rw [HTurn.out (), if_neg he32, HT0v.out (), Nat.add_zero]
        clear he32
        have e01 : max (0 : Int) 1 = 1 := rfl
        go_wp2_with fail
        go_ret2
        refine ⟨.inl ⟨HOK.out, ?_⟩, hfin⟩
        have hc : costN 5 I = max 200 (S / 3) := by
          rw [HCost.out (), HSv.out (), HWv.out (), HM1.out (), HTv.out (), HT00.out ()]
          simp
        rw [hc, show ((max 200 (S / 3) : Nat) : Int) = max 200 ((S : Int) / 3) by omega]
        rfl
    · obtain ⟨pp, hpp⟩ : ∃ pp, nn = pp + 1 := ⟨nn - 1, by omega⟩
      subst hpp
      have HBn := HB1'.out (pp + 1) rfl hn0
      rw [Nat.add_sub_cancel] at HBn
      obtain ⟨dd, HDD, hcd⟩ : ∃ dd : Nat, Hid (∀ _ : Unit, G.getD pp 0 = dd) ∧ w6.cell? ⟨gb, pp, none⟩ = some (.int .u64 (dd : Int)) := ⟨_, fun _ => rfl, hG6.cell pp (by omega)⟩
      have HDl : Hid (dd < W64) := by unfold Hid; rw [← HDD.out ()]; exact HLd.out.getD W64_pos _
      rw [HDD.out ()] at HBn
      obtain ⟨bl, HBL⟩ : ∃ bl, Hid (∀ _ : Unit, Lib.bitLen dd = bl) := ⟨_, fun _ => rfl⟩
      have HLen := len64_any dd HDl.out w6
      rw [HBL.out ()] at HBn HLen
      have hbl1 : (1 : Int) ≤ (bl : Int) := by omega
      have hbl2 : (bl : Int) ≤ 64 := by omega
      obtain ⟨T0, HT0e⟩ : ∃ T0 : Nat, Hid (∀ _ : Unit, T0 = 64 * pp + bl - 1) := ⟨_, fun _ => rfl⟩
      have eT0 : (64 : Int) * (pp : Int) + (bl : Int) - 1 = (T0 : Int) := by rw [HT0e.out ()]; omega
      have HT0 : Hid (T0 ≤ 255) := by unfold Hid; rw [HT0e.out ()]; omega
      have hT0 : (T0 : Int) ≤ 255 := by have := HT0.out; omega
      have HT0v : Hid (∀ _ : Unit, blen H - 1 = T0) := fun _ => by rw [HBn.1, HT0e.out ()]
      have epp : ((pp + 1 : Nat) : Int) - 1 = (pp : Int) := by omega
      have epw : IntKind.u8.wrap (((pp + 1 : Nat) : Int) - 1) = (pp : Int) := by rw [IntKind.wrap_u8]; omega
      clear HBn hn0
      go_wp2_with fail
      refine HLen.mono ?_
      clear HLen
      rintro e' w7 ⟨rfl, rfl⟩
      by_cases he32 : 32 < e
      · have he' : (32 : Int) < (e : Int) := by omega
        obtain ⟨T, HTT⟩ : ∃ T : Nat, Hid (∀ _ : Unit, T = T0 + 8 * (e - 32)) := ⟨_, fun _ => rfl⟩
        have eT : (T0 : Int) + 8 * ((e : Int) - 32) = (T : Int) := by rw [HTT.out ()]; omega
        have HTb : Hid (T ≤ 599) := by
          unfold Hid; rw [HTT.out ()]
          have h1 := HT0.out
          have h2 := HB1.out
          omega
        have HTv : Hid (∀ _ : Unit, turnsN I = T) := fun _ => by rw [HTurn.out (), HTT.out (), if_pos he32, HT0v.out ()]
        clear he32
        obtain ⟨X, HX⟩ : ∃ X : Nat, Hid (∀ _ : Unit, X = max T 1) := ⟨_, fun _ => rfl⟩
        have eX : max (T : Int) 1 = (X : Int) := by rw [HX.out ()]; omega
        have hX : (X : Int) ≤ 600 := by rw [HX.out ()]; have := HTb.out; omega
        obtain ⟨Y, HY⟩ : ∃ Y : Nat, Hid (∀ _ : Unit, Y = S * X) := ⟨_, fun _ => rfl⟩
        have eY : (S : Int) * (X : Int) = (Y : Int) := by rw [HY.out ()]; simp
        have hY : (Y : Int) ≤ 38400 := by
          have h1 : S * X ≤ 64 * 600 := Nat.mul_le_mul (by have := HSb.out; omega) (by omega)
          rw [HY.out ()]; omega
        go_wp2_with fail
        go_ret2
        refine ⟨.inl ⟨HOK.out, ?_⟩, hfin⟩
        have hc : costN 5 I = max 200 (Y / 3) := by
          rw [HCost.out (), HY.out (), HSv.out (), HWv.out (), HM1.out (), HX.out (), HTv.out ()]
        rw [hc, show ((max 200 (Y / 3) : Nat) : Int) = max 200 ((Y : Int) / 3) by omega]
        rfl
      · have he' : ¬ (32 : Int) < (e : Int) := by omega
        have HTb : Hid (T0 ≤ 599) := by
          unfold Hid
          have h1 := HT0.out
          omega
        have HTv : Hid (∀ _ : Unit, turnsN I = T0) := fun _ => by rw [HTurn.out (), if_neg he32, HT0v.out (), Nat.add_zero]
        clear he32
        obtain ⟨X, HX⟩ : ∃ X : Nat, Hid (∀ _ : Unit, X = max T0 1) := ⟨_, fun _ => rfl⟩
        have eX : max (T0 : Int) 1 = (X : Int) := by rw [HX.out ()]; omega
        have hX : (X : Int) ≤ 600 := by rw [HX.out ()]; have := HTb.out; omega
        obtain ⟨Y, HY⟩ : ∃ Y : Nat, Hid (∀ _ : Unit, Y = S * X) := ⟨_, fun _ => rfl⟩
        have eY : (S : Int) * (X : Int) = (Y : Int) := by rw [HY.out ()]; simp
        have hY : (Y : Int) ≤ 38400 := by
          have h1 : S * X ≤ 64 * 600 := Nat.mul_le_mul (by have := HSb.out; omega) (by omega)
          rw [HY.out ()]; omega
        go_wp2_with fail
        go_ret2
        refine ⟨.inl ⟨HOK.out, ?_⟩, hfin⟩
        have hc : costN 5 I = max 200 (Y / 3) := by
          rw [HCost.out (), HY.out (), HSv.out (), HWv.out (), HM1.out (), HX.out (), HTv.out ()]
        rw [hc, show ((max 200 (Y / 3) : Nat) : Int) = max 200 ((Y : Int) / 3) by omega]
        rfl
  · obtain ⟨hno, rfl⟩ := hcase
    have HNo : Hid (¬ lenOk I) := hno
    clear hno
    go_wp2_with fail
    go_ret2
    exact ⟨.inr ⟨HNo.out, rfl⟩, hf1⟩
end Go.Proofs.Ygcsan
