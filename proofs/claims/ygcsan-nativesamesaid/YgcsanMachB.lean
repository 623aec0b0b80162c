/-
  Package mach: part, lengths, copied, operand; package num: PutBE64.
-/
import Derived.Test.YgcsanMachA
import Derived.Test.YgcsanYpA
import Derived.Test.YgcsanRowLaw
import Derived.Deep.RegionHeld3
namespace Go.Proofs.Ygcsan
open Go.RowKit
set_option linter.unusedSimpArgs false
set_option linter.unusedVariables false

theorem Sl.mid {w : World} {k : IntKind} {a : Option Addr} {cap : Nat} {l : List Nat} (h : Sl w k (.slice a l.length cap) l) (n m : Nat) (hn : n < l.length) (hm : n + m ≤ l.length) :
    ∃ b off, a = some ⟨b, off, none⟩ ∧ Sl w k (.slice (some ⟨b, off + n, none⟩) m (cap - n)) ((l.drop n).take m) := by
  obtain ⟨a', c', hv, h1, h2, h3⟩ := h
  cases hv
  have e : ((l.drop n).take m).length = m := by simp; omega
  rcases h3 with rfl | ⟨b, off, ha, hc⟩
  · simp at hn
  · refine ⟨b, off, ha, some ⟨b, off + n, none⟩, cap - n, by rw [e], by omega, by omega, .inr ⟨b, off + n, rfl, fun i hi => ?_⟩⟩
    rw [e] at hi
    rw [show off + n + i = off + (n + i) by omega, hc (n + i) (by omega)]
    simp [List.getD, List.getElem?_take, hi]

theorem lay_behind (p n : Nat) (M : List Nat) (hM : M.length ≤ n) : lay (List.replicate (p + n) 0) p M = List.replicate p 0 ++ lay (List.replicate n 0) 0 M := by
  rw [lay_eq _ _ _ (by simp; omega), lay_eq _ _ _ (by simp; omega)]
  simp
  omega

set_option maxRecDepth 10000 in
set_option maxHeartbeats 1000000 in
theorem mPart_any (b t p n N off : Nat) (v : Value) (I : List Nat) (w : World) (hN : N = p + n) (hb : IB w b .u8 t (List.replicate N 0)) (h : Sl w .u8 v I) (sI : I.length ≤ 16777216) (sN : N ≤ 1024) (so : off ≤ 16777216) :
    Calls Sang.prog 46 #[.slice (some ⟨b, 0, none⟩) N N, v, .int .i64 (off : Int), .int .i64 (n : Int)] w fun e w' => e = .returned (.tuple #[]) ∧ IB w' b .u8 t (List.replicate p 0 ++ partB I off n) ∧ Fr w.heap.size (fun x => x = b) w w' := by
  obtain ⟨i5, hi5, hz5, hs5, hb5⟩ := info_parts info5
  have HS : Hid (Sl w .u8 v I) := h
  obtain ⟨a, cap, rfl, hl, hm, hc⟩ := h
  clear hc
  unfold maxLen at hm
  have HN : Hid (N = p + n) := hN
  have hpn : (N : Int) - (n : Int) = (p : Int) := by omega
  have hp0 : (0 : Int) ≤ (p : Int) := by omega
  have hp1 : (p : Int) ≤ (N : Int) := by omega
  have hn1 : (n : Int) ≤ (N : Int) := by omega
  have hNp : N - p = n := by omega
  clear hN
  have hwp : IntKind.i64.wrap (p : Int) = (p : Int) := by rw [IntKind.wrap_i64]; omega
  by_cases hin : off < I.length
  · have hco : cap ≠ off := by omega
    by_cases hn0 : n = 0
    · subst hn0
      have hNp2 : N = p := HN.out
      subst hNp2
      obtain ⟨b', o', rfl, hSd⟩ := HS.out.mid off 0 hin (by omega)
      have ht1 : (0 : Int) < (I.length : Int) - (off : Int) := by omega
      have hq2 : (off : Int) ≤ (I.length : Int) := by omega
      have hoc : off ≤ cap := by omega
      clear hpn hn1
      go_enter Sang.func46, Sang.ntmps46
      go_wp2_with fail
      have hSe : Sl w.drew .u8 (.slice (some ⟨b', o' + off, none⟩) 0 (cap - off)) [] := hSd
      have hbe := hb.drew
      go_region_law (refine step_copy 33 33 5 (.tmp 34) (.tmp 38) b 0 0 0 .u8 t (List.replicate N 0) [] (.slice (some ⟨b', o' + off, none⟩) 0 (cap - off)) (by simp [Act.put, Act.eval]) (by simp [Act.put, Act.eval]) hbe hSe (Nat.zero_le _) i5 und33 hi5 hs5 ?_)
      simp only [List.take_nil, lay]
      rw [setRow_self hbe]
      go_end0
      refine ⟨rfl, ?_, (Fr.refl _ _ _).drew⟩
      rw [show partB I off 0 = [] from rfl, List.append_nil]
      exact hbe
    have hNe : N ≠ p := by have := HN.out; omega
    by_cases hen : off + n < I.length
    · obtain ⟨b', o', rfl, hSd⟩ := HS.out.mid off n hin (by omega)
      have ht1 : (n : Int) < (I.length : Int) - (off : Int) := by omega
      have hq1 : (off : Int) ≤ (off : Int) + (n : Int) := by omega
      have hq2 : (off : Int) + (n : Int) ≤ (I.length : Int) := by omega
      have hq3 : ((off : Int) + (n : Int)).toNat - off = n := by omega
      have hq4 : (0 : Int) ≤ (off : Int) + (n : Int) := by omega
      have hq5 : (off : Int) + (n : Int) ≤ (cap : Int) := by omega
      have hq6 : off ≤ ((off : Int) + (n : Int)).toNat := by omega
      go_enter Sang.func46, Sang.ntmps46
      go_wp2_with fail
      have hSe : Sl w.drew .u8 (.slice (some ⟨b', o' + off, none⟩) n (cap - off)) ((I.drop off).take n) := hSd
      have hbe := hb.drew
      go_region_law (refine step_copy 33 33 5 (.tmp 34) (.tmp 38) b p n n .u8 t (List.replicate N 0) ((I.drop off).take n) (.slice (some ⟨b', o' + off, none⟩) n (cap - off)) (by simp [Act.put, Act.eval]) (by simp [Act.put, Act.eval]) hbe hSe (by simp; omega) i5 und33 hi5 hs5 ?_)
      rw [List.take_take, Nat.min_self, HN.out, lay_behind p n _ (by simp; omega), partB_lay]
      go_end0
      exact ⟨rfl, IB.setRow hb.lt _ _ _, Fr.setRow (X := fun x => x = b) (Fr.refl _ _ _).drew (.inr rfl) _ _ _⟩
    · obtain ⟨b', o', rfl, hSd⟩ := HS.out.drop off hin
      have ht1 : ¬ (n : Int) < (I.length : Int) - (off : Int) := by omega
      have hq2 : (off : Int) ≤ (I.length : Int) := by omega
      have hq4 : off ≤ I.length := by omega
      have hq5 : (I.length : Int) ≤ (cap : Int) := by omega
      go_enter Sang.func46, Sang.ntmps46
      go_wp2_with fail
      have hSe : Sl w.drew .u8 (.slice (some ⟨b', o' + off, none⟩) (I.length - off) (cap - off)) (I.drop off) := hSd
      have hbe := hb.drew
      go_region_law (refine step_copy 33 33 5 (.tmp 34) (.tmp 38) b p n n .u8 t (List.replicate N 0) (I.drop off) (.slice (some ⟨b', o' + off, none⟩) (I.length - off) (cap - off)) (by simp [Act.put, Act.eval]) (by simp [Act.put, Act.eval]) hbe hSe (by simp; omega) i5 und33 hi5 hs5 ?_)
      rw [HN.out, lay_behind p n _ (by simp; omega), partB_lay]
      go_end0
      exact ⟨rfl, IB.setRow hb.lt _ _ _, Fr.setRow (X := fun x => x = b) (Fr.refl _ _ _).drew (.inr rfl) _ _ _⟩
  · go_enter Sang.func46, Sang.ntmps46
    go_wp2_with fail
    go_end0
    refine ⟨rfl, ?_, Fr.refl _ _ _⟩
    rw [partB_past _ _ _ (by omega), List.replicate_append_replicate, ← HN.out]
    exact hb
end Go.Proofs.Ygcsan
