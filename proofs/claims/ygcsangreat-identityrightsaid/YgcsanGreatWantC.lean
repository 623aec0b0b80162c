/-
  Package law: modExpWant answers what the precompiled contract answers.
-/
import Derived.Test.YgcsanGreatWantB
namespace Go.Proofs.YgcsanGreat
open Go.RowKit
set_option linter.unusedSimpArgs false
set_option linter.unusedVariables false

theorem mx_cost (lb le lm b e m : Nat) : costN 5 (mxIn lb le lm b e m) =
    max 200 ((max lb lm + 7) / 8 * ((max lb lm + 7) / 8) * max (if 32 < le then 8 * (le - 32) else blen (if le = 0 then 0 else e) - 1) 1 / 3) := by
  obtain ⟨h0, h1, h2⟩ := mx_len lb le lm b e m
  unfold costN turnsN
  rw [if_neg (by decide), h0, h1, h2, mx_head]
  by_cases h : 32 < le
  · simp only [if_pos h]
    rw [show blen 0 = 0 from rfl, show 0 - 1 + 8 * (le - 32) = 8 * (le - 32) by omega]
  · simp only [if_neg h]
    rfl

theorem mx_ok (lb le lm b e m : Nat) : lenOk (mxIn lb le lm b e m) ↔ lb ≤ 64 ∧ le ≤ 64 ∧ lm ≤ 64 := by
  obtain ⟨h0, h1, h2⟩ := mx_len lb le lm b e m
  constructor
  · intro h
    have a := h 0 (by omega)
    have b := h 1 (by omega)
    have c := h 2 (by omega)
    rw [h0] at a
    rw [h1] at b
    rw [h2] at c
    exact ⟨a, b, c⟩
  · rintro ⟨a, b, c⟩ i hi
    have : i = 0 ∨ i = 1 ∨ i = 2 := by omega
    rcases this with rfl | rfl | rfl
    · rw [h0]; exact a
    · rw [h1]; exact b
    · rw [h2]; exact c

theorem mx_want (lb le lm b e m : Nat) (hm : m < 256) : outN (mxIn lb le lm b e m) = wantOut lm (powF (if lb = 0 then 0 else b) (if le = 0 then 0 else e) m) := mx_out lb le lm b e m hm

theorem want_ok (lb le lm b e m : Nat) (w : World) (h0 : lb ≤ 64) (h1 : le ≤ 64) (h2 : lm ≤ 64) (hb : b < 256) (he : e < 256) (hm : m < 256) :
    Calls Sang.prog 39 #[.int .u8 (lb : Int), .int .u8 (le : Int), .int .u8 (lm : Int), .int .u8 (b : Int), .int .u8 (e : Int), .int .u8 (m : Int)] w fun e' w' =>
      ∃ v', e' = .returned (.tuple #[v', .int .u64 (costN 5 (mxIn lb le lm b e m) : Nat), .bool true]) ∧ Sl w' .u8 v' (outN (mxIn lb le lm b e m)) ∧ Fr w.heap.size no w w' := by
  rw [mx_cost, mx_want _ _ _ _ _ _ hm]
  by_cases a : lb = 0
  · rw [if_pos a]
    by_cases z : le = 0
    · rw [if_pos z, if_neg (show ¬ 32 < le by omega)]
      by_cases l : lm = 0
      · exact want_azl lb le lm b e m w h0 h1 h2 hb he hm a z l
      by_cases r : m = 0
      · exact want_azm lb le lm b e m w h0 h1 h2 hb he hm a z ⟨by omega, r⟩
      · exact want_azr lb le lm b e m w h0 h1 h2 hb he hm a z ⟨by omega, by omega⟩
    · rw [if_neg z]
      by_cases s : 32 < le
      · rw [if_pos s]
        by_cases l : lm = 0
        · exact want_abl lb le lm b e m w h0 h1 h2 hb he hm a s l
        by_cases r : m = 0
        · exact want_abm lb le lm b e m w h0 h1 h2 hb he hm a s ⟨by omega, r⟩
        · exact want_abr lb le lm b e m w h0 h1 h2 hb he hm a s ⟨by omega, by omega⟩
      · rw [if_neg s]
        by_cases l : lm = 0
        · exact want_asl lb le lm b e m w h0 h1 h2 hb he hm a ⟨by omega, by omega⟩ l
        by_cases r : m = 0
        · exact want_asm lb le lm b e m w h0 h1 h2 hb he hm a ⟨by omega, by omega⟩ ⟨by omega, r⟩
        · exact want_asr lb le lm b e m w h0 h1 h2 hb he hm a ⟨by omega, by omega⟩ ⟨by omega, by omega⟩
  · rw [if_neg a]
    replace a : 0 < lb := by omega
    by_cases z : le = 0
    · rw [if_pos z, if_neg (show ¬ 32 < le by omega)]
      by_cases l : lm = 0
      · exact want_bzl lb le lm b e m w h0 h1 h2 hb he hm a z l
      by_cases r : m = 0
      · exact want_bzm lb le lm b e m w h0 h1 h2 hb he hm a z ⟨by omega, r⟩
      · exact want_bzr lb le lm b e m w h0 h1 h2 hb he hm a z ⟨by omega, by omega⟩
    · rw [if_neg z]
      by_cases s : 32 < le
      · rw [if_pos s]
        by_cases l : lm = 0
        · exact want_bbl lb le lm b e m w h0 h1 h2 hb he hm a s l
        by_cases r : m = 0
        · exact want_bbm lb le lm b e m w h0 h1 h2 hb he hm a s ⟨by omega, r⟩
        · exact want_bbr lb le lm b e m w h0 h1 h2 hb he hm a s ⟨by omega, by omega⟩
      · rw [if_neg s]
        by_cases l : lm = 0
        · exact want_bsl lb le lm b e m w h0 h1 h2 hb he hm a ⟨by omega, by omega⟩ l
        by_cases r : m = 0
        · exact want_bsm lb le lm b e m w h0 h1 h2 hb he hm a ⟨by omega, by omega⟩ ⟨by omega, r⟩
        · exact want_bsr lb le lm b e m w h0 h1 h2 hb he hm a ⟨by omega, by omega⟩ ⟨by omega, by omega⟩
end Go.Proofs.YgcsanGreat
