/-
  Package law: intrinsicOf.
-/
import Derived.Test.YgcsanGreatPlainH
namespace Go.Proofs.YgcsanGreat
open Go.RowKit
set_option linter.unusedSimpArgs false
set_option linter.unusedVariables false

theorem txV_create (to value : List Nat) (data : Value) (h1 : to.length = 20) (h2 : value.length = 32) : (txV to value data)[40]? = some (.bool false) := by
  simp [txV, byV, zsV, adNo, List.getElem?_append, h1, h2]
theorem txV_nonce (to value : List Nat) (data : Value) (h1 : to.length = 20) (h2 : value.length = 32) : (txV to value data)[41]? = some (.int .u64 0) := by
  simp [txV, byV, zsV, adNo, List.getElem?_append, h1, h2]
theorem txV_gas (to value : List Nat) (data : Value) (h1 : to.length = 20) (h2 : value.length = 32) : (txV to value data)[42]? = some (.int .u64 200000) := by
  simp [txV, byV, zsV, adNo, List.getElem?_append, h1, h2]
theorem txV_data (to value : List Nat) (data : Value) (h1 : to.length = 20) (h2 : value.length = 32) : (txV to value data)[107]? = some data := by
  simp [txV, byV, zsV, adNo, List.getElem?_append, h1, h2]
theorem txV_dynamic (to value : List Nat) (data : Value) (h1 : to.length = 20) (h2 : value.length = 32) : (txV to value data)[108]? = some (.bool false) := by
  simp [txV, byV, zsV, adNo, List.getElem?_append, h1, h2]
theorem txV_access (to value : List Nat) (data : Value) (h1 : to.length = 20) (h2 : value.length = 32) : (txV to value data)[173]? = some (.slice none 0 0) := by
  simp [txV, byV, zsV, adNo, List.getElem?_append, h1, h2]

/-- how many are not zero -/
def nz : List Nat → Nat
  | [] => 0
  | d :: D => (if d = 0 then 0 else 1) + nz D
theorem nz_append (D E : List Nat) : nz (D ++ E) = nz D + nz E := by
  induction D with
  | nil => simp [nz]
  | cons d D ih => simp [nz, ih]; omega
theorem nz_le (D : List Nat) : nz D ≤ D.length := by
  induction D with
  | nil => simp [nz]
  | cons d D ih => simp [nz]; split <;> omega
theorem nz_take (D : List Nat) (i d : Nat) (hi : i < D.length) (hd : D.getD i 0 = d) : nz (D.take (i + 1)) = nz (D.take i) + (if d = 0 then 0 else 1) := by
  rw [List.take_add_one, nz_append, List.getElem?_eq_getElem hi]
  have : D[i] = d := by rw [← hd]; simp [List.getD, hi]
  simp [nz, this]
/-- what a transaction with these data pays ahead -/
def intrN (D : List Nat) : Nat := 21000 + 4 * D.length + 12 * nz D

set_option maxRecDepth 10000 in
set_option maxHeartbeats 600000 in
theorem intrinsicOf_any (to value D : List Nat) (data : Value) (w : World) (h1 : to.length = 20) (h2 : value.length = 32) (hD : Sl w .u8 data D) (hs : D.length ≤ 65536) :
    Calls Sang.prog 40 #[.agg (txV to value data).toArray] w fun e w' => e = .returned (.int .u64 (intrN D : Nat)) ∧ Fr w.heap.size no w w' := by
  have c1 := txV_create to value data h1 h2
  have c2 := txV_data to value data h1 h2
  have c3 := txV_access to value data h1 h2
  generalize txV to value data = T at *
  have hV := VB.new w 30 T
  have hf0 : Fr w.heap.size no w (w.alloc (.cells T.toArray 30)) := (Fr.refl _ _ _).alloc (Nat.le_refl _) _
  have hD1 := hD.fr hf0
  have k1 := hV.cell 40 c1
  have k2 := hV.cell 107 c2
  have k3 := hV.cell 173 c3
  obtain ⟨a, cap, rfl, hl, hm, hc⟩ := hD1
  have HC : Hid (D = [] ∨ ∃ b off, a = some ⟨b, off, none⟩ ∧ ∀ i, i < D.length → (w.alloc (.cells T.toArray 30)).cell? ⟨b, off + i, none⟩ = some (.int .u8 ((D.getD i 0 : Nat) : Int))) := hc
  have HF : Hid (Fr w.heap.size no w (w.alloc (.cells T.toArray 30))) := hf0
  have HL : Hid (D.length ≤ 65536) := hs
  have hs' : (D.length : Int) ≤ 65536 := by omega
  clear hc hf0 hD c1 c2 c3 hV hs
  unfold maxLen at hm
  go_enter Sang.func40, Sang.ntmps40
  go_wp2_with fail
  generalize w.alloc (.cells T.toArray 30) = w1 at k1 k2 k3 HC HF ⊢
  go_loop [11, 3] (fun iv gv => ∃ i g : Nat, i ≤ D.length ∧ iv = .int .i64 (i : Int) ∧ gv = .int .u64 (g : Int) ∧ Hid (∀ _ : Unit, g = 21000 + 4 * i + 12 * nz (D.take i))) (fun i _ => D.length - (intOf i).toNat)
  case atStart => exact ⟨0, 21000, by omega, rfl, rfl, fun _ => by simp [nz]⟩
  case round =>
    obtain ⟨i, g, hi, rfl, rfl, HG⟩ := hrel
    have hgb : (g : Int) ≤ 2000000 := by
      have h1 := HG.out ()
      have h2 := nz_le (D.take i)
      have h3 := HL.out
      simp at h2
      omega
    by_cases hin : i < D.length
    · rcases HC.out with h0 | ⟨b, off, rfl, hcs⟩
      · rw [h0] at hin; simp at hin
      obtain ⟨d, HD, hcd⟩ := Sl.at (n := 0) (cap := 0) hcs i hin
      have HD' : Hid (∀ _ : Unit, D.getD i 0 = d) := fun _ => HD.out
      clear hcs HD
      by_cases hz : d = 0
      · have hz' : ((d : Int) != 0) = false := by simpa using hz
        have HN : Hid (∀ _ : Unit, nz (D.take (i + 1)) = nz (D.take i) + 0) := fun _ => by rw [nz_take D i d hin (HD'.out ()), if_pos hz]
        subst hz
        go_wp2_with fail
        refine ⟨⟨i + 1, g + 4, by omega, by go_num, by go_num, fun _ => ?_⟩, by simp [intOf]; omega⟩
        rw [HN.out (), HG.out ()]
        omega
      · have hz' : ((d : Int) != 0) = true := by simpa using hz
        have hz2 : ((d : Int) == 0) = false := by simpa using hz
        have HN : Hid (∀ _ : Unit, nz (D.take (i + 1)) = nz (D.take i) + 1) := fun _ => by rw [nz_take D i d hin (HD'.out ()), if_neg hz]
        clear hz
        go_wp2_with fail
        refine ⟨⟨i + 1, g + 4 + 12, by omega, by go_num, by go_num, fun _ => ?_⟩, by simp [intOf]; omega⟩
        rw [HN.out (), HG.out ()]
        omega
    · have : i = D.length := by omega
      subst this
      have HGe : Hid (∀ _ : Unit, g = intrN D) := fun _ => by rw [HG.out (), List.take_length]; rfl
      go_wp2_with fail
      go_loop [25, 3] (fun iv gv => iv = .int .i64 0 ∧ gv = .int .u64 (g : Int)) (fun _ _ => 0)
      case atStart => exact ⟨rfl, rfl⟩
      case round =>
        obtain ⟨rfl, rfl⟩ := hrel
        go_wp2_with fail
        go_ret
        refine ⟨?_, HF.out⟩
        rw [← HGe.out ()]
        rfl
end Go.Proofs.YgcsanGreat
