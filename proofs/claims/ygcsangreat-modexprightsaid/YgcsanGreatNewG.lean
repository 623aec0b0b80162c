/-
  obs.addTo onto nought.
-/
import Derived.Test.YgcsanGreatNewE
import Derived.Test.YgcsanGreatTx
import Derived.Deep.RegionHeld3
namespace Go.Proofs.YgcsanGreat
open Go.RowKit
set_option linter.unusedSimpArgs false
set_option linter.unusedVariables false

/-- the sum on the way: noughts, and behind them what was added -/
def curG (LS : List Value) (B : List Nat) (so i : Nat) : List Value := LS.take (so + i) ++ (byV (B.drop i) ++ LS.drop (so + 32))
section
variable {LS : List Value} {B : List Nat} {so : Nat}
theorem curG_all (hl : B.length = 32) : curG LS B so 32 = LS := by
  unfold curG
  rw [List.drop_of_length_le (by omega)]
  show LS.take (so + 32) ++ ([] ++ LS.drop (so + 32)) = LS
  simp
theorem curG_length (hl : B.length = 32) (hs : so + 32 ≤ LS.length) {i : Nat} (hi : i ≤ 32) : (curG LS B so i).length = LS.length := by
  simp [curG, byV]; omega
theorem curG_at (hs : so + 32 ≤ LS.length) {i : Nat} (hi : i < 32) : (curG LS B so (i + 1))[so + i]? = LS[so + i]? := by
  unfold curG
  rw [List.getElem?_append_left (by simp; omega), List.getElem?_take_of_lt (by omega)]
theorem curG_set (hl : B.length = 32) (hs : so + 32 ≤ LS.length) {i d : Nat} (hi : i < 32) (hd : B.getD i 0 = d) : (curG LS B so (i + 1)).set (so + i) (.int .u8 (d : Int)) = curG LS B so i := by
  unfold curG
  have hlt : so + i < LS.length := by omega
  rw [show so + (i + 1) = (so + i) + 1 by omega, List.take_add_one, List.getElem?_eq_getElem hlt]
  simp only [Option.toList_some, List.append_assoc]
  rw [List.set_append_right _ _ (by simp; omega)]
  have e : so + i - (LS.take (so + i)).length = 0 := by simp; omega
  rw [e]
  have hb : i < B.length := by omega
  have : B[i] = d := by rw [← hd]; simp [List.getD, hb]
  rw [List.drop_eq_getElem_cons hb, this]
  rfl
end

theorem VB.setG {w : World} {b : Nat} {t : TypeId} {L : List Value} (h : VB w b t L) {i : Nat} (hi : i < L.length) (v : Value) : VB (w.setCell ⟨b, i, none⟩ v) b t (L.set i v) := by
  have hl := h.lt
  have h1 : w.heap[b] = .cells L.toArray t (0, 0) := by
    unfold VB at h
    exact (Array.getElem?_eq_some_iff.1 h).2
  unfold VB World.setCell
  simp only
  rw [Array.getElem?_modify, if_pos rfl]
  rw [Array.getElem?_eq_getElem hl, h1]
  simp

set_option maxRecDepth 10000 in
set_option maxHeartbeats 1000000 in
theorem addTo_gen (s so g off : Nat) (ts t : TypeId) (LS LA : List Value) (B : List Nat) (w : World) (hS : VB w s ts LS) (h : VB w g t LA) (hsg : s ≠ g) (lB : B.length = 32) (dB : Dg 256 B)
    (hB : ∀ i, i < 32 → LA[off + i]? = some (.int .u8 ((B.getD i 0 : Nat) : Int))) (hz : ∀ i, i < 32 → LS[so + i]? = some (.int .u8 0)) :
    Calls Sang.prog 173 #[.pointer (some ⟨s, so, none⟩), .pointer (some ⟨g, off, none⟩)] w fun e w' => e = .returned (.bool true) ∧ VB w' s ts (curG LS B so 0) ∧ Fr w.heap.size (· = s) w w' := by
  have hle : so + 32 ≤ LS.length := by
    have := (List.getElem?_eq_some_iff.1 (hz 31 (by decide))).1
    omega
  have hS0 : VB w s ts (curG LS B so 32) := by rw [curG_all lB]; exact hS
  clear hS
  have HB : Hid (∀ i, i < 32 → LA[off + i]? = some (.int .u8 ((B.getD i 0 : Nat) : Int))) := hB
  have HZ : Hid (∀ i, i < 32 → LS[so + i]? = some (.int .u8 0)) := hz
  have HD : Hid (Dg 256 B) := dB
  have HL : Hid (∀ _ : Unit, so + 32 ≤ LS.length) := fun _ => hle
  clear hB dB hz hle
  go_enter Sang.func173, Sang.ntmps173
  go_wp2_with fail
  go_loopw [6, 5] (fun iv cv wr => ∃ i : Nat, i ≤ 32 ∧ iv = .int .i64 (i : Int) ∧ cv = .int .u16 0 ∧ VB wr s ts (curG LS B so i) ∧ VB wr g t LA ∧ Fr w.heap.size (· = s) w wr) (fun i _ _ => (intOf i).toNat)
  case atStart => exact ⟨32, Nat.le_refl _, rfl, rfl, hS0, h, Fr.refl _ _ _⟩
  case round =>
    obtain ⟨i, hi, rfl, rfl, hSr, hr, hfr⟩ := hrel
    clear hS0 h
    cases i with
    | zero =>
      go_wp2_with fail
      go_ret
      exact ⟨rfl, hSr, hfr⟩
    | succ i =>
      have hin : i < B.length := by omega
      obtain ⟨d, Hd⟩ : ∃ d, Hid (∀ _ : Unit, B.getD i 0 = d) := ⟨_, fun _ => rfl⟩
      have hd256 : (d : Int) ≤ 255 := by
        have : d ∈ B := by rw [← Hd.out ()]; simp [List.getD, hin]
        have := HD.out d this
        omega
      have hcell := HB.out i (by omega)
      rw [Hd.out ()] at hcell
      have kg := hr.drew.cell (off + i) hcell
      have hcs : (curG LS B so (i + 1))[so + i]? = some (.int .u8 0) := by rw [curG_at (HL.out ()) (by omega)]; exact HZ.out i (by omega)
      have ks := hSr.drew.cell (so + i) hcs
      have zs := hSr.drew.unfrozen (so + i)
      have hset := curG_set (LS := LS) (so := so) lB (HL.out ()) (show i < 32 by omega) (Hd.out ())
      have hlen := curG_length (LS := LS) (so := so) lB (HL.out ()) (i := i + 1) (by omega)
      have HST : Hid (∀ _ : Unit, (curG LS B so (i + 1)).set (so + i) (.int .u8 (d : Int)) = curG LS B so i ∧ so + i < (curG LS B so (i + 1)).length) := fun _ => ⟨hset, by rw [hlen]; have := HL.out (); omega⟩
      clear hset hlen hcs
      have hii : (i : Int) < 32 := by omega
      have hi0 : (0 : Int) ≤ (i : Int) := by omega
      have e1 : ((i + 1 : Nat) : Int) - 1 = (i : Int) := by omega
      have e2 : (((i : Nat) : Int) + 1) - 1 = (i : Int) := by omega
      have ew : IntKind.u16.wrap (d : Int) = (d : Int) := by rw [IntKind.wrap_u16]; omega
      have ew8 : IntKind.u8.wrap (d : Int) = (d : Int) := by rw [IntKind.wrap_u8]; omega
      have eiw : IntKind.i64.wrap (i : Int) = (i : Int) := by rw [IntKind.wrap_i64]; omega
      go_wp2_with fail
      have ew0 : IntKind.u16.wrap 0 = 0 := by rw [IntKind.wrap_u16]; rfl
      have e256 : (d : Int) / 256 = 0 := by omega
      go_region_held3 (fun w' => w'.cell? ⟨s, so + i, none⟩ = some (.int .u8 0) ∧ w'.cell? ⟨g, off + i, none⟩ = some (.int .u8 (d : Int))) (exact ⟨ks, kg⟩) (fail)
      go_wp2_with fail
      refine ⟨⟨i, by omega, by go_num, ?_, ?_, hr.drew.other (a := ⟨s, so + i, none⟩) (by simpa using hsg) _, hfr.drew.setCell (.inr rfl) _⟩, by simp [intOf]⟩
      · rfl
      · have := hSr.drew.setG (i := so + i) (HST.out ()).2 (.int .u8 (d : Int))
        rw [(HST.out ()).1] at this
        exact this
end Go.Proofs.YgcsanGreat
