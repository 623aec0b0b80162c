/-
  The state's cells: laying and reading parts; T{..} of a frame.
-/
import Derived.Test.YgcsanGreatS16
import Derived.Test.YgcsanGreatS1
namespace Go.Proofs.YgcsanGreat
open Go.RowKit
set_option linter.unusedSimpArgs false
set_option linter.unusedVariables false
attribute [-go_sem] loadVar storeVar Instr.build Instr.fill Instr.buildSlice Builtin.append_


theorem self_cell {w : World} {b : Nat} {t : TypeId} {L : List Value} (h : VB w b t L) (i : Nat) {v : Value} (hi : L[i]? = some v) : w.setCell ⟨b, i, none⟩ v = w := by
  have hl : i < L.length := (List.getElem?_eq_some_iff.1 hi).1
  have := setCells_setV [v] w b t L i h (by simp; omega)
  simp only [World.setCells, layV] at this
  rw [this]
  have e : L.set i v = L := by
    apply List.ext_getElem?
    intro j
    by_cases hj : i = j
    · subst hj; rw [List.getElem?_set_self hl, hi]
    · rw [List.getElem?_set_ne hj]
  rw [e]
  exact setV_self h
theorem st_lay39 (ac wa fr rt : Value) (ph st ap : Nat) (li tg le pr tt : Value) (og : List Nat) (h : og.length = 20) : layV (stV ac wa fr rt ph st ap li tg le pr tt og) 39 (byV (List.replicate 20 0)) = stV ac wa fr rt ph st ap li tg le pr tt og := by
  have hl := stV_length ac wa fr rt ph st ap li tg le pr tt og h
  have lz : (byV (List.replicate 20 0)).length = 20 := by rw [byV_length]; simp
  have lo : (byV og).length = 20 := by rw [byV_length, h]
  rw [layV_eq _ _ _ (by omega), lz]
  unfold stV
  generalize byV (List.replicate 20 0) = Zv at lz ⊢
  generalize byV og = Ov at lo ⊢
  rw [List.take_append, List.drop_append]
  simp [List.take_append, List.drop_append, lo, lz, List.take_of_length_le (show Ov.length ≤ 20 by omega), List.drop_eq_nil_of_le (show Ov.length ≤ 40 by omega), List.drop_eq_nil_of_le (show Zv.length ≤ 20 by omega)]
theorem st_lay19 (ac wa fr rt : Value) (ph st ap : Nat) (li tg le pr tt : Value) (og A : List Nat) (h : og.length = 20) (hA : A.length = 20) : layV (stV ac wa fr rt ph st ap li tg le pr tt og) 19 (byV A) = stV ac wa fr rt ph st ap li tg le pr tt A := by
  have hl := stV_length ac wa fr rt ph st ap li tg le pr tt og h
  have lz : (byV A).length = 20 := by rw [byV_length, hA]
  have lo : (byV og).length = 20 := by rw [byV_length, h]
  rw [layV_eq _ _ _ (by omega), lz]
  unfold stV
  rw [List.take_append, List.drop_append]
  simp [List.take_append, List.drop_append, lo, lz]
theorem st_env (ac wa fr rt : Value) (ph st ap : Nat) (li tg le pr tt : Value) (og : List Nat) (h : og.length = 20) (i : Nat) : (stV ac wa fr rt ph st ap li tg le pr tt og)[59 + i]? = envV[i]? := by
  have lo : (byV og).length = 20 := by rw [byV_length, h]
  have lz : (byV (List.replicate 20 0)).length = 20 := by rw [byV_length]; simp
  unfold stV
  generalize byV (List.replicate 20 0) = Zv at lz ⊢
  generalize byV og = Ov at lo ⊢
  rw [List.getElem?_append_right (by simp; omega), List.getElem?_append_right (by simp [lo]; omega), List.getElem?_append_right (by simp [lo, lz]; omega)]
  congr 1
  simp [lo, lz]
  omega
theorem env_fee (i : Nat) (hi : i < 32) : envV[87 + i]? = some (.int .u8 0) := by
  have h : subV envV 87 32 = byV z32 := by kernel_rfl
  have h2 : (subV envV 87 32)[i]? = envV[87 + i]? := by
    unfold subV
    rw [List.getElem?_take, if_pos hi, List.getElem?_drop]
  rw [← h2, h]
  have := z32_at i hi
  rwa [Nat.zero_add] at this
theorem st_fee (ac wa fr rt : Value) (ph st ap : Nat) (li tg le pr tt : Value) (og : List Nat) (h : og.length = 20) (i : Nat) (hi : i < 32) : (stV ac wa fr rt ph st ap li tg le pr tt og)[146 + i]? = some (.int .u8 0) := by
  rw [show 146 + i = 59 + (87 + i) by omega, st_env _ _ _ _ _ _ _ _ _ _ _ _ _ h]
  exact env_fee i hi
theorem AS.old {w : World} {k : Nat} {v : Value} (h : AS w k v) {j : Nat} (hj : w.heap.size ≤ j) : ∀ a n d, v = .slice (some a) n d → a.block ≠ j := by
  intro a n d e
  obtain ⟨R, -, -, ⟨rfl, -⟩ | ⟨b, t, L, cap, rfl, -, -, hb, -⟩⟩ := h
  · cases e
  · have := hb.lt
    simp at e
    rw [← e.1]
    simp only
    omega
theorem bld119 (w : World) (tg val : Value) (B A : List Nat) (lB : B.length = 20) (lA : A.length = 20) (o1 : tg.oneCell' = true) (o2 : val.oneCell' = true) : (Instr.build 119 #[(0, .int .u8 0), (4, tg), (5, val), (12, .agg (byV B).toArray), (13, .agg (byV A).toArray)]).run Sang.prog w = .ok (.agg (frV 0 tg val (.slice none 0 0) B A (wdV (.slice none 0 0) (.slice none 0 0))).toArray) w := by
  have c1 : tg.cells = #[tg] := by cases tg <;> first | rfl | simp [Value.oneCell'] at o1
  have c2 : val.cells = #[val] := by cases val <;> first | rfl | simp [Value.oneCell'] at o2
  have lBv : (byV B).length = 20 := by rw [byV_length, lB]
  have lAv : (byV A).length = 20 := by rw [byV_length, lA]
  have lz : (byV (List.replicate 20 0)).length = 20 := by rw [byV_length]; simp
  have l1 : ∀ (g v : Value) (X Y : List Value), X.length = 20 → Y.length = 20 → ([.int .u8 0, .int .u8 0, .bool false, .slice none 0 0, g, v, .slice none 0 0, .slice none 0 0, .slice none 0 0, .slice none 0 0, .slice none 0 0, .slice none 0 0] ++ (X ++ (Y ++ wdV (.slice none 0 0) (.slice none 0 0))) : List Value).length = 60 := fun g v X Y h1 h2 => by simp [h1, h2, wdV]
  have a12 : ∀ (g v : Value) (X Y N : List Value), X.length = 20 → Y.length = 20 → N.length = 20 → layV ([.int .u8 0, .int .u8 0, .bool false, .slice none 0 0, g, v, .slice none 0 0, .slice none 0 0, .slice none 0 0, .slice none 0 0, .slice none 0 0, .slice none 0 0] ++ (X ++ (Y ++ wdV (.slice none 0 0) (.slice none 0 0)))) 12 N = [.int .u8 0, .int .u8 0, .bool false, .slice none 0 0, g, v, .slice none 0 0, .slice none 0 0, .slice none 0 0, .slice none 0 0, .slice none 0 0, .slice none 0 0] ++ (N ++ (Y ++ wdV (.slice none 0 0) (.slice none 0 0))) := fun g v X Y N h1 h2 h3 => by
    rw [layV_eq _ _ _ (by rw [l1 g v X Y h1 h2]; omega), h3]
    simp [List.drop_append, h1]
  have a32 : ∀ (g v : Value) (X Y N : List Value), X.length = 20 → Y.length = 20 → N.length = 20 → layV ([.int .u8 0, .int .u8 0, .bool false, .slice none 0 0, g, v, .slice none 0 0, .slice none 0 0, .slice none 0 0, .slice none 0 0, .slice none 0 0, .slice none 0 0] ++ (X ++ (Y ++ wdV (.slice none 0 0) (.slice none 0 0)))) 32 N = [.int .u8 0, .int .u8 0, .bool false, .slice none 0 0, g, v, .slice none 0 0, .slice none 0 0, .slice none 0 0, .slice none 0 0, .slice none 0 0, .slice none 0 0] ++ (X ++ (N ++ wdV (.slice none 0 0) (.slice none 0 0))) := fun g v X Y N h1 h2 h3 => by
    rw [layV_eq _ _ _ (by rw [l1 g v X Y h1 h2]; omega), h3]
    simp [List.take_append, List.drop_append, h1, h2, List.take_of_length_le (show X.length ≤ 20 by omega), List.drop_eq_nil_of_le (show X.length ≤ 40 by omega), List.drop_eq_nil_of_le (show Y.length ≤ 20 by omega)]
  have hu : ∃ fs, Sang.prog.underlying 119 = some (.struct fs) ∧ fs.all (fun f => (Sang.prog.info? f.type).isSome) = true ∧ fs.map (gOf Sang.prog) = #[(0, 1), (1, 1), (2, 1), (3, 1), (4, 1), (5, 1), (6, 1), (7, 1), (8, 1), (9, 1), (10, 1), (11, 1), (12, 20), (32, 20), (52, 8)] := ⟨_, Sang.underlying119, by kernel_rfl, by kernel_rfl⟩
  obtain ⟨fs, g1, g2, g3⟩ := hu
  have hz : (Sang.prog.info? 119).map (·.zero) = some (some (.agg zfV.toArray)) := by kernel_rfl
  refine run_buildP 119 fs _ _ [(0, .int .u8 0, [.int .u8 0]), (4, tg, [tg]), (5, val, [val]), (12, .agg (byV B).toArray, byV B), (13, .agg (byV A).toArray, byV A)] _ g1 g2 g3 hz (by intro p hp; simp at hp; rcases hp with rfl | rfl | rfl | rfl | rfl <;> first | rfl | exact c1 | exact c2) ?_ w
  have e0 : zfV = [.int .u8 0, .int .u8 0, .bool false, .slice none 0 0, (.slice none 0 0), (.slice none 0 0), .slice none 0 0, .slice none 0 0, .slice none 0 0, .slice none 0 0, .slice none 0 0, .slice none 0 0] ++ (byV (List.replicate 20 0) ++ (byV (List.replicate 20 0) ++ wdV (.slice none 0 0) (.slice none 0 0))) := rfl
  have lzf : zfV.length = 60 := by kernel_rfl
  generalize byV (List.replicate 20 0) = Zv at e0 lz
  have e1 : layV (layV (layV zfV 0 [.int .u8 0]) 4 [tg]) 5 [val] = [.int .u8 0, .int .u8 0, .bool false, .slice none 0 0, tg, val, .slice none 0 0, .slice none 0 0, .slice none 0 0, .slice none 0 0, .slice none 0 0, .slice none 0 0] ++ (Zv ++ (Zv ++ wdV (.slice none 0 0) (.slice none 0 0))) := by rw [e0]; rfl
  simp only [fillV, List.getElem?_toArray, List.getElem?_cons_zero, List.getElem?_cons_succ, List.length_cons, List.length_nil, layV_length, lzf, lBv, lAv]
  simp only [Nat.zero_add, ne_eq, not_true_eq_false, decide_false, Bool.false_or, Bool.or_false]
  simp only [e1, a12 _ _ _ _ _ lz lz lBv, a32 _ _ _ _ _ lBv lz lAv]
  simp [frV]
theorem st_coin (ac wa fr rt : Value) (ph st ap : Nat) (li tg le pr tt : Value) (og : List Nat) (h : og.length = 20) : subV (stV ac wa fr rt ph st ap li tg le pr tt og) 59 20 = byV (adNo 192) := by
  have lo : (byV og).length = 20 := by rw [byV_length, h]
  have lz : (byV (List.replicate 20 0)).length = 20 := by rw [byV_length]; simp
  have e : subV envV 0 20 = byV (adNo 192) := by kernel_rfl
  rw [← e]
  unfold stV subV
  generalize byV (List.replicate 20 0) = Zv at lz ⊢
  generalize byV og = Ov at lo ⊢
  simp [List.drop_append, lo, lz, List.drop_eq_nil_of_le (show Ov.length ≤ 40 by omega), List.drop_eq_nil_of_le (show Zv.length ≤ 20 by omega)]
theorem digs_one : digs 1 = [1] := (eq_digs (by intro d hd; simp at hd; omega) (.inr ⟨[], 1, rfl, by decide⟩) (by rfl)).symm
theorem top_digit (n : Nat) (h1 : 131072 ≤ n) (h2 : n < 196608) : (digs n).getD ((digs n).length - 1) 0 = 2 := by
  have e : [n % 256, n / 256 % 256, 2] = digs n := eq_digs (by intro d hd; simp at hd; omega) (.inr ⟨[n % 256, n / 256 % 256], 2, rfl, by decide⟩) (by simp [val]; omega)
  rw [← e]
  rfl
theorem top_limit : (digs 200000).getD ((digs 200000).length - 1) 0 = 3 := by
  have e : [64, 13, 3] = digs 200000 := eq_digs (by intro d hd; simp at hd; omega) (.inr ⟨[64, 13], 3, rfl, by decide⟩) (by rfl)
  rw [← e]
  rfl
end Go.Proofs.YgcsanGreat
