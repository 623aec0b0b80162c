/-
  World.clone of a world of one account.
-/
import Derived.Test.YgcsanGreatS7
import Derived.Test.YgcsanGreatS1
import Derived.Deep.DeepCutAuto
namespace Go.Proofs.YgcsanGreat
open Go.RowKit
set_option linter.unusedSimpArgs false
set_option linter.unusedVariables false
attribute [-go_sem] loadVar storeVar Instr.build Instr.fill Instr.buildSlice Builtin.append_


/-- a world: accounts and warm addresses, nothing else -/
def wdV (ac wa : Value) : List Value := [ac, wa, .slice none 0 0, .slice none 0 0, .slice none 0 0, .slice none 0 0, .slice none 0 0, .slice none 0 0]
theorem wdV_flat (ac wa : Value) (h1 : ac.oneCell' = true) (h2 : wa.oneCell' = true) : Flat (wdV ac wa) :=
  Flat.cons h1 (Flat.cons h2 (Flat.cons rfl (Flat.cons rfl (Flat.cons rfl (Flat.cons rfl (Flat.cons rfl (Flat.cons rfl Flat.nil)))))))
theorem siz59 : (Sang.prog.info? 59).map (·.size) = some 8 := by kernel_rfl
theorem und59f : ∃ fs, Sang.prog.underlying 59 = some (.struct fs) ∧ fs.all (fun f => (Sang.prog.info? f.type).isSome) = true ∧
    fs.map (gOf Sang.prog) = #[(0, 1), (1, 1), (2, 1), (3, 1), (4, 1), (5, 1), (6, 1), (7, 1)] :=
  ⟨_, Sang.underlying59, by kernel_rfl, by kernel_rfl⟩
theorem zer59 : (Sang.prog.info? 59).map (·.zero) = some (some (.agg (wdV (.slice none 0 0) (.slice none 0 0)).toArray)) := by kernel_rfl
theorem bld59 (w : World) : (Instr.build 59 #[(3, .slice none 0 0), (4, .slice none 0 0)]).run Sang.prog w = .ok (.agg (wdV (.slice none 0 0) (.slice none 0 0)).toArray) w := by
  obtain ⟨fs, h1, h2, h3⟩ := und59f
  exact run_buildP 59 fs _ _ [(3, .slice none 0 0, [.slice none 0 0]), (4, .slice none 0 0, [.slice none 0 0])] _ h1 h2 h3 zer59 (by intro p hp; simp at hp; rcases hp with rfl | rfl <;> rfl) (by kernel_rfl) w
theorem bld106_4 (w : World) (A : List Nat) (n b : Value) (h : A.length = 20) (h1 : n.cells = #[n]) (h2 : b.cells = #[b]) : (Instr.build 106 #[(0, .agg (byV A).toArray), (1, n), (2, b), (3, .slice none 0 0)]).run Sang.prog w = .ok (.agg (acV A n b (.slice none 0 0) (.slice none 0 0)).toArray) w := by
  obtain ⟨fs, g1, g2, g3⟩ := und106f
  have lB : (byV A).length = 20 := by simp [byV, h]
  refine run_buildP 106 fs _ _ [(0, .agg (byV A).toArray, byV A), (1, n, [n]), (2, b, [b]), (3, .slice none 0 0, [.slice none 0 0])] _ g1 g2 g3 zer106 (by intro p hp; simp at hp; rcases hp with rfl | rfl | rfl | rfl <;> first | rfl | exact h1 | exact h2) ?_ w
  have e0 : layV zaV 0 (byV A) = byV A ++ [.slice none 0 0, .slice none 0 0, .slice none 0 0, .slice none 0 0] := by
    rw [layV_eq _ _ _ (by rw [lB]; simp [zaV, zsV])]
    simp [lB, zaV, zsV]
  have l1 : ∀ x y z u : Value, (byV A ++ [x, y, z, u]).length = 24 := fun x y z u => by simp [lB]
  have s20 : ∀ x y z u v : Value, (byV A ++ [x, y, z, u]).set 20 v = byV A ++ [v, y, z, u] := fun x y z u v => by
    rw [List.set_append_right _ _ (by omega)]; simp [lB]
  have s21 : ∀ x y z u v : Value, (byV A ++ [x, y, z, u]).set 21 v = byV A ++ [x, v, z, u] := fun x y z u v => by
    rw [List.set_append_right _ _ (by omega)]; simp [lB]
  have s22 : ∀ x y z u v : Value, (byV A ++ [x, y, z, u]).set 22 v = byV A ++ [x, y, v, u] := fun x y z u v => by
    rw [List.set_append_right _ _ (by omega)]; simp [lB]
  have lz : zaV.length = 24 := rfl
  simp [fillV, lB, lz, e0, layV, l1, s20, s21, s22, acV]

theorem Nw.mono {B B' : Nat} {v : Value} (h : Nw B v) (hb : B' ≤ B) : Nw B' v := fun a n c e => Nat.le_trans hb (h a n c e)
theorem Sl.alloc {w : World} {k : IntKind} {v : Value} {l : List Nat} (h : Sl w k v l) (o : Obj) : Sl (w.alloc o) k v l := h.fr ((Fr.refl _ _ _).alloc (Nat.le_refl _) _)
theorem Sl.fr2 {w w' : World} {k : IntKind} {v : Value} {l : List Nat} {o : Obj} (h : Sl w k v l) (f : Fr (w.alloc o).heap.size no (w.alloc o) w') : Sl w' k v l := (h.alloc o).fr f
theorem zaV_u8 (i : Nat) (d : Int) (h : zaV[i]? = some (.int .u8 d)) : d = 0 := by
  have hm := List.mem_of_getElem? h
  simp [zaV, zsV] at hm
  exact hm
theorem digs_last (n : Nat) (hn : digs n ≠ []) : (digs n).getD ((digs n).length - 1) 0 ≠ 0 := by
  rcases digs_top n with h | ⟨m, d, h, hd⟩
  · exact absurd h hn
  · rw [h]; simpa using hd
theorem far_za {w : World} {j : Nat} {t : TypeId} {v : Value} {n : Nat} (hV : VB w j t zaV) (hS : Sl w .u8 v (digs n)) : FarS j v := by
  obtain ⟨a, cap, rfl, g1, g2, g3⟩ := hS
  intro a' m cap' e
  cases e
  rcases g3 with h0 | ⟨b, off, g4, g3⟩
  · left; rw [h0]; rfl
  · cases g4
    by_cases hn : (digs n) = []
    · left; rw [hn]; rfl
    refine .inr fun hb => ?_
    simp only at hb
    subst hb
    have hl : 0 < (digs n).length := by
      cases hd : digs n with
      | nil => exact absurd hd hn
      | cons x l => simp
    have hc := g3 ((digs n).length - 1) (by omega)
    have hq : zaV[off + ((digs n).length - 1)]? = some (.int .u8 (((digs n).getD ((digs n).length - 1) 0 : Nat) : Int)) := by
      unfold VB at hV
      simp only [World.cell?, hV] at hc
      simpa using hc
    have := zaV_u8 _ _ hq
    exact digs_last n hn (by omega)
theorem fin_store {X : World} {j : Nat} {N : List Value} {v : Value} {n : Nat} {t : TypeId} (hz : VB X j t zaV) (hs : Sl X .u8 v (digs n)) : Sl (setV X j t N) .u8 v (digs n) :=
  hs.frS (far_za hz hs) ((Fr.refl _ (· = j) _).setV (.inr rfl) _ _)

set_option maxRecDepth 10000 in
set_option maxHeartbeats 400000 in
theorem bytesOf_nil (w : World) :
    Calls Sang.prog 49 #[.slice none 0 0] w fun e w' => e = .returned (.slice none 0 0) ∧ w' = w := by
  have hnil := run_eql_nil (P := Sang.prog) 27 5 none 0 0 und33
  go_enter Sang.func49, Sang.ntmps49
  go_wp2_with fail
  go_ret
  exact ⟨rfl, rfl⟩
set_option maxRecDepth 10000 in
set_option maxHeartbeats 400000 in
theorem natOf_nil (w : World) :
    Calls Sang.prog 51 #[.slice none 0 0] w fun e w' => e = .returned (.slice none 0 0) ∧ w' = w := by
  go_enter Sang.func51, Sang.ntmps51
  go_wp2_with fail
  refine (bytesOf_nil w).mono ?_
  rintro e w1 ⟨rfl, rfl⟩
  go_wp2_with fail
  go_ret
  exact ⟨rfl, rfl⟩
set_option maxRecDepth 10000 in
set_option maxHeartbeats 400000 in
theorem addrsOf_nil (w : World) :
    Calls Sang.prog 118 #[.slice none 0 0] w fun e w' => e = .returned (.slice none 0 0) ∧ w' = w := by
  have hnil := run_eql_nil (P := Sang.prog) 54 23 none 0 0 Sang.underlying54
  go_enter Sang.func118, Sang.ntmps118
  go_wp2_with fail
  go_ret
  exact ⟨rfl, rfl⟩

set_option maxRecDepth 10000 in
set_option maxHeartbeats 2000000 in
theorem clone_any (c : Nat) (t : TypeId) (L LA : List Value) (g cap : Nat) (A : List Nat) (n b va : Value) (nn bb k : Nat) (w : World) (h : VB w c t L) (c0 : L[0]? = some (.slice (some ⟨g, 0, none⟩) 1 cap)) (c1 : L[1]? = some va)
    (cn : ∀ i, 2 ≤ i → i < 8 → L[i]? = some (.slice none 0 0)) (hA : VB w g 106 LA) (lA : A.length = 20)
    (hs : subV LA 0 24 = acV A n b (.slice none 0 0) (.slice none 0 0)) (hl : 24 ≤ LA.length) (hn : Sl w .u8 n (digs nn)) (hb : Sl w .u8 b (digs bb)) (ln : (digs nn).length ≤ 16777216) (lb : (digs bb).length ≤ 16777216) (hva : AS w k va) (hk : k ≤ 900) :
    Calls Sang.prog 50 #[.pointer (some ⟨c, 0, none⟩)] w fun e w' => ∃ g' va' LA' n' b', e = .returned (.agg (wdV (.slice (some ⟨g', 0, none⟩) 1 1) va').toArray) ∧ VB w' g' 106 LA' ∧ subV LA' 0 24 = acV A n' b' (.slice none 0 0) (.slice none 0 0) ∧ 24 ≤ LA'.length ∧
      Sl w' .u8 n' (digs nn) ∧ Nw w.heap.size n' ∧ Sl w' .u8 b' (digs bb) ∧ Nw w.heap.size b' ∧ w.heap.size ≤ g' ∧ va'.oneCell' = true ∧ noU8 va' ∧ Fr w.heap.size no w w' := by
  have hb59 := bld59
  have h1 := h.alloc (.cells #[Value.slice none 0 0, Value.slice none 0 0, Value.slice none 0 0, Value.slice none 0 0, Value.slice none 0 0, Value.slice none 0 0, Value.slice none 0 0, Value.slice none 0 0] 59)
  have hR := VB.newAt (w := w) (b := w.heap.size) (cs := #[Value.slice none 0 0, Value.slice none 0 0, Value.slice none 0 0, Value.slice none 0 0, Value.slice none 0 0, Value.slice none 0 0, Value.slice none 0 0, Value.slice none 0 0]) (t := 59) (L := wdV (.slice none 0 0) (.slice none 0 0)) rfl rfl
  have hf : Fr w.heap.size no w (w.alloc (.cells #[Value.slice none 0 0, Value.slice none 0 0, Value.slice none 0 0, Value.slice none 0 0, Value.slice none 0 0, Value.slice none 0 0, Value.slice none 0 0, Value.slice none 0 0] 59)) := (Fr.refl _ _ _).alloc (Nat.le_refl _) _
  have HZ : Hid (∀ _ : Unit, Flat (wdV (.slice none 0 0) (.slice none 0 0))) := fun _ => wdV_flat _ _ rfl rfl
  have HNat : Hid (∀ w, Calls Sang.prog 51 #[.slice none 0 0] w fun e w' => e = .returned (.slice none 0 0) ∧ w' = w) := natOf_nil
  have HLog : Hid (∀ w, Calls Sang.prog 90 #[.slice none 0 0] w fun e w' => e = .returned (.slice none 0 0) ∧ w' = w) := logsOf_nil
  go_enter Sang.func50, Sang.ntmps50
  go_upto_region 1 with fail
  generalize w.alloc (.cells #[Value.slice none 0 0, Value.slice none 0 0, Value.slice none 0 0, Value.slice none 0 0, Value.slice none 0 0, Value.slice none 0 0, Value.slice none 0 0, Value.slice none 0 0] 59) = w1 at h1 hR hf ⊢
  go_cut [3] (fun s3 wx => s3 = .pointer (some ⟨w1.heap.size, 0, none⟩) ∧ wx = (w1.alloc (.cells #[Value.slice none 0 0, Value.slice none 0 0, Value.slice none 0 0, Value.slice none 0 0, Value.slice none 0 0, Value.slice none 0 0, Value.slice none 0 0, Value.slice none 0 0] 59)).drew)
  case first =>
    have h1d := h1.drew
    have k3 := h1d.cell 3 (cn 3 (by omega) (by omega))
    have k4 := h1d.cell 4 (cn 4 (by omega) (by omega))
    have h2 := (h1.alloc (.cells #[Value.slice none 0 0, Value.slice none 0 0, Value.slice none 0 0, Value.slice none 0 0, Value.slice none 0 0, Value.slice none 0 0, Value.slice none 0 0, Value.slice none 0 0] 59)).drew
    have hF := wdV_flat (.slice none 0 0) (.slice none 0 0) rfl rfl
    have hL8 : (wdV (.slice none 0 0) (.slice none 0 0)).length = 8 := rfl
    have hN : VB (w1.alloc (.cells #[Value.slice none 0 0, Value.slice none 0 0, Value.slice none 0 0, Value.slice none 0 0, Value.slice none 0 0, Value.slice none 0 0, Value.slice none 0 0, Value.slice none 0 0] 59)).drew w1.heap.size 59 (wdV (.slice none 0 0) (.slice none 0 0)) := (VB.newAt rfl rfl : VB (w1.alloc (.cells #[Value.slice none 0 0, Value.slice none 0 0, Value.slice none 0 0, Value.slice none 0 0, Value.slice none 0 0, Value.slice none 0 0, Value.slice none 0 0, Value.slice none 0 0] 59)) w1.heap.size 59 (wdV (.slice none 0 0) (.slice none 0 0))).drew
    have la : layV (wdV (.slice none 0 0) (.slice none 0 0)) 0 (wdV (.slice none 0 0) (.slice none 0 0)) = wdV (.slice none 0 0) (.slice none 0 0) := layV_all _ _ rfl
    have q := hN.q
    have sf := setV_self hN
    have k3' := h2.cell 3 (cn 3 (by omega) (by omega))
    have k4' := h2.cell 4 (cn 4 (by omega) (by omega))
    go_region_held3 (fun w' => w'.cell? ⟨c, 3, none⟩ = some (.slice none 0 0) ∧ w'.cell? ⟨c, 4, none⟩ = some (.slice none 0 0)) (first | exact ⟨k3, k4⟩ | exact ⟨k3', k4'⟩)
      (first
        | (go_at_call 51; (with_reducible refine (HNat.out _).mono ?_); rintro e w' ⟨rfl, rfl⟩)
        | (go_at_call 90; (with_reducible refine (HLog.out _).mono ?_); rintro e w' ⟨rfl, rfl⟩))
    all_goals (go_wp2_with fail; go_meet; exact ⟨rfl, rfl⟩)
  case rest =>
    obtain ⟨rfl, rfl⟩ := hcut
    have hjw : w.heap.size < w1.heap.size := hR.lt
    have hO : VB (w1.alloc (.cells #[Value.slice none 0 0, Value.slice none 0 0, Value.slice none 0 0, Value.slice none 0 0, Value.slice none 0 0, Value.slice none 0 0, Value.slice none 0 0, Value.slice none 0 0] 59)).drew w1.heap.size 59 (wdV (.slice none 0 0) (.slice none 0 0)) := (VB.newAt rfl rfl : VB (w1.alloc (.cells #[Value.slice none 0 0, Value.slice none 0 0, Value.slice none 0 0, Value.slice none 0 0, Value.slice none 0 0, Value.slice none 0 0, Value.slice none 0 0, Value.slice none 0 0] 59)) w1.heap.size 59 (wdV (.slice none 0 0) (.slice none 0 0))).drew
    have h2 := (h1.alloc (.cells #[Value.slice none 0 0, Value.slice none 0 0, Value.slice none 0 0, Value.slice none 0 0, Value.slice none 0 0, Value.slice none 0 0, Value.slice none 0 0, Value.slice none 0 0] 59)).drew
    have hR2 := (hR.alloc (.cells #[Value.slice none 0 0, Value.slice none 0 0, Value.slice none 0 0, Value.slice none 0 0, Value.slice none 0 0, Value.slice none 0 0, Value.slice none 0 0, Value.slice none 0 0] 59)).drew
    have hf2 := (hf.alloc hf.size (.cells #[Value.slice none 0 0, Value.slice none 0 0, Value.slice none 0 0, Value.slice none 0 0, Value.slice none 0 0, Value.slice none 0 0, Value.slice none 0 0, Value.slice none 0 0] 59)).drew
    have hcj : c < w1.heap.size := h1.lt
    have hs2 : w1.heap.size + 1 ≤ (w1.alloc (.cells #[Value.slice none 0 0, Value.slice none 0 0, Value.slice none 0 0, Value.slice none 0 0, Value.slice none 0 0, Value.slice none 0 0, Value.slice none 0 0, Value.slice none 0 0] 59)).drew.heap.size := Nat.le_of_eq (World.size_alloc ..).symm
    generalize (w1.alloc (.cells #[Value.slice none 0 0, Value.slice none 0 0, Value.slice none 0 0, Value.slice none 0 0, Value.slice none 0 0, Value.slice none 0 0, Value.slice none 0 0, Value.slice none 0 0] 59)).drew = w2 at hO h2 hR2 hf2 hs2 ⊢
    generalize w1.heap.size = j at *
    clear HNat HLog h1 hR hf HZ hb59
    have k0 := h2.cell 0 c0
    obtain ⟨i106, hi, hz, hsz, hby⟩ := info_parts info106
    have HB : Hid (i106.bytes * 1 ≤ 281474976710656) := by unfold Hid; rw [hby]; omega
    have HM : Hid (1 ≤ maxLen) := by unfold Hid maxLen; omega
    go_wp2_with ((with_reducible refine wl_makeV 53 106 (.tmp 33) (.tmp 33) .i64 .i64 1 24 ?_ ?_ i106 _ Sang.underlying53 hi hz hsz HB.out HM.out ?_); rfl; rfl; (intro Z w3 hZ hV hf3); have h3 := h2.fr hf3 h2.lt (fun x => x); have hO3 := hO.fr hf3 hO.lt (fun x => x); have kO := hO3.cell 0 rfl; have zO := hO3.unfrozen 0; have h3s := h3.other (a := ⟨j, 0, none⟩) (by simp only; omega) (.slice (some ⟨w2.heap.size, 0, none⟩) 1 1); have k0s := h3s.cell 0 c0)
    have hO4 := hO3.set (i := 0) (by decide) (.slice (some ⟨w2.heap.size, 0, none⟩) 1 1)
    change VB _ j 59 (wdV (.slice (some ⟨w2.heap.size, 0, none⟩) 1 1) (.slice none 0 0)) at hO4
    have hV4 := hV.other (a := ⟨j, 0, none⟩) (by simp only; omega) (.slice (some ⟨w2.heap.size, 0, none⟩) 1 1)
    have hR4 := (hR2.fr hf3 hR2.lt (fun x => x)).other (a := ⟨j, 0, none⟩) (by simp only; omega) (.slice (some ⟨w2.heap.size, 0, none⟩) 1 1)
    have hf4 := (hf2.step hf3 hf2.size (fun _ _ x => x)).setCell (p := ⟨j, 0, none⟩) (.inl (by simp only; omega)) (.slice (some ⟨w2.heap.size, 0, none⟩) 1 1)
    have hs4 : j + 1 ≤ (w3.setCell ⟨j, 0, none⟩ (.slice (some ⟨w2.heap.size, 0, none⟩) 1 1)).heap.size := by have := hf3.size; simp; omega
    have hs4' : w2.heap.size < (w3.setCell ⟨j, 0, none⟩ (.slice (some ⟨w2.heap.size, 0, none⟩) 1 1)).heap.size := by have := hV.lt; simp; omega
    clear hV hO3 kO zO h3 hO hf3 k0 k0s
    generalize w3.setCell ⟨j, 0, none⟩ (.slice (some ⟨w2.heap.size, 0, none⟩) 1 1) = w4 at hO4 hV4 hR4 hf4 h3s hs4 hs4' ⊢
    have hm2 : w.heap.size ≤ w2.heap.size := hf2.size
    clear h2 hR2 hf2
    generalize w2.heap.size = m at *
    have HEnd : Hid (∀ _ : Unit, True) := fun _ => trivial
    have e1 := acV_addr A n b (.slice none 0 0) (.slice none 0 0) lA
    have hFl := acV_flat A n b (.slice none 0 0) (.slice none 0 0) hn.one hb.one rfl rfl
    have hLn := acV_length A n b (.slice none 0 0) (.slice none 0 0) lA
    have m1 := acV_nonce A n b (.slice none 0 0) (.slice none 0 0) lA
    have m2 := acV_bal A n b (.slice none 0 0) (.slice none 0 0) lA
    have m3 := acV_code A n b (.slice none 0 0) (.slice none 0 0) lA
    have m4 := acV_slots A n b (.slice none 0 0) (.slice none 0 0) lA
    generalize acV A n b (.slice none 0 0) (.slice none 0 0) = M at *
    go_loopw [41] (fun iv wr => (iv = .int .i64 0 ∧ wr = w4) ∨ (iv = .int .i64 1 ∧ ∃ LA' n' b', VB wr j 59 (wdV (.slice (some ⟨m, 0, none⟩) 1 1) (.slice none 0 0)) ∧ VB wr m 106 LA' ∧ subV LA' 0 24 = acV A n' b' (.slice none 0 0) (.slice none 0 0) ∧ 24 ≤ LA'.length ∧ Sl wr .u8 n' (digs nn) ∧ Nw (j + 1) n' ∧ Sl wr .u8 b' (digs bb) ∧ Nw (j + 1) b' ∧ VB wr c t L ∧ VB wr w.heap.size 59 (wdV (.slice none 0 0) (.slice none 0 0)) ∧ Fr w.heap.size no w wr)) (fun i _ => 1 - (intOf i).toNat)
    case atStart => exact .inl ⟨rfl, rfl⟩
    case round =>
      rcases hrel with ⟨rfl, rfl⟩ | ⟨rfl, LA', n', b', r1, r2, r3, r4, r5, r6, r7, r8, r9, r10, r11⟩
      · have hA4 := hA.fr hf4 hA.lt (fun x => x)
        have qA := hA4.q
        go_upto_region 7 with fail
        have hM5 := VB.new wr 106 M
        have hO5 := hO4.alloc (.cells M.toArray 106)
        have hV5 := hV4.alloc (.cells M.toArray 106)
        have hR5 := hR4.alloc (.cells M.toArray 106)
        have h5 := h3s.alloc (.cells M.toArray 106)
        have hf5 := hf4.alloc hf4.size (.cells M.toArray 106)
        generalize wr.alloc (.cells M.toArray 106) = w5 at hM5 hO5 hV5 hR5 h5 hf5 ⊢
        have hj5 : ∃ j5, j5 = wr.heap.size := ⟨_, rfl⟩
        obtain ⟨j5, hj5⟩ := hj5
        rw [← hj5] at hM5 ⊢
        clear hj5
        have HCl : Hid (VB w5 j 59 (wdV (.slice (some ⟨m, 0, none⟩) 1 1) (.slice none 0 0)) ∧ VB w5 m 106 Z ∧ VB w5 w.heap.size 59 (wdV (.slice none 0 0) (.slice none 0 0)) ∧ VB w5 c t L ∧ Fr w.heap.size no w w5) := ⟨hO5, hV5, hR5, h5, hf5⟩
        clear hO5 hV5 hR5 h5 hO4 hV4 hR4 h3s qA hA4
        have hnw := hn.fr hf5
        have hbw := hb.fr hf5
        have hsz5 : j + 1 ≤ w5.heap.size := by have := HCl.out.1.lt; omega
        have hmz5 : m < w5.heap.size := HCl.out.2.1.lt
        clear hf5 hf4
        go_cut [6] (fun s6 wx => ∃ j6 n' b', s6 = .pointer (some ⟨j6, 0, none⟩) ∧ VB wx j6 106 (acV A n' b' (.slice none 0 0) (.slice none 0 0)) ∧ Sl wx .u8 n' (digs nn) ∧ Nw w5.heap.size n' ∧ Sl wx .u8 b' (digs bb) ∧ Nw w5.heap.size b' ∧ Fr w5.heap.size no w5 wx)
        case first =>
          have HN : Hid (∀ w', Fr w5.heap.size no w5 w' → Calls Sang.prog 51 #[n] w' (fun e w'' => ∃ v', e = .returned v' ∧ Sl w'' .u8 v' (digs nn) ∧ Nw w'.heap.size v' ∧ Fr w'.heap.size no w' w'')) := fun w' f => natOf_new n _ w' (hnw.fr f) ln
          have HBa : Hid (∀ w', Fr w5.heap.size no w5 w' → Calls Sang.prog 51 #[b] w' (fun e w'' => ∃ v', e = .returned v' ∧ Sl w'' .u8 v' (digs bb) ∧ Nw w'.heap.size v' ∧ Fr w'.heap.size no w' w'')) := fun w' f => natOf_new b _ w' (hbw.fr f) lb
          have HCo : Hid (∀ w, Calls Sang.prog 49 #[.slice none 0 0] w fun e w' => e = .returned (.slice none 0 0) ∧ w' = w) := bytesOf_nil
          have hu23 := und23
          have lB : (byV A).length = 20 := by simp [byV, lA]
          have hi23 : (Sang.prog.info? 23).map (·.size) = some (byV A).length := by rw [lB]; exact siz23
          have hSall : ∀ w', Fr w5.heap.size no w5 w' → (Fr w5.heap.size no w5 w' ∧ w'.rangeAt j5 0 (byV A) ∧ w'.cell? ⟨j5, 20, none⟩ = some n ∧ w'.cell? ⟨j5, 21, none⟩ = some b ∧ w'.cell? ⟨j5, 22, none⟩ = some (.slice none 0 0)) := fun w' f => by
            have hM' := hM5.fr f hM5.lt (fun x => x)
            exact ⟨f, hM'.range 0 20 e1, hM'.cell 20 m1, hM'.cell 21 m2, hM'.cell 22 m3⟩
          have hz : VB (w5.alloc (.cells #[Value.int IntKind.u8 0, Value.int IntKind.u8 0, Value.int IntKind.u8 0, Value.int IntKind.u8 0, Value.int IntKind.u8 0, Value.int IntKind.u8 0, Value.int IntKind.u8 0, Value.int IntKind.u8 0, Value.int IntKind.u8 0, Value.int IntKind.u8 0, Value.int IntKind.u8 0, Value.int IntKind.u8 0, Value.int IntKind.u8 0, Value.int IntKind.u8 0, Value.int IntKind.u8 0, Value.int IntKind.u8 0, Value.int IntKind.u8 0, Value.int IntKind.u8 0, Value.int IntKind.u8 0, Value.int IntKind.u8 0, Value.slice none 0 0, Value.slice none 0 0, Value.slice none 0 0, Value.slice none 0 0] 106)).drew w5.heap.size 106 zaV := (VB.newAt rfl rfl : VB (w5.alloc (.cells #[Value.int IntKind.u8 0, Value.int IntKind.u8 0, Value.int IntKind.u8 0, Value.int IntKind.u8 0, Value.int IntKind.u8 0, Value.int IntKind.u8 0, Value.int IntKind.u8 0, Value.int IntKind.u8 0, Value.int IntKind.u8 0, Value.int IntKind.u8 0, Value.int IntKind.u8 0, Value.int IntKind.u8 0, Value.int IntKind.u8 0, Value.int IntKind.u8 0, Value.int IntKind.u8 0, Value.int IntKind.u8 0, Value.int IntKind.u8 0, Value.int IntKind.u8 0, Value.int IntKind.u8 0, Value.int IntKind.u8 0, Value.slice none 0 0, Value.slice none 0 0, Value.slice none 0 0, Value.slice none 0 0] 106)) w5.heap.size 106 zaV).drew
          have hzl : w5.heap.size ≤ w5.heap.size := Nat.le_refl _
          have hzL : zaV.length = 24 := rfl
          have q := hz.q
          have hx0 := hSall w5.drew (Fr.refl _ _ _).drew
          have hx1 := hSall (w5.alloc (.cells #[Value.int IntKind.u8 0, Value.int IntKind.u8 0, Value.int IntKind.u8 0, Value.int IntKind.u8 0, Value.int IntKind.u8 0, Value.int IntKind.u8 0, Value.int IntKind.u8 0, Value.int IntKind.u8 0, Value.int IntKind.u8 0, Value.int IntKind.u8 0, Value.int IntKind.u8 0, Value.int IntKind.u8 0, Value.int IntKind.u8 0, Value.int IntKind.u8 0, Value.int IntKind.u8 0, Value.int IntKind.u8 0, Value.int IntKind.u8 0, Value.int IntKind.u8 0, Value.int IntKind.u8 0, Value.int IntKind.u8 0, Value.slice none 0 0, Value.slice none 0 0, Value.slice none 0 0, Value.slice none 0 0] 106)).drew (((Fr.refl _ _ _).alloc (Nat.le_refl _) _).drew)
          clear hM5 m1 m2 m3
          go_region_held3 (fun w' => Fr w5.heap.size no w5 w' ∧ w'.rangeAt j5 0 (byV A) ∧ w'.cell? ⟨j5, 20, none⟩ = some n ∧ w'.cell? ⟨j5, 21, none⟩ = some b ∧ w'.cell? ⟨j5, 22, none⟩ = some (.slice none 0 0))
            (first
              | exact hx0
              | exact hx1
              | exact hSall _ ((‹Fr w5.heap.size no w5 _ ∧ _›).1.step hfx (‹Fr w5.heap.size no w5 _ ∧ _›).1.size (fun _ _ x => x))
              | exact hSall _ ((‹Fr w5.heap.size no w5 _ ∧ _›).1.alloc (‹Fr w5.heap.size no w5 _ ∧ _›).1.size _)
              | exact hSall _ (‹Fr w5.heap.size no w5 _ ∧ _›).1
              | exact hSall _ ((‹Fr w5.heap.size no w5 _ ∧ _›).1.setV (.inl hzl) _ _))
            (first
              | (go_at_call 51; (with_reducible refine (HN.out _ (‹Fr w5.heap.size no w5 _ ∧ _›).1).mono ?_); rintro e w7 ⟨v7, rfl, hs7, hN7, hfx⟩; have hN7' := hN7.mono (‹Fr w5.heap.size no w5 _ ∧ _›).1.size; (first | (have hz := hz.fr hfx hz.lt (fun x => x)) | (have hzl : w5.heap.size ≤ w7.heap.size := Nat.le_trans (‹Fr w5.heap.size no w5 _ ∧ _›).1.size hfx.size; have hz : VB (w7.alloc (.cells #[Value.int IntKind.u8 0, Value.int IntKind.u8 0, Value.int IntKind.u8 0, Value.int IntKind.u8 0, Value.int IntKind.u8 0, Value.int IntKind.u8 0, Value.int IntKind.u8 0, Value.int IntKind.u8 0, Value.int IntKind.u8 0, Value.int IntKind.u8 0, Value.int IntKind.u8 0, Value.int IntKind.u8 0, Value.int IntKind.u8 0, Value.int IntKind.u8 0, Value.int IntKind.u8 0, Value.int IntKind.u8 0, Value.int IntKind.u8 0, Value.int IntKind.u8 0, Value.int IntKind.u8 0, Value.int IntKind.u8 0, Value.slice none 0 0, Value.slice none 0 0, Value.slice none 0 0, Value.slice none 0 0] 106)) w7.heap.size 106 zaV := VB.newAt rfl rfl)); have q := hz.q)
              | (go_at_call 51; (with_reducible refine (HBa.out _ (‹Fr w5.heap.size no w5 _ ∧ _›).1).mono ?_); rintro e w8 ⟨v8, rfl, hs8, hN8, hfx⟩; have hN8' := hN8.mono (‹Fr w5.heap.size no w5 _ ∧ _›).1.size; have hs7' : Sl w8 .u8 v7 (digs nn) := (by first | exact hs7.fr hfx | exact hs7.fr2 hfx); (first | (have hz := hz.fr hfx hz.lt (fun x => x)) | (have hzl : w5.heap.size ≤ w8.heap.size := Nat.le_trans (‹Fr w5.heap.size no w5 _ ∧ _›).1.size hfx.size; have hz : VB (w8.alloc (.cells #[Value.int IntKind.u8 0, Value.int IntKind.u8 0, Value.int IntKind.u8 0, Value.int IntKind.u8 0, Value.int IntKind.u8 0, Value.int IntKind.u8 0, Value.int IntKind.u8 0, Value.int IntKind.u8 0, Value.int IntKind.u8 0, Value.int IntKind.u8 0, Value.int IntKind.u8 0, Value.int IntKind.u8 0, Value.int IntKind.u8 0, Value.int IntKind.u8 0, Value.int IntKind.u8 0, Value.int IntKind.u8 0, Value.int IntKind.u8 0, Value.int IntKind.u8 0, Value.int IntKind.u8 0, Value.int IntKind.u8 0, Value.slice none 0 0, Value.slice none 0 0, Value.slice none 0 0, Value.slice none 0 0] 106)) w8.heap.size 106 zaV := VB.newAt rfl rfl)); have q := hz.q; have hbd := fun w => bld106_4 w A v7 v8 lA hs7.cells hs8.cells; have hFl' := acV_flat A v7 v8 (.slice none 0 0) (.slice none 0 0) hs7.one hs8.one rfl rfl; have hLn' := acV_length A v7 v8 (.slice none 0 0) (.slice none 0 0) lA; have la : layV zaV 0 (acV A v7 v8 (.slice none 0 0) (.slice none 0 0)) = acV A v7 v8 (.slice none 0 0) (.slice none 0 0) := layV_all _ _ (hLn'.trans rfl))
              | (go_at_call 49; (with_reducible refine (HCo.out _).mono ?_); rintro e w' ⟨rfl, rfl⟩))
          all_goals (
            go_wp2_with fail
            go_meet
            refine ⟨_, v7, v8, rfl, VB.setV hz.lt _ _, ?_, hN7', ?_, hN8', (‹Fr w5.heap.size no w5 _ ∧ _›).1⟩
            · first | exact fin_store hz hs7' | exact fin_store hz (hs7'.alloc _)
            · first | exact fin_store hz hs8 | exact fin_store hz (hs8.alloc _))
        case rest =>
          obtain ⟨j6, n', b', rfl, hN6, hsn, hnn, hsb, hnb, hfx⟩ := hcut
          obtain ⟨hO5, hV5, hR5, h5, hf5⟩ := HCl.out
          have hM6 := hM5.fr hfx hM5.lt (fun x => x)
          have hO6 := hO5.fr hfx hO5.lt (fun x => x)
          have hV6 := hV5.fr hfx hV5.lt (fun x => x)
          have hR6 := hR5.fr hfx hR5.lt (fun x => x)
          have h6 := h5.fr hfx h5.lt (fun x => x)
          have hf6 := hf5.step hfx hf5.size (fun _ _ x => x)
          have hFn := acV_flat A n' b' (.slice none 0 0) (.slice none 0 0) hsn.one hsb.one rfl rfl
          have hLn2 := acV_length A n' b' (.slice none 0 0) (.slice none 0 0) lA
          have e2 := acV_all A n' b' (.slice none 0 0) (.slice none 0 0) lA
          clear hM5 hO5 hV5 hR5 h5 hf5 HCl
          generalize hNe : acV A n' b' (.slice none 0 0) (.slice none 0 0) = N at *
          have k23 := hM6.cell 23 m4
          have kO := hO6.cell 0 rfl
          have qN := hN6.q
          have qV := hV6.q
          have la : layV Z 0 N = N := layV_all _ _ (by omega)
          go_wp2_with fail
          go_loopw [69] (fun iv wr => iv = .int .i64 0 ∧ wr = wc) (fun _ _ => 0)
          case atStart => exact ⟨rfl, rfl⟩
          case round =>
            obtain ⟨rfl, rfl⟩ := hrel
            go_wp2_with fail
            have fn1 : FarS m n' := FarS.fresh hnn hmz5
            have fb1 : FarS m b' := FarS.fresh hnb hmz5
            have hfs : Fr wr.heap.size (· = m) wr (setV wr m 106 N) := (Fr.refl _ (· = m) _).setV (.inr rfl) _ _
            refine ⟨.inr ⟨rfl, N, n', b', hO6.otherV (by omega) _ _, VB.setV hV6.lt _ _, e2.trans hNe.symm, by omega, hsn.frS fn1 hfs, hnn.mono hsz5, hsb.frS fb1 hfs, hnb.mono hsz5, h6.otherV (by omega) _ _, hR6.otherV (by omega) _ _, hf6.setV (.inl hm2) _ _⟩, by simp [intOf]⟩
      · have k1 := r9.cell 1 c1
        have fn1 : FarS j n' := FarS.fresh r6 (Nat.lt_succ_self _)
        have fb1 : FarS j b' := FarS.fresh r8 (Nat.lt_succ_self _)
        have fn2 : FarS w.heap.size n' := FarS.fresh r6 (by omega)
        have fb2 : FarS w.heap.size b' := FarS.fresh r8 (by omega)
        have hmj : m ≠ j := by omega
        have hmw : m ≠ w.heap.size := by omega
        have HAd : Hid (∀ w, Calls Sang.prog 118 #[.slice none 0 0] w fun e w' => e = .returned (.slice none 0 0) ∧ w' = w) := addrsOf_nil
        have hcw : c < w.heap.size := h.lt
        go_wp2_with fail
        refine (addrsOf_any va k wr (hva.fr r11 (fun _ _ _ _ x => x)) hk).mono ?_
        rintro e w6 ⟨va', rfl, o1, o2, hfx⟩
        replace r1 := r1.fr hfx r1.lt (fun x => x)
        replace r2 := r2.fr hfx r2.lt (fun x => x)
        replace r5 := r5.fr hfx
        replace r7 := r7.fr hfx
        replace r9 := r9.fr hfx r9.lt (fun x => x)
        replace r10 := r10.fr hfx r10.lt (fun x => x)
        replace r11 := r11.step hfx r11.size (fun _ _ x => x)
        clear k1 hfx
        have kO1 := r1.cell 1 rfl
        have zO1 := r1.unfrozen 1
        have hfs : Fr w6.heap.size (· = j) w6 (w6.setCell ⟨j, 1, none⟩ va') := (Fr.refl _ (· = j) _).setCell (.inr rfl) _
        have r9' := r9.other (a := ⟨j, 1, none⟩) (by simp only; omega) va'
        have k6 := r9'.cell 6 (cn 6 (by omega) (by omega))
        go_wp2_with fail
        replace r1 := r1.set (i := 1) (by simp [wdV]) va'
        change VB _ j 59 (wdV (.slice (some ⟨m, 0, none⟩) 1 1) va') at r1
        replace r2 := r2.other (a := ⟨j, 1, none⟩) (by simp only; omega) va'
        replace r5 := r5.frS fn1 hfs
        replace r7 := r7.frS fb1 hfs
        replace r10 := r10.other (a := ⟨j, 1, none⟩) (by simp only; omega) va'
        replace r11 := r11.setCell (p := ⟨j, 1, none⟩) (.inl (by simp only; omega)) va'
        clear kO1 zO1 hfs k6 r9
        generalize w6.setCell ⟨j, 1, none⟩ va' = w7 at r1 r2 r5 r7 r9' r10 r11 ⊢
        refine (HAd.out w7).mono ?_
        rintro e w7' ⟨rfl, rfl⟩
        have kO6 := r1.cell 6 rfl
        have zO6 := r1.unfrozen 6
        have s6 : w7'.setCell ⟨j, 6, none⟩ (.slice none 0 0) = w7' := by
          have := setCells_setV [(.slice none 0 0)] w7' j 59 _ 6 r1 (by simp [wdV])
          simp only [World.setCells] at this
          rw [this]
          exact setV_self r1
        have s7 : w7'.setCell ⟨j, 7, none⟩ (.slice none 0 0) = w7' := by
          have := setCells_setV [(.slice none 0 0)] w7' j 59 _ 7 r1 (by simp [wdV])
          simp only [World.setCells] at this
          rw [this]
          exact setV_self r1
        have kc7 := r9'.cell 7 (cn 7 (by omega) (by omega))
        go_wp2_with fail
        refine (HAd.out w7').mono ?_
        rintro e w8 ⟨rfl, rfl⟩
        have kO7 := r1.cell 7 rfl
        have zO7 := r1.unfrozen 7
        have kc5 := r9'.cell 5 (cn 5 (by omega) (by omega))
        have kc2 := r9'.cell 2 (cn 2 (by omega) (by omega))
        have hfl := wdV_flat (.slice (some ⟨m, 0, none⟩) 1 1) va' rfl o1
        have hln : (wdV (.slice (some ⟨m, 0, none⟩) 1 1) va').length = 8 := rfl
        have hlz : (wdV (.slice none 0 0) (.slice none 0 0)).length = 8 := rfl
        have hall : subV (wdV (.slice (some ⟨m, 0, none⟩) 1 1) va') 0 8 = wdV (.slice (some ⟨m, 0, none⟩) 1 1) va' := rfl
        have la : layV (wdV (.slice none 0 0) (.slice none 0 0)) 0 (wdV (.slice (some ⟨m, 0, none⟩) 1 1) va') = wdV (.slice (some ⟨m, 0, none⟩) 1 1) va' := layV_all _ _ rfl
        have qO := r1.q
        have qR := r10.q
        have hi59 : (Sang.prog.info? 59).map (·.size) = some (wdV (.slice (some ⟨m, 0, none⟩) 1 1) va').length := siz59
        generalize hWD : wdV (.slice (some ⟨m, 0, none⟩) 1 1) va' = WD at *
        generalize wdV (.slice none 0 0) (.slice none 0 0) = WZ at *
        go_wp2_with fail
        go_loopw [127] (fun iv wr => iv = .int .i64 0 ∧ wr = w8) (fun _ _ => 0)
        case atStart => exact ⟨rfl, rfl⟩
        case round =>
          obtain ⟨rfl, rfl⟩ := hrel
          go_wp2_with fail
          go_loopw [163] (fun iv wr' => iv = .int .i64 0 ∧ wr' = wr) (fun _ _ => 0)
          case atStart => exact ⟨rfl, rfl⟩
          case round =>
            obtain ⟨rfl, rfl⟩ := hrel
            go_wp2_with fail
            have hfs : ∀ x : World, Fr x.heap.size (· = w.heap.size) x (setV x w.heap.size 59 WD) := fun x => (Fr.refl _ (· = w.heap.size) _).setV (.inr rfl) _ _
            refine bodyPost_ret (results_cellV Sang.results50 rfl (VB.setV r10.lt _ _) _ Sang.underlying59 rfl hi59) rfl ⟨m, va', LA', n', b', by rw [hWD], r2.otherV hmw _ _, r3, r4, r5.frS fn2 (hfs _), r6.mono (by omega), r7.frS fb2 (hfs _), r8.mono (by omega), hm2, o1, o2, r11.setV (.inl (Nat.le_refl _)) _ _⟩
end Go.Proofs.YgcsanGreat
