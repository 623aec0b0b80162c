/-
  addrOf at 4; Intrinsic once more; addTo.
-/
import Derived.Test.YgcsanGreatNewE
import Derived.Test.YgcsanGreatIntrY
namespace Go.Proofs.YgcsanGreat
open Go.RowKit
set_option linter.unusedSimpArgs false
set_option linter.unusedVariables false

def z20n : List Nat := List.replicate 20 0
set_option maxRecDepth 10000 in
set_option maxHeartbeats 1000000 in
theorem addrOf4_any (v : Value) (w : World) (h : Sl w .u8 v [4]) :
    Calls Sang.prog 155 #[v] w fun e w' => e = .returned (.agg (ints .u8 (adNo 4))) ∧ Fr w.heap.size no w w' := by
  obtain ⟨a, cap, rfl, hl1, hl2, hl3⟩ := h
  rcases hl3 with h | ⟨b, off, rfl, hc⟩
  · cases h
  have hc0 := hc 0 (by decide)
  clear hc
  simp at hc0
  have i0 : IB (w.alloc (.cells #[.int .u8 0, .int .u8 0, .int .u8 0, .int .u8 0, .int .u8 0, .int .u8 0, .int .u8 0, .int .u8 0, .int .u8 0, .int .u8 0, .int .u8 0, .int .u8 0, .int .u8 0, .int .u8 0, .int .u8 0, .int .u8 0, .int .u8 0, .int .u8 0, .int .u8 0, .int .u8 0] 23)) w.heap.size .u8 23 z20n := IB.newAt rfl rfl
  have i1 := i0.alloc (.cells #[.int .u8 0, .int .u8 0, .int .u8 0, .int .u8 0, .int .u8 0, .int .u8 0, .int .u8 0, .int .u8 0, .int .u8 0, .int .u8 0, .int .u8 0, .int .u8 0, .int .u8 0, .int .u8 0, .int .u8 0, .int .u8 0, .int .u8 0, .int .u8 0, .int .u8 0, .int .u8 0] 23)
  clear i0
  have i2 : IB ((w.alloc (.cells #[.int .u8 0, .int .u8 0, .int .u8 0, .int .u8 0, .int .u8 0, .int .u8 0, .int .u8 0, .int .u8 0, .int .u8 0, .int .u8 0, .int .u8 0, .int .u8 0, .int .u8 0, .int .u8 0, .int .u8 0, .int .u8 0, .int .u8 0, .int .u8 0, .int .u8 0, .int .u8 0] 23)).alloc (.cells #[.int .u8 0, .int .u8 0, .int .u8 0, .int .u8 0, .int .u8 0, .int .u8 0, .int .u8 0, .int .u8 0, .int .u8 0, .int .u8 0, .int .u8 0, .int .u8 0, .int .u8 0, .int .u8 0, .int .u8 0, .int .u8 0, .int .u8 0, .int .u8 0, .int .u8 0, .int .u8 0] 23)) (w.heap.size + 1) .u8 23 z20n := IB.newAt (by simp) rfl
  have hf : Fr w.heap.size no w ((w.alloc (.cells #[.int .u8 0, .int .u8 0, .int .u8 0, .int .u8 0, .int .u8 0, .int .u8 0, .int .u8 0, .int .u8 0, .int .u8 0, .int .u8 0, .int .u8 0, .int .u8 0, .int .u8 0, .int .u8 0, .int .u8 0, .int .u8 0, .int .u8 0, .int .u8 0, .int .u8 0, .int .u8 0] 23)).alloc (.cells #[.int .u8 0, .int .u8 0, .int .u8 0, .int .u8 0, .int .u8 0, .int .u8 0, .int .u8 0, .int .u8 0, .int .u8 0, .int .u8 0, .int .u8 0, .int .u8 0, .int .u8 0, .int .u8 0, .int .u8 0, .int .u8 0, .int .u8 0, .int .u8 0, .int .u8 0, .int .u8 0] 23)) := ((Fr.refl _ _ _).alloc (Nat.le_refl _) _).alloc (by simp) _
  go_enter Sang.func155, Sang.ntmps155
  go_wp2_with fail
  generalize ((w.alloc (.cells #[.int .u8 0, .int .u8 0, .int .u8 0, .int .u8 0, .int .u8 0, .int .u8 0, .int .u8 0, .int .u8 0, .int .u8 0, .int .u8 0, .int .u8 0, .int .u8 0, .int .u8 0, .int .u8 0, .int .u8 0, .int .u8 0, .int .u8 0, .int .u8 0, .int .u8 0, .int .u8 0] 23)).alloc (.cells #[.int .u8 0, .int .u8 0, .int .u8 0, .int .u8 0, .int .u8 0, .int .u8 0, .int .u8 0, .int .u8 0, .int .u8 0, .int .u8 0, .int .u8 0, .int .u8 0, .int .u8 0, .int .u8 0, .int .u8 0, .int .u8 0, .int .u8 0, .int .u8 0, .int .u8 0, .int .u8 0] 23)) = w2 at i1 i2 hf ⊢
  go_loopw [4] (fun iv wr => (iv = .int .i64 0 ∧ wr = w2) ∨ (iv = .int .i64 1 ∧ IB wr (w.heap.size + 1) .u8 23 (adNo 4) ∧ IB wr w.heap.size .u8 23 z20n ∧ Fr w.heap.size no w wr)) (fun i _ => 1 - (intOf i).toNat)
  case atStart => exact .inl ⟨rfl, rfl⟩
  case round =>
    rcases hrel with ⟨rfl, rfl⟩ | ⟨rfl, h1, h2, hfr⟩
    · have hcd := hf.cell (p := ⟨b, off, none⟩) (cell_lt hc0) (fun x => x)
      rw [hc0] at hcd
      have hcz := i2.cell 19 (by decide)
      have hzz := i2.unfrozen 19
      go_wp2
      refine ⟨.inr ⟨by go_num, ?_, ?_, ?_⟩, by simp [intOf]⟩
      · exact i2.set' 19 4 rfl rfl
      · exact i1.other (by simp) _
      · exact hf.setCell (.inl (by simp)) _
    · have hll : (adNo 4).length = 20 := rfl
      go_wp2_with (first
        | ((with_reducible refine wl_load 23 (.tmp 3) (w.heap.size + 1) .u8 23 (adNo 4) ?_ h1 (.array 20 5) und23 rfl ?_ ?_); rfl; exact siz23)
        | ((with_reducible refine wl_store 23 (.tmp 2) (.tmp 22) w.heap.size .u8 23 z20n (adNo 4) ?_ ?_ h2 ?_ ?_ ?_); rfl; rfl; rfl; exact siz23))
      have hib : IB (setRow _ w.heap.size .u8 23 (adNo 4)) w.heap.size .u8 23 (adNo 4) := IB.setRow h2.lt _ _ _
      refine bodyPost_ret (results_cell Sang.results155 rfl hib _ und23 rfl siz23) rfl ⟨rfl, ?_⟩
      exact hfr.setRow (.inl (Nat.le_refl _)) _ _ _

theorem addN_new (v1 v2 : Value) (x y : Nat) (w : World) (h1 : Sl w .u8 v1 (digs x)) (h2 : Sl w .u8 v2 (digs y)) (ha : x < W64 ^ 8) (hb : y < W64 ^ 8) :
    Calls Sang.prog 78 #[v1, v2] w fun e w' => ∃ v', e = .returned v' ∧ NewD w.heap.size w' v' (digs (x + y)) ∧ Fr w.heap.size no w w' := by
  have := add_new v1 v2 (digs x) (digs y) w h1 (digs_dg _) h2 (digs_dg _) (Nat.le_trans (digs_room' _ 8 ha) (by decide)) (Nat.le_trans (digs_room' _ 8 hb) (by decide))
  rw [val_digs, val_digs] at this
  exact this

set_option maxRecDepth 10000 in
set_option maxHeartbeats 1000000 in
theorem ypIntrinsic_new (to value D : List Nat) (data : Value) (w : World) (h1 : to.length = 20) (h2 : value.length = 32) (hD : Sl w .u8 data D) (hs : D.length ≤ 65536) :
    Calls Sang.prog 75 #[.agg (txV to value data).toArray] w fun e w' => ∃ v', e = .returned v' ∧ NewD w.heap.size w' v' (digs (intrN D)) ∧ Fr w.heap.size no w w' := by
  have c1 := txV_create to value data h1 h2
  have c2 := txV_data to value data h1 h2
  have c3 := txV_access to value data h1 h2
  generalize txV to value data = T at *
  have hV := VB.new w 30 T
  have hf : Fr w.heap.size no w (w.alloc (.cells T.toArray 30)) := (Fr.refl _ _ _).alloc (Nat.le_refl _) _
  have HSl : Hid (Sl w .u8 data D) := hD
  obtain ⟨a, cap, rfl, hl, hm, hc⟩ := hD
  have HL : Hid (D.length ≤ 65536) := hs
  have hs' : (D.length : Int) ≤ 65536 := by omega
  clear hc hs
  unfold maxLen at hm
  go_enter Sang.func75, Sang.ntmps75
  go_wp2_with fail
  generalize w.alloc (.cells T.toArray 30) = w1 at hV hf ⊢
  refine (num_any 21000 w1 (by decide)).mono ?_
  rintro e w2 ⟨v1, rfl, hv1, hfx⟩
  replace hV := hV.fr hfx hV.lt (fun x => x)
  replace hf := hf.step hfx hf.size (fun _ _ x => x)
  clear hfx
  have hS2 := HSl.out.fr hf
  obtain ⟨a', cap', hv', -, -, hc⟩ := hS2
  cases hv'
  have HC : Hid (D = [] ∨ ∃ b off, a = some ⟨b, off, none⟩ ∧ ∀ i, i < D.length → w2.cell? ⟨b, off + i, none⟩ = some (.int .u8 ((D.getD i 0 : Nat) : Int))) := hc
  clear hc
  have k2 := hV.cell 107 c2
  go_wp2_with fail
  go_loop [13, 4] (fun iv zv => ∃ i z : Nat, i ≤ D.length ∧ iv = .int .i64 (i : Int) ∧ zv = .int .u64 (z : Int) ∧ Hid (∀ _ : Unit, z + nz (D.take i) = i)) (fun i _ => D.length - (intOf i).toNat)
  case atStart => exact ⟨0, 0, by omega, rfl, rfl, fun _ => by simp [nz]⟩
  case round =>
    obtain ⟨i, z, hi, rfl, rfl, HG⟩ := hrel
    have hzb : (z : Int) ≤ 65536 := by
      have h1 := HG.out ()
      have h3 := HL.out
      omega
    by_cases hin : i < D.length
    · rcases HC.out with h0 | ⟨b, off, rfl, hcs⟩
      · rw [h0] at hin; simp at hin
      obtain ⟨d, HD, hcd⟩ := Sl.at (n := 0) (cap := 0) hcs i hin
      have HD' : Hid (∀ _ : Unit, D.getD i 0 = d) := fun _ => HD.out
      clear hcs HD
      by_cases hz : d = 0
      · have hz' : ((d : Int) == 0) = true := by simpa using hz
        have HN : Hid (∀ _ : Unit, nz (D.take (i + 1)) = nz (D.take i) + 0) := fun _ => by rw [nz_take D i d hin (HD'.out ()), if_pos hz]
        subst hz
        go_wp2_with fail
        refine ⟨⟨i + 1, z + 1, by omega, by go_num, by go_num, fun _ => ?_⟩, by simp [intOf]; omega⟩
        rw [HN.out ()]
        have := HG.out ()
        omega
      · have hz' : ((d : Int) == 0) = false := by simpa using hz
        have HN : Hid (∀ _ : Unit, nz (D.take (i + 1)) = nz (D.take i) + 1) := fun _ => by rw [nz_take D i d hin (HD'.out ()), if_neg hz]
        clear hz
        go_wp2_with fail
        refine ⟨⟨i + 1, z, by omega, by go_num, rfl, fun _ => ?_⟩, by simp [intOf]; omega⟩
        rw [HN.out ()]
        have := HG.out ()
        omega
    · have : i = D.length := by omega
      subst this
      obtain ⟨y, HY⟩ : ∃ y : Nat, Hid (∀ _ : Unit, D.length - z = y ∧ y = nz D ∧ z + y = D.length) := ⟨_, fun _ => ⟨rfl, by have := HG.out (); rw [List.take_length] at this; omega, by have := HG.out (); omega⟩⟩
      have eY : (D.length : Int) - (z : Int) = (y : Int) := by have := HY.out (); omega
      have hyb : (y : Int) ≤ 65536 := by omega
      have HE : Hid (∀ _ : Unit, 21000 + 4 * z + 16 * y = intrN D) := fun _ => by
        have := HY.out ()
        unfold intrN
        omega
      clear HG HC
      go_wp2_with fail
      refine (num_any 4 w2 (by decide)).mono ?_
      rintro e w3 ⟨v3, rfl, hv3, hfx⟩
      replace hV := hV.fr hfx hV.lt (fun x => x)
      replace hf := hf.step hfx hf.size (fun _ _ x => x)
      replace hv1 := hv1.fr hfx
      clear hfx k2
      go_wp2_with fail
      refine (num_any z w3 (by rw [W64_eq]; omega)).mono ?_
      rintro e w4 ⟨v4, rfl, hv4, hfx⟩
      replace hV := hV.fr hfx hV.lt (fun x => x)
      replace hf := hf.step hfx hf.size (fun _ _ x => x)
      replace hv1 := hv1.fr hfx
      replace hv3 := hv3.fr hfx
      clear hfx
      go_wp2_with fail
      refine (mulN_any v3 v4 4 z w4 hv3 hv4 (by decide) (small_room (by omega))).mono ?_
      rintro e w5 ⟨v5, rfl, hv5, hfx⟩
      replace hV := hV.fr hfx hV.lt (fun x => x)
      replace hf := hf.step hfx hf.size (fun _ _ x => x)
      replace hv1 := hv1.fr hfx
      clear hfx hv3 hv4
      go_wp2_with fail
      refine (addN_any v1 v5 21000 (4 * z) w5 hv1 hv5 (by decide) (small_room (by omega))).mono ?_
      rintro e w6 ⟨v6, rfl, hv6, hfx⟩
      replace hV := hV.fr hfx hV.lt (fun x => x)
      replace hf := hf.step hfx hf.size (fun _ _ x => x)
      clear hfx hv1 hv5
      go_wp2_with fail
      have HN16 : Hid (∀ w, Calls Sang.prog 65 #[.int .u64 16] w fun e w' => ∃ v', e = .returned v' ∧ Sl w' .u8 v' (digs 16) ∧ Fr w.heap.size no w w') := fun w => num_any 16 w (by decide)
      have ew1 : IntKind.u64.wrap (D.length : Int) = (D.length : Int) := by rw [IntKind.wrap_u64]; omega
      have ew2 : IntKind.u64.wrap (y : Int) = (y : Int) := by rw [IntKind.wrap_u64]; omega
      have hVd := hV.drew
      have hfd := hf.drew
      have hv6d : Sl w6.drew .u8 v6 (digs (21000 + 4 * z)) := hv6
      have k0 := hVd.cell 107 c2
      go_region_with (first
        | (go_at_call 65; (with_reducible refine (HN16.out w6.drew).mono ?_); rintro e w7 ⟨v7, rfl, hv7, hf7⟩; have hV7 := hVd.fr hf7 hVd.lt (fun x => x); have hfw7 := hfd.step hf7 hfd.size (fun _ _ x => x); have hv67 := hv6d.fr hf7; have k7 := hV7.cell 107 c2)
        | (go_at_call 65; (with_reducible refine (num_any y w7 (by rw [W64_eq]; omega)).mono ?_); rintro e w8 ⟨v8, rfl, hv8, hf8⟩; have hV8 := hV7.fr hf8 hV7.lt (fun x => x); have hfw8 := hfw7.step hf8 hfw7.size (fun _ _ x => x); have hv68 := hv67.fr hf8; have hv78 := hv7.fr hf8)
        | (go_at_call 80; (with_reducible refine (mulN_any v7 v8 16 y w8 hv78 hv8 (by decide) (small_room (by omega))).mono ?_); rintro e w9 ⟨v9, rfl, hv9, hf9⟩; have hV9 := hV8.fr hf9 hV8.lt (fun x => x); have hfw9 := hfw8.step hf9 hfw8.size (fun _ _ x => x); have hv69 := hv68.fr hf9)
        | (go_at_call 78; (with_reducible refine (addN_new v6 v9 (21000 + 4 * z) (16 * y) w9 hv69 hv9 (small_room (by omega)) (small_room (by omega))).mono ?_); rintro e wA ⟨vA, rfl, hvA, hfA⟩; have hVA := hV9.fr hfA hV9.lt (fun x => x); have hfwA := hfw9.step hfA hfw9.size (fun _ _ x => x)))
      all_goals (
        rw [HE.out ()] at hvA
        have k1 := hVA.cell 40 c1
        have k3 := hVA.cell 173 c3
        go_wp2_with fail
        go_loop [42, 3] (fun iv gv => iv = .int .i64 0 ∧ gv = vA) (fun _ _ => 0)
        case atStart => exact ⟨rfl, rfl⟩
        case round =>
          obtain ⟨rfl, rfl⟩ := hrel
          go_wp2_with fail
          go_ret
          exact ⟨_, rfl, hvA.low hfw9.size, hfwA⟩)
end Go.Proofs.YgcsanGreat
