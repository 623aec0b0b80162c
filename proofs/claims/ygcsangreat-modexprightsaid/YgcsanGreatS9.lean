/-
  Stage of no codes; accountOK, addTo, WorldOK on its one account.
-/
import Derived.Test.YgcsanGreatS7
import Derived.Test.YgcsanGreatS1
import Derived.Deep.RegionLawGrows
namespace Go.Proofs.YgcsanGreat
open Go.RowKit
set_option linter.unusedSimpArgs false
set_option linter.unusedVariables false
attribute [-go_sem] loadVar storeVar Instr.build Instr.fill Instr.buildSlice Builtin.append_


/-- 2^128 as a word -/
def b128 : List Nat := List.replicate 15 0 ++ ([1] ++ List.replicate 16 0)
/-- the sender's account -/
def oaV : List Value := byV (adNo 240) ++ ([.int .u64 0] ++ (byV b128 ++ [.slice none 0 0, .slice none 0 0]))
theorem oaV_length : oaV.length = 55 := by kernel_rfl
theorem oaV_flat : Flat oaV := (byV_flat _).append ((Flat.cons rfl Flat.nil).append ((byV_flat _).append (Flat.cons rfl (Flat.cons rfl Flat.nil))))
theorem und98f : ∃ fs, Sang.prog.underlying 98 = some (.struct fs) ∧ fs.all (fun f => (Sang.prog.info? f.type).isSome) = true ∧
    fs.map (gOf Sang.prog) = #[(0, 20), (20, 1), (21, 32), (53, 1), (54, 1)] :=
  ⟨_, Sang.underlying98, by kernel_rfl, by kernel_rfl⟩
/-- the zero account -/
def zoV : List Value := zsV 20 ++ ([.int .u64 0] ++ (zsV 32 ++ [.slice none 0 0, .slice none 0 0]))
theorem zer98 : (Sang.prog.info? 98).map (·.zero) = some (some (.agg zoV.toArray)) := by kernel_rfl
theorem info98 : (Sang.prog.info? 98).map (fun i => (i.zero, i.size, i.bytes)) = some (some (.agg zoV.toArray), 55, 112) := by kernel_rfl
theorem bld26 (w : World) : (Instr.build 26 #[(15, .int .u8 1)]).run Sang.prog w = .ok (.agg (byV b128).toArray) w := by kernel_rfl
theorem bld26z (w : World) : (Instr.build 26 #[]).run Sang.prog w = .ok (.agg (byV z32).toArray) w := by kernel_rfl
theorem bld98 (w : World) : (Instr.build 98 #[(0, .agg (byV (adNo 240)).toArray), (2, .agg (byV b128).toArray)]).run Sang.prog w = .ok (.agg oaV.toArray) w := by
  obtain ⟨fs, h1, h2, h3⟩ := und98f
  exact run_buildP 98 fs _ _ [(0, .agg (byV (adNo 240)).toArray, byV (adNo 240)), (2, .agg (byV b128).toArray, byV b128)] _ h1 h2 h3 zer98 (by intro p hp; simp at hp; rcases hp with rfl | rfl <;> rfl) (by kernel_rfl) w
theorem bs40 (M : List Value) (hM : M.length = 55) (w : World) : (Instr.buildSlice 40 1 #[(0, .agg M.toArray)]).run Sang.prog w = .ok (.slice (some ⟨w.heap.size, 0, none⟩) 1 1) (w.alloc (.cells M.toArray 98)) := by
  obtain ⟨i, h1, h2, h3, h4⟩ := info_parts info98
  exact run_buildSlice1 40 98 i _ 55 Sang.underlying40 h1 h3 h2 (by decide) (by decide) M hM w

set_option maxRecDepth 10000 in
set_option maxHeartbeats 400000 in
theorem stage_nil (w : World) :
    Calls Sang.prog 15 #[.slice none 0 0] w fun e w' => ∃ g cap LA, e = .returned (.slice (some ⟨g, 0, none⟩) 1 cap) ∧ VB w' g 98 LA ∧ 55 ≤ LA.length ∧ subV LA 0 55 = oaV ∧ w.heap.size ≤ g ∧ Fr w.heap.size no w w' := by
  obtain ⟨i98, hi, hz, hsz, hby⟩ := info_parts info98
  have zsz : (Value.agg zoV.toArray).cells.size = 55 := by kernel_rfl
  have hb1 := bld26
  have hb2 := bld98
  have hsn : ∀ w, Calls Sang.prog 38 #[] w fun e w' => e = .returned (.agg (byV (adNo 240)).toArray) ∧ Fr w.heap.size no w w' := sender_any
  have hFl := oaV_flat
  have hLn := oaV_length
  have hbs := fun w => bs40 oaV oaV_length w
  generalize oaV = M at *
  generalize adNo 240 = A at *
  generalize b128 = B at *
  have HSn : Hid (∀ w, Calls Sang.prog 38 #[] w fun e w' => e = .returned (.agg (byV A).toArray) ∧ Fr w.heap.size no w w') := hsn
  clear hsn
  go_enter Sang.func15, Sang.ntmps15
  go_wp2_with fail
  go_loopw [9, 3] (fun iv sv wr => iv = .int .i64 0 ∧ sv = .slice none 0 0 ∧ wr = w) (fun _ _ _ => 0)
  case atStart => exact ⟨rfl, rfl, rfl⟩
  case round =>
    obtain ⟨rfl, rfl, rfl⟩ := hrel
    go_wp2_with fail
    refine (HSn.out wr).mono ?_
    rintro e w2 ⟨rfl, hf⟩
    have hB := VB.new w2 98 M
    have hfa := hf.alloc hf.size (.cells M.toArray 98)
    go_wp2_with ((with_reducible refine wl_append_nil (.tmp 32) (.tmp 36) 40 98 i98 _ 55 112 Sang.underlying40 hi hz hsz hby zsz (by decide) (by decide) ?_ w2.heap.size 1 98 M ?_ hB hLn hFl ?_); rfl; rfl; (intro g cap LA w3 hg hVg hc1 hcm hlen hsub hf3))
    go_ret
    refine ⟨g, cap, LA, rfl, hVg, by omega, hsub, ?_, hfa.step hf3 hfa.size (fun _ _ x => x)⟩
    have := hf.size
    simp at hg
    omega

theorem subV_get {L M : List Value} {n : Nat} (h : subV L 0 n = M) (i : Nat) {v : Value} (hi : M[i]? = some v) : L[i]? = some v := by
  subst h
  unfold subV at hi
  rw [List.getElem?_take] at hi
  split at hi
  · simpa using hi
  · cases hi
theorem subV_sub {L M : List Value} {n : Nat} (h : subV L 0 n = M) (o k : Nat) (hk : o + k ≤ n) : subV L o k = subV M o k := by
  subst h
  simp only [subV, List.drop_zero]
  rw [List.drop_take, List.take_take]
  congr 1
  omega

set_option maxRecDepth 10000 in
set_option maxHeartbeats 400000 in
theorem accountOK_any (g : Nat) (t : TypeId) (LA : List Value) (w : World) (h : VB w g t LA) (hl : 55 ≤ LA.length) (hs : subV LA 0 55 = oaV) :
    Calls Sang.prog 172 #[.pointer (some ⟨g, 0, none⟩)] w fun e w' => e = .returned (.bool true) ∧ w' = w := by
  have k20 := h.cell 20 (subV_get hs 20 (show oaV[20]? = some (.int .u64 0) by kernel_rfl))
  have k53 := h.cell 53 (subV_get hs 53 (show oaV[53]? = some (.slice none 0 0) by kernel_rfl))
  have k54 := h.cell 54 (subV_get hs 54 (show oaV[54]? = some (.slice none 0 0) by kernel_rfl))
  have es : subV LA 21 32 = byV b128 := (subV_sub hs 21 32 (by decide)).trans (by kernel_rfl)
  have hb := bld26z
  have l1 : b128.length = 32 := by kernel_rfl
  have l2 : z32.length = 32 := by kernel_rfl
  have ne : (b128 == z32) = false := by kernel_rfl
  have q := h.q
  have hl2 : 21 + 32 ≤ LA.length := by omega
  generalize b128 = B at *
  generalize z32 = Z at *
  clear hs
  go_enter Sang.func172, Sang.ntmps172
  go_wp2_with fail
  go_loop [52] (fun iv => iv = .int .i64 0) (fun _ => 0)
  case atStart => rfl
  case round =>
    subst hrel
    go_wp2_with fail
    go_ret
    exact ⟨rfl, rfl⟩

/-- the sum on the way: zeros, and behind them what was added -/
def curB (B : List Nat) (i : Nat) : List Nat := List.replicate i 0 ++ B.drop i
theorem curB_length (B : List Nat) (i : Nat) (h : i ≤ B.length) : (curB B i).length = B.length := by simp [curB]; omega
theorem curB_at (B : List Nat) (i : Nat) (h : i < B.length) : (byV (curB B (i + 1)))[i]? = some (.int .u8 0) := by
  simp [byV, curB, List.getElem?_append, List.getElem?_replicate]
theorem curB_set (B : List Nat) (i d : Nat) (h : i < B.length) (hd : B.getD i 0 = d) : (byV (curB B (i + 1))).set i (.int .u8 (d : Int)) = byV (curB B i) := by
  have e : (curB B (i + 1)).set i d = curB B i := by
    unfold curB
    rw [List.set_append_left _ _ (by simp), List.replicate_succ', List.set_append_right _ _ (by simp)]
    rw [List.drop_eq_getElem_cons h]
    have : B[i] = d := by rw [← hd]; simp [List.getD, h]
    simp [this]
  rw [← e]
  simp [byV]

set_option maxRecDepth 10000 in
set_option maxHeartbeats 400000 in
theorem addTo_any (s g : Nat) (t : TypeId) (LA : List Value) (B : List Nat) (w : World) (hS : VB w s 26 (byV z32)) (h : VB w g t LA) (hsg : s ≠ g) (lB : B.length = 32) (dB : Dg 256 B) (hB : ∀ i, i < 32 → LA[21 + i]? = some (.int .u8 ((B.getD i 0 : Nat) : Int))) :
    Calls Sang.prog 173 #[.pointer (some ⟨s, 0, none⟩), .pointer (some ⟨g, 21, none⟩)] w fun e w' => e = .returned (.bool true) ∧ Fr w.heap.size (· = s) w w' := by
  have hS0 : VB w s 26 (byV (curB B 32)) := by
    have : curB B 32 = z32 := by simp [curB, z32, ← lB]
    rw [this]; exact hS
  clear hS
  have HB : Hid (∀ i, i < 32 → LA[21 + i]? = some (.int .u8 ((B.getD i 0 : Nat) : Int))) := hB
  have HD : Hid (Dg 256 B) := dB
  clear hB dB
  go_enter Sang.func173, Sang.ntmps173
  go_wp2_with fail
  go_loopw [6, 5] (fun iv cv wr => ∃ i : Nat, i ≤ 32 ∧ iv = .int .i64 (i : Int) ∧ cv = .int .u16 0 ∧ VB wr s 26 (byV (curB B i)) ∧ VB wr g t LA ∧ Fr w.heap.size (· = s) w wr) (fun i _ _ => (intOf i).toNat)
  case atStart => exact ⟨32, Nat.le_refl _, rfl, rfl, hS0, h, Fr.refl _ _ _⟩
  case round =>
    obtain ⟨i, hi, rfl, rfl, hSr, hr, hfr⟩ := hrel
    clear hS0 h
    cases i with
    | zero =>
      go_wp2_with fail
      go_ret
      exact ⟨rfl, hfr⟩
    | succ i =>
      have hin : i < B.length := by omega
      obtain ⟨d, Hd⟩ : ∃ d, Hid (∀ _ : Unit, B.getD i 0 = d) := ⟨_, fun _ => rfl⟩
      have hd256 : (d : Int) ≤ 255 := by
        have : d ∈ B := by rw [← Hd.out ()]; simp [List.getD, hin]
        have := HD.out d this
        omega
      have hcell := HB.out i (by omega)
      rw [Hd.out ()] at hcell
      have kg := hr.drew.cell (21 + i) hcell
      have ks := hSr.drew.cell i (curB_at B i hin)
      have zs := hSr.drew.unfrozen i
      have hset := curB_set B i d hin (Hd.out ())
      have hii : (i : Int) < 32 := by omega
      have hi0 : (0 : Int) ≤ (i : Int) := by omega
      have e1 : ((i + 1 : Nat) : Int) - 1 = (i : Int) := by omega
      have e2 : (((i : Nat) : Int) + 1) - 1 = (i : Int) := by omega
      have ew : IntKind.u16.wrap (d : Int) = (d : Int) := by rw [IntKind.wrap_u16]; omega
      have ew8 : IntKind.u8.wrap (d : Int) = (d : Int) := by rw [IntKind.wrap_u8]; omega
      have eiw : IntKind.i64.wrap (i : Int) = (i : Int) := by rw [IntKind.wrap_i64]; omega
      go_wp2_with fail
      have ew0 : IntKind.u16.wrap 0 = 0 := by rw [IntKind.wrap_u16]; rfl
      have e256 : (d : Int) / 256 = 0 := by omega
      go_region_held3 (fun w' => w'.cell? ⟨s, i, none⟩ = some (.int .u8 0) ∧ w'.cell? ⟨g, 21 + i, none⟩ = some (.int .u8 (d : Int))) (exact ⟨ks, kg⟩) (fail)
      go_wp2_with fail
      refine ⟨⟨i, by omega, by go_num, ?_, ?_, hr.drew.other (a := ⟨s, i, none⟩) (by simpa using hsg) _, hfr.drew.setCell (.inr rfl) _⟩, by simp [intOf]⟩
      · rfl
      · have := hSr.drew.set (i := i) (by rw [byV_length, curB_length _ _ (by omega)]; omega) (.int .u8 (d : Int))
        rw [hset] at this
        exact this

theorem oaV_bal (i : Nat) (hi : i < 32) : oaV[21 + i]? = some (.int .u8 ((b128.getD i 0 : Nat) : Int)) := by
  have : ∀ i : Fin 32, oaV[21 + i.val]? = some (.int .u8 ((b128.getD i.val 0 : Nat) : Int)) := by
    intro i
    match i with
    | ⟨i, hi⟩ =>
      simp only
      rw [oaV, List.getElem?_append_right (by rw [byV_length]; simp [adNo]; omega), List.getElem?_append_right (by rw [byV_length]; simp [adNo]; omega), List.getElem?_append_left (by rw [byV_length, byV_length]; simp [adNo, b128]; omega)]
      have e : 21 + i - (byV (adNo 240)).length - [Value.int IntKind.u64 0].length = i := by rw [byV_length]; simp [adNo]; omega
      rw [e]
      have hl : i < b128.length := by simp [b128]; omega
      simp [byV, List.getD, List.getElem?_eq_getElem hl]
  exact this ⟨i, hi⟩
theorem b128_dg : Dg 256 b128 := by
  intro d hd
  simp [b128] at hd
  omega

set_option maxRecDepth 10000 in
set_option maxHeartbeats 400000 in
theorem worldOK_any (g cap : Nat) (LA : List Value) (w : World) (h : VB w g 98 LA) (hl : 55 ≤ LA.length) (hs : subV LA 0 55 = oaV) :
    Calls Sang.prog 113 #[.slice (some ⟨g, 0, none⟩) 1 cap] w fun e w' => e = .returned (.bool true) ∧ Fr w.heap.size no w w' := by
  have HA : Hid (∀ w', VB w' g 98 LA → Calls Sang.prog 172 #[.pointer (some ⟨g, 0, none⟩)] w' fun e w'' => e = .returned (.bool true) ∧ w'' = w') := fun w' hw => accountOK_any g 98 LA w' hw hl hs
  have HT : Hid (∀ w' s, VB w' s 26 (byV z32) → VB w' g 98 LA → s ≠ g → Calls Sang.prog 173 #[.pointer (some ⟨s, 0, none⟩), .pointer (some ⟨g, 21, none⟩)] w' fun e w'' => e = .returned (.bool true) ∧ Fr w'.heap.size (· = s) w' w'') :=
    fun w' s h1 h2 h3 => addTo_any s g 98 LA b128 w' h1 h2 h3 (by kernel_rfl) b128_dg (fun i hi => subV_get hs (21 + i) (oaV_bal i hi))
  have h1 := h.alloc (.cells #[Value.int IntKind.u8 0, Value.int IntKind.u8 0, Value.int IntKind.u8 0, Value.int IntKind.u8 0, Value.int IntKind.u8 0, Value.int IntKind.u8 0, Value.int IntKind.u8 0, Value.int IntKind.u8 0, Value.int IntKind.u8 0, Value.int IntKind.u8 0, Value.int IntKind.u8 0, Value.int IntKind.u8 0, Value.int IntKind.u8 0, Value.int IntKind.u8 0, Value.int IntKind.u8 0, Value.int IntKind.u8 0, Value.int IntKind.u8 0, Value.int IntKind.u8 0, Value.int IntKind.u8 0, Value.int IntKind.u8 0, Value.int IntKind.u8 0, Value.int IntKind.u8 0, Value.int IntKind.u8 0, Value.int IntKind.u8 0, Value.int IntKind.u8 0, Value.int IntKind.u8 0, Value.int IntKind.u8 0, Value.int IntKind.u8 0, Value.int IntKind.u8 0, Value.int IntKind.u8 0, Value.int IntKind.u8 0, Value.int IntKind.u8 0] 26)
  have hZ : VB (w.alloc (.cells #[Value.int IntKind.u8 0, Value.int IntKind.u8 0, Value.int IntKind.u8 0, Value.int IntKind.u8 0, Value.int IntKind.u8 0, Value.int IntKind.u8 0, Value.int IntKind.u8 0, Value.int IntKind.u8 0, Value.int IntKind.u8 0, Value.int IntKind.u8 0, Value.int IntKind.u8 0, Value.int IntKind.u8 0, Value.int IntKind.u8 0, Value.int IntKind.u8 0, Value.int IntKind.u8 0, Value.int IntKind.u8 0, Value.int IntKind.u8 0, Value.int IntKind.u8 0, Value.int IntKind.u8 0, Value.int IntKind.u8 0, Value.int IntKind.u8 0, Value.int IntKind.u8 0, Value.int IntKind.u8 0, Value.int IntKind.u8 0, Value.int IntKind.u8 0, Value.int IntKind.u8 0, Value.int IntKind.u8 0, Value.int IntKind.u8 0, Value.int IntKind.u8 0, Value.int IntKind.u8 0, Value.int IntKind.u8 0, Value.int IntKind.u8 0] 26)) w.heap.size 26 (byV z32) := VB.newAt rfl rfl
  have hf : Fr w.heap.size no w (w.alloc (.cells #[Value.int IntKind.u8 0, Value.int IntKind.u8 0, Value.int IntKind.u8 0, Value.int IntKind.u8 0, Value.int IntKind.u8 0, Value.int IntKind.u8 0, Value.int IntKind.u8 0, Value.int IntKind.u8 0, Value.int IntKind.u8 0, Value.int IntKind.u8 0, Value.int IntKind.u8 0, Value.int IntKind.u8 0, Value.int IntKind.u8 0, Value.int IntKind.u8 0, Value.int IntKind.u8 0, Value.int IntKind.u8 0, Value.int IntKind.u8 0, Value.int IntKind.u8 0, Value.int IntKind.u8 0, Value.int IntKind.u8 0, Value.int IntKind.u8 0, Value.int IntKind.u8 0, Value.int IntKind.u8 0, Value.int IntKind.u8 0, Value.int IntKind.u8 0, Value.int IntKind.u8 0, Value.int IntKind.u8 0, Value.int IntKind.u8 0, Value.int IntKind.u8 0, Value.int IntKind.u8 0, Value.int IntKind.u8 0, Value.int IntKind.u8 0] 26)) := (Fr.refl _ _ _).alloc (Nat.le_refl _) _
  have hg := h.lt
  clear hs hl
  go_enter Sang.func113, Sang.ntmps113
  go_wp2_with fail
  generalize w.alloc (.cells #[Value.int IntKind.u8 0, Value.int IntKind.u8 0, Value.int IntKind.u8 0, Value.int IntKind.u8 0, Value.int IntKind.u8 0, Value.int IntKind.u8 0, Value.int IntKind.u8 0, Value.int IntKind.u8 0, Value.int IntKind.u8 0, Value.int IntKind.u8 0, Value.int IntKind.u8 0, Value.int IntKind.u8 0, Value.int IntKind.u8 0, Value.int IntKind.u8 0, Value.int IntKind.u8 0, Value.int IntKind.u8 0, Value.int IntKind.u8 0, Value.int IntKind.u8 0, Value.int IntKind.u8 0, Value.int IntKind.u8 0, Value.int IntKind.u8 0, Value.int IntKind.u8 0, Value.int IntKind.u8 0, Value.int IntKind.u8 0, Value.int IntKind.u8 0, Value.int IntKind.u8 0, Value.int IntKind.u8 0, Value.int IntKind.u8 0, Value.int IntKind.u8 0, Value.int IntKind.u8 0, Value.int IntKind.u8 0, Value.int IntKind.u8 0] 26) = w1 at h1 hZ hf ⊢
  go_loopw [10] (fun iv wr => (iv = .int .i64 0 ∧ wr = w1) ∨ (iv = .int .i64 1 ∧ Fr w.heap.size no w wr)) (fun i _ => 1 - (intOf i).toNat)
  case atStart => exact .inl ⟨rfl, rfl⟩
  case round =>
    rcases hrel with ⟨rfl, rfl⟩ | ⟨rfl, hfr⟩
    · have h1q : ∀ n, VB (wr.drewN n) g 98 LA := fun n => h1
      have hZq : ∀ n, VB (wr.drewN n) w.heap.size 26 (byV z32) := fun n => hZ
      have hfq : ∀ n, Fr w.heap.size no w (wr.drewN n) := fun n => ⟨hf.os, hf.tape, hf.output, hf.size, hf.block⟩
      go_wp2_with fail
      go_quiet (fail)
      all_goals (
        go_wp2_with fail
        refine (HA.out _ (h1q _)).mono ?_
        rintro e w2 ⟨rfl, rfl⟩
        go_wp2_with fail
        refine (HT.out _ w.heap.size (hZq _) (h1q _) (by omega)).mono ?_
        rintro e w3 ⟨rfl, hf3⟩
        go_wp2_with fail
        refine ⟨.inr ⟨rfl, ?_⟩, by simp [intOf]⟩
        exact (hfq _).step hf3 (hfq _).size (fun i hi e => absurd e (by omega)))
    · go_wp2_with fail
      go_ret
      exact ⟨rfl, hfr⟩
end Go.Proofs.YgcsanGreat
