/-
  Package yp: listed, withAddr, World.warm, addrsOf: no more is said than that a list of addresses comes out.
-/
import Derived.Test.YgcsanGreatS3
namespace Go.Proofs.YgcsanGreat
open Go.RowKit
set_option linter.unusedSimpArgs false
set_option linter.unusedVariables false
attribute [-go_sem] loadVar storeVar Instr.build Instr.fill Instr.buildSlice Builtin.append_


/-- a list of at most k addresses -/
def AS (w : World) (k : Nat) (v : Value) : Prop := ∃ R : List (List Nat), R.length ≤ k ∧ (∀ r ∈ R, r.length = 20) ∧
  ((v = .slice none 0 0 ∧ R = []) ∨ ∃ b t L cap, v = .slice (some ⟨b, 0, none⟩) R.length cap ∧ R.length ≤ cap ∧ cap ≤ maxLen ∧ VB w b t L ∧ 20 * R.length ≤ L.length ∧ ∀ i r, R[i]? = some r → subV L (i * 20) 20 = byV r)
theorem AS.nil (w : World) (k : Nat) : AS w k (.slice none 0 0) := ⟨[], Nat.zero_le _, by simp, .inl ⟨rfl, rfl⟩⟩
theorem AS.fr {w w' : World} {k : Nat} {v : Value} (h : AS w k v) {X : Nat → Prop} (f : Fr w.heap.size X w w') (hx : ∀ a n c, v = .slice (some a) n c → ¬ X a.block) : AS w' k v := by
  obtain ⟨R, h1, h2, h3⟩ := h
  refine ⟨R, h1, h2, ?_⟩
  rcases h3 with h3 | ⟨b, t, L, cap, rfl, h4, h5, h6, h7, h8⟩
  · exact .inl h3
  · exact .inr ⟨b, t, L, cap, rfl, h4, h5, h6.fr f h6.lt (hx _ _ _ rfl), h7, h8⟩
theorem AS.mono {w : World} {k k' : Nat} {v : Value} (h : AS w k v) (hk : k ≤ k') : AS w k' v := by
  obtain ⟨R, h1, h2⟩ := h
  exact ⟨R, by omega, h2⟩
theorem AS.one {w : World} {k : Nat} {v : Value} (h : AS w k v) : v.oneCell' = true := by
  obtain ⟨R, -, -, ⟨rfl, -⟩ | ⟨b, t, L, cap, rfl, -⟩⟩ := h <;> rfl
theorem AS.noU8 {w : World} {k : Nat} {v : Value} (h : AS w k v) : noU8 v := by
  obtain ⟨R, -, -, ⟨rfl, -⟩ | ⟨b, t, L, cap, rfl, -⟩⟩ := h <;> exact noU8.slice _ _ _

theorem len_at {α : Type} (R : List α) (i : Nat) (hi : i < R.length) : ∃ r, R[i]? = some r := ⟨R[i], List.getElem?_eq_getElem hi⟩

set_option maxRecDepth 10000 in
set_option maxHeartbeats 400000 in
theorem listed_any (v : Value) (k : Nat) (A : List Nat) (w : World) (h : AS w k v) (hk : k ≤ 1000) (lA : A.length = 20) :
    Calls Sang.prog 156 #[v, .agg (byV A).toArray] w fun e w' => ∃ r, e = .returned (.bool r) ∧ Fr w.heap.size no w w' := by
  obtain ⟨R, h1, h2, h3⟩ := h
  have hX := VB.new w 23 (byV A)
  have hf : Fr w.heap.size no w (w.alloc (.cells (byV A).toArray 23)) := (Fr.refl _ _ _).alloc (Nat.le_refl _) _
  have lB : (byV A).length = 20 := by simp [byV, lA]
  have eB : subV (byV A) 0 20 = byV A := by simp [subV, ← lB]
  rcases h3 with ⟨rfl, rfl⟩ | ⟨b, t, L, cap, rfl, h4, h5, h6, h7, h8⟩
  · go_enter Sang.func156, Sang.ntmps156
    go_wp2_with fail
    generalize w.alloc (.cells (byV A).toArray 23) = w1 at hX hf ⊢
    go_loopw [9] (fun iv wr => iv = .int .i64 0 ∧ wr = w1) (fun _ _ => 0)
    case atStart => exact ⟨rfl, rfl⟩
    case round =>
      obtain ⟨rfl, rfl⟩ := hrel
      go_wp2_with fail
      go_ret
      exact ⟨_, rfl, hf⟩
  · have h9 := h6.alloc (.cells (byV A).toArray 23)
    have hRk : (R.length : Int) ≤ 1000 := by omega
    have H8 : Hid (∀ i r, R[i]? = some r → subV L (i * 20) 20 = byV r) := h8
    have H7 : Hid (20 * R.length ≤ L.length) := h7
    have H2 : Hid (∀ r ∈ R, r.length = 20) := h2
    clear h8 h7 h1 hk h2
    unfold maxLen at h5
    go_enter Sang.func156, Sang.ntmps156
    go_wp2_with fail
    generalize w.alloc (.cells (byV A).toArray 23) = w1 at hX hf h9 ⊢
    go_loopw [9] (fun iv wr => ∃ i : Nat, i ≤ R.length ∧ iv = .int .i64 (i : Int) ∧ VB wr w.heap.size 23 (byV A) ∧ VB wr b t L ∧ Fr w.heap.size no w wr) (fun i _ => R.length - (intOf i).toNat)
    case atStart => exact ⟨0, by omega, rfl, hX, h9, hf⟩
    case round =>
      obtain ⟨i, hi, rfl, hXr, hLr, hfr⟩ := hrel
      clear hX h9 hf
      by_cases hin : i < R.length
      · obtain ⟨r, hr⟩ := len_at R i hin
        have hsub := H8.out i r hr
        have lr : r.length = 20 := H2.out r (List.mem_of_getElem? hr)
        have lrv : (byV r).length = 20 := by simp [byV, lr]
        have er : subV (byV r) 0 20 = byV r := by simp [subV, ← lrv]
        have hbd : i * 20 + 20 ≤ L.length := by have := H7.out; omega
        have hfl := byV_flat r
        have hr1 := VB.new wr 23 (byV r)
        have hX2 := hXr.alloc (.cells (byV r).toArray 23)
        have hL2 := hLr.alloc (.cells (byV r).toArray 23)
        have q1 := hLr.q
        have q2 := hr1.q
        have q3 := hX2.q
        have hfa := hfr.alloc hfr.size (.cells (byV r).toArray 23)
        clear hr
        go_wp2_with fail
        · go_ret
          exact ⟨_, rfl, hfa⟩
        · exact ⟨⟨i + 1, by omega, by go_num, hX2, hL2, hfa⟩, by simp [intOf]; omega⟩
      · have : i = R.length := by omega
        subst this
        go_wp2_with fail
        go_ret
        exact ⟨_, rfl, hfr⟩

theorem flat_len (S : List (List Nat)) (hS : ∀ s ∈ S, s.length = 20) : ((S.map byV).flatten).length = S.length * 20 := by
  induction S with
  | nil => rfl
  | cons s S ih =>
    have h1 := hS s (List.mem_cons_self ..)
    have h2 := ih (fun x hx => hS x (List.mem_cons_of_mem _ hx))
    simp only [List.map_cons, List.flatten_cons, List.length_append, h2, byV_length, h1, List.length_cons]
    omega
theorem flat_sub : ∀ (S : List (List Nat)) (hS : ∀ s ∈ S, s.length = 20) (i : Nat) (r : List Nat), S[i]? = some r → (((S.map byV).flatten).drop (i * 20)).take 20 = byV r
  | [], _, i, r, h => by simp at h
  | s :: S, hS, 0, r, h => by
    have h1 := hS s (List.mem_cons_self ..)
    simp at h
    subst h
    have : (byV s).length = 20 := by rw [byV_length, h1]
    simp [← this]
  | s :: S, hS, i + 1, r, h => by
    have h1 := hS s (List.mem_cons_self ..)
    have ih := flat_sub S (fun x hx => hS x (List.mem_cons_of_mem _ hx)) i r (by simpa using h)
    have e : (byV s).length = 20 := by rw [byV_length, h1]
    rw [List.map_cons, List.flatten_cons, show (i + 1) * 20 = (byV s).length + i * 20 by rw [e]; omega, List.drop_append, List.drop_eq_nil_of_le (by omega), List.nil_append, Nat.add_sub_cancel_left]
    exact ih

theorem AS.of_own {w : World} {base : Nat} {v : Value} {S : List (List Nat)} (h : w.ownsRow base 23 20 v S.length ((S.map byV).flatten)) (hS : ∀ s ∈ S, s.length = 20) (k : Nat) (hk : S.length ≤ k) : AS w k v := by
  refine ⟨S, hk, hS, ?_⟩
  obtain ⟨h0, ⟨rfl, h1⟩ | ⟨g, cap, cur, rfl, h1, h2, h3, h4, h5, h6⟩⟩ := h
  · exact .inl ⟨rfl, List.eq_nil_of_length_eq_zero h1⟩
  · refine .inr ⟨g, 23, cur.toList, cap, rfl, h3, h4, ?_, ?_, ?_⟩
    · unfold VB; rw [h2]
    · simp only [Array.length_toList, h5]; omega
    · intro i r hr
      have hi : i < S.length := (List.getElem?_eq_some_iff.1 hr).1
      rw [← flat_sub S hS i r hr, ← h6, subV, List.drop_take, List.take_take]
      congr 1
      omega
theorem own_lt {w : World} {base : Nat} {e : TypeId} {size : Nat} {v : Value} {n : Nat} {xs : List Value} (h : w.ownsRow base e size v n xs) : ∀ g, v.ownBlock = some g → base ≤ g ∧ g < w.heap.size := by
  intro g hg
  obtain ⟨h0, ⟨rfl, h1⟩ | ⟨g', cap, cur, rfl, h1, h2, h3⟩⟩ := h
  · simp [Value.ownBlock] at hg
  · simp [Value.ownBlock] at hg
    subst hg
    exact ⟨h1, (Array.getElem?_eq_some_iff.1 h2).1⟩
theorem own_fr {w w' : World} {base : Nat} {e : TypeId} {size : Nat} {v : Value} {n : Nat} {xs : List Value} (h : w.ownsRow base e size v n xs) (f : Fr w.heap.size no w w') : w'.ownsRow base e size v n xs :=
  h.kept (row := none) ⟨f.os, f.tape, f.output, f.size, fun k hk _ => f.block k hk (fun x => x)⟩ (by cases v.ownBlock <;> simp)
theorem own_alloc {w : World} {base : Nat} {e : TypeId} {size : Nat} {v : Value} {n : Nat} {xs : List Value} (h : w.ownsRow base e size v n xs) (o : Obj) : (w.alloc o).ownsRow base e size v n xs :=
  own_fr h ((Fr.refl _ _ _).alloc (Nat.le_refl _) _)
theorem info23 : (Sang.prog.info? 23).map (fun i => (i.zero, i.size, i.bytes)) = some (some (.agg (zsV 20).toArray), 20, 20) := by kernel_rfl
theorem bs54 (M : List Value) (hM : M.length = 20) (w : World) : (Instr.buildSlice 54 1 #[(0, .agg M.toArray)]).run Sang.prog w = .ok (.slice (some ⟨w.heap.size, 0, none⟩) 1 1) (w.alloc (.cells M.toArray 23)) := by
  obtain ⟨i, h1, h2, h3, h4⟩ := info_parts info23
  exact run_buildSlice1 54 23 i _ 20 Sang.underlying54 h1 h3 h2 (by decide) (by decide) M hM w
attribute [go_sem] bs54

/-- an address is laid behind the list -/
theorem wl_append_addr {w : World} {ops : Array Oper} {rest : List Oper} {Q : Exit → Act → World → Prop} {a : Act} {dst : Option Tmp} {type : TypeId} {pos : String} {after : Array Edge}
    (s x : Operand) (v : Value) (S : List (List Nat)) (base : Nat) (hs : a.eval s = v) (ho : w.ownsRow base 23 20 v S.length ((S.map byV).flatten)) (b : Nat) (A : List Nat) (hx : a.eval x = .slice (some ⟨b, 0, none⟩) 1 1) (hV : VB w b 23 (byV A)) (lA : A.length = 20)
    (hk : S.length ≤ 1000) (hbase : base ≤ w.heap.size)
    (hK : ∀ v' w', w'.ownsRow base 23 20 v' (S ++ [A]).length (((S ++ [A]).map byV).flatten) → Fr base no w w' → (∀ k, k < w.heap.size → some k ≠ v.ownBlock → w'.heap[k]? = w.heap[k]?) → w.heap.size ≤ w'.heap.size → wpList Sang.prog ops Q rest (a.put dst v') w') :
    wpList Sang.prog ops Q (⟨dst, .call { callee := .builtin .append, args := #[s, x], argTypes := #[54, 54] }, type, pos, after, none⟩ :: rest) a w := by
  obtain ⟨i, h1, h2, h3, h4⟩ := info_parts info23
  refine wpList_append_own (P := Sang.prog) w rfl s x 54 rfl base 23 i _ 20 20 Sang.underlying54 h1 h2 h3 h4 rfl (by decide) v S.length _ hs ho ⟨b, 0, none⟩ 1 1 (byV A) hx (by rw [byV_length, lA]) ?_ (byV_flat A) (by unfold maxLen; omega) (by omega) hbase ?_
  · intro j u hj
    have := hV.cell j hj
    rw [Addr.add_lit]
    simpa using this
  · intro v' w' r1 r2 _
    refine hK v' w' ?_ ?_ r2.block r2.size
    · have e1 : (S ++ [A]).length = S.length + 1 := by simp
      have e2 : ((S ++ [A]).map byV).flatten = (S.map byV).flatten ++ byV A := by simp
      rw [e1, e2]
      exact r1
    · refine ⟨r2.os, r2.tape, r2.output, r2.size, fun k hk _ => r2.block k (by omega) ?_⟩
      intro e
      have := own_lt ho k e.symm
      omega

set_option maxRecDepth 10000 in
set_option maxHeartbeats 2000000 in
theorem withAddr_any (v : Value) (k : Nat) (A : List Nat) (w : World) (h : AS w k v) (hk : k ≤ 900) (lA : A.length = 20) :
    Calls Sang.prog 138 #[v, .agg (byV A).toArray] w fun e w' => ∃ v', e = .returned v' ∧ AS w' (k + 1) v' ∧ (v' = v ∨ ∀ a n c, v' = .slice (some a) n c → w.heap.size ≤ a.block) ∧ Fr w.heap.size no w w' := by
  have hX := VB.new w 23 (byV A)
  have hf : Fr w.heap.size no w (w.alloc (.cells (byV A).toArray 23)) := (Fr.refl _ _ _).alloc (Nat.le_refl _) _
  have lB : (byV A).length = 20 := by simp [byV, lA]
  have eB : subV (byV A) 0 20 = byV A := by simp [subV, ← lB]
  have hflA := byV_flat A
  have q := hX.q
  have hsz1 : (w.alloc (.cells (byV A).toArray 23)).heap.size = w.heap.size + 1 := by simp
  have HA : Hid (AS w k v) := h
  have HAf := HA.out.fr hf (fun _ _ _ _ x => x)
  have HAf' : Hid (AS (w.alloc (.cells (byV A).toArray 23)) k v) := HAf
  clear h HAf
  have hkI : (k : Int) ≤ 900 := by omega
  have HK : Hid (∀ _ : Unit, k ≤ 900) := fun _ => hk
  clear hk
  go_enter Sang.func138, Sang.ntmps138
  go_wp2_with fail
  generalize w.alloc (.cells (byV A).toArray 23) = w1 at hX hf q hsz1 HAf' ⊢
  refine (listed_any v k A w1 HAf'.out (by have := HK.out (); omega) lA).mono ?_
  rintro e w2 ⟨r, rfl, hf2⟩
  have hX2 := hX.fr hf2 hX.lt (fun x => x)
  have hfw := hf.step hf2 hf.size (fun _ _ x => x)
  have hsz2 : w.heap.size + 1 ≤ w2.heap.size := by have := hf2.size; omega
  clear q hX hf hsz1
  cases r with
  | true =>
    go_wp2_with fail
    go_ret
    exact ⟨_, rfl, (HA.out.fr hfw (fun _ _ _ _ x => x)).mono (by omega), .inl rfl, hfw⟩
  | false =>
    have HA2 := HAf'.out.fr hf2 (fun _ _ _ _ x => x)
    obtain ⟨R, g1, g2, g3⟩ := HA2
    have H2 : Hid (∀ r ∈ R, r.length = 20) := g2
    have H1 : Hid (∀ _ : Unit, R.length ≤ k) := fun _ => g1
    have hRk : (R.length : Int) ≤ 900 := by have := HK.out (); omega
    clear g1 g2 HAf' hf2
    have hown0 : w2.ownsRow (w.heap.size + 1) 23 20 (.slice none 0 0) ([] : List (List Nat)).length ((([] : List (List Nat)).map byV).flatten) := ⟨rfl, .inl ⟨rfl, rfl⟩⟩
    have HEnd : Hid (∀ (S : List (List Nat)) (ov : Value) (wr : World), (∀ s ∈ S, s.length = 20) → S.length ≤ k + 1 → wr.ownsRow (w.heap.size + 1) 23 20 ov S.length ((S.map byV).flatten) → AS wr (k + 1) ov ∧ (ov = v ∨ ∀ a n c, ov = .slice (some a) n c → w.heap.size ≤ a.block)) := fun S ov wr hS hl ho => by
      refine ⟨AS.of_own ho hS _ hl, .inr ?_⟩
      intro a n c e
      obtain ⟨h0, ⟨rfl, h1⟩ | ⟨g, cap, cur, rfl, h1, h2, h3⟩⟩ := ho
      · cases e
      · cases e
        simp only
        omega
    have HTail : Hid (∀ _ : Unit, True) := fun _ => trivial
    rcases g3 with ⟨rfl, rfl⟩ | ⟨b, t, L, cap, rfl, h4, h5, h6, h7, h8⟩
    · go_wp2_with fail
      go_loopw [15, 6, 5] (fun iv lv ov wr => iv = .int .i64 0 ∧ lv = .bool false ∧ ov = .slice none 0 0 ∧ wr = w2) (fun _ _ _ _ => 0)
      case atStart => exact ⟨rfl, rfl, rfl, rfl⟩
      case round =>
        obtain ⟨rfl, rfl, rfl, rfl⟩ := hrel
        have q := hX2.q
        have hB := VB.new wr 23 (byV A)
        have hown1 := own_alloc hown0 (.cells (byV A).toArray 23)
        have hfa := hfw.alloc hfw.size (.cells (byV A).toArray 23)
        go_wp2_with ((with_reducible refine wl_append_addr (.tmp 37) (.tmp 39) (.slice none 0 0) [] (w.heap.size + 1) ?_ hown1 wr.heap.size A ?_ hB lA (by simp) ?_ ?_); rfl; rfl; (simp only [World.size_alloc]; omega); (intro ov' w6 ho6 hf6 _ hs6))
        go_ret
        obtain ⟨e1, e2⟩ := HEnd.out [A] ov' w6 (by simpa using lA) (by simp) ho6
        exact ⟨_, rfl, e1, e2, hfa.step hf6 (by omega) (fun _ _ x => x)⟩
    · have hbw : b < w.heap.size := by
        obtain ⟨R', -, -, ⟨e, -⟩ | ⟨b', t', L', c', e, -, -, hv, -⟩⟩ := HA.out
        · cases e
        · simp at e; rw [e.1]; exact hv.lt
      have H8 : Hid (∀ i r, R[i]? = some r → subV L (i * 20) 20 = byV r) := h8
      have H7 : Hid (20 * R.length ≤ L.length) := h7
      clear h8 h7
      unfold maxLen at h5
      go_wp2_with fail
      go_loopw [15, 6, 5] (fun iv lv ov wr => ∃ (i : Nat) (ld : Bool) (S : List (List Nat)), i ≤ R.length ∧ iv = .int .i64 (i : Int) ∧ lv = .bool ld ∧ Hid (∀ _ : Unit, S.length ≤ i + 1 ∧ (ld = false → S.length ≤ i)) ∧ Hid (∀ s ∈ S, s.length = 20) ∧ wr.ownsRow (w.heap.size + 1) 23 20 ov S.length ((S.map byV).flatten) ∧ VB wr w.heap.size 23 (byV A) ∧ VB wr b t L ∧ Fr w.heap.size no w wr ∧ w.heap.size + 1 ≤ wr.heap.size) (fun i _ _ _ => R.length - (intOf i).toNat)
      case atStart => exact ⟨0, false, [], by omega, rfl, rfl, fun _ => ⟨by simp, by simp⟩, (by intro s hs; cases hs), hown0, hX2, h6, hfw, hsz2⟩
      case round =>
        obtain ⟨i, ld, S, hi, rfl, rfl, HS1, HS2, ho, hXr, hLr, hfr, hszr⟩ := hrel
        clear hown0 hX2 hfw hsz2
        have Hlt : Hid (∀ g, u5.ownBlock = some g → w.heap.size + 1 ≤ g ∧ g < wr.heap.size) := own_lt ho
        by_cases hin : i < R.length
        · obtain ⟨r, hr⟩ := len_at R i hin
          have hsub := H8.out i r hr
          have lr : r.length = 20 := H2.out r (List.mem_of_getElem? hr)
          have lrv : (byV r).length = 20 := by simp [byV, lr]
          have er : subV (byV r) 0 20 = byV r := by simp [subV, ← lrv]
          have hbd : i * 20 + 20 ≤ L.length := by have := H7.out; omega
          have hfl := byV_flat r
          have hr1 := VB.new wr 23 (byV r)
          have hX3 := hXr.alloc (.cells (byV r).toArray 23)
          have hL3 := hLr.alloc (.cells (byV r).toArray 23)
          have ho3 := own_alloc ho (.cells (byV r).toArray 23)
          have hf3 := hfr.alloc hfr.size (.cells (byV r).toArray 23)
          have q1 := hLr.q
          have HSk : Hid (∀ _ : Unit, S.length ≤ 901) := fun _ => by have := HS1.out (); have := H1.out (); have := HK.out (); omega
          clear hr
          cases ld with
          | true =>
            have q2 := hr1.q
            have hB := VB.new (wr.alloc (.cells (byV r).toArray 23)) 23 (byV r)
            rw [World.size_alloc] at hB
            have ho4 := own_alloc ho3 (.cells (byV r).toArray 23)
            have hX4 := hX3.alloc (.cells (byV r).toArray 23)
            have hL4 := hL3.alloc (.cells (byV r).toArray 23)
            have hf4 := hf3.alloc hf3.size (.cells (byV r).toArray 23)
            go_wp2_with ((with_reducible refine wl_append_addr (.tmp 30) (.tmp 32) u5 S (w.heap.size + 1) ?_ ho4 (wr.heap.size + 1) r ?_ hB lr ?_ ?_ ?_); rfl; rfl; (have := HSk.out (); omega); (simp only [World.size_alloc]; omega); (intro ov' w6 ho6 hf6 _ hs6))
            refine ⟨⟨i + 1, true, S ++ [r], by omega, by go_num, rfl, fun _ => ⟨by have := HS1.out (); simp; omega, by simp⟩, ?_, ho6, hX4.fr hf6 (by omega) (fun x => x), hL4.fr hf6 (by omega) (fun x => x), hf4.step hf6 (by omega) (fun _ _ x => x), by simp only [World.size_alloc] at hs6; omega⟩, by simp [intOf]; omega⟩
            intro s hs
            rcases List.mem_append.1 hs with hs | hs
            · exact HS2.out s hs
            · rw [List.mem_singleton.1 hs]; exact lr
          | false =>
            have q2 := hr1.q
            have q3 := hX3.q
            go_wp2_with fail
            generalize hw8 : wr.alloc (.cells (byV r).toArray 23) = w8 at hr1 hX3 hL3 ho3 hf3 q2 q3 ⊢
            have hs8 : w8.heap.size = wr.heap.size + 1 := by rw [← hw8]; simp
            clear hw8
            refine (before_any A r w8 lA lr).mono ?_
            rintro e w10 ⟨rfl, hfx⟩
            generalize Op.bytesLess (strOf A).toList (strOf r).toList = rr
            replace hr1 := hr1.fr hfx hr1.lt (fun x => x)
            replace hX3 := hX3.fr hfx hX3.lt (fun x => x)
            replace hL3 := hL3.fr hfx hL3.lt (fun x => x)
            replace ho3 := own_fr ho3 hfx
            replace hf3 := hf3.step hfx hf3.size (fun _ _ x => x)
            have hs10 : wr.heap.size + 1 ≤ w10.heap.size := by have := hfx.size; omega
            clear hfx q2 q3
            cases rr with
            | true =>
              have q3 := hX3.q
              have hB := VB.new w10 23 (byV A)
              have ho4 := own_alloc ho3 (.cells (byV A).toArray 23)
              have hX4 := hX3.alloc (.cells (byV A).toArray 23)
              have hL4 := hL3.alloc (.cells (byV A).toArray 23)
              have hr4 := hr1.alloc (.cells (byV A).toArray 23)
              have hf4 := hf3.alloc hf3.size (.cells (byV A).toArray 23)
              have hlt4 : wr.heap.size < (w10.alloc (.cells (byV A).toArray 23)).heap.size := by simp only [World.size_alloc]; omega
              have hne4 : some wr.heap.size ≠ u5.ownBlock := fun e => by have := Hlt.out _ e.symm; omega
              go_wp2_with (first
                | ((with_reducible refine wl_append_addr (.tmp 26) (.tmp 28) u5 S (w.heap.size + 1) ?_ ho4 w10.heap.size A ?_ hB lA ?_ ?_ ?_); rfl; rfl; (have := HSk.out (); omega); (simp only [World.size_alloc]; omega); (intro ov' w6 ho6 hf6 hk6 hs6); have hr6 : VB w6 wr.heap.size 23 (byV r) := (hk6 wr.heap.size hlt4 hne4).trans hr4; have hX6 := hX4.fr hf6 (by omega) (fun x => x); have hL6 := hL4.fr hf6 (by omega) (fun x => x); have hf7 := hf4.step hf6 (by omega) (fun _ _ x => x); have q6 := hr6.q; have hB6 := VB.new w6 23 (byV r); have ho7 := own_alloc ho6 (.cells (byV r).toArray 23); have hX7 := hX6.alloc (.cells (byV r).toArray 23); have hL7 := hL6.alloc (.cells (byV r).toArray 23); have hf8 := hf7.alloc hf7.size (.cells (byV r).toArray 23); simp only [World.size_alloc] at hs6; clear hk6 hf6)
                | ((with_reducible refine wl_append_addr (.tmp 30) (.tmp 32) ov' (S ++ [A]) (w.heap.size + 1) ?_ ho7 w6.heap.size r ?_ hB6 lr ?_ ?_ ?_); rfl; rfl; (have := HSk.out (); simp only [List.length_append, List.length_cons, List.length_nil]; omega); (simp only [World.size_alloc]; omega); (intro ov2 w9 ho9 hf9 _ hs9)))
              refine ⟨⟨i + 1, true, S ++ [A] ++ [r], by omega, by go_num, rfl, fun _ => ⟨by have := (HS1.out ()).2 (by first | rfl | trivial); simp; omega, by simp⟩, ?_, ho9, hX7.fr hf9 (by omega) (fun x => x), hL7.fr hf9 (by omega) (fun x => x), hf8.step hf9 (by omega) (fun _ _ x => x), by simp only [World.size_alloc] at hs9; omega⟩, by simp [intOf]; omega⟩
              intro s hs
              rcases List.mem_append.1 hs with hs | hs
              · rcases List.mem_append.1 hs with hs | hs
                · exact HS2.out s hs
                · rw [List.mem_singleton.1 hs]; exact lA
              · rw [List.mem_singleton.1 hs]; exact lr
            | false =>
              have q2 := hr1.q
              have hB := VB.new w10 23 (byV r)
              have ho4 := own_alloc ho3 (.cells (byV r).toArray 23)
              have hX4 := hX3.alloc (.cells (byV r).toArray 23)
              have hL4 := hL3.alloc (.cells (byV r).toArray 23)
              have hf4 := hf3.alloc hf3.size (.cells (byV r).toArray 23)
              go_wp2_with ((with_reducible refine wl_append_addr (.tmp 30) (.tmp 32) u5 S (w.heap.size + 1) ?_ ho4 w10.heap.size r ?_ hB lr ?_ ?_ ?_); rfl; rfl; (have := HSk.out (); omega); (simp only [World.size_alloc]; omega); (intro ov' w6 ho6 hf6 _ hs6))
              refine ⟨⟨i + 1, false, S ++ [r], by omega, by go_num, rfl, fun _ => ⟨by have := HS1.out (); simp; omega, fun _ => by have := (HS1.out ()).2 (by first | rfl | trivial); simp; omega⟩, ?_, ho6, hX4.fr hf6 (by omega) (fun x => x), hL4.fr hf6 (by omega) (fun x => x), hf4.step hf6 (by omega) (fun _ _ x => x), by simp only [World.size_alloc] at hs6; omega⟩, by simp [intOf]; omega⟩
              intro s hs
              rcases List.mem_append.1 hs with hs | hs
              · exact HS2.out s hs
              · rw [List.mem_singleton.1 hs]; exact lr
        · have : i = R.length := by omega
          subst this
          cases ld with
          | true =>
            go_wp2_with fail
            go_ret
            obtain ⟨e1, e2⟩ := HEnd.out S u5 wr HS2.out (by have := HS1.out (); have := H1.out (); omega) ho
            exact ⟨_, rfl, e1, e2, hfr⟩
          | false =>
            have q := hXr.q
            have hB := VB.new wr 23 (byV A)
            have hown1 := own_alloc ho (.cells (byV A).toArray 23)
            have hfa := hfr.alloc hfr.size (.cells (byV A).toArray 23)
            have HSk : Hid (∀ _ : Unit, S.length ≤ 901) := fun _ => by have := HS1.out (); have := H1.out (); have := HK.out (); omega
            go_wp2_with ((with_reducible refine wl_append_addr (.tmp 37) (.tmp 39) u5 S (w.heap.size + 1) ?_ hown1 wr.heap.size A ?_ hB lA ?_ ?_ ?_); rfl; rfl; (have := HSk.out (); omega); (simp only [World.size_alloc]; omega); (intro ov' w6 ho6 hf6 _ hs6))
            go_ret
            obtain ⟨e1, e2⟩ := HEnd.out (S ++ [A]) ov' w6 (by
              intro s hs
              rcases List.mem_append.1 hs with hs | hs
              · exact HS2.out s hs
              · rw [List.mem_singleton.1 hs]; exact lA) (by have := (HS1.out ()).2 (by first | rfl | trivial); have := H1.out (); simp; omega) ho6
            exact ⟨_, rfl, e1, e2, hfa.step hf6 (by omega) (fun _ _ x => x)⟩

set_option maxRecDepth 10000 in
set_option maxHeartbeats 1000000 in
theorem warm_any (c : Nat) (t : TypeId) (L : List Value) (va : Value) (k : Nat) (A : List Nat) (w : World) (h : VB w c t L) (c1 : L[1]? = some va) (hk : k ≤ 900) (hv : AS w k va) (hF : ∀ a n d, va = .slice (some a) n d → a.block ≠ c) (lA : A.length = 20) :
    Calls Sang.prog 81 #[.pointer (some ⟨c, 0, none⟩), .agg (byV A).toArray] w fun e w' => e = .returned (.tuple #[]) ∧ ∃ va', VB w' c t (L.set 1 va') ∧ AS w' (k + 1) va' ∧ (∀ a n d, va' = .slice (some a) n d → a.block ≠ c) ∧ Fr w.heap.size (· = c) w w' := by
  have l1 : 1 < L.length := by
    by_cases h0 : 1 < L.length
    · exact h0
    · rw [List.getElem?_eq_none (by omega)] at c1; cases c1
  have hX := VB.new w 23 (byV A)
  have h1 := h.alloc (.cells (byV A).toArray 23)
  have hf : Fr w.heap.size no w (w.alloc (.cells (byV A).toArray 23)) := (Fr.refl _ _ _).alloc (Nat.le_refl _) _
  have hv1 := hv.fr hf (fun _ _ _ _ x => x)
  have lB : (byV A).length = 20 := by simp [byV, lA]
  have eB : subV (byV A) 0 20 = byV A := by simp [subV, ← lB]
  have hu23 := und23
  have hi23 : (Sang.prog.info? 23).map (·.size) = some (byV A).length := by rw [lB]; exact siz23
  have hcl := h.lt
  go_enter Sang.func81, Sang.ntmps81
  go_wp2_with fail
  generalize w.alloc (.cells (byV A).toArray 23) = w1 at hX h1 hf hv1 ⊢
  have hXd := hX.drew
  have h1d := h1.drew
  have hfd := hf.drew
  have HW := withAddr_any va k A w1.drew hv1 hk lA
  have HWh : Hid (Calls Sang.prog 138 #[va, .agg (byV A).toArray] w1.drew fun e w' => ∃ v', e = .returned v' ∧ AS w' (k + 1) v' ∧ (v' = va ∨ ∀ a n c, v' = .slice (some a) n c → w1.drew.heap.size ≤ a.block) ∧ Fr w1.drew.heap.size no w1.drew w') := HW
  clear HW
  have q := hXd.q
  have k1 := h1d.cell 1 c1
  have hsz : w.heap.size ≤ w1.drew.heap.size := hf.size
  go_region_with (go_at_call 138; (with_reducible refine HWh.out.mono ?_); rintro e w3 ⟨va', rfl, r1, r2, hf3⟩; have h3 := h1d.fr hf3 h1d.lt (fun x => x); have hfw3 := hfd.step hf3 hfd.size (fun _ _ x => x); have k3 := h3.cell 1 c1; have z3 := h3.unfrozen 1; have o3 := r1.one)
  all_goals (
    go_wp2_with fail
    go_end0
    have hFn : ∀ a n d, va' = .slice (some a) n d → a.block ≠ c := by
      rcases r2 with rfl | r2
      · exact hF
      · intro a n d e
        have := r2 a n d e
        omega
    have hfs : Fr w3.heap.size (· = c) w3 (w3.setCell ⟨c, 1, none⟩ va') := (Fr.refl _ (· = c) _).setCell (.inr rfl) _
    exact ⟨rfl, va', h3.set l1 _, r1.fr hfs (fun a n d e => hFn a n d e), hFn, (Fr.weak (X := (· = c)) hfw3).setCell (.inr rfl) _⟩)
end Go.Proofs.YgcsanGreat
