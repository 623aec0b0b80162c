/-
  Calls that are answered without a run: what is common to the answers.
-/
import Derived.Test.YgcsanGreatJvP
import Derived.Test.YgcsanGreatNewF
import Derived.Test.YgcsanGreatNewG
namespace Go.Jv
open Go Go.Proofs
open Go.Proofs.YgcsanGreat (digs Sl NewD Fr no IB val Dg digs_dg val_digs digs_length_le digs_zero ints VB)
set_option linter.unusedVariables false
set_option linter.unusedSimpArgs false
variable {σ : Va}

/-- what is said of an answer -/
def Ans (σ : Va) (n0 : Nat) (ι : Im) (h : Hp) (w : World) (v : Value) (h' : Hp) (e : Ending) (w' : World) : Prop :=
  ∃ u ι', e = .returned u ∧ VRel σ ι' v u ∧ HRel σ n0 ι' h' w' ∧ Ext ι h w ι' h' w'

section
variable {n0 : Nat} {ι : Im} {h h' : Hp} {w w' : World}

theorem HRel.fr (H : HRel σ n0 ι h w) (f : Fr w.heap.size no w w') : HRel σ n0 ι h w' := H.grow f.size (fun b hb => f.block b hb (fun x => x))
theorem Ext.fr (f : Fr w.heap.size no w w') : Ext ι h w ι h w' := Ext.grow f.size (fun b hb => f.block b hb (fun x => x)) f.os f.tape f.output
theorem Ans.same (H : HRel σ n0 ι h w) (f : Fr w.heap.size no w w') {v u : Value} (hv : VRel σ ι v u) : Ans σ n0 ι h w v h (.returned u) w' :=
  ⟨u, ι, rfl, hv, H.fr f, Ext.fr f⟩

/-- a block of the world is laid -/
theorem HRel.layIn {n : Nat} {m m' : Tr (List Value)} (H : HRel σ n0 ι ⟨n, m⟩ w) {r l : List Value} (hs : Tr.set (some r) 64 m n = some m') (hdec : dec σ r = some l) {b p : Nat} {C : Array Value} {T : TypeId}
    (hlow : n0 ≤ b) (hlt : b < w.heap.size) (hne : ∀ k p z, ι k ≠ some (b, p, z)) (hb : w.heap[b]? = some (.cells C T (0, 0))) (hc : ∀ i v, l[i]? = some v → ∃ u, C[p + i]? = some u ∧ CRel σ ι v u) :
    HRel σ n0 (ι.up n (b, p, C.size)) ⟨n + 1, m'⟩ w := by
  have hn : ι n = none := H.unlaid (Nat.le_refl _)
  have hle := Im.le_up hn (b, p, C.size)
  have hget : ∀ k, (⟨n + 1, m'⟩ : Hp).get σ k = if k = n then some l else (⟨n, m⟩ : Hp).get σ k := fun k => by
    have := Hp.get_set (σ := σ) hs (n + 1) k
    rw [hdec] at this
    exact this
  refine ⟨H.base, ?_, ?_, ?_, ?_, ?_, H.old⟩
  · intro k b' p' z e
    by_cases hk : k = n
    · subst hk; rw [Im.up_self] at e; injection e with e; injection e with e1 e2; subst e1; exact hlow
    · rw [Im.up_ne _ hk] at e; exact H.low k b' p' z e
  · intro k x e
    by_cases hk : k = n
    · subst hk; exact Nat.lt_succ_self _
    · rw [Im.up_ne _ hk] at e; have := H.dom k x e; show k < n + 1; simp at this; omega
  · intro k b' p' z e
    by_cases hk : k = n
    · subst hk; rw [Im.up_self] at e; injection e with e; injection e with e1 e2; subst e1; exact hlt
    · rw [Im.up_ne _ hk] at e; exact H.img k b' p' z e
  · intro k l2 e
    rw [hget] at e
    by_cases hk : k = n
    · subst hk
      rw [if_pos rfl] at e
      injection e with e
      subst e
      refine ⟨b, p, C, T, by rw [Im.up_self], hb, ?_⟩
      intro i v hv
      obtain ⟨u, hu, hr⟩ := hc i v hv
      exact ⟨u, hu, hr.mono hle⟩
    · rw [if_neg hk] at e
      obtain ⟨b', p', C', T', hi, hb', hc'⟩ := H.live k l2 e
      refine ⟨b', p', C', T', by rw [Im.up_ne _ hk]; exact hi, hb', ?_⟩
      intro i v hv
      obtain ⟨u, hu, hr⟩ := hc' i v hv
      exact ⟨u, hu, hr.mono hle⟩
  · intro k k' b' p1 p2 z z' a1 a2 e1 e2
    by_cases hk : k = n
    · by_cases hk' : k' = n
      · rw [hk, hk']
      · subst hk
        rw [Im.up_self] at e1; injection e1 with e1; injection e1 with e1 _
        rw [Im.up_ne _ hk'] at e2
        subst e1
        exact absurd e2 (hne _ _ _)
    · by_cases hk' : k' = n
      · subst hk'
        rw [Im.up_self] at e2; injection e2 with e2; injection e2 with e2 _
        rw [Im.up_ne _ hk] at e1
        subst e2
        exact absurd e1 (hne _ _ _)
      · rw [Im.up_ne _ hk] at e1
        rw [Im.up_ne _ hk'] at e2
        rw [hget, if_neg hk] at a1
        rw [hget, if_neg hk'] at a2
        exact H.inj k k' b' p1 p2 z z' a1 a2 e1 e2
/-- a block that holds nothing -/
theorem HRel.layNone {n : Nat} {m m' : Tr (List Value)} (H : HRel σ n0 ι ⟨n, m⟩ w) {r : List Value} (hs : Tr.set (some r) 64 m n = some m') (hdec : dec σ r = none) : HRel σ n0 ι ⟨n + 1, m'⟩ w := by
  have hget : ∀ k, (⟨n + 1, m'⟩ : Hp).get σ k = if k = n then none else (⟨n, m⟩ : Hp).get σ k := fun k => by
    have := Hp.get_set (σ := σ) hs (n + 1) k
    rw [hdec] at this
    exact this
  refine ⟨H.base, H.low, fun k x e => by have := H.dom k x e; show k < n + 1; simp at this; omega, H.img, ?_, ?_, H.old⟩
  · intro k l e
    rw [hget] at e
    split at e
    · cases e
    · exact H.live k l e
  · intro k1 k2 b p p' z z' a1 a2
    refine H.inj k1 k2 b p p' z z' ?_ ?_
    · rw [hget] at a1; split at a1
      · simp at a1
      · exact a1
    · rw [hget] at a2; split at a2
      · simp at a2
      · exact a2

theorem byteV_get {l : List Nat} {i : Nat} {v : Value} (h : (l.map byteV)[i]? = some v) : ∃ hi : i < l.length, v = byteV l[i] := by
  rw [List.getElem?_map] at h
  cases hl : l[i]? with
  | none => rw [hl] at h; simp at h
  | some x =>
    rw [hl] at h
    obtain ⟨hi, rfl⟩ := List.getElem?_eq_some_iff.1 hl
    simp at h
    exact ⟨hi, h.symm⟩

/-- a row of bytes in new memory is laid -/
theorem new_sym (H : HRel σ n0 ι h w) (hf : Fr w.heap.size no w w') {v : Value} {R : List Nat} (hv : NewD w.heap.size w' v R) (hR : R ≠ []) {r : List Value} {m' : Tr (List Value)} (hs : Tr.set (some r) 64 h.m h.next = some m') (hdec : dec σ r = some (R.map byteV)) :
    ∃ b cap z, v = .slice (some ⟨b, 0, none⟩) R.length cap ∧ R.length ≤ cap ∧ cap ≤ maxLen ∧ HRel σ n0 (ι.up h.next (b, 0, z)) ⟨h.next + 1, m'⟩ w' ∧ Ext ι h w (ι.up h.next (b, 0, z)) ⟨h.next + 1, m'⟩ w' := by
  rcases hv with ⟨h0, _⟩ | ⟨b, cap, T, M, rfl, h1, h2, h3, h4, h5⟩
  · exact absurd h0 hR
  obtain ⟨n, m⟩ := h
  have H1 := H.fr hf
  have hn : ι n = none := H.unlaid (Nat.le_refl _)
  have hne : ∀ k p z, ι k ≠ some (b, p, z) := fun k p z e => by have := H.img k b p z e; omega
  refine ⟨b, cap, (ints .u8 M).size, rfl, h1, h2, H1.layIn hs hdec (Nat.le_trans H.base h3) h4.lt hne h4 ?_, ?_⟩
  · intro i v hv
    obtain ⟨hi, rfl⟩ := byteV_get hv
    refine ⟨byteV R[i], ?_, .int _ _⟩
    have hlM : R.length ≤ M.length := by
      have := congrArg List.length h5
      simp at this; omega
    have e : M[i]? = some R[i] := by
      rw [← List.getElem?_take_of_lt (by exact hi : i < R.length), h5, List.getElem?_eq_getElem hi]
    rw [Nat.zero_add]
    simp only [ints, List.getElem?_toArray, List.getElem?_map, e]
    rfl
  · refine ⟨Im.le_up hn _, Nat.le_succ _, hf.size, fun x hx _ => hf.block x hx (fun y => y), ?_, hf.os, hf.tape, hf.output⟩
    intro k b' p z e hb
    by_cases hk : k = n
    · subst hk; rw [Im.up_self] at e; injection e with e; injection e with e1 e2; omega
    · rw [Im.up_ne _ hk] at e; exact ⟨k, p, z, e⟩

theorem symD_nat (e : List Int) {N : Nat} (hN : evL e σ.xs = (N : Nat)) : dec σ [.map (some 0), .tuple (encE e).toArray] = if N = 0 then none else some ((digs N).map byteV) := by
  show symD σ 0 (encE e).toArray.toList = _
  rw [List.toList_toArray]
  simp only [symD, evE_enc, hN, Int.toNat_natCast]
  cases N with
  | zero => rfl
  | succ n => rw [if_neg (by omega)]

theorem newN_some {e : List Int} {tok : Value} (hn : newN h e = some (tok, h')) : 0 ≤ evL e σ.xs ∧ evL e σ.xs ≤ (hugeN : Nat) ∧ ∃ m', tok = tokV (2 * h.next + 6) e ∧ h' = ⟨h.next + 1, m'⟩ ∧ Tr.set (some [.map (some 0), .tuple (encE e).toArray]) 64 h.m h.next = some m' := by
  unfold newN at hn
  split at hn
  · rename_i hb
    simp only [Bool.and_eq_true] at hb
    have h1 := nnE_ev (σ := σ) hb.1
    have h2 := geE_ev (σ := σ) hb.2
    rw [ev_one] at h2
    cases hs : newSym h 0 6 e with
    | none => rw [hs] at hn; simp [outR] at hn
    | some out =>
      rw [hs] at hn
      obtain ⟨m', rfl, hset⟩ := newSym_some hs
      simp only [outR, Option.some.injEq, Prod.mk.injEq] at hn
      exact ⟨h1, h2, m', hn.1.symm, hn.2.symm, hset⟩
  · cases hn
theorem huge_digs {N : Nat} (h : N ≤ hugeN) : (digs N).length ≤ 41 := by
  refine (digs_length_le N 41).2 ?_
  exact Nat.lt_of_le_of_lt h (Nat.pow_lt_pow_right (by decide) (by decide))
theorem digs_ne {N : Nat} (h : N ≠ 0) : digs N ≠ [] := by
  intro e
  have := val_digs N
  rw [e] at this
  exact h this.symm

/-- a new number -/
theorem new_nat (H : HRel σ n0 ι h w) (hf : Fr w.heap.size no w w') {e : List Int} {tok : Value} (hn : newN h e = some (tok, h')) {v : Value} {N : Nat} (hN : evL e σ.xs = (N : Nat)) (hv : NewD w.heap.size w' v (digs N)) :
    ∃ ι', VRel σ ι' tok v ∧ HRel σ n0 ι' h' w' ∧ Ext ι h w ι' h' w' := by
  obtain ⟨h1, h2, m', rfl, rfl, hs⟩ := newN_some (σ := σ) hn
  have hd := symD_nat (σ := σ) e hN
  by_cases h0 : N = 0
  · subst h0
    rw [if_pos rfl] at hd
    obtain ⟨n, m⟩ := h
    refine ⟨ι, .cell (.tok (.inr (.inr (.inr (.inl ?_))))), (H.fr hf).layNone hs hd, ?_⟩
    · have hsh : ∃ a c, v = .slice a 0 c ∧ c ≤ maxLen := by
        rcases hv with ⟨_, a, c, hv, hc⟩ | ⟨b, cap, T, M, hv, _, hc, _⟩
        · exact ⟨a, c, hv, hc⟩
        · exact ⟨_, cap, hv, hc⟩
      obtain ⟨a, c, rfl, hc⟩ := hsh
      refine ⟨n, _, a, c, rfl, rfl, ?_, hc, rfl⟩
      rw [List.toList_toArray, decE_encE, hN]; rfl
    · have E := Ext.fr (ι := ι) (h := ⟨n, m⟩) hf
      exact ⟨E.le, Nat.le_succ _, E.size, E.frame, E.img, E.os, E.tape, E.output⟩
  · rw [if_neg h0] at hd
    obtain ⟨b, cap, z, rfl, g1, g2, H', E⟩ := new_sym H hf hv (digs_ne h0) hs hd
    have hE : evE σ (encE e) = N := by rw [evE_enc, hN]; rfl
    refine ⟨_, .cell (.tok (.inr (.inr (.inr (.inr (.inl ⟨h.next, _, b, 0, z, cap, rfl, rfl, ?_⟩)))))), H', E⟩
    rw [List.toList_toArray, hE]
    refine ⟨h0, Im.up_self _ _ _, g1, ⟨g2, huge_digs ?_⟩, rfl⟩
    omega

/-- a number as it lies -/
theorem natE_sl (H : HRel σ n0 ι h w) {v u : Value} (hv : VRel σ ι v u) {e : List Int} (he : natE h v = some e) :
    ∃ N : Nat, evL e σ.xs = (N : Nat) ∧ Sl w .u8 u (digs N) ∧ (digs N).length ≤ 41 := by
  unfold natE at he
  split at he
  · simp only [Option.some.injEq] at he
    subst he
    rw [hv.nils]
    exact ⟨0, rfl, Go.Proofs.YgcsanGreat.Sl.nil _ _, by simp [digs_zero]⟩
  · cases hnt : natT v with
    | none => rw [hnt] at he; simp [natAt1] at he
    | some ke =>
      obtain ⟨k, e1⟩ := ke
      rw [hnt] at he
      simp only [natAt1] at he
      cases hs : symAt h k with
      | none => rw [hs] at he; simp [natAt2] at he
      | some je =>
        obtain ⟨j, e2⟩ := je
        rw [hs] at he
        simp only [natAt2] at he
        split at he
        · rename_i hb
          simp only [Bool.and_eq_true] at hb
          simp only [Option.some.injEq] at he
          subst he
          have hj := Nat.eq_of_beq_eq_true hb.1
          have hee := beqP_eq hb.2
          subst hj; subst hee
          rw [natT_some hnt] at hv
          have hg := symAt_some (σ := σ) hs
          rcases hv.tokOf.nat with ⟨h0, a, c, hc, rfl⟩ | ⟨hn0, b, q, z, c, hk, h1, ⟨h2, h3⟩, rfl⟩
          · rw [List.toList_toArray] at h0
            exact ⟨0, by rw [h0]; rfl, ⟨a, c, rfl, Nat.zero_le _, hc, .inl rfl⟩, by simp [digs_zero]⟩
          · rw [List.toList_toArray] at hn0 h1 h3 ⊢
            have hN : evL (decE e1) σ.xs = (evE σ e1 : Nat) := by unfold evE at hn0 ⊢; omega
            refine ⟨evE σ e1, hN, ⟨_, c, rfl, h1, h2, .inr ⟨b, q, rfl, ?_⟩⟩, h3⟩
            have hg2 : h.get σ k = some ((digs (evE σ e1)).map byteV) := by
              rw [hg]
              have key : ∀ N, evE σ e1 = N → N ≠ 0 → symD σ 0 e1 = some ((digs N).map byteV) := by
                intro N hN h0
                cases N with
                | zero => exact absurd rfl h0
                | succ n => simp only [symD, hN]
              exact key _ rfl hn0
            obtain ⟨b2, p2, C, T, hi2, hb2, hc2⟩ := H.live k _ hg2
            rw [hk] at hi2
            injection hi2 with hi2
            injection hi2 with f1 f2
            injection f2 with f2 f3
            subst f1; subst f2
            intro i hi
            obtain ⟨u, hu, hr⟩ := hc2 i (byteV (digs (evE σ e1))[i]) (by simp [hi])
            have hue := hr.constOf rfl
            subst hue
            have hgd : (digs (evE σ e1)).getD i 0 = (digs (evE σ e1))[i] := by simp [List.getD, hi]
            rw [hgd]
            simp only [World.cell?, hb2]
            have hu' : C[q + i]? = some (.int .u8 (((digs (evE σ e1))[i] : Nat) : Int)) := hu
            simpa using hu'
        · cases he
end
end Go.Jv
