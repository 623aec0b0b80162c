/-
  The state's cells written out; slices that lie outside the state's block.
-/
import Derived.Test.YgcsanGreatAcc
import Derived.Test.YgcsanGreatFee
namespace Go.Proofs.YgcsanGreat
open Go.RowKit
set_option linter.unusedSimpArgs false
set_option linter.unusedVariables false
attribute [-go_sem] loadVar storeVar Instr.build Instr.fill Instr.buildSlice Builtin.append_


/-- the block's environment -/
def envV : List Value := byV (adNo 192) ++ ([.int .u64 0, .int .u64 0, .int .u64 1048576] ++ (zsV 96 ++ [.slice none 0 0]))
/-- a state: one transaction's marks, no slots, no logs -/
def stV (ac wa fr rt : Value) (ph st ap : Nat) (li tg le pr tt : Value) (og : List Nat) : List Value :=
  [ac, wa, .slice none 0 0, .slice none 0 0, .slice none 0 0, .slice none 0 0, .slice none 0 0, .slice none 0 0, .slice none 0 0, fr, rt, .int .u8 (ph : Int), .int .u8 (st : Int), .int .u8 (ap : Int), li, tg, le, pr, tt] ++ (byV og ++ (byV (List.replicate 20 0) ++ envV))

theorem byV_length (A : List Nat) : (byV A).length = A.length := by simp [byV]
theorem byV_flat (A : List Nat) : Flat (byV A) := flat_ints _ _
theorem envV_length : envV.length = 120 := by kernel_rfl
theorem envV_flat : Flat envV := (byV_flat _).append ((Flat.cons rfl (Flat.cons rfl (Flat.cons rfl Flat.nil))).append ((Flat.replicate rfl _).append (Flat.cons rfl Flat.nil)))
theorem stV_length (ac wa fr rt : Value) (ph st ap : Nat) (li tg le pr tt : Value) (og : List Nat) (h : og.length = 20) : (stV ac wa fr rt ph st ap li tg le pr tt og).length = 179 := by
  simp [stV, byV_length, envV_length, h]

theorem VB.range {w : World} {b : Nat} {t : TypeId} {L : List Value} (h : VB w b t L) (o n : Nat) {cs : List Value} (hs : subV L o n = cs) : w.rangeAt b o cs := by
  subst hs
  intro j v hv
  refine h.cell (o + j) ?_
  unfold subV at hv
  rw [List.getElem?_take] at hv
  split at hv
  · rw [List.getElem?_drop] at hv; exact hv
  · cases hv
theorem VB.there {w : World} {b : Nat} {t : TypeId} {L : List Value} (h : VB w b t L) (o n : Nat) (hn : o + n ≤ L.length) : w.there b o n := by
  intro j hj
  refine ⟨?_, h.unfrozen _⟩
  rw [h.cell (o + j) (List.getElem?_eq_getElem (by omega))]
  rfl
theorem setCells_setV (cs : List Value) : ∀ (w : World) (b : Nat) (t : TypeId) (L : List Value) (o : Nat), VB w b t L → o + cs.length ≤ L.length → w.setCells b o cs = setV w b t (layV L o cs) := by
  induction cs with
  | nil => intro w b t L o h _; simp [World.setCells, layV, setV_self h]
  | cons c cs ih =>
    intro w b t L o h hn
    simp only [List.length_cons] at hn
    have e : w.setCell ⟨b, o, none⟩ c = setV w b t (L.set o c) := by
      have h1 := h.set (i := o) (by omega) c
      have h2 := VB.setV h.lt t (L.set o c)
      unfold VB at h
      unfold World.setCell setV
      congr 1
      apply Array.ext
      · simp
      · intro j g1 g2
        simp only [Array.size_modify] at g1
        rw [Array.getElem_modify, Array.getElem_setIfInBounds (by simpa using g1)]
        split
        · rename_i ej
          subst ej
          have := (Array.getElem?_eq_some_iff.1 h).2
          simp only at this ⊢
          rw [this]
          simp
        · rfl
    rw [World.setCells, e, ih _ b t (L.set o c) (o + 1) (VB.setV h.lt _ _) (by simp; omega), setV_setV, layV]

/-- the slice does not lie in block c -/
def FarS (c : Nat) (v : Value) : Prop := ∀ a n cap, v = .slice (some a) n cap → n = 0 ∨ a.block ≠ c
/-- nor does it, but at place 13 -/
def Far (c : Nat) (v : Value) : Prop := ∀ a n cap, v = .slice (some a) n cap → n = 0 ∨ a.block ≠ c ∨ (n = 1 ∧ a.off = 13)
theorem FarS.far {c : Nat} {v : Value} (h : FarS c v) : Far c v := fun a n cap e => by
  rcases h a n cap e with h | h
  · exact .inl h
  · exact .inr (.inl h)
theorem FarS.nil (c : Nat) : FarS c (.slice none 0 0) := fun a n cap e => by cases e
theorem FarS.empty {w : World} {c : Nat} {v : Value} (h : Sl w .u8 v []) : FarS c v := fun a n cap e => by
  obtain ⟨a', cap', rfl, -, -, -⟩ := h
  cases e
  exact .inl rfl
theorem Sl.frS {w w' : World} {c : Nat} {v : Value} {l : List Nat} (h : Sl w .u8 v l) (hF : FarS c v) (k : Fr w.heap.size (· = c) w w') : Sl w' .u8 v l := by
  obtain ⟨a, cap, rfl, h1, h2, h3⟩ := h
  refine ⟨a, cap, rfl, h1, h2, ?_⟩
  rcases h3 with h3 | ⟨b, off, rfl, h3⟩
  · exact .inl h3
  · rcases hF _ _ _ rfl with h0 | h0
    · exact .inl (List.eq_nil_of_length_eq_zero h0)
    · refine .inr ⟨b, off, rfl, fun i hi => ?_⟩
      rw [← h3 i hi]
      exact k.cell (cell_lt (h3 i hi)) h0
theorem Sl.frX {w w' : World} {c : Nat} {v : Value} {l : List Nat} (h : Sl w .u8 v l) (hF : Far c v) (k : Fr w.heap.size (· = c) w w') (hc : w'.cell? ⟨c, 13, none⟩ = w.cell? ⟨c, 13, none⟩) : Sl w' .u8 v l := by
  obtain ⟨a, cap, rfl, h1, h2, h3⟩ := h
  refine ⟨a, cap, rfl, h1, h2, ?_⟩
  rcases h3 with h3 | ⟨b, off, rfl, h3⟩
  · exact .inl h3
  · rcases hF _ _ _ rfl with h0 | h0 | ⟨h0, h0'⟩
    · exact .inl (List.eq_nil_of_length_eq_zero h0)
    · refine .inr ⟨b, off, rfl, fun i hi => ?_⟩
      rw [← h3 i hi]
      exact k.cell (cell_lt (h3 i hi)) h0
    · simp only at h0'
      subst h0'
      by_cases hb : b = c
      · subst hb
        refine .inr ⟨b, 13, rfl, fun i hi => ?_⟩
        have : i = 0 := by omega
        subst this
        rw [← h3 0 hi]
        exact hc
      · refine .inr ⟨b, 13, rfl, fun i hi => ?_⟩
        rw [← h3 i hi]
        exact k.cell (cell_lt (h3 i hi)) hb
/-- fresh slices lie far -/
theorem FarS.fresh {c B : Nat} {v : Value} (h : ∀ a n cap, v = .slice (some a) n cap → B ≤ a.block) (hc : c < B) : FarS c v := fun a n cap e => .inr (by have := h a n cap e; omega)
theorem FarS.old {w : World} {c : Nat} {v : Value} {l : List Nat} (h : Sl w .u8 v l) (hc : w.heap.size ≤ c) : FarS c v := by
  obtain ⟨a, cap, rfl, h1, h2, h3⟩ := h
  intro a' n cap' e
  cases e
  rcases h3 with h3 | ⟨b, off, h4, h3⟩
  · left; rw [h3]; rfl
  · cases h4
    by_cases h0 : l.length = 0
    · exact .inl h0
    · have := cell_lt (h3 0 (by omega))
      simp only at this ⊢
      exact .inr (by omega)

theorem stV_u8 (ac wa fr rt : Value) (ph st ap : Nat) (li tg le pr tt : Value) (og : List Nat) (hog : og.length = 20) (i : Nat) (d : Int)
    (hac : ∀ e, ac ≠ .int .u8 e) (hwa : ∀ e, wa ≠ .int .u8 e) (hfr : ∀ e, fr ≠ .int .u8 e) (hrt : ∀ e, rt ≠ .int .u8 e) (hli : ∀ e, li ≠ .int .u8 e) (htg : ∀ e, tg ≠ .int .u8 e) (hle : ∀ e, le ≠ .int .u8 e) (hpr : ∀ e, pr ≠ .int .u8 e) (htt : ∀ e, tt ≠ .int .u8 e)
    (h : (stV ac wa fr rt ph st ap li tg le pr tt og)[i]? = some (.int .u8 d)) : d = 0 ∨ d = 192 ∨ (d = ph ∧ i = 11) ∨ (d = st ∧ i = 12) ∨ (d = ap ∧ i = 13) ∨ ∃ x ∈ og, d = (x : Int) := by
  unfold stV at h
  by_cases hi : i < 19
  · rw [List.getElem?_append_left (by simpa using hi)] at h
    have : i = 0 ∨ i = 1 ∨ i = 2 ∨ i = 3 ∨ i = 4 ∨ i = 5 ∨ i = 6 ∨ i = 7 ∨ i = 8 ∨ i = 9 ∨ i = 10 ∨ i = 11 ∨ i = 12 ∨ i = 13 ∨ i = 14 ∨ i = 15 ∨ i = 16 ∨ i = 17 ∨ i = 18 := by omega
    rcases this with rfl | rfl | rfl | rfl | rfl | rfl | rfl | rfl | rfl | rfl | rfl | rfl | rfl | rfl | rfl | rfl | rfl | rfl | rfl <;>
      simp at h <;> first | exact absurd h (hac _) | exact absurd h (hwa _) | exact absurd h (hfr _) | exact absurd h (hrt _) | exact absurd h (hli _) | exact absurd h (htg _) | exact absurd h (hle _) | exact absurd h (hpr _) | exact absurd h (htt _) | (simp [h]; done) | (subst h; simp)
  · rw [List.getElem?_append_right (by simpa using hi)] at h
    have hm := List.mem_of_getElem? h
    rcases List.mem_append.1 hm with hm | hm
    · obtain ⟨x, hx, e⟩ := List.mem_map.1 hm
      right; right; right; right; right
      refine ⟨x, hx, ?_⟩
      simpa using e.symm
    · rcases List.mem_append.1 hm with hm | hm
      · obtain ⟨x, hx, e⟩ := List.mem_map.1 hm
        left
        have := (List.mem_replicate.1 hx).2
        subst this
        simpa using e.symm
      · have : d = 0 ∨ d = 192 := by
          simp [envV, byV, zsV, adNo] at hm
          omega
        omega

def noU8 (v : Value) : Prop := ∀ e, v ≠ .int .u8 e
theorem noU8.sl {w : World} {k : IntKind} {v : Value} {l : List Nat} (h : Sl w k v l) : noU8 v := by
  obtain ⟨a, cap, rfl, -⟩ := h
  intro e h; cases h
theorem noU8.slice (a : Option Addr) (n cap : Nat) : noU8 (.slice a n cap) := fun e h => by cases h

/-- a number whose top digit does not stand in the state lies outside it -/
theorem far_top {w : World} {c : Nat} {t : TypeId} {ac wa fr rt : Value} {ph st ap : Nat} {li tg le pr tt : Value} {og : List Nat} (hV : VB w c t (stV ac wa fr rt ph st ap li tg le pr tt og)) (hog : og.length = 20)
    (hac : noU8 ac) (hwa : noU8 wa) (hfr : noU8 fr) (hrt : noU8 rt) (hli : noU8 li) (htg : noU8 tg) (hle : noU8 le) (hpr : noU8 pr) (htt : noU8 tt)
    {v : Value} {l : List Nat} (hS : Sl w .u8 v l) (d : Nat) (hl : l.getD (l.length - 1) 0 = d) (h0 : d ≠ 0) (h1 : d ≠ 192) (h2 : d ≠ ph) (h3 : d ≠ st) (h5 : ∀ x ∈ og, d ≠ x) (h4 : d ≠ ap ∨ 14 < l.length) : FarS c v := by
  obtain ⟨a, cap, rfl, g1, g2, g3⟩ := hS
  intro a' n cap' e
  cases e
  rcases g3 with rfl | ⟨b, off, g4, g3⟩
  · exact .inl rfl
  · cases g4
    by_cases hn : l.length = 0
    · exact .inl hn
    refine .inr fun hb => ?_
    simp only at hb
    subst hb
    have hc := g3 (l.length - 1) (by omega)
    rw [hl] at hc
    have hq : (stV ac wa fr rt ph st ap li tg le pr tt og)[off + (l.length - 1)]? = some (.int .u8 (d : Int)) := by
      unfold VB at hV
      simp only [World.cell?, hV] at hc
      simpa using hc
    rcases stV_u8 ac wa fr rt ph st ap li tg le pr tt og hog _ _ hac hwa hfr hrt hli htg hle hpr htt hq with h | h | h | h | h | ⟨x, hx, h⟩
    · omega
    · omega
    · omega
    · omega
    · omega
    · exact h5 x hx (by omega)

/-- the number 1 lies outside, or in place 13 -/
theorem far_one {w : World} {c : Nat} {t : TypeId} {ac wa fr rt : Value} {ph st ap : Nat} {li tg le pr tt : Value} {og : List Nat} (hV : VB w c t (stV ac wa fr rt ph st ap li tg le pr tt og)) (hog : og.length = 20)
    (hac : noU8 ac) (hwa : noU8 wa) (hfr : noU8 fr) (hrt : noU8 rt) (hli : noU8 li) (htg : noU8 tg) (hle : noU8 le) (hpr : noU8 pr) (htt : noU8 tt)
    {v : Value} (hS : Sl w .u8 v [1]) (h2 : 1 ≠ ph) (h3 : 1 ≠ st) (h5 : ∀ x ∈ og, 1 ≠ x) : Far c v := by
  obtain ⟨a, cap, rfl, g1, g2, g3⟩ := hS
  intro a' n cap' e
  cases e
  rcases g3 with h | ⟨b, off, g4, g3⟩
  · cases h
  · cases g4
    right
    by_cases hb : b = c
    · right
      subst hb
      have hc := g3 0 (by simp)
      have hq : (stV ac wa fr rt ph st ap li tg le pr tt og)[off + 0]? = some (.int .u8 (1 : Int)) := by
        unfold VB at hV
        simp only [World.cell?, hV] at hc
        simpa using hc
      refine ⟨rfl, ?_⟩
      rcases stV_u8 ac wa fr rt ph st ap li tg le pr tt og hog _ _ hac hwa hfr hrt hli htg hle hpr htt hq with h | h | h | h | h | ⟨x, hx, h⟩
      · omega
      · omega
      · omega
      · omega
      · simpa using h.2
      · exact absurd (show 1 = x by omega) (h5 x hx)
    · left; exact hb
theorem Sl.one {w : World} {k : IntKind} {v : Value} {l : List Nat} (h : Sl w k v l) : v.oneCell' = true := by
  obtain ⟨a, cap, rfl, -⟩ := h
  rfl
theorem Sl.cells {w : World} {k : IntKind} {v : Value} {l : List Nat} (h : Sl w k v l) : v.cells = #[v] := by
  obtain ⟨a, cap, rfl, -⟩ := h
  rfl
end Go.Proofs.YgcsanGreat
