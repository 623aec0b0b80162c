/-
  A region whose order is drawn; code; calls: what the evaluator says holds.
-/
import Derived.Test.YgcsanGreatJvM
namespace Go.Jv
open Go
set_option linter.unusedVariables false
set_option linter.unusedSimpArgs false
variable {σ : Va}

/-- how many are not done -/
def cnt (listed : Array Bool) : Nat := listed.toList.countP (fun b => !b)
theorem countP_set : ∀ (l : List Bool) (j : Nat), l[j]? = some false → (l.set j true).countP (fun b => !b) + 1 = l.countP (fun b => !b) := by
  intro l
  induction l with
  | nil => intro j h; simp at h
  | cons b l ih =>
    intro j h
    cases j with
    | zero => simp only [List.getElem?_cons_zero, Option.some.injEq] at h; subst h; simp
    | succ j =>
      have := ih j (by simpa using h)
      simp only [List.set_cons_succ, List.countP_cons]
      omega
theorem cnt_set {listed : Array Bool} {j : Nat} (h : listed[j]? = some false) : cnt (listed.setIfInBounds j true) + 1 = cnt listed := by
  unfold cnt
  rw [Array.toList_setIfInBounds]
  exact countP_set _ _ (by rw [Array.getElem?_toList]; exact h)

section
variable {P : Program} {n0 : Nat} {call : Caller} {n : Nat} {ops : Array Oper} {T : List Ent} {a0 : Ac} {h0 : Hp} {a' : Ac} {h' : Hp} {ι0 : Im} {w0 : World}

theorem Sit.allDone (S : Sit σ P n0 call n ops T a0 h0 a' h') {listed : Array Bool} (hs : listed.size = ops.size) (hr : Region.ready .any ops listed = []) : ∀ i, i < ops.size → dn listed i = true := by
  intro i
  induction i using Nat.strongRecOn with
  | _ i ih =>
    intro hi
    cases hd : dn listed i with
    | true => rfl
    | false =>
      have : i ∈ Region.ready .any ops listed := by
        rw [mem_ready]
        refine ⟨?_, ops[i], by simp [hi], ?_⟩
        · unfold dn at hd
          simp only [Array.getD_eq_getD_getElem?] at hd ⊢
          rw [Array.getElem?_eq_getElem (by omega)] at hd ⊢
          exact hd
        · intro ed he hb
          have := S.edge (i := i) (o := ops[i]) (by simp [hi]) he hb
          exact ih ed.on this (by omega)
      rw [hr] at this
      cases this

theorem Sit.fin (S : Sit σ P n0 call n ops T a0 h0 a' h') {listed : Array Bool} {act : Act} {w : World} (I : Inv σ n0 n ops T a0 h0 ι0 w0 listed act w) (hr : Region.ready .any ops listed = []) : After σ n0 n ι0 h0 w0 a' h' act w := by
  have hall := S.allDone I.size hr
  have hlen : ∀ i e, T[i]? = some e → dn listed i = true := fun i e h => hall i (by rw [S.size]; exact lt_of_some h)
  have hfr : fr T 0 (dn listed) = T.length := fr_unique (Nat.le_refl _) (fun i e h _ _ => hlen i e h) (fun h => by omega)
  obtain ⟨ι, H, E, Ht, _⟩ := I.body
  rw [hfr, ← S.tra.end] at H E
  refine ⟨ι, H, ⟨I.tsize, fun t => ?_, I.defers⟩, E⟩
  have hnh : ¬ Held ops T (dn listed) t := fun ⟨q, e, _, hq, _, _, hf, _⟩ => by rw [hfr] at hf; have := lt_of_some hq; omega
  have := Ht t hnh
  rw [(S.tra.tmps 0 t).2]
  rw [tv_congr T 0 _ (D' := fun _ => true) (fun i e hi _ => by rw [Nat.zero_add]; exact hlen i e hi)] at this
  exact this

theorem Sit.any (S : Sit σ P n0 call n ops T a0 h0 a' h') {Q : Exit → Act → World → Prop} (hQ : ∀ act w, After σ n0 n ι0 h0 w0 a' h' act w → Q .normal act w) : ∀ (fuel : Nat) (listed : Array Bool) (act : Act) (w : World),
    Inv σ n0 n ops T a0 h0 ι0 w0 listed act w → cnt listed ≤ fuel → wpAny P .any ops Q fuel listed act w := by
  intro fuel
  induction fuel with
  | zero =>
    intro listed act w I hc
    have hr : Region.ready .any ops listed = [] := by
      cases hr : Region.ready .any ops listed with
      | nil => rfl
      | cons j l =>
        have hj : j ∈ Region.ready .any ops listed := by rw [hr]; exact List.mem_cons_self ..
        obtain ⟨hun, o, ho, _⟩ := mem_ready.1 hj
        have hlt : j < listed.size := by rw [I.size]; exact (Array.getElem?_eq_some_iff.1 ho).1
        have : listed[j]? = some false := by
          simp only [Array.getD_eq_getD_getElem?] at hun
          rw [Array.getElem?_eq_getElem hlt] at hun ⊢
          simpa using hun
        have := cnt_set this
        omega
    exact ⟨hr, hQ _ _ (S.fin I hr)⟩
  | succ fuel ih =>
    intro listed act w I hc
    refine ⟨fun hr => hQ _ _ (S.fin I hr), fun j hj => ?_⟩
    refine wpOp_mono (fun act' w' I' => ?_) (S.step I hj (Q := Q))
    obtain ⟨hun, o, ho, _⟩ := mem_ready.1 hj
    have hlt : j < listed.size := by rw [I.size]; exact (Array.getElem?_eq_some_iff.1 ho).1
    have : listed[j]? = some false := by
      simp only [Array.getD_eq_getD_getElem?] at hun
      rw [Array.getElem?_eq_getElem hlt] at hun ⊢
      simpa using hun
    have := cnt_set this
    exact ih _ act' w' I' (by omega)

theorem evDraw_wp (hc : CallOk σ P n0 call) (hm : P.follows .mixedOrders = true) {ι : Im} {a : Ac} {h : Hp} {act : Act} {w : World} (he : evDraw P call n ops a h = some (a', h')) (H : HRel σ n0 ι h w) (A : ARel σ ι n a act)
    {Q : Exit → Act → World → Prop} (hQ : ∀ act' w', After σ n0 n ι h w a' h' act' w' → Q .normal act' w') (id : Nat) : (Code.region id ops true).wp P Q act w := by
  unfold evDraw at he
  cases ht : evTrace P call n ops ops.toList a h [] with
  | none => rw [ht] at he; simp [drawO] at he
  | some r =>
    obtain ⟨t, a2, h2⟩ := r
    rw [ht] at he
    simp only [drawO] at he
    cases hd : drawOk P ops t.reverse with
    | false => rw [hd] at he; simp at he
    | true =>
      rw [hd] at he
      simp only [Option.some.injEq, Prod.mk.injEq] at he
      obtain ⟨rfl, rfl⟩ := he
      obtain ⟨T, e1, e2, tra⟩ := evTrace_some _ _ _ _ _ _ _ ht
      have e3 : t.reverse = T := by rw [e1]; simp
      rw [e3] at hd
      unfold drawOk at hd
      cases htx : textOk ops (befs ops.toList []) with
      | false => rw [htx] at hd; simp at hd
      | true =>
        rw [htx] at hd
        have S : Sit σ P n0 call n ops T a h a2 h2 := ⟨hc, tra, e2.symm, htx, hd⟩
        refine wp_region_any hm ?_
        have hD : ∀ i, dn (Array.replicate ops.size false) i = false := by
          intro i
          unfold dn
          simp only [Array.getD_eq_getD_getElem?, Array.getElem?_replicate]
          split <;> rfl
        obtain ⟨_, fle, fdone, _⟩ := fr_spec T 0 (dn (Array.replicate ops.size false))
        simp only [Nat.zero_add] at fle fdone
        have hAt0 : hAt T h (fr T 0 (dn (Array.replicate ops.size false))) = h := by
          rw [S.hAt_range (c := 0) (Nat.zero_le _) fle (fun i e _ hi hT => by
            cases hE : efE e with
            | false => rfl
            | true => have := fdone i e hT hi hE; rw [hD] at this; cases this), hAt_zero]
        have I : Inv σ n0 n ops T a h ι w (Array.replicate ops.size false) act { w with drawn := w.drawn + 1 } := by
          refine ⟨by simp, (fun i o e _ hi => by rw [hD] at hi; cases hi), A.size, A.defers, ι, ?_, ?_, ?_, ?_⟩
          · rw [hAt0]; exact H.drew _
          · rw [hAt0]; exact Ext.drew ι h w _
          · intro t _
            rw [tv_none T 0 _ (fun i e _ _ => hD _)]
            exact A.rel t
          · intro q e _ _ _ hq; rw [hD] at hq; cases hq
        exact S.any hQ ops.size _ act _ I (Nat.le_trans List.countP_le_length (by simp))
end

/-! ### code -/
abbrev exitOf (e : Ex) : Exit := e

theorem least {p : Nat → Prop} (h : ∃ m, p m) : ∃ m, p m ∧ ∀ m', p m' → m ≤ m' := by
  obtain ⟨m, hm⟩ := h
  induction m using Nat.strongRecOn with
  | _ m ih =>
    by_cases hex : ∃ m', m' < m ∧ p m'
    · obtain ⟨m', h1, h2⟩ := hex
      exact ih m' h1 h2
    · refine ⟨m, hm, fun m' h' => ?_⟩
      rcases Nat.lt_or_ge m' m with h | h
      · exact absurd ⟨m', h, h'⟩ hex
      · exact h
section
variable {P : Program} {n0 : Nat} {call : Caller} {n : Nat}

theorem seqO_some {k : Runner} {y : Code} {x : Res} {r : Ex × Ac × Hp} (he : seqO k y x = some r) : (∃ a h, x = some (.normal, a, h) ∧ k y a h = some r) ∨ (x = some r ∧ r.1 ≠ .normal) := by
  cases x with
  | none => simp [seqO] at he
  | some p =>
    obtain ⟨ex, a, h⟩ := p
    cases ex with
    | normal => exact .inl ⟨a, h, rfl, he⟩
    | _ => simp only [seqO, Option.some.injEq] at he; subst he; exact .inr ⟨rfl, by simp⟩

theorem After.trans {ι ι1 : Im} {h h1 : Hp} {w w1 : World} {a' : Ac} {h' : Hp} {act : Act} {w' : World} (E : Ext ι h w ι1 h1 w1) (A : After σ n0 n ι1 h1 w1 a' h' act w') : After σ n0 n ι h w a' h' act w' := by
  obtain ⟨κ, K1, K2, K3⟩ := A
  exact ⟨κ, K1, K2, E.trans K3⟩

theorem evCode_wp (hc : CallOk σ P n0 call) (hm : P.follows .mixedOrders = true) : ∀ (k : Nat) (c : Code) (a : Ac) (h : Hp) (ι : Im) (act : Act) (w : World) (ex : Ex) (a' : Ac) (h' : Hp), evCode P call n k c a h = some (ex, a', h') →
    HRel σ n0 ι h w → ARel σ ι n a act → ∀ (Q : Exit → Act → World → Prop), (∀ act' w', After σ n0 n ι h w a' h' act' w' → Q (exitOf ex) act' w') → c.wp P Q act w := by
  intro k
  induction k using Nat.strongRecOn with
  | _ k ih =>
    intro c a h ι act w ex a' h' he H A Q hQ
    cases k with
    | zero => simp [evCode] at he
    | succ k =>
      have ihk := ih k (Nat.lt_succ_self k)
      simp only [evCode] at he
      cases c with
      | skip =>
        simp only [codeStep, Option.some.injEq, Prod.mk.injEq] at he
        obtain ⟨rfl, rfl, rfl⟩ := he
        exact wp_skip (hQ _ _ ⟨ι, H, A, Ext.refl _ _ _⟩)
      | region id ops draw =>
        cases draw with
        | false =>
          simp only [codeStep] at he
          cases hev : evOps P call n ops ops.toList a h with
          | none => rw [hev] at he; simp [regO] at he
          | some r =>
            obtain ⟨a1, h1⟩ := r
            rw [hev] at he
            simp only [regO, Option.some.injEq, Prod.mk.injEq] at he
            obtain ⟨rfl, rfl, rfl⟩ := he
            exact wp_region_list (evOps_wp hc _ _ _ _ _ _ _ _ hev H A (fun act' w' h => hQ act' w' h))
        | true =>
          simp only [codeStep] at he
          cases hev : evDraw P call n ops a h with
          | none => rw [hev] at he; simp [regO] at he
          | some r =>
            obtain ⟨a1, h1⟩ := r
            rw [hev] at he
            simp only [regO, Option.some.injEq, Prod.mk.injEq] at he
            obtain ⟨rfl, rfl, rfl⟩ := he
            exact evDraw_wp hc hm hev H A (fun act' w' h => hQ act' w' h) id
      | seq x y =>
        simp only [codeStep] at he
        refine wp_seq ?_
        rcases seqO_some he with ⟨a1, h1, e1, e2⟩ | ⟨e1, hne⟩
        · refine ihk x a h ι act w .normal a1 h1 e1 H A _ ?_
          rintro act1 w1 ⟨κ, K1, K2, K3⟩
          exact ihk y a1 h1 κ act1 w1 ex a' h' e2 K1 K2 Q (fun act' w' A' => hQ act' w' (After.trans K3 A'))
        · refine ihk x a h ι act w ex a' h' e1 H A _ ?_
          intro act' w' A'
          have := hQ act' w' A'
          cases ex with
          | normal => exact absurd rfl hne
          | _ => exact this
      | cond c x y =>
        simp only [codeStep] at he
        have hv := A.eval c
        generalize Ac.eval a c = v at he hv
        cases v with
        | bool b =>
          have hb := hv.bool
          cases b with
          | true => simp only [condO] at he; exact wp_cond_true hb (ihk x a h ι act w ex a' h' he H A Q hQ)
          | false => simp only [condO] at he; exact wp_cond_false hb (ihk y a h ι act w ex a' h' he H A Q hQ)
        | _ => simp [condO] at he
      | block id b =>
        simp only [codeStep] at he
        refine wp_block ?_
        cases hb : evCode P call n k b a h with
        | none => rw [hb] at he; simp [blockO] at he
        | some r =>
          obtain ⟨ex1, a1, h1⟩ := r
          rw [hb] at he
          refine ihk b a h ι act w ex1 a1 h1 hb H A _ ?_
          intro act' w' A'
          cases ex1 with
          | normal =>
            simp only [blockO, Option.some.injEq, Prod.mk.injEq] at he
            obtain ⟨rfl, rfl, rfl⟩ := he
            exact hQ act' w' A'
          | exit i =>
            simp only [blockO] at he
            cases hi : Nat.beq i id with
            | true =>
              rw [hi] at he
              simp only [Option.some.injEq, Prod.mk.injEq] at he
              obtain ⟨rfl, rfl, rfl⟩ := he
              have := Nat.eq_of_beq_eq_true hi
              simp only [exitOf, Exit.inBlock, this, if_true]
              exact hQ act' w' A'
            | false =>
              rw [hi] at he
              simp only [Option.some.injEq, Prod.mk.injEq] at he
              obtain ⟨rfl, rfl, rfl⟩ := he
              have : ¬ i = id := fun e => by rw [beqT e] at hi; cases hi
              simp only [exitOf, Exit.inBlock, this, if_false]
              exact hQ act' w' A'
          | _ =>
            simp only [blockO, Option.some.injEq, Prod.mk.injEq] at he
            obtain ⟨rfl, rfl, rfl⟩ := he
            exact hQ act' w' A'
      | loop b =>
        let J : Act → World → Nat → Prop := fun act1 w1 m => m ≤ k + 1 ∧ ∃ κ a1 h1, evCode P call n m (.loop b) a1 h1 = some (ex, a', h') ∧ HRel σ n0 κ h1 w1 ∧ ARel σ κ n a1 act1 ∧ Ext ι h w κ h1 w1
        refine wp_loop (fun act1 w1 => ∃ m, J act1 w1 m) (fun act1 w1 => Classical.epsilon (fun m => J act1 w1 m ∧ ∀ m', J act1 w1 m' → m ≤ m')) ⟨k + 1, Nat.le_refl _, ι, a, h, he, H, A, Ext.refl _ _ _⟩ ?_
        intro act1 w1 hI
        have hsp := Classical.epsilon_spec (least hI)
        generalize Classical.epsilon (fun m => J act1 w1 m ∧ ∀ m', J act1 w1 m' → m ≤ m') = m at *
        obtain ⟨⟨hle, κ, a1, h1, hev, H1, A1, E1⟩, hmin⟩ := hsp
        cases m with
        | zero => simp [evCode] at hev
        | succ m =>
          simp only [evCode, codeStep] at hev
          have ihm := ih m (by omega)
          rcases seqO_some hev with ⟨a2, h2, e1, e2⟩ | ⟨e1, hne⟩
          · refine ihm b a1 h1 κ act1 w1 .normal a2 h2 e1 H1 A1 _ ?_
            rintro act2 w2 ⟨μ, K1, K2, K3⟩
            have hJ : J act2 w2 m := ⟨by omega, μ, a2, h2, e2, K1, K2, E1.trans K3⟩
            refine ⟨⟨m, hJ⟩, ?_⟩
            have := (Classical.epsilon_spec (least ⟨m, hJ⟩)).2 m hJ
            show Classical.epsilon (fun m => J act2 w2 m ∧ ∀ m', J act2 w2 m' → m ≤ m') < m + 1
            omega
          · refine ihm b a1 h1 κ act1 w1 ex a' h' e1 H1 A1 _ ?_
            intro act2 w2 A2
            have := hQ act2 w2 (After.trans E1 A2)
            cases ex with
            | normal => exact absurd rfl hne
            | _ => exact this
      | exit i =>
        simp only [codeStep, Option.some.injEq, Prod.mk.injEq] at he
        obtain ⟨rfl, rfl, rfl⟩ := he
        exact wp_exit (hQ _ _ ⟨ι, H, A, Ext.refl _ _ _⟩)
      | ret =>
        simp only [codeStep, Option.some.injEq, Prod.mk.injEq] at he
        obtain ⟨rfl, rfl, rfl⟩ := he
        exact wp_ret (hQ _ _ ⟨ι, H, A, Ext.refl _ _ _⟩)
      | _ => simp [codeStep] at he
end
end Go.Jv
