/-
  A region whose order is drawn: one step in whatever order.
-/
import Derived.Test.YgcsanGreatJvL
namespace Go.Jv
open Go
set_option linter.unusedVariables false
set_option linter.unusedSimpArgs false
variable {σ : Va}

def dn (listed : Array Bool) (i : Nat) : Bool := listed.getD i false
theorem dn_set {listed : Array Bool} {j : Nat} (hj : j < listed.size) (i : Nat) : dn (listed.setIfInBounds j true) i = (dn listed i || decide (i = j)) := by
  unfold dn
  by_cases h : j = i
  · subst h; simp [Array.getD_eq_getD_getElem?, hj]
  · have h' : ¬ i = j := fun e => h e.symm
    simp [Array.getD_eq_getD_getElem?, Array.getElem?_setIfInBounds_ne h, h']

/-- a late operation that has been carried out ahead of an effect -/
def PendOk (σ : Va) (n0 z0 : Nat) (ops : Array Oper) (T : List Ent) (ι : Im) (D : Nat → Bool) (act : Act) (w : World) : Prop :=
  ∀ q e, lateAt ops (befOf ops) q = true → T[q]? = some e → e.w = true → D q = true → fr T 0 D < q →
    ∃ bl l f Ty, n0 ≤ bl ∧ z0 ≤ bl ∧ bl < w.heap.size ∧ (∀ k p z, ι k ≠ some (bl, p, z)) ∧ w.heap[bl]? = some (.cells l.toArray Ty (0, 0)) ∧ Made σ e.h e.v e.h' l f ∧ ∀ t, e.o.dst = some t → act.tmps.getD t undef = f ⟨bl, 0, none⟩
def Held (ops : Array Oper) (T : List Ent) (D : Nat → Bool) (t : Tmp) : Prop :=
  ∃ q e, lateAt ops (befOf ops) q = true ∧ T[q]? = some e ∧ e.w = true ∧ D q = true ∧ fr T 0 D < q ∧ e.o.dst = some t

structure Inv (σ : Va) (n0 n : Nat) (ops : Array Oper) (T : List Ent) (a0 : Ac) (h0 : Hp) (ι0 : Im) (w0 : World) (listed : Array Bool) (act : Act) (w : World) : Prop where
  size : listed.size = ops.size
  closed : Closed ops (dn listed)
  tsize : act.tmps.size = n
  defers : act.defers = []
  body : ∃ ι, HRel σ n0 ι (hAt T h0 (fr T 0 (dn listed))) w ∧ Ext ι0 h0 w0 ι (hAt T h0 (fr T 0 (dn listed))) w ∧
    (∀ t, ¬ Held ops T (dn listed) t → VRel σ ι (tv T 0 (dn listed) t (orUndef (Tr.get a0 t))) (act.tmps.getD t undef)) ∧ PendOk σ n0 w0.heap.size ops T ι (dn listed) act w

theorem HRel.more {n0 : Nat} {ι : Im} {h : Hp} {w : World} (H : HRel σ n0 ι h w) (o : Obj) : HRel σ n0 ι h (w.alloc o) ∧ Ext ι h w ι h (w.alloc o) := by
  have hsz : (w.alloc o).heap.size = w.heap.size + 1 := by show (w.heap.push _).size = _; simp
  have hold : ∀ b, b < w.heap.size → (w.alloc o).heap[b]? = w.heap[b]? := by
    intro b hb
    show (w.heap.push _)[b]? = _
    rw [Array.getElem?_push, if_neg (by omega)]
  refine ⟨⟨by rw [hsz]; have := H.base; omega, H.low, H.dom, fun k b p z e => by rw [hsz]; have := H.img k b p z e; omega, ?_, H.inj, fun x o e => ⟨(H.old x o e).1, by rw [hold x (by have := (H.old x o e).1; have := H.base; omega)]; exact (H.old x o e).2⟩⟩, ⟨.refl ι, Nat.le_refl _, by rw [hsz]; omega, fun b hb _ => hold b hb, fun k b p z e _ => ⟨k, p, z, e⟩, rfl, rfl, rfl⟩⟩
  intro k l e
  obtain ⟨b, p, C, T', hi, hb, hc⟩ := H.live k l e
  exact ⟨b, p, C, T', hi, by rw [hold b (H.img k b p _ hi)]; exact hb, hc⟩

/-- A block that has been made early is laid where it belongs. -/
theorem HRel.merge {n0 : Nat} {ι : Im} {h h' : Hp} {w : World} {v : Value} {l : List Value} {f : Addr → Value} (H : HRel σ n0 ι h w) (M : Made σ h v h' l f) {bl : Nat} {Ty : TypeId} (hlow : n0 ≤ bl) (hlt : bl < w.heap.size)
    (hne : ∀ k p z, ι k ≠ some (bl, p, z)) (hb : w.heap[bl]? = some (.cells l.toArray Ty (0, 0))) :
    HRel σ n0 (ι.up h.next (bl, 0, l.length)) h' w ∧ ι.le (ι.up h.next (bl, 0, l.length)) ∧ h.next ≤ h'.next := by
  obtain ⟨m', r, rfl, hs, hdec⟩ := M.mem
  have hn : ι h.next = none := H.unlaid (Nat.le_refl _)
  have hle := Im.le_up hn (bl, 0, l.length)
  have hget : ∀ k, (⟨h.next + 1, m'⟩ : Hp).get σ k = if k = h.next then some l else h.get σ k := fun k => by
    have := Hp.get_set (σ := σ) hs (h.next + 1) k
    rw [hdec] at this
    exact this
  refine ⟨⟨H.base, ?_, ?_, ?_, ?_, ?_, H.old⟩, hle, Nat.le_succ _⟩
  · intro k b p z e
    by_cases hk : k = h.next
    · subst hk; rw [Im.up_self] at e; injection e with e; injection e with e1 e2; subst e1; exact hlow
    · rw [Im.up_ne _ hk] at e; exact H.low k b p z e
  · intro k x e
    by_cases hk : k = h.next
    · subst hk; exact Nat.lt_succ_self _
    · rw [Im.up_ne _ hk] at e; have := H.dom k x e; show k < h.next + 1; omega
  · intro k b p z e
    by_cases hk : k = h.next
    · subst hk; rw [Im.up_self] at e; injection e with e; injection e with e1 e2; omega
    · rw [Im.up_ne _ hk] at e; exact H.img k b p z e
  · intro k l2 e
    rw [hget] at e
    by_cases hk : k = h.next
    · rw [if_pos hk] at e
      injection e with e
      subst e
      refine ⟨bl, 0, l.toArray, Ty, by rw [hk, Im.up_self]; simp, hb, ?_⟩
      intro i v hv
      obtain ⟨u, hu, hr⟩ := (M.const (ι.up h.next (bl, 0, l.length))).get i v hv
      exact ⟨u, by simpa using hu, hr⟩
    · rw [if_neg hk] at e
      obtain ⟨b, p, C, T', hi, hb', hc⟩ := H.live k l2 e
      refine ⟨b, p, C, T', by rw [Im.up_ne _ hk]; exact hi, hb', ?_⟩
      intro i v hv
      obtain ⟨u, hu, hr⟩ := hc i v hv
      exact ⟨u, hu, hr.mono hle⟩
  · intro k k' b p p' z z' a1 a2 e1 e2
    by_cases hk : k = h.next
    · by_cases hk' : k' = h.next
      · rw [hk, hk']
      · rw [hk, Im.up_self] at e1; injection e1 with e1; injection e1 with e1 _
        rw [Im.up_ne _ hk'] at e2
        subst e1
        exact absurd e2 (hne _ _ _)
    · by_cases hk' : k' = h.next
      · rw [hk', Im.up_self] at e2; injection e2 with e2; injection e2 with e2 _
        rw [Im.up_ne _ hk] at e1
        subst e2
        exact absurd e1 (hne _ _ _)
      · rw [Im.up_ne _ hk] at e1
        rw [Im.up_ne _ hk'] at e2
        rw [hget, if_neg hk] at a1
        rw [hget, if_neg hk'] at a2
        exact H.inj k k' b p p' z z' a1 a2 e1 e2

theorem put_getD {act : Act} {d : Option Tmp} {u : Value} (hd : ∀ t, d = some t → t < act.tmps.size) (t : Tmp) : (act.put d u).tmps.getD t undef = if d = some t then u else act.tmps.getD t undef := by
  cases d with
  | none => simp [Act.put]
  | some d =>
    by_cases e : d = t
    · subst e
      simp [Act.put, Array.getD_eq_getD_getElem?, hd d rfl]
    · rw [if_neg (fun e' => e (by injection e'))]
      simp only [Act.put, Array.getD_eq_getD_getElem?, Array.getElem?_setIfInBounds_ne e]
theorem put_size {act : Act} {d : Option Tmp} {u : Value} : (act.put d u).tmps.size = act.tmps.size := by cases d <;> simp [Act.put]
theorem put_defers {act : Act} {d : Option Tmp} {u : Value} : (act.put d u).defers = act.defers := by cases d <;> rfl

section
variable {P : Program} {n0 : Nat} {call : Caller} {n : Nat} {ops : Array Oper} {T : List Ent} {a0 : Ac} {h0 : Hp} {a' : Ac} {h' : Hp} {ι0 : Im} {w0 : World}

theorem Sit.step (S : Sit σ P n0 call n ops T a0 h0 a' h') {listed : Array Bool} {act : Act} {w : World} (I : Inv σ n0 n ops T a0 h0 ι0 w0 listed act w) {j : Nat} (hj : j ∈ Region.ready .any ops listed) {Q : Exit → Act → World → Prop} :
    wpOp P ops Q j (fun act' w' => Inv σ n0 n ops T a0 h0 ι0 w0 (listed.setIfInBounds j true) act' w') act w := by
  obtain ⟨hjun, o, ho, hall⟩ := mem_ready.1 hj
  obtain ⟨e, hT, rfl⟩ := S.ent ho
  have hjlt : j < listed.size := by rw [I.size]; exact (Array.getElem?_eq_some_iff.1 ho).1
  have hDj : dn listed j = false := by
    unfold dn
    simp only [Array.getD_eq_getD_getElem?] at hjun ⊢
    rw [Array.getElem?_eq_getElem hjlt] at hjun ⊢
    exact hjun
  generalize hDD : dn listed = D at *
  have hD' : ∀ i, dn (listed.setIfInBounds j true) i = (D i || decide (i = j)) := fun i => by rw [dn_set hjlt, hDD]
  obtain ⟨isize, iclosed, itsize, idefers, ι, H, E, Ht, Pd⟩ := I
  rw [hDD] at iclosed H E Ht Pd
  have hall' : ∀ ed ∈ e.o.after, Region.binds .any ed = true → D ed.on = true := fun ed he hb => by rw [← hDD]; exact hall ed he hb
  obtain ⟨t1, t2, t3, t4, t5, a1, t6⟩ := S.tra.at hT
  have before : ∀ i, D i = false → bit (befOf ops) i j = false := by
    intro i hi
    cases hb : bit (befOf ops) i j with
    | false => rfl
    | true => rw [bit_in iclosed j i e.o ho hall' hb] at hi; cases hi
  have behind : ∀ i, D i = true → bit (befOf ops) j i = false := by
    intro i hi
    cases hb : bit (befOf ops) j i with
    | false => rfl
    | true => rw [bit_done iclosed hb hi] at hDj; cases hDj
  have apartL : ∀ i x, T[i]? = some x → i < j → D i = false → x.o.apart ops e.o = true ∧ kindsOk (kindOf x.o.op) (kindOf e.o.op) = true := fun i x hx hij hi => S.pair hx hT hij (before i hi)
  have apartR : ∀ i y, T[i]? = some y → j < i → D i = true → e.o.apart ops y.o = true ∧ kindsOk (kindOf e.o.op) (kindOf y.o.op) = true := fun i y hy hij hi => S.pair hT hy hij (behind i hi)
  obtain ⟨_, fle, fdone, fmiss⟩ := fr_spec T 0 D
  simp only [Nat.zero_add, Nat.sub_zero] at fle fdone fmiss
  -- what a late operation has to do with this one
  have pend : ∀ q x, lateAt ops (befOf ops) q = true → T[q]? = some x → D q = true → fr T 0 D < q → ∀ t, x.o.dst = some t → t ∉ e.o.looksAt ops ∧ e.o.dst ≠ some t := by
    intro q x hl hq hDq hf t hd
    have hqj : q ≠ j := fun e' => by rw [e', hDj] at hDq; cases hDq
    have b1 : bit (befOf ops) q j = false := by
      cases hb : bit (befOf ops) q j with
      | false => rfl
      | true =>
        obtain ⟨y, y1, y2, y3⟩ := fmiss (by have := lt_of_some hq; omega)
        have := (S.late hq hl).2.1 j _ y hb hf y1 y2
        rw [before _ y3] at this; cases this
    rcases Nat.lt_or_gt_of_ne hqj with h | h
    · obtain ⟨s1, s2, s3⟩ := Oper.apart_spec (S.pair hq hT h b1).1
      exact ⟨s1 t hd, s2 t hd⟩
    · obtain ⟨s1, s2, s3⟩ := Oper.apart_spec (apartR q x hq h hDq).1
      exact ⟨s3 t hd, fun e' => s2 t e' hd⟩
  -- what it reads
  have hread : ∀ t, t ∈ e.o.looksAt ops → tv T 0 D t (orUndef (Tr.get a0 t)) = orUndef (Tr.get e.a t) := by
    intro t ht
    rw [(S.tra.tmps 0 t).1 hT]
    apply tv_congr
    intro i y hy hd
    simp only [Nat.zero_add]
    rcases Nat.lt_trichotomy i j with h | h | h
    · cases hDi : D i with
      | true => simp [h]
      | false => exact absurd ht ((Oper.apart_spec (apartL i y hy h hDi).1).1 t hd)
    · subst h; simp [hDj]
    · cases hDi : D i with
      | false => simp; omega
      | true => exact absurd ht ((Oper.apart_spec (apartR i y hy h hDi).1).2.2 t hd)
  have hlook : ∀ t, t ∈ e.o.looksAt ops → VRel σ ι (orUndef (Tr.get e.a t)) (act.tmps.getD t undef) := by
    intro t ht
    rw [← hread t ht]
    exact Ht t (fun ⟨q, x, hl, hq, _, hDq, hf, hd⟩ => (pend q x hl hq hDq hf t hd).1 ht)
  have hx : ∀ x ∈ e.o.op.operands, VRel σ ι (Ac.eval e.a x) (act.eval x) := by
    intro x hm
    cases x with
    | tmp t => exact hlook t (by simp only [Oper.looksAt, List.mem_append, List.mem_filterMap]; exact .inl ⟨.tmp t, by simpa using hm, rfl⟩)
    | const v =>
      simp only [Ac.eval, Act.eval]
      cases hc : constOk v with
      | true => exact constOk_rel hc
      | false => exact .top _
    | global g => exact .top _
    | func f => exact .top _
  have hwant : Region.wanted e.o (yielded ops act.tmps) = e.w := by
    refine wantedA_some t3 (ι := ι) (fun g want d hg hd => hlook d ?_)
    simp [Oper.looksAt, hg, hd]
  -- what it writes
  have hdlt : ∀ t, e.o.dst = some t → t < act.tmps.size := fun t hd => by rw [itsize]; rw [hd] at t6; exact put_lt t6
  have hwrite : ∀ t, tv T 0 (dn (listed.setIfInBounds j true)) t (orUndef (Tr.get a0 t)) = if e.o.dst = some t then e.v else tv T 0 D t (orUndef (Tr.get a0 t)) := by
    intro t
    by_cases hd : e.o.dst = some t
    · rw [if_pos hd]
      refine tv_last T 0 _ j e hT hd (by simp [hD']) ?_
      intro i y hij hy hd'
      rw [Nat.zero_add, hD']
      cases hDi : D i with
      | false => simp; omega
      | true => exact absurd hd' ((Oper.apart_spec (apartR i y hy hij hDi).1).2.1 t hd)
    · rw [if_neg hd]
      apply tv_congr
      intro i y hy hd'
      rw [Nat.zero_add, hD']
      have : i ≠ j := fun e' => by rw [e', hT] at hy; injection hy with hy; rw [hy] at hd; exact hd hd'
      simp [this]
  have hclosed' : Closed ops (dn (listed.setIfInBounds j true)) := by
    intro i o' ed hi hDi he hb
    rw [hD'] at hDi ⊢
    simp only [Bool.or_eq_true, decide_eq_true_eq] at hDi ⊢
    rcases hDi with h | h
    · exact .inl (iclosed i o' ed hi h he hb)
    · subst h
      rw [ho] at hi; injection hi with hi; subst hi
      exact .inl (hall' ed he hb)
  generalize hDD' : dn (listed.setIfInBounds j true) = D' at *
  have hmono : ∀ i, D i = true → D' i = true := fun i h => by rw [hD', h]; rfl
  have hback : ∀ i, i ≠ j → D' i = D i := fun i h => by rw [hD']; simp [h]
  have hDj' : D' j = true := by rw [hD']; simp
  -- what is left to show, whatever the operation did
  have finish : ∀ (ι1 : Im) (w1 : World) (u : Value), HRel σ n0 ι1 (hAt T h0 (fr T 0 D')) w1 → ι.le ι1 → Ext ι0 h0 w0 ι1 (hAt T h0 (fr T 0 D')) w1 →
      (∀ t, e.o.dst = some t → ¬ Held ops T D' t → VRel σ ι1 e.v u) → (∀ t, ¬ Held ops T D' t → Held ops T D t → VRel σ ι1 (tv T 0 D t (orUndef (Tr.get a0 t))) (act.tmps.getD t undef)) →
      PendOk σ n0 w0.heap.size ops T ι1 D' (act.put e.o.dst u) w1 → Inv σ n0 n ops T a0 h0 ι0 w0 (listed.setIfInBounds j true) (act.put e.o.dst u) w1 := by
    intro ι1 w1 u H1 hle E1 hv hheld hp
    refine ⟨by simpa using isize, by rw [hDD']; exact hclosed', by rw [put_size]; exact itsize, by rw [put_defers]; exact idefers, ι1, ?_⟩
    rw [hDD']
    refine ⟨H1, E1, ?_, hp⟩
    intro t hnh
    rw [hwrite t, put_getD hdlt t]
    by_cases hd : e.o.dst = some t
    · rw [if_pos hd, if_pos hd]; exact hv t hd hnh
    · rw [if_neg hd, if_neg hd]
      by_cases hh : Held ops T D t
      · exact hheld t hnh hh
      · exact (Ht t hh).mono hle
  -- what has been made early stays as it is
  have keep : ∀ (ι1 : Im) (w1 : World) (u : Value) (H1 : Hp), Ext ι (hAt T h0 (fr T 0 D)) w ι1 H1 w1 → (∀ q x, lateAt ops (befOf ops) q = true → T[q]? = some x → x.w = true → D' q = true → fr T 0 D' < q → D q = true ∧ fr T 0 D < q) → PendOk σ n0 w0.heap.size ops T ι1 D' (act.put e.o.dst u) w1 := by
    intro ι1 w1 u H1 E1 hq q x hl hx' hw hDq hf
    obtain ⟨q1, q2⟩ := hq q x hl hx' hw hDq hf
    obtain ⟨bl, l, f, Ty, p1, p0, p2, p3, p4, p5, p6⟩ := Pd q x hl hx' hw q1 q2
    refine ⟨bl, l, f, Ty, p1, p0, Nat.lt_of_lt_of_le p2 E1.size, ?_, ?_, p5, ?_⟩
    · intro k p z e'
      obtain ⟨k0, p0, z0, e0⟩ := E1.img k bl p z e' p2
      exact p3 k0 p0 z0 e0
    · rw [E1.frame bl p2 p3]; exact p4
    · intro t hd
      rw [put_getD hdlt t, if_neg (pend q x hl hx' q1 q2 t hd).2]
      exact p6 t hd
  -- an operation that is no effect
  have quiet : efE e = false → ∀ (ι1 : Im) (w1 : World) (u : Value), VRel σ ι1 e.v u → HRel σ n0 ι1 (hAt T h0 (fr T 0 D)) w1 → Ext ι (hAt T h0 (fr T 0 D)) w ι1 (hAt T h0 (fr T 0 D)) w1 →
      Inv σ n0 n ops T a0 h0 ι0 w0 (listed.setIfInBounds j true) (act.put e.o.dst u) w1 := by
    intro hE ι1 w1 u hv H1 E1
    have hfr : fr T 0 D' = fr T 0 D := fr_unique fle (fun i y hy hi hE' => hmono i (fdone i y hy hi hE')) (fun hlt => by
      obtain ⟨y, y1, y2, y3⟩ := fmiss hlt
      refine ⟨y, y1, y2, ?_⟩
      rw [hback _ (fun e' => by rw [e', hT] at y1; injection y1 with y1; rw [← y1, hE] at y2; cases y2)]
      exact y3)
    refine finish ι1 w1 u (by rw [hfr]; exact H1) E1.le (by rw [hfr]; exact E.trans E1) (fun _ _ _ => hv) ?_ (keep ι1 w1 u _ E1 ?_)
    · intro t hnh ⟨q, x, hl, hq, hw, hDq, hf, hd⟩
      exact absurd ⟨q, x, hl, hq, hw, hmono q hDq, by rw [hfr]; exact hf, hd⟩ hnh
    · intro q x hl hq hw hDq hf
      have hqj : q ≠ j := by
        intro e'
        subst e'
        rw [hT] at hq; injection hq with hq; subst hq
        simp [efE, hw, (S.late hT hl).1, effK] at hE
      rw [hback q hqj] at hDq
      rw [hfr] at hf
      exact ⟨hDq, hf⟩
  have bitlt : ∀ i k, bit (befOf ops) i k = true → i < k := by
    intro i k
    induction k using Nat.strongRecOn with
    | _ k ih =>
      intro hb
      obtain ⟨o', ho', ed, hed, hbd, hor⟩ := bit_step hb
      rw [Array.getElem?_toList] at ho'
      have := S.edge ho' hed hbd
      rcases hor with rfl | ⟨hlt, hb2⟩
      · exact this
      · have := ih ed.on hlt hb2; omega
  have nobit : ∀ i k, k ≤ i → bit (befOf ops) i k = false := by
    intro i k h
    cases hb : bit (befOf ops) i k with
    | false => rfl
    | true => have := bitlt i k hb; omega
  unfold wpOp
  simp only [ho]
  cases hw : e.w with
  | false =>
    rw [hwant, hw, if_neg (by simp)]
    obtain ⟨v1, v2⟩ := t5 hw
    exact quiet (by simp [efE, hw]) ι w undef (by rw [v1]; exact .undef) H (Ext.refl _ _ _)
  | true =>
    rw [hwant, hw, if_pos rfl]
    left
    have hstep := t4 hw
    have hev : ∃ out, evalOp P e.h e.a e.o = some out ∧ callO call e.h (some out) = some (e.v, e.h') := by
      unfold stepOp at hstep
      cases hev : evalOp P e.h e.a e.o with
      | none => rw [hev] at hstep; simp [callO] at hstep
      | some out => rw [hev] at hstep; exact ⟨out, rfl, hstep⟩
    obtain ⟨out, hev, hco⟩ := hev
    -- an operation that yields the same here as in the text's order
    have same : efE e = false → evalOp P (hAt T h0 (fr T 0 D)) e.a e.o = some (.val e.v (hAt T h0 (fr T 0 D))) → Oper.wp P e.o act w (fun act' w' => Inv σ n0 n ops T a0 h0 ι0 w0 (listed.setIfInBounds j true) act' w') Q := by
      intro hE hev2
      have hs : stepOp P call (hAt T h0 (fr T 0 D)) e.a e.o = some (e.v, hAt T h0 (fr T 0 D)) := by unfold stepOp; rw [hev2]; rfl
      exact stepOp_wp S.callOk H hx hs (fun ι1 w1 u hv H1 E1 => quiet hE ι1 w1 u hv H1 E1)
    cases hk : kindOf e.o.op with
    | ready =>
      have hE : efE e = false := by simp [efE, hk, effK]
      obtain ⟨v, rfl, hv2⟩ := calm_any hk hev
      simp only [callO, Option.some.injEq, Prod.mk.injEq] at hco
      refine same hE ?_
      rw [hv2, hco.1]
    | busy =>
      have hE : efE e = false := by simp [efE, hk, effK]
      refine same hE ?_
      rcases Nat.lt_trichotomy (fr T 0 D) j with hc | hc | hc
      · obtain ⟨y, y1, y2, y3⟩ := fmiss (by have := lt_of_some hT; omega)
        have hag := (S.read hT y1 hk y2 hw (nobit _ _ (by omega)) (before _ y3)).2 (by omega)
        rw [(S.tra.at y1).1] at hag
        exact again_some hk hag
      · obtain ⟨y, y1, y2, y3⟩ := fmiss (by have := lt_of_some hT; omega)
        rw [hc, hT] at y1; injection y1 with y1; rw [← y1, hE] at y2; cases y2
      · have last : ∀ c, j ≤ c → c ≤ T.length → hAt T h0 c = hAt T h0 j ∨ ∃ i y, j ≤ i ∧ i < c ∧ T[i]? = some y ∧ efE y = true ∧ hAt T h0 c = hAt T h0 (i + 1) := by
          intro c
          induction c with
          | zero => intro h1 _; left; rw [show j = 0 by omega]
          | succ c ih =>
            intro h1 h2
            by_cases hjc : j = c + 1
            · left; rw [hjc]
            · have hlt : c < T.length := by omega
              cases hEc : efE T[c] with
              | true => right; exact ⟨c, T[c], by omega, by omega, by simp, hEc, rfl⟩
              | false =>
                rw [S.hAt_same (i := c) (e := T[c]) (by simp) hEc]
                rcases ih (by omega) (by omega) with h | ⟨i, y, b1, b2, b3, b4, b5⟩
                · exact .inl h
                · exact .inr ⟨i, y, b1, by omega, b3, b4, b5⟩
        rcases last (fr T 0 D) (by omega) fle with h | ⟨i, y, b1, b2, b3, b4, b5⟩
        · rw [h, ← t1]
          obtain ⟨v, rfl⟩ := load_same hk hev
          simp only [callO, Option.some.injEq, Prod.mk.injEq] at hco
          rw [hev, hco.1]
        · have hDi := fdone i y b3 b2 b4
          have hag := (S.read hT b3 hk b4 hw (behind i hDi) (nobit _ _ b1)).1 b1
          rw [(S.tra.at b3).2.1, ← b5] at hag
          exact again_some hk hag
    | _ =>
      all_goals
        have hE : efE e = true := by simp [efE, hw, hk, effK]
        have hfj : fr T 0 D ≤ j := by
          rcases Nat.lt_or_ge j (fr T 0 D) with h | h
          · rw [fdone j e hT h hE] at hDj; cases hDj
          · exact h
        by_cases hfj2 : fr T 0 D = j
        · -- it is its turn in the text's order
          have hH : hAt T h0 (fr T 0 D) = e.h := by rw [hfj2]; exact t1.symm
          rw [hH] at H E
          refine stepOp_wp S.callOk H hx hstep ?_
          intro ι1 w1 u hv H1 E1
          rw [t2] at H1 E1
          obtain ⟨_, fle', fdone', fmiss'⟩ := fr_spec T 0 D'
          simp only [Nat.zero_add, Nat.sub_zero] at fle' fdone' fmiss'
          have hjc : j < fr T 0 D' := by
            rcases Nat.lt_or_ge j (fr T 0 D') with h | h
            · exact h
            · obtain ⟨y, y1, y2, y3⟩ := fmiss' (by have := lt_of_some hT; omega)
              by_cases hcj : fr T 0 D' = j
              · rw [hcj, hDj'] at y3; cases y3
              · rw [hback _ hcj] at y3
                rw [fdone _ y y1 (by omega) y2] at y3; cases y3
          have between : ∀ i y, j < i → i < fr T 0 D' → T[i]? = some y → efE y = true → D i = true ∧ lateAt ops (befOf ops) i = true := by
            intro i y h1 h2 hy hEy
            have hDi : D i = true := by rw [← hback i (by omega)]; exact fdone' i y hy h2 hEy
            refine ⟨hDi, ?_⟩
            cases hl : lateAt ops (befOf ops) i with
            | true => rfl
            | false =>
              have hko := (apartR i y hy h1 hDi).2
              simp only [efE, Bool.and_eq_true] at hEy
              have hfy : kindOf y.o.op = .exhausted := by
                cases hky : kindOf y.o.op with
                | exhausted => rfl
                | ready => rw [hky] at hEy; simp [effK] at hEy
                | busy => rw [hky] at hEy; simp [effK] at hEy
                | done => rw [hky, hk] at hko; simp [kindsOk] at hko
              have := S.notLate hy hfy hl h1 hT hE
              rw [behind i hDi] at this; cases this
          by_cases hex : ∃ i y, j < i ∧ i < fr T 0 D' ∧ T[i]? = some y ∧ efE y = true
          · obtain ⟨i, y, h1, h2, hy, hEy⟩ := hex
            obtain ⟨hDi, hli⟩ := between i y h1 h2 hy hEy
            have hyw : y.w = true := by simp only [efE, Bool.and_eq_true] at hEy; exact hEy.1
            obtain ⟨bl, l, f, Ty, p1, p0, p2, p3, p4, p5, p6⟩ := Pd i y hli hy hyw hDi (by omega)
            have only : ∀ k z, j < k → k < fr T 0 D' → T[k]? = some z → efE z = true → k = i := fun k z k1 k2 kz kE => S.oneLate kz (between k z k1 k2 kz kE).2 hy hli
            have e1 : hAt T h0 i = hAt T h0 (j + 1) := S.hAt_range (by omega) (by omega) (fun k z k1 k2 kz => by
              cases hz : efE z with
              | false => rfl
              | true => have := only k z (by omega) (by omega) kz hz; omega)
            have e2 : hAt T h0 (fr T 0 D') = hAt T h0 (i + 1) := S.hAt_range (by omega) fle' (fun k z k1 k2 kz => by
              cases hz : efE z with
              | false => rfl
              | true => have := only k z (by omega) (by omega) kz hz; omega)
            obtain ⟨y1, y2, _⟩ := S.tra.at hy
            rw [← e1, ← y1] at H1 E1
            have q3 : ∀ k p z, ι1 k ≠ some (bl, p, z) := fun k p z e' => by
              obtain ⟨k0, p00, z00, e0⟩ := E1.img k bl p z e' p2
              exact p3 k0 p00 z00 e0
            obtain ⟨H2, hle2, hnx⟩ := H1.merge p5 p1 (Nat.lt_of_lt_of_le p2 E1.size) q3 (by rw [E1.frame bl p2 p3]; exact p4)
            have E01 := E.trans E1
            refine finish (ι1.up y.h.next (bl, 0, l.length)) w1 u (by rw [e2, ← y2]; exact H2) (E1.le.trans hle2) ?_ (fun _ _ _ => hv.mono hle2) ?_ ?_
            · rw [e2, ← y2]
              refine ⟨E01.le.trans hle2, Nat.le_trans E01.next hnx, E01.size, E01.frame, ?_, E01.os, E01.tape, E01.output⟩
              intro k b p z e' hb
              by_cases hkk : k = y.h.next
              · rw [hkk, Im.up_self] at e'; injection e' with e'; injection e' with e1' _; omega
              · rw [Im.up_ne _ hkk] at e'; exact E01.img k b p z e' hb
            · intro t hnh ⟨q, x, hl, hq, hxw, hDq, hf, hd⟩
              have hqi : q = i := S.oneLate hq hl hy hli
              subst hqi
              rw [hy] at hq; injection hq with hq; subst hq
              have hval : tv T 0 D t (orUndef (Tr.get a0 t)) = y.v := by
                refine tv_last T 0 _ q y hy hd (by simpa using hDi) ?_
                intro k z hqk hz hdz
                rw [Nat.zero_add]
                cases hDk : D k with
                | false => rfl
                | true =>
                  cases hb : bit (befOf ops) q k with
                  | true =>
                    have := (S.late hy hl).2.1 k j e hb h1 hT hE
                    rw [behind k hDk] at this; cases this
                  | false => exact absurd hdz ((Oper.apart_spec (S.pair hy hz hqk hb).1).2.1 t hd)
              rw [hval, p6 t hd]
              exact p5.rel _ _ (Im.up_self _ _ _)
            · intro q x hl hq hxw hDq hf
              have := S.oneLate hq hl hy hli
              omega
          · have none : ∀ i y, j < i → i < fr T 0 D' → T[i]? = some y → efE y = false := by
              intro i y h1 h2 hy
              cases hEy : efE y with
              | false => rfl
              | true => exact absurd ⟨i, y, h1, h2, hy, hEy⟩ hex
            have e2 : hAt T h0 (fr T 0 D') = hAt T h0 (j + 1) := S.hAt_range (by omega) fle' (fun k z k1 k2 kz => none k z (by omega) k2 kz)
            have held : ∀ q x, lateAt ops (befOf ops) q = true → T[q]? = some x → x.w = true → D q = true → fr T 0 D < q → fr T 0 D' < q := by
              intro q x hl hq hxw hDq hf
              have hxE : efE x = true := by simp [efE, hxw, (S.late hq hl).1, effK]
              rcases Nat.lt_trichotomy (fr T 0 D') q with h | h | h
              · exact h
              · obtain ⟨y, y1, y2, y3⟩ := fmiss' (by have := lt_of_some hq; omega)
                rw [h, hmono q hDq] at y3; cases y3
              · have := none q x (by omega) h hq
                rw [hxE] at this; cases this
            refine finish ι1 w1 u (by rw [e2]; exact H1) E1.le (by rw [e2]; exact E.trans E1) (fun _ _ _ => hv) ?_ (keep ι1 w1 u (hAt T h0 (j + 1)) (by rw [hH]; exact E1) ?_)
            · intro t hnh ⟨q, x, hl, hq, hxw, hDq, hf, hd⟩
              exact absurd ⟨q, x, hl, hq, hxw, hmono q hDq, held q x hl hq hxw hDq hf, hd⟩ hnh
            · intro q x hl hq hxw hDq hf
              rw [hback q (by omega)] at hDq
              exact ⟨hDq, by omega⟩
        · -- it comes early
          obtain ⟨y, y1, y2, y3⟩ := fmiss (by have := lt_of_some hT; omega)
          have hlt : fr T 0 D < j := by omega
          have hko := (apartL _ y y1 hlt y3).2
          have hye := y2
          simp only [efE, Bool.and_eq_true] at hye
          first
            | (have hkf : kindOf e.o.op = .exhausted := hk
               have hl : lateAt ops (befOf ops) j = true := by
                 cases hl : lateAt ops (befOf ops) j with
                 | true => rfl
                 | false =>
                   have := S.notLate hT hkf hl hlt y1 y2
                   rw [before _ y3] at this; cases this
               obtain ⟨v, h1', l, f, Ty, rfl, M, hrun⟩ := fresh_spec hkf hev
               simp only [callO, Option.some.injEq, Prod.mk.injEq] at hco
               obtain ⟨rfl, rfl⟩ := hco
               unfold Oper.wp
               rw [hrun ι act.eval w hx]
               show Inv σ n0 n ops T a0 h0 ι0 w0 (listed.setIfInBounds j true) (act.put e.o.dst _) _
               obtain ⟨H1, E1⟩ := H.more (.cells l.toArray Ty)
               have hfr : fr T 0 D' = fr T 0 D := fr_unique fle (fun i y hy hi hE' => hmono i (fdone i y hy hi hE')) (fun _ => ⟨y, y1, y2, by rw [hback _ (by omega)]; exact y3⟩)
               have hheld : ∀ t, e.o.dst = some t → Held ops T D' t := fun t hd => ⟨j, e, hl, hT, hw, hDj', by rw [hfr]; exact hlt, hd⟩
               refine finish ι _ _ (by rw [hfr]; exact H1) (.refl ι) (by rw [hfr]; exact E.trans E1) (fun t hd hnh => absurd (hheld t hd) hnh) ?_ ?_
               · intro t hnh ⟨q, x, hl', hq, hxw, hDq, hf, hd⟩
                 have := S.oneLate hq hl' hT hl
                 rw [this, hDj] at hDq; cases hDq
               · intro q x hl' hq hxw hDq hf
                 have hqj := S.oneLate hq hl' hT hl
                 subst hqj
                 rw [hT] at hq; injection hq with hq; subst hq
                 refine ⟨w.heap.size, l, f, Ty, H.base, E.size, by show _ < (w.heap.push _).size; simp, fun k p z e' => by have := H.img k _ p z e'; omega, by show (w.heap.push _)[w.heap.size]? = _; simp, M, ?_⟩
                 intro t hd
                 rw [put_getD hdlt t, if_pos hd])
            | (exfalso
               cases hky : kindOf y.o.op with
               | ready => rw [hky] at hye; simp [effK] at hye
               | busy => rw [hky] at hye; simp [effK] at hye
               | done => rw [hky, hk] at hko; simp [kindsOk] at hko
               | exhausted => rw [hky, hk] at hko; simp [kindsOk] at hko)
end
end Go.Jv
