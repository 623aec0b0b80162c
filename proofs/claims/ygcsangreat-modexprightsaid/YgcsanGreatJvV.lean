/-
  Calls that are answered without a run: the numbers.
-/
import Derived.Test.YgcsanGreatJvU
namespace Go.Jv
open Go Go.Proofs
open Go.Proofs.YgcsanGreat (digs Sl NewD Fr no IB val Dg digs_dg val_digs digs_length_le digs_zero ints VB W64 fromU64_new num_new norm_new natOf_new add_new mul_new sub_new divMod_new cmp_any cmpZ laidBE be32_any
  fromBE_new val_append val_replicate limbs limbs_get limbs_length eq_limbs adNo addrOf4_any)
set_option linter.unusedVariables false
set_option linter.unusedSimpArgs false
variable {σ : Va}

section
variable {n0 : Nat} {ι : Im} {h h' : Hp} {w : World} {tok : Value}

theorem Ans.nat (H : HRel σ n0 ι h w) {w' : World} (hf : Fr w.heap.size no w w') {e : List Int} (hn : newN h e = some (tok, h')) {v : Value} {N : Nat} (hN : evL e σ.xs = (N : Nat)) (hv : NewD w.heap.size w' v (digs N)) :
    Ans σ n0 ι h w tok h' (.returned v) w' := by
  obtain ⟨ι', a, b, c⟩ := new_nat H hf hn hN hv
  exact ⟨v, ι', rfl, a, b, c⟩
theorem newNO_some {x : Option (List Int)} (he : newNO h x = some (tok, h')) : ∃ e, x = some e ∧ newN h e = some (tok, h') := by
  cases x with
  | none => simp [newNO] at he
  | some e => exact ⟨e, rfl, he⟩
theorem len41 {l : List Nat} (h : l.length ≤ 41) : l.length ≤ 8388608 := by omega

theorem orFrom_some {v u : Value} (hv : VRel σ ι v u) (he : orFrom h (exOf v) = some (tok, h')) : ∃ (N : Nat) (e : List Int), u = .int .u64 (N : Int) ∧ N < W64 ∧ evL e σ.xs = (N : Nat) ∧ newN h e = some (tok, h') := by
  unfold orFrom at he
  split at he
  · rename_i e hx
    split at he
    · rename_i hb
      simp only [Bool.and_eq_true] at hb
      have h1 := nnE_ev (σ := σ) hb.1
      have h2 := geE_ev (σ := σ) hb.2
      rw [ev_one] at h2
      have hu := exOf_rel hx hv
      have h3 : (Int.ofNat (maxOf .u64)) = 18446744073709551615 := rfl
      refine ⟨(evL e σ.xs).toNat, e, ?_, ?_, by omega, he⟩
      · rw [hu]; congr 1; omega
      · have : W64 = 18446744073709551616 := rfl
        omega
    · cases he
  · cases he
theorem ans109 (H : HRel σ n0 ι h w) {v u : Value} (hv : VRel σ ι v u) (he : orFrom h (exOf v) = some (tok, h')) : Calls Sang.prog 109 #[u] w (Ans σ n0 ι h w tok h') := by
  obtain ⟨N, e, rfl, h1, h2, h3⟩ := orFrom_some hv he
  refine (fromU64_new N w h1).mono ?_
  rintro e w' ⟨v', rfl, hd, hf⟩
  exact Ans.nat H hf h3 h2 hd
theorem ans65 (H : HRel σ n0 ι h w) {v u : Value} (hv : VRel σ ι v u) (he : orFrom h (exOf v) = some (tok, h')) : Calls Sang.prog 65 #[u] w (Ans σ n0 ι h w tok h') := by
  obtain ⟨N, e, rfl, h1, h2, h3⟩ := orFrom_some hv he
  refine (num_new N w h1).mono ?_
  rintro e w' ⟨v', rfl, hd, hf⟩
  exact Ans.nat H hf h3 h2 hd
theorem ans116 (H : HRel σ n0 ι h w) {v u : Value} (hv : VRel σ ι v u) {a : List Int} (ha : natE h v = some a) (he : orU64 h a (rangeI .u64 a) = some (tok, h')) : Calls Sang.prog 116 #[u] w (Ans σ n0 ι h w tok h') := by
  obtain ⟨N, hN, hs, hl⟩ := natE_sl H hv ha
  cases hr : rangeI .u64 a with
  | none => rw [hr] at he; simp [orU64] at he
  | some x =>
    rw [hr] at he
    simp only [orU64, Option.some.injEq, Prod.mk.injEq] at he
    obtain ⟨rfl, rfl⟩ := he
    obtain ⟨g1, g2, g3⟩ := rangeI_rel (σ := σ) (ι := ι) hr
    rw [hN] at g1 g3
    have h3 : maxOf .u64 = 18446744073709551615 := rfl
    refine (Go.Proofs.YgcsanGreat.natU64_any u (digs N) N w hs (digs_dg _) (val_digs _) (by have : W64 = 18446744073709551616 := rfl; omega)).mono ?_
    rintro e w' ⟨rfl, rfl⟩
    exact Ans.same H (Fr.refl _ _ _) (.tuple (.cons (.cell g1) (.cons (.cell (.bool _)) .nil)))
theorem ans127 (H : HRel σ n0 ι h w) {v u : Value} (hv : VRel σ ι v u) (he : newNO h (natE h v) = some (tok, h')) : Calls Sang.prog 127 #[u] w (Ans σ n0 ι h w tok h') := by
  obtain ⟨e, he, hn⟩ := newNO_some he
  obtain ⟨N, hN, hs, hl⟩ := natE_sl H hv he
  have := norm_new u (digs N) w hs (digs_dg _) (by omega)
  rw [val_digs] at this
  refine this.mono ?_
  rintro e w' ⟨v', rfl, hd, hf⟩
  exact Ans.nat H hf hn hN hd
theorem ans51 (H : HRel σ n0 ι h w) {v u : Value} (hv : VRel σ ι v u) (he : newNO h (natE h v) = some (tok, h')) : Calls Sang.prog 51 #[u] w (Ans σ n0 ι h w tok h') := by
  obtain ⟨e, he, hn⟩ := newNO_some he
  obtain ⟨N, hN, hs, hl⟩ := natE_sl H hv he
  refine (natOf_new u (digs N) w hs (by omega)).mono ?_
  rintro e w' ⟨v', rfl, hd, hf⟩
  exact Ans.nat H hf hn hN hd

/-! two numbers -/
theorem ans64 (H : HRel σ n0 ι h w) {x y ux uy : Value} (hx : VRel σ ι x ux) (hy : VRel σ ι y uy) {a b : List Int} (ha : natE h x = some a) (hb : natE h y = some b) (he : orCmp h (cmpE a b) = some (tok, h')) : Calls Sang.prog 64 #[ux, uy] w (Ans σ n0 ι h w tok h') := by
  obtain ⟨A, hA, sA, lA⟩ := natE_sl H hx ha
  obtain ⟨B, hB, sB, lB⟩ := natE_sl H hy hb
  cases hc : cmpE a b with
  | none => rw [hc] at he; simp [orCmp] at he
  | some c =>
    rw [hc] at he
    simp only [orCmp, Option.some.injEq, Prod.mk.injEq] at he
    obtain ⟨rfl, rfl⟩ := he
    have := cmp_any ux uy (digs A) (digs B) w sA (digs_dg _) sB (digs_dg _)
    rw [val_digs, val_digs] at this
    refine this.mono ?_
    rintro e w' ⟨rfl, hf⟩
    have hcz : cmpZ A B = c := by
      unfold cmpZ
      rcases cmpE_ev (σ := σ) hc with ⟨rfl, h1⟩ | ⟨rfl, h1⟩ | ⟨rfl, h1⟩
      · rw [if_neg (by omega), if_neg (by omega)]
      · rw [if_neg (by omega), if_pos (by omega)]
      · rw [if_pos (by omega)]
    rw [hcz]
    exact Ans.same H hf (.cell (.int _ _))
theorem ans78 (H : HRel σ n0 ι h w) {x y ux uy : Value} (hx : VRel σ ι x ux) (hy : VRel σ ι y uy) {a b : List Int} (ha : natE h x = some a) (hb : natE h y = some b) (he : newN h (addE a b) = some (tok, h')) : Calls Sang.prog 78 #[ux, uy] w (Ans σ n0 ι h w tok h') := by
  obtain ⟨A, hA, sA, lA⟩ := natE_sl H hx ha
  obtain ⟨B, hB, sB, lB⟩ := natE_sl H hy hb
  have := add_new ux uy (digs A) (digs B) w sA (digs_dg _) sB (digs_dg _) (len41 lA) (len41 lB)
  rw [val_digs, val_digs] at this
  refine this.mono ?_
  rintro e w' ⟨v', rfl, hd, hf⟩
  refine Ans.nat H hf he ?_ hd
  rw [evL_addE, hA, hB]; omega
theorem ans80 (H : HRel σ n0 ι h w) {x y ux uy : Value} (hx : VRel σ ι x ux) (hy : VRel σ ι y uy) {a b : List Int} (ha : natE h x = some a) (hb : natE h y = some b) (he : newNO h (mulEE a b) = some (tok, h')) : Calls Sang.prog 80 #[ux, uy] w (Ans σ n0 ι h w tok h') := by
  obtain ⟨A, hA, sA, lA⟩ := natE_sl H hx ha
  obtain ⟨B, hB, sB, lB⟩ := natE_sl H hy hb
  obtain ⟨e, he, hn⟩ := newNO_some he
  have := mul_new ux uy (digs A) (digs B) w sA (digs_dg _) sB (digs_dg _) (len41 lA) (len41 lB)
  rw [val_digs, val_digs] at this
  refine this.mono ?_
  rintro e w' ⟨v', rfl, hd, hf⟩
  refine Ans.nat H hf hn ?_ hd
  rw [mulEE_ev he, hA, hB]; push_cast; rfl
theorem withB_some {b : Bool} {x : Option (Value × Hp)} (he : withB b x = some (tok, h')) : ∃ v, x = some (v, h') ∧ tok = .tuple #[v, .bool b] := by
  cases x with
  | none => simp [withB] at he
  | some p =>
    obtain ⟨v, h1⟩ := p
    simp only [withB, Option.some.injEq, Prod.mk.injEq] at he
    exact ⟨v, by rw [he.2], he.1.symm⟩
theorem VRel.wr {v u : Value} {t : Nat} {p : Value} (hv : VRel σ ι v u) (e : v = .iface t p) : WRel σ ι v u := hv.wOf (by rw [e]; rfl)
theorem ans111 (H : HRel σ n0 ι h w) {x y ux uy : Value} (hx : VRel σ ι x ux) (hy : VRel σ ι y uy) {a b : List Int} (ha : natE h x = some a) (hb : natE h y = some b) (he : orSub h a b = some (tok, h')) : Calls Sang.prog 111 #[ux, uy] w (Ans σ n0 ι h w tok h') := by
  obtain ⟨A, hA, sA, lA⟩ := natE_sl H hx ha
  obtain ⟨B, hB, sB, lB⟩ := natE_sl H hy hb
  have key : ∀ (ok : Bool) (e : List Int), withB ok (newN h e) = some (tok, h') → decide (B ≤ A) = ok → evL e σ.xs = ((A - B : Nat) : Nat) → Calls Sang.prog 111 #[ux, uy] w (Ans σ n0 ι h w tok h') := by
    intro ok e hw hok hE
    obtain ⟨v, hn, rfl⟩ := withB_some hw
    refine (sub_new ux uy A B w sA sB (len41 lA)).mono ?_
    rintro e' w' ⟨v', rfl, hd, hf⟩
    obtain ⟨ι', g1, g2, g3⟩ := new_nat H hf hn hE hd
    obtain ⟨_, _, m', ev, _⟩ := newN_some (σ := σ) hn
    rw [hok]
    exact ⟨_, ι', rfl, .tuple (.cons (g1.wr ev) (.cons (.cell (.bool _)) .nil)), g2, g3⟩
  unfold orSub at he
  cases h1 : geE a b with
  | true =>
    rw [h1] at he
    have := geE_ev (σ := σ) h1
    refine key true (subE a b) he (by simp; omega) ?_
    rw [evL_subE, hA, hB]; omega
  | false =>
    rw [h1] at he
    simp only at he
    cases h2 : gtE b a with
    | false => rw [h2] at he; simp at he
    | true =>
      rw [h2] at he
      have := gtE_ev (σ := σ) h2
      refine key false [] he (by simp; omega) ?_
      rw [evL_nil]; omega
theorem ans142 (H : HRel σ n0 ι h w) {x y ux uy : Value} (hx : VRel σ ι x ux) (hy : VRel σ ι y uy) {a b : List Int} (ha : natE h x = some a) (hb : natE h y = some b) (he : orDiv h a (isC b) = some (tok, h')) : Calls Sang.prog 142 #[ux, uy] w (Ans σ n0 ι h w tok h') := by
  obtain ⟨A, hA, sA, lA⟩ := natE_sl H hx ha
  obtain ⟨B, hB, sB, lB⟩ := natE_sl H hy hb
  unfold orDiv at he
  split at he
  · rename_i c hc
    cases hq : newNO h (quoE a c) with
    | none => rw [hq] at he; simp [withQ] at he
    | some p =>
      obtain ⟨v, h1⟩ := p
      rw [hq] at he
      simp only [withQ, Option.some.injEq, Prod.mk.injEq] at he
      obtain ⟨rfl, rfl⟩ := he
      obtain ⟨e, he, hn⟩ := newNO_some hq
      obtain ⟨q1, q2⟩ := quoE_ev (σ := σ) he
      have hcB := isC_ev (σ := σ) hc
      rw [hB] at hcB
      have hBc : B = c := by have : ((B : Nat) : Int) = ((c : Nat) : Int) := hcB; omega
      subst hBc
      have := divMod_new ux uy (digs A) (digs B) w sA (digs_dg _) sB (digs_dg _) (len41 lA) (len41 lB) (by rw [val_digs]; omega)
      rw [val_digs, val_digs] at this
      refine this.mono ?_
      rintro e' w' ⟨vq, vr, rfl, hd, _, hf⟩
      obtain ⟨ι', g1, g2, g3⟩ := new_nat H hf hn (N := A / B) (by rw [← q1, hA]; rfl) hd
      obtain ⟨_, _, m', ev, _⟩ := newN_some (σ := σ) hn
      exact ⟨_, ι', rfl, .tuple (.cons (g1.wr ev) (.cons (.top _) (.cons (.cell (.bool _)) .nil))), g2, g3⟩
  · cases he

/-! bytes -/
theorem beL_rel : ∀ {l m : List Value} {acc e : List Int}, beL acc l = some e → All2 (CRel σ ι) l m → ∃ ns : List Nat, m = ns.map byteV ∧ Dg 256 ns ∧ evL e σ.xs = evL acc σ.xs * ((256 ^ ns.length : Nat) : Int) + (val 256 ns.reverse : Nat) := by
  intro l
  induction l with
  | nil =>
    intro m acc e he hm
    simp only [beL, Option.some.injEq] at he
    subst he
    rw [hm.nilL]
    exact ⟨[], rfl, Dg.nil _, by simp [val]⟩
  | cons v l ih =>
    intro m acc e he hm
    obtain ⟨u, m, rfl, hvu, hl⟩ := hm.consL
    simp only [beL] at he
    split at he
    · rename_i ev hx
      split at he
      · rename_i hb
        simp only [Bool.and_eq_true] at hb
        have h1 := nnE_ev (σ := σ) hb.1
        have h2 := geE_ev (σ := σ) hb.2
        rw [ev_one] at h2
        obtain ⟨ns, rfl, hd, hE⟩ := ih he hl
        have hu := exOf_rel hx (.cell hvu)
        obtain ⟨n, hn⟩ : ∃ n : Nat, evL ev σ.xs = (n : Nat) := ⟨(evL ev σ.xs).toNat, by omega⟩
        rw [hn] at h2 hu
        refine ⟨n :: ns, by rw [hu]; rfl, Dg.cons (by omega) hd, ?_⟩
        rw [hE, evL_addE, evL_mulE, hn]
        simp only [List.reverse_cons, List.length_cons]
        rw [val_append]
        simp only [List.length_reverse, val]
        rw [Nat.pow_succ]
        generalize 256 ^ ns.length = Q
        generalize val 256 ns.reverse = V
        generalize evL acc σ.xs = A
        have e0 : V + Q * (n + 256 * 0) = V + Q * n := by rw [Nat.mul_zero, Nat.add_zero]
        rw [e0, Int.natCast_add, Int.natCast_mul, Int.natCast_mul]
        have e3 : ((256 : Nat) : Int) = 256 := rfl
        rw [e3, Int.add_mul, Int.mul_comm 256 A, Int.mul_assoc A 256, Int.mul_comm 256 (Q : Int), Int.mul_comm (n : Int)]
        omega
      · cases he
    · cases he
theorem ans83 (H : HRel σ n0 ι h w) {v u : Value} (hv : VRel σ ι v u) (he : orBE h v = some (tok, h')) : Calls Sang.prog 83 #[u] w (Ans σ n0 ι h w tok h') := by
  unfold orBE at he
  split at he
  · rename_i a len cap
    split at he
    · rename_i hb
      simp only [Bool.and_eq_true] at hb
      have b1 := Nat.le_of_ble_eq_true hb.1
      have b2 := Nat.le_of_ble_eq_true hb.2
      cases hr : h.read a len with
      | none => rw [hr] at he; simp [beO] at he
      | some l =>
        rw [hr] at he
        simp only [beO] at he
        obtain ⟨e, hbe, hn⟩ := newNO_some he
        obtain ⟨k, o, b, p, z, rfl, _, hi, m, hm, hml, hc⟩ := H.read hr
        obtain ⟨k2, o2, bb, pp, zz, c', e2, hi2, hcap, rfl⟩ := hv.slc
        injection e2 with e21 e22
        subst e21; subst e22
        rw [hi] at hi2
        injection hi2 with hi2
        injection hi2 with f1 f2
        injection f2 with f2 f3
        subst f1; subst f2
        have hcc : c' = cap := hcap.1 (by simp [big]; omega)
        subst hcc
        obtain ⟨ns, rfl, hd, hE⟩ := beL_rel hbe hm
        have hnl : ns.length = len := by simpa using hml
        subst hnl
        have hsl : Sl w .u8 (.slice (some ⟨b, p + o, none⟩) ns.length c') ns := by
          refine ⟨_, c', rfl, b2, by simp only [maxLen]; omega, .inr ⟨b, p + o, rfl, ?_⟩⟩
          intro i hi
          have := hc i (byteV ns[i]) (by simp [hi])
          rw [addr_add] at this
          rw [this]
          simp [List.getD, hi, byteV]
        refine (fromBE_new _ ns w hsl hd (by omega)).mono ?_
        rintro e' w' ⟨v', rfl, hd', hf⟩
        refine Ans.nat H hf hn ?_ hd'
        rw [hE, evL_nil]; simp
    · cases he
  · rw [hv.nils]
    refine (fromBE_new _ [] w (Go.Proofs.YgcsanGreat.Sl.nil _ _) (Dg.nil _) (by simp)).mono ?_
    rintro e' w' ⟨v', rfl, hd', hf⟩
    exact Ans.nat H hf he (N := 0) rfl hd'
  · cases he

theorem laidBE_limbs {N : Nat} (hN : N < 256 ^ 32) : laidBE (digs N) (digs N).length = (limbs 256 32 N).reverse := by
  have hl : (digs N).length ≤ 32 := (digs_length_le N 32).2 hN
  have e : digs N ++ List.replicate (32 - (digs N).length) 0 = limbs 256 32 N := by
    refine eq_limbs ((digs_dg N).append (Dg.replicate (by decide) _)) 32 N (by simp; omega) ?_
    rw [val_append, val_replicate, val_digs]; simp
  rw [← e]
  unfold laidBE
  rw [List.take_length, List.reverse_append, List.reverse_replicate]
theorem beN_get (n : Nat) : ∀ (k i : Nat), i < k → (beN n k)[i]? = some (byteV (n / 256 ^ (k - 1 - i) % 256)) := by
  intro k
  induction k with
  | zero => intro i h; omega
  | succ k ih =>
    intro i h
    simp only [beN]
    cases i with
    | zero => simp [byteV]; rfl
    | succ i =>
      rw [List.getElem?_cons_succ, ih i (by omega)]
      rw [show k + 1 - 1 - (i + 1) = k - 1 - i by omega]
theorem beN_length (n : Nat) : ∀ k, (beN n k).length = k := by
  intro k
  induction k with
  | zero => rfl
  | succ k ih => simp [beN, ih]
theorem beN_limbs (n k : Nat) : beN n k = ((limbs 256 k n).reverse).map byteV := by
  apply List.ext_getElem?
  intro i
  by_cases hi : i < k
  · rw [beN_get n k i hi, List.getElem?_map, List.getElem?_reverse (by rw [limbs_length]; exact hi), limbs_length]
    have h1 := limbs_get 256 k n (k - 1 - i) (by omega)
    have h2 : k - 1 - i < (limbs 256 k n).length := by rw [limbs_length]; omega
    simp only [List.getD, List.getElem?_eq_getElem h2, Option.getD_some] at h1
    rw [List.getElem?_eq_getElem h2, h1]
    rfl
  · rw [List.getElem?_eq_none (by rw [beN_length]; omega), List.getElem?_eq_none (by simp [limbs_length]; omega)]
theorem ints_map (l : List Nat) : Value.agg (ints .u8 l) = .agg (l.map byteV).toArray := rfl
theorem digs_one {N : Nat} (h1 : 1 ≤ N) (h2 : N ≤ 255) : digs N = [N] := by
  have hl : (digs N).length ≤ 1 := (digs_length_le N 1).2 (by omega)
  have hv := val_digs N
  generalize digs N = l at *
  match l, hl with
  | [], _ => simp [val] at hv; omega
  | [d], _ => simp [val] at hv; rw [hv]
theorem be32_rel {e : List Int} {N : Nat} (hN : evL e σ.xs = (N : Nat)) (hlt : N < 256 ^ 32) : VRel σ ι (.agg (be32 e (isC e)).toArray) (.agg (ints .u8 (laidBE (digs N) (digs N).length))) := by
  rw [ints_map]
  refine .agg ?_
  unfold be32
  split
  · rename_i c hc
    have hcN := isC_ev (σ := σ) hc
    rw [hN] at hcN
    have : N = c := by have : ((N : Nat) : Int) = ((c : Nat) : Int) := hcN; omega
    subst this
    rw [beN_limbs, laidBE_limbs hlt]
    exact byteV_rel _
  · split
    · rename_i hb
      simp only [Bool.and_eq_true] at hb
      have h1 := geE_ev (σ := σ) hb.1
      have h2 := geE_ev (σ := σ) hb.2
      rw [ev_one] at h1 h2
      rw [digs_one (by omega) (by omega)]
      show All2 _ _ ((List.replicate 31 0 ++ [N]).map byteV)
      rw [List.map_append]
      refine All2.append ?_ (.cons ?_ .nil)
      · exact byteV_rel (List.replicate 31 0)
      · refine .tok (.inl ⟨.u8, _, rfl, rfl, ?_⟩)
        rw [List.toList_toArray, decE_encE, hN]
        exact ⟨by omega, by show ((N : Nat) : Int) ≤ (255 : Nat); omega, rfl⟩
    · have hl : (digs N).length ≤ 32 := (digs_length_le N 32).2 hlt
      apply All2.of_get
      · simp [Go.Proofs.YgcsanGreat.laidBE_length (Nat.le_refl _) hl]
      · intro i x y hx hy
        obtain ⟨_, rfl⟩ := List.getElem?_eq_some_iff.1 hx
        obtain ⟨hi, rfl⟩ := byteV_get hy
        rw [List.getElem_replicate]
        refine .tok (.inr (.inl ⟨rfl, _, ?_, rfl⟩))
        have hd : Dg 256 (laidBE (digs N) (digs N).length) := by
          unfold laidBE
          refine (Dg.replicate (by decide) _).append ?_
          intro d hd
          rw [List.take_length] at hd
          exact digs_dg N d (by simpa using hd)
        exact hd _ (List.getElem_mem hi)
theorem ans117 (H : HRel σ n0 ι h w) {v u : Value} (hv : VRel σ ι v u) {a : List Int} (ha : natE h v = some a) (he : orBE32 h a = some (tok, h')) : Calls Sang.prog 117 #[u] w (Ans σ n0 ι h w tok h') := by
  obtain ⟨N, hN, hs, hl⟩ := natE_sl H hv ha
  unfold orBE32 at he
  split at he
  · rename_i hb
    simp only [Option.some.injEq, Prod.mk.injEq] at he
    obtain ⟨rfl, rfl⟩ := he
    have h1 := geE_ev (σ := σ) hb
    rw [ev_one, hN] at h1
    have h2 : Int.ofNat (Nat.pred (2 ^ 256)) = ((256 ^ 32 - 1 : Nat) : Int) := rfl
    rw [h2] at h1
    have h3 : 0 < 256 ^ 32 := by decide
    have hlt : N < 256 ^ 32 := by
      have : N ≤ 256 ^ 32 - 1 := by exact_mod_cast h1
      omega
    refine (be32_any u N w hs hlt).mono ?_
    rintro e' w' ⟨rfl, hf⟩
    refine Ans.same H hf (.tuple (.cons ?_ (.cons (.cell (.bool _)) .nil)))
    exact (be32_rel hN hlt).wOf rfl
  · cases he
theorem ans155 (H : HRel σ n0 ι h w) {v u : Value} (hv : VRel σ ι v u) {a : List Int} (ha : natE h v = some a) (he : orAddr h (isC a) = some (tok, h')) : Calls Sang.prog 155 #[u] w (Ans σ n0 ι h w tok h') := by
  obtain ⟨N, hN, hs, hl⟩ := natE_sl H hv ha
  unfold orAddr at he
  split at he
  · rename_i c hc
    split at he
    · rename_i hb
      have h4 := Nat.eq_of_beq_eq_true hb
      subst h4
      simp only [Option.some.injEq, Prod.mk.injEq] at he
      obtain ⟨rfl, rfl⟩ := he
      have hcN := isC_ev (σ := σ) hc
      rw [hN] at hcN
      have : N = 4 := by have : ((N : Nat) : Int) = ((4 : Nat) : Int) := hcN; omega
      subst this
      refine (addrOf4_any u w hs).mono ?_
      rintro e' w' ⟨rfl, hf⟩
      refine Ans.same H hf ?_
      rw [ints_map]
      have e : beN 4 20 = (adNo 4).map byteV := rfl
      rw [e]
      exact .agg (byteV_rel _)
    · cases he
  · cases he
end
end Go.Jv
