/-
  law.IdentityRight: every input is one of the runs.
-/
import Derived.Test.YgcsanGreatIvY
namespace Go.Iv
open Go Go.Proofs Go.RowKit
open Go.Proofs.YgcsanGreat (Sl Dg)
set_option linter.unusedVariables false
set_option linter.unusedSimpArgs false

/-! ### the unknowns -/
def xsO (W r y v S s : Nat) : List Nat := [1, W, r, y, v, S, s, (169875 + 4 * r - 134 * W - 12 * y - s) / 64, (178875 + 4 * r - 134 * W - 12 * y - s) / 64, (178878 + 4 * r - 134 * W - 12 * y - s) / 64, (21015 + 131 * W + 12 * y - 4 * r) / 5, (21152 + 140 * W + 12 * y + s - 4 * r) / 5, (21155 + 140 * W + 12 * y + s - 4 * r) / 5, (27855 + 140 * W + 12 * y + s - 4 * r) / 5]
def xsOf (n y v : Nat) : List Nat := xsO ((n + 31) / 32) (32 * ((n + 31) / 32) - n) y v ((n + 31) / 32 * ((n + 31) / 32)) ((n + 31) / 32 * ((n + 31) / 32) / 512)
section
variable {W r y v S s : Nat}
theorem xsO_okb (w1 : 1 ≤ W) (w2 : W ≤ 32) (r2 : r ≤ 31) (y2 : y ≤ 1024) (v1 : 1 ≤ v) (v2 : v ≤ 255) (s1 : 1 ≤ S) (s2 : S ≤ 1024) (t : s = S / 512) : okB (xsO W r y v S s) bnds := by
  simp only [xsO, bnds, okB]
  subst t
  refine ⟨by omega, by omega, w1, w2, by omega, r2, by omega, y2, v1, v2, s1, s2, by omega, by omega, ?_⟩
  refine ⟨?_, ?_, ?_, ?_, ?_, ?_, ?_, ?_, ?_, ?_, ?_, ?_, ?_, ?_, trivial⟩ <;> omega
theorem xsO_okq (w1 : 1 ≤ W) (w2 : W ≤ 32) (r2 : r ≤ 31) (y2 : y ≤ 1024) (s1 : 1 ≤ S) (s2 : S ≤ 1024) (t : s = S / 512) : okQ (xsO W r y v S s) quos := by
  simp only [xsO, quos, okQ, evL]
  subst t
  refine ⟨⟨?_, by decide⟩, ⟨?_, by decide⟩, ⟨?_, by decide⟩, ⟨?_, by decide⟩, ⟨?_, by decide⟩, ⟨?_, by decide⟩, ⟨?_, by decide⟩, ⟨?_, by decide⟩, trivial⟩ <;> omega
end
theorem width {n : Nat} (h1 : 1 ≤ n) (h2 : n ≤ 1024) : 1 ≤ (n + 31) / 32 ∧ (n + 31) / 32 ≤ 32 ∧ 32 * ((n + 31) / 32) - n ≤ 31 ∧ n ≤ 32 * ((n + 31) / 32) := by omega
theorem square {W : Nat} (h1 : 1 ≤ W) (h2 : W ≤ 32) : 1 ≤ W * W ∧ W * W ≤ 1024 := ⟨Nat.mul_le_mul h1 h1, Nat.mul_le_mul h2 h2⟩
/-- the unknowns at these data -/
def vaOf (D : List Nat) (v : Nat) (arg : Value) (old : Nat → Option Obj) (h1 : 1 ≤ D.length) (h2 : D.length ≤ 1024) (hd : ∀ x, x ∈ D → x < 256) (v1 : 1 ≤ v) (v2 : v ≤ 255) : Va where
  xs := xsOf D.length (D.countP (fun x => x != 0)) v
  data := D
  arg := arg
  old := old
  okb := by
    obtain ⟨a, b, c, d⟩ := width h1 h2
    obtain ⟨e, f⟩ := square a b
    exact xsO_okb a b c (Nat.le_trans List.countP_le_length h2) v1 v2 e f rfl
  okq := by
    obtain ⟨a, b, c, d⟩ := width h1 h2
    obtain ⟨e, f⟩ := square a b
    exact xsO_okq a b c (Nat.le_trans List.countP_le_length h2) e f rfl
  oks := by
    simp only [xsOf, xsO, evL, Int.zero_mul, Int.zero_add, Int.one_mul, Int.add_zero, Int.natCast_mul]
  okl := by
    obtain ⟨a, b, c, d⟩ := width h1 h2
    simp only [dataLen, xsOf, xsO, evL]
    omega
  oky := by
    simp only [xsOf, xsO, evL]
    omega
  okd := hd

/-! ### one run -/
theorem mixed : Sang.prog.follows .mixedOrders = true := by kernel_rfl
theorem ok4_some {r : Res} (h : ok4 r = true) : ∃ ex a h', r = some (ex, a, h') ∧ (ex = .normal ∨ ex = .ret) ∧ Ac.eval a (.tmp 6) = .bool true := by
  unfold ok4 at h
  split at h
  · exact ⟨_, _, _, rfl, .inl rfl, beqV_eq h⟩
  · exact ⟨_, _, _, rfl, .inr rfl, beqV_eq h⟩
  · cases h

theorem tail4 {k : Nat} {v : Bool} {d : Nat} (hrun : run4 Sang.prog Sang.f4 k v d = true) (σ : Va) (w : World) (hold : ∀ b o, σ.old b = some o → b < w.heap.size ∧ w.heap[b]? = some o) {uv ud : Value}
    (hv : VRel σ (fun _ => none) (valOf v) uv) (hd : VRel σ (fun _ => none) (dataOf d) ud) (t12 t13 t14 t15 t16 t17 t18 : Value) :
    (tailOf Sang.f4).wp Sang.prog (bodyPost Sang.prog Sang.f4 fun e w' => e = .returned (.bool true) ∧ Below w.heap.size w w') { tmps := (frame4 (.int .u8 (k : Int)) uv ud t12 t13 t14 t15 t16 t17 t18).toArray ++ Array.replicate (51 - 19) undef, defers := [] } w := by
  unfold run4 at hrun
  cases ht : fromList (start4 k (valOf v) (dataOf d)) 0 .nil with
  | none => rw [ht] at hrun; simp [from4] at hrun
  | some t =>
    rw [ht] at hrun
    simp only [from4] at hrun
    obtain ⟨ex, a', h', he, hex, hval⟩ := ok4_some hrun
    obtain ⟨m, hev⟩ := fCode_some _ _ _ _ _ he
    have hus : All2 (VRel σ fun _ => none) (start4 k (valOf v) (dataOf d)) (frame4 (.int .u8 (k : Int)) uv ud t12 t13 t14 t15 t16 t17 t18) :=
      .cons (.cell (.int _ _)) (.cons hv (.cons hd (.cons .undef (.cons .undef (.cons .undef (.cons (.cell (.bool _)) (.cons .undef (.cons .undef (.cons .undef (.cons .undef (.cons .undef (.cons (.top _) (.cons (.top _) (.cons (.top _) (.cons (.top _) (.cons (.top _) (.cons (.top _) (.cons (.top _) .nil))))))))))))))))))
    refine evCode_wp (fCall_ok (fun n0 => orcOk σ n0) mixed 60) mixed m (tailOf Sang.f4) t ⟨0, .nil⟩ _ _ w ex a' h' hev (HRel.first (n0 := 0) hold) (ARel.start (N := 51) (by simp [start4]) hus ht) _ ?_
    rintro act' w' ⟨κ, K1, K2, K3⟩
    have hb : act'.tmps.getD 6 undef = .bool true := by
      have := K2.eval (.tmp 6)
      rw [hval] at this
      exact this.bool
    have hres : (results Sang.f4 act'.tmps).run Sang.prog w' = .ok (.bool true) w' := by
      have e : Sang.f4.results = #[.tmp 6] := by kernel_rfl
      rw [results_eq, e]
      simp [resOne]
      simpa using hb
    have hbel : Below w.heap.size w w' := ⟨K3.os, K3.tape, K3.output, K3.size, fun b hb => K3.frame b hb (fun k p z e => by cases e)⟩
    rcases hex with rfl | rfl
    · exact ⟨K2.defers, _, hres, rfl, hbel⟩
    · exact ⟨K2.defers, _, hres, rfl, hbel⟩

/-! ### every input -/
/-- the runs, all of them -/
def Runs : Prop := ∀ k v d, k < 5 → d < 3 → run4 Sang.prog Sang.f4 k v d = true

theorem val4 (σ : Va) {V : Nat} (hV : V < 256) (hσ : V ≠ 0 → evL [0, 0, 0, 0, 1] σ.xs = (V : Nat)) : VRel σ (fun _ => none) (valOf (decide (V ≠ 0))) (.int .u8 (V : Int)) := by
  by_cases h0 : V = 0
  · subst h0; exact .cell (.int _ _)
  · have e : decide (V ≠ 0) = true := by simpa using h0
    rw [e]
    have h1 := hσ h0
    refine .cell (.tok (.inl ⟨.u8, _, rfl, rfl, ?_⟩))
    rw [List.toList_toArray, decE_encE, h1]
    exact ⟨by omega, by show ((V : Nat) : Int) ≤ (255 : Nat); omega, rfl⟩
theorem vaOf_val (D : List Nat) (v : Nat) (arg : Value) (old : Nat → Option Obj) (h1 : 1 ≤ D.length) (h2 : D.length ≤ 1024) (hd : ∀ x, x ∈ D → x < 256) (v1 : 1 ≤ v) (v2 : v ≤ 255) : evL [0, 0, 0, 0, 1] (vaOf D v arg old h1 h2 hd v1 v2).xs = (v : Nat) := by
  show evL [0, 0, 0, 0, 1] (xsOf D.length (D.countP (fun x => x != 0)) v) = _
  simp only [xsOf, xsO, evL]
  omega

theorem walk4 (hr : Runs) (k0 V : Nat) (hk : k0 < 256) (hV : V < 256) (a : Option Addr) (len cap : Nat) (I : List Nat) (w : World) (hS : Sl w .u8 (.slice a len cap) I) (hD : Dg 256 I) (hnil : a = none → cap = 0) :
    Calls Sang.prog 4 #[.int .u8 (k0 : Int), .int .u8 (V : Int), .slice a len cap] w fun e w' => e = .returned (.bool true) ∧ Below w.heap.size w w' := by
  have hrun : ∀ d, d < 3 → run4 Sang.prog Sang.f4 (k0 % 5) (decide (V ≠ 0)) d = true := fun d hd => hr _ _ _ (Nat.mod_lt _ (by decide)) hd
  have ek : ((k0 : Int) % 5) = ((k0 % 5 : Nat) : Int) := by omega
  obtain ⟨a', cap', e, hl, hm, hc⟩ := hS
  injection e with e1 e2 e3
  subst e1; subst e3
  -- the value, as an unknown
  have hv1 : 1 ≤ max V 1 := Nat.le_max_right _ _
  have hv2 : max V 1 ≤ 255 := by omega
  have hvm : V ≠ 0 → max V 1 = V := fun h => by omega
  -- the data have no byte
  have empty : ∀ (d : Nat), d < 3 → len = 0 → (∀ σ : Va, σ.arg = .slice a 0 cap → VRel σ (fun _ => none) (dataOf d) (.slice a 0 cap)) → Calls Sang.prog 4 #[.int .u8 (k0 : Int), .int .u8 (V : Int), .slice a len cap] w fun e w' => e = .returned (.bool true) ∧ Below w.heap.size w w' := by
    intro d hd h0 hrel
    subst h0
    refine calls_of_wp Sang.func4 body4_eq ?_
    refine head4_le k0 V a 0 cap hk (by decide) (tailOf Sang.f4) _ w ?_
    intro t12 t13 t14 t15 t16 t17 t18
    rw [ek]
    exact tail4 (hrun d hd) (vaOf [0] (max V 1) (.slice a 0 cap) (fun _ => none) (by decide) (by decide) (by simp) hv1 hv2) w (fun b o e => by cases e)
      (val4 _ hV (fun h => by rw [vaOf_val, hvm h])) (hrel _ rfl) t12 t13 t14 t15 t16 t17 t18
  by_cases h0 : len = 0
  · cases a with
    | none =>
      have := hnil rfl
      subst this
      exact empty 1 (by decide) h0 (fun σ _ => .cell (.nils _ _))
    | some a => exact empty 2 (by decide) h0 (fun σ ha => .cell (.tok (.inr (.inr (.inl ⟨.inr ⟨rfl, a, cap, ha, hm⟩, ha.symm⟩)))))
  · have hI : I ≠ [] := fun e => by rw [e] at e2; simp at e2; exact h0 e2
    rcases hc with h | ⟨b, off, rfl, hcell⟩
    · exact absurd h hI
    have hblk : ∃ C T f, w.heap[b]? = some (.cells C T f) ∧ ∀ i, i < I.length → C[off + i]? = some (byteV (I.getD i 0)) := by
      have hc0 := hcell 0 (by have := List.length_pos_iff.2 hI; exact this)
      cases hb : w.heap[b]? with
      | none => simp [World.cell?, hb] at hc0
      | some o =>
        cases o with
        | cells C T f =>
          refine ⟨C, T, f, rfl, fun i hi => ?_⟩
          have := hcell i hi
          simp only [World.cell?, hb] at this
          show C[off + i]? = some (.int .u8 ((I.getD i 0 : Nat) : Int))
          simpa using this
        | _ => simp [World.cell?, hb] at hc0
    obtain ⟨C, T, f, hb, hC⟩ := hblk
    have hlt : b < w.heap.size := (Array.getElem?_eq_some_iff.1 hb).1
    have full : ∀ (n c : Nat), 1 ≤ n → n ≤ 1024 → n ≤ I.length → n ≤ c → c ≤ maxLen → ∀ t12 t13 t14 t15 t16 t17 t18, (tailOf Sang.f4).wp Sang.prog (bodyPost Sang.prog Sang.f4 fun e w' => e = .returned (.bool true) ∧ Below w.heap.size w w')
        { tmps := (frame4 (.int .u8 ((k0 : Int) % 5)) (.int .u8 (V : Int)) (.slice (some ⟨b, off, none⟩) n c) t12 t13 t14 t15 t16 t17 t18).toArray ++ Array.replicate (51 - 19) undef, defers := [] } w := by
      intro n c n1 n2 n3 n4 n5 t12 t13 t14 t15 t16 t17 t18
      rw [ek]
      have hln : (I.take n).length = n := by simp; omega
      refine tail4 (hrun 0 (by decide)) (vaOf (I.take n) (max V 1) (.slice (some ⟨b, off, none⟩) n c) (fun x => w.heap[x]?) (by omega) (by omega) (fun x hx => hD x (List.mem_of_mem_take hx)) hv1 hv2) w (fun x o e => ⟨(Array.getElem?_eq_some_iff.1 e).1, e⟩)
        (val4 _ hV (fun h => by rw [vaOf_val, hvm h])) ?_ t12 t13 t14 t15 t16 t17 t18
      refine .cell (.tok (.inr (.inr (.inl ⟨.inl ⟨rfl, b, off, c, C, T, f, ?_, ?_, n5, hb, ?_⟩, rfl⟩))))
      · show Value.slice _ n c = .slice _ (I.take n).length c
        rw [hln]
      · show (I.take n).length ≤ c
        omega
      · intro i hi
        have hi' : i < n := by have : i < (I.take n).length := hi; omega
        rw [hC i (by omega)]
        congr 2
        show I.getD i 0 = (I.take n).getD i 0
        simp [List.getD, List.getElem?_take, hi']
    refine calls_of_wp Sang.func4 body4_eq ?_
    rcases Nat.lt_or_ge 1024 len with hg | hg
    · refine head4_gt k0 V b off len cap hk (by omega) (by omega) (by unfold maxLen at hm; omega) (tailOf Sang.f4) _ w ?_
      exact full 1024 1024 (by decide) (by decide) (by omega) (by decide) (by unfold maxLen; omega)
    · refine head4_le k0 V (some ⟨b, off, none⟩) len cap hk (by omega) (tailOf Sang.f4) _ w ?_
      exact full len cap (by omega) hg (by omega) (by omega) hm
end Go.Iv
