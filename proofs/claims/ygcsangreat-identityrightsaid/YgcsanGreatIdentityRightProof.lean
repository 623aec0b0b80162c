/-
  law.IdentityRight: the row.
-/
import Derived.Test.YgcsanGreatRows
import Derived.Test.YgcsanGreatIvZ
import Derived.Test.YgcsanGreatIvR000
import Derived.Test.YgcsanGreatIvR001
import Derived.Test.YgcsanGreatIvR002
import Derived.Test.YgcsanGreatIvR010
import Derived.Test.YgcsanGreatIvR011
import Derived.Test.YgcsanGreatIvR012
import Derived.Test.YgcsanGreatIvR100
import Derived.Test.YgcsanGreatIvR101
import Derived.Test.YgcsanGreatIvR102
import Derived.Test.YgcsanGreatIvR110
import Derived.Test.YgcsanGreatIvR111
import Derived.Test.YgcsanGreatIvR112
import Derived.Test.YgcsanGreatIvR200
import Derived.Test.YgcsanGreatIvR201
import Derived.Test.YgcsanGreatIvR202
import Derived.Test.YgcsanGreatIvR210
import Derived.Test.YgcsanGreatIvR211
import Derived.Test.YgcsanGreatIvR212
import Derived.Test.YgcsanGreatIvR300
import Derived.Test.YgcsanGreatIvR301
import Derived.Test.YgcsanGreatIvR302
import Derived.Test.YgcsanGreatIvR310
import Derived.Test.YgcsanGreatIvR311
import Derived.Test.YgcsanGreatIvR312
import Derived.Test.YgcsanGreatIvR400
import Derived.Test.YgcsanGreatIvR401
import Derived.Test.YgcsanGreatIvR402
import Derived.Test.YgcsanGreatIvR410
import Derived.Test.YgcsanGreatIvR411
import Derived.Test.YgcsanGreatIvR412
import Derived.WalkKit
import Derived.ProofKit
import Derived.OpenShut
import Derived.ShutString
import Derived.ChangeOld
import Derived.Below
namespace Go.Proofs.YgcsanGreat.identityRight
open Go.ChangeShapes Go.WideShapes Go.ChangeAt Go.RowKit
open Go.ChangeMaps (open_string shut_string)
set_option linter.unusedVariables false

theorem own : ownKnob Sang.prog.godebug = none := by kernel_rfl
theorem laidOut : laidOutB Sang.prog = true := by kernel_rfl

/-- a slice of integers that came in -/
def IsRow (k : IntKind) (w : World) (a : Option Addr) (len cap : Nat) (zs : List Int) : Prop :=
  (a = none ∧ len = 0 ∧ cap = 0 ∧ zs = []) ∨
  ∃ x, a = some x ∧ len ≤ cap ∧ cap ≤ maxLen ∧ zs.length = cap ∧ (∀ i, i < zs.length → w.cell? (x.add i) = some (.int k (zs.getD i 0))) ∧ ∀ n ∈ zs, (Lit.int k n).wf = true

theorem wf_u8 {n : Int} (h : (Lit.int .u8 n).wf = true) : 0 ≤ n ∧ n < 256 := by
  simp [Lit.wf] at h
  have e1 : IntKind.u8.min = 0 := rfl
  have e2 : IntKind.u8.max = 255 := rfl
  omega

theorem row_sl {w : World} {a : Option Addr} {len cap : Nat} {zs : List Int} (h : IsRow .u8 w a len cap zs) : (∃ I : List Nat, Sl w .u8 (.slice a len cap) I ∧ Dg 256 I) ∧ (a = none → cap = 0) := by
  rcases h with ⟨rfl, rfl, rfl, rfl⟩ | ⟨x, rfl, hl, hm, hz, hc, hw⟩
  · exact ⟨⟨[], Sl.nil _ _, Dg.nil _⟩, fun _ => rfl⟩
  · refine ⟨?_, fun h => by cases h⟩
    have e : ((zs.take len).map Int.toNat).length = len := by simp; omega
    refine ⟨(zs.take len).map Int.toNat, ⟨some x, cap, by rw [e], by omega, hm, ?_⟩, ?_⟩
    · by_cases h0 : len = 0
      · left
        exact List.eq_nil_of_length_eq_zero (by rw [e]; exact h0)
      · right
        obtain ⟨b, off, spot⟩ := x
        have g0 := hc 0 (by omega)
        have hspot : spot = none := by simpa [Addr.add] using World.cell?_spot g0
        subst hspot
        refine ⟨b, off, rfl, fun i hi => ?_⟩
        rw [e] at hi
        have g := hc i (by omega)
        have ea : (⟨b, off, none⟩ : Addr).add i = ⟨b, off + i, none⟩ := by unfold Addr.add; split <;> simp_all
        rw [ea] at g
        rw [g]
        have hzi : i < zs.length := by omega
        have hn := wf_u8 (hw (zs.getD i 0) (by simp [List.getD, hzi]))
        have : (((zs.take len).map Int.toNat).getD i 0 : Int) = zs.getD i 0 := by
          simp only [List.getD, List.getElem?_map, List.getElem?_take, if_pos hi]
          simp only [List.getD] at hn
          rw [List.getElem?_eq_getElem hzi] at hn ⊢
          simp at hn ⊢
          omega
        rw [this]
    · intro d hd
      obtain ⟨n, hn, rfl⟩ := List.mem_map.1 hd
      have := wf_u8 (hw n (List.mem_of_mem_take hn))
      omega

/-- all the runs -/
theorem runs : Go.Iv.Runs := by
  intro k v d hk hd
  have h3 : ∀ k v, (∀ d, d = 0 ∨ d = 1 ∨ d = 2 → Go.Iv.run4 Sang.prog Sang.f4 k v d = true) → Go.Iv.run4 Sang.prog Sang.f4 k v d = true := fun k v h => h d (by omega)
  have h5 : k = 0 ∨ k = 1 ∨ k = 2 ∨ k = 3 ∨ k = 4 := by omega
  apply h3
  rcases h5 with rfl | rfl | rfl | rfl | rfl <;> cases v
  · rintro d (rfl | rfl | rfl)
    · exact Go.Iv.run4_000
    · exact Go.Iv.run4_001
    · exact Go.Iv.run4_002
  · rintro d (rfl | rfl | rfl)
    · exact Go.Iv.run4_010
    · exact Go.Iv.run4_011
    · exact Go.Iv.run4_012
  · rintro d (rfl | rfl | rfl)
    · exact Go.Iv.run4_100
    · exact Go.Iv.run4_101
    · exact Go.Iv.run4_102
  · rintro d (rfl | rfl | rfl)
    · exact Go.Iv.run4_110
    · exact Go.Iv.run4_111
    · exact Go.Iv.run4_112
  · rintro d (rfl | rfl | rfl)
    · exact Go.Iv.run4_200
    · exact Go.Iv.run4_201
    · exact Go.Iv.run4_202
  · rintro d (rfl | rfl | rfl)
    · exact Go.Iv.run4_210
    · exact Go.Iv.run4_211
    · exact Go.Iv.run4_212
  · rintro d (rfl | rfl | rfl)
    · exact Go.Iv.run4_300
    · exact Go.Iv.run4_301
    · exact Go.Iv.run4_302
  · rintro d (rfl | rfl | rfl)
    · exact Go.Iv.run4_310
    · exact Go.Iv.run4_311
    · exact Go.Iv.run4_312
  · rintro d (rfl | rfl | rfl)
    · exact Go.Iv.run4_400
    · exact Go.Iv.run4_401
    · exact Go.Iv.run4_402
  · rintro d (rfl | rfl | rfl)
    · exact Go.Iv.run4_410
    · exact Go.Iv.run4_411
    · exact Go.Iv.run4_412

theorem walk (a0 : Int) (a1 : Int) (a2 : Option Addr) (len2 cap2 : Nat) (z2 : List Int) (w : World) (w0 : (Lit.int .u8 a0).wf = true) (w1 : (Lit.int .u8 a1).wf = true) (w2 : IsRow .u8 w a2 len2 cap2 z2) :
    Calls Sang.prog 4 #[.int .u8 a0, .int .u8 a1, .slice a2 len2 cap2] w fun e w' => e = .returned (.bool true) ∧ Below w.heap.size w w' := by
  obtain ⟨⟨I, hS, hD⟩, hn⟩ := row_sl w2
  obtain ⟨h0, h1⟩ := wf_u8 w0
  obtain ⟨g0, g1⟩ := wf_u8 w1
  obtain ⟨kind, rfl⟩ : ∃ kind : Nat, a0 = (kind : Int) := ⟨a0.toNat, by omega⟩
  obtain ⟨v, rfl⟩ : ∃ v : Nat, a1 = (v : Int) := ⟨a1.toNat, by omega⟩
  exact Go.Iv.walk4 runs kind v (by omega) (by omega) a2 len2 cap2 I w hS hD hn

set_option maxRecDepth 100000 in
theorem lifted (os : Os) (started : os.Started) (H : Type) (enc : TypeId × Value → H) :
    ReturnsInHanded {} Sang.checked os 4 .any (Rows.identityRightSpec.pre6 enc Sang.prog Sang.f4 Rows.identityRightRow.domain false) (Rows.identityRightSpec.post enc Sang.prog Sang.f4 false true false false) := by
  refine returnsInHanded_of_change (C := Sang.checked) own started (by kernel_rfl) Sang.func4
    (ChangeSpec.witness6 (enc := enc) (C := Sang.checked) false ⟨#[], #[.int .u8 0, .int .u8 0, .slice none 0 0], []⟩ 8 (by kernel_rfl) (by kernel_rfl) (by kernel_rfl) (by kernel_rfl)) ?_
  intro W base args ds gs before hval0 hW hcnd _
  have hval : ∀ (j : Nat) t v, Sang.f4.params[j]? = some t → args[j]? = some v → Value.okWide Sang.prog W .any base t v := hval0
  have hW' := hW
  obtain ⟨p, q, hA0, hV, rfl, hfz, hnd⟩ := hW
  have hA : DataW.TrodAll enc Sang.prog W 0 (fun _ => true) true Sang.f4.params.toList args.toList ds p := hA0
  rw [Sang.params4] at hA hval
  obtain ⟨v0, vs0, d0, ds0, p0, q0, hargs, rfl, rfl, h0, r0⟩ := trodAll_cons hA
  obtain ⟨v1, vs1, d1, ds1, p1, q1, rfl, rfl, rfl, h1, r1⟩ := trodAll_cons r0
  obtain ⟨v2, vs2, d2, ds2, p2, q2, rfl, rfl, rfl, h2, r2⟩ := trodAll_cons r1
  obtain ⟨rfl, rfl, rfl⟩ := trodAll_nil r2
  obtain rfl : args = #[v0, v1, v2] := by cases args; simp_all
  obtain ⟨rfl, rfl⟩ := trodVars_none hV
  obtain ⟨a0, rfl, rfl, rfl, w0⟩ := open_int Sang.underlying5 (hval 0 5 v0 rfl rfl) h0
  obtain ⟨a1, rfl, rfl, rfl, w1⟩ := open_int Sang.underlying5 (hval 1 5 v1 rfl rfl) h1
  obtain ⟨a2, len2, cap2, rfl⟩ := okWide_slice Sang.underlying27 (hval 2 27 v2 rfl rfl)
  have k2 := h2
  have lt2 : ∀ x ∈ p2, x.block < W.heap.size := by obtain ⟨m, hm⟩ := k2; exact DataW.trod_lt m _ _ _ hm
  obtain ⟨z2, w2⟩ : ∃ zs, IsRow .u8 W a2 len2 cap2 zs := by
    obtain ⟨fuel, hf⟩ := h2
    rcases open_ints Sang.underlying27 Sang.underlying5 (by kernel_rfl) hf with ⟨hcs, _⟩ | ⟨x, l, c, zs, hcs, _, hl, hm, hz, _, hcell, hwz⟩
    · simp [Value.cells] at hcs
      obtain ⟨rfl, rfl, rfl⟩ := hcs
      exact ⟨[], .inl ⟨rfl, rfl, rfl, rfl⟩⟩
    · simp [Value.cells] at hcs
      obtain ⟨rfl, rfl, rfl⟩ := hcs
      exact ⟨zs, .inr ⟨_, rfl, hl, hm, by simpa using hz, hcell, hwz⟩⟩
  clear hA0 hval0
  refine (walk a0 a1 a2 len2 cap2 z2 W w0 w1 w2).mono fun e W' ⟨he, bel⟩ => ?_
  subst he
  exact ⟨_, rfl, _, _, _, [], _, [], hW', trodAll_mk1 (shut_bool Sang.underlying4 _), (trodAll_cons_mk (shut_int Sang.underlying5 w0) (trodAll_cons_mk (shut_int Sang.underlying5 w1) (trodAll_cons_mk (Below.trod laidOut (by kernel_rfl) (of_decide_eq_true (by kernel_rfl)) k2 bel lt2) trodAll_mk0))), rfl, bel.frame _, fun h => by cases h⟩

theorem over : Rows.identityRightRow.holds Sang.pinned (OpenSpec.ofChange Rows.identityRightSpec) :=
  OpenClaim.holds_of_wide 4 Sang.f4 rfl rfl rfl rfl rfl rfl rfl ⟨rfl, rfl, rfl, rfl, rfl⟩ rfl rfl rfl rfl rfl (by kernel_rfl) Sang.func4 (by kernel_rfl)
    (of_decide_eq_true (by kernel_rfl)) (by unfold Func.isWrapper; first | (rw [if_pos (by decide +kernel)]; kernel_rfl) | (rw [if_neg (by decide +kernel)]; exact ⟨rfl, rfl⟩))
    (fun os started H enc _ => lifted os started H enc)

/-- THE STATEMENT -/
theorem proved : Rows.IdentityRightSaid := over
end Go.Proofs.YgcsanGreat.identityRight
