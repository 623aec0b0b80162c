/-
  An array of bytes that came in by value, opened.
-/
import Derived.Test.YgcsanBase
import Derived.Test.YgcsanPlain
import Derived.Test.YgcsanRows
import Derived.ProofKit
import Derived.OpenShut
import Derived.ShutString
import Derived.ChangeOld
namespace Go.Proofs.Ygcsan
open Go.ChangeShapes Go.WideShapes Go.ChangeAt Go.RowKit
set_option linter.unusedVariables false
set_option linter.unusedSimpArgs false

theorem open_bytes {H : Type} {enc : TypeId × Value → H} {P : Program} {W : World} {base b : Nat} {spare : Nat → Bool} {held : Bool} {n : Nat} {t e : TypeId} {v : Value} {d : DataW H} {p : List MemPlace}
    (ht : P.underlying t = some (.array n e)) (he : P.underlying e = some (.int .u8)) (hc : P.cellsOf t = n) (hce : P.cellsOf e = 1) (hv : Value.okWide P W .any base t v) (h : DataW.Trod enc P W b spare held t v d p) :
    ∃ L : List Nat, v = .agg (ints .u8 L) ∧ L.length = n ∧ Dg 256 L := by
  obtain ⟨cs, rfl, hsz, -⟩ : ∃ cs, v = .agg cs ∧ cs.size = P.cellsOf t ∧ Row.okWide P W .any base t cs := by
    simpa [Value.okWide, ht] using hv
  obtain ⟨fuel, hf⟩ := h
  obtain ⟨xs, m, rfl, hx, hl, hxl, hy⟩ := DataW.trod_array ht hf
  rw [hc] at hsz
  have hcell : ∀ i, i < n → ∃ x : Nat, x < 256 ∧ cs[i]? = some (.int .u8 (x : Int)) := by
    intro i hi
    have h1 := hy i hi
    rw [hce, Nat.mul_one, List.getElem?_eq_getElem (by omega)] at h1
    obtain ⟨x0, e0, -, w0⟩ := DataW.trod_int he h1
    have hb : 0 ≤ x0 ∧ x0 ≤ 255 := by
      simpa [Lit.wf, IntKind.min, IntKind.max, IntKind.signed, IntKind.bits] using w0
    have hi' : i < cs.toList.length := by simp [hsz, hi]
    have h2 : (Value.agg cs).cells.toList = cs.toList := rfl
    rw [h2, List.drop_eq_getElem_cons hi', List.take_succ_cons] at e0
    have h3 : cs.toList[i] = .int .u8 x0 := (List.cons.inj e0).1
    refine ⟨x0.toNat, by omega, ?_⟩
    have h4 : ((x0.toNat : Nat) : Int) = x0 := by omega
    rw [h4, ← h3]
    simp [show i < cs.size by omega]
  refine ⟨cs.toList.map fun | .int _ x => x.toNat | _ => 0, ?_, by simp [hsz], ?_⟩
  · congr 1
    apply Array.ext
    · simp [ints]
    · intro i h1 h2
      obtain ⟨x, hx, hcx⟩ := hcell i (by omega)
      have h3 : cs[i] = .int .u8 (x : Int) := by
        have := Array.getElem?_eq_getElem h1
        rw [this] at hcx
        exact Option.some.inj hcx
      simp [ints, h3]
  · intro x hx
    obtain ⟨v, hv, rfl⟩ := List.mem_map.1 hx
    obtain ⟨i, hi, rfl⟩ := List.getElem_of_mem hv
    obtain ⟨x, hx, hcx⟩ := hcell i (by simp at hi; omega)
    have h3 : cs.toList[i] = .int .u8 (x : Int) := by
      have := Array.getElem?_eq_getElem (xs := cs) (i := i) (by simpa using hi)
      rw [this] at hcx
      simpa using Option.some.inj hcx
    rw [h3]
    simpa using hx
end Go.Proofs.Ygcsan
