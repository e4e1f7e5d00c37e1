/- An array of two strings among the arguments, opened. -/
import Derived.OpenShut
import Derived.WideShapes
import Derived.ChangeArms
import Derived.ProofKit
namespace Go.Proofs.YtffalfonmooinaaDoor
open Go Go.ChangeShapes Go.WideShapes Go.ChangeAt Go.RowKit
set_option linter.unusedVariables false
set_option linter.unusedSimpArgs false
theorem open_strs2 {H : Type} {enc : TypeId × Value → H} {P : Program} {w : World} {base b0 : Nat} {spare : Nat → Bool} {held : Bool} {r : Reach} {t e : TypeId} {v : Value} {d : DataW H} {p : List MemPlace}
    (ht : P.underlying t = some (.array 2 e)) (he : P.underlying e = some .string) (hce : P.cellsOf e = 1) (hct : P.cellsOf t = 2)
    (hv : Value.okWide P w r b0 t v) (h : DataW.Trod enc P w base spare held t v d p) : ∃ x y : ByteArray, v = .agg #[.string x, .string y] := by
  have hv' := hv
  simp only [Value.okWide, ht] at hv'
  obtain ⟨cs, rfl, hsz, _⟩ := hv'
  obtain ⟨fuel, hf⟩ := h
  obtain ⟨xs, m, _, _, hlen, hn, hel⟩ := DataW.trod_array ht hf
  rw [hce] at hel
  have h0 := hel 0 (by omega)
  have h1 := hel 1 (by omega)
  rw [List.getElem?_eq_getElem (by omega)] at h0 h1
  obtain ⟨x, hx, _⟩ := DataW.trod_string he h0
  obtain ⟨y, hy, _⟩ := DataW.trod_string he h1
  refine ⟨x, y, ?_⟩
  have hl : cs.toList.length = 2 := by rw [Array.length_toList, hsz, hct]
  congr 1
  apply Array.toList_inj.1
  simp only [Value.cells] at hx hy
  match hcs : cs.toList, hl with
  | [a, b], _ =>
    rw [hcs] at hx hy
    simp at hx hy
    rw [hx, hy]
end Go.Proofs.YtffalfonmooinaaDoor
