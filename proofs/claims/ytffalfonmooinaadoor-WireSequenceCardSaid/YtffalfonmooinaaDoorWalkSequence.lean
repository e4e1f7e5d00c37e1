/- The walk of WireSequence: the call answers true. -/
import Derived.Test.YtffalfonmooinaaDoorPureWireSequence
import Derived.Test.YtffalfonmooinaaDoorShapes
namespace Go.Proofs.YtffalfonmooinaaDoor
open Go Go.RowKit Go.Proofs.YtffalfonmooinaaDoorW.PrintWords
set_option linter.unusedVariables false
set_option linter.unusedSimpArgs false
theorem walkSequence (a0 : Option Addr) (len0 cap0 : Nat) (z0 : List Int) (a1 : Option Addr) (len1 cap1 : Nat) (z1 : List ByteArray) (w : World) (HG : Aside0 (Laid w)) (w0 : IntsAt w a0 len0 cap0 z0) (w1 : StrsAt w a1 len1 cap1 z1) :
    Calls Tryd.prog 6 #[.slice a0 len0 cap0, .slice a1 len1 cap1] w fun e w' => e = .returned (.bool true) ∧ Below w.heap.size w w' := by
  obtain ⟨l0, rfl, hr0, hm0, hw0, hc0⟩ := w0.reads
  obtain ⟨l1, rfl, hr1, hm1, hw1, hc1⟩ := w1.reads
  unfold maxLen at hm0 hm1
  obtain ⟨k, h⟩ := Pure.WireSequence l0 l1 hw0 (by omega) (by omega)
  exact Pr.yardsticklaw01_WireSequence.calls k a0 cap0 l0 a1 cap1 l1 true w HG hr0 hc0 hr1 hc1 h
end Go.Proofs.YtffalfonmooinaaDoor
