/- The fixed examples of the wire laws (sane): they all hold. -/
import Derived.Test.YtffalfonmooinaaDoorPa1
import Derived.Outline
namespace Go.Proofs.YtffalfonmooinaaDoor
open Go.RowKit Go.Proofs.YtffalfonmooinaaDoorW.PrintWords Go.Proofs.YtffalfonmooinaaDoorW.PrintLast Go.Proofs.YtffalfonmooinaaDoorW.PrintMore
set_option linter.unusedVariables false
set_option linter.unusedSimpArgs false

theorem s1 : wire_PutInt.f (-64) = some (⟨#[127]⟩, 0) := by kernel_rfl
theorem s2 : wire_PutInt.f 64 = some (⟨#[128, 1]⟩, 0) := by kernel_rfl
theorem s3 : Pa.wire_Int.f 20 ⟨#[97, 172, 2, 98]⟩ 1 = some (150, 3, 0) := by kernel_rfl
theorem s4 : Pa.wire_Int.f 20 ⟨#[128, 0]⟩ 0 = some (0, 0, 10) := by kernel_rfl
theorem s5 : Pa.wire_PutString.f ⟨#[97, 98]⟩ = some (⟨#[4, 97, 98]⟩, 0) := by kernel_rfl
theorem s6 : Pa.wire_String.f 20 ⟨#[4, 97, 98, 99]⟩ 0 = some (⟨#[97, 98]⟩, 3, 0) := by kernel_rfl
theorem s7 : Pa.wire_String.f 20 ⟨#[4, 97]⟩ 0 = some (⟨#[]⟩, 0, 10) := by kernel_rfl
theorem s8 : wire_PutInt.f 4611686018427387904 = some (⟨#[]⟩, 10) := by kernel_rfl
theorem s9 : Pa.wire_Int.f 20 ⟨#[]⟩ 1 = some (0, 0, 2) := by kernel_rfl
theorem s10 : wire_Sum.f ⟨#[49, 50, 51, 52, 53, 54, 55, 56, 57]⟩ = some 3808858755 := by kernel_rfl

def sane.f : Option Bool := some true

set_option maxRecDepth 100000 in
set_option maxHeartbeats 4000000 in
theorem sane.calls (r : Bool) (w : World) (HG : Aside0 (Laid w)) (h : sane.f = some r) :
    Calls Tryd.prog 10 #[] w fun e w' => e = .returned (.bool r) ∧ Below w.heap.size w w' := by
  obtain rfl := Option.some.inj h
  clear h
  go_enter Tryd.func10, Tryd.ntmps10
  have HB := Aside0.mk (Below.refl w.heap.size w)
  go_upto_region 11 with (first
    | (go_at_call 12; with_reducible refine (wire_PutInt.calls (-64) ⟨#[127]⟩ 0 _ s1).mono ?_; rintro e w1 ⟨rfl, hb⟩; have n0 := Aside0.mk (below_step (by repeat (first | with_reducible exact HB.out | apply pw_below_drewN)) hb); clear HB; have HB := n0; clear n0 hb)
    | (go_at_call 12; with_reducible refine (wire_PutInt.calls 64 ⟨#[128, 1]⟩ 0 _ s2).mono ?_; rintro e w1 ⟨rfl, hb⟩; have n0 := Aside0.mk (below_step (by repeat (first | with_reducible exact HB.out | apply pw_below_drewN)) hb); clear HB; have HB := n0; clear n0 hb)
    | (go_at_call 12; with_reducible refine (wire_PutInt.calls 4611686018427387904 ⟨#[]⟩ 10 _ s8).mono ?_; rintro e w1 ⟨rfl, hb⟩; have n0 := Aside0.mk (below_step (by repeat (first | with_reducible exact HB.out | apply pw_below_drewN)) hb); clear HB; have HB := n0; clear n0 hb)
    | (go_at_call 19; with_reducible refine (Pa.wire_PutString.calls ⟨#[97, 98]⟩ ⟨#[4, 97, 98]⟩ 0 _ s5).mono ?_; rintro e w1 ⟨rfl, hb⟩; have n0 := Aside0.mk (below_step (by repeat (first | with_reducible exact HB.out | apply pw_below_drewN)) hb); clear HB; have HB := n0; clear n0 hb)
    | (go_at_call 15; with_reducible refine (Pa.wire_Int.calls 20 ⟨#[97, 172, 2, 98]⟩ 1 150 3 0 _ s3).mono ?_; rintro e w1 ⟨rfl, ⟨n, rfl⟩⟩)
    | (go_at_call 15; with_reducible refine (Pa.wire_Int.calls 20 ⟨#[128, 0]⟩ 0 0 0 10 _ s4).mono ?_; rintro e w1 ⟨rfl, ⟨n, rfl⟩⟩)
    | (go_at_call 15; with_reducible refine (Pa.wire_Int.calls 20 ⟨#[]⟩ 1 0 0 2 _ s9).mono ?_; rintro e w1 ⟨rfl, ⟨n, rfl⟩⟩)
    | (go_at_call 17; with_reducible refine (Pa.wire_String.calls 20 ⟨#[4, 97, 98, 99]⟩ 0 ⟨#[97, 98]⟩ 3 0 _ s6).mono ?_; rintro e w1 ⟨rfl, ⟨n, rfl⟩⟩)
    | (go_at_call 17; with_reducible refine (Pa.wire_String.calls 20 ⟨#[4, 97]⟩ 0 ⟨#[]⟩ 0 10 _ s7).mono ?_; rintro e w1 ⟨rfl, ⟨n, rfl⟩⟩))
  go_wp2_with (go_at_call 21; with_reducible refine (wire_Sum.calls ⟨#[49, 50, 51, 52, 53, 54, 55, 56, 57]⟩ 3808858755 _ ?side1 s10).mono ?_; (case side1 => exact Aside0.mk (HG.out.below (by repeat (first | with_reducible exact HB.out | apply pw_below_drewN)))); rintro e w1 ⟨rfl, hb⟩; have n0 := Aside0.mk (below_step (by repeat (first | with_reducible exact HB.out | apply pw_below_drewN)) hb); clear HB; have HB := n0; clear n0 hb)
  go_ret
  exact ⟨rfl, by repeat (first | with_reducible exact HB.out | apply pw_below_drewN)⟩
end Go.Proofs.YtffalfonmooinaaDoor
