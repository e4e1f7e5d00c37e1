/- pick and NumberFrom, over plain numbers. -/
import Derived.Test.YtffalfonmooinaaDoorPr1
import Derived.Test.YtffalfonmooinaaDoorReads
namespace Go.Proofs.YtffalfonmooinaaDoor
open Go.RowKit Go.Proofs.YtffalfonmooinaaDoor.Pr Go.Proofs.YtffalfonmooinaaDoorW.PrintWords Go.Proofs.YtffalfonmooinaaDoorW.PrintLast Go.Proofs.YtffalfonmooinaaDoorW.PrintMore
set_option linter.unusedVariables false
set_option linter.unusedSimpArgs false

theorem wf_i64 {x : Int} (h : (Lit.int .i64 x).wf = true) : -9223372036854775808 ≤ x ∧ x ≤ 9223372036854775807 := by
  simpa [Lit.wf, IntKind.min, IntKind.max, IntKind.signed, IntKind.bits] using h
theorem pick_some (c n : Int) (h0 : -9223372036854775808 ≤ c) (h1 : c ≤ 9223372036854775807) (hn : 1 ≤ n) : ∃ r, yardsticklaw01_pick.f c n = some r ∧ 0 ≤ r ∧ r < n := by
  unfold yardsticklaw01_pick.f
  have key : ∀ m : Int, 0 ≤ m → 0 ≤ Int.tmod m n ∧ Int.tmod m n < n := fun m hm => ⟨Int.tmod_nonneg _ hm, Int.tmod_lt_of_pos _ (by omega)⟩
  by_cases hc : c < 0
  · rw [if_pos hc, if_neg (by omega)]
    have e : wrap64 (-(wrap64 (c + 1))) = -(c + 1) := by unfold wrap64; omega
    rw [e]
    exact ⟨_, rfl, key _ (by omega)⟩
  · rw [if_neg hc, if_neg (by omega)]
    exact ⟨_, rfl, key _ (by omega)⟩
theorem number_some (c : Int) (h : (Lit.int .i64 c).wf = true) : ∃ x, yardsticklaw01_NumberFrom.f c = some x ∧ Fits x := by
  obtain ⟨h0, h1⟩ := wf_i64 h
  obtain ⟨r1, e1, p1, q1⟩ := pick_some c 4611686018427387904 h0 h1 (by omega)
  obtain ⟨r2, e2, p2, q2⟩ := pick_some c 8 h0 h1 (by omega)
  obtain ⟨r4, e4, p4, q4⟩ := pick_some c 16 h0 h1 (by omega)
  have hr : ∃ m, rd [64, 128, 8192, 16384, 1073741824, 36028797018963968, 576460752303423488, 2] r2 = m ∧ 1 ≤ m ∧ m ≤ 576460752303423488 := by
    refine ⟨_, rfl, ?_⟩
    obtain rfl | rfl | rfl | rfl | rfl | rfl | rfl | rfl : r2 = 0 ∨ r2 = 1 ∨ r2 = 2 ∨ r2 = 3 ∨ r2 = 4 ∨ r2 = 5 ∨ r2 = 6 ∨ r2 = 7 := by omega
    all_goals decide
  obtain ⟨m, em, pm, qm⟩ := hr
  have ht : wrap64 (Int.tdiv r1 8) = r1 / 8 := by
    rw [Int.tdiv_eq_ediv_of_nonneg p1]
    exact IntWalk.wrap64_in _ (by omega)
  obtain ⟨r3, e3, p3, q3⟩ := pick_some (r1 / 8) m (by omega) (by omega) pm
  unfold yardsticklaw01_NumberFrom.f
  rw [e1]
  simp only [Option.bind_some]
  rw [e2]
  simp only [Option.bind_some]
  rw [if_pos p2, if_pos (by simp; omega), ht, em, e3]
  simp only [Option.bind_some]
  rw [e4]
  simp only [Option.bind_some]
  by_cases h8 : r4 ≥ 8
  · rw [if_pos h8]
    refine ⟨_, rfl, ?_⟩
    rw [IntWalk.wrap64_in _ (by omega)]
    exact ⟨by omega, by omega⟩
  · rw [if_neg h8]
    exact ⟨_, rfl, by omega, by omega⟩
theorem toList_inj {s t : ByteArray} (h : s.toList = t.toList) : s = t := by
  rw [ByteArray.toList_eq, ByteArray.toList_eq] at h
  exact ByteArray.ext (Array.toList_inj.1 h)
theorem min_nat (s : ByteArray) (n : Nat) : mn (s.size : Int) (n : Int) = ((min s.size n : Nat) : Int) := by
  unfold mn
  split <;> omega
end Go.Proofs.YtffalfonmooinaaDoor
