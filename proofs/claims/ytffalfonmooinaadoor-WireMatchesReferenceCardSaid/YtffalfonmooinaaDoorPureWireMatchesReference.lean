/- The law WireMatchesReference, over plain numbers and lists: PutInt, Int, PutString, String and Sum agree with the reference implementation. -/
import Derived.Test.YtffalfonmooinaaDoorRef
namespace Go.Proofs.YtffalfonmooinaaDoor.Pure
open Go.RowKit Go.Proofs.YtffalfonmooinaaDoor.Pr Go.Proofs.YtffalfonmooinaaDoorW.PrintWords Go.Proofs.YtffalfonmooinaaDoorW.PrintLast
set_option linter.unusedVariables false
set_option linter.unusedSimpArgs false

theorem putInt_some (x : Int) : ∃ p, wire_PutInt.f x = some p := by
  unfold wire_PutInt.f
  split
  · exact ⟨_, rfl⟩
  · split
    · exact ⟨_, rfl⟩
    · exact ⟨_, rfl⟩
theorem int_some (f : Nat) (s : ByteArray) (a : Int) (hs : s.size ≤ 4611686018427387904) (hf : 11 ≤ f) : ∃ p, Pa.wire_Int.f f s a = some p := by
  by_cases h : a < 0 ∨ (s.size : Int) < a
  · exact ⟨_, Int_arg f s a h (by omega)⟩
  · obtain ⟨n, rfl⟩ := Int.eq_ofNat_of_zero_le (show 0 ≤ a by omega)
    rcases Int_any f s n hs (by omega) hf with h1 | ⟨x, _, _, h1⟩ <;> exact ⟨_, h1⟩
theorem string_some (f : Nat) (s : ByteArray) (a : Int) (hs : s.size ≤ 4611686018427387904) (hf : 11 ≤ f) : ∃ p, Pa.wire_String.f f s a = some p := by
  by_cases h : a < 0 ∨ (s.size : Int) < a
  · exact ⟨_, String_arg f s a h (by omega)⟩
  · obtain ⟨n, rfl⟩ := Int.eq_ofNat_of_zero_le (show 0 ≤ a by omega)
    rcases String_any f s n hs (by omega) hf with h1 | ⟨x, _, _, h1⟩ <;> exact ⟨_, h1⟩

theorem step0 (f : Nat) (s : ByteArray) (ks : List Int) (i : Nat) (hi : i < ks.length) (hl : ks.length < 1000) (at_ : Int) (hf : 12 ≤ f) :
    yardsticklaw01_WireMatchesReference.l0 (f + 1) at_ true s ks (ks.length : Int) i = yardsticklaw01_WireMatchesReference.l0 f at_ true s ks (ks.length : Int) ((i + 1 : Nat) : Int) := by
  simp only [yardsticklaw01_WireMatchesReference.l0]
  obtain ⟨p, hp⟩ := putInt_some (rd ks i)
  rw [if_pos (by omega), if_pos (by omega), if_pos (by omega), hp]
  simp only [Option.bind_some]
  rw [ref_put _ f hf, hp]
  simp only [Option.bind_some, if_true]
  rw [wrap_nat (show (i : Int) + 1 = ((i + 1 : Nat) : Int) by omega) (by omega)]
theorem step1 (f : Nat) (s : ByteArray) (hs : s.size ≤ 300) (ks : List Int) (i : Nat) (hi : i < ks.length) (hl : ks.length < 1000) (hf : 40 ≤ f) :
    yardsticklaw01_WireMatchesReference.l1 (f + 1) true s ks (ks.length : Int) i = yardsticklaw01_WireMatchesReference.l1 f true s ks (ks.length : Int) ((i + 1 : Nat) : Int) := by
  simp only [yardsticklaw01_WireMatchesReference.l1]
  obtain ⟨p, hp⟩ := int_some f s (rd ks i) (by omega) (by omega)
  obtain ⟨q, hq⟩ := string_some f s (rd ks i) (by omega) (by omega)
  rw [if_pos (by omega), if_pos (by omega), if_pos (by omega), hp]
  simp only [Option.bind_some]
  rw [ref_Int f f s _ (by omega) hf (by omega), hp]
  simp only [Option.bind_some]
  rw [hq]
  simp only [Option.bind_some]
  rw [ref_String f f s _ (by omega) hf (by omega), hq]
  simp only [Option.bind_some, if_true]
  rw [wrap_nat (show (i : Int) + 1 = ((i + 1 : Nat) : Int) by omega) (by omega)]

theorem end0 (f : Nat) (t : ByteArray) (ks : List Int) (at_ p : Int) (i : Nat) (hi : ks.length ≤ i) (ht : t.size ≤ 300) (ep : yardsticklaw01_pick.f at_ ((t.size + 2 : Nat) : Int) = some p) :
    yardsticklaw01_WireMatchesReference.l0 (f + 1) at_ true t ks (ks.length : Int) i = yardsticklaw01_WireMatchesReference.l1 f true t [at_, p] 2 0 := by
  simp only [yardsticklaw01_WireMatchesReference.l0]
  rw [if_neg (by omega), wrap_nat (show (t.size : Int) + 2 = ((t.size + 2 : Nat) : Int) by omega) (by omega), ep]
  simp only [Option.bind_some]
  rfl
theorem end1 (f : Nat) (t : ByteArray) (ks : List Int) (i : Nat) (hi : ks.length ≤ i) (ht : t.size ≤ 300) (hf : 3001 ≤ f) :
    yardsticklaw01_WireMatchesReference.l1 (f + 1) true t ks (ks.length : Int) i = some true := by
  simp only [yardsticklaw01_WireMatchesReference.l1]
  obtain ⟨q, eq⟩ : ∃ q, Pa.wire_PutString.f t = some q := ⟨_, putString_fits t (by omega)⟩
  rw [if_neg (by omega), eq]
  simp only [Option.bind_some]
  rw [ref_PutString _ t (by omega), eq]
  simp only [Option.bind_some, if_true]
  have es := wire_Sum_f t (by omega)
  rw [es]
  simp only [Option.bind_some]
  rw [ref_Sum _ t (by omega) (by omega), es]
  simp

theorem WireMatchesReference : yardsticklaw01_WireMatchesReference.Pure := by
  intro n s at_ hn _ hat
  obtain ⟨x, ex, hx⟩ := number_some n hn
  obtain ⟨g0, g1⟩ := wf_i64 hat
  have hm : mn (s.size : Int) 300 = ((min s.size 300 : Nat) : Int) := min_nat s 300
  obtain ⟨f, hf⟩ : ∃ f : Nat, 3040 ≤ f := ⟨3040, Nat.le_refl _⟩
  refine ⟨f + 1 + 1 + 1 + 1 + 1 + 1, ?_⟩
  unfold yardsticklaw01_WireMatchesReference.f sane.f
  rw [hm]
  have hmle : min s.size 300 ≤ s.size := by omega
  have hm2 : min s.size 300 ≤ 300 := by omega
  generalize min s.size 300 = m at *
  simp only [Option.bind_some, Int.toNat_natCast]
  have e2 : (s.extract 0 m).size = m := by rw [ByteArray.size_extract]; omega
  rw [if_pos (by omega), if_pos (by omega), ex]
  simp only [Option.bind_some]
  generalize s.extract 0 m = t at *
  have ht : t.size ≤ 300 := by omega
  obtain ⟨p, ep, p0, p1⟩ := pick_some at_ ((t.size + 2 : Nat) : Int) g0 g1 (by omega)
  have r0 := step0 (f + 1 + 1 + 1 + 1 + 1) t [n, x] 0 (by simp) (by simp) at_ (by omega)
  have r1 := step0 (f + 1 + 1 + 1 + 1) t [n, x] 1 (by simp) (by simp) at_ (by omega)
  refine r0.trans (r1.trans ?_)
  refine (end0 (f + 1 + 1 + 1) t [n, x] at_ p 2 (by simp) ht ep).trans ?_
  have s0 := step1 (f + 1 + 1) t ht [at_, p] 0 (by simp) (by simp) (by omega)
  have s1 := step1 (f + 1) t ht [at_, p] 1 (by simp) (by simp) (by omega)
  exact s0.trans (s1.trans (end1 f t [at_, p] 2 (by simp) ht (by omega)))
end Go.Proofs.YtffalfonmooinaaDoor.Pure
