/- The law DigestExtensionBinding answers true for every input, the listed table laid: Pd0, Pd2, Pd3, Bind, Pe28, Pe8, PureExtBinding, WalkExtBinding, RowDigestExtensionBinding. -/
import Derived.Test.YtabjfogmcehemaaDoorProg
import Derived.Below
import Derived.Deep.Draws
import Derived.Deep.AppendLies
import Derived.Maps.AppendAt
import Derived.OwnWalk
import Derived.Laws.BytesArg
import Derived.Laws.MakeOwn
import Derived.Laws.OwnMore
import Derived.Deep.OwnRows
import Derived.Tactics
import Derived.Lib.ConvBytes
import Derived.Laws.Slices
import Derived.WalkKit
import Derived.KernelRfl
import Derived.RowKit3
import Derived.Deep.LoopGhost
import Derived.Deep.QuietTactic
import Derived.BigQuiet
import Derived.WideLaws
import Derived.Deep.DeepCutAuto
import Derived.Deep.CutBlock
import Derived.Deep.RegionHeld3
import Derived.Laws.Rows
import Derived.Lib.AppendStr
import Derived.ArgAppend
import Derived.Laws.IdiomCopy
import Derived.OrdersHeld
import Derived.Laws.BitsLemmas
import Derived.RowKit
import Derived.Test.YtabjfogmcehemaaDoorBase3
import Derived.Test.YtabjfogmcehemaaDoorBase4
import Derived.Test.YtabjfogmcehemaaDoorWWords
import Derived.Test.YtabjfogmcehemaaDoorWLast
import Derived.Test.YtabjfogmcehemaaDoorWTab
import Derived.Test.YtabjfogmcehemaaDoorWFour
import Derived.Test.YtabjfogmcehemaaDoorWQPut
import Derived.Test.YtabjfogmcehemaaDoorWApart
import Derived.Test.YtabjfogmcehemaaDoorWArr
import Derived.Test.YtabjfogmcehemaaDoorWZeros
import Derived.Test.YtabjfogmcehemaaDoorWFoot
import Derived.Test.YtabjfogmcehemaaDoorWKept
import Derived.Test.YtabjfogmcehemaaDoorWShare
import Derived.Test.YtabjfogmcehemaaDoorWN
import Derived.Test.YtabjfogmcehemaaDoorWFootNe
import Derived.Test.YtabjfogmcehemaaDoorWAt
import Derived.Test.YtabjfogmcehemaaDoorWEqStruct
import Derived.Test.YtabjfogmcehemaaDoorWRepsOne
import Derived.Test.YtabjfogmcehemaaDoorWInv
import Derived.Test.YtabjfogmcehemaaDoorWInvWords
import Derived.Test.YtabjfogmcehemaaDoorWGuard
import Derived.Test.YtabjfogmcehemaaDoorWNEv
import Derived.Test.YtabjfogmcehemaaDoorWMore
import Derived.Test.YtabjfogmcehemaaDoorRows
import Derived.Test.YtabjfogmcehemaaDoorCards
import Derived.Test.YtabjfogmcehemaaDoorTie
import Derived.ProofKit
import Derived.OpenShut
import Derived.ShutString
import Derived.ChangeOld
import Derived.SizedLaws
import Derived.SevenTiedAt
import Derived.LaidMore
import Derived.SliceStrings
import Derived.Lib.SmallJoins

-- Written by a patched scratch copy of the kit's print program (wip/tools of this session's repo), not by print.sh.
namespace Go.Proofs.YtabjfogmcehemaaDoor.Pd
open Go.RowKit Go.Proofs.YtabjfogmcehemaaDoorW.PrintWords Go.Proofs.YtabjfogmcehemaaDoorW.PrintLast Go.Proofs.YtabjfogmcehemaaDoorW.PrintMore
attribute [local go_sem] max2_int min2_int max_two min_two max_three min_three max_four min_four   -- for this text's walks alone
set_option linter.unusedVariables false
set_option linter.unusedSimpArgs false



def errW : Option Int → Value
  | none => .nilIface
  | some c => .iface 0 (.int .i64 c)
theorem errW_none : errW none = .nilIface := rfl
theorem errW_some (c : Int) : errW (some c) = .iface 0 (.int .i64 c) := rfl

theorem info9 : (Tryd.prog.info? 9).map (fun i => (i.zero, i.size, i.bytes)) = some (some (.string ⟨#[]⟩), 1, 16) := by kernel_rfl
-- the values' own types

end Go.Proofs.YtabjfogmcehemaaDoor.Pd

-- Written by a patched scratch copy of the kit's print program (wip/tools of this session's repo), not by print.sh.
namespace Go.Proofs.YtabjfogmcehemaaDoor.Pd
open Go.RowKit Go.Proofs.YtabjfogmcehemaaDoorW.PrintWords Go.Proofs.YtabjfogmcehemaaDoorW.PrintLast Go.Proofs.YtabjfogmcehemaaDoorW.PrintMore
attribute [local go_sem] max2_int min2_int max_two min_two max_three min_three max_four min_four   -- for this text's walks alone
set_option linter.unusedVariables false
set_option linter.unusedSimpArgs false

/-! ### w_way: function 26 -/
mutual
def w_way.j0 : Nat → Int → Int → ByteArray → List ByteArray → Bool → Option (List ByteArray × ByteArray)
  | 0, _, _, _, _, _ => none
  | k + 1, x0, x1, x2, x3, x23 => if x23 = true then (if 1 + x2.size ≤ 9223372036854775807 then ((digest_Leaf.f x2).bind fun t141 => (some ((([(⟨#[0]⟩ : ByteArray) ++ x2] : List ByteArray)), t141))) else (none)) else (if 0 ≤ (wrap64 ((x3.length : Int) - 1)) then (if (wrap64 ((x3.length : Int) - 1)) < (x3.length : Int) then (if (wrap64 ((x3.length : Int) - 1)) ≤ (x3.length : Int) then ((Pa.w_left.f k x0).bind fun t144 => (if x1 < t144 then ((w_way.f k t144 x1 x2 (x3.take ((wrap64 ((x3.length : Int) - 1)) : Int).toNat)).bind fun bt145 => (if 1 + bt145.2.size ≤ 9223372036854775807 then (if ((⟨#[1]⟩ : ByteArray) ++ bt145.2).size + (rdOf ByteArray.empty x3 (wrap64 ((x3.length : Int) - 1))).size ≤ 9223372036854775807 then ((some (([((⟨#[1]⟩ : ByteArray) ++ bt145.2) ++ (rdOf ByteArray.empty x3 (wrap64 ((x3.length : Int) - 1)))] : List ByteArray) : List ByteArray)).bind fun y149 => (if y149.length + bt145.1.length < 8796093022208 then ((digest_Node.f bt145.2 (rdOf ByteArray.empty x3 (wrap64 ((x3.length : Int) - 1)))).bind fun t155 => (some ((y149 ++ bt145.1), t155))) else (none))) else (none)) else (none))) else ((w_way.f k (wrap64 (x0 - t144)) (wrap64 (x1 - t144)) x2 (x3.take ((wrap64 ((x3.length : Int) - 1)) : Int).toNat)).bind fun bt156 => (if 1 + (rdOf ByteArray.empty x3 (wrap64 ((x3.length : Int) - 1))).size ≤ 9223372036854775807 then (if ((⟨#[1]⟩ : ByteArray) ++ (rdOf ByteArray.empty x3 (wrap64 ((x3.length : Int) - 1)))).size + bt156.2.size ≤ 9223372036854775807 then ((some (([((⟨#[1]⟩ : ByteArray) ++ (rdOf ByteArray.empty x3 (wrap64 ((x3.length : Int) - 1)))) ++ bt156.2] : List ByteArray) : List ByteArray)).bind fun y160 => (if y160.length + bt156.1.length < 8796093022208 then ((digest_Node.f (rdOf ByteArray.empty x3 (wrap64 ((x3.length : Int) - 1))) bt156.2).bind fun t166 => (some ((y160 ++ bt156.1), t166))) else (none))) else (none)) else (none))))) else (none)) else (none)) else (none))
def w_way.f : Nat → Int → Int → ByteArray → List ByteArray → Option (List ByteArray × ByteArray)
  | 0, _, _, _, _ => none
  | k + 1, a0, a1, a2, l3 => if a0 ≤ 1 then (w_way.j0 k a0 a1 a2 l3 true) else (w_way.j0 k a0 a1 a2 l3 ((l3.length : Int) == 0))
end
theorem w_way.mono_l : ∀ k, (∀ y0 y1 y2 y3, LeO (w_way.f k y0 y1 y2 y3) (w_way.f (k + 1) y0 y1 y2 y3)) ∧ (∀ y0 y1 y2 y3 y4, LeO (w_way.j0 k y0 y1 y2 y3 y4) (w_way.j0 (k + 1) y0 y1 y2 y3 y4))
  | 0 => ⟨fun _ _ _ _ r h => by simp [w_way.f] at h, fun _ _ _ _ _ r h => by simp [w_way.j0] at h⟩
  | k + 1 => by
    obtain ⟨ih0, ih1⟩ := w_way.mono_l k
    refine ⟨?_, ?_⟩
    · intro y0 y1 y2 y3
      unfold w_way.f
      repeat' first
      | (with_reducible exact ih0 _ _ _ _)
      | (with_reducible exact ih1 _ _ _ _ _)
      | (with_reducible exact Pa.w_left.mono _ _)
      | (with_reducible exact LeO.refl _)
      | (with_reducible exact LeO.none _)
      | (with_reducible refine LeO.ite ?_ ?_)
      | (with_reducible refine LeO.bind ?_ (fun _ => ?_))
      | exact ih0 _ _ _ _
      | exact ih1 _ _ _ _ _
      | exact Pa.w_left.mono _ _
      | exact LeO.none _
      | refine LeO.ite ?_ ?_
      | refine LeO.bind ?_ (fun _ => ?_)
    · intro y0 y1 y2 y3 y4
      unfold w_way.j0
      repeat' first
      | (with_reducible exact ih0 _ _ _ _)
      | (with_reducible exact ih1 _ _ _ _ _)
      | (with_reducible exact Pa.w_left.mono _ _)
      | (with_reducible exact LeO.refl _)
      | (with_reducible exact LeO.none _)
      | (with_reducible refine LeO.ite ?_ ?_)
      | (with_reducible refine LeO.bind ?_ (fun _ => ?_))
      | exact ih0 _ _ _ _
      | exact ih1 _ _ _ _ _
      | exact Pa.w_left.mono _ _
      | exact LeO.none _
      | refine LeO.ite ?_ ?_
      | refine LeO.bind ?_ (fun _ => ?_)
theorem w_way.mono : ∀ a0 a1 a2 a3 k, LeO (w_way.f k a0 a1 a2 a3) (w_way.f (k + 1) a0 a1 a2 a3) := by
  intro a0 a1 a2 a3 k
  obtain ⟨ih0, ih1⟩ := w_way.mono_l k
  exact ih0 a0 a1 a2 a3
set_option maxHeartbeats 8000000 in
set_option maxRecDepth 100000 in
theorem w_way.calls (k : Nat) : ∀ (a0 : Int) (a1 : Int) (a2 : ByteArray) (A3 : Option Addr) (c3 : Nat) (l3 : List ByteArray) (r1 : List ByteArray) (r2 : ByteArray) (w : World) (HG : Aside0 (Laid w)) (hr3 : Kd.C Kd.string w A3 l3.length l3) (hc3 : l3.length ≤ c3) (h : w_way.f k a0 a1 a2 l3 = some (r1, r2)),
    Calls Tryd.prog 26 #[.int .i64 a0, .int .i64 a1, .string a2, .slice A3 l3.length c3] w fun e w' => ∃ v0_ : Value, e = .returned (.tuple #[v0_, .string r2]) ∧ Kd.R Kd.string 9 w' w.heap.size (fun _ => True) v0_ r1 ∧ Below w.heap.size w w' := by
  induction k using Nat.strongRecOn with
  | _ k ih =>
  intro a0 a1 a2 A3 c3 l3 r1 r2 w HG hr3 hc3 h
  cases k with
  | zero => exact absurd h (by simp [w_way.f])
  | succ k =>
  simp only [w_way.f] at h
  have HR3 := Aside0.mk hr3
  have HC3 := Aside0.mk hc3
  clear hr3 hc3
  have HB := Aside0.mk (Below.refl w.heap.size w)
  have H : (if a0 ≤ 1 then (w_way.j0 k a0 a1 a2 l3 true) else (w_way.j0 k a0 a1 a2 l3 ((l3.length : Int) == 0))) = some (r1, r2) := h
  clear h
  have HC5 := Aside0.mk H
  clear H
  go_enter Tryd.func26, Tryd.ntmps26
  go_upto_region 1 with (fail)
  go_cut [23] (fun v23 wc => ∃ (kq : Nat) (x23_4 : Bool), v23 = .bool x23_4 ∧ Aside0 (w_way.j0 kq a0 a1 a2 l3 x23_4 = some (r1, r2)) ∧ Aside0 (kq ≤ k) ∧ Aside0 (Below w.heap.size w wc))
  case first =>
    have H := HC5.out
    clear HC5
    by_cases c6 : a0 ≤ 1
    · rw [if_pos c6] at H
      have c6b0 : decide (a0 ≤ 1) = true := decide_eq_true c6
      clear c6
      (first | rw [c6b0] | (simp only [i64_w, i32_w]; rw [c6b0]) | skip)
      have H' := Aside0.mk H
      clear H
      go_wp2
      go_meet
      case rel => exact ⟨_, (true), (by first | rfl | (simp; done) | (simp [*]; done)), H', ⟨by first | omega | exact Nat.le_refl _⟩, ⟨by repeat (first | (with_reducible first | exact HB.out | apply below_alloc | apply pw_below_drewN | apply below_drew1) | exact HB.out)⟩⟩
    · rw [if_neg c6] at H
      have c6b0 : decide (a0 ≤ 1) = false := decide_eq_false c6
      clear c6
      (first | rw [c6b0] | (simp only [i64_w, i32_w]; rw [c6b0]) | skip)
      have H' := Aside0.mk H
      clear H
      go_wp2
      go_meet
      case rel => exact ⟨_, (((l3.length : Int) == 0)), (by first | rfl | (simp; done) | (simp [*]; done)), H', ⟨by first | omega | exact Nat.le_refl _⟩, ⟨by repeat (first | (with_reducible first | exact HB.out | apply below_alloc | apply pw_below_drewN | apply below_drew1) | exact HB.out)⟩⟩
  case rest =>
    clear HC5
    try clear c2
    try clear p2
    try clear c3
    try clear c6
    try clear c6b0
    obtain ⟨kq, x23_4, rfl, HA, HJ4, HB⟩ := hcut
    cases kq with
    | zero => exact absurd HA.out (by simp [w_way.j0])
    | succ kj4 =>
      have H := HA.out
      clear HA
      simp only [w_way.j0] at H
      by_cases c7 : x23_4 = true
      · subst c7
        have H1 : (if 1 + a2.size ≤ 9223372036854775807 then ((digest_Leaf.f a2).bind fun t141 => (some ((([(⟨#[0]⟩ : ByteArray) ++ a2] : List ByteArray)), t141))) else (none)) = some (r1, r2) := by rw [if_pos rfl] at H; exact H
        clear H
        have H := H1
        clear H1
        by_cases c8 : 1 + a2.size ≤ 9223372036854775807
        · rw [if_pos c8] at H
          have c8b0 := eq_true c8
          have c8b1 : decide (1 + a2.size ≤ 9223372036854775807) = true := decide_eq_true c8
          try have c8b2 : (9223372036854775807 < 1 + a2.size) = False := eq_false (Nat.not_lt.2 c8)
          obtain ⟨y138, hy138⟩ : ∃ y_ : List ByteArray, y_ = (([(⟨#[0]⟩ : ByteArray) ++ a2] : List ByteArray)) := ⟨_, rfl⟩
          replace H : ((digest_Leaf.f a2).bind fun t141 => (some (y138, t141))) = some (r1, r2) := by first | (rw [hy138]; with_reducible exact H) | (have H2_ := (Option.bind_some _ _).symm.trans H; rw [hy138]; with_reducible exact H2_) | (have H2_ := (Option.bind_some _ _).symm.trans H; with_reducible exact H2_) | with_reducible exact H | (rw [hy138]; exact H) | exact H
          have Ny138 := Aside0.mk hy138
          clear hy138
          replace H := Option.bind_eq_some_iff.mp H
          obtain ⟨t141, A90, H⟩ := H
          replace H : (some (y138, t141)) = some (r1, r2) := H
          have A9 := Aside0.mk A90
          clear A90
          simp only [Option.some.injEq, Prod.mk.injEq] at H
          obtain ⟨rfl, rfl⟩ := H
          go_wp2_with (first | ((with_reducible refine gate_dst (N := 26) rfl ?_); (try (refine gate_guard (by rfl) ?_; dsimp only)); refine Kd.R_lit Kd.string _ 9 ?hg (N := 26) ?hd (xs := ([(⟨#[0]⟩ : ByteArray) ++ a2] : List ByteArray)) (inner := [.string ((⟨#[0]⟩ : ByteArray) ++ a2)]) (ok := fun _ => True) (okp := fun _ => True) ?hr ?hp (fun _ hk => hk) trivial (Below.refl _ _) (Nat.le_refl _) (by simp) ?_; (case hd => rfl); (case hg => rfl); (case hr => first | (go_simp; done) | (go_simp; rfl)); (case hp => exact (Reps.one (show Kd.M Kd.string _ _ _ ((⟨#[0]⟩ : ByteArray) ++ a2) [.string ((⟨#[0]⟩ : ByteArray) ++ a2)] from rfl) (Reps.none _ _))); intro v139 w10 ho11 hb hg_ hnew_; clear hg_ hnew_; (first | rw [← Ny138.out] at ho11 | (simp only [Int.reduceToNat] at ho11; rw [← Ny138.out] at ho11)); have n0_ := Aside0.mk (Kd.R_lower ho11 (below_size (by repeat (first | (with_reducible first | exact HB.out | apply below_alloc | apply pw_below_drewN | apply below_drew1) | exact HB.out)))); have n1_ := Aside0.mk (below_step (by repeat (first | (with_reducible first | exact HB.out | apply below_alloc | apply pw_below_drewN | apply below_drew1) | exact HB.out)) hb); clear HB; have HO140 := n0_; have HB := n1_; clear n0_ n1_; clear hb ho11) | ((with_reducible refine gate_callee (f := 29) rfl ?_); refine goesL_ (some 28) rfl rfl Tryd.func29 (by kernel_rfl) rfl #[.string a2] rfl (by (try simp only [List.map_toArray, List.map_cons, List.map_nil]); first | done | rfl | (simp only [List.length_drop, List.length_take]; rfl) | (simp only [ByteArray.size_extract, ByteArray.size_append, Nat.sub_zero]; done) | (simp only [ByteArray.size_extract, ByteArray.size_append, Nat.sub_zero]; (rw [IntWalk.wrap64_in _ (by omega)]) <;> rfl)) ?_; (with_reducible refine (digest_Leaf.calls a2 t141 _ ?side1 A9.out).mono ?_); (case side1 => exact Aside0.mk (Laid.below HG.out (by repeat (first | (with_reducible first | exact HB.out | apply below_alloc | apply pw_below_drewN | apply below_drew1) | exact HB.out)))); rintro e w12 ⟨rfl, hb⟩; refine ⟨_, rfl, ?_⟩; have n0_ := Aside0.mk (Kd.R_below (by (with_reducible repeat (first | apply Kd.R_alloc | apply Kd.R_drewN | apply Kd.R_drew)); exact HO140.out) hb); have n1_ := Aside0.mk (below_step (by repeat (first | (with_reducible first | exact HB.out | apply below_alloc | apply pw_below_drewN | apply below_drew1) | exact HB.out)) hb); clear HO140; clear HB; have HO140 := n0_; have HB := n1_; clear n0_ n1_; (try clear hb); (try clear hb2); (try clear hk); (try clear hi)))
          go_ret2
          exact ⟨_, by first | rfl | (simp [errW_none, errW_some] <;> rfl) | (simp [*, errW_none, errW_some] <;> rfl), by (with_reducible repeat (first | apply Kd.R_alloc | apply Kd.R_drewN | apply Kd.R_drew)); exact HO140.out, by repeat (first | (with_reducible first | exact HB.out | apply below_alloc | apply pw_below_drewN | apply below_drew1) | exact HB.out)⟩
        · rw [if_neg c8] at H
          exact absurd H (by simp)
      · replace c7 := Bool.eq_false_iff.mpr c7
        subst c7
        have H1 : (if 0 ≤ (wrap64 ((l3.length : Int) - 1)) then (if (wrap64 ((l3.length : Int) - 1)) < (l3.length : Int) then (if (wrap64 ((l3.length : Int) - 1)) ≤ (l3.length : Int) then ((Pa.w_left.f kj4 a0).bind fun t144 => (if a1 < t144 then ((w_way.f kj4 t144 a1 a2 (l3.take ((wrap64 ((l3.length : Int) - 1)) : Int).toNat)).bind fun bt145 => (if 1 + bt145.2.size ≤ 9223372036854775807 then (if ((⟨#[1]⟩ : ByteArray) ++ bt145.2).size + (rdOf ByteArray.empty l3 (wrap64 ((l3.length : Int) - 1))).size ≤ 9223372036854775807 then ((some (([((⟨#[1]⟩ : ByteArray) ++ bt145.2) ++ (rdOf ByteArray.empty l3 (wrap64 ((l3.length : Int) - 1)))] : List ByteArray) : List ByteArray)).bind fun y149 => (if y149.length + bt145.1.length < 8796093022208 then ((digest_Node.f bt145.2 (rdOf ByteArray.empty l3 (wrap64 ((l3.length : Int) - 1)))).bind fun t155 => (some ((y149 ++ bt145.1), t155))) else (none))) else (none)) else (none))) else ((w_way.f kj4 (wrap64 (a0 - t144)) (wrap64 (a1 - t144)) a2 (l3.take ((wrap64 ((l3.length : Int) - 1)) : Int).toNat)).bind fun bt156 => (if 1 + (rdOf ByteArray.empty l3 (wrap64 ((l3.length : Int) - 1))).size ≤ 9223372036854775807 then (if ((⟨#[1]⟩ : ByteArray) ++ (rdOf ByteArray.empty l3 (wrap64 ((l3.length : Int) - 1)))).size + bt156.2.size ≤ 9223372036854775807 then ((some (([((⟨#[1]⟩ : ByteArray) ++ (rdOf ByteArray.empty l3 (wrap64 ((l3.length : Int) - 1)))) ++ bt156.2] : List ByteArray) : List ByteArray)).bind fun y160 => (if y160.length + bt156.1.length < 8796093022208 then ((digest_Node.f (rdOf ByteArray.empty l3 (wrap64 ((l3.length : Int) - 1))) bt156.2).bind fun t166 => (some ((y160 ++ bt156.1), t166))) else (none))) else (none)) else (none))))) else (none)) else (none)) else (none)) = some (r1, r2) := by rw [if_neg (show ¬ (false = true) by decide)] at H; exact H
        clear H
        have H := H1
        clear H1
        obtain ⟨ji13, hji13⟩ : ∃ j_ : Int, (wrap64 ((l3.length : Int) - 1)) = j_ := ⟨_, rfl⟩
        replace H : (if 0 ≤ (ji13) then (if (ji13) < (l3.length : Int) then (if (ji13) ≤ (l3.length : Int) then ((Pa.w_left.f kj4 a0).bind fun t144 => (if a1 < t144 then ((w_way.f kj4 t144 a1 a2 (l3.take ((ji13) : Int).toNat)).bind fun bt145 => (if 1 + bt145.2.size ≤ 9223372036854775807 then (if ((⟨#[1]⟩ : ByteArray) ++ bt145.2).size + (rdOf ByteArray.empty l3 (ji13)).size ≤ 9223372036854775807 then ((some (([((⟨#[1]⟩ : ByteArray) ++ bt145.2) ++ (rdOf ByteArray.empty l3 (ji13))] : List ByteArray) : List ByteArray)).bind fun y149 => (if y149.length + bt145.1.length < 8796093022208 then ((digest_Node.f bt145.2 (rdOf ByteArray.empty l3 (ji13))).bind fun t155 => (some ((y149 ++ bt145.1), t155))) else (none))) else (none)) else (none))) else ((w_way.f kj4 (wrap64 (a0 - t144)) (wrap64 (a1 - t144)) a2 (l3.take ((ji13) : Int).toNat)).bind fun bt156 => (if 1 + (rdOf ByteArray.empty l3 (ji13)).size ≤ 9223372036854775807 then (if ((⟨#[1]⟩ : ByteArray) ++ (rdOf ByteArray.empty l3 (ji13))).size + bt156.2.size ≤ 9223372036854775807 then ((some (([((⟨#[1]⟩ : ByteArray) ++ (rdOf ByteArray.empty l3 (ji13))) ++ bt156.2] : List ByteArray) : List ByteArray)).bind fun y160 => (if y160.length + bt156.1.length < 8796093022208 then ((digest_Node.f (rdOf ByteArray.empty l3 (ji13)) bt156.2).bind fun t166 => (some ((y160 ++ bt156.1), t166))) else (none))) else (none)) else (none))))) else (none)) else (none)) else (none)) = some (r1, r2) := by first | (rw [hji13] at H; exact H) | (simp only [hji13] at H ⊢; exact H)
        have hji13w : (IntKind.i64.wrap ((l3.length : Int) - 1)) = ji13 := (i64_w _).trans hji13
        by_cases c14 : 0 ≤ (ji13)
        · rw [if_pos c14] at H
          have c14b0 : decide (0 ≤ (ji13)) = true := decide_eq_true c14
          clear c14
          by_cases c15 : (ji13) < (l3.length : Int)
          · rw [if_pos c15] at H
            have c15b0 : decide ((ji13) < (l3.length : Int)) = true := decide_eq_true c15
            clear c15
            have c16b0 := eq_true (of_decide_eq_true (by first | (with_reducible assumption) | assumption) : 0 ≤ (ji13))
            by_cases c17 : (ji13) ≤ (l3.length : Int)
            · rw [if_pos c17] at H
              have c17b0 := eq_true c17
              have c17b1 : decide ((ji13) ≤ (l3.length : Int)) = true := decide_eq_true c17
              clear c17
              replace H := Option.bind_eq_some_iff.mp H
              obtain ⟨t144, A180, H⟩ := H
              replace H : (if a1 < t144 then ((w_way.f kj4 t144 a1 a2 (l3.take ((ji13) : Int).toNat)).bind fun bt145 => (if 1 + bt145.2.size ≤ 9223372036854775807 then (if ((⟨#[1]⟩ : ByteArray) ++ bt145.2).size + (rdOf ByteArray.empty l3 (ji13)).size ≤ 9223372036854775807 then ((some (([((⟨#[1]⟩ : ByteArray) ++ bt145.2) ++ (rdOf ByteArray.empty l3 (ji13))] : List ByteArray) : List ByteArray)).bind fun y149 => (if y149.length + bt145.1.length < 8796093022208 then ((digest_Node.f bt145.2 (rdOf ByteArray.empty l3 (ji13))).bind fun t155 => (some ((y149 ++ bt145.1), t155))) else (none))) else (none)) else (none))) else ((w_way.f kj4 (wrap64 (a0 - t144)) (wrap64 (a1 - t144)) a2 (l3.take ((ji13) : Int).toNat)).bind fun bt156 => (if 1 + (rdOf ByteArray.empty l3 (ji13)).size ≤ 9223372036854775807 then (if ((⟨#[1]⟩ : ByteArray) ++ (rdOf ByteArray.empty l3 (ji13))).size + bt156.2.size ≤ 9223372036854775807 then ((some (([((⟨#[1]⟩ : ByteArray) ++ (rdOf ByteArray.empty l3 (ji13))) ++ bt156.2] : List ByteArray) : List ByteArray)).bind fun y160 => (if y160.length + bt156.1.length < 8796093022208 then ((digest_Node.f (rdOf ByteArray.empty l3 (ji13)) bt156.2).bind fun t166 => (some ((y160 ++ bt156.1), t166))) else (none))) else (none)) else (none)))) = some (r1, r2) := H
              have A18 := Aside0.mk A180
              clear A180
              by_cases c19 : a1 < t144
              · rw [if_pos c19] at H
                have c19b0 : decide (a1 < t144) = true := decide_eq_true c19
                clear c19
                replace H := Option.bind_eq_some_iff.mp H
                obtain ⟨⟨t145, t146⟩, A200, H⟩ := H
                replace H : (if 1 + t146.size ≤ 9223372036854775807 then (if ((⟨#[1]⟩ : ByteArray) ++ t146).size + (rdOf ByteArray.empty l3 (ji13)).size ≤ 9223372036854775807 then ((some (([((⟨#[1]⟩ : ByteArray) ++ t146) ++ (rdOf ByteArray.empty l3 (ji13))] : List ByteArray) : List ByteArray)).bind fun y149 => (if y149.length + t145.length < 8796093022208 then ((digest_Node.f t146 (rdOf ByteArray.empty l3 (ji13))).bind fun t155 => (some ((y149 ++ t145), t155))) else (none))) else (none)) else (none)) = some (r1, r2) := H
                have A20 := Aside0.mk A200
                clear A200
                by_cases c21 : 1 + t146.size ≤ 9223372036854775807
                · rw [if_pos c21] at H
                  have c21b0 := eq_true c21
                  have c21b1 : decide (1 + t146.size ≤ 9223372036854775807) = true := decide_eq_true c21
                  try have c21b2 : (9223372036854775807 < 1 + t146.size) = False := eq_false (Nat.not_lt.2 c21)
                  by_cases c22 : ((⟨#[1]⟩ : ByteArray) ++ t146).size + (rdOf ByteArray.empty l3 (ji13)).size ≤ 9223372036854775807
                  · rw [if_pos c22] at H
                    have c22b0 := eq_true c22
                    have c22b1 : decide (((⟨#[1]⟩ : ByteArray) ++ t146).size + (rdOf ByteArray.empty l3 (ji13)).size ≤ 9223372036854775807) = true := decide_eq_true c22
                    try have c22b2 : (9223372036854775807 < ((⟨#[1]⟩ : ByteArray) ++ t146).size + (rdOf ByteArray.empty l3 (ji13)).size) = False := eq_false (Nat.not_lt.2 c22)
                    obtain ⟨y149, hy149⟩ : ∃ y_ : List ByteArray, y_ = (([((⟨#[1]⟩ : ByteArray) ++ t146) ++ (rdOf ByteArray.empty l3 (ji13))] : List ByteArray)) := ⟨_, rfl⟩
                    replace H : (if y149.length + t145.length < 8796093022208 then ((digest_Node.f t146 (rdOf ByteArray.empty l3 (ji13))).bind fun t155 => (some ((y149 ++ t145), t155))) else (none)) = some (r1, r2) := by first | (rw [hy149]; with_reducible exact H) | (have H2_ := (Option.bind_some _ _).symm.trans H; rw [hy149]; with_reducible exact H2_) | (have H2_ := (Option.bind_some _ _).symm.trans H; with_reducible exact H2_) | with_reducible exact H | (rw [hy149]; exact H) | exact H
                    have Ny149 := Aside0.mk hy149
                    clear hy149
                    by_cases c23 : y149.length + t145.length < 8796093022208
                    · rw [if_pos c23] at H
                      have LMc23 := Aside0.mk c23
                      clear c23
                      obtain ⟨y152, hy152⟩ : ∃ y_ : List ByteArray, y_ = (y149 ++ t145) := ⟨_, rfl⟩
                      replace H : ((digest_Node.f t146 (rdOf ByteArray.empty l3 (ji13))).bind fun t155 => (some (y152, t155))) = some (r1, r2) := by first | (rw [hy152]; with_reducible exact H) | (have H2_ := (Option.bind_some _ _).symm.trans H; rw [hy152]; with_reducible exact H2_) | (have H2_ := (Option.bind_some _ _).symm.trans H; with_reducible exact H2_) | with_reducible exact H | (rw [hy152]; exact H) | exact H
                      have Ny152 := Aside0.mk hy152
                      clear hy152
                      replace H := Option.bind_eq_some_iff.mp H
                      obtain ⟨t155, A240, H⟩ := H
                      replace H : (some (y152, t155)) = some (r1, r2) := H
                      have A24 := Aside0.mk A240
                      clear A240
                      simp only [Option.some.injEq, Prod.mk.injEq] at H
                      obtain ⟨rfl, rfl⟩ := H
                      have p142 : 0 ≤ ((ji13) : Int) := of_decide_eq_true (by first | (with_reducible assumption) | assumption)
                      have q142 : (ji13) < (l3.length : Int) := of_decide_eq_true (by first | (with_reducible assumption) | assumption)
                      obtain ⟨ad142, e142, hx142_0⟩ := Kd.at_string HR3.out (ji13) p142 q142
                      cases e142
                      replace hx142_0 := (HB.out.cell (World.block_lt_of_cell? w _ hx142_0)).trans hx142_0
                      replace p142 := eq_true p142
                      replace q142 := eq_true q142
                      obtain ⟨i025, hi025, _, hsz25, _⟩ := info_parts info9
                      obtain ⟨hcut25, hA25, hC25⟩ := print_take_of (P := Tryd.prog) Value.string (⟨#[]⟩ : ByteArray) 22 9 .i64 Tryd.underlying22 hi025 hsz25 (some ad142) c3 l3 (ji13) (of_decide_eq_true (by first | (with_reducible assumption) | assumption)) (of_decide_eq_true (by first | (with_reducible assumption) | assumption)) HC3.out
                      have HR143 := Aside0.mk (Kd.C_of_reads (h1 := fun _ => rfl) (hA25 _ (Kd.reads_of_C HR3.out)))
                      have HC143 := Aside0.mk hC25
                      clear hA25 hC25 hi025 hsz25
                      go_wp2_with (first | ((with_reducible refine gate_callee (f := 31) rfl ?_); refine goesL_ (some 41) rfl rfl Tryd.func31 (by kernel_rfl) rfl #[.int .i64 a0] rfl (by (try simp only [List.map_toArray, List.map_cons, List.map_nil]); first | done | rfl | (simp only [List.length_drop, List.length_take]; rfl) | (simp only [ByteArray.size_extract, ByteArray.size_append, Nat.sub_zero]; done) | (simp only [ByteArray.size_extract, ByteArray.size_append, Nat.sub_zero]; (rw [IntWalk.wrap64_in _ (by omega)]) <;> rfl)) ?_; (with_reducible refine (Pa.w_left.calls kj4 a0 t144 _ A18.out).mono ?_); rintro e w' ⟨rfl, ⟨nd, rfl⟩⟩; refine ⟨_, rfl, ?_⟩) | ((with_reducible refine gate_callee (f := 26) rfl ?_); refine goesL_ (some 50) rfl rfl Tryd.func26 (by kernel_rfl) rfl #[.int .i64 t144, .int .i64 a1, .string a2, .slice (some ad142) (l3.take ((ji13) : Int).toNat).length c3] rfl (by (try simp only [List.map_toArray, List.map_cons, List.map_nil]); first | done | (rw [show (l3.take ((ji13) : Int).toNat).length = (ji13).toNat from (by rw [List.length_take]; have h_ : ((ji13) : Int) ≤ (l3.length : Int) := of_decide_eq_true (by first | (with_reducible assumption) | assumption); omega)] <;> rfl) | (simp only [hji13]; rfl) | rfl | (simp only [List.length_drop, List.length_take]; rfl) | (simp only [ByteArray.size_extract, ByteArray.size_append, Nat.sub_zero]; done) | (simp only [ByteArray.size_extract, ByteArray.size_append, Nat.sub_zero]; (rw [IntWalk.wrap64_in _ (by omega)]) <;> rfl)) ?_; (with_reducible refine (ih kj4 (by have := HJ4.out; omega) t144 a1 a2 _ _ (l3.take ((ji13) : Int).toNat) t145 t146 _ ?side3 ?side1 ?side2 A20.out).mono ?_); (case side1 => repeat (first | exact (Kd.C_below HR143.out (by repeat (first | (with_reducible first | exact HB.out | apply below_alloc | apply pw_below_drewN | apply below_drew1) | exact HB.out))) | (with_reducible refine Kd.C_alloc ?_ _) | (with_reducible refine Kd.C_drewN ?_ _) | (with_reducible refine Kd.C_drew ?_))); (case side2 => exact HC143.out); (case side3 => exact Aside0.mk (Laid.below HG.out (by repeat (first | (with_reducible first | exact HB.out | apply below_alloc | apply pw_below_drewN | apply below_drew1) | exact HB.out)))); rintro e w26 ⟨v147, rfl, ho0, hb⟩; refine ⟨_, rfl, ?_⟩; have n0_ := Aside0.mk (Kd.R_lower ho0 (below_size (by repeat (first | (with_reducible first | exact HB.out | apply below_alloc | apply pw_below_drewN | apply below_drew1) | exact HB.out)))); have n1_ := Aside0.mk (below_step (by repeat (first | (with_reducible first | exact HB.out | apply below_alloc | apply pw_below_drewN | apply below_drew1) | exact HB.out)) hb); clear HB; have HO148 := n0_; have HB := n1_; clear n0_ n1_; (try clear hb); (try clear hb2); (try clear hk); (try clear hi); (try clear ho0)) | ((with_reducible refine gate_dst (N := 57) rfl ?_); (try (refine gate_guard (by rfl) ?_; dsimp only)); refine Kd.R_lit Kd.string _ 9 ?hg (N := 57) ?hd (xs := ([((⟨#[1]⟩ : ByteArray) ++ t146) ++ (rdOf ByteArray.empty l3 (ji13))] : List ByteArray)) (inner := [.string (((⟨#[1]⟩ : ByteArray) ++ t146) ++ (rdOf ByteArray.empty l3 (ji13)))]) (ok := fun _ => True) (okp := fun _ => True) ?hr ?hp (fun _ hk => hk) trivial (Below.refl _ _) (Nat.le_refl _) (by simp) ?_; (case hd => rfl); (case hg => rfl); (case hr => first | (go_simp; done) | (go_simp; rfl)); (case hp => exact (Reps.one (show Kd.M Kd.string _ _ _ (((⟨#[1]⟩ : ByteArray) ++ t146) ++ (rdOf ByteArray.empty l3 (ji13))) [.string (((⟨#[1]⟩ : ByteArray) ++ t146) ++ (rdOf ByteArray.empty l3 (ji13)))] from rfl) (Reps.none _ _))); intro v150 w27 ho28 hb hg_ hnew_; clear hg_ hnew_; (first | rw [← Ny149.out] at ho28 | (simp only [Int.reduceToNat] at ho28; rw [← Ny149.out] at ho28)); have n0_ := Aside0.mk (Kd.R_elder' (by (with_reducible repeat (first | apply Kd.R_alloc | apply Kd.R_drewN | apply Kd.R_drew)); exact HO148.out) (Kd.R_base ho28) hb); have n1_ := Aside0.mk (Kd.R_lower (Kd.R_new' ho28 (Kd.R_lt (by (with_reducible repeat (first | apply Kd.R_alloc | apply Kd.R_drewN | apply Kd.R_drew)); exact HO148.out))) (below_size (by repeat (first | (with_reducible first | exact HB.out | apply below_alloc | apply pw_below_drewN | apply below_drew1) | exact HB.out)))); have n2_ := Aside0.mk (below_step (by repeat (first | (with_reducible first | exact HB.out | apply below_alloc | apply pw_below_drewN | apply below_drew1) | exact HB.out)) hb); clear HO148; clear HB; have HO148 := n0_; have HO151 := n1_; have HB := n2_; clear n0_ n1_ n2_; clear hb ho28; obtain ⟨Ao30, co30, eo30⟩ := Kd.R_slice HO148.out; subst eo30) | ((with_reducible refine gate_builtin (b := .append) (xs := #[.tmp 57, .tmp 58]) rfl ?_); (try (refine gate_guard (by rfl) ?_; dsimp only)); at_builtin; refine Kd.R_append_rows Kd.string (w0 := w) w.heap.size rfl (.tmp 57) (.tmp 58) 22 9 (.string ⟨#[]⟩) 16 rfl Tryd.underlying22 info9 rfl (by decide) (by omega) v150 y149 t145 _ _ _ (fun k_ => some k_ ≠ (.slice Ao30 t145.length co30 : Value).ownBlock) (fun _ => False) rfl rfl ?aO ?aR (fun _ _ h => h) (fun _ h => h.elim) ?aF ?aB ?aS ?aL ?_; (case aR => repeat (first | exact (Kd.R_reads' HO148.out).2.2 | (with_reducible refine Kd.C_alloc ?_ _) | (with_reducible refine Kd.C_drewN ?_ _) | (with_reducible refine Kd.C_drew ?_))); (case aB => exact (by repeat (first | (with_reducible first | exact HB.out | apply below_alloc | apply pw_below_drewN | apply below_drew1) | exact HB.out))); (case aF => exact (fun k_ hk => Kd.fresh' (Kd.R_lt (by (with_reducible repeat (first | apply Kd.R_alloc | apply Kd.R_drewN | apply Kd.R_drew)); exact HO148.out)) k_ hk)); (case aO => exact (by (with_reducible repeat (first | apply Kd.R_alloc | apply Kd.R_drewN | apply Kd.R_drew)); exact Kd.R_mono HO151.out (fun _ hk => hk.2))); (case aS => exact (below_size (by repeat (first | (with_reducible first | exact HB.out | apply below_alloc | apply pw_below_drewN | apply below_drew1) | exact HB.out)))); (case aL => have := LMc23.out; omega); intro v153 w29 ho hb hg hat; rw [← Ny152.out] at ho; have n0_ := Aside0.mk (Kd.R_after (ok := (fun _ => True)) (by (with_reducible repeat (first | apply Kd.R_alloc | apply Kd.R_drewN | apply Kd.R_drew)); exact HO148.out) hg hat); have n1_ := Aside0.mk (hb); have n2_ := Aside0.mk (ho); clear HO148; clear HB; clear HO151; have HO148 := n0_; have HB := n1_; have HO154 := n2_; clear n0_ n1_ n2_; clear ho hb hg hat) | ((with_reducible refine gate_callee (f := 32) rfl ?_); refine goesL_ (some 62) rfl rfl Tryd.func32 (by kernel_rfl) rfl #[.string t146, .string (rdOf ByteArray.empty l3 (ji13))] rfl (by (try simp only [List.map_toArray, List.map_cons, List.map_nil]); first | done | (simp only [hji13]; rfl) | rfl | (simp only [List.length_drop, List.length_take]; rfl) | (simp only [ByteArray.size_extract, ByteArray.size_append, Nat.sub_zero]; done) | (simp only [ByteArray.size_extract, ByteArray.size_append, Nat.sub_zero]; (rw [IntWalk.wrap64_in _ (by omega)]) <;> rfl)) ?_; (with_reducible refine (digest_Node.calls t146 (rdOf ByteArray.empty l3 (ji13)) t155 _ ?side1 A24.out).mono ?_); (case side1 => exact Aside0.mk (Laid.below HG.out (by repeat (first | (with_reducible first | exact HB.out | apply below_alloc | apply pw_below_drewN | apply below_drew1) | exact HB.out)))); rintro e w31 ⟨rfl, hb⟩; refine ⟨_, rfl, ?_⟩; have n0_ := Aside0.mk (Kd.R_below (by (with_reducible repeat (first | apply Kd.R_alloc | apply Kd.R_drewN | apply Kd.R_drew)); exact HO148.out) hb); have n1_ := Aside0.mk (Kd.R_below (by (with_reducible repeat (first | apply Kd.R_alloc | apply Kd.R_drewN | apply Kd.R_drew)); exact HO154.out) hb); have n2_ := Aside0.mk (below_step (by repeat (first | (with_reducible first | exact HB.out | apply below_alloc | apply pw_below_drewN | apply below_drew1) | exact HB.out)) hb); clear HO148; clear HO154; clear HB; have HO148 := n0_; have HO154 := n1_; have HB := n2_; clear n0_ n1_ n2_; (try clear hb); (try clear hb2); (try clear hk); (try clear hi)))
                      go_ret2
                      exact ⟨_, by first | rfl | (simp [errW_none, errW_some] <;> rfl) | (simp only [← hji13]; first | rfl | (simp [errW_none, errW_some] <;> rfl)) | (simp [*, errW_none, errW_some] <;> rfl), by (with_reducible repeat (first | apply Kd.R_alloc | apply Kd.R_drewN | apply Kd.R_drew)); exact Kd.R_mono HO154.out (fun _ hk => trivial), by repeat (first | (with_reducible first | exact HB.out | apply below_alloc | apply pw_below_drewN | apply below_drew1) | exact HB.out)⟩
                    · rw [if_neg c23] at H
                      exact absurd H (by simp)
                  · rw [if_neg c22] at H
                    exact absurd H (by simp)
                · rw [if_neg c21] at H
                  exact absurd H (by simp)
              · rw [if_neg c19] at H
                have c19b0 : decide (a1 < t144) = false := decide_eq_false c19
                clear c19
                replace H := Option.bind_eq_some_iff.mp H
                obtain ⟨⟨t156, t157⟩, A320, H⟩ := H
                replace H : (if 1 + (rdOf ByteArray.empty l3 (ji13)).size ≤ 9223372036854775807 then (if ((⟨#[1]⟩ : ByteArray) ++ (rdOf ByteArray.empty l3 (ji13))).size + t157.size ≤ 9223372036854775807 then ((some (([((⟨#[1]⟩ : ByteArray) ++ (rdOf ByteArray.empty l3 (ji13))) ++ t157] : List ByteArray) : List ByteArray)).bind fun y160 => (if y160.length + t156.length < 8796093022208 then ((digest_Node.f (rdOf ByteArray.empty l3 (ji13)) t157).bind fun t166 => (some ((y160 ++ t156), t166))) else (none))) else (none)) else (none)) = some (r1, r2) := H
                have A32 := Aside0.mk A320
                clear A320
                by_cases c33 : 1 + (rdOf ByteArray.empty l3 (ji13)).size ≤ 9223372036854775807
                · rw [if_pos c33] at H
                  have c33b0 := eq_true c33
                  have c33b1 : decide (1 + (rdOf ByteArray.empty l3 (ji13)).size ≤ 9223372036854775807) = true := decide_eq_true c33
                  try have c33b2 : (9223372036854775807 < 1 + (rdOf ByteArray.empty l3 (ji13)).size) = False := eq_false (Nat.not_lt.2 c33)
                  by_cases c34 : ((⟨#[1]⟩ : ByteArray) ++ (rdOf ByteArray.empty l3 (ji13))).size + t157.size ≤ 9223372036854775807
                  · rw [if_pos c34] at H
                    have c34b0 := eq_true c34
                    have c34b1 : decide (((⟨#[1]⟩ : ByteArray) ++ (rdOf ByteArray.empty l3 (ji13))).size + t157.size ≤ 9223372036854775807) = true := decide_eq_true c34
                    try have c34b2 : (9223372036854775807 < ((⟨#[1]⟩ : ByteArray) ++ (rdOf ByteArray.empty l3 (ji13))).size + t157.size) = False := eq_false (Nat.not_lt.2 c34)
                    obtain ⟨y160, hy160⟩ : ∃ y_ : List ByteArray, y_ = (([((⟨#[1]⟩ : ByteArray) ++ (rdOf ByteArray.empty l3 (ji13))) ++ t157] : List ByteArray)) := ⟨_, rfl⟩
                    replace H : (if y160.length + t156.length < 8796093022208 then ((digest_Node.f (rdOf ByteArray.empty l3 (ji13)) t157).bind fun t166 => (some ((y160 ++ t156), t166))) else (none)) = some (r1, r2) := by first | (rw [hy160]; with_reducible exact H) | (have H2_ := (Option.bind_some _ _).symm.trans H; rw [hy160]; with_reducible exact H2_) | (have H2_ := (Option.bind_some _ _).symm.trans H; with_reducible exact H2_) | with_reducible exact H | (rw [hy160]; exact H) | exact H
                    have Ny160 := Aside0.mk hy160
                    clear hy160
                    by_cases c35 : y160.length + t156.length < 8796093022208
                    · rw [if_pos c35] at H
                      have LMc35 := Aside0.mk c35
                      clear c35
                      obtain ⟨y163, hy163⟩ : ∃ y_ : List ByteArray, y_ = (y160 ++ t156) := ⟨_, rfl⟩
                      replace H : ((digest_Node.f (rdOf ByteArray.empty l3 (ji13)) t157).bind fun t166 => (some (y163, t166))) = some (r1, r2) := by first | (rw [hy163]; with_reducible exact H) | (have H2_ := (Option.bind_some _ _).symm.trans H; rw [hy163]; with_reducible exact H2_) | (have H2_ := (Option.bind_some _ _).symm.trans H; with_reducible exact H2_) | with_reducible exact H | (rw [hy163]; exact H) | exact H
                      have Ny163 := Aside0.mk hy163
                      clear hy163
                      replace H := Option.bind_eq_some_iff.mp H
                      obtain ⟨t166, A360, H⟩ := H
                      replace H : (some (y163, t166)) = some (r1, r2) := H
                      have A36 := Aside0.mk A360
                      clear A360
                      simp only [Option.some.injEq, Prod.mk.injEq] at H
                      obtain ⟨rfl, rfl⟩ := H
                      have p142 : 0 ≤ ((ji13) : Int) := of_decide_eq_true (by first | (with_reducible assumption) | assumption)
                      have q142 : (ji13) < (l3.length : Int) := of_decide_eq_true (by first | (with_reducible assumption) | assumption)
                      obtain ⟨ad142, e142, hx142_0⟩ := Kd.at_string HR3.out (ji13) p142 q142
                      cases e142
                      replace hx142_0 := (HB.out.cell (World.block_lt_of_cell? w _ hx142_0)).trans hx142_0
                      replace p142 := eq_true p142
                      replace q142 := eq_true q142
                      obtain ⟨i037, hi037, _, hsz37, _⟩ := info_parts info9
                      obtain ⟨hcut37, hA37, hC37⟩ := print_take_of (P := Tryd.prog) Value.string (⟨#[]⟩ : ByteArray) 22 9 .i64 Tryd.underlying22 hi037 hsz37 (some ad142) c3 l3 (ji13) (of_decide_eq_true (by first | (with_reducible assumption) | assumption)) (of_decide_eq_true (by first | (with_reducible assumption) | assumption)) HC3.out
                      have HR143 := Aside0.mk (Kd.C_of_reads (h1 := fun _ => rfl) (hA37 _ (Kd.reads_of_C HR3.out)))
                      have HC143 := Aside0.mk hC37
                      clear hA37 hC37 hi037 hsz37
                      go_wp2_with (first | ((with_reducible refine gate_callee (f := 31) rfl ?_); refine goesL_ (some 41) rfl rfl Tryd.func31 (by kernel_rfl) rfl #[.int .i64 a0] rfl (by (try simp only [List.map_toArray, List.map_cons, List.map_nil]); first | done | rfl | (simp only [List.length_drop, List.length_take]; rfl) | (simp only [ByteArray.size_extract, ByteArray.size_append, Nat.sub_zero]; done) | (simp only [ByteArray.size_extract, ByteArray.size_append, Nat.sub_zero]; (rw [IntWalk.wrap64_in _ (by omega)]) <;> rfl)) ?_; (with_reducible refine (Pa.w_left.calls kj4 a0 t144 _ A18.out).mono ?_); rintro e w' ⟨rfl, ⟨nd, rfl⟩⟩; refine ⟨_, rfl, ?_⟩) | ((with_reducible refine gate_callee (f := 26) rfl ?_); refine goesL_ (some 72) rfl rfl Tryd.func26 (by kernel_rfl) rfl #[.int .i64 (wrap64 (a0 - t144)), .int .i64 (wrap64 (a1 - t144)), .string a2, .slice (some ad142) (l3.take ((ji13) : Int).toNat).length c3] rfl (by (try simp only [List.map_toArray, List.map_cons, List.map_nil]); first | done | (rw [show (l3.take ((ji13) : Int).toNat).length = (ji13).toNat from (by rw [List.length_take]; have h_ : ((ji13) : Int) ≤ (l3.length : Int) := of_decide_eq_true (by first | (with_reducible assumption) | assumption); omega)] <;> rfl) | (simp only [hji13]; rfl) | rfl | (simp only [List.length_drop, List.length_take]; rfl) | (simp only [ByteArray.size_extract, ByteArray.size_append, Nat.sub_zero]; done) | (simp only [ByteArray.size_extract, ByteArray.size_append, Nat.sub_zero]; (rw [IntWalk.wrap64_in _ (by omega)]) <;> rfl)) ?_; (with_reducible refine (ih kj4 (by have := HJ4.out; omega) (wrap64 (a0 - t144)) (wrap64 (a1 - t144)) a2 _ _ (l3.take ((ji13) : Int).toNat) t156 t157 _ ?side3 ?side1 ?side2 A32.out).mono ?_); (case side1 => repeat (first | exact (Kd.C_below HR143.out (by repeat (first | (with_reducible first | exact HB.out | apply below_alloc | apply pw_below_drewN | apply below_drew1) | exact HB.out))) | (with_reducible refine Kd.C_alloc ?_ _) | (with_reducible refine Kd.C_drewN ?_ _) | (with_reducible refine Kd.C_drew ?_))); (case side2 => exact HC143.out); (case side3 => exact Aside0.mk (Laid.below HG.out (by repeat (first | (with_reducible first | exact HB.out | apply below_alloc | apply pw_below_drewN | apply below_drew1) | exact HB.out)))); rintro e w38 ⟨v158, rfl, ho0, hb⟩; refine ⟨_, rfl, ?_⟩; have n0_ := Aside0.mk (Kd.R_lower ho0 (below_size (by repeat (first | (with_reducible first | exact HB.out | apply below_alloc | apply pw_below_drewN | apply below_drew1) | exact HB.out)))); have n1_ := Aside0.mk (below_step (by repeat (first | (with_reducible first | exact HB.out | apply below_alloc | apply pw_below_drewN | apply below_drew1) | exact HB.out)) hb); clear HB; have HO159 := n0_; have HB := n1_; clear n0_ n1_; (try clear hb); (try clear hb2); (try clear hk); (try clear hi); (try clear ho0)) | ((with_reducible refine gate_dst (N := 79) rfl ?_); (try (refine gate_guard (by rfl) ?_; dsimp only)); refine Kd.R_lit Kd.string _ 9 ?hg (N := 79) ?hd (xs := ([((⟨#[1]⟩ : ByteArray) ++ (rdOf ByteArray.empty l3 (ji13))) ++ t157] : List ByteArray)) (inner := [.string (((⟨#[1]⟩ : ByteArray) ++ (rdOf ByteArray.empty l3 (ji13))) ++ t157)]) (ok := fun _ => True) (okp := fun _ => True) ?hr ?hp (fun _ hk => hk) trivial (Below.refl _ _) (Nat.le_refl _) (by simp) ?_; (case hd => rfl); (case hg => rfl); (case hr => first | (go_simp; done) | (go_simp; rfl)); (case hp => exact (Reps.one (show Kd.M Kd.string _ _ _ (((⟨#[1]⟩ : ByteArray) ++ (rdOf ByteArray.empty l3 (ji13))) ++ t157) [.string (((⟨#[1]⟩ : ByteArray) ++ (rdOf ByteArray.empty l3 (ji13))) ++ t157)] from rfl) (Reps.none _ _))); intro v161 w39 ho40 hb hg_ hnew_; clear hg_ hnew_; (first | rw [← Ny160.out] at ho40 | (simp only [Int.reduceToNat] at ho40; rw [← Ny160.out] at ho40)); have n0_ := Aside0.mk (Kd.R_elder' (by (with_reducible repeat (first | apply Kd.R_alloc | apply Kd.R_drewN | apply Kd.R_drew)); exact HO159.out) (Kd.R_base ho40) hb); have n1_ := Aside0.mk (Kd.R_lower (Kd.R_new' ho40 (Kd.R_lt (by (with_reducible repeat (first | apply Kd.R_alloc | apply Kd.R_drewN | apply Kd.R_drew)); exact HO159.out))) (below_size (by repeat (first | (with_reducible first | exact HB.out | apply below_alloc | apply pw_below_drewN | apply below_drew1) | exact HB.out)))); have n2_ := Aside0.mk (below_step (by repeat (first | (with_reducible first | exact HB.out | apply below_alloc | apply pw_below_drewN | apply below_drew1) | exact HB.out)) hb); clear HO159; clear HB; have HO159 := n0_; have HO162 := n1_; have HB := n2_; clear n0_ n1_ n2_; clear hb ho40; obtain ⟨Ao42, co42, eo42⟩ := Kd.R_slice HO159.out; subst eo42) | ((with_reducible refine gate_builtin (b := .append) (xs := #[.tmp 79, .tmp 80]) rfl ?_); (try (refine gate_guard (by rfl) ?_; dsimp only)); at_builtin; refine Kd.R_append_rows Kd.string (w0 := w) w.heap.size rfl (.tmp 79) (.tmp 80) 22 9 (.string ⟨#[]⟩) 16 rfl Tryd.underlying22 info9 rfl (by decide) (by omega) v161 y160 t156 _ _ _ (fun k_ => some k_ ≠ (.slice Ao42 t156.length co42 : Value).ownBlock) (fun _ => False) rfl rfl ?aO ?aR (fun _ _ h => h) (fun _ h => h.elim) ?aF ?aB ?aS ?aL ?_; (case aR => repeat (first | exact (Kd.R_reads' HO159.out).2.2 | (with_reducible refine Kd.C_alloc ?_ _) | (with_reducible refine Kd.C_drewN ?_ _) | (with_reducible refine Kd.C_drew ?_))); (case aB => exact (by repeat (first | (with_reducible first | exact HB.out | apply below_alloc | apply pw_below_drewN | apply below_drew1) | exact HB.out))); (case aF => exact (fun k_ hk => Kd.fresh' (Kd.R_lt (by (with_reducible repeat (first | apply Kd.R_alloc | apply Kd.R_drewN | apply Kd.R_drew)); exact HO159.out)) k_ hk)); (case aO => exact (by (with_reducible repeat (first | apply Kd.R_alloc | apply Kd.R_drewN | apply Kd.R_drew)); exact Kd.R_mono HO162.out (fun _ hk => hk.2))); (case aS => exact (below_size (by repeat (first | (with_reducible first | exact HB.out | apply below_alloc | apply pw_below_drewN | apply below_drew1) | exact HB.out)))); (case aL => have := LMc35.out; omega); intro v164 w41 ho hb hg hat; rw [← Ny163.out] at ho; have n0_ := Aside0.mk (Kd.R_after (ok := (fun _ => True)) (by (with_reducible repeat (first | apply Kd.R_alloc | apply Kd.R_drewN | apply Kd.R_drew)); exact HO159.out) hg hat); have n1_ := Aside0.mk (hb); have n2_ := Aside0.mk (ho); clear HO159; clear HB; clear HO162; have HO159 := n0_; have HB := n1_; have HO165 := n2_; clear n0_ n1_ n2_; clear ho hb hg hat) | ((with_reducible refine gate_callee (f := 32) rfl ?_); refine goesL_ (some 84) rfl rfl Tryd.func32 (by kernel_rfl) rfl #[.string (rdOf ByteArray.empty l3 (ji13)), .string t157] rfl (by (try simp only [List.map_toArray, List.map_cons, List.map_nil]); first | done | (simp only [hji13]; rfl) | rfl | (simp only [List.length_drop, List.length_take]; rfl) | (simp only [ByteArray.size_extract, ByteArray.size_append, Nat.sub_zero]; done) | (simp only [ByteArray.size_extract, ByteArray.size_append, Nat.sub_zero]; (rw [IntWalk.wrap64_in _ (by omega)]) <;> rfl)) ?_; (with_reducible refine (digest_Node.calls (rdOf ByteArray.empty l3 (ji13)) t157 t166 _ ?side1 A36.out).mono ?_); (case side1 => exact Aside0.mk (Laid.below HG.out (by repeat (first | (with_reducible first | exact HB.out | apply below_alloc | apply pw_below_drewN | apply below_drew1) | exact HB.out)))); rintro e w43 ⟨rfl, hb⟩; refine ⟨_, rfl, ?_⟩; have n0_ := Aside0.mk (Kd.R_below (by (with_reducible repeat (first | apply Kd.R_alloc | apply Kd.R_drewN | apply Kd.R_drew)); exact HO159.out) hb); have n1_ := Aside0.mk (Kd.R_below (by (with_reducible repeat (first | apply Kd.R_alloc | apply Kd.R_drewN | apply Kd.R_drew)); exact HO165.out) hb); have n2_ := Aside0.mk (below_step (by repeat (first | (with_reducible first | exact HB.out | apply below_alloc | apply pw_below_drewN | apply below_drew1) | exact HB.out)) hb); clear HO159; clear HO165; clear HB; have HO159 := n0_; have HO165 := n1_; have HB := n2_; clear n0_ n1_ n2_; (try clear hb); (try clear hb2); (try clear hk); (try clear hi)))
                      go_ret2
                      exact ⟨_, by first | rfl | (simp [errW_none, errW_some] <;> rfl) | (simp only [← hji13]; first | rfl | (simp [errW_none, errW_some] <;> rfl)) | (simp [*, errW_none, errW_some] <;> rfl), by (with_reducible repeat (first | apply Kd.R_alloc | apply Kd.R_drewN | apply Kd.R_drew)); exact Kd.R_mono HO165.out (fun _ hk => trivial), by repeat (first | (with_reducible first | exact HB.out | apply below_alloc | apply pw_below_drewN | apply below_drew1) | exact HB.out)⟩
                    · rw [if_neg c35] at H
                      exact absurd H (by simp)
                  · rw [if_neg c34] at H
                    exact absurd H (by simp)
                · rw [if_neg c33] at H
                  exact absurd H (by simp)
            · rw [if_neg c17] at H
              exact absurd H (by simp)
          · rw [if_neg c15] at H
            exact absurd H (by simp)
        · rw [if_neg c14] at H
          exact absurd H (by simp)

end Go.Proofs.YtabjfogmcehemaaDoor.Pd

-- Written by a patched scratch copy of the kit's print program (wip/tools of this session's repo), not by print.sh.
namespace Go.Proofs.YtabjfogmcehemaaDoor.Pd
open Go.RowKit Go.Proofs.YtabjfogmcehemaaDoorW.PrintWords Go.Proofs.YtabjfogmcehemaaDoorW.PrintLast Go.Proofs.YtabjfogmcehemaaDoorW.PrintMore
attribute [local go_sem] max2_int min2_int max_two min_two max_three min_three max_four min_four   -- for this text's walks alone
set_option linter.unusedVariables false
set_option linter.unusedSimpArgs false

/-! ### w_collide: function 27 -/
mutual
def w_collide.l0 : Nat → List ByteArray → List ByteArray → Int → Option (Bool)
  | 0, _, _, _ => none
  | k + 1, x0, x1, x5 => if x5 < (x0.length : Int) then (w_collide.j1 k x0 x1 x5 (decide (x5 < (x1.length : Int)))) else (w_collide.j1 k x0 x1 x5 false)
def w_collide.j1 : Nat → List ByteArray → List ByteArray → Int → Bool → Option (Bool)
  | 0, _, _, _, _ => none
  | k + 1, x0, x1, x5, x15 => if x15 = true then (if 0 ≤ x5 then (if x5 < (x0.length : Int) then (if x5 < (x1.length : Int) then (if (rdOf ByteArray.empty x0 x5).toList = (rdOf ByteArray.empty x1 x5).toList then (w_collide.l0 k x0 x1 (wrap64 (x5 + 1))) else ((digest_Sum.f (rdOf ByteArray.empty x0 x5)).bind fun t170 => ((digest_Sum.f (rdOf ByteArray.empty x1 x5)).bind fun t172 => (if t170.toList = t172.toList then (some true) else (w_collide.l0 k x0 x1 (wrap64 (x5 + 1))))))) else (none)) else (none)) else (none)) else (some false)
end
def w_collide.f (k : Nat) (l0 : List ByteArray) (l1 : List ByteArray) : Option (Bool) := w_collide.l0 k l0 l1 0
theorem w_collide.mono_l : ∀ k, (∀ y0 y1 y2, LeO (w_collide.l0 k y0 y1 y2) (w_collide.l0 (k + 1) y0 y1 y2)) ∧ (∀ y0 y1 y2 y3, LeO (w_collide.j1 k y0 y1 y2 y3) (w_collide.j1 (k + 1) y0 y1 y2 y3))
  | 0 => ⟨fun _ _ _ r h => by simp [w_collide.l0] at h, fun _ _ _ _ r h => by simp [w_collide.j1] at h⟩
  | k + 1 => by
    obtain ⟨ih0, ih1⟩ := w_collide.mono_l k
    refine ⟨?_, ?_⟩
    · intro y0 y1 y2
      unfold w_collide.l0
      repeat' first
      | (with_reducible exact ih0 _ _ _)
      | (with_reducible exact ih1 _ _ _ _)
      | (with_reducible exact LeO.refl _)
      | (with_reducible exact LeO.none _)
      | (with_reducible refine LeO.ite ?_ ?_)
      | (with_reducible refine LeO.bind ?_ (fun _ => ?_))
      | exact ih0 _ _ _
      | exact ih1 _ _ _ _
      | exact LeO.none _
      | refine LeO.ite ?_ ?_
      | refine LeO.bind ?_ (fun _ => ?_)
    · intro y0 y1 y2 y3
      unfold w_collide.j1
      repeat' first
      | (with_reducible exact ih0 _ _ _)
      | (with_reducible exact ih1 _ _ _ _)
      | (with_reducible exact LeO.refl _)
      | (with_reducible exact LeO.none _)
      | (with_reducible refine LeO.ite ?_ ?_)
      | (with_reducible refine LeO.bind ?_ (fun _ => ?_))
      | exact ih0 _ _ _
      | exact ih1 _ _ _ _
      | exact LeO.none _
      | refine LeO.ite ?_ ?_
      | refine LeO.bind ?_ (fun _ => ?_)
theorem w_collide.mono : ∀ a0 a1 k, LeO (w_collide.f k a0 a1) (w_collide.f (k + 1) a0 a1) := by
  intro a0 a1 k
  obtain ⟨ih0, ih1⟩ := w_collide.mono_l k
  unfold w_collide.f
  repeat' first
      | (with_reducible exact ih0 _ _ _)
      | (with_reducible exact ih1 _ _ _ _)
      | (with_reducible exact LeO.refl _)
      | (with_reducible exact LeO.none _)
      | (with_reducible refine LeO.ite ?_ ?_)
      | (with_reducible refine LeO.bind ?_ (fun _ => ?_))
      | exact ih0 _ _ _
      | exact ih1 _ _ _ _
      | exact LeO.none _
      | refine LeO.ite ?_ ?_
      | refine LeO.bind ?_ (fun _ => ?_)
def w_collide.T4 : Bool × List (List Nat × List Nat) := (true, [([], []), ([], []), ([0, 1], [0, 1]), ([2], [2]), ([], []), ([], []), ([4, 5], [4, 5]), ([6], [6]), ([3, 7], [3, 7]), ([8], [8]), ([9], [9]), ([9], [9]), ([10, 11, 9], [9, 10, 11]), ([12, 9], [9, 12]), ([13, 9, 9], [9, 13]), ([9], [9]), ([9], [9]), ([15, 16, 9], [9, 15, 16]), ([17, 9], [9, 17]), ([18, 14, 9], [9, 18]), ([14, 19, 9], [9, 14, 19]), ([9, 20], [9, 20])])
def w_collide.B4 : List Nat := [0, 0, 3, 7, 0, 0, 48, 112, 255, 511, 1023, 1023, 4095, 8191, 16383, 1023, 1023, 99327, 230399, 524287, 1048575, 2097151]
theorem w_collide.tab4 : rtab .any (opsOf Tryd.f27 4) = w_collide.T4 := by kernel_rfl
theorem w_collide.bits4 : waitsOk w_collide.T4.2 w_collide.B4 = true := by kernel_rfl
set_option maxHeartbeats 8000000 in
set_option maxRecDepth 100000 in
theorem w_collide.calls (k : Nat) (A0 : Option Addr) (c0 : Nat) (l0 : List ByteArray) (A1 : Option Addr) (c1 : Nat) (l1 : List ByteArray) (r : Bool) (w : World) (HG : Aside0 (Laid w)) (hr0 : Kd.C Kd.string w A0 l0.length l0) (hc0 : l0.length ≤ c0) (hr1 : Kd.C Kd.string w A1 l1.length l1) (hc1 : l1.length ≤ c1) (h : w_collide.f k l0 l1 = some r) :
    Calls Tryd.prog 27 #[.slice A0 l0.length c0, .slice A1 l1.length c1] w fun e w' => e = .returned (.bool r) ∧ Below w.heap.size w w' := by
  have HR0 := Aside0.mk hr0
  have HC0 := Aside0.mk hc0
  clear hr0 hc0
  have HR1 := Aside0.mk hr1
  have HC1 := Aside0.mk hc1
  clear hr1 hc1
  have HB := Aside0.mk (Below.refl w.heap.size w)
  have H : (w_collide.l0 k l0 l1 0) = some r := h
  clear h
  have H' := Aside0.mk H
  clear H
  go_enter Tryd.func27, Tryd.ntmps27
  go_wp2
  go_loopg [5] k (fun kq v5 w' => ∃ (x5_1 : Int), v5 = .int .i64 x5_1 ∧ Aside0 (w_collide.l0 kq l0 l1 x5_1 = some r) ∧ Aside0 (kq ≤ k) ∧ Aside0 (Below w.heap.size w w'))
  case atStart => exact ⟨(0), (by first | rfl | (simp; done) | (simp [*]; done)), H', ⟨Nat.le_refl _⟩, ⟨by repeat (first | (with_reducible first | exact HB.out | apply below_alloc | apply pw_below_drewN | apply below_drew1) | exact HB.out)⟩⟩
  case round =>
    clear H'
    try clear c1
    try clear c2
    try clear p2
    obtain ⟨x5_1, rfl, HA, HK1, HB⟩ := hrel
    cases gk with
    | zero => exact absurd HA.out (by simp [w_collide.l0])
    | succ k1 =>
      have H := HA.out
      clear HA
      simp only [w_collide.l0] at H
      have HC3 := Aside0.mk H
      clear H
      go_upto_region 2 with (fail)
      go_cut [15] (fun v15 wc => ∃ (kq : Nat) (x15_2 : Bool), v15 = .bool x15_2 ∧ Aside0 (w_collide.j1 kq l0 l1 x5_1 x15_2 = some r) ∧ Aside0 (kq ≤ k1) ∧ Aside0 (Below w.heap.size w wc))
      case first =>
        have H := HC3.out
        clear HC3
        by_cases c4 : x5_1 < (l0.length : Int)
        · rw [if_pos c4] at H
          have c4b0 : decide (x5_1 < (l0.length : Int)) = true := decide_eq_true c4
          clear c4
          (first | rw [c4b0] | (simp only [i64_w, i32_w]; rw [c4b0]) | skip)
          have H' := Aside0.mk H
          clear H
          go_wp2
          go_meet
          case rel => exact ⟨_, (decide (x5_1 < (l1.length : Int))), (by first | rfl | (simp; done) | (simp [*]; done)), H', ⟨by have := HK1.out; first | omega | exact Nat.le_refl _⟩, ⟨by repeat (first | (with_reducible first | exact HB.out | apply below_alloc | apply pw_below_drewN | apply below_drew1) | exact HB.out)⟩⟩
        · rw [if_neg c4] at H
          have c4b0 : decide (x5_1 < (l0.length : Int)) = false := decide_eq_false c4
          clear c4
          (first | rw [c4b0] | (simp only [i64_w, i32_w]; rw [c4b0]) | skip)
          have H' := Aside0.mk H
          clear H
          go_wp2
          go_meet
          case rel => exact ⟨_, (false), (by first | rfl | (simp; done) | (simp [*]; done)), H', ⟨by have := HK1.out; first | omega | exact Nat.le_refl _⟩, ⟨by repeat (first | (with_reducible first | exact HB.out | apply below_alloc | apply pw_below_drewN | apply below_drew1) | exact HB.out)⟩⟩
      case rest =>
        clear HC3
        try clear c1
        try clear c2
        try clear p2
        try clear c4
        try clear c4b0
        try clear p2
        obtain ⟨kq, x15_2, rfl, HA, HJ2, HB⟩ := hcut
        cases kq with
        | zero => exact absurd HA.out (by simp [w_collide.j1])
        | succ kj2 =>
          have H := HA.out
          clear HA
          simp only [w_collide.j1] at H
          by_cases c5 : x15_2 = true
          · subst c5
            have H1 : (if 0 ≤ x5_1 then (if x5_1 < (l0.length : Int) then (if x5_1 < (l1.length : Int) then (if (rdOf ByteArray.empty l0 x5_1).toList = (rdOf ByteArray.empty l1 x5_1).toList then (w_collide.l0 kj2 l0 l1 (wrap64 (x5_1 + 1))) else ((digest_Sum.f (rdOf ByteArray.empty l0 x5_1)).bind fun t170 => ((digest_Sum.f (rdOf ByteArray.empty l1 x5_1)).bind fun t172 => (if t170.toList = t172.toList then (some true) else (w_collide.l0 kj2 l0 l1 (wrap64 (x5_1 + 1))))))) else (none)) else (none)) else (none)) = some r := by rw [if_pos rfl] at H; exact H
            clear H
            have H := H1
            clear H1
            by_cases c6 : 0 ≤ x5_1
            · rw [if_pos c6] at H
              have c6b0 : decide (0 ≤ x5_1) = true := decide_eq_true c6
              clear c6
              by_cases c7 : x5_1 < (l0.length : Int)
              · rw [if_pos c7] at H
                have c7b0 : decide (x5_1 < (l0.length : Int)) = true := decide_eq_true c7
                clear c7
                by_cases c8 : x5_1 < (l1.length : Int)
                · rw [if_pos c8] at H
                  have c8b0 : decide (x5_1 < (l1.length : Int)) = true := decide_eq_true c8
                  clear c8
                  by_cases c9 : (rdOf ByteArray.empty l0 x5_1).toList = (rdOf ByteArray.empty l1 x5_1).toList
                  · rw [if_pos c9] at H
                    have c9b0 : ((rdOf ByteArray.empty l0 x5_1).toList == (rdOf ByteArray.empty l1 x5_1).toList) = true := beq_iff_eq.mpr c9
                    have c9b1 : ((rdOf ByteArray.empty l0 x5_1).toList != (rdOf ByteArray.empty l1 x5_1).toList) = false := bne_eq_false_iff_eq.mpr c9
                    clear c9
                    have H' := Aside0.mk H
                    clear H
                    try go_wp2
                    have n0_ := Aside0.mk (below_drew1 HB.out)
                    clear HB
                    have HB := n0_
                    clear n0_
                    have p167 : 0 ≤ (x5_1 : Int) := of_decide_eq_true (by first | (with_reducible assumption) | assumption)
                    have q167 : x5_1 < (l0.length : Int) := of_decide_eq_true (by first | (with_reducible assumption) | assumption)
                    obtain ⟨ad167, e167, hx167_0⟩ := Kd.at_string HR0.out x5_1 p167 q167
                    have hw167_0 := hx167_0
                    cases e167
                    replace hx167_0 := (HB.out.cell (World.block_lt_of_cell? w _ hx167_0)).trans hx167_0
                    replace p167 := eq_true p167
                    replace q167 := eq_true q167
                    have p168 : 0 ≤ (x5_1 : Int) := of_decide_eq_true (by first | (with_reducible assumption) | assumption)
                    have q168 : x5_1 < (l1.length : Int) := of_decide_eq_true (by first | (with_reducible assumption) | assumption)
                    obtain ⟨ad168, e168, hx168_0⟩ := Kd.at_string HR1.out x5_1 p168 q168
                    have hw168_0 := hx168_0
                    cases e168
                    replace hx168_0 := (HB.out.cell (World.block_lt_of_cell? w _ hx168_0)).trans hx168_0
                    replace p168 := eq_true p168
                    replace q168 := eq_true q168
                    refine start_ (n := 22) (S := fun w' => w'.cell? (ad167.add (x5_1).toNat) = some (.string (rdOf ByteArray.empty l0 x5_1)) ∧ w'.cell? (ad168.add (x5_1).toNat) = some (.string (rdOf ByteArray.empty l1 x5_1))) (ds := []) #[false, false, false, false, false, false, false, false, false, false, false, false, false, false, false, false, false, false, false, false, false, false] (by kernel_rfl) rfl rfl ⟨((HB.out.cell (World.block_lt_of_cell? w _ hw167_0)).trans hw167_0), ((HB.out.cell (World.block_lt_of_cell? w _ hw168_0)).trans hw168_0)⟩ (fun hHeld => ?_); refine with_tabW w_collide.tab4 w_collide.bits4 (fun HT_ HW_ => ?_)
                    generalize wc.drew = w10 at HB hx167_0 hx168_0 hHeld ⊢
                    refine pure_ (i := 0) (N := some 18) (v := ?_) (a' := ?_) #[true, false, false, false, false, false, false, false, false, false, false, false, false, false, false, false, false, false, false, false, false, false] rfl rfl (any_of HT_.out (by kernel_rfl)) (fun _ _ _ h => h) (Or.inl ⟨by rfl, ?_⟩) ?_ ?_
                    rotate_left
                    · intro w'
                      go_simp
                      with_reducible rfl
                    rotate_left
                    · simp only [Act.put, List.setIfInBounds_toArray, List.set_cons_zero, List.set_cons_succ, i64_w, i32_w]
                      rfl
                    refine pure_ (i := 1) (N := some 19) (v := ?_) (a' := ?_) #[true, true, false, false, false, false, false, false, false, false, false, false, false, false, false, false, false, false, false, false, false, false] rfl rfl (any_of HT_.out (by kernel_rfl)) (fun _ _ _ h => h) (Or.inl ⟨by rfl, ?_⟩) ?_ ?_
                    rotate_left
                    · intro w'
                      go_simp
                      with_reducible rfl
                    rotate_left
                    · simp only [Act.put, List.setIfInBounds_toArray, List.set_cons_zero, List.set_cons_succ, i64_w, i32_w]
                      rfl
                    refine pure_ (i := 2) (N := some 20) (v := ?_) (a' := ?_) #[true, true, true, false, false, false, false, false, false, false, false, false, false, false, false, false, false, false, false, false, false, false] rfl rfl (any_of HT_.out (by kernel_rfl)) (fun _ _ _ h => h) (Or.inl ⟨by rfl, ?_⟩) ?_ ?_
                    rotate_left
                    · intro w'
                      go_simp
                      with_reducible rfl
                    rotate_left
                    · simp only [Act.put, List.setIfInBounds_toArray, List.set_cons_zero, List.set_cons_succ, i64_w, i32_w]
                      rfl
                    refine pure_ (i := 4) (N := some 22) (v := ?_) (a' := ?_) #[true, true, true, false, true, false, false, false, false, false, false, false, false, false, false, false, false, false, false, false, false, false] rfl rfl (any_of HT_.out (by kernel_rfl)) (fun _ _ _ h => h) (Or.inl ⟨by rfl, ?_⟩) ?_ ?_
                    rotate_left
                    · intro w'
                      go_simp
                      with_reducible rfl
                    rotate_left
                    · simp only [Act.put, List.setIfInBounds_toArray, List.set_cons_zero, List.set_cons_succ, i64_w, i32_w]
                      rfl
                    refine pure_ (i := 5) (N := some 23) (v := ?_) (a' := ?_) #[true, true, true, false, true, true, false, false, false, false, false, false, false, false, false, false, false, false, false, false, false, false] rfl rfl (any_of HT_.out (by kernel_rfl)) (fun _ _ _ h => h) (Or.inl ⟨by rfl, ?_⟩) ?_ ?_
                    rotate_left
                    · intro w'
                      go_simp
                      with_reducible rfl
                    rotate_left
                    · simp only [Act.put, List.setIfInBounds_toArray, List.set_cons_zero, List.set_cons_succ, i64_w, i32_w]
                      rfl
                    refine pure_ (i := 6) (N := some 24) (v := ?_) (a' := ?_) #[true, true, true, false, true, true, true, false, false, false, false, false, false, false, false, false, false, false, false, false, false, false] rfl rfl (any_of HT_.out (by kernel_rfl)) (fun _ _ _ h => h) (Or.inl ⟨by rfl, ?_⟩) ?_ ?_
                    rotate_left
                    · intro w'
                      go_simp
                      with_reducible rfl
                    rotate_left
                    · simp only [Act.put, List.setIfInBounds_toArray, List.set_cons_zero, List.set_cons_succ, i64_w, i32_w]
                      rfl
                    refine take_ (i := 3) (N := some 21) (v := ?_) (a' := ?_) #[true, true, true, true, true, true, true, false, false, false, false, false, false, false, false, false, false, false, false, false, false, false] rfl rfl (take_ofW HT_.out HW_.out (by kernel_rfl)) (fun _ _ _ h => h) (Or.inl ⟨by rfl, ?_⟩) hHeld ?_ ?_
                    rotate_left
                    · rintro w' ⟨s0, s1⟩
                      go_simp
                      with_reducible rfl
                    rotate_left
                    · simp only [Act.put, List.setIfInBounds_toArray, List.set_cons_zero, List.set_cons_succ, i64_w, i32_w]
                      rfl
                    refine take_ (i := 7) (N := some 25) (v := ?_) (a' := ?_) #[true, true, true, true, true, true, true, true, false, false, false, false, false, false, false, false, false, false, false, false, false, false] rfl rfl (take_ofW HT_.out HW_.out (by kernel_rfl)) (fun _ _ _ h => h) (Or.inl ⟨by rfl, ?_⟩) hHeld ?_ ?_
                    rotate_left
                    · rintro w' ⟨s0, s1⟩
                      go_simp
                      with_reducible rfl
                    rotate_left
                    · simp only [Act.put, List.setIfInBounds_toArray, List.set_cons_zero, List.set_cons_succ, i64_w, i32_w]
                      rfl
                    refine pure_ (i := 8) (N := some 26) (v := ?_) (a' := ?_) #[true, true, true, true, true, true, true, true, true, false, false, false, false, false, false, false, false, false, false, false, false, false] rfl rfl (any_of HT_.out (by kernel_rfl)) (fun _ _ _ h => h) (Or.inl ⟨by rfl, ?_⟩) ?_ ?_
                    rotate_left
                    · intro w'
                      go_simp
                      with_reducible rfl
                    rotate_left
                    · simp only [Act.put, List.setIfInBounds_toArray, List.set_cons_zero, List.set_cons_succ, i64_w, i32_w]
                      rfl
                    refine pure_ (i := 9) (N := some 27) (v := ?_) (a' := ?_) #[true, true, true, true, true, true, true, true, true, true, false, false, false, false, false, false, false, false, false, false, false, false] rfl rfl (any_of HT_.out (by kernel_rfl)) (fun _ _ _ h => h) (Or.inl ⟨by rfl, ?_⟩) ?_ ?_
                    rotate_left
                    · intro w'
                      go_simp
                      with_reducible rfl
                    rotate_left
                    · simp only [Act.put, List.setIfInBounds_toArray, List.set_cons_zero, List.set_cons_succ, i64_w, i32_w]
                      rfl
                    refine pure_ (i := 10) (N := some 28) (v := undef) (a' := ?_) #[true, true, true, true, true, true, true, true, true, true, true, false, false, false, false, false, false, false, false, false, false, false] rfl rfl (any_of HT_.out (by kernel_rfl)) (fun _ _ _ h => h) (Or.inr ⟨by rfl, rfl⟩) ?_ ?_
                    rotate_left
                    · simp only [Act.put, List.setIfInBounds_toArray, List.set_cons_zero, List.set_cons_succ, i64_w, i32_w]
                      rfl
                    refine pure_ (i := 11) (N := some 29) (v := undef) (a' := ?_) #[true, true, true, true, true, true, true, true, true, true, true, true, false, false, false, false, false, false, false, false, false, false] rfl rfl (any_of HT_.out (by kernel_rfl)) (fun _ _ _ h => h) (Or.inr ⟨by rfl, rfl⟩) ?_ ?_
                    rotate_left
                    · simp only [Act.put, List.setIfInBounds_toArray, List.set_cons_zero, List.set_cons_succ, i64_w, i32_w]
                      rfl
                    refine pure_ (i := 12) (N := some 30) (v := undef) (a' := ?_) #[true, true, true, true, true, true, true, true, true, true, true, true, true, false, false, false, false, false, false, false, false, false] rfl rfl (any_of HT_.out (by kernel_rfl)) (fun _ _ _ h => h) (Or.inr ⟨by rfl, rfl⟩) ?_ ?_
                    rotate_left
                    · simp only [Act.put, List.setIfInBounds_toArray, List.set_cons_zero, List.set_cons_succ, i64_w, i32_w]
                      rfl
                    refine pure_ (i := 13) (N := some 31) (v := undef) (a' := ?_) #[true, true, true, true, true, true, true, true, true, true, true, true, true, true, false, false, false, false, false, false, false, false] rfl rfl (any_of HT_.out (by kernel_rfl)) (fun _ _ _ h => h) (Or.inr ⟨by rfl, rfl⟩) ?_ ?_
                    rotate_left
                    · simp only [Act.put, List.setIfInBounds_toArray, List.set_cons_zero, List.set_cons_succ, i64_w, i32_w]
                      rfl
                    refine pure_ (i := 14) (N := some 32) (v := undef) (a' := ?_) #[true, true, true, true, true, true, true, true, true, true, true, true, true, true, true, false, false, false, false, false, false, false] rfl rfl (any_of HT_.out (by kernel_rfl)) (fun _ _ _ h => h) (Or.inr ⟨by rfl, rfl⟩) ?_ ?_
                    rotate_left
                    · simp only [Act.put, List.setIfInBounds_toArray, List.set_cons_zero, List.set_cons_succ, i64_w, i32_w]
                      rfl
                    refine pure_ (i := 15) (N := some 33) (v := undef) (a' := ?_) #[true, true, true, true, true, true, true, true, true, true, true, true, true, true, true, true, false, false, false, false, false, false] rfl rfl (any_of HT_.out (by kernel_rfl)) (fun _ _ _ h => h) (Or.inr ⟨by rfl, rfl⟩) ?_ ?_
                    rotate_left
                    · simp only [Act.put, List.setIfInBounds_toArray, List.set_cons_zero, List.set_cons_succ, i64_w, i32_w]
                      rfl
                    refine pure_ (i := 16) (N := some 34) (v := undef) (a' := ?_) #[true, true, true, true, true, true, true, true, true, true, true, true, true, true, true, true, true, false, false, false, false, false] rfl rfl (any_of HT_.out (by kernel_rfl)) (fun _ _ _ h => h) (Or.inr ⟨by rfl, rfl⟩) ?_ ?_
                    rotate_left
                    · simp only [Act.put, List.setIfInBounds_toArray, List.set_cons_zero, List.set_cons_succ, i64_w, i32_w]
                      rfl
                    refine pure_ (i := 17) (N := some 35) (v := undef) (a' := ?_) #[true, true, true, true, true, true, true, true, true, true, true, true, true, true, true, true, true, true, false, false, false, false] rfl rfl (any_of HT_.out (by kernel_rfl)) (fun _ _ _ h => h) (Or.inr ⟨by rfl, rfl⟩) ?_ ?_
                    rotate_left
                    · simp only [Act.put, List.setIfInBounds_toArray, List.set_cons_zero, List.set_cons_succ, i64_w, i32_w]
                      rfl
                    refine pure_ (i := 18) (N := some 36) (v := undef) (a' := ?_) #[true, true, true, true, true, true, true, true, true, true, true, true, true, true, true, true, true, true, true, false, false, false] rfl rfl (any_of HT_.out (by kernel_rfl)) (fun _ _ _ h => h) (Or.inr ⟨by rfl, rfl⟩) ?_ ?_
                    rotate_left
                    · simp only [Act.put, List.setIfInBounds_toArray, List.set_cons_zero, List.set_cons_succ, i64_w, i32_w]
                      rfl
                    refine pure_ (i := 19) (N := some 37) (v := undef) (a' := ?_) #[true, true, true, true, true, true, true, true, true, true, true, true, true, true, true, true, true, true, true, true, false, false] rfl rfl (any_of HT_.out (by kernel_rfl)) (fun _ _ _ h => h) (Or.inr ⟨by rfl, rfl⟩) ?_ ?_
                    rotate_left
                    · simp only [Act.put, List.setIfInBounds_toArray, List.set_cons_zero, List.set_cons_succ, i64_w, i32_w]
                      rfl
                    refine pure_ (i := 20) (N := some 38) (v := undef) (a' := ?_) #[true, true, true, true, true, true, true, true, true, true, true, true, true, true, true, true, true, true, true, true, true, false] rfl rfl (any_of HT_.out (by kernel_rfl)) (fun _ _ _ h => h) (Or.inr ⟨by rfl, rfl⟩) ?_ ?_
                    rotate_left
                    · simp only [Act.put, List.setIfInBounds_toArray, List.set_cons_zero, List.set_cons_succ, i64_w, i32_w]
                      rfl
                    refine pure_ (i := 21) (N := some 39) (v := ?_) (a' := ?_) #[true, true, true, true, true, true, true, true, true, true, true, true, true, true, true, true, true, true, true, true, true, true] rfl rfl (any_of HT_.out (by kernel_rfl)) (fun _ _ _ h => h) (Or.inl ⟨by rfl, ?_⟩) ?_ ?_
                    rotate_left
                    · intro w'
                      go_simp
                      with_reducible rfl
                    rotate_left
                    · simp only [Act.put, List.setIfInBounds_toArray, List.set_cons_zero, List.set_cons_succ, i64_w, i32_w]
                      rfl
                    refine done_ (done_of HT_.out (by kernel_rfl)) ?_
                    try go_wp2
                    go_roundg kj2
                    case measure => have := HK1.out; have := HJ2.out; omega
                    case rel => exact ⟨(wrap64 (x5_1 + 1)), (by first | rfl | (simp; done) | (simp [*]; done)), H', ⟨by have := HK1.out; have := HJ2.out; omega⟩, ⟨by repeat (first | (with_reducible first | exact HB.out | apply below_alloc | apply pw_below_drewN | apply below_drew1) | exact HB.out)⟩⟩
                  · rw [if_neg c9] at H
                    have c9b0 : ((rdOf ByteArray.empty l0 x5_1).toList == (rdOf ByteArray.empty l1 x5_1).toList) = false := beq_eq_false_iff_ne.mpr c9
                    have c9b1 : ((rdOf ByteArray.empty l0 x5_1).toList != (rdOf ByteArray.empty l1 x5_1).toList) = true := bne_iff_ne.mpr c9
                    replace H := Option.bind_eq_some_iff.mp H
                    obtain ⟨t170, A110, H⟩ := H
                    replace H : ((digest_Sum.f (rdOf ByteArray.empty l1 x5_1)).bind fun t172 => (if t170.toList = t172.toList then (some true) else (w_collide.l0 kj2 l0 l1 (wrap64 (x5_1 + 1))))) = some r := H
                    have A11 := Aside0.mk A110
                    clear A110
                    replace H := Option.bind_eq_some_iff.mp H
                    obtain ⟨t172, A120, H⟩ := H
                    replace H : (if t170.toList = t172.toList then (some true) else (w_collide.l0 kj2 l0 l1 (wrap64 (x5_1 + 1)))) = some r := H
                    have A12 := Aside0.mk A120
                    clear A120
                    by_cases c13 : t170.toList = t172.toList
                    · rw [if_pos c13] at H
                      have c13b0 : (t170.toList == t172.toList) = true := beq_iff_eq.mpr c13
                      have c13b1 : (t170.toList != t172.toList) = false := bne_eq_false_iff_eq.mpr c13
                      clear c13
                      obtain rfl := Option.some.inj H
                      try go_wp2
                      have n0_ := Aside0.mk (below_drew1 HB.out)
                      clear HB
                      have HB := n0_
                      clear n0_
                      have p167 : 0 ≤ (x5_1 : Int) := of_decide_eq_true (by first | (with_reducible assumption) | assumption)
                      have q167 : x5_1 < (l0.length : Int) := of_decide_eq_true (by first | (with_reducible assumption) | assumption)
                      obtain ⟨ad167, e167, hx167_0⟩ := Kd.at_string HR0.out x5_1 p167 q167
                      have hw167_0 := hx167_0
                      cases e167
                      replace hx167_0 := (HB.out.cell (World.block_lt_of_cell? w _ hx167_0)).trans hx167_0
                      replace p167 := eq_true p167
                      replace q167 := eq_true q167
                      have p168 : 0 ≤ (x5_1 : Int) := of_decide_eq_true (by first | (with_reducible assumption) | assumption)
                      have q168 : x5_1 < (l1.length : Int) := of_decide_eq_true (by first | (with_reducible assumption) | assumption)
                      obtain ⟨ad168, e168, hx168_0⟩ := Kd.at_string HR1.out x5_1 p168 q168
                      have hw168_0 := hx168_0
                      cases e168
                      replace hx168_0 := (HB.out.cell (World.block_lt_of_cell? w _ hx168_0)).trans hx168_0
                      replace p168 := eq_true p168
                      replace q168 := eq_true q168
                      have p169 : 0 ≤ (x5_1 : Int) := of_decide_eq_true (by first | (with_reducible assumption) | assumption)
                      have q169 : x5_1 < (l0.length : Int) := of_decide_eq_true (by first | (with_reducible assumption) | assumption)
                      obtain ⟨ad169, e169, hx169_0⟩ := Kd.at_string HR0.out x5_1 p169 q169
                      have hw169_0 := hx169_0
                      obtain rfl : ad167 = ad169 := (by injection e169)
                      replace hx169_0 := (HB.out.cell (World.block_lt_of_cell? w _ hx169_0)).trans hx169_0
                      replace p169 := eq_true p169
                      replace q169 := eq_true q169
                      have p171 : 0 ≤ (x5_1 : Int) := of_decide_eq_true (by first | (with_reducible assumption) | assumption)
                      have q171 : x5_1 < (l1.length : Int) := of_decide_eq_true (by first | (with_reducible assumption) | assumption)
                      obtain ⟨ad171, e171, hx171_0⟩ := Kd.at_string HR1.out x5_1 p171 q171
                      have hw171_0 := hx171_0
                      obtain rfl : ad168 = ad171 := (by injection e171)
                      replace hx171_0 := (HB.out.cell (World.block_lt_of_cell? w _ hx171_0)).trans hx171_0
                      replace p171 := eq_true p171
                      replace q171 := eq_true q171
                      refine start_ (n := 22) (S := fun w' => w'.cell? (ad167.add (x5_1).toNat) = some (.string (rdOf ByteArray.empty l0 x5_1)) ∧ w'.cell? (ad168.add (x5_1).toNat) = some (.string (rdOf ByteArray.empty l1 x5_1)) ∧ w'.cell? (ad167.add (x5_1).toNat) = some (.string (rdOf ByteArray.empty l0 x5_1)) ∧ w'.cell? (ad168.add (x5_1).toNat) = some (.string (rdOf ByteArray.empty l1 x5_1))) (ds := []) #[false, false, false, false, false, false, false, false, false, false, false, false, false, false, false, false, false, false, false, false, false, false] (by kernel_rfl) rfl rfl ⟨((HB.out.cell (World.block_lt_of_cell? w _ hw167_0)).trans hw167_0), ((HB.out.cell (World.block_lt_of_cell? w _ hw168_0)).trans hw168_0), ((HB.out.cell (World.block_lt_of_cell? w _ hw169_0)).trans hw169_0), ((HB.out.cell (World.block_lt_of_cell? w _ hw171_0)).trans hw171_0)⟩ (fun hHeld => ?_); refine with_tabW w_collide.tab4 w_collide.bits4 (fun HT_ HW_ => ?_)
                      generalize wc.drew = w14 at HB hx167_0 hx168_0 hx169_0 hx171_0 hHeld ⊢
                      refine pure_ (i := 0) (N := some 18) (v := ?_) (a' := ?_) #[true, false, false, false, false, false, false, false, false, false, false, false, false, false, false, false, false, false, false, false, false, false] rfl rfl (any_of HT_.out (by kernel_rfl)) (fun _ _ _ h => h) (Or.inl ⟨by rfl, ?_⟩) ?_ ?_
                      rotate_left
                      · intro w'
                        go_simp
                        with_reducible rfl
                      rotate_left
                      · simp only [Act.put, List.setIfInBounds_toArray, List.set_cons_zero, List.set_cons_succ, i64_w, i32_w]
                        rfl
                      refine pure_ (i := 1) (N := some 19) (v := ?_) (a' := ?_) #[true, true, false, false, false, false, false, false, false, false, false, false, false, false, false, false, false, false, false, false, false, false] rfl rfl (any_of HT_.out (by kernel_rfl)) (fun _ _ _ h => h) (Or.inl ⟨by rfl, ?_⟩) ?_ ?_
                      rotate_left
                      · intro w'
                        go_simp
                        with_reducible rfl
                      rotate_left
                      · simp only [Act.put, List.setIfInBounds_toArray, List.set_cons_zero, List.set_cons_succ, i64_w, i32_w]
                        rfl
                      refine pure_ (i := 2) (N := some 20) (v := ?_) (a' := ?_) #[true, true, true, false, false, false, false, false, false, false, false, false, false, false, false, false, false, false, false, false, false, false] rfl rfl (any_of HT_.out (by kernel_rfl)) (fun _ _ _ h => h) (Or.inl ⟨by rfl, ?_⟩) ?_ ?_
                      rotate_left
                      · intro w'
                        go_simp
                        with_reducible rfl
                      rotate_left
                      · simp only [Act.put, List.setIfInBounds_toArray, List.set_cons_zero, List.set_cons_succ, i64_w, i32_w]
                        rfl
                      refine pure_ (i := 4) (N := some 22) (v := ?_) (a' := ?_) #[true, true, true, false, true, false, false, false, false, false, false, false, false, false, false, false, false, false, false, false, false, false] rfl rfl (any_of HT_.out (by kernel_rfl)) (fun _ _ _ h => h) (Or.inl ⟨by rfl, ?_⟩) ?_ ?_
                      rotate_left
                      · intro w'
                        go_simp
                        with_reducible rfl
                      rotate_left
                      · simp only [Act.put, List.setIfInBounds_toArray, List.set_cons_zero, List.set_cons_succ, i64_w, i32_w]
                        rfl
                      refine pure_ (i := 5) (N := some 23) (v := ?_) (a' := ?_) #[true, true, true, false, true, true, false, false, false, false, false, false, false, false, false, false, false, false, false, false, false, false] rfl rfl (any_of HT_.out (by kernel_rfl)) (fun _ _ _ h => h) (Or.inl ⟨by rfl, ?_⟩) ?_ ?_
                      rotate_left
                      · intro w'
                        go_simp
                        with_reducible rfl
                      rotate_left
                      · simp only [Act.put, List.setIfInBounds_toArray, List.set_cons_zero, List.set_cons_succ, i64_w, i32_w]
                        rfl
                      refine pure_ (i := 6) (N := some 24) (v := ?_) (a' := ?_) #[true, true, true, false, true, true, true, false, false, false, false, false, false, false, false, false, false, false, false, false, false, false] rfl rfl (any_of HT_.out (by kernel_rfl)) (fun _ _ _ h => h) (Or.inl ⟨by rfl, ?_⟩) ?_ ?_
                      rotate_left
                      · intro w'
                        go_simp
                        with_reducible rfl
                      rotate_left
                      · simp only [Act.put, List.setIfInBounds_toArray, List.set_cons_zero, List.set_cons_succ, i64_w, i32_w]
                        rfl
                      refine take_ (i := 3) (N := some 21) (v := ?_) (a' := ?_) #[true, true, true, true, true, true, true, false, false, false, false, false, false, false, false, false, false, false, false, false, false, false] rfl rfl (take_ofW HT_.out HW_.out (by kernel_rfl)) (fun _ _ _ h => h) (Or.inl ⟨by rfl, ?_⟩) hHeld ?_ ?_
                      rotate_left
                      · rintro w' ⟨s0, s1, s2, s3⟩
                        go_simp
                        with_reducible rfl
                      rotate_left
                      · simp only [Act.put, List.setIfInBounds_toArray, List.set_cons_zero, List.set_cons_succ, i64_w, i32_w]
                        rfl
                      refine take_ (i := 7) (N := some 25) (v := ?_) (a' := ?_) #[true, true, true, true, true, true, true, true, false, false, false, false, false, false, false, false, false, false, false, false, false, false] rfl rfl (take_ofW HT_.out HW_.out (by kernel_rfl)) (fun _ _ _ h => h) (Or.inl ⟨by rfl, ?_⟩) hHeld ?_ ?_
                      rotate_left
                      · rintro w' ⟨s0, s1, s2, s3⟩
                        go_simp
                        with_reducible rfl
                      rotate_left
                      · simp only [Act.put, List.setIfInBounds_toArray, List.set_cons_zero, List.set_cons_succ, i64_w, i32_w]
                        rfl
                      refine pure_ (i := 8) (N := some 26) (v := ?_) (a' := ?_) #[true, true, true, true, true, true, true, true, true, false, false, false, false, false, false, false, false, false, false, false, false, false] rfl rfl (any_of HT_.out (by kernel_rfl)) (fun _ _ _ h => h) (Or.inl ⟨by rfl, ?_⟩) ?_ ?_
                      rotate_left
                      · intro w'
                        go_simp
                        with_reducible rfl
                      rotate_left
                      · simp only [Act.put, List.setIfInBounds_toArray, List.set_cons_zero, List.set_cons_succ, i64_w, i32_w]
                        rfl
                      refine pure_ (i := 9) (N := some 27) (v := ?_) (a' := ?_) #[true, true, true, true, true, true, true, true, true, true, false, false, false, false, false, false, false, false, false, false, false, false] rfl rfl (any_of HT_.out (by kernel_rfl)) (fun _ _ _ h => h) (Or.inl ⟨by rfl, ?_⟩) ?_ ?_
                      rotate_left
                      · intro w'
                        go_simp
                        with_reducible rfl
                      rotate_left
                      · simp only [Act.put, List.setIfInBounds_toArray, List.set_cons_zero, List.set_cons_succ, i64_w, i32_w]
                        rfl
                      refine pure_ (i := 10) (N := some 28) (v := ?_) (a' := ?_) #[true, true, true, true, true, true, true, true, true, true, true, false, false, false, false, false, false, false, false, false, false, false] rfl rfl (any_of HT_.out (by kernel_rfl)) (fun _ _ _ h => h) (Or.inl ⟨by rfl, ?_⟩) ?_ ?_
                      rotate_left
                      · intro w'
                        go_simp
                        with_reducible rfl
                      rotate_left
                      · simp only [Act.put, List.setIfInBounds_toArray, List.set_cons_zero, List.set_cons_succ, i64_w, i32_w]
                        rfl
                      refine pure_ (i := 11) (N := some 29) (v := ?_) (a' := ?_) #[true, true, true, true, true, true, true, true, true, true, true, true, false, false, false, false, false, false, false, false, false, false] rfl rfl (any_of HT_.out (by kernel_rfl)) (fun _ _ _ h => h) (Or.inl ⟨by rfl, ?_⟩) ?_ ?_
                      rotate_left
                      · intro w'
                        go_simp
                        with_reducible rfl
                      rotate_left
                      · simp only [Act.put, List.setIfInBounds_toArray, List.set_cons_zero, List.set_cons_succ, i64_w, i32_w]
                        rfl
                      refine pure_ (i := 12) (N := some 30) (v := ?_) (a' := ?_) #[true, true, true, true, true, true, true, true, true, true, true, true, true, false, false, false, false, false, false, false, false, false] rfl rfl (any_of HT_.out (by kernel_rfl)) (fun _ _ _ h => h) (Or.inl ⟨by rfl, ?_⟩) ?_ ?_
                      rotate_left
                      · intro w'
                        go_simp
                        with_reducible rfl
                      rotate_left
                      · simp only [Act.put, List.setIfInBounds_toArray, List.set_cons_zero, List.set_cons_succ, i64_w, i32_w]
                        rfl
                      refine pure_ (i := 15) (N := some 33) (v := ?_) (a' := ?_) #[true, true, true, true, true, true, true, true, true, true, true, true, true, false, false, true, false, false, false, false, false, false] rfl rfl (any_of HT_.out (by kernel_rfl)) (fun _ _ _ h => h) (Or.inl ⟨by rfl, ?_⟩) ?_ ?_
                      rotate_left
                      · intro w'
                        go_simp
                        with_reducible rfl
                      rotate_left
                      · simp only [Act.put, List.setIfInBounds_toArray, List.set_cons_zero, List.set_cons_succ, i64_w, i32_w]
                        rfl
                      refine pure_ (i := 16) (N := some 34) (v := ?_) (a' := ?_) #[true, true, true, true, true, true, true, true, true, true, true, true, true, false, false, true, true, false, false, false, false, false] rfl rfl (any_of HT_.out (by kernel_rfl)) (fun _ _ _ h => h) (Or.inl ⟨by rfl, ?_⟩) ?_ ?_
                      rotate_left
                      · intro w'
                        go_simp
                        with_reducible rfl
                      rotate_left
                      · simp only [Act.put, List.setIfInBounds_toArray, List.set_cons_zero, List.set_cons_succ, i64_w, i32_w]
                        rfl
                      refine pure_ (i := 17) (N := some 35) (v := ?_) (a' := ?_) #[true, true, true, true, true, true, true, true, true, true, true, true, true, false, false, true, true, true, false, false, false, false] rfl rfl (any_of HT_.out (by kernel_rfl)) (fun _ _ _ h => h) (Or.inl ⟨by rfl, ?_⟩) ?_ ?_
                      rotate_left
                      · intro w'
                        go_simp
                        with_reducible rfl
                      rotate_left
                      · simp only [Act.put, List.setIfInBounds_toArray, List.set_cons_zero, List.set_cons_succ, i64_w, i32_w]
                        rfl
                      refine take_ (i := 13) (N := some 31) (v := ?_) (a' := ?_) #[true, true, true, true, true, true, true, true, true, true, true, true, true, true, false, true, true, true, false, false, false, false] rfl rfl (take_ofW HT_.out HW_.out (by kernel_rfl)) (fun _ _ _ h => h) (Or.inl ⟨by rfl, ?_⟩) hHeld ?_ ?_
                      rotate_left
                      · rintro w' ⟨s0, s1, s2, s3⟩
                        go_simp
                        with_reducible rfl
                      rotate_left
                      · simp only [Act.put, List.setIfInBounds_toArray, List.set_cons_zero, List.set_cons_succ, i64_w, i32_w]
                        rfl
                      refine take_ (i := 18) (N := some 36) (v := ?_) (a' := ?_) #[true, true, true, true, true, true, true, true, true, true, true, true, true, true, false, true, true, true, true, false, false, false] rfl rfl (take_ofW HT_.out HW_.out (by kernel_rfl)) (fun _ _ _ h => h) (Or.inl ⟨by rfl, ?_⟩) hHeld ?_ ?_
                      rotate_left
                      · rintro w' ⟨s0, s1, s2, s3⟩
                        go_simp
                        with_reducible rfl
                      rotate_left
                      · simp only [Act.put, List.setIfInBounds_toArray, List.set_cons_zero, List.set_cons_succ, i64_w, i32_w]
                        rfl
                      refine one_ (i := 14) (N := some 32) #[true, true, true, true, true, true, true, true, true, true, true, true, true, true, true, true, true, true, true, false, false, false] rfl rfl (one_of HT_.out (by kernel_rfl)) (by decide) (fun K hK => ?_)
                      refine goes_ Tryd.func30 (by kernel_rfl) rfl #[.string (rdOf ByteArray.empty l0 x5_1)] (by rfl) rfl rfl (by (try simp only [List.map_toArray, List.map_cons, List.map_nil]); first | done | rfl | (simp only [List.length_drop, List.length_take]; rfl) | (simp only [ByteArray.size_extract, ByteArray.size_append, Nat.sub_zero]; done) | (simp only [ByteArray.size_extract, ByteArray.size_append, Nat.sub_zero]; (rw [IntWalk.wrap64_in _ (by omega)]) <;> rfl)) ?_
                      with_reducible refine (digest_Sum.calls (rdOf ByteArray.empty l0 x5_1) t170 _ ?side1 A11.out).mono ?_
                      (case side1 => exact Aside0.mk (Laid.below HG.out (by repeat (first | (with_reducible first | exact HB.out | apply below_alloc | apply pw_below_drewN | apply below_drew1) | exact HB.out))))
                      rintro e w15 ⟨rfl, hb⟩
                      refine ⟨_, rfl, ?_⟩
                      have n0_ := Aside0.mk (below_step (by repeat (first | (with_reducible first | exact HB.out | apply below_alloc | apply pw_below_drewN | apply below_drew1) | exact HB.out)) hb)
                      clear HB
                      have HB := n0_
                      clear n0_
                      (try clear hb)
                      (try clear hb2)
                      (try clear hk)
                      (try clear hi)
                      refine hK.out _ _ ⟨((HB.out.cell (World.block_lt_of_cell? w _ hw167_0)).trans hw167_0), ((HB.out.cell (World.block_lt_of_cell? w _ hw168_0)).trans hw168_0), ((HB.out.cell (World.block_lt_of_cell? w _ hw169_0)).trans hw169_0), ((HB.out.cell (World.block_lt_of_cell? w _ hw171_0)).trans hw171_0)⟩ (fun hHeld => ?_)
                      clear hK K
                      refine norm_ (a' := ?_) ?_ ?_
                      rotate_left
                      · show Act.put _ (some 32) _ = _
                        simp only [Act.put, List.setIfInBounds_toArray, List.set_cons_zero, List.set_cons_succ, i64_w, i32_w]
                        rfl
                      refine one_ (i := 19) (N := some 37) #[true, true, true, true, true, true, true, true, true, true, true, true, true, true, true, true, true, true, true, true, false, false] rfl rfl (one_of HT_.out (by kernel_rfl)) (by decide) (fun K hK => ?_)
                      refine goes_ Tryd.func30 (by kernel_rfl) rfl #[.string (rdOf ByteArray.empty l1 x5_1)] (by rfl) rfl rfl (by (try simp only [List.map_toArray, List.map_cons, List.map_nil]); first | done | rfl | (simp only [List.length_drop, List.length_take]; rfl) | (simp only [ByteArray.size_extract, ByteArray.size_append, Nat.sub_zero]; done) | (simp only [ByteArray.size_extract, ByteArray.size_append, Nat.sub_zero]; (rw [IntWalk.wrap64_in _ (by omega)]) <;> rfl)) ?_
                      with_reducible refine (digest_Sum.calls (rdOf ByteArray.empty l1 x5_1) t172 _ ?side1 A12.out).mono ?_
                      (case side1 => exact Aside0.mk (Laid.below HG.out (by repeat (first | (with_reducible first | exact HB.out | apply below_alloc | apply pw_below_drewN | apply below_drew1) | exact HB.out))))
                      rintro e w16 ⟨rfl, hb⟩
                      refine ⟨_, rfl, ?_⟩
                      have n0_ := Aside0.mk (below_step (by repeat (first | (with_reducible first | exact HB.out | apply below_alloc | apply pw_below_drewN | apply below_drew1) | exact HB.out)) hb)
                      clear HB
                      have HB := n0_
                      clear n0_
                      (try clear hb)
                      (try clear hb2)
                      (try clear hk)
                      (try clear hi)
                      refine hK.out _ _ ⟨((HB.out.cell (World.block_lt_of_cell? w _ hw167_0)).trans hw167_0), ((HB.out.cell (World.block_lt_of_cell? w _ hw168_0)).trans hw168_0), ((HB.out.cell (World.block_lt_of_cell? w _ hw169_0)).trans hw169_0), ((HB.out.cell (World.block_lt_of_cell? w _ hw171_0)).trans hw171_0)⟩ (fun hHeld => ?_)
                      clear hK K
                      refine norm_ (a' := ?_) ?_ ?_
                      rotate_left
                      · show Act.put _ (some 37) _ = _
                        simp only [Act.put, List.setIfInBounds_toArray, List.set_cons_zero, List.set_cons_succ, i64_w, i32_w]
                        rfl
                      refine pure_ (i := 20) (N := some 38) (v := ?_) (a' := ?_) #[true, true, true, true, true, true, true, true, true, true, true, true, true, true, true, true, true, true, true, true, true, false] rfl rfl (any_of HT_.out (by kernel_rfl)) (fun _ _ _ h => h) (Or.inl ⟨by rfl, ?_⟩) ?_ ?_
                      rotate_left
                      · intro w'
                        go_simp
                        with_reducible rfl
                      rotate_left
                      · simp only [Act.put, List.setIfInBounds_toArray, List.set_cons_zero, List.set_cons_succ, i64_w, i32_w]
                        rfl
                      refine pure_ (i := 21) (N := some 39) (v := ?_) (a' := ?_) #[true, true, true, true, true, true, true, true, true, true, true, true, true, true, true, true, true, true, true, true, true, true] rfl rfl (any_of HT_.out (by kernel_rfl)) (fun _ _ _ h => h) (Or.inl ⟨by rfl, ?_⟩) ?_ ?_
                      rotate_left
                      · intro w'
                        go_simp
                        with_reducible rfl
                      rotate_left
                      · simp only [Act.put, List.setIfInBounds_toArray, List.set_cons_zero, List.set_cons_succ, i64_w, i32_w]
                        rfl
                      refine done_ (done_of HT_.out (by kernel_rfl)) ?_
                      try go_wp2
                      go_ret
                      exact ⟨by first | rfl | (simp [errW_none, errW_some] <;> rfl) | (simp [*, errW_none, errW_some] <;> rfl), by repeat (first | (with_reducible first | exact HB.out | apply below_alloc | apply pw_below_drewN | apply below_drew1) | exact HB.out)⟩
                    · rw [if_neg c13] at H
                      have c13b0 : (t170.toList == t172.toList) = false := beq_eq_false_iff_ne.mpr c13
                      have c13b1 : (t170.toList != t172.toList) = true := bne_iff_ne.mpr c13
                      have H' := Aside0.mk H
                      clear H
                      try go_wp2
                      have n0_ := Aside0.mk (below_drew1 HB.out)
                      clear HB
                      have HB := n0_
                      clear n0_
                      have p167 : 0 ≤ (x5_1 : Int) := of_decide_eq_true (by first | (with_reducible assumption) | assumption)
                      have q167 : x5_1 < (l0.length : Int) := of_decide_eq_true (by first | (with_reducible assumption) | assumption)
                      obtain ⟨ad167, e167, hx167_0⟩ := Kd.at_string HR0.out x5_1 p167 q167
                      have hw167_0 := hx167_0
                      cases e167
                      replace hx167_0 := (HB.out.cell (World.block_lt_of_cell? w _ hx167_0)).trans hx167_0
                      replace p167 := eq_true p167
                      replace q167 := eq_true q167
                      have p168 : 0 ≤ (x5_1 : Int) := of_decide_eq_true (by first | (with_reducible assumption) | assumption)
                      have q168 : x5_1 < (l1.length : Int) := of_decide_eq_true (by first | (with_reducible assumption) | assumption)
                      obtain ⟨ad168, e168, hx168_0⟩ := Kd.at_string HR1.out x5_1 p168 q168
                      have hw168_0 := hx168_0
                      cases e168
                      replace hx168_0 := (HB.out.cell (World.block_lt_of_cell? w _ hx168_0)).trans hx168_0
                      replace p168 := eq_true p168
                      replace q168 := eq_true q168
                      have p169 : 0 ≤ (x5_1 : Int) := of_decide_eq_true (by first | (with_reducible assumption) | assumption)
                      have q169 : x5_1 < (l0.length : Int) := of_decide_eq_true (by first | (with_reducible assumption) | assumption)
                      obtain ⟨ad169, e169, hx169_0⟩ := Kd.at_string HR0.out x5_1 p169 q169
                      have hw169_0 := hx169_0
                      obtain rfl : ad167 = ad169 := (by injection e169)
                      replace hx169_0 := (HB.out.cell (World.block_lt_of_cell? w _ hx169_0)).trans hx169_0
                      replace p169 := eq_true p169
                      replace q169 := eq_true q169
                      have p171 : 0 ≤ (x5_1 : Int) := of_decide_eq_true (by first | (with_reducible assumption) | assumption)
                      have q171 : x5_1 < (l1.length : Int) := of_decide_eq_true (by first | (with_reducible assumption) | assumption)
                      obtain ⟨ad171, e171, hx171_0⟩ := Kd.at_string HR1.out x5_1 p171 q171
                      have hw171_0 := hx171_0
                      obtain rfl : ad168 = ad171 := (by injection e171)
                      replace hx171_0 := (HB.out.cell (World.block_lt_of_cell? w _ hx171_0)).trans hx171_0
                      replace p171 := eq_true p171
                      replace q171 := eq_true q171
                      refine start_ (n := 22) (S := fun w' => w'.cell? (ad167.add (x5_1).toNat) = some (.string (rdOf ByteArray.empty l0 x5_1)) ∧ w'.cell? (ad168.add (x5_1).toNat) = some (.string (rdOf ByteArray.empty l1 x5_1)) ∧ w'.cell? (ad167.add (x5_1).toNat) = some (.string (rdOf ByteArray.empty l0 x5_1)) ∧ w'.cell? (ad168.add (x5_1).toNat) = some (.string (rdOf ByteArray.empty l1 x5_1))) (ds := []) #[false, false, false, false, false, false, false, false, false, false, false, false, false, false, false, false, false, false, false, false, false, false] (by kernel_rfl) rfl rfl ⟨((HB.out.cell (World.block_lt_of_cell? w _ hw167_0)).trans hw167_0), ((HB.out.cell (World.block_lt_of_cell? w _ hw168_0)).trans hw168_0), ((HB.out.cell (World.block_lt_of_cell? w _ hw169_0)).trans hw169_0), ((HB.out.cell (World.block_lt_of_cell? w _ hw171_0)).trans hw171_0)⟩ (fun hHeld => ?_); refine with_tabW w_collide.tab4 w_collide.bits4 (fun HT_ HW_ => ?_)
                      generalize wc.drew = w17 at HB hx167_0 hx168_0 hx169_0 hx171_0 hHeld ⊢
                      refine pure_ (i := 0) (N := some 18) (v := ?_) (a' := ?_) #[true, false, false, false, false, false, false, false, false, false, false, false, false, false, false, false, false, false, false, false, false, false] rfl rfl (any_of HT_.out (by kernel_rfl)) (fun _ _ _ h => h) (Or.inl ⟨by rfl, ?_⟩) ?_ ?_
                      rotate_left
                      · intro w'
                        go_simp
                        with_reducible rfl
                      rotate_left
                      · simp only [Act.put, List.setIfInBounds_toArray, List.set_cons_zero, List.set_cons_succ, i64_w, i32_w]
                        rfl
                      refine pure_ (i := 1) (N := some 19) (v := ?_) (a' := ?_) #[true, true, false, false, false, false, false, false, false, false, false, false, false, false, false, false, false, false, false, false, false, false] rfl rfl (any_of HT_.out (by kernel_rfl)) (fun _ _ _ h => h) (Or.inl ⟨by rfl, ?_⟩) ?_ ?_
                      rotate_left
                      · intro w'
                        go_simp
                        with_reducible rfl
                      rotate_left
                      · simp only [Act.put, List.setIfInBounds_toArray, List.set_cons_zero, List.set_cons_succ, i64_w, i32_w]
                        rfl
                      refine pure_ (i := 2) (N := some 20) (v := ?_) (a' := ?_) #[true, true, true, false, false, false, false, false, false, false, false, false, false, false, false, false, false, false, false, false, false, false] rfl rfl (any_of HT_.out (by kernel_rfl)) (fun _ _ _ h => h) (Or.inl ⟨by rfl, ?_⟩) ?_ ?_
                      rotate_left
                      · intro w'
                        go_simp
                        with_reducible rfl
                      rotate_left
                      · simp only [Act.put, List.setIfInBounds_toArray, List.set_cons_zero, List.set_cons_succ, i64_w, i32_w]
                        rfl
                      refine pure_ (i := 4) (N := some 22) (v := ?_) (a' := ?_) #[true, true, true, false, true, false, false, false, false, false, false, false, false, false, false, false, false, false, false, false, false, false] rfl rfl (any_of HT_.out (by kernel_rfl)) (fun _ _ _ h => h) (Or.inl ⟨by rfl, ?_⟩) ?_ ?_
                      rotate_left
                      · intro w'
                        go_simp
                        with_reducible rfl
                      rotate_left
                      · simp only [Act.put, List.setIfInBounds_toArray, List.set_cons_zero, List.set_cons_succ, i64_w, i32_w]
                        rfl
                      refine pure_ (i := 5) (N := some 23) (v := ?_) (a' := ?_) #[true, true, true, false, true, true, false, false, false, false, false, false, false, false, false, false, false, false, false, false, false, false] rfl rfl (any_of HT_.out (by kernel_rfl)) (fun _ _ _ h => h) (Or.inl ⟨by rfl, ?_⟩) ?_ ?_
                      rotate_left
                      · intro w'
                        go_simp
                        with_reducible rfl
                      rotate_left
                      · simp only [Act.put, List.setIfInBounds_toArray, List.set_cons_zero, List.set_cons_succ, i64_w, i32_w]
                        rfl
                      refine pure_ (i := 6) (N := some 24) (v := ?_) (a' := ?_) #[true, true, true, false, true, true, true, false, false, false, false, false, false, false, false, false, false, false, false, false, false, false] rfl rfl (any_of HT_.out (by kernel_rfl)) (fun _ _ _ h => h) (Or.inl ⟨by rfl, ?_⟩) ?_ ?_
                      rotate_left
                      · intro w'
                        go_simp
                        with_reducible rfl
                      rotate_left
                      · simp only [Act.put, List.setIfInBounds_toArray, List.set_cons_zero, List.set_cons_succ, i64_w, i32_w]
                        rfl
                      refine take_ (i := 3) (N := some 21) (v := ?_) (a' := ?_) #[true, true, true, true, true, true, true, false, false, false, false, false, false, false, false, false, false, false, false, false, false, false] rfl rfl (take_ofW HT_.out HW_.out (by kernel_rfl)) (fun _ _ _ h => h) (Or.inl ⟨by rfl, ?_⟩) hHeld ?_ ?_
                      rotate_left
                      · rintro w' ⟨s0, s1, s2, s3⟩
                        go_simp
                        with_reducible rfl
                      rotate_left
                      · simp only [Act.put, List.setIfInBounds_toArray, List.set_cons_zero, List.set_cons_succ, i64_w, i32_w]
                        rfl
                      refine take_ (i := 7) (N := some 25) (v := ?_) (a' := ?_) #[true, true, true, true, true, true, true, true, false, false, false, false, false, false, false, false, false, false, false, false, false, false] rfl rfl (take_ofW HT_.out HW_.out (by kernel_rfl)) (fun _ _ _ h => h) (Or.inl ⟨by rfl, ?_⟩) hHeld ?_ ?_
                      rotate_left
                      · rintro w' ⟨s0, s1, s2, s3⟩
                        go_simp
                        with_reducible rfl
                      rotate_left
                      · simp only [Act.put, List.setIfInBounds_toArray, List.set_cons_zero, List.set_cons_succ, i64_w, i32_w]
                        rfl
                      refine pure_ (i := 8) (N := some 26) (v := ?_) (a' := ?_) #[true, true, true, true, true, true, true, true, true, false, false, false, false, false, false, false, false, false, false, false, false, false] rfl rfl (any_of HT_.out (by kernel_rfl)) (fun _ _ _ h => h) (Or.inl ⟨by rfl, ?_⟩) ?_ ?_
                      rotate_left
                      · intro w'
                        go_simp
                        with_reducible rfl
                      rotate_left
                      · simp only [Act.put, List.setIfInBounds_toArray, List.set_cons_zero, List.set_cons_succ, i64_w, i32_w]
                        rfl
                      refine pure_ (i := 9) (N := some 27) (v := ?_) (a' := ?_) #[true, true, true, true, true, true, true, true, true, true, false, false, false, false, false, false, false, false, false, false, false, false] rfl rfl (any_of HT_.out (by kernel_rfl)) (fun _ _ _ h => h) (Or.inl ⟨by rfl, ?_⟩) ?_ ?_
                      rotate_left
                      · intro w'
                        go_simp
                        with_reducible rfl
                      rotate_left
                      · simp only [Act.put, List.setIfInBounds_toArray, List.set_cons_zero, List.set_cons_succ, i64_w, i32_w]
                        rfl
                      refine pure_ (i := 10) (N := some 28) (v := ?_) (a' := ?_) #[true, true, true, true, true, true, true, true, true, true, true, false, false, false, false, false, false, false, false, false, false, false] rfl rfl (any_of HT_.out (by kernel_rfl)) (fun _ _ _ h => h) (Or.inl ⟨by rfl, ?_⟩) ?_ ?_
                      rotate_left
                      · intro w'
                        go_simp
                        with_reducible rfl
                      rotate_left
                      · simp only [Act.put, List.setIfInBounds_toArray, List.set_cons_zero, List.set_cons_succ, i64_w, i32_w]
                        rfl
                      refine pure_ (i := 11) (N := some 29) (v := ?_) (a' := ?_) #[true, true, true, true, true, true, true, true, true, true, true, true, false, false, false, false, false, false, false, false, false, false] rfl rfl (any_of HT_.out (by kernel_rfl)) (fun _ _ _ h => h) (Or.inl ⟨by rfl, ?_⟩) ?_ ?_
                      rotate_left
                      · intro w'
                        go_simp
                        with_reducible rfl
                      rotate_left
                      · simp only [Act.put, List.setIfInBounds_toArray, List.set_cons_zero, List.set_cons_succ, i64_w, i32_w]
                        rfl
                      refine pure_ (i := 12) (N := some 30) (v := ?_) (a' := ?_) #[true, true, true, true, true, true, true, true, true, true, true, true, true, false, false, false, false, false, false, false, false, false] rfl rfl (any_of HT_.out (by kernel_rfl)) (fun _ _ _ h => h) (Or.inl ⟨by rfl, ?_⟩) ?_ ?_
                      rotate_left
                      · intro w'
                        go_simp
                        with_reducible rfl
                      rotate_left
                      · simp only [Act.put, List.setIfInBounds_toArray, List.set_cons_zero, List.set_cons_succ, i64_w, i32_w]
                        rfl
                      refine pure_ (i := 15) (N := some 33) (v := ?_) (a' := ?_) #[true, true, true, true, true, true, true, true, true, true, true, true, true, false, false, true, false, false, false, false, false, false] rfl rfl (any_of HT_.out (by kernel_rfl)) (fun _ _ _ h => h) (Or.inl ⟨by rfl, ?_⟩) ?_ ?_
                      rotate_left
                      · intro w'
                        go_simp
                        with_reducible rfl
                      rotate_left
                      · simp only [Act.put, List.setIfInBounds_toArray, List.set_cons_zero, List.set_cons_succ, i64_w, i32_w]
                        rfl
                      refine pure_ (i := 16) (N := some 34) (v := ?_) (a' := ?_) #[true, true, true, true, true, true, true, true, true, true, true, true, true, false, false, true, true, false, false, false, false, false] rfl rfl (any_of HT_.out (by kernel_rfl)) (fun _ _ _ h => h) (Or.inl ⟨by rfl, ?_⟩) ?_ ?_
                      rotate_left
                      · intro w'
                        go_simp
                        with_reducible rfl
                      rotate_left
                      · simp only [Act.put, List.setIfInBounds_toArray, List.set_cons_zero, List.set_cons_succ, i64_w, i32_w]
                        rfl
                      refine pure_ (i := 17) (N := some 35) (v := ?_) (a' := ?_) #[true, true, true, true, true, true, true, true, true, true, true, true, true, false, false, true, true, true, false, false, false, false] rfl rfl (any_of HT_.out (by kernel_rfl)) (fun _ _ _ h => h) (Or.inl ⟨by rfl, ?_⟩) ?_ ?_
                      rotate_left
                      · intro w'
                        go_simp
                        with_reducible rfl
                      rotate_left
                      · simp only [Act.put, List.setIfInBounds_toArray, List.set_cons_zero, List.set_cons_succ, i64_w, i32_w]
                        rfl
                      refine take_ (i := 13) (N := some 31) (v := ?_) (a' := ?_) #[true, true, true, true, true, true, true, true, true, true, true, true, true, true, false, true, true, true, false, false, false, false] rfl rfl (take_ofW HT_.out HW_.out (by kernel_rfl)) (fun _ _ _ h => h) (Or.inl ⟨by rfl, ?_⟩) hHeld ?_ ?_
                      rotate_left
                      · rintro w' ⟨s0, s1, s2, s3⟩
                        go_simp
                        with_reducible rfl
                      rotate_left
                      · simp only [Act.put, List.setIfInBounds_toArray, List.set_cons_zero, List.set_cons_succ, i64_w, i32_w]
                        rfl
                      refine take_ (i := 18) (N := some 36) (v := ?_) (a' := ?_) #[true, true, true, true, true, true, true, true, true, true, true, true, true, true, false, true, true, true, true, false, false, false] rfl rfl (take_ofW HT_.out HW_.out (by kernel_rfl)) (fun _ _ _ h => h) (Or.inl ⟨by rfl, ?_⟩) hHeld ?_ ?_
                      rotate_left
                      · rintro w' ⟨s0, s1, s2, s3⟩
                        go_simp
                        with_reducible rfl
                      rotate_left
                      · simp only [Act.put, List.setIfInBounds_toArray, List.set_cons_zero, List.set_cons_succ, i64_w, i32_w]
                        rfl
                      refine one_ (i := 14) (N := some 32) #[true, true, true, true, true, true, true, true, true, true, true, true, true, true, true, true, true, true, true, false, false, false] rfl rfl (one_of HT_.out (by kernel_rfl)) (by decide) (fun K hK => ?_)
                      refine goes_ Tryd.func30 (by kernel_rfl) rfl #[.string (rdOf ByteArray.empty l0 x5_1)] (by rfl) rfl rfl (by (try simp only [List.map_toArray, List.map_cons, List.map_nil]); first | done | rfl | (simp only [List.length_drop, List.length_take]; rfl) | (simp only [ByteArray.size_extract, ByteArray.size_append, Nat.sub_zero]; done) | (simp only [ByteArray.size_extract, ByteArray.size_append, Nat.sub_zero]; (rw [IntWalk.wrap64_in _ (by omega)]) <;> rfl)) ?_
                      with_reducible refine (digest_Sum.calls (rdOf ByteArray.empty l0 x5_1) t170 _ ?side1 A11.out).mono ?_
                      (case side1 => exact Aside0.mk (Laid.below HG.out (by repeat (first | (with_reducible first | exact HB.out | apply below_alloc | apply pw_below_drewN | apply below_drew1) | exact HB.out))))
                      rintro e w18 ⟨rfl, hb⟩
                      refine ⟨_, rfl, ?_⟩
                      have n0_ := Aside0.mk (below_step (by repeat (first | (with_reducible first | exact HB.out | apply below_alloc | apply pw_below_drewN | apply below_drew1) | exact HB.out)) hb)
                      clear HB
                      have HB := n0_
                      clear n0_
                      (try clear hb)
                      (try clear hb2)
                      (try clear hk)
                      (try clear hi)
                      refine hK.out _ _ ⟨((HB.out.cell (World.block_lt_of_cell? w _ hw167_0)).trans hw167_0), ((HB.out.cell (World.block_lt_of_cell? w _ hw168_0)).trans hw168_0), ((HB.out.cell (World.block_lt_of_cell? w _ hw169_0)).trans hw169_0), ((HB.out.cell (World.block_lt_of_cell? w _ hw171_0)).trans hw171_0)⟩ (fun hHeld => ?_)
                      clear hK K
                      refine norm_ (a' := ?_) ?_ ?_
                      rotate_left
                      · show Act.put _ (some 32) _ = _
                        simp only [Act.put, List.setIfInBounds_toArray, List.set_cons_zero, List.set_cons_succ, i64_w, i32_w]
                        rfl
                      refine one_ (i := 19) (N := some 37) #[true, true, true, true, true, true, true, true, true, true, true, true, true, true, true, true, true, true, true, true, false, false] rfl rfl (one_of HT_.out (by kernel_rfl)) (by decide) (fun K hK => ?_)
                      refine goes_ Tryd.func30 (by kernel_rfl) rfl #[.string (rdOf ByteArray.empty l1 x5_1)] (by rfl) rfl rfl (by (try simp only [List.map_toArray, List.map_cons, List.map_nil]); first | done | rfl | (simp only [List.length_drop, List.length_take]; rfl) | (simp only [ByteArray.size_extract, ByteArray.size_append, Nat.sub_zero]; done) | (simp only [ByteArray.size_extract, ByteArray.size_append, Nat.sub_zero]; (rw [IntWalk.wrap64_in _ (by omega)]) <;> rfl)) ?_
                      with_reducible refine (digest_Sum.calls (rdOf ByteArray.empty l1 x5_1) t172 _ ?side1 A12.out).mono ?_
                      (case side1 => exact Aside0.mk (Laid.below HG.out (by repeat (first | (with_reducible first | exact HB.out | apply below_alloc | apply pw_below_drewN | apply below_drew1) | exact HB.out))))
                      rintro e w19 ⟨rfl, hb⟩
                      refine ⟨_, rfl, ?_⟩
                      have n0_ := Aside0.mk (below_step (by repeat (first | (with_reducible first | exact HB.out | apply below_alloc | apply pw_below_drewN | apply below_drew1) | exact HB.out)) hb)
                      clear HB
                      have HB := n0_
                      clear n0_
                      (try clear hb)
                      (try clear hb2)
                      (try clear hk)
                      (try clear hi)
                      refine hK.out _ _ ⟨((HB.out.cell (World.block_lt_of_cell? w _ hw167_0)).trans hw167_0), ((HB.out.cell (World.block_lt_of_cell? w _ hw168_0)).trans hw168_0), ((HB.out.cell (World.block_lt_of_cell? w _ hw169_0)).trans hw169_0), ((HB.out.cell (World.block_lt_of_cell? w _ hw171_0)).trans hw171_0)⟩ (fun hHeld => ?_)
                      clear hK K
                      refine norm_ (a' := ?_) ?_ ?_
                      rotate_left
                      · show Act.put _ (some 37) _ = _
                        simp only [Act.put, List.setIfInBounds_toArray, List.set_cons_zero, List.set_cons_succ, i64_w, i32_w]
                        rfl
                      refine pure_ (i := 20) (N := some 38) (v := ?_) (a' := ?_) #[true, true, true, true, true, true, true, true, true, true, true, true, true, true, true, true, true, true, true, true, true, false] rfl rfl (any_of HT_.out (by kernel_rfl)) (fun _ _ _ h => h) (Or.inl ⟨by rfl, ?_⟩) ?_ ?_
                      rotate_left
                      · intro w'
                        go_simp
                        with_reducible rfl
                      rotate_left
                      · simp only [Act.put, List.setIfInBounds_toArray, List.set_cons_zero, List.set_cons_succ, i64_w, i32_w]
                        rfl
                      refine pure_ (i := 21) (N := some 39) (v := ?_) (a' := ?_) #[true, true, true, true, true, true, true, true, true, true, true, true, true, true, true, true, true, true, true, true, true, true] rfl rfl (any_of HT_.out (by kernel_rfl)) (fun _ _ _ h => h) (Or.inl ⟨by rfl, ?_⟩) ?_ ?_
                      rotate_left
                      · intro w'
                        go_simp
                        with_reducible rfl
                      rotate_left
                      · simp only [Act.put, List.setIfInBounds_toArray, List.set_cons_zero, List.set_cons_succ, i64_w, i32_w]
                        rfl
                      refine done_ (done_of HT_.out (by kernel_rfl)) ?_
                      try go_wp2
                      go_roundg kj2
                      case measure => have := HK1.out; have := HJ2.out; omega
                      case rel => exact ⟨(wrap64 (x5_1 + 1)), (by first | rfl | (simp; done) | (simp [*]; done)), H', ⟨by have := HK1.out; have := HJ2.out; omega⟩, ⟨by repeat (first | (with_reducible first | exact HB.out | apply below_alloc | apply pw_below_drewN | apply below_drew1) | exact HB.out)⟩⟩
                · rw [if_neg c8] at H
                  exact absurd H (by simp)
              · rw [if_neg c7] at H
                exact absurd H (by simp)
            · rw [if_neg c6] at H
              exact absurd H (by simp)
          · replace c5 := Bool.eq_false_iff.mpr c5
            subst c5
            have H1 : (some false) = some r := by rw [if_neg (show ¬ (false = true) by decide)] at H; exact H
            clear H
            have H := H1
            clear H1
            obtain rfl := Option.some.inj H
            go_wp2
            go_ret
            exact ⟨by first | rfl | (simp [errW_none, errW_some] <;> rfl) | (simp [*, errW_none, errW_some] <;> rfl), by repeat (first | (with_reducible first | exact HB.out | apply below_alloc | apply pw_below_drewN | apply below_drew1) | exact HB.out)⟩

end Go.Proofs.YtabjfogmcehemaaDoor.Pd

/- Whoever proves two things for one place has found two strings with one digest: plain mathematics, and what way and collide compute. -/
namespace Go.Proofs.YtabjfogmcehemaaDoor.Pure
open Go.RowKit Tree Go.Proofs.YtabjfogmcehemaaDoorW.PrintWords Go.Proofs.YtabjfogmcehemaaDoorW.PrintLast Go.Proofs.YtabjfogmcehemaaDoorW.PrintMore
set_option linter.unusedVariables false
set_option linter.unusedSimpArgs false

theorem app_inj {a b c d : ByteArray} (h : a ++ b = c ++ d) (hs : a.size = c.size) : a = c ∧ b = d := by
  have e : a.data.toList ++ b.data.toList = c.data.toList ++ d.data.toList := by
    have := congrArg (fun x : ByteArray => x.data.toList) h
    simpa using this
  have := List.append_inj e (by simpa using hs)
  exact ⟨ByteArray.ext (Array.toList_inj.1 this.1), ByteArray.ext (Array.toList_inj.1 this.2)⟩
/-- The string of which a node's digest is computed. -/
def nodeIn (a b : ByteArray) : ByteArray := (⟨#[1]⟩ : ByteArray) ++ a ++ b
theorem nodeIn_inj {a b c d : ByteArray} (h : nodeIn a b = nodeIn c d) (hs : a.size = c.size) : a = c ∧ b = d := by
  unfold nodeIn at h
  obtain ⟨h1, h2⟩ := app_inj h (by rw [ByteArray.size_append, ByteArray.size_append, hs])
  exact ⟨(app_inj h1 rfl).2, h2⟩
theorem nodeIn_size (a b : ByteArray) (ha : a.size = 32) (hb : b.size = 32) : (nodeIn a b).size = 65 := by unfold nodeIn; rw [ByteArray.size_append, ByteArray.size_append, ha, hb]; rfl
theorem leafIn_inj {s t : ByteArray} (h : (⟨#[0]⟩ : ByteArray) ++ s = ⟨#[0]⟩ ++ t) : s = t := (app_inj h rfl).2
/-- Two different strings at the same index have the same digest. -/
def Coll (a b : List ByteArray) : Prop := ∃ (j : Nat) (x y : ByteArray), a[j]? = some x ∧ b[j]? = some y ∧ x ≠ y ∧ sumF x = sumF y
theorem Coll.head {x y : ByteArray} {a b : List ByteArray} (h : x ≠ y) (hs : sumF x = sumF y) : Coll (x :: a) (y :: b) := ⟨0, x, y, rfl, rfl, h, hs⟩
theorem Coll.tail {x y : ByteArray} {a b : List ByteArray} (h : Coll a b) : Coll (x :: a) (y :: b) := by
  obtain ⟨j, u, v, h1, h2, h3, h4⟩ := h
  exact ⟨j + 1, u, v, by simpa using h1, by simpa using h2, h3, h4⟩
theorem Sum_f (s : ByteArray) (hs : s.size ≤ 1000) : digest_Sum.f s = some (sumF s) := by unfold digest_Sum.f; rw [if_pos (by omega)]
theorem rdOf_nat (l : List ByteArray) (i : Nat) (x : ByteArray) (h : l[i]? = some x) : rdOf ByteArray.empty l (i : Int) = x := by
  unfold rdOf; rw [Int.toNat_natCast, List.getD_eq_getElem?_getD, h]; rfl
theorem collide_l0 (a b : List ByteArray) (ha : a.length ≤ 1000) (hb : b.length ≤ 1000) (sa : ∀ x ∈ a, x.size ≤ 1000) (sb : ∀ x ∈ b, x.size ≤ 1000)
    (j : Nat) (x y : ByteArray) (hx : a[j]? = some x) (hy : b[j]? = some y) (hne : x ≠ y) (hs : sumF x = sumF y) : ∀ (d f i : Nat), i + d = j → 2 * d + 2 ≤ f → Pd.w_collide.l0 f a b (i : Int) = some true := by
  have la := (List.getElem?_eq_some_iff.1 hx).1
  have lb := (List.getElem?_eq_some_iff.1 hy).1
  intro d
  induction d with
  | zero =>
    intro f i hi hf
    obtain ⟨f, rfl⟩ : ∃ g, f = g + 1 + 1 := ⟨f - 2, by omega⟩
    obtain rfl : i = j := by omega
    simp only [Pd.w_collide.l0, Pd.w_collide.j1]
    rw [if_pos (by omega), decide_eq_true (by omega : (i : Int) < (b.length : Int)), if_pos rfl, if_pos (by omega), if_pos (by omega), if_pos (by omega), rdOf_nat a i x hx, rdOf_nat b i y hy, if_neg (fun h => hne (toList_inj h)),
      Sum_f x (sa x (List.mem_of_getElem? hx)), Sum_f y (sb y (List.mem_of_getElem? hy))]
    simp only [Option.bind_some]
    rw [if_pos (by rw [hs])]
  | succ d ih =>
    intro f i hi hf
    obtain ⟨f, rfl⟩ : ∃ g, f = g + 1 + 1 := ⟨f - 2, by omega⟩
    have gx : a[i]? = some a[i] := List.getElem?_eq_getElem (by omega)
    have gy : b[i]? = some b[i] := List.getElem?_eq_getElem (by omega)
    have hn := ih f (i + 1) (by omega) (by omega)
    simp only [Pd.w_collide.l0, Pd.w_collide.j1]
    rw [if_pos (by omega), decide_eq_true (by omega : (i : Int) < (b.length : Int)), if_pos rfl, if_pos (by omega), if_pos (by omega), if_pos (by omega), rdOf_nat a i _ gx, rdOf_nat b i _ gy, wsm _ (by omega) (by omega)]
    split
    · exact hn
    · rw [Sum_f _ (sa _ (List.mem_of_getElem? gx)), Sum_f _ (sb _ (List.mem_of_getElem? gy))]
      simp only [Option.bind_some]
      split
      · rfl
      · exact hn
theorem collide_f {a b : List ByteArray} (h : Coll a b) (ha : a.length ≤ 1000) (hb : b.length ≤ 1000) (sa : ∀ x ∈ a, x.size ≤ 1000) (sb : ∀ x ∈ b, x.size ≤ 1000) (f : Nat) (hf : 2100 ≤ f) : Pd.w_collide.f f a b = some true := by
  obtain ⟨j, x, y, hx, hy, hne, hs⟩ := h
  have la := (List.getElem?_eq_some_iff.1 hx).1
  exact collide_l0 a b ha hb sa sb j x y hx hy hne hs j f 0 (by omega) (by omega)

/-- The strings of which digests are computed for a proof (its last element first), and the value. -/
def wayL : List ByteArray → Nat → Nat → ByteArray → List ByteArray × ByteArray
  | [], _, _, s => ([⟨#[0]⟩ ++ s], leafB s)
  | x :: rp, n, i, s => if leftOf n ≤ i then (nodeIn x (wayL rp (n - leftOf n) (i - leftOf n) s).2 :: (wayL rp (n - leftOf n) (i - leftOf n) s).1, nodeB x (wayL rp (n - leftOf n) (i - leftOf n) s).2)
      else (nodeIn (wayL rp (leftOf n) i s).2 x :: (wayL rp (leftOf n) i s).1, nodeB (wayL rp (leftOf n) i s).2 x)
theorem wayL_hi (x : ByteArray) (rp : List ByteArray) (n i : Nat) (s : ByteArray) (h : leftOf n ≤ i) : wayL (x :: rp) n i s = (nodeIn x (wayL rp (n - leftOf n) (i - leftOf n) s).2 :: (wayL rp (n - leftOf n) (i - leftOf n) s).1, nodeB x (wayL rp (n - leftOf n) (i - leftOf n) s).2) := by
  simp only [wayL]; rw [if_pos h]
theorem wayL_lo (x : ByteArray) (rp : List ByteArray) (n i : Nat) (s : ByteArray) (h : ¬ leftOf n ≤ i) : wayL (x :: rp) n i s = (nodeIn (wayL rp (leftOf n) i s).2 x :: (wayL rp (leftOf n) i s).1, nodeB (wayL rp (leftOf n) i s).2 x) := by
  simp only [wayL]; rw [if_neg h]
theorem wayL_size (s : ByteArray) : ∀ (rp : List ByteArray) (n i : Nat), (wayL rp n i s).2.size = 32 := by
  intro rp
  cases rp with
  | nil => intro n i; exact leafB_size _
  | cons x rp => intro n i; by_cases h : leftOf n ≤ i; rw [wayL_hi _ _ _ _ _ h]; exact nodeB_size _ _; rw [wayL_lo _ _ _ _ _ h]; exact nodeB_size _ _
theorem wayL_len (s : ByteArray) : ∀ (rp : List ByteArray) (n i : Nat), (wayL rp n i s).1.length = rp.length + 1 := by
  intro rp
  induction rp with
  | nil => intro n i; rfl
  | cons x rp ih =>
    intro n i
    by_cases h : leftOf n ≤ i
    · rw [wayL_hi _ _ _ _ _ h, List.length_cons, ih, List.length_cons]
    · rw [wayL_lo _ _ _ _ _ h, List.length_cons, ih, List.length_cons]
theorem wayL_sizes (s : ByteArray) (hs : s.size ≤ 60) : ∀ (rp : List ByteArray) (n i : Nat), (∀ x ∈ rp, x.size = 32) → ∀ x ∈ (wayL rp n i s).1, x.size ≤ 1000 := by
  intro rp
  induction rp with
  | nil => intro n i _ x hx; rw [List.mem_singleton.1 hx, ByteArray.size_append]; show 1 + _ ≤ _; omega
  | cons y rp ih =>
    intro n i hr x hx
    have hy := hr y (by simp)
    have hr' : ∀ x ∈ rp, x.size = 32 := fun x hx => hr x (by simp [hx])
    by_cases h : leftOf n ≤ i
    · rw [wayL_hi _ _ _ _ _ h] at hx
      rcases List.mem_cons.1 hx with rfl | hx
      · rw [nodeIn_size _ _ hy (wayL_size _ _ _ _)]; omega
      · exact ih _ _ hr' x hx
    · rw [wayL_lo _ _ _ _ _ h] at hx
      rcases List.mem_cons.1 hx with rfl | hx
      · rw [nodeIn_size _ _ (wayL_size _ _ _ _) hy]; omega
      · exact ih _ _ hr' x hx
theorem wayL_val (s : ByteArray) : ∀ (rp : List ByteArray) (n i : Nat) (v : ByteArray), valR rp n i (leafB s) = some v → (wayL rp n i s).2 = v := by
  intro rp
  induction rp with
  | nil =>
    intro n i v h
    by_cases hn : n ≤ 1
    · rw [valR_end0 _ _ _ hn] at h; exact Option.some.inj h
    · rw [valR_none _ _ _ hn] at h; cases h
  | cons x rp ih =>
    intro n i v h
    by_cases hn : n ≤ 1
    · rw [valR_end1 _ _ _ _ _ hn] at h; cases h
    · by_cases hi : leftOf n ≤ i
      · rw [valR_hi _ _ _ _ _ hn hi] at h
        obtain ⟨v', h1, rfl⟩ := Option.map_eq_some_iff.1 h
        rw [wayL_hi _ _ _ _ _ hi, ih _ _ _ h1]
        rfl
      · rw [valR_lo _ _ _ _ _ hn hi] at h
        obtain ⟨v', h1, rfl⟩ := Option.map_eq_some_iff.1 h
        rw [wayL_lo _ _ _ _ _ hi, ih _ _ _ h1]
        rfl
theorem last_at (x : ByteArray) (rp : List ByteArray) : rdOf ByteArray.empty (x :: rp).reverse (((x :: rp).reverse.length : Nat) - 1 : Int) = x ∧ (x :: rp).reverse.take rp.length = rp.reverse := by
  constructor
  · rw [List.length_reverse, List.length_cons, show (((rp.length + 1 : Nat) : Int) - 1) = ((rp.length : Nat) : Int) by omega]
    refine rdOf_nat _ _ _ ?_
    rw [List.reverse_cons, List.getElem?_append_right (by simp)]
    simp
  · rw [List.reverse_cons, List.take_left' (by simp)]
theorem way_f (s : ByteArray) (hs : s.size ≤ 60) : ∀ (rp : List ByteArray) (n i : Nat) (v : ByteArray) (f : Nat), valR rp n i (leafB s) = some v → n ≤ 9223372036854775807 → i < n → (∀ x ∈ rp, x.size = 32) → rp.length ≤ 100 → 70 + 2 * rp.length ≤ f →
    Pd.w_way.f f (n : Int) (i : Int) s rp.reverse = some (wayL rp n i s) := by
  intro rp
  induction rp with
  | nil =>
    intro n i v f h hn hi hr hl hf
    obtain ⟨f, rfl⟩ : ∃ g, f = g + 1 + 1 := ⟨f - 2, by omega⟩
    simp only [Pd.w_way.f, Pd.w_way.j0]
    have h1 : n ≤ 1 := by
      by_cases hn : n ≤ 1
      · exact hn
      · rw [valR_none _ _ _ hn] at h; cases h
    rw [if_pos (by omega), if_pos trivial, if_pos (by omega), Leaf_f s (by omega)]
    rfl
  | cons x rp ih =>
    intro n i v f h hn hi hr hl hf
    rw [List.length_cons] at hl hf
    obtain ⟨f, rfl⟩ : ∃ g, f = g + 1 + 1 := ⟨f - 2, by omega⟩
    by_cases h1 : n ≤ 1
    · rw [valR_end1 _ _ _ _ _ h1] at h; cases h
    · have hx := hr x (by simp)
      have hr' : ∀ x ∈ rp, x.size = 32 := fun x hx => hr x (by simp [hx])
      have hk := leftOf_lt n (by omega)
      have hk0 := leftOf_pos n
      have hlen : (x :: rp).reverse.length = rp.length + 1 := by simp
      obtain ⟨e1, e2⟩ := last_at x rp
      simp only [Pd.w_way.f, Pd.w_way.j0]
      rw [wsm (((x :: rp).reverse.length : Int) - 1) (by rw [hlen]; omega) (by rw [hlen]; omega), e1, show (((x :: rp).reverse.length : Int) - 1).toNat = rp.length by rw [hlen]; omega, e2, hlen]
      rw [if_neg (by omega), show (((rp.length + 1 : Nat) : Int) == 0) = false from by rw [beq_eq_false_iff_ne]; omega, if_neg (by decide), if_pos (by omega), if_pos (by omega), if_pos (by omega), left_f n (by omega) hn f (by omega)]
      simp only [Option.bind_some]
      by_cases hlo : leftOf n ≤ i
      · rw [valR_hi _ _ _ _ _ h1 hlo] at h
        obtain ⟨v', h2, rfl⟩ := Option.map_eq_some_iff.1 h
        have := ih (n - leftOf n) (i - leftOf n) v' f h2 (by omega) (by omega) hr' (by omega) (by omega)
        rw [if_neg (by omega), wsm _ (by omega) (by omega), wsm _ (by omega) (by omega), show (n : Int) - ((leftOf n : Nat) : Int) = ((n - leftOf n : Nat) : Int) by omega, show (i : Int) - ((leftOf n : Nat) : Int) = ((i - leftOf n : Nat) : Int) by omega, this]
        simp only [Option.bind_some]
        have z1 := wayL_size s rp (n - leftOf n) (i - leftOf n)
        have z2 := wayL_len s rp (n - leftOf n) (i - leftOf n)
        rw [if_pos (by omega), if_pos (by rw [ByteArray.size_append, z1, hx]; decide), if_pos (by rw [z2, List.length_singleton]; omega), Node_f _ _ (by omega) (by omega), wayL_hi _ _ _ _ _ hlo]
        rfl
      · rw [valR_lo _ _ _ _ _ h1 hlo] at h
        obtain ⟨v', h2, rfl⟩ := Option.map_eq_some_iff.1 h
        have := ih (leftOf n) i v' f h2 (by omega) (by omega) hr' (by omega) (by omega)
        rw [if_pos (by omega), this]
        simp only [Option.bind_some]
        have z1 := wayL_size s rp (leftOf n) i
        have z2 := wayL_len s rp (leftOf n) i
        rw [if_pos (by omega), if_pos (by rw [ByteArray.size_append, z1, hx]; decide), if_pos (by rw [z2, List.length_singleton]; omega), Node_f _ _ (by omega) (by omega), wayL_lo _ _ _ _ _ hlo]
        rfl
theorem way_coll (s t : ByteArray) (hne : s ≠ t) : ∀ (rp rq : List ByteArray) (n i : Nat) (v : ByteArray), valR rp n i (leafB s) = some v → valR rq n i (leafB t) = some v → (∀ x ∈ rp, x.size = 32) → (∀ x ∈ rq, x.size = 32) →
    Coll (wayL rp n i s).1 (wayL rq n i t).1 := by
  intro rp
  induction rp with
  | nil =>
    intro rq n i v h1 h2 _ _
    by_cases hn : n ≤ 1
    · cases rq with
      | nil =>
        rw [valR_end0 _ _ _ hn] at h1 h2
        exact Coll.head (fun h => hne (leafIn_inj h)) ((Option.some.inj h1).trans (Option.some.inj h2).symm)
      | cons y rq => rw [valR_end1 _ _ _ _ _ hn] at h2; cases h2
    · rw [valR_none _ _ _ hn] at h1; cases h1
  | cons x rp ih =>
    intro rq n i v h1 h2 hr hq
    by_cases hn : n ≤ 1
    · rw [valR_end1 _ _ _ _ _ hn] at h1; cases h1
    · cases rq with
      | nil => rw [valR_none _ _ _ hn] at h2; cases h2
      | cons y rq =>
        have hx := hr x (by simp)
        have hy := hq y (by simp)
        have hr' : ∀ x ∈ rp, x.size = 32 := fun x hx => hr x (by simp [hx])
        have hq' : ∀ x ∈ rq, x.size = 32 := fun x hx => hq x (by simp [hx])
        by_cases hi : leftOf n ≤ i
        · rw [valR_hi _ _ _ _ _ hn hi] at h1 h2
          obtain ⟨v1, g1, e1⟩ := Option.map_eq_some_iff.1 h1
          obtain ⟨v2, g2, e2⟩ := Option.map_eq_some_iff.1 h2
          rw [wayL_hi _ _ _ _ _ hi, wayL_hi _ _ _ _ _ hi, wayL_val _ _ _ _ _ g1, wayL_val _ _ _ _ _ g2]
          by_cases he : nodeIn x v1 = nodeIn y v2
          · obtain ⟨rfl, rfl⟩ := nodeIn_inj he (by rw [hx, hy])
            exact Coll.tail (ih rq _ _ _ g1 g2 hr' hq')
          · exact Coll.head he (e1.trans e2.symm)
        · rw [valR_lo _ _ _ _ _ hn hi] at h1 h2
          obtain ⟨v1, g1, e1⟩ := Option.map_eq_some_iff.1 h1
          obtain ⟨v2, g2, e2⟩ := Option.map_eq_some_iff.1 h2
          have z1 := wayL_size s rp (leftOf n) i
          have z2 := wayL_size t rq (leftOf n) i
          rw [wayL_lo _ _ _ _ _ hi, wayL_lo _ _ _ _ _ hi]
          have w1 := wayL_val _ _ _ _ _ g1
          have w2 := wayL_val _ _ _ _ _ g2
          rw [w1] at z1 ⊢
          rw [w2] at z2 ⊢
          by_cases he : nodeIn v1 x = nodeIn v2 y
          · obtain ⟨rfl, rfl⟩ := nodeIn_inj he (by rw [z1, z2])
            exact Coll.tail (ih rq _ _ _ g1 g2 hr' hq')
          · exact Coll.head he (e1.trans e2.symm)
end Go.Proofs.YtabjfogmcehemaaDoor.Pure

-- Written by a patched scratch copy of the kit's print program (wip/tools of this session's repo), not by print.sh.
namespace Go.Proofs.YtabjfogmcehemaaDoor.Pd
open Go.RowKit Go.Proofs.YtabjfogmcehemaaDoorW.PrintWords Go.Proofs.YtabjfogmcehemaaDoorW.PrintLast Go.Proofs.YtabjfogmcehemaaDoorW.PrintMore
attribute [local go_sem] max2_int min2_int max_two min_two max_three min_three max_four min_four   -- for this text's walks alone
set_option linter.unusedVariables false
set_option linter.unusedSimpArgs false

/-! ### w_sides: function 28 -/
mutual
def w_sides.j0 : Nat → ByteArray → Int → Int → List ByteArray → Bool → Bool → Option (List ByteArray × ByteArray)
  | 0, _, _, _, _, _, _ => none
  | k + 1, x0, x1, x2, x3, x4, x26 => if x26 = true then (if x4 = true then (some (([] : List ByteArray), x0)) else (if (x3.length : Int) = 0 then (some (([] : List ByteArray), x0)) else (if 0 < (x3.length : Int) then (some (([] : List ByteArray), rdOf ByteArray.empty x3 0)) else (none)))) else (if 0 ≤ (wrap64 ((x3.length : Int) - 1)) then (if (wrap64 ((x3.length : Int) - 1)) < (x3.length : Int) then (if (wrap64 ((x3.length : Int) - 1)) ≤ (x3.length : Int) then ((Pa.w_left.f k x2).bind fun t194 => (if x1 ≤ t194 then ((w_sides.f k x0 x1 t194 (x3.take ((wrap64 ((x3.length : Int) - 1)) : Int).toNat) x4).bind fun bt195 => (if 1 + bt195.2.size ≤ 9223372036854775807 then (if ((⟨#[1]⟩ : ByteArray) ++ bt195.2).size + (rdOf ByteArray.empty x3 (wrap64 ((x3.length : Int) - 1))).size ≤ 9223372036854775807 then ((some (([((⟨#[1]⟩ : ByteArray) ++ bt195.2) ++ (rdOf ByteArray.empty x3 (wrap64 ((x3.length : Int) - 1)))] : List ByteArray) : List ByteArray)).bind fun y199 => (if y199.length + bt195.1.length < 8796093022208 then ((digest_Node.f bt195.2 (rdOf ByteArray.empty x3 (wrap64 ((x3.length : Int) - 1)))).bind fun t205 => (some ((y199 ++ bt195.1), t205))) else (none))) else (none)) else (none))) else ((w_sides.f k x0 (wrap64 (x1 - t194)) (wrap64 (x2 - t194)) (x3.take ((wrap64 ((x3.length : Int) - 1)) : Int).toNat) false).bind fun bt206 => (if 1 + (rdOf ByteArray.empty x3 (wrap64 ((x3.length : Int) - 1))).size ≤ 9223372036854775807 then (if ((⟨#[1]⟩ : ByteArray) ++ (rdOf ByteArray.empty x3 (wrap64 ((x3.length : Int) - 1)))).size + bt206.2.size ≤ 9223372036854775807 then ((some (([((⟨#[1]⟩ : ByteArray) ++ (rdOf ByteArray.empty x3 (wrap64 ((x3.length : Int) - 1)))) ++ bt206.2] : List ByteArray) : List ByteArray)).bind fun y210 => (if y210.length + bt206.1.length < 8796093022208 then ((digest_Node.f (rdOf ByteArray.empty x3 (wrap64 ((x3.length : Int) - 1))) bt206.2).bind fun t216 => (some ((y210 ++ bt206.1), t216))) else (none))) else (none)) else (none))))) else (none)) else (none)) else (none))
def w_sides.f : Nat → ByteArray → Int → Int → List ByteArray → Bool → Option (List ByteArray × ByteArray)
  | 0, _, _, _, _, _ => none
  | k + 1, a0, a1, a2, l3, a4 => if a1 ≥ a2 then (w_sides.j0 k a0 a1 a2 l3 a4 true) else (w_sides.j0 k a0 a1 a2 l3 a4 ((l3.length : Int) == 0))
end
theorem w_sides.mono_l : ∀ k, (∀ y0 y1 y2 y3 y4, LeO (w_sides.f k y0 y1 y2 y3 y4) (w_sides.f (k + 1) y0 y1 y2 y3 y4)) ∧ (∀ y0 y1 y2 y3 y4 y5, LeO (w_sides.j0 k y0 y1 y2 y3 y4 y5) (w_sides.j0 (k + 1) y0 y1 y2 y3 y4 y5))
  | 0 => ⟨fun _ _ _ _ _ r h => by simp [w_sides.f] at h, fun _ _ _ _ _ _ r h => by simp [w_sides.j0] at h⟩
  | k + 1 => by
    obtain ⟨ih0, ih1⟩ := w_sides.mono_l k
    refine ⟨?_, ?_⟩
    · intro y0 y1 y2 y3 y4
      unfold w_sides.f
      repeat' first
      | (with_reducible exact ih0 _ _ _ _ _)
      | (with_reducible exact ih1 _ _ _ _ _ _)
      | (with_reducible exact Pa.w_left.mono _ _)
      | (with_reducible exact LeO.refl _)
      | (with_reducible exact LeO.none _)
      | (with_reducible refine LeO.ite ?_ ?_)
      | (with_reducible refine LeO.bind ?_ (fun _ => ?_))
      | exact ih0 _ _ _ _ _
      | exact ih1 _ _ _ _ _ _
      | exact Pa.w_left.mono _ _
      | exact LeO.none _
      | refine LeO.ite ?_ ?_
      | refine LeO.bind ?_ (fun _ => ?_)
    · intro y0 y1 y2 y3 y4 y5
      unfold w_sides.j0
      repeat' first
      | (with_reducible exact ih0 _ _ _ _ _)
      | (with_reducible exact ih1 _ _ _ _ _ _)
      | (with_reducible exact Pa.w_left.mono _ _)
      | (with_reducible exact LeO.refl _)
      | (with_reducible exact LeO.none _)
      | (with_reducible refine LeO.ite ?_ ?_)
      | (with_reducible refine LeO.bind ?_ (fun _ => ?_))
      | exact ih0 _ _ _ _ _
      | exact ih1 _ _ _ _ _ _
      | exact Pa.w_left.mono _ _
      | exact LeO.none _
      | refine LeO.ite ?_ ?_
      | refine LeO.bind ?_ (fun _ => ?_)
theorem w_sides.mono : ∀ a0 a1 a2 a3 a4 k, LeO (w_sides.f k a0 a1 a2 a3 a4) (w_sides.f (k + 1) a0 a1 a2 a3 a4) := by
  intro a0 a1 a2 a3 a4 k
  obtain ⟨ih0, ih1⟩ := w_sides.mono_l k
  exact ih0 a0 a1 a2 a3 a4
set_option maxHeartbeats 8000000 in
set_option maxRecDepth 100000 in
theorem w_sides.calls (k : Nat) : ∀ (a0 : ByteArray) (a1 : Int) (a2 : Int) (A3 : Option Addr) (c3 : Nat) (l3 : List ByteArray) (a4 : Bool) (r1 : List ByteArray) (r2 : ByteArray) (w : World) (HG : Aside0 (Laid w)) (hr3 : Kd.C Kd.string w A3 l3.length l3) (hc3 : l3.length ≤ c3) (h : w_sides.f k a0 a1 a2 l3 a4 = some (r1, r2)),
    Calls Tryd.prog 28 #[.string a0, .int .i64 a1, .int .i64 a2, .slice A3 l3.length c3, .bool a4] w fun e w' => ∃ v0_ : Value, e = .returned (.tuple #[v0_, .string r2]) ∧ Kd.R Kd.string 9 w' w.heap.size (fun _ => True) v0_ r1 ∧ Below w.heap.size w w' := by
  induction k using Nat.strongRecOn with
  | _ k ih =>
  intro a0 a1 a2 A3 c3 l3 a4 r1 r2 w HG hr3 hc3 h
  cases k with
  | zero => exact absurd h (by simp [w_sides.f])
  | succ k =>
  simp only [w_sides.f] at h
  have HR3 := Aside0.mk hr3
  have HC3 := Aside0.mk hc3
  clear hr3 hc3
  have HB := Aside0.mk (Below.refl w.heap.size w)
  have H : (if a1 ≥ a2 then (w_sides.j0 k a0 a1 a2 l3 a4 true) else (w_sides.j0 k a0 a1 a2 l3 a4 ((l3.length : Int) == 0))) = some (r1, r2) := h
  clear h
  have HC6 := Aside0.mk H
  clear H
  go_enter Tryd.func28, Tryd.ntmps28
  go_upto_region 1 with (fail)
  repeat (go_quiet (fail); go_upto_region 1 with (fail))
  go_cut [26] (fun v26 wc => ∃ (kq : Nat) (x26_5 : Bool), v26 = .bool x26_5 ∧ Aside0 (w_sides.j0 kq a0 a1 a2 l3 a4 x26_5 = some (r1, r2)) ∧ Aside0 (kq ≤ k) ∧ Aside0 (Below w.heap.size w wc))
  case first =>
    have H := HC6.out
    clear HC6
    by_cases c7 : a1 ≥ a2
    · rw [if_pos c7] at H
      have c7b0 : decide (a2 ≤ a1) = true := decide_eq_true c7
      clear c7
      (first | rw [c7b0] | (simp only [i64_w, i32_w]; rw [c7b0]) | skip)
      have H' := Aside0.mk H
      clear H
      go_wp2
      repeat (go_quiet (fail); try go_wp2)
      go_meet
      case rel => exact ⟨_, (true), (by first | rfl | (simp; done) | (simp [*]; done)), H', ⟨by first | omega | exact Nat.le_refl _⟩, ⟨by repeat (first | (with_reducible first | exact HB.out | apply below_alloc | apply pw_below_drewN | apply below_drew1) | exact HB.out)⟩⟩
    · rw [if_neg c7] at H
      have c7b0 : decide (a2 ≤ a1) = false := decide_eq_false c7
      clear c7
      (first | rw [c7b0] | (simp only [i64_w, i32_w]; rw [c7b0]) | skip)
      have H' := Aside0.mk H
      clear H
      go_wp2
      repeat (go_quiet (fail); try go_wp2)
      go_meet
      case rel => exact ⟨_, (((l3.length : Int) == 0)), (by first | rfl | (simp; done) | (simp [*]; done)), H', ⟨by first | omega | exact Nat.le_refl _⟩, ⟨by repeat (first | (with_reducible first | exact HB.out | apply below_alloc | apply pw_below_drewN | apply below_drew1) | exact HB.out)⟩⟩
  case rest =>
    clear HC6
    try clear c2
    try clear p2
    try clear c3
    try clear c7
    try clear c7b0
    obtain ⟨kq, x26_5, rfl, HA, HJ5, HB⟩ := hcut
    cases kq with
    | zero => exact absurd HA.out (by simp [w_sides.j0])
    | succ kj5 =>
      have H := HA.out
      clear HA
      simp only [w_sides.j0] at H
      by_cases c8 : x26_5 = true
      · subst c8
        have H1 : (if a4 = true then (some (([] : List ByteArray), a0)) else (if (l3.length : Int) = 0 then (some (([] : List ByteArray), a0)) else (if 0 < (l3.length : Int) then (some (([] : List ByteArray), rdOf ByteArray.empty l3 0)) else (none)))) = some (r1, r2) := by rw [if_pos rfl] at H; exact H
        clear H
        have H := H1
        clear H1
        by_cases c9 : a4 = true
        · subst c9
          have H1 : (some (([] : List ByteArray), a0)) = some (r1, r2) := by rw [if_pos rfl] at H; exact H
          clear H
          have H := H1
          clear H1
          simp only [Option.some.injEq, Prod.mk.injEq] at H
          obtain ⟨rfl, rfl⟩ := H
          go_wp2
          repeat (go_quiet (fail); try go_wp2)
          go_ret2
          exact ⟨_, by first | rfl | (simp [errW_none, errW_some] <;> rfl) | (simp [*, errW_none, errW_some] <;> rfl), by first | exact Kd.R_nil _ _ _ _ _ | exact Kd.N_nil _ _ _ _ _ | exact Kd.V_nil _ _ _ _ _ | exact Kd.Q_nil _ _ _ _ _ | exact Kd.S_nil _ _ _ _ _, by repeat (first | (with_reducible first | exact HB.out | apply below_alloc | apply pw_below_drewN | apply below_drew1) | exact HB.out)⟩
        · replace c9 := Bool.eq_false_iff.mpr c9
          subst c9
          have H1 : (if (l3.length : Int) = 0 then (some (([] : List ByteArray), a0)) else (if 0 < (l3.length : Int) then (some (([] : List ByteArray), rdOf ByteArray.empty l3 0)) else (none))) = some (r1, r2) := by rw [if_neg (show ¬ (false = true) by decide)] at H; exact H
          clear H
          have H := H1
          clear H1
          by_cases c10 : (l3.length : Int) = 0
          · rw [if_pos c10] at H
            have c10b0 : ((l3.length : Int) == 0) = true := beq_iff_eq.mpr c10
            have c10b1 : ((l3.length : Int) != 0) = false := bne_eq_false_iff_eq.mpr c10
            clear c10
            simp only [Option.some.injEq, Prod.mk.injEq] at H
            obtain ⟨rfl, rfl⟩ := H
            go_wp2
            repeat (go_quiet (fail); try go_wp2)
            go_ret2
            exact ⟨_, by first | rfl | (simp [errW_none, errW_some] <;> rfl) | (simp [*, errW_none, errW_some] <;> rfl), by first | exact Kd.R_nil _ _ _ _ _ | exact Kd.N_nil _ _ _ _ _ | exact Kd.V_nil _ _ _ _ _ | exact Kd.Q_nil _ _ _ _ _ | exact Kd.S_nil _ _ _ _ _, by repeat (first | (with_reducible first | exact HB.out | apply below_alloc | apply pw_below_drewN | apply below_drew1) | exact HB.out)⟩
          · rw [if_neg c10] at H
            have c10b0 : ((l3.length : Int) == 0) = false := beq_eq_false_iff_ne.mpr c10
            have c10b1 : ((l3.length : Int) != 0) = true := bne_iff_ne.mpr c10
            have c10b2 : ¬ (l3 = []) := fun h_ => c10 (by rw [h_]; rfl)
            by_cases c11 : 0 < (l3.length : Int)
            · rw [if_pos c11] at H
              have c11b0 : decide (0 < (l3.length : Int)) = true := decide_eq_true c11
              have c11b1 : decide (0 < l3.length) = true := decide_eq_true (by omega)
              clear c11
              simp only [Option.some.injEq, Prod.mk.injEq] at H
              obtain ⟨rfl, rfl⟩ := H
              have p191 : 0 ≤ (0 : Int) := (by omega)
              have q191 : 0 < (l3.length : Int) := of_decide_eq_true (by first | (with_reducible assumption) | assumption)
              obtain ⟨ad191, e191, hx191_0⟩ := Kd.at_string HR3.out 0 p191 q191
              cases e191
              have qi191 : (0 < l3.length) = True := eq_true (by omega)
              (try rw [show ((0 : Int)).toNat = 0 from rfl] at hx191_0)
              (try rw [Addr.add_zero'] at hx191_0)
              replace hx191_0 := (HB.out.cell (World.block_lt_of_cell? w _ hx191_0)).trans hx191_0
              replace p191 := eq_true p191
              replace q191 := eq_true q191
              go_wp2
              repeat (go_quiet (fail); try go_wp2)
              go_ret2
              exact ⟨_, by first | rfl | (simp [errW_none, errW_some] <;> rfl) | (simp [*, errW_none, errW_some] <;> rfl), by first | exact Kd.R_nil _ _ _ _ _ | exact Kd.N_nil _ _ _ _ _ | exact Kd.V_nil _ _ _ _ _ | exact Kd.Q_nil _ _ _ _ _ | exact Kd.S_nil _ _ _ _ _, by repeat (first | (with_reducible first | exact HB.out | apply below_alloc | apply pw_below_drewN | apply below_drew1) | exact HB.out)⟩
            · rw [if_neg c11] at H
              exact absurd H (by simp)
      · replace c8 := Bool.eq_false_iff.mpr c8
        subst c8
        have H1 : (if 0 ≤ (wrap64 ((l3.length : Int) - 1)) then (if (wrap64 ((l3.length : Int) - 1)) < (l3.length : Int) then (if (wrap64 ((l3.length : Int) - 1)) ≤ (l3.length : Int) then ((Pa.w_left.f kj5 a2).bind fun t194 => (if a1 ≤ t194 then ((w_sides.f kj5 a0 a1 t194 (l3.take ((wrap64 ((l3.length : Int) - 1)) : Int).toNat) a4).bind fun bt195 => (if 1 + bt195.2.size ≤ 9223372036854775807 then (if ((⟨#[1]⟩ : ByteArray) ++ bt195.2).size + (rdOf ByteArray.empty l3 (wrap64 ((l3.length : Int) - 1))).size ≤ 9223372036854775807 then ((some (([((⟨#[1]⟩ : ByteArray) ++ bt195.2) ++ (rdOf ByteArray.empty l3 (wrap64 ((l3.length : Int) - 1)))] : List ByteArray) : List ByteArray)).bind fun y199 => (if y199.length + bt195.1.length < 8796093022208 then ((digest_Node.f bt195.2 (rdOf ByteArray.empty l3 (wrap64 ((l3.length : Int) - 1)))).bind fun t205 => (some ((y199 ++ bt195.1), t205))) else (none))) else (none)) else (none))) else ((w_sides.f kj5 a0 (wrap64 (a1 - t194)) (wrap64 (a2 - t194)) (l3.take ((wrap64 ((l3.length : Int) - 1)) : Int).toNat) false).bind fun bt206 => (if 1 + (rdOf ByteArray.empty l3 (wrap64 ((l3.length : Int) - 1))).size ≤ 9223372036854775807 then (if ((⟨#[1]⟩ : ByteArray) ++ (rdOf ByteArray.empty l3 (wrap64 ((l3.length : Int) - 1)))).size + bt206.2.size ≤ 9223372036854775807 then ((some (([((⟨#[1]⟩ : ByteArray) ++ (rdOf ByteArray.empty l3 (wrap64 ((l3.length : Int) - 1)))) ++ bt206.2] : List ByteArray) : List ByteArray)).bind fun y210 => (if y210.length + bt206.1.length < 8796093022208 then ((digest_Node.f (rdOf ByteArray.empty l3 (wrap64 ((l3.length : Int) - 1))) bt206.2).bind fun t216 => (some ((y210 ++ bt206.1), t216))) else (none))) else (none)) else (none))))) else (none)) else (none)) else (none)) = some (r1, r2) := by rw [if_neg (show ¬ (false = true) by decide)] at H; exact H
        clear H
        have H := H1
        clear H1
        obtain ⟨ji12, hji12⟩ : ∃ j_ : Int, (wrap64 ((l3.length : Int) - 1)) = j_ := ⟨_, rfl⟩
        replace H : (if 0 ≤ (ji12) then (if (ji12) < (l3.length : Int) then (if (ji12) ≤ (l3.length : Int) then ((Pa.w_left.f kj5 a2).bind fun t194 => (if a1 ≤ t194 then ((w_sides.f kj5 a0 a1 t194 (l3.take ((ji12) : Int).toNat) a4).bind fun bt195 => (if 1 + bt195.2.size ≤ 9223372036854775807 then (if ((⟨#[1]⟩ : ByteArray) ++ bt195.2).size + (rdOf ByteArray.empty l3 (ji12)).size ≤ 9223372036854775807 then ((some (([((⟨#[1]⟩ : ByteArray) ++ bt195.2) ++ (rdOf ByteArray.empty l3 (ji12))] : List ByteArray) : List ByteArray)).bind fun y199 => (if y199.length + bt195.1.length < 8796093022208 then ((digest_Node.f bt195.2 (rdOf ByteArray.empty l3 (ji12))).bind fun t205 => (some ((y199 ++ bt195.1), t205))) else (none))) else (none)) else (none))) else ((w_sides.f kj5 a0 (wrap64 (a1 - t194)) (wrap64 (a2 - t194)) (l3.take ((ji12) : Int).toNat) false).bind fun bt206 => (if 1 + (rdOf ByteArray.empty l3 (ji12)).size ≤ 9223372036854775807 then (if ((⟨#[1]⟩ : ByteArray) ++ (rdOf ByteArray.empty l3 (ji12))).size + bt206.2.size ≤ 9223372036854775807 then ((some (([((⟨#[1]⟩ : ByteArray) ++ (rdOf ByteArray.empty l3 (ji12))) ++ bt206.2] : List ByteArray) : List ByteArray)).bind fun y210 => (if y210.length + bt206.1.length < 8796093022208 then ((digest_Node.f (rdOf ByteArray.empty l3 (ji12)) bt206.2).bind fun t216 => (some ((y210 ++ bt206.1), t216))) else (none))) else (none)) else (none))))) else (none)) else (none)) else (none)) = some (r1, r2) := by first | (rw [hji12] at H; exact H) | (simp only [hji12] at H ⊢; exact H)
        have hji12w : (IntKind.i64.wrap ((l3.length : Int) - 1)) = ji12 := (i64_w _).trans hji12
        by_cases c13 : 0 ≤ (ji12)
        · rw [if_pos c13] at H
          have c13b0 : decide (0 ≤ (ji12)) = true := decide_eq_true c13
          clear c13
          by_cases c14 : (ji12) < (l3.length : Int)
          · rw [if_pos c14] at H
            have c14b0 : decide ((ji12) < (l3.length : Int)) = true := decide_eq_true c14
            clear c14
            have c15b0 := eq_true (of_decide_eq_true (by first | (with_reducible assumption) | assumption) : 0 ≤ (ji12))
            by_cases c16 : (ji12) ≤ (l3.length : Int)
            · rw [if_pos c16] at H
              have c16b0 := eq_true c16
              have c16b1 : decide ((ji12) ≤ (l3.length : Int)) = true := decide_eq_true c16
              clear c16
              replace H := Option.bind_eq_some_iff.mp H
              obtain ⟨t194, A170, H⟩ := H
              replace H : (if a1 ≤ t194 then ((w_sides.f kj5 a0 a1 t194 (l3.take ((ji12) : Int).toNat) a4).bind fun bt195 => (if 1 + bt195.2.size ≤ 9223372036854775807 then (if ((⟨#[1]⟩ : ByteArray) ++ bt195.2).size + (rdOf ByteArray.empty l3 (ji12)).size ≤ 9223372036854775807 then ((some (([((⟨#[1]⟩ : ByteArray) ++ bt195.2) ++ (rdOf ByteArray.empty l3 (ji12))] : List ByteArray) : List ByteArray)).bind fun y199 => (if y199.length + bt195.1.length < 8796093022208 then ((digest_Node.f bt195.2 (rdOf ByteArray.empty l3 (ji12))).bind fun t205 => (some ((y199 ++ bt195.1), t205))) else (none))) else (none)) else (none))) else ((w_sides.f kj5 a0 (wrap64 (a1 - t194)) (wrap64 (a2 - t194)) (l3.take ((ji12) : Int).toNat) false).bind fun bt206 => (if 1 + (rdOf ByteArray.empty l3 (ji12)).size ≤ 9223372036854775807 then (if ((⟨#[1]⟩ : ByteArray) ++ (rdOf ByteArray.empty l3 (ji12))).size + bt206.2.size ≤ 9223372036854775807 then ((some (([((⟨#[1]⟩ : ByteArray) ++ (rdOf ByteArray.empty l3 (ji12))) ++ bt206.2] : List ByteArray) : List ByteArray)).bind fun y210 => (if y210.length + bt206.1.length < 8796093022208 then ((digest_Node.f (rdOf ByteArray.empty l3 (ji12)) bt206.2).bind fun t216 => (some ((y210 ++ bt206.1), t216))) else (none))) else (none)) else (none)))) = some (r1, r2) := H
              have A17 := Aside0.mk A170
              clear A170
              by_cases c18 : a1 ≤ t194
              · rw [if_pos c18] at H
                have c18b0 : decide (a1 ≤ t194) = true := decide_eq_true c18
                clear c18
                replace H := Option.bind_eq_some_iff.mp H
                obtain ⟨⟨t195, t196⟩, A190, H⟩ := H
                replace H : (if 1 + t196.size ≤ 9223372036854775807 then (if ((⟨#[1]⟩ : ByteArray) ++ t196).size + (rdOf ByteArray.empty l3 (ji12)).size ≤ 9223372036854775807 then ((some (([((⟨#[1]⟩ : ByteArray) ++ t196) ++ (rdOf ByteArray.empty l3 (ji12))] : List ByteArray) : List ByteArray)).bind fun y199 => (if y199.length + t195.length < 8796093022208 then ((digest_Node.f t196 (rdOf ByteArray.empty l3 (ji12))).bind fun t205 => (some ((y199 ++ t195), t205))) else (none))) else (none)) else (none)) = some (r1, r2) := H
                have A19 := Aside0.mk A190
                clear A190
                by_cases c20 : 1 + t196.size ≤ 9223372036854775807
                · rw [if_pos c20] at H
                  have c20b0 := eq_true c20
                  have c20b1 : decide (1 + t196.size ≤ 9223372036854775807) = true := decide_eq_true c20
                  try have c20b2 : (9223372036854775807 < 1 + t196.size) = False := eq_false (Nat.not_lt.2 c20)
                  by_cases c21 : ((⟨#[1]⟩ : ByteArray) ++ t196).size + (rdOf ByteArray.empty l3 (ji12)).size ≤ 9223372036854775807
                  · rw [if_pos c21] at H
                    have c21b0 := eq_true c21
                    have c21b1 : decide (((⟨#[1]⟩ : ByteArray) ++ t196).size + (rdOf ByteArray.empty l3 (ji12)).size ≤ 9223372036854775807) = true := decide_eq_true c21
                    try have c21b2 : (9223372036854775807 < ((⟨#[1]⟩ : ByteArray) ++ t196).size + (rdOf ByteArray.empty l3 (ji12)).size) = False := eq_false (Nat.not_lt.2 c21)
                    obtain ⟨y199, hy199⟩ : ∃ y_ : List ByteArray, y_ = (([((⟨#[1]⟩ : ByteArray) ++ t196) ++ (rdOf ByteArray.empty l3 (ji12))] : List ByteArray)) := ⟨_, rfl⟩
                    replace H : (if y199.length + t195.length < 8796093022208 then ((digest_Node.f t196 (rdOf ByteArray.empty l3 (ji12))).bind fun t205 => (some ((y199 ++ t195), t205))) else (none)) = some (r1, r2) := by first | (rw [hy199]; with_reducible exact H) | (have H2_ := (Option.bind_some _ _).symm.trans H; rw [hy199]; with_reducible exact H2_) | (have H2_ := (Option.bind_some _ _).symm.trans H; with_reducible exact H2_) | with_reducible exact H | (rw [hy199]; exact H) | exact H
                    have Ny199 := Aside0.mk hy199
                    clear hy199
                    by_cases c22 : y199.length + t195.length < 8796093022208
                    · rw [if_pos c22] at H
                      have LMc22 := Aside0.mk c22
                      clear c22
                      obtain ⟨y202, hy202⟩ : ∃ y_ : List ByteArray, y_ = (y199 ++ t195) := ⟨_, rfl⟩
                      replace H : ((digest_Node.f t196 (rdOf ByteArray.empty l3 (ji12))).bind fun t205 => (some (y202, t205))) = some (r1, r2) := by first | (rw [hy202]; with_reducible exact H) | (have H2_ := (Option.bind_some _ _).symm.trans H; rw [hy202]; with_reducible exact H2_) | (have H2_ := (Option.bind_some _ _).symm.trans H; with_reducible exact H2_) | with_reducible exact H | (rw [hy202]; exact H) | exact H
                      have Ny202 := Aside0.mk hy202
                      clear hy202
                      replace H := Option.bind_eq_some_iff.mp H
                      obtain ⟨t205, A230, H⟩ := H
                      replace H : (some (y202, t205)) = some (r1, r2) := H
                      have A23 := Aside0.mk A230
                      clear A230
                      simp only [Option.some.injEq, Prod.mk.injEq] at H
                      obtain ⟨rfl, rfl⟩ := H
                      have p192 : 0 ≤ ((ji12) : Int) := of_decide_eq_true (by first | (with_reducible assumption) | assumption)
                      have q192 : (ji12) < (l3.length : Int) := of_decide_eq_true (by first | (with_reducible assumption) | assumption)
                      obtain ⟨ad192, e192, hx192_0⟩ := Kd.at_string HR3.out (ji12) p192 q192
                      cases e192
                      replace hx192_0 := (HB.out.cell (World.block_lt_of_cell? w _ hx192_0)).trans hx192_0
                      replace p192 := eq_true p192
                      replace q192 := eq_true q192
                      obtain ⟨i024, hi024, _, hsz24, _⟩ := info_parts info9
                      obtain ⟨hcut24, hA24, hC24⟩ := print_take_of (P := Tryd.prog) Value.string (⟨#[]⟩ : ByteArray) 22 9 .i64 Tryd.underlying22 hi024 hsz24 (some ad192) c3 l3 (ji12) (of_decide_eq_true (by first | (with_reducible assumption) | assumption)) (of_decide_eq_true (by first | (with_reducible assumption) | assumption)) HC3.out
                      have HR193 := Aside0.mk (Kd.C_of_reads (h1 := fun _ => rfl) (hA24 _ (Kd.reads_of_C HR3.out)))
                      have HC193 := Aside0.mk hC24
                      clear hA24 hC24 hi024 hsz24
                      go_wp2_with (first | (go_at_call 31; (with_reducible refine (Pa.w_left.calls kj5 a2 t194 _ A17.out).mono ?_); rintro e w' ⟨rfl, ⟨nd, rfl⟩⟩; (try first | exact ⟨rfl, _, World.drewN_drewN _ _ _⟩ | exact ⟨rfl, _, Eq.trans (World.drewN_drewN _ _ _) (congrArg (World.drewN _) (Nat.add_assoc _ _ _))⟩)) | (go_at_call 28; refine calls_of_args (args' := #[.string a0, .int .i64 a1, .int .i64 t194, .slice (some ad192) (l3.take ((ji12) : Int).toNat).length c3, .bool a4]) (by rw [show (l3.take ((ji12) : Int).toNat).length = (ji12).toNat from (by rw [List.length_take]; have h_ : ((ji12) : Int) ≤ (l3.length : Int) := of_decide_eq_true (by first | (with_reducible assumption) | assumption); omega)] <;> rfl) ?_; (with_reducible refine (ih kj5 (by have := HJ5.out; omega) a0 a1 t194 _ _ (l3.take ((ji12) : Int).toNat) a4 t195 t196 _ ?side3 ?side1 ?side2 A19.out).mono ?_); (case side1 => repeat (first | exact (Kd.C_below HR193.out (by repeat (first | (with_reducible first | exact HB.out | apply below_alloc | apply pw_below_drewN | apply below_drew1) | exact HB.out))) | (with_reducible refine Kd.C_alloc ?_ _) | (with_reducible refine Kd.C_drewN ?_ _) | (with_reducible refine Kd.C_drew ?_))); (case side2 => exact HC193.out); (case side3 => exact Aside0.mk (Laid.below HG.out (by repeat (first | (with_reducible first | exact HB.out | apply below_alloc | apply pw_below_drewN | apply below_drew1) | exact HB.out)))); rintro e w25 ⟨v197, rfl, ho0, hb⟩; have n0_ := Aside0.mk (Kd.R_lower ho0 (below_size (by repeat (first | (with_reducible first | exact HB.out | apply below_alloc | apply pw_below_drewN | apply below_drew1) | exact HB.out)))); have n1_ := Aside0.mk (below_step (by repeat (first | (with_reducible first | exact HB.out | apply below_alloc | apply pw_below_drewN | apply below_drew1) | exact HB.out)) hb); clear HB; have HO198 := n0_; have HB := n1_; clear n0_ n1_; (try clear hb); (try clear hb2); (try clear hk); (try clear hi); (try clear ho0)) | ((with_reducible refine gate_dst (N := 66) rfl ?_); (try (refine gate_guard (by rfl) ?_; dsimp only)); refine Kd.R_lit Kd.string _ 9 ?hg (N := 66) ?hd (xs := ([((⟨#[1]⟩ : ByteArray) ++ t196) ++ (rdOf ByteArray.empty l3 (ji12))] : List ByteArray)) (inner := [.string (((⟨#[1]⟩ : ByteArray) ++ t196) ++ (rdOf ByteArray.empty l3 (ji12)))]) (ok := fun _ => True) (okp := fun _ => True) ?hr ?hp (fun _ hk => hk) trivial (Below.refl _ _) (Nat.le_refl _) (by simp) ?_; (case hd => rfl); (case hg => rfl); (case hr => first | (go_simp; done) | (go_simp; rfl)); (case hp => exact (Reps.one (show Kd.M Kd.string _ _ _ (((⟨#[1]⟩ : ByteArray) ++ t196) ++ (rdOf ByteArray.empty l3 (ji12))) [.string (((⟨#[1]⟩ : ByteArray) ++ t196) ++ (rdOf ByteArray.empty l3 (ji12)))] from rfl) (Reps.none _ _))); intro v200 w26 ho27 hb hg_ hnew_; clear hg_ hnew_; (first | rw [← Ny199.out] at ho27 | (simp only [Int.reduceToNat] at ho27; rw [← Ny199.out] at ho27)); have n0_ := Aside0.mk (Kd.R_elder' (by (with_reducible repeat (first | apply Kd.R_alloc | apply Kd.R_drewN | apply Kd.R_drew)); exact HO198.out) (Kd.R_base ho27) hb); have n1_ := Aside0.mk (Kd.R_lower (Kd.R_new' ho27 (Kd.R_lt (by (with_reducible repeat (first | apply Kd.R_alloc | apply Kd.R_drewN | apply Kd.R_drew)); exact HO198.out))) (below_size (by repeat (first | (with_reducible first | exact HB.out | apply below_alloc | apply pw_below_drewN | apply below_drew1) | exact HB.out)))); have n2_ := Aside0.mk (below_step (by repeat (first | (with_reducible first | exact HB.out | apply below_alloc | apply pw_below_drewN | apply below_drew1) | exact HB.out)) hb); clear HO198; clear HB; have HO198 := n0_; have HO201 := n1_; have HB := n2_; clear n0_ n1_ n2_; clear hb ho27; obtain ⟨Ao29, co29, eo29⟩ := Kd.R_slice HO198.out; subst eo29) | ((with_reducible refine gate_builtin (b := .append) (xs := #[.tmp 66, .tmp 67]) rfl ?_); (try (refine gate_guard (by rfl) ?_; dsimp only)); at_builtin; refine Kd.R_append_rows Kd.string (w0 := w) w.heap.size rfl (.tmp 66) (.tmp 67) 22 9 (.string ⟨#[]⟩) 16 rfl Tryd.underlying22 info9 rfl (by decide) (by omega) v200 y199 t195 _ _ _ (fun k_ => some k_ ≠ (.slice Ao29 t195.length co29 : Value).ownBlock) (fun _ => False) rfl rfl ?aO ?aR (fun _ _ h => h) (fun _ h => h.elim) ?aF ?aB ?aS ?aL ?_; (case aR => repeat (first | exact (Kd.R_reads' HO198.out).2.2 | (with_reducible refine Kd.C_alloc ?_ _) | (with_reducible refine Kd.C_drewN ?_ _) | (with_reducible refine Kd.C_drew ?_))); (case aB => exact (by repeat (first | (with_reducible first | exact HB.out | apply below_alloc | apply pw_below_drewN | apply below_drew1) | exact HB.out))); (case aF => exact (fun k_ hk => Kd.fresh' (Kd.R_lt (by (with_reducible repeat (first | apply Kd.R_alloc | apply Kd.R_drewN | apply Kd.R_drew)); exact HO198.out)) k_ hk)); (case aO => exact (by (with_reducible repeat (first | apply Kd.R_alloc | apply Kd.R_drewN | apply Kd.R_drew)); exact Kd.R_mono HO201.out (fun _ hk => hk.2))); (case aS => exact (below_size (by repeat (first | (with_reducible first | exact HB.out | apply below_alloc | apply pw_below_drewN | apply below_drew1) | exact HB.out)))); (case aL => have := LMc22.out; omega); intro v203 w28 ho hb hg hat; rw [← Ny202.out] at ho; have n0_ := Aside0.mk (Kd.R_after (ok := (fun _ => True)) (by (with_reducible repeat (first | apply Kd.R_alloc | apply Kd.R_drewN | apply Kd.R_drew)); exact HO198.out) hg hat); have n1_ := Aside0.mk (hb); have n2_ := Aside0.mk (ho); clear HO198; clear HB; clear HO201; have HO198 := n0_; have HB := n1_; have HO204 := n2_; clear n0_ n1_ n2_; clear ho hb hg hat) | (go_at_call 32; (with_reducible refine (digest_Node.calls t196 (rdOf ByteArray.empty l3 (ji12)) t205 _ ?side1 A23.out).mono ?_); (case side1 => exact Aside0.mk (Laid.below HG.out (by repeat (first | (with_reducible first | exact HB.out | apply below_alloc | apply pw_below_drewN | apply below_drew1) | exact HB.out)))); rintro e w30 ⟨rfl, hb⟩; have n0_ := Aside0.mk (Kd.R_below (by (with_reducible repeat (first | apply Kd.R_alloc | apply Kd.R_drewN | apply Kd.R_drew)); exact HO198.out) hb); have n1_ := Aside0.mk (Kd.R_below (by (with_reducible repeat (first | apply Kd.R_alloc | apply Kd.R_drewN | apply Kd.R_drew)); exact HO204.out) hb); have n2_ := Aside0.mk (below_step (by repeat (first | (with_reducible first | exact HB.out | apply below_alloc | apply pw_below_drewN | apply below_drew1) | exact HB.out)) hb); clear HO198; clear HO204; clear HB; have HO198 := n0_; have HO204 := n1_; have HB := n2_; clear n0_ n1_ n2_; (try clear hb); (try clear hb2); (try clear hk); (try clear hi)))
                      repeat (go_quiet (first | (go_at_call 31; (with_reducible refine (Pa.w_left.calls kj5 a2 t194 _ A17.out).mono ?_); rintro e w' ⟨rfl, ⟨nd, rfl⟩⟩; (try first | exact ⟨rfl, _, World.drewN_drewN _ _ _⟩ | exact ⟨rfl, _, Eq.trans (World.drewN_drewN _ _ _) (congrArg (World.drewN _) (Nat.add_assoc _ _ _))⟩)) | (go_at_call 28; refine calls_of_args (args' := #[.string a0, .int .i64 a1, .int .i64 t194, .slice (some ad192) (l3.take ((ji12) : Int).toNat).length c3, .bool a4]) (by rw [show (l3.take ((ji12) : Int).toNat).length = (ji12).toNat from (by rw [List.length_take]; have h_ : ((ji12) : Int) ≤ (l3.length : Int) := of_decide_eq_true (by first | (with_reducible assumption) | assumption); omega)] <;> rfl) ?_; (with_reducible refine (ih kj5 (by have := HJ5.out; omega) a0 a1 t194 _ _ (l3.take ((ji12) : Int).toNat) a4 t195 t196 _ ?side3 ?side1 ?side2 A19.out).mono ?_); (case side1 => repeat (first | exact (Kd.C_below HR193.out (by repeat (first | (with_reducible first | exact HB.out | apply below_alloc | apply pw_below_drewN | apply below_drew1) | exact HB.out))) | (with_reducible refine Kd.C_alloc ?_ _) | (with_reducible refine Kd.C_drewN ?_ _) | (with_reducible refine Kd.C_drew ?_))); (case side2 => exact HC193.out); (case side3 => exact Aside0.mk (Laid.below HG.out (by repeat (first | (with_reducible first | exact HB.out | apply below_alloc | apply pw_below_drewN | apply below_drew1) | exact HB.out)))); rintro e w25 ⟨v197, rfl, ho0, hb⟩; have n0_ := Aside0.mk (Kd.R_lower ho0 (below_size (by repeat (first | (with_reducible first | exact HB.out | apply below_alloc | apply pw_below_drewN | apply below_drew1) | exact HB.out)))); have n1_ := Aside0.mk (below_step (by repeat (first | (with_reducible first | exact HB.out | apply below_alloc | apply pw_below_drewN | apply below_drew1) | exact HB.out)) hb); clear HB; have HO198 := n0_; have HB := n1_; clear n0_ n1_; (try clear hb); (try clear hb2); (try clear hk); (try clear hi); (try clear ho0)) | ((with_reducible refine gate_dst (N := 66) rfl ?_); (try (refine gate_guard (by rfl) ?_; dsimp only)); refine Kd.R_lit Kd.string _ 9 ?hg (N := 66) ?hd (xs := ([((⟨#[1]⟩ : ByteArray) ++ t196) ++ (rdOf ByteArray.empty l3 (ji12))] : List ByteArray)) (inner := [.string (((⟨#[1]⟩ : ByteArray) ++ t196) ++ (rdOf ByteArray.empty l3 (ji12)))]) (ok := fun _ => True) (okp := fun _ => True) ?hr ?hp (fun _ hk => hk) trivial (Below.refl _ _) (Nat.le_refl _) (by simp) ?_; (case hd => rfl); (case hg => rfl); (case hr => first | (go_simp; done) | (go_simp; rfl)); (case hp => exact (Reps.one (show Kd.M Kd.string _ _ _ (((⟨#[1]⟩ : ByteArray) ++ t196) ++ (rdOf ByteArray.empty l3 (ji12))) [.string (((⟨#[1]⟩ : ByteArray) ++ t196) ++ (rdOf ByteArray.empty l3 (ji12)))] from rfl) (Reps.none _ _))); intro v200 w26 ho27 hb hg_ hnew_; clear hg_ hnew_; (first | rw [← Ny199.out] at ho27 | (simp only [Int.reduceToNat] at ho27; rw [← Ny199.out] at ho27)); have n0_ := Aside0.mk (Kd.R_elder' (by (with_reducible repeat (first | apply Kd.R_alloc | apply Kd.R_drewN | apply Kd.R_drew)); exact HO198.out) (Kd.R_base ho27) hb); have n1_ := Aside0.mk (Kd.R_lower (Kd.R_new' ho27 (Kd.R_lt (by (with_reducible repeat (first | apply Kd.R_alloc | apply Kd.R_drewN | apply Kd.R_drew)); exact HO198.out))) (below_size (by repeat (first | (with_reducible first | exact HB.out | apply below_alloc | apply pw_below_drewN | apply below_drew1) | exact HB.out)))); have n2_ := Aside0.mk (below_step (by repeat (first | (with_reducible first | exact HB.out | apply below_alloc | apply pw_below_drewN | apply below_drew1) | exact HB.out)) hb); clear HO198; clear HB; have HO198 := n0_; have HO201 := n1_; have HB := n2_; clear n0_ n1_ n2_; clear hb ho27; obtain ⟨Ao29, co29, eo29⟩ := Kd.R_slice HO198.out; subst eo29) | ((with_reducible refine gate_builtin (b := .append) (xs := #[.tmp 66, .tmp 67]) rfl ?_); (try (refine gate_guard (by rfl) ?_; dsimp only)); at_builtin; refine Kd.R_append_rows Kd.string (w0 := w) w.heap.size rfl (.tmp 66) (.tmp 67) 22 9 (.string ⟨#[]⟩) 16 rfl Tryd.underlying22 info9 rfl (by decide) (by omega) v200 y199 t195 _ _ _ (fun k_ => some k_ ≠ (.slice Ao29 t195.length co29 : Value).ownBlock) (fun _ => False) rfl rfl ?aO ?aR (fun _ _ h => h) (fun _ h => h.elim) ?aF ?aB ?aS ?aL ?_; (case aR => repeat (first | exact (Kd.R_reads' HO198.out).2.2 | (with_reducible refine Kd.C_alloc ?_ _) | (with_reducible refine Kd.C_drewN ?_ _) | (with_reducible refine Kd.C_drew ?_))); (case aB => exact (by repeat (first | (with_reducible first | exact HB.out | apply below_alloc | apply pw_below_drewN | apply below_drew1) | exact HB.out))); (case aF => exact (fun k_ hk => Kd.fresh' (Kd.R_lt (by (with_reducible repeat (first | apply Kd.R_alloc | apply Kd.R_drewN | apply Kd.R_drew)); exact HO198.out)) k_ hk)); (case aO => exact (by (with_reducible repeat (first | apply Kd.R_alloc | apply Kd.R_drewN | apply Kd.R_drew)); exact Kd.R_mono HO201.out (fun _ hk => hk.2))); (case aS => exact (below_size (by repeat (first | (with_reducible first | exact HB.out | apply below_alloc | apply pw_below_drewN | apply below_drew1) | exact HB.out)))); (case aL => have := LMc22.out; omega); intro v203 w28 ho hb hg hat; rw [← Ny202.out] at ho; have n0_ := Aside0.mk (Kd.R_after (ok := (fun _ => True)) (by (with_reducible repeat (first | apply Kd.R_alloc | apply Kd.R_drewN | apply Kd.R_drew)); exact HO198.out) hg hat); have n1_ := Aside0.mk (hb); have n2_ := Aside0.mk (ho); clear HO198; clear HB; clear HO201; have HO198 := n0_; have HB := n1_; have HO204 := n2_; clear n0_ n1_ n2_; clear ho hb hg hat) | (go_at_call 32; (with_reducible refine (digest_Node.calls t196 (rdOf ByteArray.empty l3 (ji12)) t205 _ ?side1 A23.out).mono ?_); (case side1 => exact Aside0.mk (Laid.below HG.out (by repeat (first | (with_reducible first | exact HB.out | apply below_alloc | apply pw_below_drewN | apply below_drew1) | exact HB.out)))); rintro e w30 ⟨rfl, hb⟩; have n0_ := Aside0.mk (Kd.R_below (by (with_reducible repeat (first | apply Kd.R_alloc | apply Kd.R_drewN | apply Kd.R_drew)); exact HO198.out) hb); have n1_ := Aside0.mk (Kd.R_below (by (with_reducible repeat (first | apply Kd.R_alloc | apply Kd.R_drewN | apply Kd.R_drew)); exact HO204.out) hb); have n2_ := Aside0.mk (below_step (by repeat (first | (with_reducible first | exact HB.out | apply below_alloc | apply pw_below_drewN | apply below_drew1) | exact HB.out)) hb); clear HO198; clear HO204; clear HB; have HO198 := n0_; have HO204 := n1_; have HB := n2_; clear n0_ n1_ n2_; (try clear hb); (try clear hb2); (try clear hk); (try clear hi))); try go_wp2_with (first | (go_at_call 31; (with_reducible refine (Pa.w_left.calls kj5 a2 t194 _ A17.out).mono ?_); rintro e w' ⟨rfl, ⟨nd, rfl⟩⟩; (try first | exact ⟨rfl, _, World.drewN_drewN _ _ _⟩ | exact ⟨rfl, _, Eq.trans (World.drewN_drewN _ _ _) (congrArg (World.drewN _) (Nat.add_assoc _ _ _))⟩)) | (go_at_call 28; refine calls_of_args (args' := #[.string a0, .int .i64 a1, .int .i64 t194, .slice (some ad192) (l3.take ((ji12) : Int).toNat).length c3, .bool a4]) (by rw [show (l3.take ((ji12) : Int).toNat).length = (ji12).toNat from (by rw [List.length_take]; have h_ : ((ji12) : Int) ≤ (l3.length : Int) := of_decide_eq_true (by first | (with_reducible assumption) | assumption); omega)] <;> rfl) ?_; (with_reducible refine (ih kj5 (by have := HJ5.out; omega) a0 a1 t194 _ _ (l3.take ((ji12) : Int).toNat) a4 t195 t196 _ ?side3 ?side1 ?side2 A19.out).mono ?_); (case side1 => repeat (first | exact (Kd.C_below HR193.out (by repeat (first | (with_reducible first | exact HB.out | apply below_alloc | apply pw_below_drewN | apply below_drew1) | exact HB.out))) | (with_reducible refine Kd.C_alloc ?_ _) | (with_reducible refine Kd.C_drewN ?_ _) | (with_reducible refine Kd.C_drew ?_))); (case side2 => exact HC193.out); (case side3 => exact Aside0.mk (Laid.below HG.out (by repeat (first | (with_reducible first | exact HB.out | apply below_alloc | apply pw_below_drewN | apply below_drew1) | exact HB.out)))); rintro e w25 ⟨v197, rfl, ho0, hb⟩; have n0_ := Aside0.mk (Kd.R_lower ho0 (below_size (by repeat (first | (with_reducible first | exact HB.out | apply below_alloc | apply pw_below_drewN | apply below_drew1) | exact HB.out)))); have n1_ := Aside0.mk (below_step (by repeat (first | (with_reducible first | exact HB.out | apply below_alloc | apply pw_below_drewN | apply below_drew1) | exact HB.out)) hb); clear HB; have HO198 := n0_; have HB := n1_; clear n0_ n1_; (try clear hb); (try clear hb2); (try clear hk); (try clear hi); (try clear ho0)) | ((with_reducible refine gate_dst (N := 66) rfl ?_); (try (refine gate_guard (by rfl) ?_; dsimp only)); refine Kd.R_lit Kd.string _ 9 ?hg (N := 66) ?hd (xs := ([((⟨#[1]⟩ : ByteArray) ++ t196) ++ (rdOf ByteArray.empty l3 (ji12))] : List ByteArray)) (inner := [.string (((⟨#[1]⟩ : ByteArray) ++ t196) ++ (rdOf ByteArray.empty l3 (ji12)))]) (ok := fun _ => True) (okp := fun _ => True) ?hr ?hp (fun _ hk => hk) trivial (Below.refl _ _) (Nat.le_refl _) (by simp) ?_; (case hd => rfl); (case hg => rfl); (case hr => first | (go_simp; done) | (go_simp; rfl)); (case hp => exact (Reps.one (show Kd.M Kd.string _ _ _ (((⟨#[1]⟩ : ByteArray) ++ t196) ++ (rdOf ByteArray.empty l3 (ji12))) [.string (((⟨#[1]⟩ : ByteArray) ++ t196) ++ (rdOf ByteArray.empty l3 (ji12)))] from rfl) (Reps.none _ _))); intro v200 w26 ho27 hb hg_ hnew_; clear hg_ hnew_; (first | rw [← Ny199.out] at ho27 | (simp only [Int.reduceToNat] at ho27; rw [← Ny199.out] at ho27)); have n0_ := Aside0.mk (Kd.R_elder' (by (with_reducible repeat (first | apply Kd.R_alloc | apply Kd.R_drewN | apply Kd.R_drew)); exact HO198.out) (Kd.R_base ho27) hb); have n1_ := Aside0.mk (Kd.R_lower (Kd.R_new' ho27 (Kd.R_lt (by (with_reducible repeat (first | apply Kd.R_alloc | apply Kd.R_drewN | apply Kd.R_drew)); exact HO198.out))) (below_size (by repeat (first | (with_reducible first | exact HB.out | apply below_alloc | apply pw_below_drewN | apply below_drew1) | exact HB.out)))); have n2_ := Aside0.mk (below_step (by repeat (first | (with_reducible first | exact HB.out | apply below_alloc | apply pw_below_drewN | apply below_drew1) | exact HB.out)) hb); clear HO198; clear HB; have HO198 := n0_; have HO201 := n1_; have HB := n2_; clear n0_ n1_ n2_; clear hb ho27; obtain ⟨Ao29, co29, eo29⟩ := Kd.R_slice HO198.out; subst eo29) | ((with_reducible refine gate_builtin (b := .append) (xs := #[.tmp 66, .tmp 67]) rfl ?_); (try (refine gate_guard (by rfl) ?_; dsimp only)); at_builtin; refine Kd.R_append_rows Kd.string (w0 := w) w.heap.size rfl (.tmp 66) (.tmp 67) 22 9 (.string ⟨#[]⟩) 16 rfl Tryd.underlying22 info9 rfl (by decide) (by omega) v200 y199 t195 _ _ _ (fun k_ => some k_ ≠ (.slice Ao29 t195.length co29 : Value).ownBlock) (fun _ => False) rfl rfl ?aO ?aR (fun _ _ h => h) (fun _ h => h.elim) ?aF ?aB ?aS ?aL ?_; (case aR => repeat (first | exact (Kd.R_reads' HO198.out).2.2 | (with_reducible refine Kd.C_alloc ?_ _) | (with_reducible refine Kd.C_drewN ?_ _) | (with_reducible refine Kd.C_drew ?_))); (case aB => exact (by repeat (first | (with_reducible first | exact HB.out | apply below_alloc | apply pw_below_drewN | apply below_drew1) | exact HB.out))); (case aF => exact (fun k_ hk => Kd.fresh' (Kd.R_lt (by (with_reducible repeat (first | apply Kd.R_alloc | apply Kd.R_drewN | apply Kd.R_drew)); exact HO198.out)) k_ hk)); (case aO => exact (by (with_reducible repeat (first | apply Kd.R_alloc | apply Kd.R_drewN | apply Kd.R_drew)); exact Kd.R_mono HO201.out (fun _ hk => hk.2))); (case aS => exact (below_size (by repeat (first | (with_reducible first | exact HB.out | apply below_alloc | apply pw_below_drewN | apply below_drew1) | exact HB.out)))); (case aL => have := LMc22.out; omega); intro v203 w28 ho hb hg hat; rw [← Ny202.out] at ho; have n0_ := Aside0.mk (Kd.R_after (ok := (fun _ => True)) (by (with_reducible repeat (first | apply Kd.R_alloc | apply Kd.R_drewN | apply Kd.R_drew)); exact HO198.out) hg hat); have n1_ := Aside0.mk (hb); have n2_ := Aside0.mk (ho); clear HO198; clear HB; clear HO201; have HO198 := n0_; have HB := n1_; have HO204 := n2_; clear n0_ n1_ n2_; clear ho hb hg hat) | (go_at_call 32; (with_reducible refine (digest_Node.calls t196 (rdOf ByteArray.empty l3 (ji12)) t205 _ ?side1 A23.out).mono ?_); (case side1 => exact Aside0.mk (Laid.below HG.out (by repeat (first | (with_reducible first | exact HB.out | apply below_alloc | apply pw_below_drewN | apply below_drew1) | exact HB.out)))); rintro e w30 ⟨rfl, hb⟩; have n0_ := Aside0.mk (Kd.R_below (by (with_reducible repeat (first | apply Kd.R_alloc | apply Kd.R_drewN | apply Kd.R_drew)); exact HO198.out) hb); have n1_ := Aside0.mk (Kd.R_below (by (with_reducible repeat (first | apply Kd.R_alloc | apply Kd.R_drewN | apply Kd.R_drew)); exact HO204.out) hb); have n2_ := Aside0.mk (below_step (by repeat (first | (with_reducible first | exact HB.out | apply below_alloc | apply pw_below_drewN | apply below_drew1) | exact HB.out)) hb); clear HO198; clear HO204; clear HB; have HO198 := n0_; have HO204 := n1_; have HB := n2_; clear n0_ n1_ n2_; (try clear hb); (try clear hb2); (try clear hk); (try clear hi))))
                      go_ret2
                      exact ⟨_, by first | rfl | (simp [errW_none, errW_some] <;> rfl) | (simp only [← hji12]; first | rfl | (simp [errW_none, errW_some] <;> rfl)) | (simp [*, errW_none, errW_some] <;> rfl), by (with_reducible repeat (first | apply Kd.R_alloc | apply Kd.R_drewN | apply Kd.R_drew)); exact Kd.R_mono HO204.out (fun _ hk => trivial), by repeat (first | (with_reducible first | exact HB.out | apply below_alloc | apply pw_below_drewN | apply below_drew1) | exact HB.out)⟩
                    · rw [if_neg c22] at H
                      exact absurd H (by simp)
                  · rw [if_neg c21] at H
                    exact absurd H (by simp)
                · rw [if_neg c20] at H
                  exact absurd H (by simp)
              · rw [if_neg c18] at H
                have c18b0 : decide (a1 ≤ t194) = false := decide_eq_false c18
                clear c18
                replace H := Option.bind_eq_some_iff.mp H
                obtain ⟨⟨t206, t207⟩, A310, H⟩ := H
                replace H : (if 1 + (rdOf ByteArray.empty l3 (ji12)).size ≤ 9223372036854775807 then (if ((⟨#[1]⟩ : ByteArray) ++ (rdOf ByteArray.empty l3 (ji12))).size + t207.size ≤ 9223372036854775807 then ((some (([((⟨#[1]⟩ : ByteArray) ++ (rdOf ByteArray.empty l3 (ji12))) ++ t207] : List ByteArray) : List ByteArray)).bind fun y210 => (if y210.length + t206.length < 8796093022208 then ((digest_Node.f (rdOf ByteArray.empty l3 (ji12)) t207).bind fun t216 => (some ((y210 ++ t206), t216))) else (none))) else (none)) else (none)) = some (r1, r2) := H
                have A31 := Aside0.mk A310
                clear A310
                by_cases c32 : 1 + (rdOf ByteArray.empty l3 (ji12)).size ≤ 9223372036854775807
                · rw [if_pos c32] at H
                  have c32b0 := eq_true c32
                  have c32b1 : decide (1 + (rdOf ByteArray.empty l3 (ji12)).size ≤ 9223372036854775807) = true := decide_eq_true c32
                  try have c32b2 : (9223372036854775807 < 1 + (rdOf ByteArray.empty l3 (ji12)).size) = False := eq_false (Nat.not_lt.2 c32)
                  by_cases c33 : ((⟨#[1]⟩ : ByteArray) ++ (rdOf ByteArray.empty l3 (ji12))).size + t207.size ≤ 9223372036854775807
                  · rw [if_pos c33] at H
                    have c33b0 := eq_true c33
                    have c33b1 : decide (((⟨#[1]⟩ : ByteArray) ++ (rdOf ByteArray.empty l3 (ji12))).size + t207.size ≤ 9223372036854775807) = true := decide_eq_true c33
                    try have c33b2 : (9223372036854775807 < ((⟨#[1]⟩ : ByteArray) ++ (rdOf ByteArray.empty l3 (ji12))).size + t207.size) = False := eq_false (Nat.not_lt.2 c33)
                    obtain ⟨y210, hy210⟩ : ∃ y_ : List ByteArray, y_ = (([((⟨#[1]⟩ : ByteArray) ++ (rdOf ByteArray.empty l3 (ji12))) ++ t207] : List ByteArray)) := ⟨_, rfl⟩
                    replace H : (if y210.length + t206.length < 8796093022208 then ((digest_Node.f (rdOf ByteArray.empty l3 (ji12)) t207).bind fun t216 => (some ((y210 ++ t206), t216))) else (none)) = some (r1, r2) := by first | (rw [hy210]; with_reducible exact H) | (have H2_ := (Option.bind_some _ _).symm.trans H; rw [hy210]; with_reducible exact H2_) | (have H2_ := (Option.bind_some _ _).symm.trans H; with_reducible exact H2_) | with_reducible exact H | (rw [hy210]; exact H) | exact H
                    have Ny210 := Aside0.mk hy210
                    clear hy210
                    by_cases c34 : y210.length + t206.length < 8796093022208
                    · rw [if_pos c34] at H
                      have LMc34 := Aside0.mk c34
                      clear c34
                      obtain ⟨y213, hy213⟩ : ∃ y_ : List ByteArray, y_ = (y210 ++ t206) := ⟨_, rfl⟩
                      replace H : ((digest_Node.f (rdOf ByteArray.empty l3 (ji12)) t207).bind fun t216 => (some (y213, t216))) = some (r1, r2) := by first | (rw [hy213]; with_reducible exact H) | (have H2_ := (Option.bind_some _ _).symm.trans H; rw [hy213]; with_reducible exact H2_) | (have H2_ := (Option.bind_some _ _).symm.trans H; with_reducible exact H2_) | with_reducible exact H | (rw [hy213]; exact H) | exact H
                      have Ny213 := Aside0.mk hy213
                      clear hy213
                      replace H := Option.bind_eq_some_iff.mp H
                      obtain ⟨t216, A350, H⟩ := H
                      replace H : (some (y213, t216)) = some (r1, r2) := H
                      have A35 := Aside0.mk A350
                      clear A350
                      simp only [Option.some.injEq, Prod.mk.injEq] at H
                      obtain ⟨rfl, rfl⟩ := H
                      have p192 : 0 ≤ ((ji12) : Int) := of_decide_eq_true (by first | (with_reducible assumption) | assumption)
                      have q192 : (ji12) < (l3.length : Int) := of_decide_eq_true (by first | (with_reducible assumption) | assumption)
                      obtain ⟨ad192, e192, hx192_0⟩ := Kd.at_string HR3.out (ji12) p192 q192
                      cases e192
                      replace hx192_0 := (HB.out.cell (World.block_lt_of_cell? w _ hx192_0)).trans hx192_0
                      replace p192 := eq_true p192
                      replace q192 := eq_true q192
                      obtain ⟨i036, hi036, _, hsz36, _⟩ := info_parts info9
                      obtain ⟨hcut36, hA36, hC36⟩ := print_take_of (P := Tryd.prog) Value.string (⟨#[]⟩ : ByteArray) 22 9 .i64 Tryd.underlying22 hi036 hsz36 (some ad192) c3 l3 (ji12) (of_decide_eq_true (by first | (with_reducible assumption) | assumption)) (of_decide_eq_true (by first | (with_reducible assumption) | assumption)) HC3.out
                      have HR193 := Aside0.mk (Kd.C_of_reads (h1 := fun _ => rfl) (hA36 _ (Kd.reads_of_C HR3.out)))
                      have HC193 := Aside0.mk hC36
                      clear hA36 hC36 hi036 hsz36
                      go_wp2_with (first | (go_at_call 31; (with_reducible refine (Pa.w_left.calls kj5 a2 t194 _ A17.out).mono ?_); rintro e w' ⟨rfl, ⟨nd, rfl⟩⟩; (try first | exact ⟨rfl, _, World.drewN_drewN _ _ _⟩ | exact ⟨rfl, _, Eq.trans (World.drewN_drewN _ _ _) (congrArg (World.drewN _) (Nat.add_assoc _ _ _))⟩)) | (go_at_call 28; refine calls_of_args (args' := #[.string a0, .int .i64 (wrap64 (a1 - t194)), .int .i64 (wrap64 (a2 - t194)), .slice (some ad192) (l3.take ((ji12) : Int).toNat).length c3, .bool false]) (by rw [show (l3.take ((ji12) : Int).toNat).length = (ji12).toNat from (by rw [List.length_take]; have h_ : ((ji12) : Int) ≤ (l3.length : Int) := of_decide_eq_true (by first | (with_reducible assumption) | assumption); omega)] <;> rfl) ?_; (with_reducible refine (ih kj5 (by have := HJ5.out; omega) a0 (wrap64 (a1 - t194)) (wrap64 (a2 - t194)) _ _ (l3.take ((ji12) : Int).toNat) false t206 t207 _ ?side3 ?side1 ?side2 A31.out).mono ?_); (case side1 => repeat (first | exact (Kd.C_below HR193.out (by repeat (first | (with_reducible first | exact HB.out | apply below_alloc | apply pw_below_drewN | apply below_drew1) | exact HB.out))) | (with_reducible refine Kd.C_alloc ?_ _) | (with_reducible refine Kd.C_drewN ?_ _) | (with_reducible refine Kd.C_drew ?_))); (case side2 => exact HC193.out); (case side3 => exact Aside0.mk (Laid.below HG.out (by repeat (first | (with_reducible first | exact HB.out | apply below_alloc | apply pw_below_drewN | apply below_drew1) | exact HB.out)))); rintro e w37 ⟨v208, rfl, ho0, hb⟩; have n0_ := Aside0.mk (Kd.R_lower ho0 (below_size (by repeat (first | (with_reducible first | exact HB.out | apply below_alloc | apply pw_below_drewN | apply below_drew1) | exact HB.out)))); have n1_ := Aside0.mk (below_step (by repeat (first | (with_reducible first | exact HB.out | apply below_alloc | apply pw_below_drewN | apply below_drew1) | exact HB.out)) hb); clear HB; have HO209 := n0_; have HB := n1_; clear n0_ n1_; (try clear hb); (try clear hb2); (try clear hk); (try clear hi); (try clear ho0)) | ((with_reducible refine gate_dst (N := 88) rfl ?_); (try (refine gate_guard (by rfl) ?_; dsimp only)); refine Kd.R_lit Kd.string _ 9 ?hg (N := 88) ?hd (xs := ([((⟨#[1]⟩ : ByteArray) ++ (rdOf ByteArray.empty l3 (ji12))) ++ t207] : List ByteArray)) (inner := [.string (((⟨#[1]⟩ : ByteArray) ++ (rdOf ByteArray.empty l3 (ji12))) ++ t207)]) (ok := fun _ => True) (okp := fun _ => True) ?hr ?hp (fun _ hk => hk) trivial (Below.refl _ _) (Nat.le_refl _) (by simp) ?_; (case hd => rfl); (case hg => rfl); (case hr => first | (go_simp; done) | (go_simp; rfl)); (case hp => exact (Reps.one (show Kd.M Kd.string _ _ _ (((⟨#[1]⟩ : ByteArray) ++ (rdOf ByteArray.empty l3 (ji12))) ++ t207) [.string (((⟨#[1]⟩ : ByteArray) ++ (rdOf ByteArray.empty l3 (ji12))) ++ t207)] from rfl) (Reps.none _ _))); intro v211 w38 ho39 hb hg_ hnew_; clear hg_ hnew_; (first | rw [← Ny210.out] at ho39 | (simp only [Int.reduceToNat] at ho39; rw [← Ny210.out] at ho39)); have n0_ := Aside0.mk (Kd.R_elder' (by (with_reducible repeat (first | apply Kd.R_alloc | apply Kd.R_drewN | apply Kd.R_drew)); exact HO209.out) (Kd.R_base ho39) hb); have n1_ := Aside0.mk (Kd.R_lower (Kd.R_new' ho39 (Kd.R_lt (by (with_reducible repeat (first | apply Kd.R_alloc | apply Kd.R_drewN | apply Kd.R_drew)); exact HO209.out))) (below_size (by repeat (first | (with_reducible first | exact HB.out | apply below_alloc | apply pw_below_drewN | apply below_drew1) | exact HB.out)))); have n2_ := Aside0.mk (below_step (by repeat (first | (with_reducible first | exact HB.out | apply below_alloc | apply pw_below_drewN | apply below_drew1) | exact HB.out)) hb); clear HO209; clear HB; have HO209 := n0_; have HO212 := n1_; have HB := n2_; clear n0_ n1_ n2_; clear hb ho39; obtain ⟨Ao41, co41, eo41⟩ := Kd.R_slice HO209.out; subst eo41) | ((with_reducible refine gate_builtin (b := .append) (xs := #[.tmp 88, .tmp 89]) rfl ?_); (try (refine gate_guard (by rfl) ?_; dsimp only)); at_builtin; refine Kd.R_append_rows Kd.string (w0 := w) w.heap.size rfl (.tmp 88) (.tmp 89) 22 9 (.string ⟨#[]⟩) 16 rfl Tryd.underlying22 info9 rfl (by decide) (by omega) v211 y210 t206 _ _ _ (fun k_ => some k_ ≠ (.slice Ao41 t206.length co41 : Value).ownBlock) (fun _ => False) rfl rfl ?aO ?aR (fun _ _ h => h) (fun _ h => h.elim) ?aF ?aB ?aS ?aL ?_; (case aR => repeat (first | exact (Kd.R_reads' HO209.out).2.2 | (with_reducible refine Kd.C_alloc ?_ _) | (with_reducible refine Kd.C_drewN ?_ _) | (with_reducible refine Kd.C_drew ?_))); (case aB => exact (by repeat (first | (with_reducible first | exact HB.out | apply below_alloc | apply pw_below_drewN | apply below_drew1) | exact HB.out))); (case aF => exact (fun k_ hk => Kd.fresh' (Kd.R_lt (by (with_reducible repeat (first | apply Kd.R_alloc | apply Kd.R_drewN | apply Kd.R_drew)); exact HO209.out)) k_ hk)); (case aO => exact (by (with_reducible repeat (first | apply Kd.R_alloc | apply Kd.R_drewN | apply Kd.R_drew)); exact Kd.R_mono HO212.out (fun _ hk => hk.2))); (case aS => exact (below_size (by repeat (first | (with_reducible first | exact HB.out | apply below_alloc | apply pw_below_drewN | apply below_drew1) | exact HB.out)))); (case aL => have := LMc34.out; omega); intro v214 w40 ho hb hg hat; rw [← Ny213.out] at ho; have n0_ := Aside0.mk (Kd.R_after (ok := (fun _ => True)) (by (with_reducible repeat (first | apply Kd.R_alloc | apply Kd.R_drewN | apply Kd.R_drew)); exact HO209.out) hg hat); have n1_ := Aside0.mk (hb); have n2_ := Aside0.mk (ho); clear HO209; clear HB; clear HO212; have HO209 := n0_; have HB := n1_; have HO215 := n2_; clear n0_ n1_ n2_; clear ho hb hg hat) | (go_at_call 32; (with_reducible refine (digest_Node.calls (rdOf ByteArray.empty l3 (ji12)) t207 t216 _ ?side1 A35.out).mono ?_); (case side1 => exact Aside0.mk (Laid.below HG.out (by repeat (first | (with_reducible first | exact HB.out | apply below_alloc | apply pw_below_drewN | apply below_drew1) | exact HB.out)))); rintro e w42 ⟨rfl, hb⟩; have n0_ := Aside0.mk (Kd.R_below (by (with_reducible repeat (first | apply Kd.R_alloc | apply Kd.R_drewN | apply Kd.R_drew)); exact HO209.out) hb); have n1_ := Aside0.mk (Kd.R_below (by (with_reducible repeat (first | apply Kd.R_alloc | apply Kd.R_drewN | apply Kd.R_drew)); exact HO215.out) hb); have n2_ := Aside0.mk (below_step (by repeat (first | (with_reducible first | exact HB.out | apply below_alloc | apply pw_below_drewN | apply below_drew1) | exact HB.out)) hb); clear HO209; clear HO215; clear HB; have HO209 := n0_; have HO215 := n1_; have HB := n2_; clear n0_ n1_ n2_; (try clear hb); (try clear hb2); (try clear hk); (try clear hi)))
                      repeat (go_quiet (first | (go_at_call 31; (with_reducible refine (Pa.w_left.calls kj5 a2 t194 _ A17.out).mono ?_); rintro e w' ⟨rfl, ⟨nd, rfl⟩⟩; (try first | exact ⟨rfl, _, World.drewN_drewN _ _ _⟩ | exact ⟨rfl, _, Eq.trans (World.drewN_drewN _ _ _) (congrArg (World.drewN _) (Nat.add_assoc _ _ _))⟩)) | (go_at_call 28; refine calls_of_args (args' := #[.string a0, .int .i64 (wrap64 (a1 - t194)), .int .i64 (wrap64 (a2 - t194)), .slice (some ad192) (l3.take ((ji12) : Int).toNat).length c3, .bool false]) (by rw [show (l3.take ((ji12) : Int).toNat).length = (ji12).toNat from (by rw [List.length_take]; have h_ : ((ji12) : Int) ≤ (l3.length : Int) := of_decide_eq_true (by first | (with_reducible assumption) | assumption); omega)] <;> rfl) ?_; (with_reducible refine (ih kj5 (by have := HJ5.out; omega) a0 (wrap64 (a1 - t194)) (wrap64 (a2 - t194)) _ _ (l3.take ((ji12) : Int).toNat) false t206 t207 _ ?side3 ?side1 ?side2 A31.out).mono ?_); (case side1 => repeat (first | exact (Kd.C_below HR193.out (by repeat (first | (with_reducible first | exact HB.out | apply below_alloc | apply pw_below_drewN | apply below_drew1) | exact HB.out))) | (with_reducible refine Kd.C_alloc ?_ _) | (with_reducible refine Kd.C_drewN ?_ _) | (with_reducible refine Kd.C_drew ?_))); (case side2 => exact HC193.out); (case side3 => exact Aside0.mk (Laid.below HG.out (by repeat (first | (with_reducible first | exact HB.out | apply below_alloc | apply pw_below_drewN | apply below_drew1) | exact HB.out)))); rintro e w37 ⟨v208, rfl, ho0, hb⟩; have n0_ := Aside0.mk (Kd.R_lower ho0 (below_size (by repeat (first | (with_reducible first | exact HB.out | apply below_alloc | apply pw_below_drewN | apply below_drew1) | exact HB.out)))); have n1_ := Aside0.mk (below_step (by repeat (first | (with_reducible first | exact HB.out | apply below_alloc | apply pw_below_drewN | apply below_drew1) | exact HB.out)) hb); clear HB; have HO209 := n0_; have HB := n1_; clear n0_ n1_; (try clear hb); (try clear hb2); (try clear hk); (try clear hi); (try clear ho0)) | ((with_reducible refine gate_dst (N := 88) rfl ?_); (try (refine gate_guard (by rfl) ?_; dsimp only)); refine Kd.R_lit Kd.string _ 9 ?hg (N := 88) ?hd (xs := ([((⟨#[1]⟩ : ByteArray) ++ (rdOf ByteArray.empty l3 (ji12))) ++ t207] : List ByteArray)) (inner := [.string (((⟨#[1]⟩ : ByteArray) ++ (rdOf ByteArray.empty l3 (ji12))) ++ t207)]) (ok := fun _ => True) (okp := fun _ => True) ?hr ?hp (fun _ hk => hk) trivial (Below.refl _ _) (Nat.le_refl _) (by simp) ?_; (case hd => rfl); (case hg => rfl); (case hr => first | (go_simp; done) | (go_simp; rfl)); (case hp => exact (Reps.one (show Kd.M Kd.string _ _ _ (((⟨#[1]⟩ : ByteArray) ++ (rdOf ByteArray.empty l3 (ji12))) ++ t207) [.string (((⟨#[1]⟩ : ByteArray) ++ (rdOf ByteArray.empty l3 (ji12))) ++ t207)] from rfl) (Reps.none _ _))); intro v211 w38 ho39 hb hg_ hnew_; clear hg_ hnew_; (first | rw [← Ny210.out] at ho39 | (simp only [Int.reduceToNat] at ho39; rw [← Ny210.out] at ho39)); have n0_ := Aside0.mk (Kd.R_elder' (by (with_reducible repeat (first | apply Kd.R_alloc | apply Kd.R_drewN | apply Kd.R_drew)); exact HO209.out) (Kd.R_base ho39) hb); have n1_ := Aside0.mk (Kd.R_lower (Kd.R_new' ho39 (Kd.R_lt (by (with_reducible repeat (first | apply Kd.R_alloc | apply Kd.R_drewN | apply Kd.R_drew)); exact HO209.out))) (below_size (by repeat (first | (with_reducible first | exact HB.out | apply below_alloc | apply pw_below_drewN | apply below_drew1) | exact HB.out)))); have n2_ := Aside0.mk (below_step (by repeat (first | (with_reducible first | exact HB.out | apply below_alloc | apply pw_below_drewN | apply below_drew1) | exact HB.out)) hb); clear HO209; clear HB; have HO209 := n0_; have HO212 := n1_; have HB := n2_; clear n0_ n1_ n2_; clear hb ho39; obtain ⟨Ao41, co41, eo41⟩ := Kd.R_slice HO209.out; subst eo41) | ((with_reducible refine gate_builtin (b := .append) (xs := #[.tmp 88, .tmp 89]) rfl ?_); (try (refine gate_guard (by rfl) ?_; dsimp only)); at_builtin; refine Kd.R_append_rows Kd.string (w0 := w) w.heap.size rfl (.tmp 88) (.tmp 89) 22 9 (.string ⟨#[]⟩) 16 rfl Tryd.underlying22 info9 rfl (by decide) (by omega) v211 y210 t206 _ _ _ (fun k_ => some k_ ≠ (.slice Ao41 t206.length co41 : Value).ownBlock) (fun _ => False) rfl rfl ?aO ?aR (fun _ _ h => h) (fun _ h => h.elim) ?aF ?aB ?aS ?aL ?_; (case aR => repeat (first | exact (Kd.R_reads' HO209.out).2.2 | (with_reducible refine Kd.C_alloc ?_ _) | (with_reducible refine Kd.C_drewN ?_ _) | (with_reducible refine Kd.C_drew ?_))); (case aB => exact (by repeat (first | (with_reducible first | exact HB.out | apply below_alloc | apply pw_below_drewN | apply below_drew1) | exact HB.out))); (case aF => exact (fun k_ hk => Kd.fresh' (Kd.R_lt (by (with_reducible repeat (first | apply Kd.R_alloc | apply Kd.R_drewN | apply Kd.R_drew)); exact HO209.out)) k_ hk)); (case aO => exact (by (with_reducible repeat (first | apply Kd.R_alloc | apply Kd.R_drewN | apply Kd.R_drew)); exact Kd.R_mono HO212.out (fun _ hk => hk.2))); (case aS => exact (below_size (by repeat (first | (with_reducible first | exact HB.out | apply below_alloc | apply pw_below_drewN | apply below_drew1) | exact HB.out)))); (case aL => have := LMc34.out; omega); intro v214 w40 ho hb hg hat; rw [← Ny213.out] at ho; have n0_ := Aside0.mk (Kd.R_after (ok := (fun _ => True)) (by (with_reducible repeat (first | apply Kd.R_alloc | apply Kd.R_drewN | apply Kd.R_drew)); exact HO209.out) hg hat); have n1_ := Aside0.mk (hb); have n2_ := Aside0.mk (ho); clear HO209; clear HB; clear HO212; have HO209 := n0_; have HB := n1_; have HO215 := n2_; clear n0_ n1_ n2_; clear ho hb hg hat) | (go_at_call 32; (with_reducible refine (digest_Node.calls (rdOf ByteArray.empty l3 (ji12)) t207 t216 _ ?side1 A35.out).mono ?_); (case side1 => exact Aside0.mk (Laid.below HG.out (by repeat (first | (with_reducible first | exact HB.out | apply below_alloc | apply pw_below_drewN | apply below_drew1) | exact HB.out)))); rintro e w42 ⟨rfl, hb⟩; have n0_ := Aside0.mk (Kd.R_below (by (with_reducible repeat (first | apply Kd.R_alloc | apply Kd.R_drewN | apply Kd.R_drew)); exact HO209.out) hb); have n1_ := Aside0.mk (Kd.R_below (by (with_reducible repeat (first | apply Kd.R_alloc | apply Kd.R_drewN | apply Kd.R_drew)); exact HO215.out) hb); have n2_ := Aside0.mk (below_step (by repeat (first | (with_reducible first | exact HB.out | apply below_alloc | apply pw_below_drewN | apply below_drew1) | exact HB.out)) hb); clear HO209; clear HO215; clear HB; have HO209 := n0_; have HO215 := n1_; have HB := n2_; clear n0_ n1_ n2_; (try clear hb); (try clear hb2); (try clear hk); (try clear hi))); try go_wp2_with (first | (go_at_call 31; (with_reducible refine (Pa.w_left.calls kj5 a2 t194 _ A17.out).mono ?_); rintro e w' ⟨rfl, ⟨nd, rfl⟩⟩; (try first | exact ⟨rfl, _, World.drewN_drewN _ _ _⟩ | exact ⟨rfl, _, Eq.trans (World.drewN_drewN _ _ _) (congrArg (World.drewN _) (Nat.add_assoc _ _ _))⟩)) | (go_at_call 28; refine calls_of_args (args' := #[.string a0, .int .i64 (wrap64 (a1 - t194)), .int .i64 (wrap64 (a2 - t194)), .slice (some ad192) (l3.take ((ji12) : Int).toNat).length c3, .bool false]) (by rw [show (l3.take ((ji12) : Int).toNat).length = (ji12).toNat from (by rw [List.length_take]; have h_ : ((ji12) : Int) ≤ (l3.length : Int) := of_decide_eq_true (by first | (with_reducible assumption) | assumption); omega)] <;> rfl) ?_; (with_reducible refine (ih kj5 (by have := HJ5.out; omega) a0 (wrap64 (a1 - t194)) (wrap64 (a2 - t194)) _ _ (l3.take ((ji12) : Int).toNat) false t206 t207 _ ?side3 ?side1 ?side2 A31.out).mono ?_); (case side1 => repeat (first | exact (Kd.C_below HR193.out (by repeat (first | (with_reducible first | exact HB.out | apply below_alloc | apply pw_below_drewN | apply below_drew1) | exact HB.out))) | (with_reducible refine Kd.C_alloc ?_ _) | (with_reducible refine Kd.C_drewN ?_ _) | (with_reducible refine Kd.C_drew ?_))); (case side2 => exact HC193.out); (case side3 => exact Aside0.mk (Laid.below HG.out (by repeat (first | (with_reducible first | exact HB.out | apply below_alloc | apply pw_below_drewN | apply below_drew1) | exact HB.out)))); rintro e w37 ⟨v208, rfl, ho0, hb⟩; have n0_ := Aside0.mk (Kd.R_lower ho0 (below_size (by repeat (first | (with_reducible first | exact HB.out | apply below_alloc | apply pw_below_drewN | apply below_drew1) | exact HB.out)))); have n1_ := Aside0.mk (below_step (by repeat (first | (with_reducible first | exact HB.out | apply below_alloc | apply pw_below_drewN | apply below_drew1) | exact HB.out)) hb); clear HB; have HO209 := n0_; have HB := n1_; clear n0_ n1_; (try clear hb); (try clear hb2); (try clear hk); (try clear hi); (try clear ho0)) | ((with_reducible refine gate_dst (N := 88) rfl ?_); (try (refine gate_guard (by rfl) ?_; dsimp only)); refine Kd.R_lit Kd.string _ 9 ?hg (N := 88) ?hd (xs := ([((⟨#[1]⟩ : ByteArray) ++ (rdOf ByteArray.empty l3 (ji12))) ++ t207] : List ByteArray)) (inner := [.string (((⟨#[1]⟩ : ByteArray) ++ (rdOf ByteArray.empty l3 (ji12))) ++ t207)]) (ok := fun _ => True) (okp := fun _ => True) ?hr ?hp (fun _ hk => hk) trivial (Below.refl _ _) (Nat.le_refl _) (by simp) ?_; (case hd => rfl); (case hg => rfl); (case hr => first | (go_simp; done) | (go_simp; rfl)); (case hp => exact (Reps.one (show Kd.M Kd.string _ _ _ (((⟨#[1]⟩ : ByteArray) ++ (rdOf ByteArray.empty l3 (ji12))) ++ t207) [.string (((⟨#[1]⟩ : ByteArray) ++ (rdOf ByteArray.empty l3 (ji12))) ++ t207)] from rfl) (Reps.none _ _))); intro v211 w38 ho39 hb hg_ hnew_; clear hg_ hnew_; (first | rw [← Ny210.out] at ho39 | (simp only [Int.reduceToNat] at ho39; rw [← Ny210.out] at ho39)); have n0_ := Aside0.mk (Kd.R_elder' (by (with_reducible repeat (first | apply Kd.R_alloc | apply Kd.R_drewN | apply Kd.R_drew)); exact HO209.out) (Kd.R_base ho39) hb); have n1_ := Aside0.mk (Kd.R_lower (Kd.R_new' ho39 (Kd.R_lt (by (with_reducible repeat (first | apply Kd.R_alloc | apply Kd.R_drewN | apply Kd.R_drew)); exact HO209.out))) (below_size (by repeat (first | (with_reducible first | exact HB.out | apply below_alloc | apply pw_below_drewN | apply below_drew1) | exact HB.out)))); have n2_ := Aside0.mk (below_step (by repeat (first | (with_reducible first | exact HB.out | apply below_alloc | apply pw_below_drewN | apply below_drew1) | exact HB.out)) hb); clear HO209; clear HB; have HO209 := n0_; have HO212 := n1_; have HB := n2_; clear n0_ n1_ n2_; clear hb ho39; obtain ⟨Ao41, co41, eo41⟩ := Kd.R_slice HO209.out; subst eo41) | ((with_reducible refine gate_builtin (b := .append) (xs := #[.tmp 88, .tmp 89]) rfl ?_); (try (refine gate_guard (by rfl) ?_; dsimp only)); at_builtin; refine Kd.R_append_rows Kd.string (w0 := w) w.heap.size rfl (.tmp 88) (.tmp 89) 22 9 (.string ⟨#[]⟩) 16 rfl Tryd.underlying22 info9 rfl (by decide) (by omega) v211 y210 t206 _ _ _ (fun k_ => some k_ ≠ (.slice Ao41 t206.length co41 : Value).ownBlock) (fun _ => False) rfl rfl ?aO ?aR (fun _ _ h => h) (fun _ h => h.elim) ?aF ?aB ?aS ?aL ?_; (case aR => repeat (first | exact (Kd.R_reads' HO209.out).2.2 | (with_reducible refine Kd.C_alloc ?_ _) | (with_reducible refine Kd.C_drewN ?_ _) | (with_reducible refine Kd.C_drew ?_))); (case aB => exact (by repeat (first | (with_reducible first | exact HB.out | apply below_alloc | apply pw_below_drewN | apply below_drew1) | exact HB.out))); (case aF => exact (fun k_ hk => Kd.fresh' (Kd.R_lt (by (with_reducible repeat (first | apply Kd.R_alloc | apply Kd.R_drewN | apply Kd.R_drew)); exact HO209.out)) k_ hk)); (case aO => exact (by (with_reducible repeat (first | apply Kd.R_alloc | apply Kd.R_drewN | apply Kd.R_drew)); exact Kd.R_mono HO212.out (fun _ hk => hk.2))); (case aS => exact (below_size (by repeat (first | (with_reducible first | exact HB.out | apply below_alloc | apply pw_below_drewN | apply below_drew1) | exact HB.out)))); (case aL => have := LMc34.out; omega); intro v214 w40 ho hb hg hat; rw [← Ny213.out] at ho; have n0_ := Aside0.mk (Kd.R_after (ok := (fun _ => True)) (by (with_reducible repeat (first | apply Kd.R_alloc | apply Kd.R_drewN | apply Kd.R_drew)); exact HO209.out) hg hat); have n1_ := Aside0.mk (hb); have n2_ := Aside0.mk (ho); clear HO209; clear HB; clear HO212; have HO209 := n0_; have HB := n1_; have HO215 := n2_; clear n0_ n1_ n2_; clear ho hb hg hat) | (go_at_call 32; (with_reducible refine (digest_Node.calls (rdOf ByteArray.empty l3 (ji12)) t207 t216 _ ?side1 A35.out).mono ?_); (case side1 => exact Aside0.mk (Laid.below HG.out (by repeat (first | (with_reducible first | exact HB.out | apply below_alloc | apply pw_below_drewN | apply below_drew1) | exact HB.out)))); rintro e w42 ⟨rfl, hb⟩; have n0_ := Aside0.mk (Kd.R_below (by (with_reducible repeat (first | apply Kd.R_alloc | apply Kd.R_drewN | apply Kd.R_drew)); exact HO209.out) hb); have n1_ := Aside0.mk (Kd.R_below (by (with_reducible repeat (first | apply Kd.R_alloc | apply Kd.R_drewN | apply Kd.R_drew)); exact HO215.out) hb); have n2_ := Aside0.mk (below_step (by repeat (first | (with_reducible first | exact HB.out | apply below_alloc | apply pw_below_drewN | apply below_drew1) | exact HB.out)) hb); clear HO209; clear HO215; clear HB; have HO209 := n0_; have HO215 := n1_; have HB := n2_; clear n0_ n1_ n2_; (try clear hb); (try clear hb2); (try clear hk); (try clear hi))))
                      go_ret2
                      exact ⟨_, by first | rfl | (simp [errW_none, errW_some] <;> rfl) | (simp only [← hji12]; first | rfl | (simp [errW_none, errW_some] <;> rfl)) | (simp [*, errW_none, errW_some] <;> rfl), by (with_reducible repeat (first | apply Kd.R_alloc | apply Kd.R_drewN | apply Kd.R_drew)); exact Kd.R_mono HO215.out (fun _ hk => trivial), by repeat (first | (with_reducible first | exact HB.out | apply below_alloc | apply pw_below_drewN | apply below_drew1) | exact HB.out)⟩
                    · rw [if_neg c34] at H
                      exact absurd H (by simp)
                  · rw [if_neg c33] at H
                    exact absurd H (by simp)
                · rw [if_neg c32] at H
                  exact absurd H (by simp)
            · rw [if_neg c16] at H
              exact absurd H (by simp)
          · rw [if_neg c14] at H
            exact absurd H (by simp)
        · rw [if_neg c13] at H
          exact absurd H (by simp)
end Go.Proofs.YtabjfogmcehemaaDoor.Pd

-- Written by a patched scratch copy of the kit's print program (wip/tools of this session's repo), not by print.sh.
namespace Go.Proofs.YtabjfogmcehemaaDoor.Pd
open Go.RowKit Go.Proofs.YtabjfogmcehemaaDoorW.PrintWords Go.Proofs.YtabjfogmcehemaaDoorW.PrintLast Go.Proofs.YtabjfogmcehemaaDoorW.PrintMore
attribute [local go_sem] max2_int min2_int max_two min_two max_three min_three max_four min_four   -- for this text's walks alone
set_option linter.unusedVariables false
set_option linter.unusedSimpArgs false

/-! ### w_DigestExtensionBinding: function 8 -/
def w_DigestExtensionBinding.j0 : Nat → ByteArray → List ByteArray → ByteArray → List ByteArray → Int → Int → Bool → Bool → Option (Bool)
  | 0, _, _, _, _, _, _, _, _ => none
  | k + 1, x0, x1, x2, x3, x4, x6, x15, x49 => if x49 = true then (some x15) else ((w_sides.f k x0 x4 x6 x1 true).bind fun bt226 => ((w_sides.f k x2 x4 x6 x3 true).bind fun bt230 => (if x15 = true then ((w_collide.f k bt226.1 bt230.1).bind fun t234 => (some t234)) else (some false))))
def w_DigestExtensionBinding.f (k : Nat) (a0 : ByteArray) (l1 : List ByteArray) (a2 : ByteArray) (l3 : List ByteArray) (a4 : Int) (a5 : ByteArray) (a6 : Int) : Option (Bool) := (w_sane.f).bind fun t217 => ((Pa.w_few.f k l1 70).bind fun t218 => ((Pa.w_few.f k l3 70).bind fun t221 => ((digest_VerifyExtension.f a0 a4 a5 a6 t218).bind fun t224 => ((digest_VerifyExtension.f a2 a4 a5 a6 t221).bind fun t225 => (if t224 = true then (if t225 = true then (w_DigestExtensionBinding.j0 k a0 t218 a2 t221 a4 a6 t217 (a0.toList == a2.toList)) else (w_DigestExtensionBinding.j0 k a0 t218 a2 t221 a4 a6 t217 true)) else (w_DigestExtensionBinding.j0 k a0 t218 a2 t221 a4 a6 t217 true))))))
theorem w_DigestExtensionBinding.mono_l : ∀ k, (∀ y0 y1 y2 y3 y4 y5 y6 y7, LeO (w_DigestExtensionBinding.j0 k y0 y1 y2 y3 y4 y5 y6 y7) (w_DigestExtensionBinding.j0 (k + 1) y0 y1 y2 y3 y4 y5 y6 y7))
  | 0 => fun _ _ _ _ _ _ _ _ r h => by simp [w_DigestExtensionBinding.j0] at h
  | k + 1 => by
    have ih0 := w_DigestExtensionBinding.mono_l k
    · intro y0 y1 y2 y3 y4 y5 y6 y7
      unfold w_DigestExtensionBinding.j0
      repeat' first
      | (with_reducible exact ih0 _ _ _ _ _ _ _ _)
      | (with_reducible exact Pa.w_few.mono _ _ _)
      | (with_reducible exact w_collide.mono _ _ _)
      | (with_reducible exact w_sides.mono _ _ _ _ _ _)
      | (with_reducible exact LeO.refl _)
      | (with_reducible exact LeO.none _)
      | (with_reducible refine LeO.ite ?_ ?_)
      | (with_reducible refine LeO.bind ?_ (fun _ => ?_))
      | exact ih0 _ _ _ _ _ _ _ _
      | exact Pa.w_few.mono _ _ _
      | exact w_collide.mono _ _ _
      | exact w_sides.mono _ _ _ _ _ _
      | exact LeO.none _
      | refine LeO.ite ?_ ?_
      | refine LeO.bind ?_ (fun _ => ?_)
theorem w_DigestExtensionBinding.mono : ∀ a0 a1 a2 a3 a4 a5 a6 k, LeO (w_DigestExtensionBinding.f k a0 a1 a2 a3 a4 a5 a6) (w_DigestExtensionBinding.f (k + 1) a0 a1 a2 a3 a4 a5 a6) := by
  intro a0 a1 a2 a3 a4 a5 a6 k
  have ih0 := w_DigestExtensionBinding.mono_l k
  unfold w_DigestExtensionBinding.f
  repeat' first
      | (with_reducible exact ih0 _ _ _ _ _ _ _ _)
      | (with_reducible exact Pa.w_few.mono _ _ _)
      | (with_reducible exact w_collide.mono _ _ _)
      | (with_reducible exact w_sides.mono _ _ _ _ _ _)
      | (with_reducible exact LeO.refl _)
      | (with_reducible exact LeO.none _)
      | (with_reducible refine LeO.ite ?_ ?_)
      | (with_reducible refine LeO.bind ?_ (fun _ => ?_))
      | exact ih0 _ _ _ _ _ _ _ _
      | exact Pa.w_few.mono _ _ _
      | exact w_collide.mono _ _ _
      | exact w_sides.mono _ _ _ _ _ _
      | exact LeO.none _
      | refine LeO.ite ?_ ?_
      | refine LeO.bind ?_ (fun _ => ?_)
set_option maxHeartbeats 8000000 in
set_option maxRecDepth 100000 in
theorem w_DigestExtensionBinding.calls (k : Nat) (a0 : ByteArray) (A1 : Option Addr) (c1 : Nat) (l1 : List ByteArray) (a2 : ByteArray) (A3 : Option Addr) (c3 : Nat) (l3 : List ByteArray) (a4 : Int) (a5 : ByteArray) (a6 : Int) (r : Bool) (w : World) (HG : Aside0 (Laid w)) (hr1 : Kd.C Kd.string w A1 l1.length l1) (hc1 : l1.length ≤ c1) (hr3 : Kd.C Kd.string w A3 l3.length l3) (hc3 : l3.length ≤ c3) (h : w_DigestExtensionBinding.f k a0 l1 a2 l3 a4 a5 a6 = some r) :
    Calls Tryd.prog 8 #[.string a0, .slice A1 l1.length c1, .string a2, .slice A3 l3.length c3, .int .i64 a4, .string a5, .int .i64 a6] w fun e w' => e = .returned (.bool r) ∧ Below w.heap.size w w' := by
  have HR1 := Aside0.mk hr1
  have HC1 := Aside0.mk hc1
  clear hr1 hc1
  have HR3 := Aside0.mk hr3
  have HC3 := Aside0.mk hc3
  clear hr3 hc3
  have HB := Aside0.mk (Below.refl w.heap.size w)
  have H : ((w_sane.f).bind fun t217 => ((Pa.w_few.f k l1 70).bind fun t218 => ((Pa.w_few.f k l3 70).bind fun t221 => ((digest_VerifyExtension.f a0 a4 a5 a6 t218).bind fun t224 => ((digest_VerifyExtension.f a2 a4 a5 a6 t221).bind fun t225 => (if t224 = true then (if t225 = true then (w_DigestExtensionBinding.j0 k a0 t218 a2 t221 a4 a6 t217 (a0.toList == a2.toList)) else (w_DigestExtensionBinding.j0 k a0 t218 a2 t221 a4 a6 t217 true)) else (w_DigestExtensionBinding.j0 k a0 t218 a2 t221 a4 a6 t217 true))))))) = some r := h
  clear h
  replace H := Option.bind_eq_some_iff.mp H
  obtain ⟨t217, A80, H⟩ := H
  replace H : ((Pa.w_few.f k l1 70).bind fun t218 => ((Pa.w_few.f k l3 70).bind fun t221 => ((digest_VerifyExtension.f a0 a4 a5 a6 t218).bind fun t224 => ((digest_VerifyExtension.f a2 a4 a5 a6 t221).bind fun t225 => (if t224 = true then (if t225 = true then (w_DigestExtensionBinding.j0 k a0 t218 a2 t221 a4 a6 t217 (a0.toList == a2.toList)) else (w_DigestExtensionBinding.j0 k a0 t218 a2 t221 a4 a6 t217 true)) else (w_DigestExtensionBinding.j0 k a0 t218 a2 t221 a4 a6 t217 true)))))) = some r := H
  have A8 := Aside0.mk A80
  clear A80
  replace H := Option.bind_eq_some_iff.mp H
  obtain ⟨t218, A90, H⟩ := H
  replace H : ((Pa.w_few.f k l3 70).bind fun t221 => ((digest_VerifyExtension.f a0 a4 a5 a6 t218).bind fun t224 => ((digest_VerifyExtension.f a2 a4 a5 a6 t221).bind fun t225 => (if t224 = true then (if t225 = true then (w_DigestExtensionBinding.j0 k a0 t218 a2 t221 a4 a6 t217 (a0.toList == a2.toList)) else (w_DigestExtensionBinding.j0 k a0 t218 a2 t221 a4 a6 t217 true)) else (w_DigestExtensionBinding.j0 k a0 t218 a2 t221 a4 a6 t217 true))))) = some r := H
  have A9 := Aside0.mk A90
  clear A90
  replace H := Option.bind_eq_some_iff.mp H
  obtain ⟨t221, A100, H⟩ := H
  replace H : ((digest_VerifyExtension.f a0 a4 a5 a6 t218).bind fun t224 => ((digest_VerifyExtension.f a2 a4 a5 a6 t221).bind fun t225 => (if t224 = true then (if t225 = true then (w_DigestExtensionBinding.j0 k a0 t218 a2 t221 a4 a6 t217 (a0.toList == a2.toList)) else (w_DigestExtensionBinding.j0 k a0 t218 a2 t221 a4 a6 t217 true)) else (w_DigestExtensionBinding.j0 k a0 t218 a2 t221 a4 a6 t217 true)))) = some r := H
  have A10 := Aside0.mk A100
  clear A100
  replace H := Option.bind_eq_some_iff.mp H
  obtain ⟨t224, A110, H⟩ := H
  replace H : ((digest_VerifyExtension.f a2 a4 a5 a6 t221).bind fun t225 => (if t224 = true then (if t225 = true then (w_DigestExtensionBinding.j0 k a0 t218 a2 t221 a4 a6 t217 (a0.toList == a2.toList)) else (w_DigestExtensionBinding.j0 k a0 t218 a2 t221 a4 a6 t217 true)) else (w_DigestExtensionBinding.j0 k a0 t218 a2 t221 a4 a6 t217 true))) = some r := H
  have A11 := Aside0.mk A110
  clear A110
  replace H := Option.bind_eq_some_iff.mp H
  obtain ⟨t225, A120, H⟩ := H
  replace H : (if t224 = true then (if t225 = true then (w_DigestExtensionBinding.j0 k a0 t218 a2 t221 a4 a6 t217 (a0.toList == a2.toList)) else (w_DigestExtensionBinding.j0 k a0 t218 a2 t221 a4 a6 t217 true)) else (w_DigestExtensionBinding.j0 k a0 t218 a2 t221 a4 a6 t217 true)) = some r := H
  have A12 := Aside0.mk A120
  clear A120
  have HC13 := Aside0.mk H
  clear H
  go_enter Tryd.func8, Tryd.ntmps8
  go_upto_region 6 with (first | ((with_reducible refine gate_callee (f := 12) rfl ?_); refine goesL_ (some 22) rfl rfl Tryd.func12 (by kernel_rfl) rfl #[] rfl (by (try simp only [List.map_toArray, List.map_cons, List.map_nil]); first | done | rfl | (simp only [List.length_drop, List.length_take]; rfl) | (simp only [ByteArray.size_extract, ByteArray.size_append, Nat.sub_zero]; done) | (simp only [ByteArray.size_extract, ByteArray.size_append, Nat.sub_zero]; (rw [IntWalk.wrap64_in _ (by omega)]) <;> rfl)) ?_; (with_reducible refine (w_sane.calls  t217 _ ?side1 A8.out).mono ?_); (case side1 => exact Aside0.mk (Laid.below HG.out (by repeat (first | (with_reducible first | exact HB.out | apply below_alloc | apply pw_below_drewN | apply below_drew1) | exact HB.out)))); rintro e w14 ⟨rfl, hb⟩; refine ⟨_, rfl, ?_⟩; have n0_ := Aside0.mk (below_step (by repeat (first | (with_reducible first | exact HB.out | apply below_alloc | apply pw_below_drewN | apply below_drew1) | exact HB.out)) hb); clear HB; have HB := n0_; clear n0_; (try clear hb); (try clear hb2); (try clear hk); (try clear hi)) | ((with_reducible refine gate_callee (f := 13) rfl ?_); refine goesL_ (some 24) rfl rfl Tryd.func13 (by kernel_rfl) rfl #[.slice A1 l1.length c1, .int .i64 70] rfl (by (try simp only [List.map_toArray, List.map_cons, List.map_nil]); first | done | rfl | (simp only [List.length_drop, List.length_take]; rfl) | (simp only [ByteArray.size_extract, ByteArray.size_append, Nat.sub_zero]; done) | (simp only [ByteArray.size_extract, ByteArray.size_append, Nat.sub_zero]; (rw [IntWalk.wrap64_in _ (by omega)]) <;> rfl)) ?_; (with_reducible refine (Pa.w_few.calls k _ _ l1 70 t218 _ ?side1 ?side2 A9.out).mono ?_); (case side1 => repeat (first | exact (Kd.C_below HR1.out HB.out) | (with_reducible refine Kd.C_alloc ?_ _) | (with_reducible refine Kd.C_drewN ?_ _) | (with_reducible refine Kd.C_drew ?_))); (case side2 => exact HC1.out); rintro e w15 ⟨v219, rfl, ho0, hb⟩; refine ⟨_, rfl, ?_⟩; have n0_ := Aside0.mk (Kd.R_lower ho0 (below_size (by repeat (first | (with_reducible first | exact HB.out | apply below_alloc | apply pw_below_drewN | apply below_drew1) | exact HB.out)))); have n1_ := Aside0.mk (below_step (by repeat (first | (with_reducible first | exact HB.out | apply below_alloc | apply pw_below_drewN | apply below_drew1) | exact HB.out)) hb); clear HB; have HO220 := n0_; have HB := n1_; clear n0_ n1_; (try clear hb); (try clear hb2); (try clear hk); (try clear hi); (try clear ho0)) | ((with_reducible refine gate_callee (f := 13) rfl ?_); refine goesL_ (some 26) rfl rfl Tryd.func13 (by kernel_rfl) rfl #[.slice A3 l3.length c3, .int .i64 70] rfl (by (try simp only [List.map_toArray, List.map_cons, List.map_nil]); first | done | rfl | (simp only [List.length_drop, List.length_take]; rfl) | (simp only [ByteArray.size_extract, ByteArray.size_append, Nat.sub_zero]; done) | (simp only [ByteArray.size_extract, ByteArray.size_append, Nat.sub_zero]; (rw [IntWalk.wrap64_in _ (by omega)]) <;> rfl)) ?_; (with_reducible refine (Pa.w_few.calls k _ _ l3 70 t221 _ ?side1 ?side2 A10.out).mono ?_); (case side1 => repeat (first | exact (Kd.C_below HR3.out HB.out) | (with_reducible refine Kd.C_alloc ?_ _) | (with_reducible refine Kd.C_drewN ?_ _) | (with_reducible refine Kd.C_drew ?_))); (case side2 => exact HC3.out); rintro e w16 ⟨v222, rfl, ho0, hb⟩; refine ⟨_, rfl, ?_⟩; have n0_ := Aside0.mk (Kd.R_elder' (by (with_reducible repeat (first | apply Kd.R_alloc | apply Kd.R_drewN | apply Kd.R_drew)); exact HO220.out) (Kd.R_base ho0) hb); have n1_ := Aside0.mk (Kd.R_lower (Kd.R_new' ho0 (Kd.R_lt (by (with_reducible repeat (first | apply Kd.R_alloc | apply Kd.R_drewN | apply Kd.R_drew)); exact HO220.out))) (below_size (by repeat (first | (with_reducible first | exact HB.out | apply below_alloc | apply pw_below_drewN | apply below_drew1) | exact HB.out)))); have n2_ := Aside0.mk (below_step (by repeat (first | (with_reducible first | exact HB.out | apply below_alloc | apply pw_below_drewN | apply below_drew1) | exact HB.out)) hb); clear HO220; clear HB; have HO220 := n0_; have HO223 := n1_; have HB := n2_; clear n0_ n1_ n2_; (try clear hb); (try clear hb2); (try clear hk); (try clear hi); (try clear ho0); obtain ⟨Ao17, co17, eo17⟩ := Kd.R_slice HO220.out; subst eo17) | ((with_reducible refine gate_callee (f := 23) rfl ?_); refine goesL_ (some 32) rfl rfl Tryd.func23 (by kernel_rfl) rfl #[.string a0, .int .i64 a4, .string a5, .int .i64 a6, .slice Ao17 t218.length co17] rfl (by (try simp only [List.map_toArray, List.map_cons, List.map_nil]); first | done | rfl | (simp only [List.length_drop, List.length_take]; rfl) | (simp only [ByteArray.size_extract, ByteArray.size_append, Nat.sub_zero]; done) | (simp only [ByteArray.size_extract, ByteArray.size_append, Nat.sub_zero]; (rw [IntWalk.wrap64_in _ (by omega)]) <;> rfl)) ?_; (with_reducible refine (digest_VerifyExtension.calls a0 a4 a5 a6 _ _ t218 t224 _ ?side3 ?side1 ?side2 A11.out).mono ?_); (case side1 => repeat (first | exact (Kd.R_reads' HO220.out).2.2 | (with_reducible refine Kd.C_alloc ?_ _) | (with_reducible refine Kd.C_drewN ?_ _) | (with_reducible refine Kd.C_drew ?_))); (case side2 => exact (Kd.R_reads' HO220.out).2.1); (case side3 => exact Aside0.mk (Laid.below HG.out (by repeat (first | (with_reducible first | exact HB.out | apply below_alloc | apply pw_below_drewN | apply below_drew1) | exact HB.out)))); rintro e w18 ⟨rfl, hb⟩; refine ⟨_, rfl, ?_⟩; have n0_ := Aside0.mk (Kd.R_below (by (with_reducible repeat (first | apply Kd.R_alloc | apply Kd.R_drewN | apply Kd.R_drew)); exact HO220.out) hb); have n1_ := Aside0.mk (Kd.R_below (by (with_reducible repeat (first | apply Kd.R_alloc | apply Kd.R_drewN | apply Kd.R_drew)); exact HO223.out) hb); have n2_ := Aside0.mk (below_step (by repeat (first | (with_reducible first | exact HB.out | apply below_alloc | apply pw_below_drewN | apply below_drew1) | exact HB.out)) hb); clear HO220; clear HO223; clear HB; have HO220 := n0_; have HO223 := n1_; have HB := n2_; clear n0_ n1_ n2_; (try clear hb); (try clear hb2); (try clear hk); (try clear hi); obtain ⟨Ao19, co19, eo19⟩ := Kd.R_slice HO223.out; subst eo19) | ((with_reducible refine gate_callee (f := 23) rfl ?_); refine goesL_ (some 38) rfl rfl Tryd.func23 (by kernel_rfl) rfl #[.string a2, .int .i64 a4, .string a5, .int .i64 a6, .slice Ao19 t221.length co19] rfl (by (try simp only [List.map_toArray, List.map_cons, List.map_nil]); first | done | rfl | (simp only [List.length_drop, List.length_take]; rfl) | (simp only [ByteArray.size_extract, ByteArray.size_append, Nat.sub_zero]; done) | (simp only [ByteArray.size_extract, ByteArray.size_append, Nat.sub_zero]; (rw [IntWalk.wrap64_in _ (by omega)]) <;> rfl)) ?_; (with_reducible refine (digest_VerifyExtension.calls a2 a4 a5 a6 _ _ t221 t225 _ ?side3 ?side1 ?side2 A12.out).mono ?_); (case side1 => repeat (first | exact (Kd.R_reads' HO223.out).2.2 | (with_reducible refine Kd.C_alloc ?_ _) | (with_reducible refine Kd.C_drewN ?_ _) | (with_reducible refine Kd.C_drew ?_))); (case side2 => exact (Kd.R_reads' HO223.out).2.1); (case side3 => exact Aside0.mk (Laid.below HG.out (by repeat (first | (with_reducible first | exact HB.out | apply below_alloc | apply pw_below_drewN | apply below_drew1) | exact HB.out)))); rintro e w20 ⟨rfl, hb⟩; refine ⟨_, rfl, ?_⟩; have n0_ := Aside0.mk (Kd.R_below (by (with_reducible repeat (first | apply Kd.R_alloc | apply Kd.R_drewN | apply Kd.R_drew)); exact HO220.out) hb); have n1_ := Aside0.mk (Kd.R_below (by (with_reducible repeat (first | apply Kd.R_alloc | apply Kd.R_drewN | apply Kd.R_drew)); exact HO223.out) hb); have n2_ := Aside0.mk (below_step (by repeat (first | (with_reducible first | exact HB.out | apply below_alloc | apply pw_below_drewN | apply below_drew1) | exact HB.out)) hb); clear HO220; clear HO223; clear HB; have HO220 := n0_; have HO223 := n1_; have HB := n2_; clear n0_ n1_ n2_; (try clear hb); (try clear hb2); (try clear hk); (try clear hi)))
  (try simp only [Act.put, List.setIfInBounds_toArray, List.set_cons_zero, List.set_cons_succ])
  go_cut [49] (fun v49 wc => ∃ (kq : Nat) (x49_12 : Bool), v49 = .bool x49_12 ∧ Aside0 (w_DigestExtensionBinding.j0 kq a0 t218 a2 t221 a4 a6 t217 x49_12 = some r) ∧ Aside0 (kq ≤ k) ∧ Aside0 (Kd.R Kd.string 9 wc w.heap.size (fun k_ => some k_ ≠ ((.slice Ao19 t221.length co19) : Value).ownBlock) (.slice Ao17 t218.length co17) t218) ∧ Aside0 (Kd.R Kd.string 9 wc w.heap.size (fun k_ => some k_ ≠ ((.slice Ao17 t218.length co17) : Value).ownBlock) (.slice Ao19 t221.length co19) t221) ∧ Aside0 (Below w.heap.size w wc))
  case first =>
    have H := HC13.out
    clear HC13
    by_cases c21 : t224 = true
    · subst c21
      have H1 : (if t225 = true then (w_DigestExtensionBinding.j0 k a0 t218 a2 t221 a4 a6 t217 (a0.toList == a2.toList)) else (w_DigestExtensionBinding.j0 k a0 t218 a2 t221 a4 a6 t217 true)) = some r := by rw [if_pos rfl] at H; exact H
      clear H
      have H := H1
      clear H1
      by_cases c22 : t225 = true
      · subst c22
        have H1 : (w_DigestExtensionBinding.j0 k a0 t218 a2 t221 a4 a6 t217 (a0.toList == a2.toList)) = some r := by rw [if_pos rfl] at H; exact H
        clear H
        have H := H1
        clear H1
        have H' := Aside0.mk H
        clear H
        go_wp2
        go_meet
        case rel => exact ⟨_, ((a0.toList == a2.toList)), (by first | rfl | (simp; done) | (simp [*]; done)), H', ⟨by first | omega | exact Nat.le_refl _⟩, ⟨by (with_reducible repeat (first | apply Kd.R_alloc | apply Kd.R_drewN | apply Kd.R_drew)); exact Kd.R_mono HO220.out (fun _ hk => hk.2)⟩, ⟨by (with_reducible repeat (first | apply Kd.R_alloc | apply Kd.R_drewN | apply Kd.R_drew)); exact Kd.R_mono HO223.out (fun _ hk => hk.2)⟩, ⟨by repeat (first | (with_reducible first | exact HB.out | apply below_alloc | apply pw_below_drewN | apply below_drew1) | exact HB.out)⟩⟩
      · replace c22 := Bool.eq_false_iff.mpr c22
        subst c22
        have H1 : (w_DigestExtensionBinding.j0 k a0 t218 a2 t221 a4 a6 t217 true) = some r := by rw [if_neg (show ¬ (false = true) by decide)] at H; exact H
        clear H
        have H := H1
        clear H1
        have H' := Aside0.mk H
        clear H
        go_wp2
        go_meet
        case rel => exact ⟨_, (true), (by first | rfl | (simp; done) | (simp [*]; done)), H', ⟨by first | omega | exact Nat.le_refl _⟩, ⟨by (with_reducible repeat (first | apply Kd.R_alloc | apply Kd.R_drewN | apply Kd.R_drew)); exact Kd.R_mono HO220.out (fun _ hk => hk.2)⟩, ⟨by (with_reducible repeat (first | apply Kd.R_alloc | apply Kd.R_drewN | apply Kd.R_drew)); exact Kd.R_mono HO223.out (fun _ hk => hk.2)⟩, ⟨by repeat (first | (with_reducible first | exact HB.out | apply below_alloc | apply pw_below_drewN | apply below_drew1) | exact HB.out)⟩⟩
    · replace c21 := Bool.eq_false_iff.mpr c21
      subst c21
      have H1 : (w_DigestExtensionBinding.j0 k a0 t218 a2 t221 a4 a6 t217 true) = some r := by rw [if_neg (show ¬ (false = true) by decide)] at H; exact H
      clear H
      have H := H1
      clear H1
      have H' := Aside0.mk H
      clear H
      go_wp2
      go_meet
      case rel => exact ⟨_, (true), (by first | rfl | (simp; done) | (simp [*]; done)), H', ⟨by first | omega | exact Nat.le_refl _⟩, ⟨by (with_reducible repeat (first | apply Kd.R_alloc | apply Kd.R_drewN | apply Kd.R_drew)); exact Kd.R_mono HO220.out (fun _ hk => hk.2)⟩, ⟨by (with_reducible repeat (first | apply Kd.R_alloc | apply Kd.R_drewN | apply Kd.R_drew)); exact Kd.R_mono HO223.out (fun _ hk => hk.2)⟩, ⟨by repeat (first | (with_reducible first | exact HB.out | apply below_alloc | apply pw_below_drewN | apply below_drew1) | exact HB.out)⟩⟩
  case rest =>
    clear HC13
    try clear c1
    try clear c2
    try clear p2
    try clear c3
    try clear p6
    try clear c8
    try clear c12
    try clear c13
    try clear c21
    try clear c22
    obtain ⟨kq, x49_12, rfl, HA, HJ12, HO_1, HO_3, HB⟩ := hcut
    cases kq with
    | zero => exact absurd HA.out (by simp [w_DigestExtensionBinding.j0])
    | succ kj12 =>
      have H := HA.out
      clear HA
      simp only [w_DigestExtensionBinding.j0] at H
      by_cases c23 : x49_12 = true
      · subst c23
        have H1 : (some t217) = some r := by rw [if_pos rfl] at H; exact H
        clear H
        have H := H1
        clear H1
        obtain rfl := Option.some.inj H
        go_wp2
        go_ret
        exact ⟨by first | rfl | (simp [errW_none, errW_some] <;> rfl) | (simp [*, errW_none, errW_some] <;> rfl), by repeat (first | (with_reducible first | exact HB.out | apply below_alloc | apply pw_below_drewN | apply below_drew1) | exact HB.out)⟩
      · replace c23 := Bool.eq_false_iff.mpr c23
        subst c23
        have H1 : ((w_sides.f kj12 a0 a4 a6 t218 true).bind fun bt226 => ((w_sides.f kj12 a2 a4 a6 t221 true).bind fun bt230 => (if t217 = true then ((w_collide.f kj12 bt226.1 bt230.1).bind fun t234 => (some t234)) else (some false)))) = some r := by rw [if_neg (show ¬ (false = true) by decide)] at H; exact H
        clear H
        have H := H1
        clear H1
        replace H := Option.bind_eq_some_iff.mp H
        obtain ⟨⟨t226, t227⟩, A240, H⟩ := H
        replace H : ((w_sides.f kj12 a2 a4 a6 t221 true).bind fun bt230 => (if t217 = true then ((w_collide.f kj12 t226 bt230.1).bind fun t234 => (some t234)) else (some false))) = some r := H
        have A24 := Aside0.mk A240
        clear A240
        replace H := Option.bind_eq_some_iff.mp H
        obtain ⟨⟨t230, t231⟩, A250, H⟩ := H
        replace H : (if t217 = true then ((w_collide.f kj12 t226 t230).bind fun t234 => (some t234)) else (some false)) = some r := H
        have A25 := Aside0.mk A250
        clear A250
        by_cases c26 : t217 = true
        · subst c26
          have H1 : ((w_collide.f kj12 t226 t230).bind fun t234 => (some t234)) = some r := by rw [if_pos rfl] at H; exact H
          clear H
          have H := H1
          clear H1
          replace H := Option.bind_eq_some_iff.mp H
          obtain ⟨t234, A270, H⟩ := H
          replace H : (some t234) = some r := H
          have A27 := Aside0.mk A270
          clear A270
          obtain rfl := Option.some.inj H
          go_wp2_with (first | ((with_reducible refine gate_callee (f := 28) rfl ?_); refine goesL_ (some 56) rfl rfl Tryd.func28 (by kernel_rfl) rfl #[.string a0, .int .i64 a4, .int .i64 a6, .slice Ao17 t218.length co17, .bool true] rfl (by (try simp only [List.map_toArray, List.map_cons, List.map_nil]); first | done | rfl | (simp only [List.length_drop, List.length_take]; rfl) | (simp only [ByteArray.size_extract, ByteArray.size_append, Nat.sub_zero]; done) | (simp only [ByteArray.size_extract, ByteArray.size_append, Nat.sub_zero]; (rw [IntWalk.wrap64_in _ (by omega)]) <;> rfl)) ?_; (with_reducible refine (w_sides.calls kj12 a0 a4 a6 _ _ t218 true t226 t227 _ ?side3 ?side1 ?side2 A24.out).mono ?_); (case side1 => repeat (first | exact (Kd.R_reads' HO_1.out).2.2 | (with_reducible refine Kd.C_alloc ?_ _) | (with_reducible refine Kd.C_drewN ?_ _) | (with_reducible refine Kd.C_drew ?_))); (case side2 => exact (Kd.R_reads' HO_1.out).2.1); (case side3 => exact Aside0.mk (Laid.below HG.out (by repeat (first | (with_reducible first | exact HB.out | apply below_alloc | apply pw_below_drewN | apply below_drew1) | exact HB.out)))); rintro e w28 ⟨v228, rfl, ho0, hb⟩; refine ⟨_, rfl, ?_⟩; have n0_ := Aside0.mk (Kd.R_elder' (by (with_reducible repeat (first | apply Kd.R_alloc | apply Kd.R_drewN | apply Kd.R_drew)); exact HO_1.out) (Kd.R_base ho0) hb); have n1_ := Aside0.mk (Kd.R_elder' (by (with_reducible repeat (first | apply Kd.R_alloc | apply Kd.R_drewN | apply Kd.R_drew)); exact HO_3.out) (Kd.R_base ho0) hb); have n2_ := Aside0.mk (Kd.R_lower (Kd.R_new' (Kd.R_new' ho0 (Kd.R_lt (by (with_reducible repeat (first | apply Kd.R_alloc | apply Kd.R_drewN | apply Kd.R_drew)); exact HO_1.out))) (Kd.R_lt (by (with_reducible repeat (first | apply Kd.R_alloc | apply Kd.R_drewN | apply Kd.R_drew)); exact HO_3.out))) (below_size (by repeat (first | (with_reducible first | exact HB.out | apply below_alloc | apply pw_below_drewN | apply below_drew1) | exact HB.out)))); have n3_ := Aside0.mk (below_step (by repeat (first | (with_reducible first | exact HB.out | apply below_alloc | apply pw_below_drewN | apply below_drew1) | exact HB.out)) hb); clear HO_1; clear HO_3; clear HB; have HO_1 := n0_; have HO_3 := n1_; have HO229 := n2_; have HB := n3_; clear n0_ n1_ n2_ n3_; (try clear hb); (try clear hb2); (try clear hk); (try clear hi); (try clear ho0)) | ((with_reducible refine gate_callee (f := 28) rfl ?_); refine goesL_ (some 64) rfl rfl Tryd.func28 (by kernel_rfl) rfl #[.string a2, .int .i64 a4, .int .i64 a6, .slice Ao19 t221.length co19, .bool true] rfl (by (try simp only [List.map_toArray, List.map_cons, List.map_nil]); first | done | rfl | (simp only [List.length_drop, List.length_take]; rfl) | (simp only [ByteArray.size_extract, ByteArray.size_append, Nat.sub_zero]; done) | (simp only [ByteArray.size_extract, ByteArray.size_append, Nat.sub_zero]; (rw [IntWalk.wrap64_in _ (by omega)]) <;> rfl)) ?_; (with_reducible refine (w_sides.calls kj12 a2 a4 a6 _ _ t221 true t230 t231 _ ?side3 ?side1 ?side2 A25.out).mono ?_); (case side1 => repeat (first | exact (Kd.R_reads' HO_3.out).2.2 | (with_reducible refine Kd.C_alloc ?_ _) | (with_reducible refine Kd.C_drewN ?_ _) | (with_reducible refine Kd.C_drew ?_))); (case side2 => exact (Kd.R_reads' HO_3.out).2.1); (case side3 => exact Aside0.mk (Laid.below HG.out (by repeat (first | (with_reducible first | exact HB.out | apply below_alloc | apply pw_below_drewN | apply below_drew1) | exact HB.out)))); rintro e w29 ⟨v232, rfl, ho0, hb⟩; refine ⟨_, rfl, ?_⟩; have n0_ := Aside0.mk (Kd.R_elder' (by (with_reducible repeat (first | apply Kd.R_alloc | apply Kd.R_drewN | apply Kd.R_drew)); exact HO_1.out) (Kd.R_base ho0) hb); have n1_ := Aside0.mk (Kd.R_elder' (by (with_reducible repeat (first | apply Kd.R_alloc | apply Kd.R_drewN | apply Kd.R_drew)); exact HO_3.out) (Kd.R_base ho0) hb); have n2_ := Aside0.mk (Kd.R_elder' (by (with_reducible repeat (first | apply Kd.R_alloc | apply Kd.R_drewN | apply Kd.R_drew)); exact HO229.out) (Kd.R_base ho0) hb); have n3_ := Aside0.mk (Kd.R_lower (Kd.R_new' (Kd.R_new' (Kd.R_new' ho0 (Kd.R_lt (by (with_reducible repeat (first | apply Kd.R_alloc | apply Kd.R_drewN | apply Kd.R_drew)); exact HO_1.out))) (Kd.R_lt (by (with_reducible repeat (first | apply Kd.R_alloc | apply Kd.R_drewN | apply Kd.R_drew)); exact HO_3.out))) (Kd.R_lt (by (with_reducible repeat (first | apply Kd.R_alloc | apply Kd.R_drewN | apply Kd.R_drew)); exact HO229.out))) (below_size (by repeat (first | (with_reducible first | exact HB.out | apply below_alloc | apply pw_below_drewN | apply below_drew1) | exact HB.out)))); have n4_ := Aside0.mk (below_step (by repeat (first | (with_reducible first | exact HB.out | apply below_alloc | apply pw_below_drewN | apply below_drew1) | exact HB.out)) hb); clear HO_1; clear HO_3; clear HO229; clear HB; have HO_1 := n0_; have HO_3 := n1_; have HO229 := n2_; have HO233 := n3_; have HB := n4_; clear n0_ n1_ n2_ n3_ n4_; (try clear hb); (try clear hb2); (try clear hk); (try clear hi); (try clear ho0); obtain ⟨Ao30, co30, eo30⟩ := Kd.R_slice HO229.out; subst eo30; obtain ⟨Ao31, co31, eo31⟩ := Kd.R_slice HO233.out; subst eo31) | (go_at_call 27; (with_reducible refine (w_collide.calls kj12 _ _ t226 _ _ t230 t234 _ ?side5 ?side1 ?side2 ?side3 ?side4 A27.out).mono ?_); (case side1 => repeat (first | exact (Kd.R_reads' HO229.out).2.2 | (with_reducible refine Kd.C_alloc ?_ _) | (with_reducible refine Kd.C_drewN ?_ _) | (with_reducible refine Kd.C_drew ?_))); (case side2 => exact (Kd.R_reads' HO229.out).2.1); (case side3 => repeat (first | exact (Kd.R_reads' HO233.out).2.2 | (with_reducible refine Kd.C_alloc ?_ _) | (with_reducible refine Kd.C_drewN ?_ _) | (with_reducible refine Kd.C_drew ?_))); (case side4 => exact (Kd.R_reads' HO233.out).2.1); (case side5 => exact Aside0.mk (Laid.below HG.out (by repeat (first | (with_reducible first | exact HB.out | apply below_alloc | apply pw_below_drewN | apply below_drew1) | exact HB.out)))); rintro e w32 ⟨rfl, hb⟩; have n0_ := Aside0.mk (Kd.R_below (by (with_reducible repeat (first | apply Kd.R_alloc | apply Kd.R_drewN | apply Kd.R_drew)); exact HO_1.out) hb); have n1_ := Aside0.mk (Kd.R_below (by (with_reducible repeat (first | apply Kd.R_alloc | apply Kd.R_drewN | apply Kd.R_drew)); exact HO_3.out) hb); have n2_ := Aside0.mk (Kd.R_below (by (with_reducible repeat (first | apply Kd.R_alloc | apply Kd.R_drewN | apply Kd.R_drew)); exact HO229.out) hb); have n3_ := Aside0.mk (Kd.R_below (by (with_reducible repeat (first | apply Kd.R_alloc | apply Kd.R_drewN | apply Kd.R_drew)); exact HO233.out) hb); have n4_ := Aside0.mk (below_step (by repeat (first | (with_reducible first | exact HB.out | apply below_alloc | apply pw_below_drewN | apply below_drew1) | exact HB.out)) hb); clear HO_1; clear HO_3; clear HO229; clear HO233; clear HB; have HO_1 := n0_; have HO_3 := n1_; have HO229 := n2_; have HO233 := n3_; have HB := n4_; clear n0_ n1_ n2_ n3_ n4_; (try clear hb); (try clear hb2); (try clear hk); (try clear hi)))
          go_ret
          exact ⟨by first | rfl | (simp [errW_none, errW_some] <;> rfl) | (simp [*, errW_none, errW_some] <;> rfl), by repeat (first | (with_reducible first | exact HB.out | apply below_alloc | apply pw_below_drewN | apply below_drew1) | exact HB.out)⟩
        · replace c26 := Bool.eq_false_iff.mpr c26
          subst c26
          have H1 : (some false) = some r := by rw [if_neg (show ¬ (false = true) by decide)] at H; exact H
          clear H
          have H := H1
          clear H1
          obtain rfl := Option.some.inj H
          go_wp2_with (first | ((with_reducible refine gate_callee (f := 28) rfl ?_); refine goesL_ (some 56) rfl rfl Tryd.func28 (by kernel_rfl) rfl #[.string a0, .int .i64 a4, .int .i64 a6, .slice Ao17 t218.length co17, .bool true] rfl (by (try simp only [List.map_toArray, List.map_cons, List.map_nil]); first | done | rfl | (simp only [List.length_drop, List.length_take]; rfl) | (simp only [ByteArray.size_extract, ByteArray.size_append, Nat.sub_zero]; done) | (simp only [ByteArray.size_extract, ByteArray.size_append, Nat.sub_zero]; (rw [IntWalk.wrap64_in _ (by omega)]) <;> rfl)) ?_; (with_reducible refine (w_sides.calls kj12 a0 a4 a6 _ _ t218 true t226 t227 _ ?side3 ?side1 ?side2 A24.out).mono ?_); (case side1 => repeat (first | exact (Kd.R_reads' HO_1.out).2.2 | (with_reducible refine Kd.C_alloc ?_ _) | (with_reducible refine Kd.C_drewN ?_ _) | (with_reducible refine Kd.C_drew ?_))); (case side2 => exact (Kd.R_reads' HO_1.out).2.1); (case side3 => exact Aside0.mk (Laid.below HG.out (by repeat (first | (with_reducible first | exact HB.out | apply below_alloc | apply pw_below_drewN | apply below_drew1) | exact HB.out)))); rintro e w33 ⟨v228, rfl, ho0, hb⟩; refine ⟨_, rfl, ?_⟩; have n0_ := Aside0.mk (Kd.R_elder' (by (with_reducible repeat (first | apply Kd.R_alloc | apply Kd.R_drewN | apply Kd.R_drew)); exact HO_1.out) (Kd.R_base ho0) hb); have n1_ := Aside0.mk (Kd.R_elder' (by (with_reducible repeat (first | apply Kd.R_alloc | apply Kd.R_drewN | apply Kd.R_drew)); exact HO_3.out) (Kd.R_base ho0) hb); have n2_ := Aside0.mk (Kd.R_lower (Kd.R_new' (Kd.R_new' ho0 (Kd.R_lt (by (with_reducible repeat (first | apply Kd.R_alloc | apply Kd.R_drewN | apply Kd.R_drew)); exact HO_1.out))) (Kd.R_lt (by (with_reducible repeat (first | apply Kd.R_alloc | apply Kd.R_drewN | apply Kd.R_drew)); exact HO_3.out))) (below_size (by repeat (first | (with_reducible first | exact HB.out | apply below_alloc | apply pw_below_drewN | apply below_drew1) | exact HB.out)))); have n3_ := Aside0.mk (below_step (by repeat (first | (with_reducible first | exact HB.out | apply below_alloc | apply pw_below_drewN | apply below_drew1) | exact HB.out)) hb); clear HO_1; clear HO_3; clear HB; have HO_1 := n0_; have HO_3 := n1_; have HO229 := n2_; have HB := n3_; clear n0_ n1_ n2_ n3_; (try clear hb); (try clear hb2); (try clear hk); (try clear hi); (try clear ho0)) | ((with_reducible refine gate_callee (f := 28) rfl ?_); refine goesL_ (some 64) rfl rfl Tryd.func28 (by kernel_rfl) rfl #[.string a2, .int .i64 a4, .int .i64 a6, .slice Ao19 t221.length co19, .bool true] rfl (by (try simp only [List.map_toArray, List.map_cons, List.map_nil]); first | done | rfl | (simp only [List.length_drop, List.length_take]; rfl) | (simp only [ByteArray.size_extract, ByteArray.size_append, Nat.sub_zero]; done) | (simp only [ByteArray.size_extract, ByteArray.size_append, Nat.sub_zero]; (rw [IntWalk.wrap64_in _ (by omega)]) <;> rfl)) ?_; (with_reducible refine (w_sides.calls kj12 a2 a4 a6 _ _ t221 true t230 t231 _ ?side3 ?side1 ?side2 A25.out).mono ?_); (case side1 => repeat (first | exact (Kd.R_reads' HO_3.out).2.2 | (with_reducible refine Kd.C_alloc ?_ _) | (with_reducible refine Kd.C_drewN ?_ _) | (with_reducible refine Kd.C_drew ?_))); (case side2 => exact (Kd.R_reads' HO_3.out).2.1); (case side3 => exact Aside0.mk (Laid.below HG.out (by repeat (first | (with_reducible first | exact HB.out | apply below_alloc | apply pw_below_drewN | apply below_drew1) | exact HB.out)))); rintro e w34 ⟨v232, rfl, ho0, hb⟩; refine ⟨_, rfl, ?_⟩; have n0_ := Aside0.mk (Kd.R_elder' (by (with_reducible repeat (first | apply Kd.R_alloc | apply Kd.R_drewN | apply Kd.R_drew)); exact HO_1.out) (Kd.R_base ho0) hb); have n1_ := Aside0.mk (Kd.R_elder' (by (with_reducible repeat (first | apply Kd.R_alloc | apply Kd.R_drewN | apply Kd.R_drew)); exact HO_3.out) (Kd.R_base ho0) hb); have n2_ := Aside0.mk (Kd.R_elder' (by (with_reducible repeat (first | apply Kd.R_alloc | apply Kd.R_drewN | apply Kd.R_drew)); exact HO229.out) (Kd.R_base ho0) hb); have n3_ := Aside0.mk (Kd.R_lower (Kd.R_new' (Kd.R_new' (Kd.R_new' ho0 (Kd.R_lt (by (with_reducible repeat (first | apply Kd.R_alloc | apply Kd.R_drewN | apply Kd.R_drew)); exact HO_1.out))) (Kd.R_lt (by (with_reducible repeat (first | apply Kd.R_alloc | apply Kd.R_drewN | apply Kd.R_drew)); exact HO_3.out))) (Kd.R_lt (by (with_reducible repeat (first | apply Kd.R_alloc | apply Kd.R_drewN | apply Kd.R_drew)); exact HO229.out))) (below_size (by repeat (first | (with_reducible first | exact HB.out | apply below_alloc | apply pw_below_drewN | apply below_drew1) | exact HB.out)))); have n4_ := Aside0.mk (below_step (by repeat (first | (with_reducible first | exact HB.out | apply below_alloc | apply pw_below_drewN | apply below_drew1) | exact HB.out)) hb); clear HO_1; clear HO_3; clear HO229; clear HB; have HO_1 := n0_; have HO_3 := n1_; have HO229 := n2_; have HO233 := n3_; have HB := n4_; clear n0_ n1_ n2_ n3_ n4_; (try clear hb); (try clear hb2); (try clear hk); (try clear hi); (try clear ho0)))
          go_ret
          exact ⟨by first | rfl | (simp [errW_none, errW_some] <;> rfl) | (simp [*, errW_none, errW_some] <;> rfl), by repeat (first | (with_reducible first | exact HB.out | apply below_alloc | apply pw_below_drewN | apply below_drew1) | exact HB.out)⟩

end Go.Proofs.YtabjfogmcehemaaDoor.Pd

/- The law DigestExtensionBinding, over plain lists. -/
namespace Go.Proofs.YtabjfogmcehemaaDoor.Pure
open Go.RowKit Tree Go.Proofs.YtabjfogmcehemaaDoorW.PrintWords Go.Proofs.YtabjfogmcehemaaDoorW.PrintLast Go.Proofs.YtabjfogmcehemaaDoorW.PrintMore
set_option linter.unusedVariables false
set_option linter.unusedSimpArgs false
/-- The strings of which digests are computed for an extension (its last element first), and the new root. -/
def sidesL (old : ByteArray) : List ByteArray → Nat → Nat → Bool → List ByteArray × ByteArray
  | [], _, _, _ => ([], old)
  | x :: rp, m, n, b => if n ≤ m then ([], if b then old else (x :: rp).reverse.headD ⟨#[]⟩)
      else if leftOf n < m then (nodeIn x (sidesL old rp (m - leftOf n) (n - leftOf n) false).2 :: (sidesL old rp (m - leftOf n) (n - leftOf n) false).1, nodeB x (sidesL old rp (m - leftOf n) (n - leftOf n) false).2)
      else (nodeIn (sidesL old rp m (leftOf n) b).2 x :: (sidesL old rp m (leftOf n) b).1, nodeB (sidesL old rp m (leftOf n) b).2 x)
theorem sidesL_end (old x : ByteArray) (rp : List ByteArray) (m n : Nat) (b : Bool) (h : n ≤ m) : sidesL old (x :: rp) m n b = ([], if b then old else (x :: rp).reverse.headD ⟨#[]⟩) := by
  simp only [sidesL]; rw [if_pos h]
theorem sidesL_hi (old x : ByteArray) (rp : List ByteArray) (m n : Nat) (b : Bool) (h : m < n) (hk : leftOf n < m) : sidesL old (x :: rp) m n b = (nodeIn x (sidesL old rp (m - leftOf n) (n - leftOf n) false).2 :: (sidesL old rp (m - leftOf n) (n - leftOf n) false).1, nodeB x (sidesL old rp (m - leftOf n) (n - leftOf n) false).2) := by
  simp only [sidesL]; rw [if_neg (by omega), if_pos hk]
theorem sidesL_lo (old x : ByteArray) (rp : List ByteArray) (m n : Nat) (b : Bool) (h : m < n) (hk : ¬ leftOf n < m) : sidesL old (x :: rp) m n b = (nodeIn (sidesL old rp m (leftOf n) b).2 x :: (sidesL old rp m (leftOf n) b).1, nodeB (sidesL old rp m (leftOf n) b).2 x) := by
  simp only [sidesL]; rw [if_neg (by omega), if_neg hk]
theorem bothR_size (old : ByteArray) (ho : old.size = 32) : ∀ (rp : List ByteArray) (m n : Nat) (b : Bool) (p : ByteArray × ByteArray), bothR old rp m n b = some p → (∀ x ∈ rp, x.size = 32) → p.1.size = 32 ∧ p.2.size = 32 := by
  intro rp
  induction rp with
  | nil =>
    intro m n b p h _
    by_cases hn : n ≤ m
    · rw [bothR_end0 _ _ _ _ hn] at h
      cases b with
      | true => rw [if_pos rfl] at h; cases h; exact ⟨ho, ho⟩
      | false => rw [if_neg (by decide)] at h; cases h
    · rw [bothR_none _ _ _ _ (by omega)] at h; cases h
  | cons x rp ih =>
    intro m n b p h hr
    have hx := hr x (by simp)
    have hr' : ∀ x ∈ rp, x.size = 32 := fun x hx => hr x (by simp [hx])
    by_cases hn : n ≤ m
    · rw [bothR_end1 _ _ _ _ _ _ hn] at h
      cases b with
      | true => rw [if_pos rfl] at h; cases h
      | false =>
        rw [if_neg (by decide)] at h
        cases rp with
        | nil => cases h; exact ⟨hx, hx⟩
        | cons y rp => cases h
    · by_cases hk : leftOf n < m
      · rw [bothR_hi _ _ _ _ _ _ (by omega) hk] at h
        obtain ⟨q, hq, rfl⟩ := Option.map_eq_some_iff.1 h
        exact jj_size _ _ (ih _ _ _ _ hq hr').1
      · rw [bothR_lo _ _ _ _ _ _ (by omega) (by omega)] at h
        obtain ⟨q, hq, rfl⟩ := Option.map_eq_some_iff.1 h
        exact jj_size _ _ (ih _ _ _ _ hq hr').1
theorem sidesL_val (old : ByteArray) : ∀ (rp : List ByteArray) (m n : Nat) (b : Bool) (p : ByteArray × ByteArray), bothR old rp m n b = some p → (sidesL old rp m n b).2 = p.2 := by
  intro rp
  induction rp with
  | nil =>
    intro m n b p h
    by_cases hn : n ≤ m
    · rw [bothR_end0 _ _ _ _ hn] at h
      cases b with
      | true => rw [if_pos rfl] at h; cases h; rfl
      | false => rw [if_neg (by decide)] at h; cases h
    · rw [bothR_none _ _ _ _ (by omega)] at h; cases h
  | cons x rp ih =>
    intro m n b p h
    by_cases hn : n ≤ m
    · rw [bothR_end1 _ _ _ _ _ _ hn] at h
      cases b with
      | true => rw [if_pos rfl] at h; cases h
      | false =>
        rw [if_neg (by decide)] at h
        cases rp with
        | nil => cases h; rw [sidesL_end _ _ _ _ _ _ hn]; rfl
        | cons y rp => cases h
    · by_cases hk : leftOf n < m
      · rw [bothR_hi _ _ _ _ _ _ (by omega) hk] at h
        obtain ⟨q, hq, rfl⟩ := Option.map_eq_some_iff.1 h
        rw [sidesL_hi _ _ _ _ _ _ (by omega) hk, ih _ _ _ _ hq]
        rfl
      · rw [bothR_lo _ _ _ _ _ _ (by omega) (by omega)] at h
        obtain ⟨q, hq, rfl⟩ := Option.map_eq_some_iff.1 h
        rw [sidesL_lo _ _ _ _ _ _ (by omega) hk, ih _ _ _ _ hq]
        rfl
theorem sidesL_len (old : ByteArray) : ∀ (rp : List ByteArray) (m n : Nat) (b : Bool), (sidesL old rp m n b).1.length ≤ rp.length := by
  intro rp
  induction rp with
  | nil => intro m n b; exact Nat.le_refl _
  | cons x rp ih =>
    intro m n b
    by_cases hn : n ≤ m
    · rw [sidesL_end _ _ _ _ _ _ hn]; exact Nat.zero_le _
    · by_cases hk : leftOf n < m
      · rw [sidesL_hi _ _ _ _ _ _ (by omega) hk, List.length_cons, List.length_cons]; have := ih (m - leftOf n) (n - leftOf n) false; omega
      · rw [sidesL_lo _ _ _ _ _ _ (by omega) hk, List.length_cons, List.length_cons]; have := ih m (leftOf n) b; omega
theorem sidesL_sizes (old : ByteArray) (ho : old.size = 32) : ∀ (rp : List ByteArray) (m n : Nat) (b : Bool) (p : ByteArray × ByteArray), bothR old rp m n b = some p → (∀ x ∈ rp, x.size = 32) → ∀ x ∈ (sidesL old rp m n b).1, x.size ≤ 1000 := by
  intro rp
  induction rp with
  | nil => intro m n b p _ _ x hx; cases hx
  | cons y rp ih =>
    intro m n b p h hr x hx
    have hy := hr y (by simp)
    have hr' : ∀ x ∈ rp, x.size = 32 := fun x hx => hr x (by simp [hx])
    by_cases hn : n ≤ m
    · rw [sidesL_end _ _ _ _ _ _ hn] at hx; cases hx
    · by_cases hk : leftOf n < m
      · rw [bothR_hi _ _ _ _ _ _ (by omega) hk] at h
        obtain ⟨q, hq, rfl⟩ := Option.map_eq_some_iff.1 h
        rw [sidesL_hi _ _ _ _ _ _ (by omega) hk] at hx
        rcases List.mem_cons.1 hx with rfl | hx
        · rw [nodeIn_size _ _ hy (by rw [sidesL_val _ _ _ _ _ _ hq]; exact (bothR_size old ho _ _ _ _ _ hq hr').2)]; omega
        · exact ih _ _ _ _ hq hr' x hx
      · rw [bothR_lo _ _ _ _ _ _ (by omega) (by omega)] at h
        obtain ⟨q, hq, rfl⟩ := Option.map_eq_some_iff.1 h
        rw [sidesL_lo _ _ _ _ _ _ (by omega) hk] at hx
        rcases List.mem_cons.1 hx with rfl | hx
        · rw [nodeIn_size _ _ (by rw [sidesL_val _ _ _ _ _ _ hq]; exact (bothR_size old ho _ _ _ _ _ hq hr').2) hy]; omega
        · exact ih _ _ _ _ hq hr' x hx
theorem sides_f (old : ByteArray) (ho : old.size = 32) : ∀ (rp : List ByteArray) (m n : Nat) (b : Bool) (p : ByteArray × ByteArray) (f : Nat), bothR old rp m n b = some p → n ≤ 9223372036854775807 → m ≤ n → 1 ≤ m → (∀ x ∈ rp, x.size = 32) → rp.length ≤ 100 → 70 + 2 * rp.length ≤ f →
    Pd.w_sides.f f old (m : Int) (n : Int) rp.reverse b = some (sidesL old rp m n b) := by
  intro rp
  induction rp with
  | nil =>
    intro m n b p f h hn hm h1 hr hl hf
    obtain ⟨f, rfl⟩ : ∃ g, f = g + 1 + 1 := ⟨f - 2, by omega⟩
    have hnm : n ≤ m := by
      by_cases hn : n ≤ m
      · exact hn
      · rw [bothR_none _ _ _ _ (by omega)] at h; cases h
    simp only [Pd.w_sides.f, Pd.w_sides.j0]
    rw [if_pos (show ((m : Int) ≥ (n : Int)) by omega), if_pos trivial]
    split
    · rfl
    · rw [if_pos (by rfl)]; rfl
  | cons x rp ih =>
    intro m n b p f h hn hm h1 hr hl hf
    rw [List.length_cons] at hl hf
    obtain ⟨f, rfl⟩ : ∃ g, f = g + 1 + 1 := ⟨f - 2, by omega⟩
    have hx := hr x (by simp)
    have hr' : ∀ x ∈ rp, x.size = 32 := fun x hx => hr x (by simp [hx])
    have hlen : (x :: rp).reverse.length = rp.length + 1 := by simp
    obtain ⟨e1, e2⟩ := last_at x rp
    simp only [Pd.w_sides.f, Pd.w_sides.j0]
    by_cases hnm : n ≤ m
    · rw [if_pos (show ((m : Int) ≥ (n : Int)) by omega), if_pos trivial, sidesL_end _ _ _ _ _ _ hnm]
      cases b with
      | true => rfl
      | false =>
        rw [if_neg (by decide), if_neg (by rw [hlen]; omega), if_pos (by rw [hlen]; omega)]
        rw [bothR_end1 _ _ _ _ _ _ hnm, if_neg (by decide)] at h
        cases rp with
        | nil => rfl
        | cons y rp => cases h
    · rw [wsm (((x :: rp).reverse.length : Int) - 1) (by rw [hlen]; omega) (by rw [hlen]; omega), e1, show (((x :: rp).reverse.length : Int) - 1).toNat = rp.length by rw [hlen]; omega, e2, hlen]
      have hk' := leftOf_lt n (by omega)
      have hk0 := leftOf_pos n
      rw [if_neg (show ¬ ((m : Int) ≥ (n : Int)) by omega), show (((rp.length + 1 : Nat) : Int) == 0) = false from by rw [beq_eq_false_iff_ne]; omega, if_neg (by decide), if_pos (by omega), if_pos (by omega), if_pos (by omega), left_f n (by omega) hn f (by omega)]
      simp only [Option.bind_some]
      by_cases hk : leftOf n < m
      · rw [bothR_hi _ _ _ _ _ _ (by omega) hk] at h
        obtain ⟨q, hq, rfl⟩ := Option.map_eq_some_iff.1 h
        have := ih (m - leftOf n) (n - leftOf n) false q f hq (by omega) (by omega) (by omega) hr' (by omega) (by omega)
        rw [if_neg (by omega), wsm _ (by omega) (by omega), wsm _ (by omega) (by omega), show (m : Int) - ((leftOf n : Nat) : Int) = ((m - leftOf n : Nat) : Int) by omega, show (n : Int) - ((leftOf n : Nat) : Int) = ((n - leftOf n : Nat) : Int) by omega, this]
        simp only [Option.bind_some]
        have z1 : (sidesL old rp (m - leftOf n) (n - leftOf n) false).2.size = 32 := by rw [sidesL_val _ _ _ _ _ _ hq]; exact (bothR_size old ho _ _ _ _ _ hq hr').2
        have z2 := sidesL_len old rp (m - leftOf n) (n - leftOf n) false
        rw [if_pos (by omega), if_pos (by rw [ByteArray.size_append, z1, hx]; decide), if_pos (by rw [List.length_singleton]; omega), Node_f _ _ (by omega) (by omega), sidesL_hi _ _ _ _ _ _ (by omega) hk]
        rfl
      · rw [bothR_lo _ _ _ _ _ _ (by omega) (by omega)] at h
        obtain ⟨q, hq, rfl⟩ := Option.map_eq_some_iff.1 h
        have := ih m (leftOf n) b q f hq (by omega) (by omega) (by omega) hr' (by omega) (by omega)
        rw [if_pos (by omega), this]
        simp only [Option.bind_some]
        have z1 : (sidesL old rp m (leftOf n) b).2.size = 32 := by rw [sidesL_val _ _ _ _ _ _ hq]; exact (bothR_size old ho _ _ _ _ _ hq hr').2
        have z2 := sidesL_len old rp m (leftOf n) b
        rw [if_pos (by omega), if_pos (by rw [ByteArray.size_append, z1, hx]; decide), if_pos (by rw [List.length_singleton]; omega), Node_f _ _ (by omega) (by omega), sidesL_lo _ _ _ _ _ _ (by omega) hk]
        rfl
theorem sides_coll (a b : ByteArray) (ha : a.size = 32) (hb : b.size = 32) : ∀ (rp rq : List ByteArray) (m n : Nat) (c : Bool) (p q : ByteArray × ByteArray), bothR a rp m n c = some p → bothR b rq m n c = some q → p.2 = q.2 → p.1 ≠ q.1 → (∀ x ∈ rp, x.size = 32) → (∀ x ∈ rq, x.size = 32) →
    Coll (sidesL a rp m n c).1 (sidesL b rq m n c).1 := by
  intro rp
  induction rp with
  | nil =>
    intro rq m n c p q h1 h2 he hne _ _
    exfalso
    by_cases hn : n ≤ m
    · rw [bothR_end0 _ _ _ _ hn] at h1
      cases c with
      | false => rw [if_neg (by decide)] at h1; cases h1
      | true =>
        rw [if_pos rfl] at h1
        cases h1
        cases rq with
        | nil => rw [bothR_end0 _ _ _ _ hn, if_pos rfl] at h2; cases h2; exact hne he
        | cons y rq => rw [bothR_end1 _ _ _ _ _ _ hn, if_pos rfl] at h2; cases h2
    · rw [bothR_none _ _ _ _ (by omega)] at h1; cases h1
  | cons x rp ih =>
    intro rq m n c p q h1 h2 he hne hr hq
    have hx := hr x (by simp)
    have hr' : ∀ x ∈ rp, x.size = 32 := fun x hx => hr x (by simp [hx])
    by_cases hn : n ≤ m
    · exfalso
      rw [bothR_end1 _ _ _ _ _ _ hn] at h1
      cases c with
      | true => rw [if_pos rfl] at h1; cases h1
      | false =>
        rw [if_neg (by decide)] at h1
        cases rp with
        | cons y rp => cases h1
        | nil =>
          cases h1
          cases rq with
          | nil => rw [bothR_end0 _ _ _ _ hn, if_neg (by decide)] at h2; cases h2
          | cons y rq =>
            rw [bothR_end1 _ _ _ _ _ _ hn, if_neg (by decide)] at h2
            cases rq with
            | cons z rq => cases h2
            | nil => cases h2; exact hne he
    · cases rq with
      | nil => rw [bothR_none _ _ _ _ (by omega)] at h2; cases h2
      | cons y rq =>
        have hy := hq y (by simp)
        have hq' : ∀ x ∈ rq, x.size = 32 := fun x hx => hq x (by simp [hx])
        by_cases hk : leftOf n < m
        · rw [bothR_hi _ _ _ _ _ _ (by omega) hk] at h1 h2
          obtain ⟨u, g1, e1⟩ := Option.map_eq_some_iff.1 h1
          obtain ⟨v, g2, e2⟩ := Option.map_eq_some_iff.1 h2
          have s1 := (bothR_size a ha _ _ _ _ _ g1 hr').2
          have s2 := (bothR_size b hb _ _ _ _ _ g2 hq').2
          rw [sidesL_hi _ _ _ _ _ _ (by omega) hk, sidesL_hi _ _ _ _ _ _ (by omega) hk, sidesL_val _ _ _ _ _ _ g1, sidesL_val _ _ _ _ _ _ g2]
          subst e1 e2
          by_cases hc : nodeIn x u.2 = nodeIn y v.2
          · obtain ⟨rfl, hv⟩ := nodeIn_inj hc (by rw [hx, hy])
            refine Coll.tail (ih rq _ _ _ u v g1 g2 hv ?_ hr' hq')
            intro h
            exact hne (by unfold jj; rw [if_pos rfl, if_pos rfl]; show nodeB x u.1 = nodeB x v.1; rw [h])
          · exact Coll.head hc he
        · rw [bothR_lo _ _ _ _ _ _ (by omega) (by omega)] at h1 h2
          obtain ⟨u, g1, e1⟩ := Option.map_eq_some_iff.1 h1
          obtain ⟨v, g2, e2⟩ := Option.map_eq_some_iff.1 h2
          have s1 := (bothR_size a ha _ _ _ _ _ g1 hr').2
          have s2 := (bothR_size b hb _ _ _ _ _ g2 hq').2
          rw [sidesL_lo _ _ _ _ _ _ (by omega) hk, sidesL_lo _ _ _ _ _ _ (by omega) hk, sidesL_val _ _ _ _ _ _ g1, sidesL_val _ _ _ _ _ _ g2]
          subst e1 e2
          by_cases hc : nodeIn u.2 x = nodeIn v.2 y
          · obtain ⟨hv, rfl⟩ := nodeIn_inj hc (by rw [s1, s2])
            exact Coll.tail (ih rq _ _ _ u v g1 g2 hv (fun h => hne h) hr' hq')
          · exact Coll.head hc he
theorem isDig_size {x : ByteArray} (h : isDig x = true) : x.size = 32 := by
  unfold isDig at h
  first | exact of_decide_eq_true h | exact eq_of_beq h | (have := eq_of_beq h; omega) | (simp at h; omega)
theorem all_size {p : List ByteArray} (h : p.all isDig = true) : ∀ x ∈ p.reverse, x.size = 32 := fun x hx => isDig_size (List.all_eq_true.1 h x (List.mem_reverse.1 hx))
/-- What an accepted extension says. -/
theorem vexR_true {a r : ByteArray} {m n : Int} {p : List ByteArray} (h : vexR a m r n p = true) : 0 ≤ m ∧ m ≤ n ∧ (∀ x ∈ p.reverse, x.size = 32) ∧ a.size = 32 ∧
    ((m = 0 ∧ a = sumF ⟨#[]⟩) ∨ ((m ≠ 0 ∧ m = n) ∧ a = r) ∨ (1 ≤ m ∧ m < n ∧ bothR a p.reverse m.toNat n.toNat true = some (a, r))) := by
  unfold vexR at h
  simp only [Bool.and_eq_true, decide_eq_true_eq] at h
  obtain ⟨h0, h1, h2, h3, h4, h5⟩ := h
  refine ⟨h0, h1, all_size h2, isDig_size h3, ?_⟩
  by_cases c0 : m = 0
  · rw [if_pos c0] at h5
    simp only [Bool.and_eq_true] at h5
    exact .inl ⟨c0, (eqB_iff _ _).1 h5.2⟩
  · rw [if_neg c0] at h5
    by_cases c1 : m = n
    · rw [if_pos c1] at h5
      simp only [Bool.and_eq_true] at h5
      exact .inr (.inl ⟨⟨c0, c1⟩, (eqB_iff _ _).1 h5.2⟩)
    · rw [if_neg c1] at h5
      refine .inr (.inr ⟨by omega, by omega, ?_⟩)
      unfold okJ at h5
      split at h5
      · cases h5
      · rename_i v hv
        simp only [Bool.and_eq_true] at h5
        rw [hv, ← (eqB_iff _ _).1 h5.1, ← (eqB_iff _ _).1 h5.2]
theorem DigestExtensionBinding (a0 : ByteArray) (l1 : List ByteArray) (a2 : ByteArray) (l3 : List ByteArray) (a4 : Int) (a5 : ByteArray) (a6 : Int) (hn : a6 ≤ 9223372036854775807) (h1 : l1.length ≤ 9223372036854775807) (h3 : l3.length ≤ 9223372036854775807) :
    ∃ k, Pd.w_DigestExtensionBinding.f k a0 l1 a2 l3 a4 a5 a6 = some true := by
  refine ⟨3000 + 1, ?_⟩
  unfold Pd.w_DigestExtensionBinding.f w_sane.f
  have f1 := few_f l1 h1 70 (by omega) (3000 + 1) (by omega)
  have f3 := few_f l3 h3 70 (by omega) (3000 + 1) (by omega)
  rw [show ((70 : Nat) : Int) = 70 from rfl] at f1 f3
  have n1 := fewL_len 70 l1
  have n3 := fewL_len 70 l3
  rw [f1, f3]
  generalize fewL 70 l1 = p at *
  generalize fewL 70 l3 = q at *
  simp only [Option.bind_some]
  rw [VerifyExtension_f a0 a4 a5 a6 p hn (by omega)]
  simp only [Option.bind_some]
  rw [VerifyExtension_f a2 a4 a5 a6 q hn (by omega)]
  simp only [Option.bind_some]
  by_cases c1 : vexR a0 a4 a5 a6 p = true
  · rw [if_pos c1]
    by_cases c2 : vexR a2 a4 a5 a6 q = true
    · rw [if_pos c2]
      simp only [Pd.w_DigestExtensionBinding.j0]
      by_cases he : a0 = a2
      · subst he; rw [if_pos (beq_self a0)]
      · rw [if_neg (by rw [beq_iff_eq]; exact fun h => he (toList_inj h))]
        obtain ⟨g0, g1, hr, ha, hv⟩ := vexR_true c1
        obtain ⟨_, _, hq, hb, hw⟩ := vexR_true c2
        rcases hv with ⟨hm, e⟩ | ⟨hm, e⟩ | ⟨hm1, hm2, hv⟩
        · rcases hw with ⟨_, e'⟩ | ⟨_, e'⟩ | ⟨hm1, _, _⟩
          · exact absurd (e.trans e'.symm) he
          · rename_i hm'
            exfalso
            omega
          · omega
        · rcases hw with ⟨_, e'⟩ | ⟨_, e'⟩ | ⟨_, hm2, _⟩
          · exfalso; omega
          · exact absurd (e.trans e'.symm) he
          · omega
        · rcases hw with ⟨_, e'⟩ | ⟨_, e'⟩ | ⟨_, _, hw⟩
          · omega
          · omega
          · obtain ⟨n, rfl⟩ : ∃ n : Nat, a6 = n := ⟨a6.toNat, by omega⟩
            obtain ⟨m, rfl⟩ : ∃ m : Nat, a4 = m := ⟨a4.toNat, by omega⟩
            rw [Int.toNat_natCast, Int.toNat_natCast] at hv hw
            have e1 := sides_f a0 ha p.reverse m n true _ 3000 hv (by omega) (by omega) (by omega) hr (by rw [List.length_reverse]; omega) (by rw [List.length_reverse]; omega)
            have e2 := sides_f a2 hb q.reverse m n true _ 3000 hw (by omega) (by omega) (by omega) hq (by rw [List.length_reverse]; omega) (by rw [List.length_reverse]; omega)
            rw [List.reverse_reverse] at e1 e2
            rw [e1]
            simp only [Option.bind_some]
            rw [e2]
            simp only [Option.bind_some]
            have z1 := sidesL_len a0 p.reverse m n true
            have z2 := sidesL_len a2 q.reverse m n true
            rw [List.length_reverse] at z1 z2
            rw [if_pos trivial, collide_f (sides_coll a0 a2 ha hb _ _ m n true _ _ hv hw rfl he hr hq) (by omega) (by omega) (sidesL_sizes a0 ha _ _ _ _ _ hv hr) (sidesL_sizes a2 hb _ _ _ _ _ hw hq) 3000 (by omega)]
            rfl
    · rw [if_neg c2]
      simp only [Pd.w_DigestExtensionBinding.j0]
      rw [if_pos trivial]
  · rw [if_neg c1]
    simp only [Pd.w_DigestExtensionBinding.j0]
    rw [if_pos trivial]
end Go.Proofs.YtabjfogmcehemaaDoor.Pure

/- The walk of DigestExtensionBinding: the call answers true. -/
namespace Go.Proofs.YtabjfogmcehemaaDoor
open Go Go.RowKit Go.Proofs.YtabjfogmcehemaaDoorW.PrintWords
set_option linter.unusedVariables false
theorem walkExtBinding (a0 : ByteArray) (a1 : Option Addr) (len1 cap1 : Nat) (z1 : List ByteArray) (a2 : ByteArray) (a3 : Option Addr) (len3 cap3 : Nat) (z3 : List ByteArray) (a4 : Int) (a5 : ByteArray) (a6 : Int) (w : World) (HG : Aside0 (Laid w))
    (w0 : a0.size ≤ 140737488351232) (w1 : StrsAt w a1 len1 cap1 z1) (w2 : a2.size ≤ 140737488351232) (w3 : StrsAt w a3 len3 cap3 z3) (w4 : (Lit.int .i64 a4).wf = true) (w5 : a5.size ≤ 140737488351232) (w6 : (Lit.int .i64 a6).wf = true) :
    Calls Tryd.prog 8 #[.string a0, .slice a1 len1 cap1, .string a2, .slice a3 len3 cap3, .int .i64 a4, .string a5, .int .i64 a6] w fun e w' => e = .returned (.bool true) ∧ Below w.heap.size w w' := by
  obtain ⟨l1, rfl, hr1, hm1, hw1, hc1⟩ := w1.reads
  obtain ⟨l3, rfl, hr3, hm3, hw3, hc3⟩ := w3.reads
  unfold maxLen at hm1 hm3
  have g6 : a6 ≤ 9223372036854775807 := by
    have : -9223372036854775808 ≤ a6 ∧ a6 ≤ 9223372036854775807 := by simpa [Lit.wf, IntKind.min, IntKind.max, IntKind.signed, IntKind.bits] using w6
    exact this.2
  obtain ⟨k, h⟩ := Pure.DigestExtensionBinding a0 l1 a2 l3 a4 a5 a6 (by omega) (by omega) (by omega)
  exact Pd.w_DigestExtensionBinding.calls k a0 a1 cap1 l1 a2 a3 cap3 l3 a4 a5 a6 true w HG hr1 hc1 hr3 hc3 h
end Go.Proofs.YtabjfogmcehemaaDoor

/- The law DigestExtensionBinding answers true for every input: the row, and its card, the listed package-level variables tied to the program's text. -/
namespace Go.Proofs.YtabjfogmcehemaaDoor.rowDigestExtensionBinding
open Go Go.ChangeShapes Go.WideShapes Go.ChangeAt Go.RowKit
open Go.ChangeMaps (open_string shut_string)
set_option linter.unusedVariables false
set_option linter.unusedSimpArgs false
set_option maxRecDepth 100000 in
theorem lifted (os : Os) (started : os.Started) (H : Type) (enc : TypeId × Value → H) :
    ReturnsInHanded {} Tryd.checked os 8 .any (fun w args => (Rows.digestExtensionBindingSpec.pre enc Tryd.prog Tryd.f8 [] false w args ∧ laidMetH Tryd.prog laidL w) ∧ sizedMet enc Tryd.prog Tryd.f8 (OpenSpec.ofChange Rows.digestExtensionBindingSpec) false w args)
      (Rows.digestExtensionBindingSpec.post enc Tryd.prog Tryd.f8 false true false false) := by
  refine returnsInHanded_of_change_and (C := Tryd.checked) (X := fun w _ => laidMetH Tryd.prog laidL w) (fun _ _ _ hh h => h.of_heap hh) own started (by kernel_rfl) Tryd.func8
    (ChangeSpec.witness_shaped (enc := enc) (C := Tryd.checked) (os := os) (X := fun w _ => laidMetH Tryd.prog laidL w) false (World.doorLaid Tryd.prog doorSteps os) #[.string ByteArray.empty, .slice none 0 0, .string ByteArray.empty, .slice none 0 0, .int .i64 0, .string ByteArray.empty, .int .i64 0] 8 rfl (World.shaped_of_RefB (by kernel_rfl) (by kernel_rfl)) (by kernel_rfl) (by kernel_rfl) (by kernel_rfl) (door_met os _)) ?_
  intro W base args ds gs before hval0 hW hcnd hsz0 hL _
  have hsz : (DataW.weightsEach Tryd.prog (Tryd.f8.params.toList ++ Rows.digestExtensionBindingSpec.plain.varTypes Tryd.prog) (ds ++ gs)).all (· ≤ reachBytes) = true := hsz0
  have hval : ∀ (j : Nat) t v, Tryd.f8.params[j]? = some t → args[j]? = some v → Value.okWide Tryd.prog W .any base t v := hval0
  have hW' := hW
  obtain ⟨p, q, hA0, hV, rfl, hfz, hnd⟩ := hW
  have hA : DataW.TrodAll enc Tryd.prog W 0 (fun _ => true) true Tryd.f8.params.toList args.toList ds p := hA0
  rw [Tryd.params8] at hA hval hsz
  obtain ⟨v0, vs0, d0, ds0, p0, q0, hargs, rfl, rfl, h0, r0⟩ := trodAll_cons hA
  obtain ⟨v1, vs1, d1, ds1, p1, q1, rfl, rfl, rfl, h1, r1⟩ := trodAll_cons r0
  obtain ⟨v2, vs2, d2, ds2, p2, q2, rfl, rfl, rfl, h2, r2⟩ := trodAll_cons r1
  obtain ⟨v3, vs3, d3, ds3, p3, q3, rfl, rfl, rfl, h3, r3⟩ := trodAll_cons r2
  obtain ⟨v4, vs4, d4, ds4, p4, q4, rfl, rfl, rfl, h4, r4⟩ := trodAll_cons r3
  obtain ⟨v5, vs5, d5, ds5, p5, q5, rfl, rfl, rfl, h5, r5⟩ := trodAll_cons r4
  obtain ⟨v6, vs6, d6, ds6, p6, q6, rfl, rfl, rfl, h6, r6⟩ := trodAll_cons r5
  obtain ⟨rfl, rfl, rfl⟩ := trodAll_nil r6
  obtain rfl : args = #[v0, v1, v2, v3, v4, v5, v6] := by cases args; simp_all
  obtain ⟨rfl, rfl⟩ := trodVars_none hV
  obtain ⟨a0, rfl, rfl, rfl, y0⟩ := open_string Tryd.underlying9 (hval 0 9 v0 rfl rfl) h0
  have w0 : a0.size ≤ 140737488351232 := by
    have z := sized_string hsz (j := 0) (t := 9) rfl rfl
    rw [Array.length_toList] at z
    exact z
  obtain ⟨a1, len1, cap1, rfl⟩ := okWide_slice Tryd.underlying22 (hval 1 22 v1 rfl rfl)
  have k1 := h1
  have lt1 : ∀ x ∈ p1, x.block < W.heap.size := by obtain ⟨m, hm⟩ := k1; exact DataW.trod_lt m _ _ _ hm
  obtain ⟨z1, w1⟩ : ∃ zs, StrsAt W a1 len1 cap1 zs := by
    obtain ⟨fuel, hf⟩ := h1
    rcases open_strings Tryd.underlying22 Tryd.underlying9 (by kernel_rfl) hf with ⟨hcs, _⟩ | ⟨x, l, c, zs, hcs, _, hl, hm, hz, _, hcell, hwz⟩
    · simp [Value.cells] at hcs
      obtain ⟨rfl, rfl, rfl⟩ := hcs
      exact ⟨[], .inl ⟨rfl, rfl, rfl, rfl⟩⟩
    · simp [Value.cells] at hcs
      obtain ⟨rfl, rfl, rfl⟩ := hcs
      exact ⟨zs, .inr ⟨_, rfl, hl, hm, by simpa using hz, hcell, hwz⟩⟩
  obtain ⟨a2, rfl, rfl, rfl, y2⟩ := open_string Tryd.underlying9 (hval 2 9 v2 rfl rfl) h2
  have w2 : a2.size ≤ 140737488351232 := by
    have z := sized_string hsz (j := 2) (t := 9) rfl rfl
    rw [Array.length_toList] at z
    exact z
  obtain ⟨a3, len3, cap3, rfl⟩ := okWide_slice Tryd.underlying22 (hval 3 22 v3 rfl rfl)
  have k3 := h3
  have lt3 : ∀ x ∈ p3, x.block < W.heap.size := by obtain ⟨m, hm⟩ := k3; exact DataW.trod_lt m _ _ _ hm
  obtain ⟨z3, w3⟩ : ∃ zs, StrsAt W a3 len3 cap3 zs := by
    obtain ⟨fuel, hf⟩ := h3
    rcases open_strings Tryd.underlying22 Tryd.underlying9 (by kernel_rfl) hf with ⟨hcs, _⟩ | ⟨x, l, c, zs, hcs, _, hl, hm, hz, _, hcell, hwz⟩
    · simp [Value.cells] at hcs
      obtain ⟨rfl, rfl, rfl⟩ := hcs
      exact ⟨[], .inl ⟨rfl, rfl, rfl, rfl⟩⟩
    · simp [Value.cells] at hcs
      obtain ⟨rfl, rfl, rfl⟩ := hcs
      exact ⟨zs, .inr ⟨_, rfl, hl, hm, by simpa using hz, hcell, hwz⟩⟩
  obtain ⟨a4, rfl, rfl, rfl, w4⟩ := open_int Tryd.underlying3 (hval 4 3 v4 rfl rfl) h4
  obtain ⟨a5, rfl, rfl, rfl, y5⟩ := open_string Tryd.underlying9 (hval 5 9 v5 rfl rfl) h5
  have w5 : a5.size ≤ 140737488351232 := by
    have z := sized_string hsz (j := 5) (t := 9) rfl rfl
    rw [Array.length_toList] at z
    exact z
  obtain ⟨a6, rfl, rfl, rfl, w6⟩ := open_int Tryd.underlying3 (hval 6 3 v6 rfl rfl) h6
  have HG := of_laid hL
  clear hA0 hval0 hsz0
  refine (walkExtBinding a0 a1 len1 cap1 z1 a2 a3 len3 cap3 z3 a4 a5 a6 W HG w0 w1 w2 w3 w4 w5 w6).mono fun e W' ⟨he, bel⟩ => ?_
  subst he
  exact ⟨_, rfl, _, _, _, [], _, [], hW', trodAll_mk1 (shut_bool Tryd.underlying4 _), (trodAll_cons_mk (shut_string Tryd.underlying9 y0) (trodAll_cons_mk (Below.trod laidOut (by kernel_rfl) (of_decide_eq_true (by kernel_rfl)) k1 bel lt1) (trodAll_cons_mk (shut_string Tryd.underlying9 y2) (trodAll_cons_mk (Below.trod laidOut (by kernel_rfl) (of_decide_eq_true (by kernel_rfl)) k3 bel lt3) (trodAll_cons_mk (shut_int Tryd.underlying3 w4) (trodAll_cons_mk (shut_string Tryd.underlying9 y5) (trodAll_cons_mk (shut_int Tryd.underlying3 w6) trodAll_mk0))))))), rfl, bel.frame _, fun h => by cases h⟩
theorem over : Rows.DigestExtensionBindingSaid :=
  OpenClaim.holds_of_wide 8 Tryd.f8 rfl rfl rfl rfl rfl rfl rfl ⟨rfl, rfl, rfl, rfl, rfl⟩ rfl rfl rfl rfl rfl (by kernel_rfl) Tryd.func8 (by kernel_rfl)
    (of_decide_eq_true (by kernel_rfl)) (by unfold Func.isWrapper; first | (rw [if_pos (by decide +kernel)]; kernel_rfl) | (rw [if_neg (by decide +kernel)]; exact ⟨rfl, rfl⟩))
    (fun os started H enc _ => lifted os started H enc)
theorem card : Rows.DigestExtensionBindingCardSaid :=
  Claim7.holds_tied_plain_at .later [] [.data] true (true, Rows.digestExtensionBindingCard.stood.harness.2) false
    over (fun _ h => by cases h) (by kernel_rfl) (fun _ h => by cases h) digestExtensionBinding_row_tie rfl ⟨rfl, rfl⟩ (by kernel_rfl) rfl
    (fun f fn hf hfn => by
      obtain rfl : f = 8 := Option.some.inj ((show Tryd.prog.funcNamed "yardstick/yardsticklaw02.DigestExtensionBinding" = some 8 by kernel_rfl).symm.trans hf) |>.symm
      obtain rfl : fn = Tryd.f8 := (Option.some.inj (Tryd.func8.symm.trans hfn)).symm
      exact ⟨by kernel_rfl, fun j t ht => by
        rw [Tryd.params8] at ht
        have hm : t ∈ [9, 22, 9, 22, 3, 9, 3] := by simpa using Array.mem_of_getElem? ht
        have hall : ([9, 22, 9, 22, 3, 9, 3].all fun u => !Tryd.prog.wantsStandIn u) = true := by kernel_rfl
        exact (show Tryd.prog.wantsStandIn t = false by simpa using List.all_eq_true.1 hall t hm)⟩)
    (by kernel_rfl)
end Go.Proofs.YtabjfogmcehemaaDoor.rowDigestExtensionBinding
namespace Go.Proofs.YtabjfogmcehemaaDoor
/-- The law DigestExtensionBinding, as its card says it. -/
theorem digestExtensionBinding_holds : Rows.DigestExtensionBindingCardSaid := rowDigestExtensionBinding.card
#print axioms digestExtensionBinding_holds
end Go.Proofs.YtabjfogmcehemaaDoor
