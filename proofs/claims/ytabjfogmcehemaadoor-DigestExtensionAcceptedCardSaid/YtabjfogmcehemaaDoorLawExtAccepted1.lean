/- The law DigestExtensionAccepted answers true for every input, the listed table laid: Pd0, Pd5, PureExtAccepted, WalkExtAccepted, RowDigestExtensionAccepted. -/
import Derived.Test.YtabjfogmcehemaaDoorProg
import Derived.Below
import Derived.Deep.Draws
import Derived.Deep.AppendLies
import Derived.Maps.AppendAt
import Derived.OwnWalk
import Derived.Laws.BytesArg
import Derived.Laws.MakeOwn
import Derived.Laws.OwnMore
import Derived.Deep.OwnRows
import Derived.Tactics
import Derived.Lib.ConvBytes
import Derived.Laws.Slices
import Derived.WalkKit
import Derived.KernelRfl
import Derived.RowKit3
import Derived.Deep.LoopGhost
import Derived.Deep.QuietTactic
import Derived.BigQuiet
import Derived.WideLaws
import Derived.Deep.DeepCutAuto
import Derived.Deep.CutBlock
import Derived.Deep.RegionHeld3
import Derived.Laws.Rows
import Derived.Lib.AppendStr
import Derived.ArgAppend
import Derived.Laws.IdiomCopy
import Derived.OrdersHeld
import Derived.Laws.BitsLemmas
import Derived.RowKit
import Derived.Test.YtabjfogmcehemaaDoorBase3
import Derived.Test.YtabjfogmcehemaaDoorBase4
import Derived.Test.YtabjfogmcehemaaDoorWWords
import Derived.Test.YtabjfogmcehemaaDoorWLast
import Derived.Test.YtabjfogmcehemaaDoorWTab
import Derived.Test.YtabjfogmcehemaaDoorWFour
import Derived.Test.YtabjfogmcehemaaDoorWQPut
import Derived.Test.YtabjfogmcehemaaDoorWApart
import Derived.Test.YtabjfogmcehemaaDoorWArr
import Derived.Test.YtabjfogmcehemaaDoorWZeros
import Derived.Test.YtabjfogmcehemaaDoorWFoot
import Derived.Test.YtabjfogmcehemaaDoorWKept
import Derived.Test.YtabjfogmcehemaaDoorWShare
import Derived.Test.YtabjfogmcehemaaDoorWN
import Derived.Test.YtabjfogmcehemaaDoorWFootNe
import Derived.Test.YtabjfogmcehemaaDoorWAt
import Derived.Test.YtabjfogmcehemaaDoorWEqStruct
import Derived.Test.YtabjfogmcehemaaDoorWRepsOne
import Derived.Test.YtabjfogmcehemaaDoorWInv
import Derived.Test.YtabjfogmcehemaaDoorWInvWords
import Derived.Test.YtabjfogmcehemaaDoorWGuard
import Derived.Test.YtabjfogmcehemaaDoorWNEv
import Derived.Test.YtabjfogmcehemaaDoorWMore
import Derived.Test.YtabjfogmcehemaaDoorRows
import Derived.Test.YtabjfogmcehemaaDoorCards
import Derived.Test.YtabjfogmcehemaaDoorTie
import Derived.ProofKit
import Derived.OpenShut
import Derived.ShutString
import Derived.ChangeOld
import Derived.SizedLaws
import Derived.SevenTiedAt
import Derived.LaidMore
import Derived.SliceStrings
import Derived.Lib.SmallJoins

-- Written by a patched scratch copy of the kit's print program (wip/tools of this session's repo), not by print.sh.
namespace Go.Proofs.YtabjfogmcehemaaDoor.Pd
open Go.RowKit Go.Proofs.YtabjfogmcehemaaDoorW.PrintWords Go.Proofs.YtabjfogmcehemaaDoorW.PrintLast Go.Proofs.YtabjfogmcehemaaDoorW.PrintMore
attribute [local go_sem] max2_int min2_int max_two min_two max_three min_three max_four min_four   -- for this text's walks alone
set_option linter.unusedVariables false
set_option linter.unusedSimpArgs false



def errW : Option Int → Value
  | none => .nilIface
  | some c => .iface 0 (.int .i64 c)
theorem errW_none : errW none = .nilIface := rfl
theorem errW_some (c : Int) : errW (some c) = .iface 0 (.int .i64 c) := rfl

theorem info9 : (Tryd.prog.info? 9).map (fun i => (i.zero, i.size, i.bytes)) = some (some (.string ⟨#[]⟩), 1, 16) := by kernel_rfl
-- the values' own types

end Go.Proofs.YtabjfogmcehemaaDoor.Pd

-- Written by a patched scratch copy of the kit's print program (wip/tools of this session's repo), not by print.sh.
namespace Go.Proofs.YtabjfogmcehemaaDoor.Pd
open Go.RowKit Go.Proofs.YtabjfogmcehemaaDoorW.PrintWords Go.Proofs.YtabjfogmcehemaaDoorW.PrintLast Go.Proofs.YtabjfogmcehemaaDoorW.PrintMore
attribute [local go_sem] max2_int min2_int max_two min_two max_three min_three max_four min_four   -- for this text's walks alone
set_option linter.unusedVariables false
set_option linter.unusedSimpArgs false

/-! ### w_DigestExtensionAccepted: function 6 -/
def w_DigestExtensionAccepted.l0 : Nat → List ByteArray → Int → Bool → ByteArray → Int → Option (Bool)
  | 0, _, _, _, _, _ => none
  | k + 1, x0, x1, x5, x6, x7 => if x7 ≤ (x0.length : Int) then ((digest_Extension.f x0 x7).bind fun bt246 => (if bt246.2 = 0 then ((Pa.w_binary.f k (x0.length : Int)).bind fun t250 => (if (bt246.1.length : Int) > (wrap64 (2 * t250)) then (some false) else (if 0 ≤ x7 then ((digest_Root.f (x0.take (x7 : Int).toNat)).bind fun t255 => ((digest_VerifyExtension.f t255 x7 x6 (x0.length : Int) bt246.1).bind fun t256 => (if t256 = true then (w_DigestExtensionAccepted.l0 k x0 x1 x5 x6 (wrap64 (x7 + 1))) else (some false)))) else (none)))) else (some false))) else ((digest_Extension.f x0 x1).bind fun bt240 => (if x1 ≥ 0 then (if x5 = true then (if ((decide (x1 ≤ (x0.length : Int))) == (bt240.2 == 0)) = true then (if x1 ≤ (x0.length : Int) then (some true) else (if bt240.2 = 2 then (if (bt240.1.length : Int) = 0 then ((digest_VerifyExtension.f x6 x1 x6 (x0.length : Int) bt240.1).bind fun t244 => (some (!t244))) else (some false)) else (some false))) else (some false)) else (some false)) else (if x5 = true then (if (false == (bt240.2 == 0)) = true then (if bt240.2 = 2 then (if (bt240.1.length : Int) = 0 then ((digest_VerifyExtension.f x6 x1 x6 (x0.length : Int) bt240.1).bind fun t245 => (some (!t245))) else (some false)) else (some false)) else (some false)) else (some false))))
def w_DigestExtensionAccepted.f (k : Nat) (l0 : List ByteArray) (a1 : Int) : Option (Bool) := (w_sane.f).bind fun t235 => ((Pa.w_few.f k l0 25).bind fun t236 => ((digest_Root.f t236).bind fun t239 => (w_DigestExtensionAccepted.l0 k t236 a1 t235 t239 0)))
theorem w_DigestExtensionAccepted.mono_l : ∀ k, (∀ y0 y1 y2 y3 y4, LeO (w_DigestExtensionAccepted.l0 k y0 y1 y2 y3 y4) (w_DigestExtensionAccepted.l0 (k + 1) y0 y1 y2 y3 y4))
  | 0 => fun _ _ _ _ _ r h => by simp [w_DigestExtensionAccepted.l0] at h
  | k + 1 => by
    have ih0 := w_DigestExtensionAccepted.mono_l k
    · intro y0 y1 y2 y3 y4
      unfold w_DigestExtensionAccepted.l0
      repeat' first
      | (with_reducible exact ih0 _ _ _ _ _)
      | (with_reducible exact Pa.w_binary.mono _ _)
      | (with_reducible exact Pa.w_few.mono _ _ _)
      | (with_reducible exact LeO.refl _)
      | (with_reducible exact LeO.none _)
      | (with_reducible refine LeO.ite ?_ ?_)
      | (with_reducible refine LeO.bind ?_ (fun _ => ?_))
      | exact ih0 _ _ _ _ _
      | exact Pa.w_binary.mono _ _
      | exact Pa.w_few.mono _ _ _
      | exact LeO.none _
      | refine LeO.ite ?_ ?_
      | refine LeO.bind ?_ (fun _ => ?_)
theorem w_DigestExtensionAccepted.mono : ∀ a0 a1 k, LeO (w_DigestExtensionAccepted.f k a0 a1) (w_DigestExtensionAccepted.f (k + 1) a0 a1) := by
  intro a0 a1 k
  have ih0 := w_DigestExtensionAccepted.mono_l k
  unfold w_DigestExtensionAccepted.f
  repeat' first
      | (with_reducible exact ih0 _ _ _ _ _)
      | (with_reducible exact Pa.w_binary.mono _ _)
      | (with_reducible exact Pa.w_few.mono _ _ _)
      | (with_reducible exact LeO.refl _)
      | (with_reducible exact LeO.none _)
      | (with_reducible refine LeO.ite ?_ ?_)
      | (with_reducible refine LeO.bind ?_ (fun _ => ?_))
      | exact ih0 _ _ _ _ _
      | exact Pa.w_binary.mono _ _
      | exact Pa.w_few.mono _ _ _
      | exact LeO.none _
      | refine LeO.ite ?_ ?_
      | refine LeO.bind ?_ (fun _ => ?_)
set_option maxHeartbeats 8000000 in
set_option maxRecDepth 100000 in
theorem w_DigestExtensionAccepted.calls (k : Nat) (A0 : Option Addr) (c0 : Nat) (l0 : List ByteArray) (a1 : Int) (r : Bool) (w : World) (HG : Aside0 (Laid w)) (hr0 : Kd.C Kd.string w A0 l0.length l0) (hc0 : l0.length ≤ c0) (h : w_DigestExtensionAccepted.f k l0 a1 = some r) :
    Calls Tryd.prog 6 #[.slice A0 l0.length c0, .int .i64 a1] w fun e w' => e = .returned (.bool r) ∧ Below w.heap.size w w' := by
  have HR0 := Aside0.mk hr0
  have HC0 := Aside0.mk hc0
  clear hr0 hc0
  have HB := Aside0.mk (Below.refl w.heap.size w)
  have H : ((w_sane.f).bind fun t235 => ((Pa.w_few.f k l0 25).bind fun t236 => ((digest_Root.f t236).bind fun t239 => (w_DigestExtensionAccepted.l0 k t236 a1 t235 t239 0)))) = some r := h
  clear h
  replace H := Option.bind_eq_some_iff.mp H
  obtain ⟨t235, A30, H⟩ := H
  replace H : ((Pa.w_few.f k l0 25).bind fun t236 => ((digest_Root.f t236).bind fun t239 => (w_DigestExtensionAccepted.l0 k t236 a1 t235 t239 0))) = some r := H
  have A3 := Aside0.mk A30
  clear A30
  replace H := Option.bind_eq_some_iff.mp H
  obtain ⟨t236, A40, H⟩ := H
  replace H : ((digest_Root.f t236).bind fun t239 => (w_DigestExtensionAccepted.l0 k t236 a1 t235 t239 0)) = some r := H
  have A4 := Aside0.mk A40
  clear A40
  replace H := Option.bind_eq_some_iff.mp H
  obtain ⟨t239, A50, H⟩ := H
  replace H : (w_DigestExtensionAccepted.l0 k t236 a1 t235 t239 0) = some r := H
  have A5 := Aside0.mk A50
  clear A50
  have H' := Aside0.mk H
  clear H
  go_enter Tryd.func6, Tryd.ntmps6
  go_wp2_with (first | ((with_reducible refine gate_callee (f := 12) rfl ?_); refine goesL_ (some 13) rfl rfl Tryd.func12 (by kernel_rfl) rfl #[] rfl (by (try simp only [List.map_toArray, List.map_cons, List.map_nil]); first | done | rfl | (simp only [List.length_drop, List.length_take]; rfl) | (simp only [ByteArray.size_extract, ByteArray.size_append, Nat.sub_zero]; done) | (simp only [ByteArray.size_extract, ByteArray.size_append, Nat.sub_zero]; (rw [IntWalk.wrap64_in _ (by omega)]) <;> rfl)) ?_; (with_reducible refine (w_sane.calls  t235 _ ?side1 A3.out).mono ?_); (case side1 => exact Aside0.mk (Laid.below HG.out (by repeat (first | (with_reducible first | exact HB.out | apply below_alloc | apply pw_below_drewN | apply below_drew1) | exact HB.out)))); rintro e w6 ⟨rfl, hb⟩; refine ⟨_, rfl, ?_⟩; have n0_ := Aside0.mk (below_step (by repeat (first | (with_reducible first | exact HB.out | apply below_alloc | apply pw_below_drewN | apply below_drew1) | exact HB.out)) hb); clear HB; have HB := n0_; clear n0_; (try clear hb); (try clear hb2); (try clear hk); (try clear hi)) | ((with_reducible refine gate_callee (f := 13) rfl ?_); refine goesL_ (some 15) rfl rfl Tryd.func13 (by kernel_rfl) rfl #[.slice A0 l0.length c0, .int .i64 25] rfl (by (try simp only [List.map_toArray, List.map_cons, List.map_nil]); first | done | rfl | (simp only [List.length_drop, List.length_take]; rfl) | (simp only [ByteArray.size_extract, ByteArray.size_append, Nat.sub_zero]; done) | (simp only [ByteArray.size_extract, ByteArray.size_append, Nat.sub_zero]; (rw [IntWalk.wrap64_in _ (by omega)]) <;> rfl)) ?_; (with_reducible refine (Pa.w_few.calls k _ _ l0 25 t236 _ ?side1 ?side2 A4.out).mono ?_); (case side1 => repeat (first | exact (Kd.C_below HR0.out HB.out) | (with_reducible refine Kd.C_alloc ?_ _) | (with_reducible refine Kd.C_drewN ?_ _) | (with_reducible refine Kd.C_drew ?_))); (case side2 => exact HC0.out); rintro e w7 ⟨v237, rfl, ho0, hb⟩; refine ⟨_, rfl, ?_⟩; have n0_ := Aside0.mk (Kd.R_lower ho0 (below_size (by repeat (first | (with_reducible first | exact HB.out | apply below_alloc | apply pw_below_drewN | apply below_drew1) | exact HB.out)))); have n1_ := Aside0.mk (below_step (by repeat (first | (with_reducible first | exact HB.out | apply below_alloc | apply pw_below_drewN | apply below_drew1) | exact HB.out)) hb); clear HB; have HO238 := n0_; have HB := n1_; clear n0_ n1_; (try clear hb); (try clear hb2); (try clear hk); (try clear hi); (try clear ho0); obtain ⟨Ao8, co8, eo8⟩ := Kd.R_slice HO238.out; subst eo8) | ((with_reducible refine gate_callee (f := 19) rfl ?_); refine goesL_ (some 17) rfl rfl Tryd.func19 (by kernel_rfl) rfl #[.slice Ao8 t236.length co8] rfl (by (try simp only [List.map_toArray, List.map_cons, List.map_nil]); first | done | rfl | (simp only [List.length_drop, List.length_take]; rfl) | (simp only [ByteArray.size_extract, ByteArray.size_append, Nat.sub_zero]; done) | (simp only [ByteArray.size_extract, ByteArray.size_append, Nat.sub_zero]; (rw [IntWalk.wrap64_in _ (by omega)]) <;> rfl)) ?_; (with_reducible refine (digest_Root.calls _ _ t236 t239 _ ?side3 ?side1 ?side2 A5.out).mono ?_); (case side1 => repeat (first | exact (Kd.R_reads' HO238.out).2.2 | (with_reducible refine Kd.C_alloc ?_ _) | (with_reducible refine Kd.C_drewN ?_ _) | (with_reducible refine Kd.C_drew ?_))); (case side2 => exact (Kd.R_reads' HO238.out).2.1); (case side3 => exact Aside0.mk (Laid.below HG.out (by repeat (first | (with_reducible first | exact HB.out | apply below_alloc | apply pw_below_drewN | apply below_drew1) | exact HB.out)))); rintro e w9 ⟨rfl, hb⟩; refine ⟨_, rfl, ?_⟩; have n0_ := Aside0.mk (Kd.R_below (by (with_reducible repeat (first | apply Kd.R_alloc | apply Kd.R_drewN | apply Kd.R_drew)); exact HO238.out) hb); have n1_ := Aside0.mk (below_step (by repeat (first | (with_reducible first | exact HB.out | apply below_alloc | apply pw_below_drewN | apply below_drew1) | exact HB.out)) hb); clear HO238; clear HB; have HO238 := n0_; have HB := n1_; clear n0_ n1_; (try clear hb); (try clear hb2); (try clear hk); (try clear hi)))
  go_loopg [7] k (fun kq v7 w' => ∃ (x7_1 : Int), v7 = .int .i64 x7_1 ∧ Aside0 (w_DigestExtensionAccepted.l0 kq t236 a1 t235 t239 x7_1 = some r) ∧ Aside0 (kq ≤ k) ∧ Aside0 (Kd.R Kd.string 9 w' w.heap.size (fun _ => True) (.slice Ao8 t236.length co8) t236) ∧ Aside0 (Below w.heap.size w w'))
  case atStart => exact ⟨(0), (by first | rfl | (simp; done) | (simp [*]; done)), H', ⟨Nat.le_refl _⟩, ⟨by (with_reducible repeat (first | apply Kd.R_alloc | apply Kd.R_drewN | apply Kd.R_drew)); exact HO238.out⟩, ⟨by repeat (first | (with_reducible first | exact HB.out | apply below_alloc | apply pw_below_drewN | apply below_drew1) | exact HB.out)⟩⟩
  case round =>
    clear H'
    try clear c1
    try clear p2
    try clear c6
    try clear p6
    obtain ⟨x7_1, rfl, HA, HK1, HO_0, HB⟩ := hrel
    cases gk with
    | zero => exact absurd HA.out (by simp [w_DigestExtensionAccepted.l0])
    | succ k1 =>
      have H := HA.out
      clear HA
      simp only [w_DigestExtensionAccepted.l0] at H
      by_cases c10 : x7_1 ≤ (t236.length : Int)
      · rw [if_pos c10] at H
        have c10b0 : decide (x7_1 ≤ (t236.length : Int)) = true := decide_eq_true c10
        clear c10
        replace H := Option.bind_eq_some_iff.mp H
        obtain ⟨⟨t246, t247⟩, A110, H⟩ := H
        replace H : (if t247 = 0 then ((Pa.w_binary.f k1 (t236.length : Int)).bind fun t250 => (if (t246.length : Int) > (wrap64 (2 * t250)) then (some false) else (if 0 ≤ x7_1 then ((digest_Root.f (t236.take (x7_1 : Int).toNat)).bind fun t255 => ((digest_VerifyExtension.f t255 x7_1 t239 (t236.length : Int) t246).bind fun t256 => (if t256 = true then (w_DigestExtensionAccepted.l0 k1 t236 a1 t235 t239 (wrap64 (x7_1 + 1))) else (some false)))) else (none)))) else (some false)) = some r := H
        have A11 := Aside0.mk A110
        clear A110
        by_cases c12 : t247 = 0
        · rw [if_pos c12] at H
          have c12b0 : (t247 == 0) = true := beq_iff_eq.mpr c12
          have c12b1 : (t247 != 0) = false := bne_eq_false_iff_eq.mpr c12
          clear c12
          replace H := Option.bind_eq_some_iff.mp H
          obtain ⟨t250, A130, H⟩ := H
          replace H : (if (t246.length : Int) > (wrap64 (2 * t250)) then (some false) else (if 0 ≤ x7_1 then ((digest_Root.f (t236.take (x7_1 : Int).toNat)).bind fun t255 => ((digest_VerifyExtension.f t255 x7_1 t239 (t236.length : Int) t246).bind fun t256 => (if t256 = true then (w_DigestExtensionAccepted.l0 k1 t236 a1 t235 t239 (wrap64 (x7_1 + 1))) else (some false)))) else (none))) = some r := H
          have A13 := Aside0.mk A130
          clear A130
          by_cases c14 : (t246.length : Int) > (wrap64 (2 * t250))
          · rw [if_pos c14] at H
            have c14b0 : decide ((wrap64 (2 * t250)) < (t246.length : Int)) = true := decide_eq_true c14
            clear c14
            obtain rfl := Option.some.inj H
            go_wp2_with (first | ((with_reducible refine gate_callee (f := 16) rfl ?_); refine goesL_ (some 27) rfl rfl Tryd.func16 (by kernel_rfl) rfl #[.slice Ao8 t236.length co8, .int .i64 x7_1] rfl (by (try simp only [List.map_toArray, List.map_cons, List.map_nil]); first | done | rfl | (simp only [List.length_drop, List.length_take]; rfl) | (simp only [ByteArray.size_extract, ByteArray.size_append, Nat.sub_zero]; done) | (simp only [ByteArray.size_extract, ByteArray.size_append, Nat.sub_zero]; (rw [IntWalk.wrap64_in _ (by omega)]) <;> rfl)) ?_; (with_reducible refine (digest_Extension.calls _ _ t236 x7_1 t246 t247 _ ?side3 ?side1 ?side2 A11.out).mono ?_); (case side1 => repeat (first | exact (Kd.R_reads' HO_0.out).2.2 | (with_reducible refine Kd.C_alloc ?_ _) | (with_reducible refine Kd.C_drewN ?_ _) | (with_reducible refine Kd.C_drew ?_))); (case side2 => exact (Kd.R_reads' HO_0.out).2.1); (case side3 => exact Aside0.mk (Laid.below HG.out (by repeat (first | (with_reducible first | exact HB.out | apply below_alloc | apply pw_below_drewN | apply below_drew1) | exact HB.out)))); rintro e w15 ⟨v248, rfl, ho0, hb⟩; refine ⟨_, rfl, ?_⟩; have n0_ := Aside0.mk (Kd.R_elder' (by (with_reducible repeat (first | apply Kd.R_alloc | apply Kd.R_drewN | apply Kd.R_drew)); exact HO_0.out) (Kd.R_base ho0) hb); have n1_ := Aside0.mk (Kd.R_lower (Kd.R_new' ho0 (Kd.R_lt (by (with_reducible repeat (first | apply Kd.R_alloc | apply Kd.R_drewN | apply Kd.R_drew)); exact HO_0.out))) (below_size (by repeat (first | (with_reducible first | exact HB.out | apply below_alloc | apply pw_below_drewN | apply below_drew1) | exact HB.out)))); have n2_ := Aside0.mk (below_step (by repeat (first | (with_reducible first | exact HB.out | apply below_alloc | apply pw_below_drewN | apply below_drew1) | exact HB.out)) hb); clear HO_0; clear HB; have HO_0 := n0_; have HO249 := n1_; have HB := n2_; clear n0_ n1_ n2_; (try clear hb); (try clear hb2); (try clear hk); (try clear hi); (try clear ho0); obtain ⟨Ao16, co16, eo16⟩ := Kd.R_slice HO249.out; subst eo16) | (go_at_call 25; (with_reducible refine (Pa.w_binary.calls k1 (t236.length : Int) t250 _ A13.out).mono ?_); rintro e w' ⟨rfl, ⟨nd, rfl⟩⟩))
            go_ret
            exact ⟨by first | rfl | (simp [errW_none, errW_some] <;> rfl) | (simp [*, errW_none, errW_some] <;> rfl), by repeat (first | (with_reducible first | exact HB.out | apply below_alloc | apply pw_below_drewN | apply below_drew1) | exact HB.out)⟩
          · rw [if_neg c14] at H
            have c14b0 : decide ((wrap64 (2 * t250)) < (t246.length : Int)) = false := decide_eq_false c14
            clear c14
            by_cases c17 : 0 ≤ x7_1
            · rw [if_pos c17] at H
              have c17b0 := eq_true c17
              have c17b1 : decide (0 ≤ x7_1) = true := decide_eq_true c17
              clear c17
              have c18b0 := eq_true (of_decide_eq_true (by first | (with_reducible assumption) | assumption) : x7_1 ≤ (t236.length : Int))
              obtain ⟨y251, hy251⟩ : ∃ y_ : List ByteArray, y_ = (t236.take (x7_1 : Int).toNat) := ⟨_, rfl⟩
              replace H : ((digest_Root.f y251).bind fun t255 => ((digest_VerifyExtension.f t255 x7_1 t239 (t236.length : Int) t246).bind fun t256 => (if t256 = true then (w_DigestExtensionAccepted.l0 k1 t236 a1 t235 t239 (wrap64 (x7_1 + 1))) else (some false)))) = some r := by first | (rw [hy251]; with_reducible exact H) | (have H2_ := (Option.bind_some _ _).symm.trans H; rw [hy251]; with_reducible exact H2_) | (have H2_ := (Option.bind_some _ _).symm.trans H; with_reducible exact H2_) | with_reducible exact H | (rw [hy251]; exact H) | exact H
              have Ny251 := Aside0.mk hy251
              clear hy251
              replace H := Option.bind_eq_some_iff.mp H
              obtain ⟨t255, A190, H⟩ := H
              replace H : ((digest_VerifyExtension.f t255 x7_1 t239 (t236.length : Int) t246).bind fun t256 => (if t256 = true then (w_DigestExtensionAccepted.l0 k1 t236 a1 t235 t239 (wrap64 (x7_1 + 1))) else (some false))) = some r := H
              have A19 := Aside0.mk A190
              clear A190
              replace H := Option.bind_eq_some_iff.mp H
              obtain ⟨t256, A200, H⟩ := H
              replace H : (if t256 = true then (w_DigestExtensionAccepted.l0 k1 t236 a1 t235 t239 (wrap64 (x7_1 + 1))) else (some false)) = some r := H
              have A20 := Aside0.mk A200
              clear A200
              by_cases c21 : t256 = true
              · subst c21
                have H1 : (w_DigestExtensionAccepted.l0 k1 t236 a1 t235 t239 (wrap64 (x7_1 + 1))) = some r := by rw [if_pos rfl] at H; exact H
                clear H
                have H := H1
                clear H1
                have H' := Aside0.mk H
                clear H
                go_wp2_with (first | ((with_reducible refine gate_callee (f := 16) rfl ?_); refine goesL_ (some 27) rfl rfl Tryd.func16 (by kernel_rfl) rfl #[.slice Ao8 t236.length co8, .int .i64 x7_1] rfl (by (try simp only [List.map_toArray, List.map_cons, List.map_nil]); first | done | rfl | (simp only [List.length_drop, List.length_take]; rfl) | (simp only [ByteArray.size_extract, ByteArray.size_append, Nat.sub_zero]; done) | (simp only [ByteArray.size_extract, ByteArray.size_append, Nat.sub_zero]; (rw [IntWalk.wrap64_in _ (by omega)]) <;> rfl)) ?_; (with_reducible refine (digest_Extension.calls _ _ t236 x7_1 t246 t247 _ ?side3 ?side1 ?side2 A11.out).mono ?_); (case side1 => repeat (first | exact (Kd.R_reads' HO_0.out).2.2 | (with_reducible refine Kd.C_alloc ?_ _) | (with_reducible refine Kd.C_drewN ?_ _) | (with_reducible refine Kd.C_drew ?_))); (case side2 => exact (Kd.R_reads' HO_0.out).2.1); (case side3 => exact Aside0.mk (Laid.below HG.out (by repeat (first | (with_reducible first | exact HB.out | apply below_alloc | apply pw_below_drewN | apply below_drew1) | exact HB.out)))); rintro e w22 ⟨v248, rfl, ho0, hb⟩; refine ⟨_, rfl, ?_⟩; have n0_ := Aside0.mk (Kd.R_elder' (by (with_reducible repeat (first | apply Kd.R_alloc | apply Kd.R_drewN | apply Kd.R_drew)); exact HO_0.out) (Kd.R_base ho0) hb); have n1_ := Aside0.mk (Kd.R_lower (Kd.R_new' ho0 (Kd.R_lt (by (with_reducible repeat (first | apply Kd.R_alloc | apply Kd.R_drewN | apply Kd.R_drew)); exact HO_0.out))) (below_size (by repeat (first | (with_reducible first | exact HB.out | apply below_alloc | apply pw_below_drewN | apply below_drew1) | exact HB.out)))); have n2_ := Aside0.mk (below_step (by repeat (first | (with_reducible first | exact HB.out | apply below_alloc | apply pw_below_drewN | apply below_drew1) | exact HB.out)) hb); clear HO_0; clear HB; have HO_0 := n0_; have HO249 := n1_; have HB := n2_; clear n0_ n1_ n2_; (try clear hb); (try clear hb2); (try clear hk); (try clear hi); (try clear ho0); obtain ⟨Ao23, co23, eo23⟩ := Kd.R_slice HO249.out; subst eo23) | (go_at_call 25; (with_reducible refine (Pa.w_binary.calls k1 (t236.length : Int) t250 _ A13.out).mono ?_); rintro e w' ⟨rfl, ⟨nd, rfl⟩⟩; have q24 : (x7_1 : Int) ≤ ((t236.length : Int) : Int) := of_decide_eq_true (by first | (with_reducible assumption) | assumption); obtain ⟨i024, hi024, _, hsz24, _⟩ := info_parts info9; have hroom24 : t236.length ≤ co8 := (Kd.R_reads' HO_0.out).2.1; have hC24 : Kd.C Kd.string _ Ao8 t236.length t236 := (Kd.R_reads' HO_0.out).2.2; have hcut24 := cut_to (P := Tryd.prog) 22 9 .i64 Tryd.underlying22 hi024 Ao8 t236.length co8 x7_1 (of_decide_eq_true (by first | (with_reducible assumption) | assumption)) q24 hroom24; have hr24 := Kd.C_take (m := (x7_1 : Int).toNat) hC24 (by omega); have hy24 : y251.length = (x7_1 : Int).toNat := (by rw [Ny251.out, List.length_take]; omega); rw [← Ny251.out] at hr24; rw [← hy24] at hcut24; have HR254 := Aside0.mk hr24; have HC254 := Aside0.mk (show y251.length ≤ co8 from by omega); clear hr24 hC24 hroom24 hi024 hsz24; have KY24 := Aside0.mk hy24; clear hy24; have KL24 := Aside0.mk (show (x7_1 : Int).toNat ≤ t236.length from by omega); replace q24 := eq_true q24) | (go_at_call 19; (with_reducible refine (digest_Root.calls _ _ y251 t255 _ ?side3 ?side1 ?side2 A19.out).mono ?_); (case side1 => repeat (first | exact (by repeat (first | (with_reducible exact HR254.out) | (with_reducible refine Kd.C_alloc ?_ _) | (with_reducible refine Kd.C_drewN ?_ _) | (with_reducible refine Kd.C_drew ?_) | exact HR254.out)) | (with_reducible refine Kd.C_alloc ?_ _) | (with_reducible refine Kd.C_drewN ?_ _) | (with_reducible refine Kd.C_drew ?_))); (case side2 => exact HC254.out); (case side3 => exact Aside0.mk (Laid.below HG.out (by repeat (first | (with_reducible first | exact HB.out | apply below_alloc | apply pw_below_drewN | apply below_drew1) | exact HB.out)))); rintro e w25 ⟨rfl, hb⟩; have n0_ := Aside0.mk (Kd.R_below (by (with_reducible repeat (first | apply Kd.R_alloc | apply Kd.R_drewN | apply Kd.R_drew)); exact HO_0.out) hb); have n1_ := Aside0.mk (Kd.R_below (by (with_reducible repeat (first | apply Kd.R_alloc | apply Kd.R_drewN | apply Kd.R_drew)); exact HO249.out) hb); have n2_ := Aside0.mk (Kd.C_below (by repeat (first | (with_reducible exact HR254.out) | (with_reducible refine Kd.C_alloc ?_ _) | (with_reducible refine Kd.C_drewN ?_ _) | (with_reducible refine Kd.C_drew ?_) | exact HR254.out)) hb); have n3_ := Aside0.mk (below_step (by repeat (first | (with_reducible first | exact HB.out | apply below_alloc | apply pw_below_drewN | apply below_drew1) | exact HB.out)) hb); clear HO_0; clear HO249; clear HR254; clear HB; have HO_0 := n0_; have HO249 := n1_; have HR254 := n2_; have HB := n3_; clear n0_ n1_ n2_ n3_; (try clear hb); (try clear hb2); (try clear hk); (try clear hi)) | (go_at_call 23; (with_reducible refine (digest_VerifyExtension.calls t255 x7_1 t239 (t236.length : Int) _ _ t246 true _ ?side3 ?side1 ?side2 A20.out).mono ?_); (case side1 => repeat (first | exact (Kd.R_reads' HO249.out).2.2 | (with_reducible refine Kd.C_alloc ?_ _) | (with_reducible refine Kd.C_drewN ?_ _) | (with_reducible refine Kd.C_drew ?_))); (case side2 => exact (Kd.R_reads' HO249.out).2.1); (case side3 => exact Aside0.mk (Laid.below HG.out (by repeat (first | (with_reducible first | exact HB.out | apply below_alloc | apply pw_below_drewN | apply below_drew1) | exact HB.out)))); rintro e w26 ⟨rfl, hb⟩; have n0_ := Aside0.mk (Kd.R_below (by (with_reducible repeat (first | apply Kd.R_alloc | apply Kd.R_drewN | apply Kd.R_drew)); exact HO_0.out) hb); have n1_ := Aside0.mk (Kd.R_below (by (with_reducible repeat (first | apply Kd.R_alloc | apply Kd.R_drewN | apply Kd.R_drew)); exact HO249.out) hb); have n2_ := Aside0.mk (Kd.C_below (by repeat (first | (with_reducible exact HR254.out) | (with_reducible refine Kd.C_alloc ?_ _) | (with_reducible refine Kd.C_drewN ?_ _) | (with_reducible refine Kd.C_drew ?_) | exact HR254.out)) hb); have n3_ := Aside0.mk (below_step (by repeat (first | (with_reducible first | exact HB.out | apply below_alloc | apply pw_below_drewN | apply below_drew1) | exact HB.out)) hb); clear HO_0; clear HO249; clear HR254; clear HB; have HO_0 := n0_; have HO249 := n1_; have HR254 := n2_; have HB := n3_; clear n0_ n1_ n2_ n3_; (try clear hb); (try clear hb2); (try clear hk); (try clear hi)))
                go_roundg k1
                case measure => have := HK1.out; omega
                case rel => exact ⟨(wrap64 (x7_1 + 1)), (by first | rfl | (simp; done) | (simp [*]; done)), H', ⟨by have := HK1.out; omega⟩, ⟨by (with_reducible repeat (first | apply Kd.R_alloc | apply Kd.R_drewN | apply Kd.R_drew)); exact Kd.R_mono HO_0.out (fun _ hk => trivial)⟩, ⟨by repeat (first | (with_reducible first | exact HB.out | apply below_alloc | apply pw_below_drewN | apply below_drew1) | exact HB.out)⟩⟩
              · replace c21 := Bool.eq_false_iff.mpr c21
                subst c21
                have H1 : (some false) = some r := by rw [if_neg (show ¬ (false = true) by decide)] at H; exact H
                clear H
                have H := H1
                clear H1
                obtain rfl := Option.some.inj H
                go_wp2_with (first | ((with_reducible refine gate_callee (f := 16) rfl ?_); refine goesL_ (some 27) rfl rfl Tryd.func16 (by kernel_rfl) rfl #[.slice Ao8 t236.length co8, .int .i64 x7_1] rfl (by (try simp only [List.map_toArray, List.map_cons, List.map_nil]); first | done | rfl | (simp only [List.length_drop, List.length_take]; rfl) | (simp only [ByteArray.size_extract, ByteArray.size_append, Nat.sub_zero]; done) | (simp only [ByteArray.size_extract, ByteArray.size_append, Nat.sub_zero]; (rw [IntWalk.wrap64_in _ (by omega)]) <;> rfl)) ?_; (with_reducible refine (digest_Extension.calls _ _ t236 x7_1 t246 t247 _ ?side3 ?side1 ?side2 A11.out).mono ?_); (case side1 => repeat (first | exact (Kd.R_reads' HO_0.out).2.2 | (with_reducible refine Kd.C_alloc ?_ _) | (with_reducible refine Kd.C_drewN ?_ _) | (with_reducible refine Kd.C_drew ?_))); (case side2 => exact (Kd.R_reads' HO_0.out).2.1); (case side3 => exact Aside0.mk (Laid.below HG.out (by repeat (first | (with_reducible first | exact HB.out | apply below_alloc | apply pw_below_drewN | apply below_drew1) | exact HB.out)))); rintro e w27 ⟨v248, rfl, ho0, hb⟩; refine ⟨_, rfl, ?_⟩; have n0_ := Aside0.mk (Kd.R_elder' (by (with_reducible repeat (first | apply Kd.R_alloc | apply Kd.R_drewN | apply Kd.R_drew)); exact HO_0.out) (Kd.R_base ho0) hb); have n1_ := Aside0.mk (Kd.R_lower (Kd.R_new' ho0 (Kd.R_lt (by (with_reducible repeat (first | apply Kd.R_alloc | apply Kd.R_drewN | apply Kd.R_drew)); exact HO_0.out))) (below_size (by repeat (first | (with_reducible first | exact HB.out | apply below_alloc | apply pw_below_drewN | apply below_drew1) | exact HB.out)))); have n2_ := Aside0.mk (below_step (by repeat (first | (with_reducible first | exact HB.out | apply below_alloc | apply pw_below_drewN | apply below_drew1) | exact HB.out)) hb); clear HO_0; clear HB; have HO_0 := n0_; have HO249 := n1_; have HB := n2_; clear n0_ n1_ n2_; (try clear hb); (try clear hb2); (try clear hk); (try clear hi); (try clear ho0); obtain ⟨Ao28, co28, eo28⟩ := Kd.R_slice HO249.out; subst eo28) | (go_at_call 25; (with_reducible refine (Pa.w_binary.calls k1 (t236.length : Int) t250 _ A13.out).mono ?_); rintro e w' ⟨rfl, ⟨nd, rfl⟩⟩; have q29 : (x7_1 : Int) ≤ ((t236.length : Int) : Int) := of_decide_eq_true (by first | (with_reducible assumption) | assumption); obtain ⟨i029, hi029, _, hsz29, _⟩ := info_parts info9; have hroom29 : t236.length ≤ co8 := (Kd.R_reads' HO_0.out).2.1; have hC29 : Kd.C Kd.string _ Ao8 t236.length t236 := (Kd.R_reads' HO_0.out).2.2; have hcut29 := cut_to (P := Tryd.prog) 22 9 .i64 Tryd.underlying22 hi029 Ao8 t236.length co8 x7_1 (of_decide_eq_true (by first | (with_reducible assumption) | assumption)) q29 hroom29; have hr29 := Kd.C_take (m := (x7_1 : Int).toNat) hC29 (by omega); have hy29 : y251.length = (x7_1 : Int).toNat := (by rw [Ny251.out, List.length_take]; omega); rw [← Ny251.out] at hr29; rw [← hy29] at hcut29; have HR254 := Aside0.mk hr29; have HC254 := Aside0.mk (show y251.length ≤ co8 from by omega); clear hr29 hC29 hroom29 hi029 hsz29; have KY29 := Aside0.mk hy29; clear hy29; have KL29 := Aside0.mk (show (x7_1 : Int).toNat ≤ t236.length from by omega); replace q29 := eq_true q29) | (go_at_call 19; (with_reducible refine (digest_Root.calls _ _ y251 t255 _ ?side3 ?side1 ?side2 A19.out).mono ?_); (case side1 => repeat (first | exact (by repeat (first | (with_reducible exact HR254.out) | (with_reducible refine Kd.C_alloc ?_ _) | (with_reducible refine Kd.C_drewN ?_ _) | (with_reducible refine Kd.C_drew ?_) | exact HR254.out)) | (with_reducible refine Kd.C_alloc ?_ _) | (with_reducible refine Kd.C_drewN ?_ _) | (with_reducible refine Kd.C_drew ?_))); (case side2 => exact HC254.out); (case side3 => exact Aside0.mk (Laid.below HG.out (by repeat (first | (with_reducible first | exact HB.out | apply below_alloc | apply pw_below_drewN | apply below_drew1) | exact HB.out)))); rintro e w30 ⟨rfl, hb⟩; have n0_ := Aside0.mk (Kd.R_below (by (with_reducible repeat (first | apply Kd.R_alloc | apply Kd.R_drewN | apply Kd.R_drew)); exact HO_0.out) hb); have n1_ := Aside0.mk (Kd.R_below (by (with_reducible repeat (first | apply Kd.R_alloc | apply Kd.R_drewN | apply Kd.R_drew)); exact HO249.out) hb); have n2_ := Aside0.mk (Kd.C_below (by repeat (first | (with_reducible exact HR254.out) | (with_reducible refine Kd.C_alloc ?_ _) | (with_reducible refine Kd.C_drewN ?_ _) | (with_reducible refine Kd.C_drew ?_) | exact HR254.out)) hb); have n3_ := Aside0.mk (below_step (by repeat (first | (with_reducible first | exact HB.out | apply below_alloc | apply pw_below_drewN | apply below_drew1) | exact HB.out)) hb); clear HO_0; clear HO249; clear HR254; clear HB; have HO_0 := n0_; have HO249 := n1_; have HR254 := n2_; have HB := n3_; clear n0_ n1_ n2_ n3_; (try clear hb); (try clear hb2); (try clear hk); (try clear hi)) | (go_at_call 23; (with_reducible refine (digest_VerifyExtension.calls t255 x7_1 t239 (t236.length : Int) _ _ t246 false _ ?side3 ?side1 ?side2 A20.out).mono ?_); (case side1 => repeat (first | exact (Kd.R_reads' HO249.out).2.2 | (with_reducible refine Kd.C_alloc ?_ _) | (with_reducible refine Kd.C_drewN ?_ _) | (with_reducible refine Kd.C_drew ?_))); (case side2 => exact (Kd.R_reads' HO249.out).2.1); (case side3 => exact Aside0.mk (Laid.below HG.out (by repeat (first | (with_reducible first | exact HB.out | apply below_alloc | apply pw_below_drewN | apply below_drew1) | exact HB.out)))); rintro e w31 ⟨rfl, hb⟩; have n0_ := Aside0.mk (Kd.R_below (by (with_reducible repeat (first | apply Kd.R_alloc | apply Kd.R_drewN | apply Kd.R_drew)); exact HO_0.out) hb); have n1_ := Aside0.mk (Kd.R_below (by (with_reducible repeat (first | apply Kd.R_alloc | apply Kd.R_drewN | apply Kd.R_drew)); exact HO249.out) hb); have n2_ := Aside0.mk (Kd.C_below (by repeat (first | (with_reducible exact HR254.out) | (with_reducible refine Kd.C_alloc ?_ _) | (with_reducible refine Kd.C_drewN ?_ _) | (with_reducible refine Kd.C_drew ?_) | exact HR254.out)) hb); have n3_ := Aside0.mk (below_step (by repeat (first | (with_reducible first | exact HB.out | apply below_alloc | apply pw_below_drewN | apply below_drew1) | exact HB.out)) hb); clear HO_0; clear HO249; clear HR254; clear HB; have HO_0 := n0_; have HO249 := n1_; have HR254 := n2_; have HB := n3_; clear n0_ n1_ n2_ n3_; (try clear hb); (try clear hb2); (try clear hk); (try clear hi)))
                go_ret
                exact ⟨by first | rfl | (simp [errW_none, errW_some] <;> rfl) | (simp [*, errW_none, errW_some] <;> rfl), by repeat (first | (with_reducible first | exact HB.out | apply below_alloc | apply pw_below_drewN | apply below_drew1) | exact HB.out)⟩
            · rw [if_neg c17] at H
              exact absurd H (by simp)
        · rw [if_neg c12] at H
          have c12b0 : (t247 == 0) = false := beq_eq_false_iff_ne.mpr c12
          have c12b1 : (t247 != 0) = true := bne_iff_ne.mpr c12
          obtain rfl := Option.some.inj H
          go_wp2_with (first | ((with_reducible refine gate_callee (f := 16) rfl ?_); refine goesL_ (some 27) rfl rfl Tryd.func16 (by kernel_rfl) rfl #[.slice Ao8 t236.length co8, .int .i64 x7_1] rfl (by (try simp only [List.map_toArray, List.map_cons, List.map_nil]); first | done | rfl | (simp only [List.length_drop, List.length_take]; rfl) | (simp only [ByteArray.size_extract, ByteArray.size_append, Nat.sub_zero]; done) | (simp only [ByteArray.size_extract, ByteArray.size_append, Nat.sub_zero]; (rw [IntWalk.wrap64_in _ (by omega)]) <;> rfl)) ?_; (with_reducible refine (digest_Extension.calls _ _ t236 x7_1 t246 t247 _ ?side3 ?side1 ?side2 A11.out).mono ?_); (case side1 => repeat (first | exact (Kd.R_reads' HO_0.out).2.2 | (with_reducible refine Kd.C_alloc ?_ _) | (with_reducible refine Kd.C_drewN ?_ _) | (with_reducible refine Kd.C_drew ?_))); (case side2 => exact (Kd.R_reads' HO_0.out).2.1); (case side3 => exact Aside0.mk (Laid.below HG.out (by repeat (first | (with_reducible first | exact HB.out | apply below_alloc | apply pw_below_drewN | apply below_drew1) | exact HB.out)))); rintro e w32 ⟨v248, rfl, ho0, hb⟩; refine ⟨_, rfl, ?_⟩; have n0_ := Aside0.mk (Kd.R_elder' (by (with_reducible repeat (first | apply Kd.R_alloc | apply Kd.R_drewN | apply Kd.R_drew)); exact HO_0.out) (Kd.R_base ho0) hb); have n1_ := Aside0.mk (Kd.R_lower (Kd.R_new' ho0 (Kd.R_lt (by (with_reducible repeat (first | apply Kd.R_alloc | apply Kd.R_drewN | apply Kd.R_drew)); exact HO_0.out))) (below_size (by repeat (first | (with_reducible first | exact HB.out | apply below_alloc | apply pw_below_drewN | apply below_drew1) | exact HB.out)))); have n2_ := Aside0.mk (below_step (by repeat (first | (with_reducible first | exact HB.out | apply below_alloc | apply pw_below_drewN | apply below_drew1) | exact HB.out)) hb); clear HO_0; clear HB; have HO_0 := n0_; have HO249 := n1_; have HB := n2_; clear n0_ n1_ n2_; (try clear hb); (try clear hb2); (try clear hk); (try clear hi); (try clear ho0)))
          go_ret
          exact ⟨by first | rfl | (simp [errW_none, errW_some] <;> rfl) | (simp [*, errW_none, errW_some] <;> rfl), by repeat (first | (with_reducible first | exact HB.out | apply below_alloc | apply pw_below_drewN | apply below_drew1) | exact HB.out)⟩
      · rw [if_neg c10] at H
        have c10b0 : decide (x7_1 ≤ (t236.length : Int)) = false := decide_eq_false c10
        clear c10
        replace H := Option.bind_eq_some_iff.mp H
        obtain ⟨⟨t240, t241⟩, A330, H⟩ := H
        replace H : (if a1 ≥ 0 then (if t235 = true then (if ((decide (a1 ≤ (t236.length : Int))) == (t241 == 0)) = true then (if a1 ≤ (t236.length : Int) then (some true) else (if t241 = 2 then (if (t240.length : Int) = 0 then ((digest_VerifyExtension.f t239 a1 t239 (t236.length : Int) t240).bind fun t244 => (some (!t244))) else (some false)) else (some false))) else (some false)) else (some false)) else (if t235 = true then (if (false == (t241 == 0)) = true then (if t241 = 2 then (if (t240.length : Int) = 0 then ((digest_VerifyExtension.f t239 a1 t239 (t236.length : Int) t240).bind fun t245 => (some (!t245))) else (some false)) else (some false)) else (some false)) else (some false))) = some r := H
        have A33 := Aside0.mk A330
        clear A330
        by_cases c34 : a1 ≥ 0
        · rw [if_pos c34] at H
          have c34b0 : decide (0 ≤ a1) = true := decide_eq_true c34
          clear c34
          by_cases c35 : t235 = true
          · subst c35
            have H1 : (if ((decide (a1 ≤ (t236.length : Int))) == (t241 == 0)) = true then (if a1 ≤ (t236.length : Int) then (some true) else (if t241 = 2 then (if (t240.length : Int) = 0 then ((digest_VerifyExtension.f t239 a1 t239 (t236.length : Int) t240).bind fun t244 => (some (!t244))) else (some false)) else (some false))) else (some false)) = some r := by rw [if_pos rfl] at H; exact H
            clear H
            have H := H1
            clear H1
            by_cases c36 : ((decide (a1 ≤ (t236.length : Int))) == (t241 == 0)) = true
            · rw [if_pos c36] at H
              have c36b0 : ((decide (a1 ≤ (t236.length : Int))) == (t241 == 0)) = true := c36
              (try (have c36b1 : decide ((decide (a1 ≤ (t236.length : Int))) = (t241 == 0)) = true := by simpa using c36))
              (try (have c36b2 : ((decide (a1 ≤ (t236.length : Int))) == (t241 == 0)) = true := by simpa using c36))
              clear c36
              have hx36 : (t241 == 0) = decide (a1 ≤ (t236.length : Int)) := (eq_of_beq c36b0).symm
              by_cases c37 : a1 ≤ (t236.length : Int)
              · rw [if_pos c37] at H
                have c37b0 : decide (a1 ≤ (t236.length : Int)) = true := decide_eq_true c37
                have hz1 : (t241 == 0) = true := hx36.trans c37b0
                have hz2 : decide (t241 = 0) = true := hz1
                have hz3 : (t241 = 0) = True := eq_true (eq_of_beq hz1)
                clear c37
                obtain rfl := Option.some.inj H
                go_wp2_with (first | ((with_reducible refine gate_callee (f := 16) rfl ?_); refine goesL_ (some 57) rfl rfl Tryd.func16 (by kernel_rfl) rfl #[.slice Ao8 t236.length co8, .int .i64 a1] rfl (by (try simp only [List.map_toArray, List.map_cons, List.map_nil]); first | done | rfl | (simp only [List.length_drop, List.length_take]; rfl) | (simp only [ByteArray.size_extract, ByteArray.size_append, Nat.sub_zero]; done) | (simp only [ByteArray.size_extract, ByteArray.size_append, Nat.sub_zero]; (rw [IntWalk.wrap64_in _ (by omega)]) <;> rfl)) ?_; (with_reducible refine (digest_Extension.calls _ _ t236 a1 t240 t241 _ ?side3 ?side1 ?side2 A33.out).mono ?_); (case side1 => repeat (first | exact (Kd.R_reads' HO_0.out).2.2 | (with_reducible refine Kd.C_alloc ?_ _) | (with_reducible refine Kd.C_drewN ?_ _) | (with_reducible refine Kd.C_drew ?_))); (case side2 => exact (Kd.R_reads' HO_0.out).2.1); (case side3 => exact Aside0.mk (Laid.below HG.out (by repeat (first | (with_reducible first | exact HB.out | apply below_alloc | apply pw_below_drewN | apply below_drew1) | exact HB.out)))); rintro e w38 ⟨v242, rfl, ho0, hb⟩; refine ⟨_, rfl, ?_⟩; have n0_ := Aside0.mk (Kd.R_elder' (by (with_reducible repeat (first | apply Kd.R_alloc | apply Kd.R_drewN | apply Kd.R_drew)); exact HO_0.out) (Kd.R_base ho0) hb); have n1_ := Aside0.mk (Kd.R_lower (Kd.R_new' ho0 (Kd.R_lt (by (with_reducible repeat (first | apply Kd.R_alloc | apply Kd.R_drewN | apply Kd.R_drew)); exact HO_0.out))) (below_size (by repeat (first | (with_reducible first | exact HB.out | apply below_alloc | apply pw_below_drewN | apply below_drew1) | exact HB.out)))); have n2_ := Aside0.mk (below_step (by repeat (first | (with_reducible first | exact HB.out | apply below_alloc | apply pw_below_drewN | apply below_drew1) | exact HB.out)) hb); clear HO_0; clear HB; have HO_0 := n0_; have HO243 := n1_; have HB := n2_; clear n0_ n1_ n2_; (try clear hb); (try clear hb2); (try clear hk); (try clear hi); (try clear ho0)))
                go_ret
                exact ⟨by first | rfl | (simp [errW_none, errW_some] <;> rfl) | (simp [*, errW_none, errW_some] <;> rfl), by repeat (first | (with_reducible first | exact HB.out | apply below_alloc | apply pw_below_drewN | apply below_drew1) | exact HB.out)⟩
              · rw [if_neg c37] at H
                have c37b0 : decide (a1 ≤ (t236.length : Int)) = false := decide_eq_false c37
                have hz1 : (t241 == 0) = false := hx36.trans c37b0
                have hz2 : decide (t241 = 0) = false := hz1
                have hz3 : (t241 = 0) = False := eq_false (ne_of_beq_false hz1)
                clear c37
                by_cases c39 : t241 = 2
                · rw [if_pos c39] at H
                  have c39b0 : (t241 == 2) = true := beq_iff_eq.mpr c39
                  have c39b1 : (t241 != 2) = false := bne_eq_false_iff_eq.mpr c39
                  clear c39
                  by_cases c40 : (t240.length : Int) = 0
                  · rw [if_pos c40] at H
                    have c40b0 : ((t240.length : Int) == 0) = true := beq_iff_eq.mpr c40
                    have c40b1 : ((t240.length : Int) != 0) = false := bne_eq_false_iff_eq.mpr c40
                    clear c40
                    replace H := Option.bind_eq_some_iff.mp H
                    obtain ⟨t244, A410, H⟩ := H
                    replace H : (some (!t244)) = some r := H
                    have A41 := Aside0.mk A410
                    clear A410
                    obtain rfl := Option.some.inj H
                    go_wp2_with (first | ((with_reducible refine gate_callee (f := 16) rfl ?_); refine goesL_ (some 57) rfl rfl Tryd.func16 (by kernel_rfl) rfl #[.slice Ao8 t236.length co8, .int .i64 a1] rfl (by (try simp only [List.map_toArray, List.map_cons, List.map_nil]); first | done | rfl | (simp only [List.length_drop, List.length_take]; rfl) | (simp only [ByteArray.size_extract, ByteArray.size_append, Nat.sub_zero]; done) | (simp only [ByteArray.size_extract, ByteArray.size_append, Nat.sub_zero]; (rw [IntWalk.wrap64_in _ (by omega)]) <;> rfl)) ?_; (with_reducible refine (digest_Extension.calls _ _ t236 a1 t240 t241 _ ?side3 ?side1 ?side2 A33.out).mono ?_); (case side1 => repeat (first | exact (Kd.R_reads' HO_0.out).2.2 | (with_reducible refine Kd.C_alloc ?_ _) | (with_reducible refine Kd.C_drewN ?_ _) | (with_reducible refine Kd.C_drew ?_))); (case side2 => exact (Kd.R_reads' HO_0.out).2.1); (case side3 => exact Aside0.mk (Laid.below HG.out (by repeat (first | (with_reducible first | exact HB.out | apply below_alloc | apply pw_below_drewN | apply below_drew1) | exact HB.out)))); rintro e w42 ⟨v242, rfl, ho0, hb⟩; refine ⟨_, rfl, ?_⟩; have n0_ := Aside0.mk (Kd.R_elder' (by (with_reducible repeat (first | apply Kd.R_alloc | apply Kd.R_drewN | apply Kd.R_drew)); exact HO_0.out) (Kd.R_base ho0) hb); have n1_ := Aside0.mk (Kd.R_lower (Kd.R_new' ho0 (Kd.R_lt (by (with_reducible repeat (first | apply Kd.R_alloc | apply Kd.R_drewN | apply Kd.R_drew)); exact HO_0.out))) (below_size (by repeat (first | (with_reducible first | exact HB.out | apply below_alloc | apply pw_below_drewN | apply below_drew1) | exact HB.out)))); have n2_ := Aside0.mk (below_step (by repeat (first | (with_reducible first | exact HB.out | apply below_alloc | apply pw_below_drewN | apply below_drew1) | exact HB.out)) hb); clear HO_0; clear HB; have HO_0 := n0_; have HO243 := n1_; have HB := n2_; clear n0_ n1_ n2_; (try clear hb); (try clear hb2); (try clear hk); (try clear hi); (try clear ho0); obtain ⟨Ao43, co43, eo43⟩ := Kd.R_slice HO243.out; subst eo43) | (go_at_call 23; (with_reducible refine (digest_VerifyExtension.calls t239 a1 t239 (t236.length : Int) _ _ t240 t244 _ ?side3 ?side1 ?side2 A41.out).mono ?_); (case side1 => repeat (first | exact (Kd.R_reads' HO243.out).2.2 | (with_reducible refine Kd.C_alloc ?_ _) | (with_reducible refine Kd.C_drewN ?_ _) | (with_reducible refine Kd.C_drew ?_))); (case side2 => exact (Kd.R_reads' HO243.out).2.1); (case side3 => exact Aside0.mk (Laid.below HG.out (by repeat (first | (with_reducible first | exact HB.out | apply below_alloc | apply pw_below_drewN | apply below_drew1) | exact HB.out)))); rintro e w44 ⟨rfl, hb⟩; have n0_ := Aside0.mk (Kd.R_below (by (with_reducible repeat (first | apply Kd.R_alloc | apply Kd.R_drewN | apply Kd.R_drew)); exact HO_0.out) hb); have n1_ := Aside0.mk (Kd.R_below (by (with_reducible repeat (first | apply Kd.R_alloc | apply Kd.R_drewN | apply Kd.R_drew)); exact HO243.out) hb); have n2_ := Aside0.mk (below_step (by repeat (first | (with_reducible first | exact HB.out | apply below_alloc | apply pw_below_drewN | apply below_drew1) | exact HB.out)) hb); clear HO_0; clear HO243; clear HB; have HO_0 := n0_; have HO243 := n1_; have HB := n2_; clear n0_ n1_ n2_; (try clear hb); (try clear hb2); (try clear hk); (try clear hi)))
                    go_ret
                    exact ⟨by first | rfl | (simp [errW_none, errW_some] <;> rfl) | (simp [*, errW_none, errW_some] <;> rfl), by repeat (first | (with_reducible first | exact HB.out | apply below_alloc | apply pw_below_drewN | apply below_drew1) | exact HB.out)⟩
                  · rw [if_neg c40] at H
                    have c40b0 : ((t240.length : Int) == 0) = false := beq_eq_false_iff_ne.mpr c40
                    have c40b1 : ((t240.length : Int) != 0) = true := bne_iff_ne.mpr c40
                    have c40b2 : ¬ (t240 = []) := fun h_ => c40 (by rw [h_]; rfl)
                    obtain rfl := Option.some.inj H
                    go_wp2_with (first | ((with_reducible refine gate_callee (f := 16) rfl ?_); refine goesL_ (some 57) rfl rfl Tryd.func16 (by kernel_rfl) rfl #[.slice Ao8 t236.length co8, .int .i64 a1] rfl (by (try simp only [List.map_toArray, List.map_cons, List.map_nil]); first | done | rfl | (simp only [List.length_drop, List.length_take]; rfl) | (simp only [ByteArray.size_extract, ByteArray.size_append, Nat.sub_zero]; done) | (simp only [ByteArray.size_extract, ByteArray.size_append, Nat.sub_zero]; (rw [IntWalk.wrap64_in _ (by omega)]) <;> rfl)) ?_; (with_reducible refine (digest_Extension.calls _ _ t236 a1 t240 t241 _ ?side3 ?side1 ?side2 A33.out).mono ?_); (case side1 => repeat (first | exact (Kd.R_reads' HO_0.out).2.2 | (with_reducible refine Kd.C_alloc ?_ _) | (with_reducible refine Kd.C_drewN ?_ _) | (with_reducible refine Kd.C_drew ?_))); (case side2 => exact (Kd.R_reads' HO_0.out).2.1); (case side3 => exact Aside0.mk (Laid.below HG.out (by repeat (first | (with_reducible first | exact HB.out | apply below_alloc | apply pw_below_drewN | apply below_drew1) | exact HB.out)))); rintro e w45 ⟨v242, rfl, ho0, hb⟩; refine ⟨_, rfl, ?_⟩; have n0_ := Aside0.mk (Kd.R_elder' (by (with_reducible repeat (first | apply Kd.R_alloc | apply Kd.R_drewN | apply Kd.R_drew)); exact HO_0.out) (Kd.R_base ho0) hb); have n1_ := Aside0.mk (Kd.R_lower (Kd.R_new' ho0 (Kd.R_lt (by (with_reducible repeat (first | apply Kd.R_alloc | apply Kd.R_drewN | apply Kd.R_drew)); exact HO_0.out))) (below_size (by repeat (first | (with_reducible first | exact HB.out | apply below_alloc | apply pw_below_drewN | apply below_drew1) | exact HB.out)))); have n2_ := Aside0.mk (below_step (by repeat (first | (with_reducible first | exact HB.out | apply below_alloc | apply pw_below_drewN | apply below_drew1) | exact HB.out)) hb); clear HO_0; clear HB; have HO_0 := n0_; have HO243 := n1_; have HB := n2_; clear n0_ n1_ n2_; (try clear hb); (try clear hb2); (try clear hk); (try clear hi); (try clear ho0); obtain ⟨Ao46, co46, eo46⟩ := Kd.R_slice HO243.out; subst eo46))
                    go_ret
                    exact ⟨by first | rfl | (simp [errW_none, errW_some] <;> rfl) | (simp [*, errW_none, errW_some] <;> rfl), by repeat (first | (with_reducible first | exact HB.out | apply below_alloc | apply pw_below_drewN | apply below_drew1) | exact HB.out)⟩
                · rw [if_neg c39] at H
                  have c39b0 : (t241 == 2) = false := beq_eq_false_iff_ne.mpr c39
                  have c39b1 : (t241 != 2) = true := bne_iff_ne.mpr c39
                  obtain rfl := Option.some.inj H
                  go_wp2_with (first | ((with_reducible refine gate_callee (f := 16) rfl ?_); refine goesL_ (some 57) rfl rfl Tryd.func16 (by kernel_rfl) rfl #[.slice Ao8 t236.length co8, .int .i64 a1] rfl (by (try simp only [List.map_toArray, List.map_cons, List.map_nil]); first | done | rfl | (simp only [List.length_drop, List.length_take]; rfl) | (simp only [ByteArray.size_extract, ByteArray.size_append, Nat.sub_zero]; done) | (simp only [ByteArray.size_extract, ByteArray.size_append, Nat.sub_zero]; (rw [IntWalk.wrap64_in _ (by omega)]) <;> rfl)) ?_; (with_reducible refine (digest_Extension.calls _ _ t236 a1 t240 t241 _ ?side3 ?side1 ?side2 A33.out).mono ?_); (case side1 => repeat (first | exact (Kd.R_reads' HO_0.out).2.2 | (with_reducible refine Kd.C_alloc ?_ _) | (with_reducible refine Kd.C_drewN ?_ _) | (with_reducible refine Kd.C_drew ?_))); (case side2 => exact (Kd.R_reads' HO_0.out).2.1); (case side3 => exact Aside0.mk (Laid.below HG.out (by repeat (first | (with_reducible first | exact HB.out | apply below_alloc | apply pw_below_drewN | apply below_drew1) | exact HB.out)))); rintro e w47 ⟨v242, rfl, ho0, hb⟩; refine ⟨_, rfl, ?_⟩; have n0_ := Aside0.mk (Kd.R_elder' (by (with_reducible repeat (first | apply Kd.R_alloc | apply Kd.R_drewN | apply Kd.R_drew)); exact HO_0.out) (Kd.R_base ho0) hb); have n1_ := Aside0.mk (Kd.R_lower (Kd.R_new' ho0 (Kd.R_lt (by (with_reducible repeat (first | apply Kd.R_alloc | apply Kd.R_drewN | apply Kd.R_drew)); exact HO_0.out))) (below_size (by repeat (first | (with_reducible first | exact HB.out | apply below_alloc | apply pw_below_drewN | apply below_drew1) | exact HB.out)))); have n2_ := Aside0.mk (below_step (by repeat (first | (with_reducible first | exact HB.out | apply below_alloc | apply pw_below_drewN | apply below_drew1) | exact HB.out)) hb); clear HO_0; clear HB; have HO_0 := n0_; have HO243 := n1_; have HB := n2_; clear n0_ n1_ n2_; (try clear hb); (try clear hb2); (try clear hk); (try clear hi); (try clear ho0)))
                  go_ret
                  exact ⟨by first | rfl | (simp [errW_none, errW_some] <;> rfl) | (simp [*, errW_none, errW_some] <;> rfl), by repeat (first | (with_reducible first | exact HB.out | apply below_alloc | apply pw_below_drewN | apply below_drew1) | exact HB.out)⟩
            · rw [if_neg c36] at H
              have c36b0 : ((decide (a1 ≤ (t236.length : Int))) == (t241 == 0)) = false := by simpa using c36
              (try (have c36b1 : decide ((decide (a1 ≤ (t236.length : Int))) = (t241 == 0)) = false := by simpa using c36))
              (try (have c36b2 : ((decide (a1 ≤ (t236.length : Int))) == (t241 == 0)) = false := by simpa using c36))
              (try (have c36b3 : ¬ ((decide (a1 ≤ (t236.length : Int))) = (t241 == 0)) := by simpa using c36))
              clear c36
              obtain rfl := Option.some.inj H
              go_wp2_with (first | ((with_reducible refine gate_callee (f := 16) rfl ?_); refine goesL_ (some 57) rfl rfl Tryd.func16 (by kernel_rfl) rfl #[.slice Ao8 t236.length co8, .int .i64 a1] rfl (by (try simp only [List.map_toArray, List.map_cons, List.map_nil]); first | done | rfl | (simp only [List.length_drop, List.length_take]; rfl) | (simp only [ByteArray.size_extract, ByteArray.size_append, Nat.sub_zero]; done) | (simp only [ByteArray.size_extract, ByteArray.size_append, Nat.sub_zero]; (rw [IntWalk.wrap64_in _ (by omega)]) <;> rfl)) ?_; (with_reducible refine (digest_Extension.calls _ _ t236 a1 t240 t241 _ ?side3 ?side1 ?side2 A33.out).mono ?_); (case side1 => repeat (first | exact (Kd.R_reads' HO_0.out).2.2 | (with_reducible refine Kd.C_alloc ?_ _) | (with_reducible refine Kd.C_drewN ?_ _) | (with_reducible refine Kd.C_drew ?_))); (case side2 => exact (Kd.R_reads' HO_0.out).2.1); (case side3 => exact Aside0.mk (Laid.below HG.out (by repeat (first | (with_reducible first | exact HB.out | apply below_alloc | apply pw_below_drewN | apply below_drew1) | exact HB.out)))); rintro e w48 ⟨v242, rfl, ho0, hb⟩; refine ⟨_, rfl, ?_⟩; have n0_ := Aside0.mk (Kd.R_elder' (by (with_reducible repeat (first | apply Kd.R_alloc | apply Kd.R_drewN | apply Kd.R_drew)); exact HO_0.out) (Kd.R_base ho0) hb); have n1_ := Aside0.mk (Kd.R_lower (Kd.R_new' ho0 (Kd.R_lt (by (with_reducible repeat (first | apply Kd.R_alloc | apply Kd.R_drewN | apply Kd.R_drew)); exact HO_0.out))) (below_size (by repeat (first | (with_reducible first | exact HB.out | apply below_alloc | apply pw_below_drewN | apply below_drew1) | exact HB.out)))); have n2_ := Aside0.mk (below_step (by repeat (first | (with_reducible first | exact HB.out | apply below_alloc | apply pw_below_drewN | apply below_drew1) | exact HB.out)) hb); clear HO_0; clear HB; have HO_0 := n0_; have HO243 := n1_; have HB := n2_; clear n0_ n1_ n2_; (try clear hb); (try clear hb2); (try clear hk); (try clear hi); (try clear ho0)))
              go_ret
              exact ⟨by first | rfl | (simp [errW_none, errW_some] <;> rfl) | (simp [*, errW_none, errW_some] <;> rfl), by repeat (first | (with_reducible first | exact HB.out | apply below_alloc | apply pw_below_drewN | apply below_drew1) | exact HB.out)⟩
          · replace c35 := Bool.eq_false_iff.mpr c35
            subst c35
            have H1 : (some false) = some r := by rw [if_neg (show ¬ (false = true) by decide)] at H; exact H
            clear H
            have H := H1
            clear H1
            obtain rfl := Option.some.inj H
            go_wp2_with (first | ((with_reducible refine gate_callee (f := 16) rfl ?_); refine goesL_ (some 57) rfl rfl Tryd.func16 (by kernel_rfl) rfl #[.slice Ao8 t236.length co8, .int .i64 a1] rfl (by (try simp only [List.map_toArray, List.map_cons, List.map_nil]); first | done | rfl | (simp only [List.length_drop, List.length_take]; rfl) | (simp only [ByteArray.size_extract, ByteArray.size_append, Nat.sub_zero]; done) | (simp only [ByteArray.size_extract, ByteArray.size_append, Nat.sub_zero]; (rw [IntWalk.wrap64_in _ (by omega)]) <;> rfl)) ?_; (with_reducible refine (digest_Extension.calls _ _ t236 a1 t240 t241 _ ?side3 ?side1 ?side2 A33.out).mono ?_); (case side1 => repeat (first | exact (Kd.R_reads' HO_0.out).2.2 | (with_reducible refine Kd.C_alloc ?_ _) | (with_reducible refine Kd.C_drewN ?_ _) | (with_reducible refine Kd.C_drew ?_))); (case side2 => exact (Kd.R_reads' HO_0.out).2.1); (case side3 => exact Aside0.mk (Laid.below HG.out (by repeat (first | (with_reducible first | exact HB.out | apply below_alloc | apply pw_below_drewN | apply below_drew1) | exact HB.out)))); rintro e w49 ⟨v242, rfl, ho0, hb⟩; refine ⟨_, rfl, ?_⟩; have n0_ := Aside0.mk (Kd.R_elder' (by (with_reducible repeat (first | apply Kd.R_alloc | apply Kd.R_drewN | apply Kd.R_drew)); exact HO_0.out) (Kd.R_base ho0) hb); have n1_ := Aside0.mk (Kd.R_lower (Kd.R_new' ho0 (Kd.R_lt (by (with_reducible repeat (first | apply Kd.R_alloc | apply Kd.R_drewN | apply Kd.R_drew)); exact HO_0.out))) (below_size (by repeat (first | (with_reducible first | exact HB.out | apply below_alloc | apply pw_below_drewN | apply below_drew1) | exact HB.out)))); have n2_ := Aside0.mk (below_step (by repeat (first | (with_reducible first | exact HB.out | apply below_alloc | apply pw_below_drewN | apply below_drew1) | exact HB.out)) hb); clear HO_0; clear HB; have HO_0 := n0_; have HO243 := n1_; have HB := n2_; clear n0_ n1_ n2_; (try clear hb); (try clear hb2); (try clear hk); (try clear hi); (try clear ho0)))
            go_ret
            exact ⟨by first | rfl | (simp [errW_none, errW_some] <;> rfl) | (simp [*, errW_none, errW_some] <;> rfl), by repeat (first | (with_reducible first | exact HB.out | apply below_alloc | apply pw_below_drewN | apply below_drew1) | exact HB.out)⟩
        · rw [if_neg c34] at H
          have c34b0 : decide (0 ≤ a1) = false := decide_eq_false c34
          clear c34
          by_cases c50 : t235 = true
          · subst c50
            have H1 : (if (false == (t241 == 0)) = true then (if t241 = 2 then (if (t240.length : Int) = 0 then ((digest_VerifyExtension.f t239 a1 t239 (t236.length : Int) t240).bind fun t245 => (some (!t245))) else (some false)) else (some false)) else (some false)) = some r := by rw [if_pos rfl] at H; exact H
            clear H
            have H := H1
            clear H1
            by_cases c51 : (false == (t241 == 0)) = true
            · rw [if_pos c51] at H
              have c51b0 : (false == (t241 == 0)) = true := c51
              (try (have c51b1 : decide (false = (t241 == 0)) = true := by simpa using c51))
              (try (have c51b2 : (false == (t241 == 0)) = true := by simpa using c51))
              clear c51
              by_cases c52 : t241 = 2
              · rw [if_pos c52] at H
                have c52b0 : (t241 == 2) = true := beq_iff_eq.mpr c52
                have c52b1 : (t241 != 2) = false := bne_eq_false_iff_eq.mpr c52
                clear c52
                by_cases c53 : (t240.length : Int) = 0
                · rw [if_pos c53] at H
                  have c53b0 : ((t240.length : Int) == 0) = true := beq_iff_eq.mpr c53
                  have c53b1 : ((t240.length : Int) != 0) = false := bne_eq_false_iff_eq.mpr c53
                  clear c53
                  replace H := Option.bind_eq_some_iff.mp H
                  obtain ⟨t245, A540, H⟩ := H
                  replace H : (some (!t245)) = some r := H
                  have A54 := Aside0.mk A540
                  clear A540
                  obtain rfl := Option.some.inj H
                  go_wp2_with (first | ((with_reducible refine gate_callee (f := 16) rfl ?_); refine goesL_ (some 57) rfl rfl Tryd.func16 (by kernel_rfl) rfl #[.slice Ao8 t236.length co8, .int .i64 a1] rfl (by (try simp only [List.map_toArray, List.map_cons, List.map_nil]); first | done | rfl | (simp only [List.length_drop, List.length_take]; rfl) | (simp only [ByteArray.size_extract, ByteArray.size_append, Nat.sub_zero]; done) | (simp only [ByteArray.size_extract, ByteArray.size_append, Nat.sub_zero]; (rw [IntWalk.wrap64_in _ (by omega)]) <;> rfl)) ?_; (with_reducible refine (digest_Extension.calls _ _ t236 a1 t240 t241 _ ?side3 ?side1 ?side2 A33.out).mono ?_); (case side1 => repeat (first | exact (Kd.R_reads' HO_0.out).2.2 | (with_reducible refine Kd.C_alloc ?_ _) | (with_reducible refine Kd.C_drewN ?_ _) | (with_reducible refine Kd.C_drew ?_))); (case side2 => exact (Kd.R_reads' HO_0.out).2.1); (case side3 => exact Aside0.mk (Laid.below HG.out (by repeat (first | (with_reducible first | exact HB.out | apply below_alloc | apply pw_below_drewN | apply below_drew1) | exact HB.out)))); rintro e w55 ⟨v242, rfl, ho0, hb⟩; refine ⟨_, rfl, ?_⟩; have n0_ := Aside0.mk (Kd.R_elder' (by (with_reducible repeat (first | apply Kd.R_alloc | apply Kd.R_drewN | apply Kd.R_drew)); exact HO_0.out) (Kd.R_base ho0) hb); have n1_ := Aside0.mk (Kd.R_lower (Kd.R_new' ho0 (Kd.R_lt (by (with_reducible repeat (first | apply Kd.R_alloc | apply Kd.R_drewN | apply Kd.R_drew)); exact HO_0.out))) (below_size (by repeat (first | (with_reducible first | exact HB.out | apply below_alloc | apply pw_below_drewN | apply below_drew1) | exact HB.out)))); have n2_ := Aside0.mk (below_step (by repeat (first | (with_reducible first | exact HB.out | apply below_alloc | apply pw_below_drewN | apply below_drew1) | exact HB.out)) hb); clear HO_0; clear HB; have HO_0 := n0_; have HO243 := n1_; have HB := n2_; clear n0_ n1_ n2_; (try clear hb); (try clear hb2); (try clear hk); (try clear hi); (try clear ho0); obtain ⟨Ao56, co56, eo56⟩ := Kd.R_slice HO243.out; subst eo56) | (go_at_call 23; (with_reducible refine (digest_VerifyExtension.calls t239 a1 t239 (t236.length : Int) _ _ t240 t245 _ ?side3 ?side1 ?side2 A54.out).mono ?_); (case side1 => repeat (first | exact (Kd.R_reads' HO243.out).2.2 | (with_reducible refine Kd.C_alloc ?_ _) | (with_reducible refine Kd.C_drewN ?_ _) | (with_reducible refine Kd.C_drew ?_))); (case side2 => exact (Kd.R_reads' HO243.out).2.1); (case side3 => exact Aside0.mk (Laid.below HG.out (by repeat (first | (with_reducible first | exact HB.out | apply below_alloc | apply pw_below_drewN | apply below_drew1) | exact HB.out)))); rintro e w57 ⟨rfl, hb⟩; have n0_ := Aside0.mk (Kd.R_below (by (with_reducible repeat (first | apply Kd.R_alloc | apply Kd.R_drewN | apply Kd.R_drew)); exact HO_0.out) hb); have n1_ := Aside0.mk (Kd.R_below (by (with_reducible repeat (first | apply Kd.R_alloc | apply Kd.R_drewN | apply Kd.R_drew)); exact HO243.out) hb); have n2_ := Aside0.mk (below_step (by repeat (first | (with_reducible first | exact HB.out | apply below_alloc | apply pw_below_drewN | apply below_drew1) | exact HB.out)) hb); clear HO_0; clear HO243; clear HB; have HO_0 := n0_; have HO243 := n1_; have HB := n2_; clear n0_ n1_ n2_; (try clear hb); (try clear hb2); (try clear hk); (try clear hi)))
                  go_ret
                  exact ⟨by first | rfl | (simp [errW_none, errW_some] <;> rfl) | (simp [*, errW_none, errW_some] <;> rfl), by repeat (first | (with_reducible first | exact HB.out | apply below_alloc | apply pw_below_drewN | apply below_drew1) | exact HB.out)⟩
                · rw [if_neg c53] at H
                  have c53b0 : ((t240.length : Int) == 0) = false := beq_eq_false_iff_ne.mpr c53
                  have c53b1 : ((t240.length : Int) != 0) = true := bne_iff_ne.mpr c53
                  have c53b2 : ¬ (t240 = []) := fun h_ => c53 (by rw [h_]; rfl)
                  obtain rfl := Option.some.inj H
                  go_wp2_with (first | ((with_reducible refine gate_callee (f := 16) rfl ?_); refine goesL_ (some 57) rfl rfl Tryd.func16 (by kernel_rfl) rfl #[.slice Ao8 t236.length co8, .int .i64 a1] rfl (by (try simp only [List.map_toArray, List.map_cons, List.map_nil]); first | done | rfl | (simp only [List.length_drop, List.length_take]; rfl) | (simp only [ByteArray.size_extract, ByteArray.size_append, Nat.sub_zero]; done) | (simp only [ByteArray.size_extract, ByteArray.size_append, Nat.sub_zero]; (rw [IntWalk.wrap64_in _ (by omega)]) <;> rfl)) ?_; (with_reducible refine (digest_Extension.calls _ _ t236 a1 t240 t241 _ ?side3 ?side1 ?side2 A33.out).mono ?_); (case side1 => repeat (first | exact (Kd.R_reads' HO_0.out).2.2 | (with_reducible refine Kd.C_alloc ?_ _) | (with_reducible refine Kd.C_drewN ?_ _) | (with_reducible refine Kd.C_drew ?_))); (case side2 => exact (Kd.R_reads' HO_0.out).2.1); (case side3 => exact Aside0.mk (Laid.below HG.out (by repeat (first | (with_reducible first | exact HB.out | apply below_alloc | apply pw_below_drewN | apply below_drew1) | exact HB.out)))); rintro e w58 ⟨v242, rfl, ho0, hb⟩; refine ⟨_, rfl, ?_⟩; have n0_ := Aside0.mk (Kd.R_elder' (by (with_reducible repeat (first | apply Kd.R_alloc | apply Kd.R_drewN | apply Kd.R_drew)); exact HO_0.out) (Kd.R_base ho0) hb); have n1_ := Aside0.mk (Kd.R_lower (Kd.R_new' ho0 (Kd.R_lt (by (with_reducible repeat (first | apply Kd.R_alloc | apply Kd.R_drewN | apply Kd.R_drew)); exact HO_0.out))) (below_size (by repeat (first | (with_reducible first | exact HB.out | apply below_alloc | apply pw_below_drewN | apply below_drew1) | exact HB.out)))); have n2_ := Aside0.mk (below_step (by repeat (first | (with_reducible first | exact HB.out | apply below_alloc | apply pw_below_drewN | apply below_drew1) | exact HB.out)) hb); clear HO_0; clear HB; have HO_0 := n0_; have HO243 := n1_; have HB := n2_; clear n0_ n1_ n2_; (try clear hb); (try clear hb2); (try clear hk); (try clear hi); (try clear ho0); obtain ⟨Ao59, co59, eo59⟩ := Kd.R_slice HO243.out; subst eo59))
                  go_ret
                  exact ⟨by first | rfl | (simp [errW_none, errW_some] <;> rfl) | (simp [*, errW_none, errW_some] <;> rfl), by repeat (first | (with_reducible first | exact HB.out | apply below_alloc | apply pw_below_drewN | apply below_drew1) | exact HB.out)⟩
              · rw [if_neg c52] at H
                have c52b0 : (t241 == 2) = false := beq_eq_false_iff_ne.mpr c52
                have c52b1 : (t241 != 2) = true := bne_iff_ne.mpr c52
                obtain rfl := Option.some.inj H
                go_wp2_with (first | ((with_reducible refine gate_callee (f := 16) rfl ?_); refine goesL_ (some 57) rfl rfl Tryd.func16 (by kernel_rfl) rfl #[.slice Ao8 t236.length co8, .int .i64 a1] rfl (by (try simp only [List.map_toArray, List.map_cons, List.map_nil]); first | done | rfl | (simp only [List.length_drop, List.length_take]; rfl) | (simp only [ByteArray.size_extract, ByteArray.size_append, Nat.sub_zero]; done) | (simp only [ByteArray.size_extract, ByteArray.size_append, Nat.sub_zero]; (rw [IntWalk.wrap64_in _ (by omega)]) <;> rfl)) ?_; (with_reducible refine (digest_Extension.calls _ _ t236 a1 t240 t241 _ ?side3 ?side1 ?side2 A33.out).mono ?_); (case side1 => repeat (first | exact (Kd.R_reads' HO_0.out).2.2 | (with_reducible refine Kd.C_alloc ?_ _) | (with_reducible refine Kd.C_drewN ?_ _) | (with_reducible refine Kd.C_drew ?_))); (case side2 => exact (Kd.R_reads' HO_0.out).2.1); (case side3 => exact Aside0.mk (Laid.below HG.out (by repeat (first | (with_reducible first | exact HB.out | apply below_alloc | apply pw_below_drewN | apply below_drew1) | exact HB.out)))); rintro e w60 ⟨v242, rfl, ho0, hb⟩; refine ⟨_, rfl, ?_⟩; have n0_ := Aside0.mk (Kd.R_elder' (by (with_reducible repeat (first | apply Kd.R_alloc | apply Kd.R_drewN | apply Kd.R_drew)); exact HO_0.out) (Kd.R_base ho0) hb); have n1_ := Aside0.mk (Kd.R_lower (Kd.R_new' ho0 (Kd.R_lt (by (with_reducible repeat (first | apply Kd.R_alloc | apply Kd.R_drewN | apply Kd.R_drew)); exact HO_0.out))) (below_size (by repeat (first | (with_reducible first | exact HB.out | apply below_alloc | apply pw_below_drewN | apply below_drew1) | exact HB.out)))); have n2_ := Aside0.mk (below_step (by repeat (first | (with_reducible first | exact HB.out | apply below_alloc | apply pw_below_drewN | apply below_drew1) | exact HB.out)) hb); clear HO_0; clear HB; have HO_0 := n0_; have HO243 := n1_; have HB := n2_; clear n0_ n1_ n2_; (try clear hb); (try clear hb2); (try clear hk); (try clear hi); (try clear ho0)))
                go_ret
                exact ⟨by first | rfl | (simp [errW_none, errW_some] <;> rfl) | (simp [*, errW_none, errW_some] <;> rfl), by repeat (first | (with_reducible first | exact HB.out | apply below_alloc | apply pw_below_drewN | apply below_drew1) | exact HB.out)⟩
            · rw [if_neg c51] at H
              have c51b0 : (false == (t241 == 0)) = false := by simpa using c51
              (try (have c51b1 : decide (false = (t241 == 0)) = false := by simpa using c51))
              (try (have c51b2 : (false == (t241 == 0)) = false := by simpa using c51))
              (try (have c51b3 : ¬ (false = (t241 == 0)) := by simpa using c51))
              clear c51
              obtain rfl := Option.some.inj H
              go_wp2_with (first | ((with_reducible refine gate_callee (f := 16) rfl ?_); refine goesL_ (some 57) rfl rfl Tryd.func16 (by kernel_rfl) rfl #[.slice Ao8 t236.length co8, .int .i64 a1] rfl (by (try simp only [List.map_toArray, List.map_cons, List.map_nil]); first | done | rfl | (simp only [List.length_drop, List.length_take]; rfl) | (simp only [ByteArray.size_extract, ByteArray.size_append, Nat.sub_zero]; done) | (simp only [ByteArray.size_extract, ByteArray.size_append, Nat.sub_zero]; (rw [IntWalk.wrap64_in _ (by omega)]) <;> rfl)) ?_; (with_reducible refine (digest_Extension.calls _ _ t236 a1 t240 t241 _ ?side3 ?side1 ?side2 A33.out).mono ?_); (case side1 => repeat (first | exact (Kd.R_reads' HO_0.out).2.2 | (with_reducible refine Kd.C_alloc ?_ _) | (with_reducible refine Kd.C_drewN ?_ _) | (with_reducible refine Kd.C_drew ?_))); (case side2 => exact (Kd.R_reads' HO_0.out).2.1); (case side3 => exact Aside0.mk (Laid.below HG.out (by repeat (first | (with_reducible first | exact HB.out | apply below_alloc | apply pw_below_drewN | apply below_drew1) | exact HB.out)))); rintro e w61 ⟨v242, rfl, ho0, hb⟩; refine ⟨_, rfl, ?_⟩; have n0_ := Aside0.mk (Kd.R_elder' (by (with_reducible repeat (first | apply Kd.R_alloc | apply Kd.R_drewN | apply Kd.R_drew)); exact HO_0.out) (Kd.R_base ho0) hb); have n1_ := Aside0.mk (Kd.R_lower (Kd.R_new' ho0 (Kd.R_lt (by (with_reducible repeat (first | apply Kd.R_alloc | apply Kd.R_drewN | apply Kd.R_drew)); exact HO_0.out))) (below_size (by repeat (first | (with_reducible first | exact HB.out | apply below_alloc | apply pw_below_drewN | apply below_drew1) | exact HB.out)))); have n2_ := Aside0.mk (below_step (by repeat (first | (with_reducible first | exact HB.out | apply below_alloc | apply pw_below_drewN | apply below_drew1) | exact HB.out)) hb); clear HO_0; clear HB; have HO_0 := n0_; have HO243 := n1_; have HB := n2_; clear n0_ n1_ n2_; (try clear hb); (try clear hb2); (try clear hk); (try clear hi); (try clear ho0)))
              go_ret
              exact ⟨by first | rfl | (simp [errW_none, errW_some] <;> rfl) | (simp [*, errW_none, errW_some] <;> rfl), by repeat (first | (with_reducible first | exact HB.out | apply below_alloc | apply pw_below_drewN | apply below_drew1) | exact HB.out)⟩
          · replace c50 := Bool.eq_false_iff.mpr c50
            subst c50
            have H1 : (some false) = some r := by rw [if_neg (show ¬ (false = true) by decide)] at H; exact H
            clear H
            have H := H1
            clear H1
            obtain rfl := Option.some.inj H
            go_wp2_with (first | ((with_reducible refine gate_callee (f := 16) rfl ?_); refine goesL_ (some 57) rfl rfl Tryd.func16 (by kernel_rfl) rfl #[.slice Ao8 t236.length co8, .int .i64 a1] rfl (by (try simp only [List.map_toArray, List.map_cons, List.map_nil]); first | done | rfl | (simp only [List.length_drop, List.length_take]; rfl) | (simp only [ByteArray.size_extract, ByteArray.size_append, Nat.sub_zero]; done) | (simp only [ByteArray.size_extract, ByteArray.size_append, Nat.sub_zero]; (rw [IntWalk.wrap64_in _ (by omega)]) <;> rfl)) ?_; (with_reducible refine (digest_Extension.calls _ _ t236 a1 t240 t241 _ ?side3 ?side1 ?side2 A33.out).mono ?_); (case side1 => repeat (first | exact (Kd.R_reads' HO_0.out).2.2 | (with_reducible refine Kd.C_alloc ?_ _) | (with_reducible refine Kd.C_drewN ?_ _) | (with_reducible refine Kd.C_drew ?_))); (case side2 => exact (Kd.R_reads' HO_0.out).2.1); (case side3 => exact Aside0.mk (Laid.below HG.out (by repeat (first | (with_reducible first | exact HB.out | apply below_alloc | apply pw_below_drewN | apply below_drew1) | exact HB.out)))); rintro e w62 ⟨v242, rfl, ho0, hb⟩; refine ⟨_, rfl, ?_⟩; have n0_ := Aside0.mk (Kd.R_elder' (by (with_reducible repeat (first | apply Kd.R_alloc | apply Kd.R_drewN | apply Kd.R_drew)); exact HO_0.out) (Kd.R_base ho0) hb); have n1_ := Aside0.mk (Kd.R_lower (Kd.R_new' ho0 (Kd.R_lt (by (with_reducible repeat (first | apply Kd.R_alloc | apply Kd.R_drewN | apply Kd.R_drew)); exact HO_0.out))) (below_size (by repeat (first | (with_reducible first | exact HB.out | apply below_alloc | apply pw_below_drewN | apply below_drew1) | exact HB.out)))); have n2_ := Aside0.mk (below_step (by repeat (first | (with_reducible first | exact HB.out | apply below_alloc | apply pw_below_drewN | apply below_drew1) | exact HB.out)) hb); clear HO_0; clear HB; have HO_0 := n0_; have HO243 := n1_; have HB := n2_; clear n0_ n1_ n2_; (try clear hb); (try clear hb2); (try clear hk); (try clear hi); (try clear ho0)))
            go_ret
            exact ⟨by first | rfl | (simp [errW_none, errW_some] <;> rfl) | (simp [*, errW_none, errW_some] <;> rfl), by repeat (first | (with_reducible first | exact HB.out | apply below_alloc | apply pw_below_drewN | apply below_drew1) | exact HB.out)⟩

end Go.Proofs.YtabjfogmcehemaaDoor.Pd

/- The law DigestExtensionAccepted, over plain lists. -/
namespace Go.Proofs.YtabjfogmcehemaaDoor.Pure
open Go.RowKit Tree Go.Proofs.YtabjfogmcehemaaDoorW.PrintWords Go.Proofs.YtabjfogmcehemaaDoorW.PrintLast Go.Proofs.YtabjfogmcehemaaDoorW.PrintMore
set_option linter.unusedVariables false
set_option linter.unusedSimpArgs false
theorem binary_l0 : ∀ (d f n c : Nat), n < 2 ^ d → d ≤ 62 → c + d ≤ 1000 → d < f → ∃ b, Pa.w_binary.l0 f (n : Int) (c : Int) = some ((c + b : Nat) : Int) ∧ n < 2 ^ b ∧ b ≤ d := by
  intro d
  induction d with
  | zero =>
    intro f n c hn _ hc hf
    obtain ⟨f, rfl⟩ : ∃ g, f = g + 1 := ⟨f - 1, by omega⟩
    rw [Nat.pow_zero] at hn
    refine ⟨0, ?_, by rw [Nat.pow_zero]; exact hn, Nat.le_refl _⟩
    simp only [Pa.w_binary.l0]
    rw [if_neg (by omega)]
    rfl
  | succ d ih =>
    intro f n c hn hd hc hf
    obtain ⟨f, rfl⟩ : ∃ g, f = g + 1 := ⟨f - 1, by omega⟩
    simp only [Pa.w_binary.l0]
    by_cases h0 : n = 0
    · subst h0
      rw [if_neg (by omega)]
      exact ⟨0, rfl, by rw [Nat.pow_zero]; decide, Nat.zero_le _⟩
    · have hp : 2 ^ (d + 1) = 2 * 2 ^ d := by rw [Nat.pow_succ]; omega
      have hb : 2 ^ (d + 1) ≤ 2 ^ 62 := Nat.pow_le_pow_right (by decide) hd
      have hb2 : (2 : Nat) ^ 62 = 4611686018427387904 := by decide
      have ht : Int.tdiv (n : Int) 2 = ((n / 2 : Nat) : Int) := rfl
      rw [if_pos (by omega), ht, wsm _ (by omega) (by omega), wsm _ (by omega) (by omega)]
      obtain ⟨b, h1, h2, h3⟩ := ih f (n / 2) (c + 1) (by omega) (by omega) (by omega) (by omega)
      refine ⟨b + 1, ?_, ?_, by omega⟩
      · rw [show ((c : Int) + 1) = ((c + 1 : Nat) : Int) by omega, h1]
        congr 2
        omega
      · rw [Nat.pow_succ]; omega
theorem binary_f (n : Nat) (hn : n ≤ 1000) (f : Nat) (hf : 20 ≤ f) : ∃ b : Nat, Pa.w_binary.f f (n : Int) = some (b : Int) ∧ n < 2 ^ b ∧ b ≤ 10 := by
  obtain ⟨b, h1, h2, h3⟩ := binary_l0 10 f n 0 (by omega) (by omega) (by omega) (by omega)
  refine ⟨b, ?_, h2, h3⟩
  rw [Nat.zero_add, Int.natCast_zero] at h1
  exact h1
theorem Extension_out (l : List ByteArray) (m : Int) (hm : ¬ (0 ≤ m ∧ m ≤ (l.length : Int))) (h : l.length ≤ 1000) (hs : ∀ x ∈ l, x.size ≤ 1000) : digest_Extension.f l m = some ([], 2) := by
  unfold digest_Extension.f
  rw [if_pos (fits_of l (by omega) hs), if_neg hm]
theorem vexR_out (a b : ByteArray) (m n : Int) (p : List ByteArray) (hm : ¬ (0 ≤ m ∧ m ≤ n)) : vexR a m b n p = false := by
  unfold vexR
  by_cases h0 : 0 ≤ m
  · rw [decide_eq_true h0, decide_eq_false (by omega : ¬ m ≤ n)]; rfl
  · rw [decide_eq_false h0]; rfl
theorem accept_in (l : List ByteArray) (m : Nat) (hl : l.length ≤ 1000) (hs : ∀ x ∈ l, x.size ≤ 1000) (i f : Nat) (hi : i = l.length + 1) (hm : m ≤ l.length) : Pd.w_DigestExtensionAccepted.l0 (f + 1) l (m : Int) true (rootS l) (i : Int) = some true := by
  generalize hr : rootS l = r
  simp only [Pd.w_DigestExtensionAccepted.l0]
  rw [if_neg (by omega), Extension_f l m hm hl hs]
  simp only [Option.bind_some]
  rw [if_pos (by omega), decide_eq_true (by omega : (m : Int) ≤ (l.length : Int))]
  have e1 : (true == ((0 : Int) == 0)) = true := by decide
  simp only [e1]
  rw [if_pos trivial, if_pos trivial, if_pos (by omega)]
theorem accept_out (l : List ByteArray) (a1 : Int) (hl : l.length ≤ 1000) (hs : ∀ x ∈ l, x.size ≤ 1000) (i f : Nat) (hi : i = l.length + 1) (hm : ¬ (0 ≤ a1 ∧ a1 ≤ (l.length : Int))) : Pd.w_DigestExtensionAccepted.l0 (f + 1) l a1 true (rootS l) (i : Int) = some true := by
  have hv := VerifyExtension_f (rootS l) a1 (rootS l) (l.length : Int) [] (by omega) (by simp)
  rw [vexR_out _ _ _ _ _ hm] at hv
  generalize rootS l = r at *
  simp only [Pd.w_DigestExtensionAccepted.l0]
  rw [if_neg (by omega), Extension_out l a1 hm hl hs]
  simp only [Option.bind_some]
  have e1 : (false == ((2 : Int) == 0)) = true := by decide
  have e2 : (([] : List ByteArray).length : Int) = 0 := by simp
  by_cases h0 : a1 ≥ 0
  · rw [if_pos h0, decide_eq_false (by omega : ¬ a1 ≤ (l.length : Int))]
    simp only [e1, e2, hv, Option.bind_some, Bool.not_false]
    rw [if_pos trivial, if_pos trivial, if_neg (by omega), if_pos trivial, if_pos trivial]
  · rw [if_neg h0]
    simp only [e1, e2, hv, Option.bind_some, Bool.not_false]
    rw [if_pos trivial, if_pos trivial, if_pos trivial, if_pos trivial]
theorem accept_step (l : List ByteArray) (a1 : Int) (hl : l.length ≤ 1000) (hs : ∀ x ∈ l, x.size ≤ 1000) (i f : Nat) (hf : 30 ≤ f) (hi : i ≤ l.length) (hn : Pd.w_DigestExtensionAccepted.l0 f l a1 true (rootS l) ((i + 1 : Nat) : Int) = some true) :
    Pd.w_DigestExtensionAccepted.l0 (f + 1) l a1 true (rootS l) (i : Int) = some true := by
  have hv := vexR_ext l i hi
  have hR := Root_f (l.take i) (by rw [List.length_take]; omega) (fun x hx => hs x (List.mem_of_mem_take hx))
  generalize rootS l = r at *
  generalize rootS (l.take i) = q at *
  simp only [Pd.w_DigestExtensionAccepted.l0]
  obtain ⟨b, hb, hb2, hb3⟩ := binary_f l.length hl f (by omega)
  have hlen := extL_len l i b (by omega) hb2
  rw [if_pos (by omega), Extension_f l i (by omega) hl hs]
  simp only [Option.bind_some]
  rw [if_pos trivial, hb, Option.bind_some]
  rw [wsm (2 * (b : Int)) (by omega) (by omega), if_neg (by omega), if_pos (by omega), Int.toNat_natCast, hR]
  simp only [Option.bind_some]
  rw [VerifyExtension_f _ _ _ _ _ (by omega) (by omega), hv]
  simp only [Option.bind_some]
  rw [if_pos trivial, wsm _ (by omega) (by omega), show (i : Int) + 1 = ((i + 1 : Nat) : Int) by omega]
  exact hn
theorem accept_l0 (l : List ByteArray) (a1 : Int) (hl : l.length ≤ 1000) (hs : ∀ x ∈ l, x.size ≤ 1000) : ∀ (d f i : Nat), i + d = l.length + 1 → d + 30 < f → Pd.w_DigestExtensionAccepted.l0 f l a1 true (rootS l) (i : Int) = some true := by
  intro d
  induction d with
  | zero =>
    intro f i hi hf
    obtain ⟨f, rfl⟩ : ∃ g, f = g + 1 := ⟨f - 1, by omega⟩
    by_cases hm : 0 ≤ a1 ∧ a1 ≤ (l.length : Int)
    · obtain ⟨m, rfl⟩ : ∃ m : Nat, a1 = m := ⟨a1.toNat, by omega⟩
      exact accept_in l m hl hs i f (by omega) (by omega)
    · exact accept_out l a1 hl hs i f (by omega) hm
  | succ d ih =>
    intro f i hi hf
    obtain ⟨f, rfl⟩ : ∃ g, f = g + 1 := ⟨f - 1, by omega⟩
    exact accept_step l a1 hl hs i f (by omega) (by omega) (ih f (i + 1) (by omega) (by omega))
theorem DigestExtensionAccepted (l0 : List ByteArray) (a1 : Int) (hl : l0.length ≤ 9223372036854775807) : ∃ k, Pd.w_DigestExtensionAccepted.f k l0 a1 = some true := by
  obtain ⟨F, hF⟩ : ∃ F : Nat, F = 3000 := ⟨_, rfl⟩
  refine ⟨F, ?_⟩
  unfold Pd.w_DigestExtensionAccepted.f w_sane.f
  have hf := few_f l0 hl 25 (by omega) F (by omega)
  rw [show ((25 : Nat) : Int) = 25 from rfl] at hf
  have hlen := fewL_len 25 l0
  have hsz := fewL_size 25 l0
  rw [hf]
  generalize fewL 25 l0 = l at *
  have hs : ∀ x ∈ l, x.size ≤ 1000 := fun x hx => by have := hsz x hx; omega
  simp only [Option.bind_some]
  rw [Root_f l (by omega) hs]
  simp only [Option.bind_some]
  have h := accept_l0 l a1 (by omega) hs (l.length + 1) F 0 (by omega) (by omega)
  rw [Int.natCast_zero] at h
  exact h
end Go.Proofs.YtabjfogmcehemaaDoor.Pure

/- The walk of DigestExtensionAccepted: the call answers true. -/
namespace Go.Proofs.YtabjfogmcehemaaDoor
open Go Go.RowKit Go.Proofs.YtabjfogmcehemaaDoorW.PrintWords
set_option linter.unusedVariables false
theorem walkExtAccepted (a0 : Option Addr) (len0 cap0 : Nat) (z0 : List ByteArray) (a1 : Int) (w : World) (HG : Aside0 (Laid w)) (w0 : StrsAt w a0 len0 cap0 z0) (w1 : (Lit.int .i64 a1).wf = true) :
    Calls Tryd.prog 6 #[.slice a0 len0 cap0, .int .i64 a1] w fun e w' => e = .returned (.bool true) ∧ Below w.heap.size w w' := by
  obtain ⟨l0, rfl, hr0, hm0, hw0, hc0⟩ := w0.reads
  unfold maxLen at hm0
  obtain ⟨k, h⟩ := Pure.DigestExtensionAccepted l0 a1 (by omega)
  exact Pd.w_DigestExtensionAccepted.calls k a0 cap0 l0 a1 true w HG hr0 hc0 h
end Go.Proofs.YtabjfogmcehemaaDoor

/- The law DigestExtensionAccepted answers true for every input: the row, and its card, the listed package-level variables tied to the program's text. -/
namespace Go.Proofs.YtabjfogmcehemaaDoor.rowDigestExtensionAccepted
open Go Go.ChangeShapes Go.WideShapes Go.ChangeAt Go.RowKit
open Go.ChangeMaps (open_string shut_string)
set_option linter.unusedVariables false
set_option linter.unusedSimpArgs false
set_option maxRecDepth 100000 in
theorem lifted (os : Os) (started : os.Started) (H : Type) (enc : TypeId × Value → H) :
    ReturnsInHanded {} Tryd.checked os 6 .any (fun w args => (Rows.digestExtensionAcceptedSpec.pre enc Tryd.prog Tryd.f6 [] false w args ∧ laidMetH Tryd.prog laidL w) ∧ sizedMet enc Tryd.prog Tryd.f6 (OpenSpec.ofChange Rows.digestExtensionAcceptedSpec) false w args)
      (Rows.digestExtensionAcceptedSpec.post enc Tryd.prog Tryd.f6 false true false false) := by
  refine returnsInHanded_of_change_and (C := Tryd.checked) (X := fun w _ => laidMetH Tryd.prog laidL w) (fun _ _ _ hh h => h.of_heap hh) own started (by kernel_rfl) Tryd.func6
    (ChangeSpec.witness_shaped (enc := enc) (C := Tryd.checked) (os := os) (X := fun w _ => laidMetH Tryd.prog laidL w) false (World.doorLaid Tryd.prog doorSteps os) #[.slice none 0 0, .int .i64 0] 8 rfl (World.shaped_of_RefB (by kernel_rfl) (by kernel_rfl)) (by kernel_rfl) (by kernel_rfl) (by kernel_rfl) (door_met os _)) ?_
  intro W base args ds gs before hval0 hW hcnd hsz0 hL _
  have hsz : (DataW.weightsEach Tryd.prog (Tryd.f6.params.toList ++ Rows.digestExtensionAcceptedSpec.plain.varTypes Tryd.prog) (ds ++ gs)).all (· ≤ reachBytes) = true := hsz0
  have hval : ∀ (j : Nat) t v, Tryd.f6.params[j]? = some t → args[j]? = some v → Value.okWide Tryd.prog W .any base t v := hval0
  have hW' := hW
  obtain ⟨p, q, hA0, hV, rfl, hfz, hnd⟩ := hW
  have hA : DataW.TrodAll enc Tryd.prog W 0 (fun _ => true) true Tryd.f6.params.toList args.toList ds p := hA0
  rw [Tryd.params6] at hA hval hsz
  obtain ⟨v0, vs0, d0, ds0, p0, q0, hargs, rfl, rfl, h0, r0⟩ := trodAll_cons hA
  obtain ⟨v1, vs1, d1, ds1, p1, q1, rfl, rfl, rfl, h1, r1⟩ := trodAll_cons r0
  obtain ⟨rfl, rfl, rfl⟩ := trodAll_nil r1
  obtain rfl : args = #[v0, v1] := by cases args; simp_all
  obtain ⟨rfl, rfl⟩ := trodVars_none hV
  obtain ⟨a0, len0, cap0, rfl⟩ := okWide_slice Tryd.underlying22 (hval 0 22 v0 rfl rfl)
  have k0 := h0
  have lt0 : ∀ x ∈ p0, x.block < W.heap.size := by obtain ⟨m, hm⟩ := k0; exact DataW.trod_lt m _ _ _ hm
  obtain ⟨z0, w0⟩ : ∃ zs, StrsAt W a0 len0 cap0 zs := by
    obtain ⟨fuel, hf⟩ := h0
    rcases open_strings Tryd.underlying22 Tryd.underlying9 (by kernel_rfl) hf with ⟨hcs, _⟩ | ⟨x, l, c, zs, hcs, _, hl, hm, hz, _, hcell, hwz⟩
    · simp [Value.cells] at hcs
      obtain ⟨rfl, rfl, rfl⟩ := hcs
      exact ⟨[], .inl ⟨rfl, rfl, rfl, rfl⟩⟩
    · simp [Value.cells] at hcs
      obtain ⟨rfl, rfl, rfl⟩ := hcs
      exact ⟨zs, .inr ⟨_, rfl, hl, hm, by simpa using hz, hcell, hwz⟩⟩
  obtain ⟨a1, rfl, rfl, rfl, w1⟩ := open_int Tryd.underlying3 (hval 1 3 v1 rfl rfl) h1
  have HG := of_laid hL
  clear hA0 hval0 hsz0
  refine (walkExtAccepted a0 len0 cap0 z0 a1 W HG w0 w1).mono fun e W' ⟨he, bel⟩ => ?_
  subst he
  exact ⟨_, rfl, _, _, _, [], _, [], hW', trodAll_mk1 (shut_bool Tryd.underlying4 _), (trodAll_cons_mk (Below.trod laidOut (by kernel_rfl) (of_decide_eq_true (by kernel_rfl)) k0 bel lt0) (trodAll_cons_mk (shut_int Tryd.underlying3 w1) trodAll_mk0)), rfl, bel.frame _, fun h => by cases h⟩
theorem over : Rows.DigestExtensionAcceptedSaid :=
  OpenClaim.holds_of_wide 6 Tryd.f6 rfl rfl rfl rfl rfl rfl rfl ⟨rfl, rfl, rfl, rfl, rfl⟩ rfl rfl rfl rfl rfl (by kernel_rfl) Tryd.func6 (by kernel_rfl)
    (of_decide_eq_true (by kernel_rfl)) (by unfold Func.isWrapper; first | (rw [if_pos (by decide +kernel)]; kernel_rfl) | (rw [if_neg (by decide +kernel)]; exact ⟨rfl, rfl⟩))
    (fun os started H enc _ => lifted os started H enc)
theorem card : Rows.DigestExtensionAcceptedCardSaid :=
  Claim7.holds_tied_plain_at .later [] [.data] true (true, Rows.digestExtensionAcceptedCard.stood.harness.2) false
    over (fun _ h => by cases h) (by kernel_rfl) (fun _ h => by cases h) digestExtensionAccepted_row_tie rfl ⟨rfl, rfl⟩ (by kernel_rfl) rfl
    (fun f fn hf hfn => by
      obtain rfl : f = 6 := Option.some.inj ((show Tryd.prog.funcNamed "yardstick/yardsticklaw02.DigestExtensionAccepted" = some 6 by kernel_rfl).symm.trans hf) |>.symm
      obtain rfl : fn = Tryd.f6 := (Option.some.inj (Tryd.func6.symm.trans hfn)).symm
      exact ⟨by kernel_rfl, fun j t ht => by
        rw [Tryd.params6] at ht
        have hm : t ∈ [22, 3] := by simpa using Array.mem_of_getElem? ht
        have hall : ([22, 3].all fun u => !Tryd.prog.wantsStandIn u) = true := by kernel_rfl
        exact (show Tryd.prog.wantsStandIn t = false by simpa using List.all_eq_true.1 hall t hm)⟩)
    (by kernel_rfl)
end Go.Proofs.YtabjfogmcehemaaDoor.rowDigestExtensionAccepted
namespace Go.Proofs.YtabjfogmcehemaaDoor
/-- The law DigestExtensionAccepted, as its card says it. -/
theorem digestExtensionAccepted_holds : Rows.DigestExtensionAcceptedCardSaid := rowDigestExtensionAccepted.card
#print axioms digestExtensionAccepted_holds
end Go.Proofs.YtabjfogmcehemaaDoor
