-- Written by a patched scratch copy of the kit's print program (wip/tools of this session's repo), not by print.sh.
import Derived.Test.YtffalfonmooinaaDoorPr0
import Derived.Test.YtffalfonmooinaaDoorPr1
namespace Go.Proofs.YtffalfonmooinaaDoor.Pr
open Go.RowKit Go.Proofs.YtffalfonmooinaaDoorW.PrintWords Go.Proofs.YtffalfonmooinaaDoorW.PrintLast Go.Proofs.YtffalfonmooinaaDoorW.PrintMore
attribute [local go_sem] max2_int min2_int max_two min_two max_three min_three max_four min_four   -- for this text's walks alone
set_option linter.unusedVariables false
set_option linter.unusedSimpArgs false

/-! ### yardsticklaw01_WireUnique: function 5 -/
mutual
def yardsticklaw01_WireUnique.l0 : Nat → Bool → ByteArray → List Int → Int → Int → Option (Bool)
  | 0, _, _, _, _, _ => none
  | k + 1, x7, x8, x36, x37, x38 => if x38 < x37 then (if 0 ≤ x38 then (if x38 < (x36.length : Int) then ((Pa.wire_Int.f k x8 (rd x36 x38)).bind fun bt167 => ((wire_PutInt.f bt167.1).bind fun bt170 => (if bt167.2.2 = 0 then (if bt170.2 = 0 then (if bt167.2.1 < (rd x36 x38) then (yardsticklaw01_WireUnique.j1 k x7 x8 (rd x36 x38) x36 x37 x38 true) else (if bt167.2.1 > (x8.size : Int) then (yardsticklaw01_WireUnique.j1 k x7 x8 (rd x36 x38) x36 x37 x38 true) else (if 0 ≤ (rd x36 x38) then (if (rd x36 x38) ≤ bt167.2.1 then (if bt167.2.1 ≤ (x8.size : Int) then (if (x8.extract ((rd x36 x38) : Int).toNat (bt167.2.1 : Int).toNat).toList = bt170.1.toList then (yardsticklaw01_WireUnique.j1 k x7 x8 (rd x36 x38) x36 x37 x38 false) else (yardsticklaw01_WireUnique.j1 k x7 x8 (rd x36 x38) x36 x37 x38 true)) else (none)) else (none)) else (none)))) else (yardsticklaw01_WireUnique.j1 k x7 x8 (rd x36 x38) x36 x37 x38 true)) else (if bt167.2.2 = 10 then (if bt167.1 = 0 then (yardsticklaw01_WireUnique.j1 k x7 x8 (rd x36 x38) x36 x37 x38 (bt167.2.1 != 0)) else (yardsticklaw01_WireUnique.j1 k x7 x8 (rd x36 x38) x36 x37 x38 true)) else (yardsticklaw01_WireUnique.j1 k x7 x8 (rd x36 x38) x36 x37 x38 true))))) else (none)) else (none)) else (some x7)
def yardsticklaw01_WireUnique.j1 : Nat → Bool → ByteArray → Int → List Int → Int → Int → Bool → Option (Bool)
  | 0, _, _, _, _, _, _, _ => none
  | k + 1, x7, x8, x10, x36, x37, x38, x94 => if x94 = true then (some false) else ((Pa.wire_String.f k x8 x10).bind fun bt172 => ((Pa.wire_PutString.f bt172.1).bind fun bt175 => (if bt172.2.2 = 0 then (if bt175.2 = 0 then (if bt172.2.1 < x10 then (some false) else (if bt172.2.1 > (x8.size : Int) then (some false) else (if 0 ≤ x10 then (if x10 ≤ bt172.2.1 then (if bt172.2.1 ≤ (x8.size : Int) then (if (x8.extract (x10 : Int).toNat (bt172.2.1 : Int).toNat).toList = bt175.1.toList then (yardsticklaw01_WireUnique.l0 k x7 x8 x36 x37 (wrap64 (x38 + 1))) else (some false)) else (none)) else (none)) else (none)))) else (some false)) else (if bt172.2.2 = 10 then (if bt172.1.toList = ([] : List UInt8) then (if bt172.2.1 = 0 then (yardsticklaw01_WireUnique.l0 k x7 x8 x36 x37 (wrap64 (x38 + 1))) else (some false)) else (some false)) else (some false)))))
end
def yardsticklaw01_WireUnique.f (k : Nat) (a0 : ByteArray) (a1 : Int) (a2 : Int) : Option (Bool) := (sane.f).bind fun t158 => ((some (([a2] : List Int) : List Int)).bind fun y159 => (if 0 ≤ (mn (a0.size : Int) 300) then (if (mn (a0.size : Int) 300) ≤ (a0.size : Int) then (if (strOfNums y159).size + (a0.extract 0 ((mn (a0.size : Int) 300) : Int).toNat).size ≤ 9223372036854775807 then ((yardsticklaw01_pick.f a1 (wrap64 ((((strOfNums y159) ++ (a0.extract 0 ((mn (a0.size : Int) 300) : Int).toNat)).size : Int) + 1))).bind fun t162 => ((some (([0, t162] : List Int) : List Int)).bind fun y163 => (yardsticklaw01_WireUnique.l0 k t158 ((strOfNums y159) ++ (a0.extract 0 ((mn (a0.size : Int) 300) : Int).toNat)) y163 (y163.length : Int) 0))) else (none)) else (none)) else (none)))
theorem yardsticklaw01_WireUnique.mono_l : ∀ k, (∀ y0 y1 y2 y3 y4, LeO (yardsticklaw01_WireUnique.l0 k y0 y1 y2 y3 y4) (yardsticklaw01_WireUnique.l0 (k + 1) y0 y1 y2 y3 y4)) ∧ (∀ y0 y1 y2 y3 y4 y5 y6, LeO (yardsticklaw01_WireUnique.j1 k y0 y1 y2 y3 y4 y5 y6) (yardsticklaw01_WireUnique.j1 (k + 1) y0 y1 y2 y3 y4 y5 y6))
  | 0 => ⟨fun _ _ _ _ _ r h => by simp [yardsticklaw01_WireUnique.l0] at h, fun _ _ _ _ _ _ _ r h => by simp [yardsticklaw01_WireUnique.j1] at h⟩
  | k + 1 => by
    obtain ⟨ih0, ih1⟩ := yardsticklaw01_WireUnique.mono_l k
    refine ⟨?_, ?_⟩
    · intro y0 y1 y2 y3 y4
      unfold yardsticklaw01_WireUnique.l0
      repeat' first
      | (with_reducible exact ih0 _ _ _ _ _)
      | (with_reducible exact ih1 _ _ _ _ _ _ _)
      | (with_reducible exact Pa.wire_Int.mono _ _ _)
      | (with_reducible exact Pa.wire_String.mono _ _ _)
      | (with_reducible exact LeO.refl _)
      | (with_reducible exact LeO.none _)
      | (with_reducible refine LeO.ite ?_ ?_)
      | (with_reducible refine LeO.bind ?_ (fun _ => ?_))
      | exact ih0 _ _ _ _ _
      | exact ih1 _ _ _ _ _ _ _
      | exact Pa.wire_Int.mono _ _ _
      | exact Pa.wire_String.mono _ _ _
      | exact LeO.none _
      | refine LeO.ite ?_ ?_
      | refine LeO.bind ?_ (fun _ => ?_)
    · intro y0 y1 y2 y3 y4 y5 y6
      unfold yardsticklaw01_WireUnique.j1
      repeat' first
      | (with_reducible exact ih0 _ _ _ _ _)
      | (with_reducible exact ih1 _ _ _ _ _ _ _)
      | (with_reducible exact Pa.wire_Int.mono _ _ _)
      | (with_reducible exact Pa.wire_String.mono _ _ _)
      | (with_reducible exact LeO.refl _)
      | (with_reducible exact LeO.none _)
      | (with_reducible refine LeO.ite ?_ ?_)
      | (with_reducible refine LeO.bind ?_ (fun _ => ?_))
      | exact ih0 _ _ _ _ _
      | exact ih1 _ _ _ _ _ _ _
      | exact Pa.wire_Int.mono _ _ _
      | exact Pa.wire_String.mono _ _ _
      | exact LeO.none _
      | refine LeO.ite ?_ ?_
      | refine LeO.bind ?_ (fun _ => ?_)
theorem yardsticklaw01_WireUnique.mono : ∀ a0 a1 a2 k, LeO (yardsticklaw01_WireUnique.f k a0 a1 a2) (yardsticklaw01_WireUnique.f (k + 1) a0 a1 a2) := by
  intro a0 a1 a2 k
  obtain ⟨ih0, ih1⟩ := yardsticklaw01_WireUnique.mono_l k
  unfold yardsticklaw01_WireUnique.f
  repeat' first
      | (with_reducible exact ih0 _ _ _ _ _)
      | (with_reducible exact ih1 _ _ _ _ _ _ _)
      | (with_reducible exact Pa.wire_Int.mono _ _ _)
      | (with_reducible exact Pa.wire_String.mono _ _ _)
      | (with_reducible exact LeO.refl _)
      | (with_reducible exact LeO.none _)
      | (with_reducible refine LeO.ite ?_ ?_)
      | (with_reducible refine LeO.bind ?_ (fun _ => ?_))
      | exact ih0 _ _ _ _ _
      | exact ih1 _ _ _ _ _ _ _
      | exact Pa.wire_Int.mono _ _ _
      | exact Pa.wire_String.mono _ _ _
      | exact LeO.none _
      | refine LeO.ite ?_ ?_
      | refine LeO.bind ?_ (fun _ => ?_)
def yardsticklaw01_WireUnique.T2 : Bool × List (List Nat × List Nat) := (true, [([], []), ([0], [0]), ([1], [1]), ([], []), ([], []), ([4], [4]), ([5], [5]), ([3, 6], [3, 6]), ([2, 7], [2, 7]), ([8, 0, 1, 2, 3, 4, 5, 6, 7, 8], [8])])
def yardsticklaw01_WireUnique.B2 : List Nat := [0, 1, 3, 0, 0, 16, 48, 120, 255, 511]
theorem yardsticklaw01_WireUnique.tab2 : rtab .any (opsOf Tryd.f5 2) = yardsticklaw01_WireUnique.T2 := by kernel_rfl
theorem yardsticklaw01_WireUnique.bits2 : waitsOk yardsticklaw01_WireUnique.T2.2 yardsticklaw01_WireUnique.B2 = true := by kernel_rfl
set_option maxHeartbeats 8000000 in
set_option maxRecDepth 100000 in
theorem yardsticklaw01_WireUnique.calls (k : Nat) (a0 : ByteArray) (a1 : Int) (a2 : Int) (r : Bool) (w : World) (HG : Aside0 (Laid w)) (h : yardsticklaw01_WireUnique.f k a0 a1 a2 = some r) :
    Calls Tryd.prog 5 #[.string a0, .int .i64 a1, .int .u8 a2] w fun e w' => e = .returned (.bool r) ∧ Below w.heap.size w w' := by
  have HB := Aside0.mk (Below.refl w.heap.size w)
  have H : ((sane.f).bind fun t158 => ((some (([a2] : List Int) : List Int)).bind fun y159 => (if 0 ≤ (mn (a0.size : Int) 300) then (if (mn (a0.size : Int) 300) ≤ (a0.size : Int) then (if (strOfNums y159).size + (a0.extract 0 ((mn (a0.size : Int) 300) : Int).toNat).size ≤ 9223372036854775807 then ((yardsticklaw01_pick.f a1 (wrap64 ((((strOfNums y159) ++ (a0.extract 0 ((mn (a0.size : Int) 300) : Int).toNat)).size : Int) + 1))).bind fun t162 => ((some (([0, t162] : List Int) : List Int)).bind fun y163 => (yardsticklaw01_WireUnique.l0 k t158 ((strOfNums y159) ++ (a0.extract 0 ((mn (a0.size : Int) 300) : Int).toNat)) y163 (y163.length : Int) 0))) else (none)) else (none)) else (none)))) = some r := h
  clear h
  replace H := Option.bind_eq_some_iff.mp H
  obtain ⟨t158, A40, H⟩ := H
  replace H : ((some (([a2] : List Int) : List Int)).bind fun y159 => (if 0 ≤ (mn (a0.size : Int) 300) then (if (mn (a0.size : Int) 300) ≤ (a0.size : Int) then (if (strOfNums y159).size + (a0.extract 0 ((mn (a0.size : Int) 300) : Int).toNat).size ≤ 9223372036854775807 then ((yardsticklaw01_pick.f a1 (wrap64 ((((strOfNums y159) ++ (a0.extract 0 ((mn (a0.size : Int) 300) : Int).toNat)).size : Int) + 1))).bind fun t162 => ((some (([0, t162] : List Int) : List Int)).bind fun y163 => (yardsticklaw01_WireUnique.l0 k t158 ((strOfNums y159) ++ (a0.extract 0 ((mn (a0.size : Int) 300) : Int).toNat)) y163 (y163.length : Int) 0))) else (none)) else (none)) else (none))) = some r := H
  have A4 := Aside0.mk A40
  clear A40
  obtain ⟨y159, hy159⟩ : ∃ y_ : List Int, y_ = (([a2] : List Int)) := ⟨_, rfl⟩
  replace H : (if 0 ≤ (mn (a0.size : Int) 300) then (if (mn (a0.size : Int) 300) ≤ (a0.size : Int) then (if (strOfNums y159).size + (a0.extract 0 ((mn (a0.size : Int) 300) : Int).toNat).size ≤ 9223372036854775807 then ((yardsticklaw01_pick.f a1 (wrap64 ((((strOfNums y159) ++ (a0.extract 0 ((mn (a0.size : Int) 300) : Int).toNat)).size : Int) + 1))).bind fun t162 => ((some (([0, t162] : List Int) : List Int)).bind fun y163 => (yardsticklaw01_WireUnique.l0 k t158 ((strOfNums y159) ++ (a0.extract 0 ((mn (a0.size : Int) 300) : Int).toNat)) y163 (y163.length : Int) 0))) else (none)) else (none)) else (none)) = some r := by first | (rw [hy159]; with_reducible exact H) | (have H2_ := (Option.bind_some _ _).symm.trans H; rw [hy159]; with_reducible exact H2_) | (have H2_ := (Option.bind_some _ _).symm.trans H; with_reducible exact H2_) | with_reducible exact H | (rw [hy159]; exact H) | exact H
  have Ny159 := Aside0.mk hy159
  clear hy159
  obtain ⟨ji5, hji5⟩ : ∃ j_ : Int, (mn (a0.size : Int) 300) = j_ := ⟨_, rfl⟩
  replace H : (if 0 ≤ (ji5) then (if (ji5) ≤ (a0.size : Int) then (if (strOfNums y159).size + (a0.extract 0 ((ji5) : Int).toNat).size ≤ 9223372036854775807 then ((yardsticklaw01_pick.f a1 (wrap64 ((((strOfNums y159) ++ (a0.extract 0 ((ji5) : Int).toNat)).size : Int) + 1))).bind fun t162 => ((some (([0, t162] : List Int) : List Int)).bind fun y163 => (yardsticklaw01_WireUnique.l0 k t158 ((strOfNums y159) ++ (a0.extract 0 ((ji5) : Int).toNat)) y163 (y163.length : Int) 0))) else (none)) else (none)) else (none)) = some r := by first | (rw [hji5] at H; exact H) | (simp only [hji5] at H ⊢; exact H)
  (try rw [hji5] at A4)
  (try (have hji5h : ji5 ≤ 300 := by (rw [← hji5]; unfold mn; (repeat' split) <;> omega)))
  (try (have hji5g : ji5 ≤ 64 := by omega))
  (try (have hji5l : 0 ≤ ji5 := by (rw [← hji5]; unfold mn; (repeat' split) <;> omega)))
  (try (have hji5m : 0 ≤ ji5 := by omega))
  have hji5_ : (if 300 < (a0.size : Int) then 300 else (a0.size : Int)) = ji5 := hji5
  (try (have hji5n := hji5_; simp only [Int.ofNat_lt] at hji5n))
  by_cases c6 : 0 ≤ (ji5)
  · rw [if_pos c6] at H
    have c6b0 := eq_true c6
    have c6b1 : decide (0 ≤ (ji5)) = true := decide_eq_true c6
    clear c6
    by_cases c7 : (ji5) ≤ (a0.size : Int)
    · rw [if_pos c7] at H
      have c7b0 := eq_true c7
      have c7b1 : decide ((ji5) ≤ (a0.size : Int)) = true := decide_eq_true c7
      clear c7
      by_cases c8 : (strOfNums y159).size + (a0.extract 0 ((ji5) : Int).toNat).size ≤ 9223372036854775807
      · rw [if_pos c8] at H
        have c8b0 := eq_true c8
        have c8b1 : decide ((strOfNums y159).size + (a0.extract 0 ((ji5) : Int).toNat).size ≤ 9223372036854775807) = true := decide_eq_true c8
        try have c8b2 : (9223372036854775807 < (strOfNums y159).size + (a0.extract 0 ((ji5) : Int).toNat).size) = False := eq_false (Nat.not_lt.2 c8)
        try have c8b3 : (9223372036854775807 < (strOfNums y159).size + (ji5).toNat) = False := by (have q0_ : (a0.extract 0 ((ji5) : Int).toNat).size = (ji5).toNat := (by rw [ByteArray.size_extract]; have e_ := of_eq_true (show ((ji5) ≤ (a0.size : Int)) = True by assumption); omega); have z_ := c8; rw [q0_] at z_; exact eq_false (Nat.not_lt.2 z_))
        obtain ⟨tt_, htt_⟩ : ∃ z_, ((strOfNums y159) ++ (a0.extract 0 ((ji5) : Int).toNat)) = z_ := ⟨_, rfl⟩
        rw [htt_] at H
        replace H := Option.bind_eq_some_iff.mp H
        obtain ⟨t162, A90, H⟩ := H
        replace H : ((some (([0, t162] : List Int) : List Int)).bind fun y163 => (yardsticklaw01_WireUnique.l0 k t158 tt_ y163 (y163.length : Int) 0)) = some r := H
        have A9 := Aside0.mk A90
        clear A90
        obtain ⟨y163, hy163⟩ : ∃ y_ : List Int, y_ = (([0, t162] : List Int)) := ⟨_, rfl⟩
        replace H : (yardsticklaw01_WireUnique.l0 k t158 tt_ y163 (y163.length : Int) 0) = some r := by first | (rw [hy163]; with_reducible exact H) | (have H2_ := (Option.bind_some _ _).symm.trans H; rw [hy163]; with_reducible exact H2_) | (have H2_ := (Option.bind_some _ _).symm.trans H; with_reducible exact H2_) | with_reducible exact H | (rw [hy163]; exact H) | exact H
        have Ny163 := Aside0.mk hy163
        clear hy163
        have H' := Aside0.mk H
        clear H
        go_enter Tryd.func5, Tryd.ntmps5
        try go_wp2_with (first | ((with_reducible refine gate_callee (f := 10) rfl ?_); refine goesL_ (some 21) rfl rfl Tryd.func10 (by kernel_rfl) rfl #[] rfl (by (try simp only [List.map_toArray, List.map_cons, List.map_nil]); first | done | rfl | (simp only [List.length_drop, List.length_take]; rfl) | (simp only [ByteArray.size_extract, ByteArray.size_append, Nat.sub_zero]; done) | (simp only [ByteArray.size_extract, ByteArray.size_append, Nat.sub_zero]; (rw [IntWalk.wrap64_in _ (by omega)]) <;> rfl)) ?_; (with_reducible refine (sane.calls  t158 _ ?side1 A4.out).mono ?_); (case side1 => exact Aside0.mk (Laid.below HG.out (by repeat (first | (with_reducible first | exact HB.out | apply below_alloc | apply pw_below_drewN | apply below_drew1) | exact HB.out)))); rintro e w10 ⟨rfl, hb⟩; refine ⟨_, rfl, ?_⟩; have n0_ := Aside0.mk (below_step (by repeat (first | (with_reducible first | exact HB.out | apply below_alloc | apply pw_below_drewN | apply below_drew1) | exact HB.out)) hb); clear HB; have HB := n0_; clear n0_; (try clear hb); (try clear hb2); (try clear hk); (try clear hi)))
        have n0_ := Aside0.mk (below_drew1 HB.out)
        clear HB
        have HB := n0_
        clear n0_
        refine start_ (n := 10) (S := fun w' => True) (ds := []) #[false, false, false, false, false, false, false, false, false, false] (by kernel_rfl) rfl rfl trivial (fun hHeld => ?_); refine with_tabW yardsticklaw01_WireUnique.tab2 yardsticklaw01_WireUnique.bits2 (fun HT_ HW_ => ?_)
        generalize w10.drew = w11 at HB hHeld ⊢
        refine pure_ (i := 0) (N := some 22) (v := ?_) (a' := ?_) #[true, false, false, false, false, false, false, false, false, false] rfl rfl (any_of HT_.out (by kernel_rfl)) (fun _ _ _ h => h) (Or.inl ⟨by rfl, ?_⟩) ?_ ?_
        rotate_left
        · intro w'
          go_simp
          with_reducible rfl
        rotate_left
        · simp only [Act.put, List.setIfInBounds_toArray, List.set_cons_zero, List.set_cons_succ, i64_w, i32_w]
          rfl
        refine pure_ (i := 3) (N := some 25) (v := ?_) (a' := ?_) #[true, false, false, true, false, false, false, false, false, false] rfl rfl (any_of HT_.out (by kernel_rfl)) (fun _ _ _ h => h) (Or.inl ⟨by rfl, ?_⟩) ?_ ?_
        rotate_left
        · intro w'
          go_simp
          with_reducible rfl
        rotate_left
        · simp only [Act.put, List.setIfInBounds_toArray, List.set_cons_zero, List.set_cons_succ, i64_w, i32_w]
          rfl
        refine pure_ (i := 4) (N := some 26) (v := ?_) (a' := ?_) #[true, false, false, true, true, false, false, false, false, false] rfl rfl (any_of HT_.out (by kernel_rfl)) (fun _ _ _ h => h) (Or.inl ⟨by rfl, ?_⟩) ?_ ?_
        rotate_left
        · intro w'
          go_simp
          with_reducible rfl
        rotate_left
        · simp only [Act.put, List.setIfInBounds_toArray, List.set_cons_zero, List.set_cons_succ, i64_w, i32_w]
          rfl
        refine pure_ (i := 5) (N := some 27) (v := ?_) (a' := ?_) #[true, false, false, true, true, true, false, false, false, false] rfl rfl (any_of HT_.out (by kernel_rfl)) (fun _ _ _ h => h) (Or.inl ⟨by rfl, ?_⟩) ?_ ?_
        rotate_left
        · intro w'
          go_simp
          with_reducible rfl
        rotate_left
        · simp only [Act.put, List.setIfInBounds_toArray, List.set_cons_zero, List.set_cons_succ, i64_w, i32_w]
          rfl
        refine pure_ (i := 6) (N := some 28) (v := ?_) (a' := ?_) #[true, false, false, true, true, true, true, false, false, false] rfl rfl (any_of HT_.out (by kernel_rfl)) (fun _ _ _ h => h) (Or.inl ⟨by rfl, ?_⟩) ?_ ?_
        rotate_left
        · intro w'
          go_simp
          with_reducible rfl
        rotate_left
        · simp only [Act.put, List.setIfInBounds_toArray, List.set_cons_zero, List.set_cons_succ, i64_w, i32_w]
          rfl
        refine pure_ (i := 7) (N := some 29) (v := ?_) (a' := ?_) #[true, false, false, true, true, true, true, true, false, false] rfl rfl (any_of HT_.out (by kernel_rfl)) (fun _ _ _ h => h) (Or.inl ⟨by rfl, ?_⟩) ?_ ?_
        rotate_left
        · intro w'
          go_simp
          with_reducible rfl
        rotate_left
        · simp only [Act.put, List.setIfInBounds_toArray, List.set_cons_zero, List.set_cons_succ, i64_w, i32_w]
          rfl
        refine one_ (i := 1) (N := some 23) #[true, true, false, true, true, true, true, true, false, false] rfl rfl (one_of HT_.out (by kernel_rfl)) (by decide) (fun K hK => ?_)
        refine Kd.R_lit_step (Kd.int .u8) _ 5 ?hg (N := 23) ?hd (xs := ([a2] : List Int)) (inner := [.int .u8 a2]) (ok := fun _ => True) (okp := fun _ => True) ?hr ?hp (fun _ hk => hk) trivial (Below.refl _ _) (Nat.le_refl _) (by simp) ?_; (case hd => rfl); (case hg => rfl); (case hr => first | (go_simp; done) | (go_simp; rfl)); (case hp => exact (Reps.one (show Kd.M (Kd.int .u8) _ _ _ a2 [.int .u8 a2] from rfl) (Reps.none _ _)))
        intro v160 w12 ho13 hb hg_ hnew_
        clear hg_ hnew_
        (first | rw [← Ny159.out] at ho13 | (simp only [Int.reduceToNat] at ho13; rw [← Ny159.out] at ho13))
        have n0_ := Aside0.mk (Kd.R_lower ho13 (below_size (by repeat (first | (with_reducible first | exact HB.out | apply below_alloc | apply pw_below_drewN | apply below_drew1) | exact HB.out))))
        have n1_ := Aside0.mk (below_step (by repeat (first | (with_reducible first | exact HB.out | apply below_alloc | apply pw_below_drewN | apply below_drew1) | exact HB.out)) hb)
        clear HB
        have HO161 := n0_
        have HB := n1_
        clear n0_ n1_
        clear hb ho13
        refine hK.out _ _ trivial (fun hHeld => ?_)
        clear hK K
        refine norm_ (a' := ?_) ?_ ?_
        rotate_left
        · show Act.put _ (some 23) _ = _
          simp only [Act.put, List.setIfInBounds_toArray, List.set_cons_zero, List.set_cons_succ, i64_w, i32_w]
          rfl
        refine one_ (i := 2) (N := some 24) #[true, true, true, true, true, true, true, true, false, false] rfl rfl (one_of HT_.out (by kernel_rfl)) (by decide) (fun K hK => ?_)
        have hcv14 := own_string (P := Tryd.prog) Tryd.underlying38 Tryd.underlying5 Tryd.underlying9 (Kd.own_of_R HO161.out)
        refine value_ (w1 := ?_) (v := ?_) (by rfl) rfl ?_ ?_
        rotate_left 2
        · go_simp
          constructor
          · rfl
          · rfl
        clear hcv14
        refine hK.out _ _ trivial (fun hHeld => ?_)
        clear hK K
        refine norm_ (a' := ?_) ?_ ?_
        rotate_left
        · show Act.put _ (some 24) _ = _
          simp only [Act.put, List.setIfInBounds_toArray, List.set_cons_zero, List.set_cons_succ, i64_w, i32_w]
          rfl
        refine pure_ (i := 8) (N := some 30) (v := ?_) (a' := ?_) #[true, true, true, true, true, true, true, true, true, false] rfl rfl (any_of HT_.out (by kernel_rfl)) (fun _ _ _ h => h) (Or.inl ⟨by rfl, ?_⟩) ?_ ?_
        rotate_left
        · intro w'
          go_simp
          with_reducible rfl
        rotate_left
        · simp only [Act.put, List.setIfInBounds_toArray, List.set_cons_zero, List.set_cons_succ, i64_w, i32_w]
          rfl
        refine pure_ (i := 9) (N := some 8) (v := ?_) (a' := ?_) #[true, true, true, true, true, true, true, true, true, true] rfl rfl (any_of HT_.out (by kernel_rfl)) (fun _ _ _ h => h) (Or.inl ⟨by rfl, ?_⟩) ?_ ?_
        rotate_left
        · intro w'
          go_simp
          with_reducible rfl
        rotate_left
        · simp only [Act.put, List.setIfInBounds_toArray, List.set_cons_zero, List.set_cons_succ, i64_w, i32_w]
          rfl
        refine done_ (done_of HT_.out (by kernel_rfl)) ?_
        try go_wp2_with (first | ((with_reducible refine gate_callee (f := 14) rfl ?_); refine goesL_ (some 35) rfl rfl Tryd.func14 (by kernel_rfl) rfl #[.int .i64 a1, .int .i64 (wrap64 ((tt_.size : Int) + 1))] rfl (by (try simp only [List.map_toArray, List.map_cons, List.map_nil]); first | done | (simp only [hji5]; rfl) | rfl | (simp only [List.length_drop, List.length_take]; rfl) | (simp only [ByteArray.size_extract, ByteArray.size_append, Nat.sub_zero]; done) | (simp only [ByteArray.size_extract, ByteArray.size_append, Nat.sub_zero]; (rw [IntWalk.wrap64_in _ (by omega)]) <;> rfl)) ?_; (with_reducible refine (yardsticklaw01_pick.calls a1 (wrap64 ((tt_.size : Int) + 1)) t162 _ A9.out).mono ?_); rintro e w' ⟨rfl, ⟨nd, rfl⟩⟩; refine ⟨_, rfl, ?_⟩) | ((with_reducible refine gate_dst (N := 36) rfl ?_); (try (refine gate_guard (by rfl) ?_; dsimp only)); refine Kd.R_lit (Kd.int .i64) _ 3 ?hg (N := 36) ?hd (xs := ([0, t162] : List Int)) (inner := [.int .i64 0, .int .i64 t162]) (ok := fun _ => True) (okp := fun _ => True) ?hr ?hp (fun _ hk => hk) trivial (Below.refl _ _) (Nat.le_refl _) (by simp) ?_; (case hd => rfl); (case hg => rfl); (case hr => first | (go_simp; done) | (go_simp; rfl)); (case hp => exact (Reps.one (show Kd.M (Kd.int .i64) _ _ _ 0 [.int .i64 0] from rfl) (Reps.one (show Kd.M (Kd.int .i64) _ _ _ t162 [.int .i64 t162] from rfl) (Reps.none _ _)))); intro v164 w15 ho16 hb hg_ hnew_; clear hg_ hnew_; (first | rw [← Ny163.out] at ho16 | (simp only [Int.reduceToNat] at ho16; rw [← Ny163.out] at ho16)); have n0_ := Aside0.mk (Kd.R_below (by (with_reducible repeat (first | apply Kd.R_alloc | apply Kd.R_drewN | apply Kd.R_drew)); exact HO161.out) hb); have n1_ := Aside0.mk (Kd.R_lower ho16 (below_size (by repeat (first | (with_reducible first | exact HB.out | apply below_alloc | apply pw_below_drewN | apply below_drew1) | exact HB.out)))); have n2_ := Aside0.mk (below_step (by repeat (first | (with_reducible first | exact HB.out | apply below_alloc | apply pw_below_drewN | apply below_drew1) | exact HB.out)) hb); clear HO161; clear HB; have HO161 := n0_; have HO165 := n1_; have HB := n2_; clear n0_ n1_ n2_; clear hb ho16; obtain ⟨Ao17, co17, eo17⟩ := Kd.R_slice HO165.out; subst eo17))
        go_loopg [38] k (fun kq v38 w' => ∃ (x38_1 : Int), v38 = .int .i64 x38_1 ∧ Aside0 (yardsticklaw01_WireUnique.l0 kq t158 tt_ y163 (y163.length : Int) x38_1 = some r) ∧ Aside0 (kq ≤ k) ∧ Aside0 (Kd.R (Kd.int .i64) 3 w' w.heap.size (fun _ => True) (.slice Ao17 y163.length co17) y163) ∧ Aside0 (Below w.heap.size w w'))
        case atStart => exact ⟨(0), (by first | rfl | (simp; done) | (simp [*]; done)), H', ⟨Nat.le_refl _⟩, ⟨by (with_reducible repeat (first | apply Kd.R_alloc | apply Kd.R_drewN | apply Kd.R_drew)); exact HO165.out⟩, ⟨by repeat (first | (with_reducible first | exact HB.out | apply below_alloc | apply pw_below_drewN | apply below_drew1) | exact HB.out)⟩⟩
        case round =>
          clear H'
          try clear c1
          try clear hcv1
          try clear p2
          try clear c5
          try clear c6
          try clear c6b0
          try clear c6b1
          try clear p6
          try clear c7
          try clear c7b0
          try clear c7b1
          try clear c8
          try clear c8b0
          try clear c8b1
          try clear c8b2
          try clear c10
          try clear c14
          try clear hcv14
          obtain ⟨x38_1, rfl, HA, HK1, HO_36, HB⟩ := hrel
          cases gk with
          | zero => exact absurd HA.out (by simp [yardsticklaw01_WireUnique.l0])
          | succ k1 =>
            have H := HA.out
            clear HA
            simp only [yardsticklaw01_WireUnique.l0] at H
            by_cases c18 : x38_1 < (y163.length : Int)
            · rw [if_pos c18] at H
              have c18b0 : decide (x38_1 < (y163.length : Int)) = true := decide_eq_true c18
              clear c18
              by_cases c19 : 0 ≤ x38_1
              · rw [if_pos c19] at H
                have c19b0 : decide (0 ≤ x38_1) = true := decide_eq_true c19
                clear c19
                by_cases c20 : x38_1 < (y163.length : Int)
                · rw [if_pos c20] at H
                  have c20b0 : decide (x38_1 < (y163.length : Int)) = true := decide_eq_true c20
                  clear c20
                  replace H := Option.bind_eq_some_iff.mp H
                  obtain ⟨⟨t167, t168, t169⟩, A210, H⟩ := H
                  replace H : ((wire_PutInt.f t167).bind fun bt170 => (if t169 = 0 then (if bt170.2 = 0 then (if t168 < (rd y163 x38_1) then (yardsticklaw01_WireUnique.j1 k1 t158 tt_ (rd y163 x38_1) y163 (y163.length : Int) x38_1 true) else (if t168 > (tt_.size : Int) then (yardsticklaw01_WireUnique.j1 k1 t158 tt_ (rd y163 x38_1) y163 (y163.length : Int) x38_1 true) else (if 0 ≤ (rd y163 x38_1) then (if (rd y163 x38_1) ≤ t168 then (if t168 ≤ (tt_.size : Int) then (if (tt_.extract ((rd y163 x38_1) : Int).toNat (t168 : Int).toNat).toList = bt170.1.toList then (yardsticklaw01_WireUnique.j1 k1 t158 tt_ (rd y163 x38_1) y163 (y163.length : Int) x38_1 false) else (yardsticklaw01_WireUnique.j1 k1 t158 tt_ (rd y163 x38_1) y163 (y163.length : Int) x38_1 true)) else (none)) else (none)) else (none)))) else (yardsticklaw01_WireUnique.j1 k1 t158 tt_ (rd y163 x38_1) y163 (y163.length : Int) x38_1 true)) else (if t169 = 10 then (if t167 = 0 then (yardsticklaw01_WireUnique.j1 k1 t158 tt_ (rd y163 x38_1) y163 (y163.length : Int) x38_1 (t168 != 0)) else (yardsticklaw01_WireUnique.j1 k1 t158 tt_ (rd y163 x38_1) y163 (y163.length : Int) x38_1 true)) else (yardsticklaw01_WireUnique.j1 k1 t158 tt_ (rd y163 x38_1) y163 (y163.length : Int) x38_1 true)))) = some r := H
                  have A21 := Aside0.mk A210
                  clear A210
                  replace H := Option.bind_eq_some_iff.mp H
                  obtain ⟨⟨t170, t171⟩, A220, H⟩ := H
                  replace H : (if t169 = 0 then (if t171 = 0 then (if t168 < (rd y163 x38_1) then (yardsticklaw01_WireUnique.j1 k1 t158 tt_ (rd y163 x38_1) y163 (y163.length : Int) x38_1 true) else (if t168 > (tt_.size : Int) then (yardsticklaw01_WireUnique.j1 k1 t158 tt_ (rd y163 x38_1) y163 (y163.length : Int) x38_1 true) else (if 0 ≤ (rd y163 x38_1) then (if (rd y163 x38_1) ≤ t168 then (if t168 ≤ (tt_.size : Int) then (if (tt_.extract ((rd y163 x38_1) : Int).toNat (t168 : Int).toNat).toList = t170.toList then (yardsticklaw01_WireUnique.j1 k1 t158 tt_ (rd y163 x38_1) y163 (y163.length : Int) x38_1 false) else (yardsticklaw01_WireUnique.j1 k1 t158 tt_ (rd y163 x38_1) y163 (y163.length : Int) x38_1 true)) else (none)) else (none)) else (none)))) else (yardsticklaw01_WireUnique.j1 k1 t158 tt_ (rd y163 x38_1) y163 (y163.length : Int) x38_1 true)) else (if t169 = 10 then (if t167 = 0 then (yardsticklaw01_WireUnique.j1 k1 t158 tt_ (rd y163 x38_1) y163 (y163.length : Int) x38_1 (t168 != 0)) else (yardsticklaw01_WireUnique.j1 k1 t158 tt_ (rd y163 x38_1) y163 (y163.length : Int) x38_1 true)) else (yardsticklaw01_WireUnique.j1 k1 t158 tt_ (rd y163 x38_1) y163 (y163.length : Int) x38_1 true))) = some r := H
                  have A22 := Aside0.mk A220
                  clear A220
                  have HC23 := Aside0.mk H
                  clear H
                  have p166 : 0 ≤ (x38_1 : Int) := of_decide_eq_true (by first | (with_reducible assumption) | assumption)
                  have q166 : x38_1 < (y163.length : Int) := of_decide_eq_true (by first | (with_reducible assumption) | assumption)
                  obtain ⟨ad166, e166, hx166_0⟩ := Kd.at_int (Kd.R_reads' HO_36.out).2.2 x38_1 p166 q166
                  cases e166
                  replace p166 := eq_true p166
                  replace q166 := eq_true q166
                  go_upto_region 8 with (first | ((with_reducible refine gate_callee (f := 15) rfl ?_); refine goesL_ (some 45) rfl rfl Tryd.func15 (by kernel_rfl) rfl #[.string tt_, .int .i64 (rd y163 x38_1)] rfl (by (try simp only [List.map_toArray, List.map_cons, List.map_nil]); first | done | (simp only [hji5]; rfl) | rfl | (simp only [List.length_drop, List.length_take]; rfl) | (simp only [ByteArray.size_extract, ByteArray.size_append, Nat.sub_zero]; done) | (simp only [ByteArray.size_extract, ByteArray.size_append, Nat.sub_zero]; (rw [IntWalk.wrap64_in _ (by omega)]) <;> rfl)) ?_; (with_reducible refine (Pa.wire_Int.calls k1 tt_ (rd y163 x38_1) t167 t168 t169 _ A21.out).mono ?_); rintro e w' ⟨rfl, ⟨nd, rfl⟩⟩; refine ⟨_, rfl, ?_⟩) | ((with_reducible refine gate_callee (f := 12) rfl ?_); refine goesL_ (some 51) rfl rfl Tryd.func12 (by kernel_rfl) rfl #[.int .i64 t167] rfl (by (try simp only [List.map_toArray, List.map_cons, List.map_nil]); first | done | rfl | (simp only [List.length_drop, List.length_take]; rfl) | (simp only [ByteArray.size_extract, ByteArray.size_append, Nat.sub_zero]; done) | (simp only [ByteArray.size_extract, ByteArray.size_append, Nat.sub_zero]; (rw [IntWalk.wrap64_in _ (by omega)]) <;> rfl)) ?_; (with_reducible refine (wire_PutInt.calls t167 t170 t171 _ A22.out).mono ?_); rintro e w24 ⟨rfl, hb⟩; refine ⟨_, rfl, ?_⟩; have n0_ := Aside0.mk (Kd.R_below (by (with_reducible repeat (first | apply Kd.R_alloc | apply Kd.R_drewN | apply Kd.R_drew)); exact HO_36.out) hb); have n1_ := Aside0.mk (below_step (by repeat (first | (with_reducible first | exact HB.out | apply below_alloc | apply pw_below_drewN | apply below_drew1) | exact HB.out)) hb); clear HO_36; clear HB; have HO_36 := n0_; have HB := n1_; clear n0_ n1_; (try clear hb); (try clear hb2); (try clear hk); (try clear hi)))
                  (try simp only [Act.put, List.setIfInBounds_toArray, List.set_cons_zero, List.set_cons_succ])
                  go_cut [94] (fun v94 wc => ∃ (kq : Nat) (x94_22 : Bool), v94 = .bool x94_22 ∧ Aside0 (yardsticklaw01_WireUnique.j1 kq t158 tt_ (rd y163 x38_1) y163 (y163.length : Int) x38_1 x94_22 = some r) ∧ Aside0 (kq ≤ k1) ∧ Aside0 (Kd.R (Kd.int .i64) 3 wc w.heap.size (fun _ => True) (.slice (some ad166) y163.length co17) y163) ∧ Aside0 (Below w.heap.size w wc))
                  case first =>
                    have H := HC23.out
                    clear HC23
                    by_cases c25 : t169 = 0
                    · rw [if_pos c25] at H
                      have c25b0 : (t169 == 0) = true := beq_iff_eq.mpr c25
                      have c25b1 : (t169 != 0) = false := bne_eq_false_iff_eq.mpr c25
                      clear c25
                      (first | rw [c25b0] | (simp only [i64_w, i32_w]; rw [c25b0]) | skip)
                      by_cases c26 : t171 = 0
                      · rw [if_pos c26] at H
                        have c26b0 : (t171 == 0) = true := beq_iff_eq.mpr c26
                        have c26b1 : (t171 != 0) = false := bne_eq_false_iff_eq.mpr c26
                        clear c26
                        by_cases c27 : t168 < (rd y163 x38_1)
                        · rw [if_pos c27] at H
                          have c27b0 : decide (t168 < (rd y163 x38_1)) = true := decide_eq_true c27
                          clear c27
                          have H' := Aside0.mk H
                          clear H
                          go_wp2
                          go_meet
                          case rel => exact ⟨_, (true), (by first | rfl | (simp; done) | (simp [*]; done)), H', ⟨by have := HK1.out; first | omega | exact Nat.le_refl _⟩, ⟨by (with_reducible repeat (first | apply Kd.R_alloc | apply Kd.R_drewN | apply Kd.R_drew)); exact HO_36.out⟩, ⟨by repeat (first | (with_reducible first | exact HB.out | apply below_alloc | apply pw_below_drewN | apply below_drew1) | exact HB.out)⟩⟩
                        · rw [if_neg c27] at H
                          have c27b0 : decide (t168 < (rd y163 x38_1)) = false := decide_eq_false c27
                          clear c27
                          by_cases c28 : t168 > (tt_.size : Int)
                          · rw [if_pos c28] at H
                            have c28b0 : decide ((tt_.size : Int) < t168) = true := decide_eq_true c28
                            clear c28
                            have H' := Aside0.mk H
                            clear H
                            go_wp2
                            go_meet
                            case rel => exact ⟨_, (true), (by first | rfl | (simp; done) | (simp [*]; done)), H', ⟨by have := HK1.out; first | omega | exact Nat.le_refl _⟩, ⟨by (with_reducible repeat (first | apply Kd.R_alloc | apply Kd.R_drewN | apply Kd.R_drew)); exact HO_36.out⟩, ⟨by repeat (first | (with_reducible first | exact HB.out | apply below_alloc | apply pw_below_drewN | apply below_drew1) | exact HB.out)⟩⟩
                          · rw [if_neg c28] at H
                            have c28b0 : decide ((tt_.size : Int) < t168) = false := decide_eq_false c28
                            clear c28
                            by_cases c29 : 0 ≤ (rd y163 x38_1)
                            · rw [if_pos c29] at H
                              have c29b0 := eq_true c29
                              have c29b1 : decide (0 ≤ (rd y163 x38_1)) = true := decide_eq_true c29
                              clear c29
                              by_cases c30 : (rd y163 x38_1) ≤ t168
                              · rw [if_pos c30] at H
                                have c30b0 := eq_true c30
                                have c30b1 : decide ((rd y163 x38_1) ≤ t168) = true := decide_eq_true c30
                                clear c30
                                by_cases c31 : t168 ≤ (tt_.size : Int)
                                · rw [if_pos c31] at H
                                  have c31b0 := eq_true c31
                                  have c31b1 : decide (t168 ≤ (tt_.size : Int)) = true := decide_eq_true c31
                                  by_cases c32 : (tt_.extract ((rd y163 x38_1) : Int).toNat (t168 : Int).toNat).toList = t170.toList
                                  · rw [if_pos c32] at H
                                    have c32b0 : ((tt_.extract ((rd y163 x38_1) : Int).toNat (t168 : Int).toNat).toList == t170.toList) = true := beq_iff_eq.mpr c32
                                    have c32b1 : ((tt_.extract ((rd y163 x38_1) : Int).toNat (t168 : Int).toNat).toList != t170.toList) = false := bne_eq_false_iff_eq.mpr c32
                                    clear c32
                                    have H' := Aside0.mk H
                                    clear H
                                    go_wp2
                                    go_meet
                                    case rel => exact ⟨_, (false), (by first | rfl | (simp; done) | (simp [*]; done)), H', ⟨by have := HK1.out; first | omega | exact Nat.le_refl _⟩, ⟨by (with_reducible repeat (first | apply Kd.R_alloc | apply Kd.R_drewN | apply Kd.R_drew)); exact HO_36.out⟩, ⟨by repeat (first | (with_reducible first | exact HB.out | apply below_alloc | apply pw_below_drewN | apply below_drew1) | exact HB.out)⟩⟩
                                  · rw [if_neg c32] at H
                                    have c32b0 : ((tt_.extract ((rd y163 x38_1) : Int).toNat (t168 : Int).toNat).toList == t170.toList) = false := beq_eq_false_iff_ne.mpr c32
                                    have c32b1 : ((tt_.extract ((rd y163 x38_1) : Int).toNat (t168 : Int).toNat).toList != t170.toList) = true := bne_iff_ne.mpr c32
                                    have H' := Aside0.mk H
                                    clear H
                                    go_wp2
                                    go_meet
                                    case rel => exact ⟨_, (true), (by first | rfl | (simp; done) | (simp [*]; done)), H', ⟨by have := HK1.out; first | omega | exact Nat.le_refl _⟩, ⟨by (with_reducible repeat (first | apply Kd.R_alloc | apply Kd.R_drewN | apply Kd.R_drew)); exact HO_36.out⟩, ⟨by repeat (first | (with_reducible first | exact HB.out | apply below_alloc | apply pw_below_drewN | apply below_drew1) | exact HB.out)⟩⟩
                                · rw [if_neg c31] at H
                                  exact absurd H (by simp)
                              · rw [if_neg c30] at H
                                exact absurd H (by simp)
                            · rw [if_neg c29] at H
                              exact absurd H (by simp)
                      · rw [if_neg c26] at H
                        have c26b0 : (t171 == 0) = false := beq_eq_false_iff_ne.mpr c26
                        have c26b1 : (t171 != 0) = true := bne_iff_ne.mpr c26
                        have H' := Aside0.mk H
                        clear H
                        go_wp2
                        go_meet
                        case rel => exact ⟨_, (true), (by first | rfl | (simp; done) | (simp [*]; done)), H', ⟨by have := HK1.out; first | omega | exact Nat.le_refl _⟩, ⟨by (with_reducible repeat (first | apply Kd.R_alloc | apply Kd.R_drewN | apply Kd.R_drew)); exact HO_36.out⟩, ⟨by repeat (first | (with_reducible first | exact HB.out | apply below_alloc | apply pw_below_drewN | apply below_drew1) | exact HB.out)⟩⟩
                    · rw [if_neg c25] at H
                      have c25b0 : (t169 == 0) = false := beq_eq_false_iff_ne.mpr c25
                      have c25b1 : (t169 != 0) = true := bne_iff_ne.mpr c25
                      (first | rw [c25b0] | (simp only [i64_w, i32_w]; rw [c25b0]) | skip)
                      by_cases c33 : t169 = 10
                      · rw [if_pos c33] at H
                        have c33b0 : (t169 == 10) = true := beq_iff_eq.mpr c33
                        have c33b1 : (t169 != 10) = false := bne_eq_false_iff_eq.mpr c33
                        clear c33
                        by_cases c34 : t167 = 0
                        · rw [if_pos c34] at H
                          have c34b0 : (t167 == 0) = true := beq_iff_eq.mpr c34
                          have c34b1 : (t167 != 0) = false := bne_eq_false_iff_eq.mpr c34
                          clear c34
                          have H' := Aside0.mk H
                          clear H
                          go_wp2
                          go_meet
                          case rel => exact ⟨_, ((t168 != 0)), (by first | rfl | (simp; done) | (simp [*]; done)), H', ⟨by have := HK1.out; first | omega | exact Nat.le_refl _⟩, ⟨by (with_reducible repeat (first | apply Kd.R_alloc | apply Kd.R_drewN | apply Kd.R_drew)); exact HO_36.out⟩, ⟨by repeat (first | (with_reducible first | exact HB.out | apply below_alloc | apply pw_below_drewN | apply below_drew1) | exact HB.out)⟩⟩
                        · rw [if_neg c34] at H
                          have c34b0 : (t167 == 0) = false := beq_eq_false_iff_ne.mpr c34
                          have c34b1 : (t167 != 0) = true := bne_iff_ne.mpr c34
                          have H' := Aside0.mk H
                          clear H
                          go_wp2
                          go_meet
                          case rel => exact ⟨_, (true), (by first | rfl | (simp; done) | (simp [*]; done)), H', ⟨by have := HK1.out; first | omega | exact Nat.le_refl _⟩, ⟨by (with_reducible repeat (first | apply Kd.R_alloc | apply Kd.R_drewN | apply Kd.R_drew)); exact HO_36.out⟩, ⟨by repeat (first | (with_reducible first | exact HB.out | apply below_alloc | apply pw_below_drewN | apply below_drew1) | exact HB.out)⟩⟩
                      · rw [if_neg c33] at H
                        have c33b0 : (t169 == 10) = false := beq_eq_false_iff_ne.mpr c33
                        have c33b1 : (t169 != 10) = true := bne_iff_ne.mpr c33
                        have H' := Aside0.mk H
                        clear H
                        go_wp2
                        go_meet
                        case rel => exact ⟨_, (true), (by first | rfl | (simp; done) | (simp [*]; done)), H', ⟨by have := HK1.out; first | omega | exact Nat.le_refl _⟩, ⟨by (with_reducible repeat (first | apply Kd.R_alloc | apply Kd.R_drewN | apply Kd.R_drew)); exact HO_36.out⟩, ⟨by repeat (first | (with_reducible first | exact HB.out | apply below_alloc | apply pw_below_drewN | apply below_drew1) | exact HB.out)⟩⟩
                  case rest =>
                    clear HC23
                    try clear c1
                    try clear p1
                    try clear q1
                    try clear hx1
                    try clear hcv1
                    try clear c2
                    try clear p2
                    try clear c3
                    try clear c5
                    try clear c6
                    try clear c6b0
                    try clear c6b1
                    try clear p6
                    try clear c7
                    try clear c7b0
                    try clear c7b1
                    try clear c8
                    try clear c8b0
                    try clear c8b1
                    try clear c8b2
                    try clear c10
                    try clear c12
                    try clear c14
                    try clear hcv14
                    try clear c15
                    try clear p16
                    try clear q16
                    try clear hx16
                    try clear c18
                    try clear c18b0
                    try clear c19
                    try clear c19b0
                    try clear c20
                    try clear c20b0
                    try clear c25
                    try clear c25b0
                    try clear c25b1
                    try clear c26
                    try clear c26b0
                    try clear c26b1
                    try clear c27
                    try clear c27b0
                    try clear c28
                    try clear c28b0
                    try clear c29
                    try clear c29b0
                    try clear c29b1
                    try clear c30
                    try clear c30b0
                    try clear c30b1
                    try clear c31
                    try clear c31b0
                    try clear c31b1
                    try clear c32
                    try clear c32b0
                    try clear c32b1
                    try clear c33
                    try clear c33b0
                    try clear c33b1
                    try clear c34
                    try clear c34b0
                    try clear c34b1
                    try clear hx166_0
                    try clear p166
                    try clear p2
                    try clear p6
                    try clear q166
                    obtain ⟨kq, x94_22, rfl, HA, HJ22, HO_36, HB⟩ := hcut
                    cases kq with
                    | zero => exact absurd HA.out (by simp [yardsticklaw01_WireUnique.j1])
                    | succ kj22 =>
                      have H := HA.out
                      clear HA
                      simp only [yardsticklaw01_WireUnique.j1] at H
                      by_cases c35 : x94_22 = true
                      · subst c35
                        have H1 : (some false) = some r := by rw [if_pos rfl] at H; exact H
                        clear H
                        have H := H1
                        clear H1
                        obtain rfl := Option.some.inj H
                        go_wp2
                        go_ret
                        exact ⟨by first | rfl | (simp [errW_none, errW_some] <;> rfl) | (simp only [← hji5]; first | rfl | (simp [errW_none, errW_some] <;> rfl)) | (simp [*, errW_none, errW_some] <;> rfl), by repeat (first | (with_reducible first | exact HB.out | apply below_alloc | apply pw_below_drewN | apply below_drew1) | exact HB.out)⟩
                      · replace c35 := Bool.eq_false_iff.mpr c35
                        subst c35
                        have H1 : ((Pa.wire_String.f kj22 tt_ (rd y163 x38_1)).bind fun bt172 => ((Pa.wire_PutString.f bt172.1).bind fun bt175 => (if bt172.2.2 = 0 then (if bt175.2 = 0 then (if bt172.2.1 < (rd y163 x38_1) then (some false) else (if bt172.2.1 > (tt_.size : Int) then (some false) else (if 0 ≤ (rd y163 x38_1) then (if (rd y163 x38_1) ≤ bt172.2.1 then (if bt172.2.1 ≤ (tt_.size : Int) then (if (tt_.extract ((rd y163 x38_1) : Int).toNat (bt172.2.1 : Int).toNat).toList = bt175.1.toList then (yardsticklaw01_WireUnique.l0 kj22 t158 tt_ y163 (y163.length : Int) (wrap64 (x38_1 + 1))) else (some false)) else (none)) else (none)) else (none)))) else (some false)) else (if bt172.2.2 = 10 then (if bt172.1.toList = ([] : List UInt8) then (if bt172.2.1 = 0 then (yardsticklaw01_WireUnique.l0 kj22 t158 tt_ y163 (y163.length : Int) (wrap64 (x38_1 + 1))) else (some false)) else (some false)) else (some false))))) = some r := by rw [if_neg (show ¬ (false = true) by decide)] at H; exact H
                        clear H
                        have H := H1
                        clear H1
                        replace H := Option.bind_eq_some_iff.mp H
                        obtain ⟨⟨t172, t173, t174⟩, A360, H⟩ := H
                        replace H : ((Pa.wire_PutString.f t172).bind fun bt175 => (if t174 = 0 then (if bt175.2 = 0 then (if t173 < (rd y163 x38_1) then (some false) else (if t173 > (tt_.size : Int) then (some false) else (if 0 ≤ (rd y163 x38_1) then (if (rd y163 x38_1) ≤ t173 then (if t173 ≤ (tt_.size : Int) then (if (tt_.extract ((rd y163 x38_1) : Int).toNat (t173 : Int).toNat).toList = bt175.1.toList then (yardsticklaw01_WireUnique.l0 kj22 t158 tt_ y163 (y163.length : Int) (wrap64 (x38_1 + 1))) else (some false)) else (none)) else (none)) else (none)))) else (some false)) else (if t174 = 10 then (if t172.toList = ([] : List UInt8) then (if t173 = 0 then (yardsticklaw01_WireUnique.l0 kj22 t158 tt_ y163 (y163.length : Int) (wrap64 (x38_1 + 1))) else (some false)) else (some false)) else (some false)))) = some r := H
                        have A36 := Aside0.mk A360
                        clear A360
                        replace H := Option.bind_eq_some_iff.mp H
                        obtain ⟨⟨t175, t176⟩, A370, H⟩ := H
                        replace H : (if t174 = 0 then (if t176 = 0 then (if t173 < (rd y163 x38_1) then (some false) else (if t173 > (tt_.size : Int) then (some false) else (if 0 ≤ (rd y163 x38_1) then (if (rd y163 x38_1) ≤ t173 then (if t173 ≤ (tt_.size : Int) then (if (tt_.extract ((rd y163 x38_1) : Int).toNat (t173 : Int).toNat).toList = t175.toList then (yardsticklaw01_WireUnique.l0 kj22 t158 tt_ y163 (y163.length : Int) (wrap64 (x38_1 + 1))) else (some false)) else (none)) else (none)) else (none)))) else (some false)) else (if t174 = 10 then (if t172.toList = ([] : List UInt8) then (if t173 = 0 then (yardsticklaw01_WireUnique.l0 kj22 t158 tt_ y163 (y163.length : Int) (wrap64 (x38_1 + 1))) else (some false)) else (some false)) else (some false))) = some r := H
                        have A37 := Aside0.mk A370
                        clear A370
                        by_cases c38 : t174 = 0
                        · rw [if_pos c38] at H
                          have c38b0 : (t174 == 0) = true := beq_iff_eq.mpr c38
                          have c38b1 : (t174 != 0) = false := bne_eq_false_iff_eq.mpr c38
                          clear c38
                          by_cases c39 : t176 = 0
                          · rw [if_pos c39] at H
                            have c39b0 : (t176 == 0) = true := beq_iff_eq.mpr c39
                            have c39b1 : (t176 != 0) = false := bne_eq_false_iff_eq.mpr c39
                            clear c39
                            by_cases c40 : t173 < (rd y163 x38_1)
                            · rw [if_pos c40] at H
                              have c40b0 : decide (t173 < (rd y163 x38_1)) = true := decide_eq_true c40
                              clear c40
                              obtain rfl := Option.some.inj H
                              go_wp2_with (first | ((with_reducible refine gate_callee (f := 17) rfl ?_); refine goesL_ (some 98) rfl rfl Tryd.func17 (by kernel_rfl) rfl #[.string tt_, .int .i64 (rd y163 x38_1)] rfl (by (try simp only [List.map_toArray, List.map_cons, List.map_nil]); first | done | (simp only [hji5]; rfl) | rfl | (simp only [List.length_drop, List.length_take]; rfl) | (simp only [ByteArray.size_extract, ByteArray.size_append, Nat.sub_zero]; done) | (simp only [ByteArray.size_extract, ByteArray.size_append, Nat.sub_zero]; (rw [IntWalk.wrap64_in _ (by omega)]) <;> rfl)) ?_; (with_reducible refine (Pa.wire_String.calls kj22 tt_ (rd y163 x38_1) t172 t173 t174 _ A36.out).mono ?_); rintro e w' ⟨rfl, ⟨nd, rfl⟩⟩; refine ⟨_, rfl, ?_⟩) | ((with_reducible refine gate_callee (f := 19) rfl ?_); refine goesL_ (some 104) rfl rfl Tryd.func19 (by kernel_rfl) rfl #[.string t172] rfl (by (try simp only [List.map_toArray, List.map_cons, List.map_nil]); first | done | rfl | (simp only [List.length_drop, List.length_take]; rfl) | (simp only [ByteArray.size_extract, ByteArray.size_append, Nat.sub_zero]; done) | (simp only [ByteArray.size_extract, ByteArray.size_append, Nat.sub_zero]; (rw [IntWalk.wrap64_in _ (by omega)]) <;> rfl)) ?_; (with_reducible refine (Pa.wire_PutString.calls t172 t175 t176 _ A37.out).mono ?_); rintro e w41 ⟨rfl, hb⟩; refine ⟨_, rfl, ?_⟩; have n0_ := Aside0.mk (Kd.R_below (by (with_reducible repeat (first | apply Kd.R_alloc | apply Kd.R_drewN | apply Kd.R_drew)); exact HO_36.out) hb); have n1_ := Aside0.mk (below_step (by repeat (first | (with_reducible first | exact HB.out | apply below_alloc | apply pw_below_drewN | apply below_drew1) | exact HB.out)) hb); clear HO_36; clear HB; have HO_36 := n0_; have HB := n1_; clear n0_ n1_; (try clear hb); (try clear hb2); (try clear hk); (try clear hi)))
                              go_ret
                              exact ⟨by first | rfl | (simp [errW_none, errW_some] <;> rfl) | (simp only [← hji5]; first | rfl | (simp [errW_none, errW_some] <;> rfl)) | (simp [*, errW_none, errW_some] <;> rfl), by repeat (first | (with_reducible first | exact HB.out | apply below_alloc | apply pw_below_drewN | apply below_drew1) | exact HB.out)⟩
                            · rw [if_neg c40] at H
                              have c40b0 : decide (t173 < (rd y163 x38_1)) = false := decide_eq_false c40
                              clear c40
                              by_cases c42 : t173 > (tt_.size : Int)
                              · rw [if_pos c42] at H
                                have c42b0 : decide ((tt_.size : Int) < t173) = true := decide_eq_true c42
                                clear c42
                                obtain rfl := Option.some.inj H
                                go_wp2_with (first | ((with_reducible refine gate_callee (f := 17) rfl ?_); refine goesL_ (some 98) rfl rfl Tryd.func17 (by kernel_rfl) rfl #[.string tt_, .int .i64 (rd y163 x38_1)] rfl (by (try simp only [List.map_toArray, List.map_cons, List.map_nil]); first | done | (simp only [hji5]; rfl) | rfl | (simp only [List.length_drop, List.length_take]; rfl) | (simp only [ByteArray.size_extract, ByteArray.size_append, Nat.sub_zero]; done) | (simp only [ByteArray.size_extract, ByteArray.size_append, Nat.sub_zero]; (rw [IntWalk.wrap64_in _ (by omega)]) <;> rfl)) ?_; (with_reducible refine (Pa.wire_String.calls kj22 tt_ (rd y163 x38_1) t172 t173 t174 _ A36.out).mono ?_); rintro e w' ⟨rfl, ⟨nd, rfl⟩⟩; refine ⟨_, rfl, ?_⟩) | ((with_reducible refine gate_callee (f := 19) rfl ?_); refine goesL_ (some 104) rfl rfl Tryd.func19 (by kernel_rfl) rfl #[.string t172] rfl (by (try simp only [List.map_toArray, List.map_cons, List.map_nil]); first | done | rfl | (simp only [List.length_drop, List.length_take]; rfl) | (simp only [ByteArray.size_extract, ByteArray.size_append, Nat.sub_zero]; done) | (simp only [ByteArray.size_extract, ByteArray.size_append, Nat.sub_zero]; (rw [IntWalk.wrap64_in _ (by omega)]) <;> rfl)) ?_; (with_reducible refine (Pa.wire_PutString.calls t172 t175 t176 _ A37.out).mono ?_); rintro e w43 ⟨rfl, hb⟩; refine ⟨_, rfl, ?_⟩; have n0_ := Aside0.mk (Kd.R_below (by (with_reducible repeat (first | apply Kd.R_alloc | apply Kd.R_drewN | apply Kd.R_drew)); exact HO_36.out) hb); have n1_ := Aside0.mk (below_step (by repeat (first | (with_reducible first | exact HB.out | apply below_alloc | apply pw_below_drewN | apply below_drew1) | exact HB.out)) hb); clear HO_36; clear HB; have HO_36 := n0_; have HB := n1_; clear n0_ n1_; (try clear hb); (try clear hb2); (try clear hk); (try clear hi)))
                                go_ret
                                exact ⟨by first | rfl | (simp [errW_none, errW_some] <;> rfl) | (simp only [← hji5]; first | rfl | (simp [errW_none, errW_some] <;> rfl)) | (simp [*, errW_none, errW_some] <;> rfl), by repeat (first | (with_reducible first | exact HB.out | apply below_alloc | apply pw_below_drewN | apply below_drew1) | exact HB.out)⟩
                              · rw [if_neg c42] at H
                                have c42b0 : decide ((tt_.size : Int) < t173) = false := decide_eq_false c42
                                clear c42
                                by_cases c44 : 0 ≤ (rd y163 x38_1)
                                · rw [if_pos c44] at H
                                  have c44b0 := eq_true c44
                                  have c44b1 : decide (0 ≤ (rd y163 x38_1)) = true := decide_eq_true c44
                                  clear c44
                                  by_cases c45 : (rd y163 x38_1) ≤ t173
                                  · rw [if_pos c45] at H
                                    have c45b0 := eq_true c45
                                    have c45b1 : decide ((rd y163 x38_1) ≤ t173) = true := decide_eq_true c45
                                    clear c45
                                    by_cases c46 : t173 ≤ (tt_.size : Int)
                                    · rw [if_pos c46] at H
                                      have c46b0 := eq_true c46
                                      have c46b1 : decide (t173 ≤ (tt_.size : Int)) = true := decide_eq_true c46
                                      by_cases c47 : (tt_.extract ((rd y163 x38_1) : Int).toNat (t173 : Int).toNat).toList = t175.toList
                                      · rw [if_pos c47] at H
                                        have c47b0 : ((tt_.extract ((rd y163 x38_1) : Int).toNat (t173 : Int).toNat).toList == t175.toList) = true := beq_iff_eq.mpr c47
                                        have c47b1 : ((tt_.extract ((rd y163 x38_1) : Int).toNat (t173 : Int).toNat).toList != t175.toList) = false := bne_eq_false_iff_eq.mpr c47
                                        clear c47
                                        have H' := Aside0.mk H
                                        clear H
                                        go_wp2_with (first | ((with_reducible refine gate_callee (f := 17) rfl ?_); refine goesL_ (some 98) rfl rfl Tryd.func17 (by kernel_rfl) rfl #[.string tt_, .int .i64 (rd y163 x38_1)] rfl (by (try simp only [List.map_toArray, List.map_cons, List.map_nil]); first | done | (simp only [hji5]; rfl) | rfl | (simp only [List.length_drop, List.length_take]; rfl) | (simp only [ByteArray.size_extract, ByteArray.size_append, Nat.sub_zero]; done) | (simp only [ByteArray.size_extract, ByteArray.size_append, Nat.sub_zero]; (rw [IntWalk.wrap64_in _ (by omega)]) <;> rfl)) ?_; (with_reducible refine (Pa.wire_String.calls kj22 tt_ (rd y163 x38_1) t172 t173 t174 _ A36.out).mono ?_); rintro e w' ⟨rfl, ⟨nd, rfl⟩⟩; refine ⟨_, rfl, ?_⟩) | ((with_reducible refine gate_callee (f := 19) rfl ?_); refine goesL_ (some 104) rfl rfl Tryd.func19 (by kernel_rfl) rfl #[.string t172] rfl (by (try simp only [List.map_toArray, List.map_cons, List.map_nil]); first | done | rfl | (simp only [List.length_drop, List.length_take]; rfl) | (simp only [ByteArray.size_extract, ByteArray.size_append, Nat.sub_zero]; done) | (simp only [ByteArray.size_extract, ByteArray.size_append, Nat.sub_zero]; (rw [IntWalk.wrap64_in _ (by omega)]) <;> rfl)) ?_; (with_reducible refine (Pa.wire_PutString.calls t172 t175 t176 _ A37.out).mono ?_); rintro e w48 ⟨rfl, hb⟩; refine ⟨_, rfl, ?_⟩; have n0_ := Aside0.mk (Kd.R_below (by (with_reducible repeat (first | apply Kd.R_alloc | apply Kd.R_drewN | apply Kd.R_drew)); exact HO_36.out) hb); have n1_ := Aside0.mk (below_step (by repeat (first | (with_reducible first | exact HB.out | apply below_alloc | apply pw_below_drewN | apply below_drew1) | exact HB.out)) hb); clear HO_36; clear HB; have HO_36 := n0_; have HB := n1_; clear n0_ n1_; (try clear hb); (try clear hb2); (try clear hk); (try clear hi)))
                                        go_roundg kj22
                                        case measure => have := HK1.out; have := HJ22.out; omega
                                        case rel => exact ⟨(wrap64 (x38_1 + 1)), (by first | rfl | (simp; done) | (simp [*]; done)), H', ⟨by have := HK1.out; have := HJ22.out; omega⟩, ⟨by (with_reducible repeat (first | apply Kd.R_alloc | apply Kd.R_drewN | apply Kd.R_drew)); exact HO_36.out⟩, ⟨by repeat (first | (with_reducible first | exact HB.out | apply below_alloc | apply pw_below_drewN | apply below_drew1) | exact HB.out)⟩⟩
                                      · rw [if_neg c47] at H
                                        have c47b0 : ((tt_.extract ((rd y163 x38_1) : Int).toNat (t173 : Int).toNat).toList == t175.toList) = false := beq_eq_false_iff_ne.mpr c47
                                        have c47b1 : ((tt_.extract ((rd y163 x38_1) : Int).toNat (t173 : Int).toNat).toList != t175.toList) = true := bne_iff_ne.mpr c47
                                        obtain rfl := Option.some.inj H
                                        go_wp2_with (first | ((with_reducible refine gate_callee (f := 17) rfl ?_); refine goesL_ (some 98) rfl rfl Tryd.func17 (by kernel_rfl) rfl #[.string tt_, .int .i64 (rd y163 x38_1)] rfl (by (try simp only [List.map_toArray, List.map_cons, List.map_nil]); first | done | (simp only [hji5]; rfl) | rfl | (simp only [List.length_drop, List.length_take]; rfl) | (simp only [ByteArray.size_extract, ByteArray.size_append, Nat.sub_zero]; done) | (simp only [ByteArray.size_extract, ByteArray.size_append, Nat.sub_zero]; (rw [IntWalk.wrap64_in _ (by omega)]) <;> rfl)) ?_; (with_reducible refine (Pa.wire_String.calls kj22 tt_ (rd y163 x38_1) t172 t173 t174 _ A36.out).mono ?_); rintro e w' ⟨rfl, ⟨nd, rfl⟩⟩; refine ⟨_, rfl, ?_⟩) | ((with_reducible refine gate_callee (f := 19) rfl ?_); refine goesL_ (some 104) rfl rfl Tryd.func19 (by kernel_rfl) rfl #[.string t172] rfl (by (try simp only [List.map_toArray, List.map_cons, List.map_nil]); first | done | rfl | (simp only [List.length_drop, List.length_take]; rfl) | (simp only [ByteArray.size_extract, ByteArray.size_append, Nat.sub_zero]; done) | (simp only [ByteArray.size_extract, ByteArray.size_append, Nat.sub_zero]; (rw [IntWalk.wrap64_in _ (by omega)]) <;> rfl)) ?_; (with_reducible refine (Pa.wire_PutString.calls t172 t175 t176 _ A37.out).mono ?_); rintro e w49 ⟨rfl, hb⟩; refine ⟨_, rfl, ?_⟩; have n0_ := Aside0.mk (Kd.R_below (by (with_reducible repeat (first | apply Kd.R_alloc | apply Kd.R_drewN | apply Kd.R_drew)); exact HO_36.out) hb); have n1_ := Aside0.mk (below_step (by repeat (first | (with_reducible first | exact HB.out | apply below_alloc | apply pw_below_drewN | apply below_drew1) | exact HB.out)) hb); clear HO_36; clear HB; have HO_36 := n0_; have HB := n1_; clear n0_ n1_; (try clear hb); (try clear hb2); (try clear hk); (try clear hi)))
                                        go_ret
                                        exact ⟨by first | rfl | (simp [errW_none, errW_some] <;> rfl) | (simp only [← hji5]; first | rfl | (simp [errW_none, errW_some] <;> rfl)) | (simp [*, errW_none, errW_some] <;> rfl), by repeat (first | (with_reducible first | exact HB.out | apply below_alloc | apply pw_below_drewN | apply below_drew1) | exact HB.out)⟩
                                    · rw [if_neg c46] at H
                                      exact absurd H (by simp)
                                  · rw [if_neg c45] at H
                                    exact absurd H (by simp)
                                · rw [if_neg c44] at H
                                  exact absurd H (by simp)
                          · rw [if_neg c39] at H
                            have c39b0 : (t176 == 0) = false := beq_eq_false_iff_ne.mpr c39
                            have c39b1 : (t176 != 0) = true := bne_iff_ne.mpr c39
                            obtain rfl := Option.some.inj H
                            go_wp2_with (first | ((with_reducible refine gate_callee (f := 17) rfl ?_); refine goesL_ (some 98) rfl rfl Tryd.func17 (by kernel_rfl) rfl #[.string tt_, .int .i64 (rd y163 x38_1)] rfl (by (try simp only [List.map_toArray, List.map_cons, List.map_nil]); first | done | (simp only [hji5]; rfl) | rfl | (simp only [List.length_drop, List.length_take]; rfl) | (simp only [ByteArray.size_extract, ByteArray.size_append, Nat.sub_zero]; done) | (simp only [ByteArray.size_extract, ByteArray.size_append, Nat.sub_zero]; (rw [IntWalk.wrap64_in _ (by omega)]) <;> rfl)) ?_; (with_reducible refine (Pa.wire_String.calls kj22 tt_ (rd y163 x38_1) t172 t173 t174 _ A36.out).mono ?_); rintro e w' ⟨rfl, ⟨nd, rfl⟩⟩; refine ⟨_, rfl, ?_⟩) | ((with_reducible refine gate_callee (f := 19) rfl ?_); refine goesL_ (some 104) rfl rfl Tryd.func19 (by kernel_rfl) rfl #[.string t172] rfl (by (try simp only [List.map_toArray, List.map_cons, List.map_nil]); first | done | rfl | (simp only [List.length_drop, List.length_take]; rfl) | (simp only [ByteArray.size_extract, ByteArray.size_append, Nat.sub_zero]; done) | (simp only [ByteArray.size_extract, ByteArray.size_append, Nat.sub_zero]; (rw [IntWalk.wrap64_in _ (by omega)]) <;> rfl)) ?_; (with_reducible refine (Pa.wire_PutString.calls t172 t175 t176 _ A37.out).mono ?_); rintro e w50 ⟨rfl, hb⟩; refine ⟨_, rfl, ?_⟩; have n0_ := Aside0.mk (Kd.R_below (by (with_reducible repeat (first | apply Kd.R_alloc | apply Kd.R_drewN | apply Kd.R_drew)); exact HO_36.out) hb); have n1_ := Aside0.mk (below_step (by repeat (first | (with_reducible first | exact HB.out | apply below_alloc | apply pw_below_drewN | apply below_drew1) | exact HB.out)) hb); clear HO_36; clear HB; have HO_36 := n0_; have HB := n1_; clear n0_ n1_; (try clear hb); (try clear hb2); (try clear hk); (try clear hi)))
                            go_ret
                            exact ⟨by first | rfl | (simp [errW_none, errW_some] <;> rfl) | (simp only [← hji5]; first | rfl | (simp [errW_none, errW_some] <;> rfl)) | (simp [*, errW_none, errW_some] <;> rfl), by repeat (first | (with_reducible first | exact HB.out | apply below_alloc | apply pw_below_drewN | apply below_drew1) | exact HB.out)⟩
                        · rw [if_neg c38] at H
                          have c38b0 : (t174 == 0) = false := beq_eq_false_iff_ne.mpr c38
                          have c38b1 : (t174 != 0) = true := bne_iff_ne.mpr c38
                          by_cases c51 : t174 = 10
                          · rw [if_pos c51] at H
                            have c51b0 : (t174 == 10) = true := beq_iff_eq.mpr c51
                            have c51b1 : (t174 != 10) = false := bne_eq_false_iff_eq.mpr c51
                            clear c51
                            by_cases c52 : t172.toList = ([] : List UInt8)
                            · rw [if_pos c52] at H
                              have c52b0 : (t172.toList == ([] : List UInt8)) = true := beq_iff_eq.mpr c52
                              have c52b1 : (t172.toList != ([] : List UInt8)) = false := bne_eq_false_iff_eq.mpr c52
                              clear c52
                              by_cases c53 : t173 = 0
                              · rw [if_pos c53] at H
                                have c53b0 : (t173 == 0) = true := beq_iff_eq.mpr c53
                                have c53b1 : (t173 != 0) = false := bne_eq_false_iff_eq.mpr c53
                                clear c53
                                have H' := Aside0.mk H
                                clear H
                                go_wp2_with (first | ((with_reducible refine gate_callee (f := 17) rfl ?_); refine goesL_ (some 98) rfl rfl Tryd.func17 (by kernel_rfl) rfl #[.string tt_, .int .i64 (rd y163 x38_1)] rfl (by (try simp only [List.map_toArray, List.map_cons, List.map_nil]); first | done | (simp only [hji5]; rfl) | rfl | (simp only [List.length_drop, List.length_take]; rfl) | (simp only [ByteArray.size_extract, ByteArray.size_append, Nat.sub_zero]; done) | (simp only [ByteArray.size_extract, ByteArray.size_append, Nat.sub_zero]; (rw [IntWalk.wrap64_in _ (by omega)]) <;> rfl)) ?_; (with_reducible refine (Pa.wire_String.calls kj22 tt_ (rd y163 x38_1) t172 t173 t174 _ A36.out).mono ?_); rintro e w' ⟨rfl, ⟨nd, rfl⟩⟩; refine ⟨_, rfl, ?_⟩) | ((with_reducible refine gate_callee (f := 19) rfl ?_); refine goesL_ (some 104) rfl rfl Tryd.func19 (by kernel_rfl) rfl #[.string t172] rfl (by (try simp only [List.map_toArray, List.map_cons, List.map_nil]); first | done | rfl | (simp only [List.length_drop, List.length_take]; rfl) | (simp only [ByteArray.size_extract, ByteArray.size_append, Nat.sub_zero]; done) | (simp only [ByteArray.size_extract, ByteArray.size_append, Nat.sub_zero]; (rw [IntWalk.wrap64_in _ (by omega)]) <;> rfl)) ?_; (with_reducible refine (Pa.wire_PutString.calls t172 t175 t176 _ A37.out).mono ?_); rintro e w54 ⟨rfl, hb⟩; refine ⟨_, rfl, ?_⟩; have n0_ := Aside0.mk (Kd.R_below (by (with_reducible repeat (first | apply Kd.R_alloc | apply Kd.R_drewN | apply Kd.R_drew)); exact HO_36.out) hb); have n1_ := Aside0.mk (below_step (by repeat (first | (with_reducible first | exact HB.out | apply below_alloc | apply pw_below_drewN | apply below_drew1) | exact HB.out)) hb); clear HO_36; clear HB; have HO_36 := n0_; have HB := n1_; clear n0_ n1_; (try clear hb); (try clear hb2); (try clear hk); (try clear hi)))
                                go_roundg kj22
                                case measure => have := HK1.out; have := HJ22.out; omega
                                case rel => exact ⟨(wrap64 (x38_1 + 1)), (by first | rfl | (simp; done) | (simp [*]; done)), H', ⟨by have := HK1.out; have := HJ22.out; omega⟩, ⟨by (with_reducible repeat (first | apply Kd.R_alloc | apply Kd.R_drewN | apply Kd.R_drew)); exact HO_36.out⟩, ⟨by repeat (first | (with_reducible first | exact HB.out | apply below_alloc | apply pw_below_drewN | apply below_drew1) | exact HB.out)⟩⟩
                              · rw [if_neg c53] at H
                                have c53b0 : (t173 == 0) = false := beq_eq_false_iff_ne.mpr c53
                                have c53b1 : (t173 != 0) = true := bne_iff_ne.mpr c53
                                obtain rfl := Option.some.inj H
                                go_wp2_with (first | ((with_reducible refine gate_callee (f := 17) rfl ?_); refine goesL_ (some 98) rfl rfl Tryd.func17 (by kernel_rfl) rfl #[.string tt_, .int .i64 (rd y163 x38_1)] rfl (by (try simp only [List.map_toArray, List.map_cons, List.map_nil]); first | done | (simp only [hji5]; rfl) | rfl | (simp only [List.length_drop, List.length_take]; rfl) | (simp only [ByteArray.size_extract, ByteArray.size_append, Nat.sub_zero]; done) | (simp only [ByteArray.size_extract, ByteArray.size_append, Nat.sub_zero]; (rw [IntWalk.wrap64_in _ (by omega)]) <;> rfl)) ?_; (with_reducible refine (Pa.wire_String.calls kj22 tt_ (rd y163 x38_1) t172 t173 t174 _ A36.out).mono ?_); rintro e w' ⟨rfl, ⟨nd, rfl⟩⟩; refine ⟨_, rfl, ?_⟩) | ((with_reducible refine gate_callee (f := 19) rfl ?_); refine goesL_ (some 104) rfl rfl Tryd.func19 (by kernel_rfl) rfl #[.string t172] rfl (by (try simp only [List.map_toArray, List.map_cons, List.map_nil]); first | done | rfl | (simp only [List.length_drop, List.length_take]; rfl) | (simp only [ByteArray.size_extract, ByteArray.size_append, Nat.sub_zero]; done) | (simp only [ByteArray.size_extract, ByteArray.size_append, Nat.sub_zero]; (rw [IntWalk.wrap64_in _ (by omega)]) <;> rfl)) ?_; (with_reducible refine (Pa.wire_PutString.calls t172 t175 t176 _ A37.out).mono ?_); rintro e w55 ⟨rfl, hb⟩; refine ⟨_, rfl, ?_⟩; have n0_ := Aside0.mk (Kd.R_below (by (with_reducible repeat (first | apply Kd.R_alloc | apply Kd.R_drewN | apply Kd.R_drew)); exact HO_36.out) hb); have n1_ := Aside0.mk (below_step (by repeat (first | (with_reducible first | exact HB.out | apply below_alloc | apply pw_below_drewN | apply below_drew1) | exact HB.out)) hb); clear HO_36; clear HB; have HO_36 := n0_; have HB := n1_; clear n0_ n1_; (try clear hb); (try clear hb2); (try clear hk); (try clear hi)))
                                go_ret
                                exact ⟨by first | rfl | (simp [errW_none, errW_some] <;> rfl) | (simp only [← hji5]; first | rfl | (simp [errW_none, errW_some] <;> rfl)) | (simp [*, errW_none, errW_some] <;> rfl), by repeat (first | (with_reducible first | exact HB.out | apply below_alloc | apply pw_below_drewN | apply below_drew1) | exact HB.out)⟩
                            · rw [if_neg c52] at H
                              have c52b0 : (t172.toList == ([] : List UInt8)) = false := beq_eq_false_iff_ne.mpr c52
                              have c52b1 : (t172.toList != ([] : List UInt8)) = true := bne_iff_ne.mpr c52
                              obtain rfl := Option.some.inj H
                              go_wp2_with (first | ((with_reducible refine gate_callee (f := 17) rfl ?_); refine goesL_ (some 98) rfl rfl Tryd.func17 (by kernel_rfl) rfl #[.string tt_, .int .i64 (rd y163 x38_1)] rfl (by (try simp only [List.map_toArray, List.map_cons, List.map_nil]); first | done | (simp only [hji5]; rfl) | rfl | (simp only [List.length_drop, List.length_take]; rfl) | (simp only [ByteArray.size_extract, ByteArray.size_append, Nat.sub_zero]; done) | (simp only [ByteArray.size_extract, ByteArray.size_append, Nat.sub_zero]; (rw [IntWalk.wrap64_in _ (by omega)]) <;> rfl)) ?_; (with_reducible refine (Pa.wire_String.calls kj22 tt_ (rd y163 x38_1) t172 t173 t174 _ A36.out).mono ?_); rintro e w' ⟨rfl, ⟨nd, rfl⟩⟩; refine ⟨_, rfl, ?_⟩) | ((with_reducible refine gate_callee (f := 19) rfl ?_); refine goesL_ (some 104) rfl rfl Tryd.func19 (by kernel_rfl) rfl #[.string t172] rfl (by (try simp only [List.map_toArray, List.map_cons, List.map_nil]); first | done | rfl | (simp only [List.length_drop, List.length_take]; rfl) | (simp only [ByteArray.size_extract, ByteArray.size_append, Nat.sub_zero]; done) | (simp only [ByteArray.size_extract, ByteArray.size_append, Nat.sub_zero]; (rw [IntWalk.wrap64_in _ (by omega)]) <;> rfl)) ?_; (with_reducible refine (Pa.wire_PutString.calls t172 t175 t176 _ A37.out).mono ?_); rintro e w56 ⟨rfl, hb⟩; refine ⟨_, rfl, ?_⟩; have n0_ := Aside0.mk (Kd.R_below (by (with_reducible repeat (first | apply Kd.R_alloc | apply Kd.R_drewN | apply Kd.R_drew)); exact HO_36.out) hb); have n1_ := Aside0.mk (below_step (by repeat (first | (with_reducible first | exact HB.out | apply below_alloc | apply pw_below_drewN | apply below_drew1) | exact HB.out)) hb); clear HO_36; clear HB; have HO_36 := n0_; have HB := n1_; clear n0_ n1_; (try clear hb); (try clear hb2); (try clear hk); (try clear hi)))
                              go_ret
                              exact ⟨by first | rfl | (simp [errW_none, errW_some] <;> rfl) | (simp only [← hji5]; first | rfl | (simp [errW_none, errW_some] <;> rfl)) | (simp [*, errW_none, errW_some] <;> rfl), by repeat (first | (with_reducible first | exact HB.out | apply below_alloc | apply pw_below_drewN | apply below_drew1) | exact HB.out)⟩
                          · rw [if_neg c51] at H
                            have c51b0 : (t174 == 10) = false := beq_eq_false_iff_ne.mpr c51
                            have c51b1 : (t174 != 10) = true := bne_iff_ne.mpr c51
                            obtain rfl := Option.some.inj H
                            go_wp2_with (first | ((with_reducible refine gate_callee (f := 17) rfl ?_); refine goesL_ (some 98) rfl rfl Tryd.func17 (by kernel_rfl) rfl #[.string tt_, .int .i64 (rd y163 x38_1)] rfl (by (try simp only [List.map_toArray, List.map_cons, List.map_nil]); first | done | (simp only [hji5]; rfl) | rfl | (simp only [List.length_drop, List.length_take]; rfl) | (simp only [ByteArray.size_extract, ByteArray.size_append, Nat.sub_zero]; done) | (simp only [ByteArray.size_extract, ByteArray.size_append, Nat.sub_zero]; (rw [IntWalk.wrap64_in _ (by omega)]) <;> rfl)) ?_; (with_reducible refine (Pa.wire_String.calls kj22 tt_ (rd y163 x38_1) t172 t173 t174 _ A36.out).mono ?_); rintro e w' ⟨rfl, ⟨nd, rfl⟩⟩; refine ⟨_, rfl, ?_⟩) | ((with_reducible refine gate_callee (f := 19) rfl ?_); refine goesL_ (some 104) rfl rfl Tryd.func19 (by kernel_rfl) rfl #[.string t172] rfl (by (try simp only [List.map_toArray, List.map_cons, List.map_nil]); first | done | rfl | (simp only [List.length_drop, List.length_take]; rfl) | (simp only [ByteArray.size_extract, ByteArray.size_append, Nat.sub_zero]; done) | (simp only [ByteArray.size_extract, ByteArray.size_append, Nat.sub_zero]; (rw [IntWalk.wrap64_in _ (by omega)]) <;> rfl)) ?_; (with_reducible refine (Pa.wire_PutString.calls t172 t175 t176 _ A37.out).mono ?_); rintro e w57 ⟨rfl, hb⟩; refine ⟨_, rfl, ?_⟩; have n0_ := Aside0.mk (Kd.R_below (by (with_reducible repeat (first | apply Kd.R_alloc | apply Kd.R_drewN | apply Kd.R_drew)); exact HO_36.out) hb); have n1_ := Aside0.mk (below_step (by repeat (first | (with_reducible first | exact HB.out | apply below_alloc | apply pw_below_drewN | apply below_drew1) | exact HB.out)) hb); clear HO_36; clear HB; have HO_36 := n0_; have HB := n1_; clear n0_ n1_; (try clear hb); (try clear hb2); (try clear hk); (try clear hi)))
                            go_ret
                            exact ⟨by first | rfl | (simp [errW_none, errW_some] <;> rfl) | (simp only [← hji5]; first | rfl | (simp [errW_none, errW_some] <;> rfl)) | (simp [*, errW_none, errW_some] <;> rfl), by repeat (first | (with_reducible first | exact HB.out | apply below_alloc | apply pw_below_drewN | apply below_drew1) | exact HB.out)⟩
                · rw [if_neg c20] at H
                  exact absurd H (by simp)
              · rw [if_neg c19] at H
                exact absurd H (by simp)
            · rw [if_neg c18] at H
              have c18b0 : decide (x38_1 < (y163.length : Int)) = false := decide_eq_false c18
              clear c18
              obtain rfl := Option.some.inj H
              go_wp2
              go_ret
              exact ⟨by first | rfl | (simp [errW_none, errW_some] <;> rfl) | (simp only [← hji5]; first | rfl | (simp [errW_none, errW_some] <;> rfl)) | (simp [*, errW_none, errW_some] <;> rfl), by repeat (first | (with_reducible first | exact HB.out | apply below_alloc | apply pw_below_drewN | apply below_drew1) | exact HB.out)⟩
      · rw [if_neg c8] at H
        exact absurd H (by simp)
    · rw [if_neg c7] at H
      exact absurd H (by simp)
  · rw [if_neg c6] at H
    exact absurd H (by simp)

/-- THE ONE PURE STATEMENT of yardsticklaw01_WireUnique: yours. -/
def yardsticklaw01_WireUnique.Pure : Prop := ∀ (a0 : ByteArray) (a1 : Int) (a2 : Int), a0.size ≤ 140737488351232 → (Lit.int .i64 a1).wf = true → (Lit.int .u8 a2).wf = true → ∃ k, yardsticklaw01_WireUnique.f k a0 a1 a2 = some true
theorem yardsticklaw01_WireUnique.walk (P : yardsticklaw01_WireUnique.Pure) (a0 : ByteArray) (a1 : Int) (a2 : Int) (w : World) (HG : Aside0 (Laid w)) (w0 : a0.size ≤ 140737488351232) (w1 : (Lit.int .i64 a1).wf = true) (w2 : (Lit.int .u8 a2).wf = true) :
    Calls Tryd.prog 5 #[.string a0, .int .i64 a1, .int .u8 a2] w fun e w' => e = .returned (.bool true) ∧ Below w.heap.size w w' := by
  obtain ⟨k, h⟩ := P a0 a1 a2 w0 w1 w2
  refine (yardsticklaw01_WireUnique.calls k a0 a1 a2 true w HG h).mono ?_
  rintro e w' ⟨rfl, hd⟩
  exact ⟨rfl, hd⟩

end Go.Proofs.YtffalfonmooinaaDoor.Pr
