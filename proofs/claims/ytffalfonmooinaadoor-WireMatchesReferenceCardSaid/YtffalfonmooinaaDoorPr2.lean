-- Written by a patched scratch copy of the kit's print program (wip/tools of this session's repo), not by print.sh.
import Derived.Test.YtffalfonmooinaaDoorPr0
import Derived.Test.YtffalfonmooinaaDoorPr1
namespace Go.Proofs.YtffalfonmooinaaDoor.Pr
open Go.RowKit Go.Proofs.YtffalfonmooinaaDoorW.PrintWords Go.Proofs.YtffalfonmooinaaDoorW.PrintLast Go.Proofs.YtffalfonmooinaaDoorW.PrintMore
attribute [local go_sem] max2_int min2_int max_two min_two max_three min_three max_four min_four   -- for this text's walks alone
set_option linter.unusedVariables false
set_option linter.unusedSimpArgs false

/-! ### yardstickref01_PutString: function 20 -/
def yardstickref01_PutString.f (k : Nat) (a0 : ByteArray) : Option (ByteArray × Int) := if (a0.size : Int) > 65536 then (some ((⟨#[]⟩ : ByteArray), 10)) else ((yardstickref01_PutInt.f k (a0.size : Int)).bind fun bt123 => (if bt123.1.size + a0.size ≤ 9223372036854775807 then (some (bt123.1 ++ a0, 0)) else (none)))
theorem yardstickref01_PutString.mono : ∀ a0 k, LeO (yardstickref01_PutString.f k a0) (yardstickref01_PutString.f (k + 1) a0) := by
  intro a0 k
  unfold yardstickref01_PutString.f
  repeat' first
      | (with_reducible exact yardstickref01_PutInt.mono _ _)
      | (with_reducible exact LeO.refl _)
      | (with_reducible exact LeO.none _)
      | (with_reducible refine LeO.ite ?_ ?_)
      | (with_reducible refine LeO.bind ?_ (fun _ => ?_))
      | exact yardstickref01_PutInt.mono _ _
      | exact LeO.none _
      | refine LeO.ite ?_ ?_
      | refine LeO.bind ?_ (fun _ => ?_)
set_option maxHeartbeats 8000000 in
set_option maxRecDepth 100000 in
theorem yardstickref01_PutString.calls (k : Nat) (a0 : ByteArray) (r1 : ByteArray) (r2 : Int) (w : World) (h : yardstickref01_PutString.f k a0 = some (r1, r2)) :
    Calls Tryd.prog 20 #[.string a0] w fun e w' => e = .returned (.tuple #[.string r1, .int .i64 r2]) ∧ Below w.heap.size w w' := by
  have HB := Aside0.mk (Below.refl w.heap.size w)
  have H : (if (a0.size : Int) > 65536 then (some ((⟨#[]⟩ : ByteArray), 10)) else ((yardstickref01_PutInt.f k (a0.size : Int)).bind fun bt123 => (if bt123.1.size + a0.size ≤ 9223372036854775807 then (some (bt123.1 ++ a0, 0)) else (none)))) = some (r1, r2) := h
  clear h
  by_cases c2 : (a0.size : Int) > 65536
  · rw [if_pos c2] at H
    have c2b0 : decide (65536 < (a0.size : Int)) = true := decide_eq_true c2
    have c2b1 : decide (65536 < a0.size) = true := decide_eq_true (by omega)
    clear c2
    simp only [Option.some.injEq, Prod.mk.injEq] at H
    obtain ⟨rfl, rfl⟩ := H
    go_enter Tryd.func20, Tryd.ntmps20
    go_wp2
    go_ret2
    exact ⟨by first | rfl | (simp [errW_none, errW_some] <;> rfl) | (simp [*, errW_none, errW_some] <;> rfl), by repeat (first | (with_reducible first | exact HB.out | apply below_alloc | apply pw_below_drewN | apply below_drew1) | exact HB.out)⟩
  · rw [if_neg c2] at H
    have c2b0 : decide (65536 < (a0.size : Int)) = false := decide_eq_false c2
    have c2b1 : decide (65536 < a0.size) = false := decide_eq_false (by omega)
    clear c2
    replace H := Option.bind_eq_some_iff.mp H
    obtain ⟨⟨t123, t124⟩, A30, H⟩ := H
    replace H : (if t123.size + a0.size ≤ 9223372036854775807 then (some (t123 ++ a0, 0)) else (none)) = some (r1, r2) := H
    have A3 := Aside0.mk A30
    clear A30
    by_cases c4 : t123.size + a0.size ≤ 9223372036854775807
    · rw [if_pos c4] at H
      have c4b0 := eq_true c4
      have c4b1 : decide (t123.size + a0.size ≤ 9223372036854775807) = true := decide_eq_true c4
      try have c4b2 : (9223372036854775807 < t123.size + a0.size) = False := eq_false (Nat.not_lt.2 c4)
      simp only [Option.some.injEq, Prod.mk.injEq] at H
      obtain ⟨rfl, rfl⟩ := H
      go_enter Tryd.func20, Tryd.ntmps20
      go_wp2_with (first | ((with_reducible refine gate_callee (f := 13) rfl ?_); refine goesL_ (some 12) rfl rfl Tryd.func13 (by kernel_rfl) rfl #[.int .i64 (a0.size : Int)] rfl (by (try simp only [List.map_toArray, List.map_cons, List.map_nil]); first | done | rfl | (simp only [List.length_drop, List.length_take]; rfl) | (simp only [ByteArray.size_extract, ByteArray.size_append, Nat.sub_zero]; done) | (simp only [ByteArray.size_extract, ByteArray.size_append, Nat.sub_zero]; (rw [IntWalk.wrap64_in _ (by omega)]) <;> rfl)) ?_; (with_reducible refine (yardstickref01_PutInt.calls k (a0.size : Int) t123 t124 _ A3.out).mono ?_); rintro e w5 ⟨rfl, hb⟩; refine ⟨_, rfl, ?_⟩; have n0_ := Aside0.mk (below_step (by repeat (first | (with_reducible first | exact HB.out | apply below_alloc | apply pw_below_drewN | apply below_drew1) | exact HB.out)) hb); clear HB; have HB := n0_; clear n0_; (try clear hb); (try clear hb2); (try clear hk); (try clear hi)))
      go_ret2
      exact ⟨by first | rfl | (simp [errW_none, errW_some] <;> rfl) | (simp [*, errW_none, errW_some] <;> rfl), by repeat (first | (with_reducible first | exact HB.out | apply below_alloc | apply pw_below_drewN | apply below_drew1) | exact HB.out)⟩
    · rw [if_neg c4] at H
      exact absurd H (by simp)

/-! ### yardstickref01_Sum: function 22 -/
mutual
def yardstickref01_Sum.l0 : Nat → ByteArray → Int → Int → Option (Int)
  | 0, _, _, _ => none
  | k + 1, x0, x3, x4 => if x4 < (x0.size : Int) then (if 0 ≤ x4 then (yardstickref01_Sum.l1 k x0 (Go.bits .xor .u32 x3 ((bt x0 x4) % 4294967296)) x4 0) else (none)) else (some (wrap64 (Go.bits .xor .u32 IntKind.u32.max x3)))
def yardstickref01_Sum.l1 : Nat → ByteArray → Int → Int → Int → Option (Int)
  | 0, _, _, _, _ => none
  | k + 1, x0, x3, x4, x5 => if x5 < 8 then (if (Int.tmod x3 2) = 1 then (yardstickref01_Sum.l1 k x0 (Go.bits .xor .u32 ((Int.tdiv x3 2) % 4294967296) 2197175160) x4 (wrap64 (x5 + 1))) else (yardstickref01_Sum.l1 k x0 ((Int.tdiv x3 2) % 4294967296) x4 (wrap64 (x5 + 1)))) else (yardstickref01_Sum.l0 k x0 x3 (wrap64 (x4 + 1)))
end
def yardstickref01_Sum.f (k : Nat) (a0 : ByteArray) : Option (Int) := yardstickref01_Sum.l0 k a0 4294967295 0
theorem yardstickref01_Sum.mono_l : ∀ k, (∀ y0 y1 y2, LeO (yardstickref01_Sum.l0 k y0 y1 y2) (yardstickref01_Sum.l0 (k + 1) y0 y1 y2)) ∧ (∀ y0 y1 y2 y3, LeO (yardstickref01_Sum.l1 k y0 y1 y2 y3) (yardstickref01_Sum.l1 (k + 1) y0 y1 y2 y3))
  | 0 => ⟨fun _ _ _ r h => by simp [yardstickref01_Sum.l0] at h, fun _ _ _ _ r h => by simp [yardstickref01_Sum.l1] at h⟩
  | k + 1 => by
    obtain ⟨ih0, ih1⟩ := yardstickref01_Sum.mono_l k
    refine ⟨?_, ?_⟩
    · intro y0 y1 y2
      unfold yardstickref01_Sum.l0
      repeat' first
      | (with_reducible exact ih0 _ _ _)
      | (with_reducible exact ih1 _ _ _ _)
      | (with_reducible exact LeO.refl _)
      | (with_reducible exact LeO.none _)
      | (with_reducible refine LeO.ite ?_ ?_)
      | (with_reducible refine LeO.bind ?_ (fun _ => ?_))
      | exact ih0 _ _ _
      | exact ih1 _ _ _ _
      | exact LeO.none _
      | refine LeO.ite ?_ ?_
      | refine LeO.bind ?_ (fun _ => ?_)
    · intro y0 y1 y2 y3
      unfold yardstickref01_Sum.l1
      repeat' first
      | (with_reducible exact ih0 _ _ _)
      | (with_reducible exact ih1 _ _ _ _)
      | (with_reducible exact LeO.refl _)
      | (with_reducible exact LeO.none _)
      | (with_reducible refine LeO.ite ?_ ?_)
      | (with_reducible refine LeO.bind ?_ (fun _ => ?_))
      | exact ih0 _ _ _
      | exact ih1 _ _ _ _
      | exact LeO.none _
      | refine LeO.ite ?_ ?_
      | refine LeO.bind ?_ (fun _ => ?_)
theorem yardstickref01_Sum.mono : ∀ a0 k, LeO (yardstickref01_Sum.f k a0) (yardstickref01_Sum.f (k + 1) a0) := by
  intro a0 k
  obtain ⟨ih0, ih1⟩ := yardstickref01_Sum.mono_l k
  unfold yardstickref01_Sum.f
  repeat' first
      | (with_reducible exact ih0 _ _ _)
      | (with_reducible exact ih1 _ _ _ _)
      | (with_reducible exact LeO.refl _)
      | (with_reducible exact LeO.none _)
      | (with_reducible refine LeO.ite ?_ ?_)
      | (with_reducible refine LeO.bind ?_ (fun _ => ?_))
      | exact ih0 _ _ _
      | exact ih1 _ _ _ _
      | exact LeO.none _
      | refine LeO.ite ?_ ?_
      | refine LeO.bind ?_ (fun _ => ?_)
set_option maxHeartbeats 8000000 in
set_option maxRecDepth 100000 in
theorem yardstickref01_Sum.calls (k : Nat) (a0 : ByteArray) (r : Int) (w : World) (h : yardstickref01_Sum.f k a0 = some r) :
    Calls Tryd.prog 22 #[.string a0] w fun e w' => e = .returned (.int .i64 r) ∧ Drawn0 w w' := by
  have H : (yardstickref01_Sum.l0 k a0 4294967295 0) = some r := h
  clear h
  have H' := Aside0.mk H
  clear H
  go_enter Tryd.func22, Tryd.ntmps22
  go_wp2
  go_loopg [3, 4] k (fun kq v3 v4 w' => ∃ (x3_1 : Int) (x4_1 : Int), v3 = .int .u32 x3_1 ∧ v4 = .int .i64 x4_1 ∧ Aside0 (yardstickref01_Sum.l0 kq a0 x3_1 x4_1 = some r) ∧ Aside0 (kq ≤ k) ∧ Drawn0 w w')
  case atStart => exact ⟨(4294967295), (0), (by first | rfl | (simp; done) | (simp [*]; done)), (by first | rfl | (simp; done) | (simp [*]; done)), H', ⟨Nat.le_refl _⟩, by repeat (first | exact Drawn0.refl _ | apply Drawn0.step)⟩
  case round =>
    clear H'
    obtain ⟨x3_1, x4_1, rfl, rfl, HA, HK1, ⟨m1, rfl⟩⟩ := hrel
    cases gk with
    | zero => exact absurd HA.out (by simp [yardstickref01_Sum.l0])
    | succ k1 =>
      have H := HA.out
      clear HA
      simp only [yardstickref01_Sum.l0] at H
      by_cases c2 : x4_1 < (a0.size : Int)
      · rw [if_pos c2] at H
        have c2b0 : decide (x4_1 < (a0.size : Int)) = true := decide_eq_true c2
        clear c2
        by_cases c3 : 0 ≤ x4_1
        · rw [if_pos c3] at H
          have c3b0 : decide (0 ≤ x4_1) = true := decide_eq_true c3
          clear c3
          have H' := Aside0.mk H
          clear H
          have p4 : 0 ≤ (x4_1 : Int) := of_decide_eq_true (by first | (with_reducible assumption) | assumption)
          have q4 : x4_1 < (a0.size : Int) := of_decide_eq_true (by first | (with_reducible assumption) | assumption)
          have hx4 := bt_at a0 x4_1
          replace p4 := eq_true p4
          replace q4 := eq_true q4
          go_wp2
          go_loopg [3, 5] k1 (fun kq v3 v5 w' => ∃ (x3_2 : Int) (x5_2 : Int), v3 = .int .u32 x3_2 ∧ v5 = .int .i64 x5_2 ∧ Aside0 (yardstickref01_Sum.l1 kq a0 x3_2 x4_1 x5_2 = some r) ∧ Aside0 (kq ≤ k1) ∧ Drawn0 w w')
          case atStart => exact ⟨(Go.bits .xor .u32 x3_1 ((bt a0 x4_1) % 4294967296)), (0), (by first | rfl | (simp; done) | (simp [*]; done)), (by first | rfl | (simp; done) | (simp [*]; done)), H', ⟨Nat.le_refl _⟩, by repeat (first | exact Drawn0.refl _ | apply Drawn0.step)⟩
          case round =>
            clear H'
            try clear c2
            try clear c2b0
            try clear p2
            try clear c3
            try clear c3b0
            try clear p4
            try clear q4
            try clear hx4
            try clear p4
            try clear q4
            obtain ⟨x3_2, x5_2, rfl, rfl, HA, HK2, ⟨m2, rfl⟩⟩ := hrel
            cases gk with
            | zero => exact absurd HA.out (by simp [yardstickref01_Sum.l1])
            | succ k2 =>
              have H := HA.out
              clear HA
              simp only [yardstickref01_Sum.l1] at H
              by_cases c5 : x5_2 < 8
              · rw [if_pos c5] at H
                have c5b0 : decide (x5_2 < 8) = true := decide_eq_true c5
                clear c5
                by_cases c6 : (Int.tmod x3_2 2) = 1
                · rw [if_pos c6] at H
                  have c6b0 : ((Int.tmod x3_2 2) == 1) = true := beq_iff_eq.mpr c6
                  have c6b1 : ((Int.tmod x3_2 2) != 1) = false := bne_eq_false_iff_eq.mpr c6
                  clear c6
                  have H' := Aside0.mk H
                  clear H
                  go_wp2
                  go_roundg k2
                  case measure => have := HK1.out; have := HK2.out; omega
                  case rel => exact ⟨(Go.bits .xor .u32 ((Int.tdiv x3_2 2) % 4294967296) 2197175160), (wrap64 (x5_2 + 1)), (by first | rfl | (simp; done) | (simp [*]; done)), (by first | rfl | (simp; done) | (simp [*]; done)), H', ⟨by have := HK1.out; have := HK2.out; omega⟩, by repeat (first | exact Drawn0.refl _ | apply Drawn0.step)⟩
                · rw [if_neg c6] at H
                  have c6b0 : ((Int.tmod x3_2 2) == 1) = false := beq_eq_false_iff_ne.mpr c6
                  have c6b1 : ((Int.tmod x3_2 2) != 1) = true := bne_iff_ne.mpr c6
                  have H' := Aside0.mk H
                  clear H
                  go_wp2
                  go_roundg k2
                  case measure => have := HK1.out; have := HK2.out; omega
                  case rel => exact ⟨((Int.tdiv x3_2 2) % 4294967296), (wrap64 (x5_2 + 1)), (by first | rfl | (simp; done) | (simp [*]; done)), (by first | rfl | (simp; done) | (simp [*]; done)), H', ⟨by have := HK1.out; have := HK2.out; omega⟩, by repeat (first | exact Drawn0.refl _ | apply Drawn0.step)⟩
              · rw [if_neg c5] at H
                have c5b0 : decide (x5_2 < 8) = false := decide_eq_false c5
                clear c5
                have H' := Aside0.mk H
                clear H
                go_wp2
                go_roundg k2
                case measure => have := HK1.out; have := HK2.out; omega
                case rel => exact ⟨(x3_2), (wrap64 (x4_1 + 1)), (by first | rfl | (simp; done) | (simp [*]; done)), (by first | rfl | (simp; done) | (simp [*]; done)), H', ⟨by have := HK1.out; have := HK2.out; omega⟩, by repeat (first | exact Drawn0.refl _ | apply Drawn0.step)⟩
        · rw [if_neg c3] at H
          exact absurd H (by simp)
      · rw [if_neg c2] at H
        have c2b0 : decide (x4_1 < (a0.size : Int)) = false := decide_eq_false c2
        clear c2
        obtain rfl := Option.some.inj H
        go_wp2
        go_ret
        exact ⟨by first | rfl | (simp; done) | (simp [*]; done), by repeat (first | exact Drawn0.refl _ | apply Drawn0.step)⟩

/-! ### yardsticklaw01_WireMatchesReference: function 3 -/
mutual
def yardsticklaw01_WireMatchesReference.l0 : Nat → Int → Bool → ByteArray → List Int → Int → Int → Option (Bool)
  | 0, _, _, _, _, _, _ => none
  | k + 1, x2, x7, x8, x42, x43, x44 => if x44 < x43 then (if 0 ≤ x44 then (if x44 < (x42.length : Int) then ((wire_PutInt.f (rd x42 x44)).bind fun bt131 => ((yardstickref01_PutInt.f k (rd x42 x44)).bind fun bt133 => (if bt131.1.toList = bt133.1.toList then (if bt131.2 = bt133.2 then (yardsticklaw01_WireMatchesReference.l0 k x2 x7 x8 x42 x43 (wrap64 (x44 + 1))) else (some false)) else (some false)))) else (none)) else (none)) else ((yardsticklaw01_pick.f x2 (wrap64 ((x8.size : Int) + 2))).bind fun t135 => ((some (([x2, t135] : List Int) : List Int)).bind fun y136 => (yardsticklaw01_WireMatchesReference.l1 k x7 x8 y136 (y136.length : Int) 0)))
def yardsticklaw01_WireMatchesReference.l1 : Nat → Bool → ByteArray → List Int → Int → Int → Option (Bool)
  | 0, _, _, _, _, _ => none
  | k + 1, x7, x8, x73, x74, x75 => if x75 < x74 then (if 0 ≤ x75 then (if x75 < (x73.length : Int) then ((Pa.wire_Int.f k x8 (rd x73 x75)).bind fun bt140 => ((yardstickref01_Int.f k x8 (rd x73 x75)).bind fun bt143 => ((Pa.wire_String.f k x8 (rd x73 x75)).bind fun bt146 => ((yardstickref01_String.f k x8 (rd x73 x75)).bind fun bt149 => (if bt140.1 = bt143.1 then (if bt140.2.1 = bt143.2.1 then (if bt140.2.2 = bt143.2.2 then (if bt146.1.toList = bt149.1.toList then (if bt146.2.1 = bt149.2.1 then (if bt146.2.2 = bt149.2.2 then (yardsticklaw01_WireMatchesReference.l1 k x7 x8 x73 x74 (wrap64 (x75 + 1))) else (some false)) else (some false)) else (some false)) else (some false)) else (some false)) else (some false)))))) else (none)) else (none)) else ((Pa.wire_PutString.f x8).bind fun bt152 => ((yardstickref01_PutString.f k x8).bind fun bt154 => (if x7 = true then (if bt152.1.toList = bt154.1.toList then (if bt152.2 = bt154.2 then ((wire_Sum.f x8).bind fun t156 => ((yardstickref01_Sum.f k x8).bind fun t157 => (some (t156 == t157)))) else (some false)) else (some false)) else (some false))))
end
def yardsticklaw01_WireMatchesReference.f (k : Nat) (a0 : Int) (a1 : ByteArray) (a2 : Int) : Option (Bool) := (sane.f).bind fun t125 => (if 0 ≤ (mn (a1.size : Int) 300) then (if (mn (a1.size : Int) 300) ≤ (a1.size : Int) then ((yardsticklaw01_NumberFrom.f a0).bind fun t126 => ((some (([a0, t126] : List Int) : List Int)).bind fun y127 => (yardsticklaw01_WireMatchesReference.l0 k a2 t125 (a1.extract 0 ((mn (a1.size : Int) 300) : Int).toNat) y127 (y127.length : Int) 0))) else (none)) else (none))
theorem yardsticklaw01_WireMatchesReference.mono_l : ∀ k, (∀ y0 y1 y2 y3 y4 y5, LeO (yardsticklaw01_WireMatchesReference.l0 k y0 y1 y2 y3 y4 y5) (yardsticklaw01_WireMatchesReference.l0 (k + 1) y0 y1 y2 y3 y4 y5)) ∧ (∀ y0 y1 y2 y3 y4, LeO (yardsticklaw01_WireMatchesReference.l1 k y0 y1 y2 y3 y4) (yardsticklaw01_WireMatchesReference.l1 (k + 1) y0 y1 y2 y3 y4))
  | 0 => ⟨fun _ _ _ _ _ _ r h => by simp [yardsticklaw01_WireMatchesReference.l0] at h, fun _ _ _ _ _ r h => by simp [yardsticklaw01_WireMatchesReference.l1] at h⟩
  | k + 1 => by
    obtain ⟨ih0, ih1⟩ := yardsticklaw01_WireMatchesReference.mono_l k
    refine ⟨?_, ?_⟩
    · intro y0 y1 y2 y3 y4 y5
      unfold yardsticklaw01_WireMatchesReference.l0
      repeat' first
      | (with_reducible exact ih0 _ _ _ _ _ _)
      | (with_reducible exact ih1 _ _ _ _ _)
      | (with_reducible exact Pa.wire_Int.mono _ _ _)
      | (with_reducible exact Pa.wire_String.mono _ _ _)
      | (with_reducible exact yardstickref01_Int.mono _ _ _)
      | (with_reducible exact yardstickref01_PutInt.mono _ _)
      | (with_reducible exact yardstickref01_PutString.mono _ _)
      | (with_reducible exact yardstickref01_String.mono _ _ _)
      | (with_reducible exact yardstickref01_Sum.mono _ _)
      | (with_reducible exact LeO.refl _)
      | (with_reducible exact LeO.none _)
      | (with_reducible refine LeO.ite ?_ ?_)
      | (with_reducible refine LeO.bind ?_ (fun _ => ?_))
      | exact ih0 _ _ _ _ _ _
      | exact ih1 _ _ _ _ _
      | exact Pa.wire_Int.mono _ _ _
      | exact Pa.wire_String.mono _ _ _
      | exact yardstickref01_Int.mono _ _ _
      | exact yardstickref01_PutInt.mono _ _
      | exact yardstickref01_PutString.mono _ _
      | exact yardstickref01_String.mono _ _ _
      | exact yardstickref01_Sum.mono _ _
      | exact LeO.none _
      | refine LeO.ite ?_ ?_
      | refine LeO.bind ?_ (fun _ => ?_)
    · intro y0 y1 y2 y3 y4
      unfold yardsticklaw01_WireMatchesReference.l1
      repeat' first
      | (with_reducible exact ih0 _ _ _ _ _ _)
      | (with_reducible exact ih1 _ _ _ _ _)
      | (with_reducible exact Pa.wire_Int.mono _ _ _)
      | (with_reducible exact Pa.wire_String.mono _ _ _)
      | (with_reducible exact yardstickref01_Int.mono _ _ _)
      | (with_reducible exact yardstickref01_PutInt.mono _ _)
      | (with_reducible exact yardstickref01_PutString.mono _ _)
      | (with_reducible exact yardstickref01_String.mono _ _ _)
      | (with_reducible exact yardstickref01_Sum.mono _ _)
      | (with_reducible exact LeO.refl _)
      | (with_reducible exact LeO.none _)
      | (with_reducible refine LeO.ite ?_ ?_)
      | (with_reducible refine LeO.bind ?_ (fun _ => ?_))
      | exact ih0 _ _ _ _ _ _
      | exact ih1 _ _ _ _ _
      | exact Pa.wire_Int.mono _ _ _
      | exact Pa.wire_String.mono _ _ _
      | exact yardstickref01_Int.mono _ _ _
      | exact yardstickref01_PutInt.mono _ _
      | exact yardstickref01_PutString.mono _ _
      | exact yardstickref01_String.mono _ _ _
      | exact yardstickref01_Sum.mono _ _
      | exact LeO.none _
      | refine LeO.ite ?_ ?_
      | refine LeO.bind ?_ (fun _ => ?_)
theorem yardsticklaw01_WireMatchesReference.mono : ∀ a0 a1 a2 k, LeO (yardsticklaw01_WireMatchesReference.f k a0 a1 a2) (yardsticklaw01_WireMatchesReference.f (k + 1) a0 a1 a2) := by
  intro a0 a1 a2 k
  obtain ⟨ih0, ih1⟩ := yardsticklaw01_WireMatchesReference.mono_l k
  unfold yardsticklaw01_WireMatchesReference.f
  repeat' first
      | (with_reducible exact ih0 _ _ _ _ _ _)
      | (with_reducible exact ih1 _ _ _ _ _)
      | (with_reducible exact Pa.wire_Int.mono _ _ _)
      | (with_reducible exact Pa.wire_String.mono _ _ _)
      | (with_reducible exact yardstickref01_Int.mono _ _ _)
      | (with_reducible exact yardstickref01_PutInt.mono _ _)
      | (with_reducible exact yardstickref01_PutString.mono _ _)
      | (with_reducible exact yardstickref01_String.mono _ _ _)
      | (with_reducible exact yardstickref01_Sum.mono _ _)
      | (with_reducible exact LeO.refl _)
      | (with_reducible exact LeO.none _)
      | (with_reducible refine LeO.ite ?_ ?_)
      | (with_reducible refine LeO.bind ?_ (fun _ => ?_))
      | exact ih0 _ _ _ _ _ _
      | exact ih1 _ _ _ _ _
      | exact Pa.wire_Int.mono _ _ _
      | exact Pa.wire_String.mono _ _ _
      | exact yardstickref01_Int.mono _ _ _
      | exact yardstickref01_PutInt.mono _ _
      | exact yardstickref01_PutString.mono _ _
      | exact yardstickref01_String.mono _ _ _
      | exact yardstickref01_Sum.mono _ _
      | exact LeO.none _
      | refine LeO.ite ?_ ?_
      | refine LeO.bind ?_ (fun _ => ?_)
set_option maxHeartbeats 8000000 in
set_option maxRecDepth 100000 in
theorem yardsticklaw01_WireMatchesReference.calls (k : Nat) (a0 : Int) (a1 : ByteArray) (a2 : Int) (r : Bool) (w : World) (HG : Aside0 (Laid w)) (h : yardsticklaw01_WireMatchesReference.f k a0 a1 a2 = some r) :
    Calls Tryd.prog 3 #[.int .i64 a0, .string a1, .int .i64 a2] w fun e w' => e = .returned (.bool r) ∧ Below w.heap.size w w' := by
  have HB := Aside0.mk (Below.refl w.heap.size w)
  have H : ((sane.f).bind fun t125 => (if 0 ≤ (mn (a1.size : Int) 300) then (if (mn (a1.size : Int) 300) ≤ (a1.size : Int) then ((yardsticklaw01_NumberFrom.f a0).bind fun t126 => ((some (([a0, t126] : List Int) : List Int)).bind fun y127 => (yardsticklaw01_WireMatchesReference.l0 k a2 t125 (a1.extract 0 ((mn (a1.size : Int) 300) : Int).toNat) y127 (y127.length : Int) 0))) else (none)) else (none))) = some r := h
  clear h
  replace H := Option.bind_eq_some_iff.mp H
  obtain ⟨t125, A40, H⟩ := H
  replace H : (if 0 ≤ (mn (a1.size : Int) 300) then (if (mn (a1.size : Int) 300) ≤ (a1.size : Int) then ((yardsticklaw01_NumberFrom.f a0).bind fun t126 => ((some (([a0, t126] : List Int) : List Int)).bind fun y127 => (yardsticklaw01_WireMatchesReference.l0 k a2 t125 (a1.extract 0 ((mn (a1.size : Int) 300) : Int).toNat) y127 (y127.length : Int) 0))) else (none)) else (none)) = some r := H
  have A4 := Aside0.mk A40
  clear A40
  obtain ⟨ji5, hji5⟩ : ∃ j_ : Int, (mn (a1.size : Int) 300) = j_ := ⟨_, rfl⟩
  replace H : (if 0 ≤ (ji5) then (if (ji5) ≤ (a1.size : Int) then ((yardsticklaw01_NumberFrom.f a0).bind fun t126 => ((some (([a0, t126] : List Int) : List Int)).bind fun y127 => (yardsticklaw01_WireMatchesReference.l0 k a2 t125 (a1.extract 0 ((ji5) : Int).toNat) y127 (y127.length : Int) 0))) else (none)) else (none)) = some r := by first | (rw [hji5] at H; exact H) | (simp only [hji5] at H ⊢; exact H)
  (try rw [hji5] at A4)
  (try (have hji5h : ji5 ≤ 300 := by (rw [← hji5]; unfold mn; (repeat' split) <;> omega)))
  (try (have hji5g : ji5 ≤ 64 := by omega))
  (try (have hji5l : 0 ≤ ji5 := by (rw [← hji5]; unfold mn; (repeat' split) <;> omega)))
  (try (have hji5m : 0 ≤ ji5 := by omega))
  have hji5_ : (if 300 < (a1.size : Int) then 300 else (a1.size : Int)) = ji5 := hji5
  (try (have hji5n := hji5_; simp only [Int.ofNat_lt] at hji5n))
  by_cases c6 : 0 ≤ (ji5)
  · rw [if_pos c6] at H
    have c6b0 := eq_true c6
    have c6b1 : decide (0 ≤ (ji5)) = true := decide_eq_true c6
    clear c6
    by_cases c7 : (ji5) ≤ (a1.size : Int)
    · rw [if_pos c7] at H
      have c7b0 := eq_true c7
      have c7b1 : decide ((ji5) ≤ (a1.size : Int)) = true := decide_eq_true c7
      clear c7
      replace H := Option.bind_eq_some_iff.mp H
      obtain ⟨t126, A80, H⟩ := H
      replace H : ((some (([a0, t126] : List Int) : List Int)).bind fun y127 => (yardsticklaw01_WireMatchesReference.l0 k a2 t125 (a1.extract 0 ((ji5) : Int).toNat) y127 (y127.length : Int) 0)) = some r := H
      have A8 := Aside0.mk A80
      clear A80
      obtain ⟨y127, hy127⟩ : ∃ y_ : List Int, y_ = (([a0, t126] : List Int)) := ⟨_, rfl⟩
      replace H : (yardsticklaw01_WireMatchesReference.l0 k a2 t125 (a1.extract 0 ((ji5) : Int).toNat) y127 (y127.length : Int) 0) = some r := by first | (rw [hy127]; with_reducible exact H) | (have H2_ := (Option.bind_some _ _).symm.trans H; rw [hy127]; with_reducible exact H2_) | (have H2_ := (Option.bind_some _ _).symm.trans H; with_reducible exact H2_) | with_reducible exact H | (rw [hy127]; exact H) | exact H
      have Ny127 := Aside0.mk hy127
      clear hy127
      have H' := Aside0.mk H
      clear H
      go_enter Tryd.func3, Tryd.ntmps3
      go_wp2_with (first | ((with_reducible refine gate_callee (f := 10) rfl ?_); refine goesL_ (some 33) rfl rfl Tryd.func10 (by kernel_rfl) rfl #[] rfl (by (try simp only [List.map_toArray, List.map_cons, List.map_nil]); first | done | rfl | (simp only [List.length_drop, List.length_take]; rfl) | (simp only [ByteArray.size_extract, ByteArray.size_append, Nat.sub_zero]; done) | (simp only [ByteArray.size_extract, ByteArray.size_append, Nat.sub_zero]; (rw [IntWalk.wrap64_in _ (by omega)]) <;> rfl)) ?_; (with_reducible refine (sane.calls  t125 _ ?side1 A4.out).mono ?_); (case side1 => exact Aside0.mk (Laid.below HG.out (by repeat (first | (with_reducible first | exact HB.out | apply below_alloc | apply pw_below_drewN | apply below_drew1) | exact HB.out)))); rintro e w9 ⟨rfl, hb⟩; refine ⟨_, rfl, ?_⟩; have n0_ := Aside0.mk (below_step (by repeat (first | (with_reducible first | exact HB.out | apply below_alloc | apply pw_below_drewN | apply below_drew1) | exact HB.out)) hb); clear HB; have HB := n0_; clear n0_; (try clear hb); (try clear hb2); (try clear hk); (try clear hi)) | ((with_reducible refine gate_callee (f := 11) rfl ?_); refine goesL_ (some 41) rfl rfl Tryd.func11 (by kernel_rfl) rfl #[.int .i64 a0] rfl (by (try simp only [List.map_toArray, List.map_cons, List.map_nil]); first | done | rfl | (simp only [List.length_drop, List.length_take]; rfl) | (simp only [ByteArray.size_extract, ByteArray.size_append, Nat.sub_zero]; done) | (simp only [ByteArray.size_extract, ByteArray.size_append, Nat.sub_zero]; (rw [IntWalk.wrap64_in _ (by omega)]) <;> rfl)) ?_; (with_reducible refine (yardsticklaw01_NumberFrom.calls a0 t126 _ A8.out).mono ?_); rintro e w10 ⟨rfl, hb⟩; refine ⟨_, rfl, ?_⟩; have n0_ := Aside0.mk (below_step (by repeat (first | (with_reducible first | exact HB.out | apply below_alloc | apply pw_below_drewN | apply below_drew1) | exact HB.out)) hb); clear HB; have HB := n0_; clear n0_; (try clear hb); (try clear hb2); (try clear hk); (try clear hi)) | ((with_reducible refine gate_dst (N := 42) rfl ?_); refine Kd.R_lit (Kd.int .i64) _ 3 ?hg (N := 42) ?hd (xs := ([a0, t126] : List Int)) (inner := [.int .i64 a0, .int .i64 t126]) (ok := fun _ => True) (okp := fun _ => True) ?hr ?hp (fun _ hk => hk) trivial (Below.refl _ _) (Nat.le_refl _) (by simp) ?_; (case hd => rfl); (case hg => rfl); (case hr => first | (go_simp; done) | (go_simp; rfl)); (case hp => exact (Reps.one (show Kd.M (Kd.int .i64) _ _ _ a0 [.int .i64 a0] from rfl) (Reps.one (show Kd.M (Kd.int .i64) _ _ _ t126 [.int .i64 t126] from rfl) (Reps.none _ _)))); intro v128 w11 ho12 hb hg_ hnew_; clear hg_ hnew_; (first | rw [← Ny127.out] at ho12 | (simp only [Int.reduceToNat] at ho12; rw [← Ny127.out] at ho12)); have n0_ := Aside0.mk (Kd.R_lower ho12 (below_size (by repeat (first | (with_reducible first | exact HB.out | apply below_alloc | apply pw_below_drewN | apply below_drew1) | exact HB.out)))); have n1_ := Aside0.mk (below_step (by repeat (first | (with_reducible first | exact HB.out | apply below_alloc | apply pw_below_drewN | apply below_drew1) | exact HB.out)) hb); clear HB; have HO129 := n0_; have HB := n1_; clear n0_ n1_; clear hb ho12; obtain ⟨Ao13, co13, eo13⟩ := Kd.R_slice HO129.out; subst eo13))
      go_loopg [44] k (fun kq v44 w' => ∃ (x44_1 : Int), v44 = .int .i64 x44_1 ∧ Aside0 (yardsticklaw01_WireMatchesReference.l0 kq a2 t125 (a1.extract 0 ((ji5) : Int).toNat) y127 (y127.length : Int) x44_1 = some r) ∧ Aside0 (kq ≤ k) ∧ Aside0 (Kd.R (Kd.int .i64) 3 w' w.heap.size (fun _ => True) (.slice Ao13 y127.length co13) y127) ∧ Aside0 (Below w.heap.size w w'))
      case atStart => exact ⟨(0), (by first | rfl | (simp; done) | (simp [*]; done)), H', ⟨Nat.le_refl _⟩, ⟨by (with_reducible repeat (first | apply Kd.R_alloc | apply Kd.R_drewN | apply Kd.R_drew)); exact HO129.out⟩, ⟨by repeat (first | (with_reducible first | exact HB.out | apply below_alloc | apply pw_below_drewN | apply below_drew1) | exact HB.out)⟩⟩
      case round =>
        clear H'
        try clear c1
        try clear p2
        try clear c3
        try clear c6
        try clear c6b0
        try clear c6b1
        try clear p6
        try clear c7
        try clear c7b0
        try clear c7b1
        try clear c10
        try clear c11
        obtain ⟨x44_1, rfl, HA, HK1, HO_42, HB⟩ := hrel
        cases gk with
        | zero => exact absurd HA.out (by simp [yardsticklaw01_WireMatchesReference.l0])
        | succ k1 =>
          have H := HA.out
          clear HA
          simp only [yardsticklaw01_WireMatchesReference.l0] at H
          by_cases c14 : x44_1 < (y127.length : Int)
          · rw [if_pos c14] at H
            have c14b0 : decide (x44_1 < (y127.length : Int)) = true := decide_eq_true c14
            clear c14
            by_cases c15 : 0 ≤ x44_1
            · rw [if_pos c15] at H
              have c15b0 : decide (0 ≤ x44_1) = true := decide_eq_true c15
              clear c15
              by_cases c16 : x44_1 < (y127.length : Int)
              · rw [if_pos c16] at H
                have c16b0 : decide (x44_1 < (y127.length : Int)) = true := decide_eq_true c16
                clear c16
                replace H := Option.bind_eq_some_iff.mp H
                obtain ⟨⟨t131, t132⟩, A170, H⟩ := H
                replace H : ((yardstickref01_PutInt.f k1 (rd y127 x44_1)).bind fun bt133 => (if t131.toList = bt133.1.toList then (if t132 = bt133.2 then (yardsticklaw01_WireMatchesReference.l0 k1 a2 t125 (a1.extract 0 ((ji5) : Int).toNat) y127 (y127.length : Int) (wrap64 (x44_1 + 1))) else (some false)) else (some false))) = some r := H
                have A17 := Aside0.mk A170
                clear A170
                replace H := Option.bind_eq_some_iff.mp H
                obtain ⟨⟨t133, t134⟩, A180, H⟩ := H
                replace H : (if t131.toList = t133.toList then (if t132 = t134 then (yardsticklaw01_WireMatchesReference.l0 k1 a2 t125 (a1.extract 0 ((ji5) : Int).toNat) y127 (y127.length : Int) (wrap64 (x44_1 + 1))) else (some false)) else (some false)) = some r := H
                have A18 := Aside0.mk A180
                clear A180
                by_cases c19 : t131.toList = t133.toList
                · rw [if_pos c19] at H
                  have c19b0 : (t131.toList == t133.toList) = true := beq_iff_eq.mpr c19
                  have c19b1 : (t131.toList != t133.toList) = false := bne_eq_false_iff_eq.mpr c19
                  clear c19
                  by_cases c20 : t132 = t134
                  · rw [if_pos c20] at H
                    have c20b0 : (t132 == t134) = true := beq_iff_eq.mpr c20
                    have c20b1 : (t132 != t134) = false := bne_eq_false_iff_eq.mpr c20
                    clear c20
                    have H' := Aside0.mk H
                    clear H
                    have p130 : 0 ≤ (x44_1 : Int) := of_decide_eq_true (by first | (with_reducible assumption) | assumption)
                    have q130 : x44_1 < (y127.length : Int) := of_decide_eq_true (by first | (with_reducible assumption) | assumption)
                    obtain ⟨ad130, e130, hx130_0⟩ := Kd.at_int (Kd.R_reads' HO_42.out).2.2 x44_1 p130 q130
                    cases e130
                    replace p130 := eq_true p130
                    replace q130 := eq_true q130
                    go_wp2_with (first | ((with_reducible refine gate_callee (f := 12) rfl ?_); refine goesL_ (some 50) rfl rfl Tryd.func12 (by kernel_rfl) rfl #[.int .i64 (rd y127 x44_1)] rfl (by (try simp only [List.map_toArray, List.map_cons, List.map_nil]); first | done | rfl | (simp only [List.length_drop, List.length_take]; rfl) | (simp only [ByteArray.size_extract, ByteArray.size_append, Nat.sub_zero]; done) | (simp only [ByteArray.size_extract, ByteArray.size_append, Nat.sub_zero]; (rw [IntWalk.wrap64_in _ (by omega)]) <;> rfl)) ?_; (with_reducible refine (wire_PutInt.calls (rd y127 x44_1) t131 t132 _ A17.out).mono ?_); rintro e w21 ⟨rfl, hb⟩; refine ⟨_, rfl, ?_⟩; have n0_ := Aside0.mk (Kd.R_below (by (with_reducible repeat (first | apply Kd.R_alloc | apply Kd.R_drewN | apply Kd.R_drew)); exact HO_42.out) hb); have n1_ := Aside0.mk (below_step (by repeat (first | (with_reducible first | exact HB.out | apply below_alloc | apply pw_below_drewN | apply below_drew1) | exact HB.out)) hb); clear HO_42; clear HB; have HO_42 := n0_; have HB := n1_; clear n0_ n1_; (try clear hb); (try clear hb2); (try clear hk); (try clear hi)) | ((with_reducible refine gate_callee (f := 13) rfl ?_); refine goesL_ (some 55) rfl rfl Tryd.func13 (by kernel_rfl) rfl #[.int .i64 (rd y127 x44_1)] rfl (by (try simp only [List.map_toArray, List.map_cons, List.map_nil]); first | done | rfl | (simp only [List.length_drop, List.length_take]; rfl) | (simp only [ByteArray.size_extract, ByteArray.size_append, Nat.sub_zero]; done) | (simp only [ByteArray.size_extract, ByteArray.size_append, Nat.sub_zero]; (rw [IntWalk.wrap64_in _ (by omega)]) <;> rfl)) ?_; (with_reducible refine (yardstickref01_PutInt.calls k1 (rd y127 x44_1) t133 t134 _ A18.out).mono ?_); rintro e w22 ⟨rfl, hb⟩; refine ⟨_, rfl, ?_⟩; have n0_ := Aside0.mk (Kd.R_below (by (with_reducible repeat (first | apply Kd.R_alloc | apply Kd.R_drewN | apply Kd.R_drew)); exact HO_42.out) hb); have n1_ := Aside0.mk (below_step (by repeat (first | (with_reducible first | exact HB.out | apply below_alloc | apply pw_below_drewN | apply below_drew1) | exact HB.out)) hb); clear HO_42; clear HB; have HO_42 := n0_; have HB := n1_; clear n0_ n1_; (try clear hb); (try clear hb2); (try clear hk); (try clear hi)))
                    go_roundg k1
                    case measure => have := HK1.out; omega
                    case rel => exact ⟨(wrap64 (x44_1 + 1)), (by first | rfl | (simp; done) | (simp [*]; done)), H', ⟨by have := HK1.out; omega⟩, ⟨by (with_reducible repeat (first | apply Kd.R_alloc | apply Kd.R_drewN | apply Kd.R_drew)); exact HO_42.out⟩, ⟨by repeat (first | (with_reducible first | exact HB.out | apply below_alloc | apply pw_below_drewN | apply below_drew1) | exact HB.out)⟩⟩
                  · rw [if_neg c20] at H
                    have c20b0 : (t132 == t134) = false := beq_eq_false_iff_ne.mpr c20
                    have c20b1 : (t132 != t134) = true := bne_iff_ne.mpr c20
                    obtain rfl := Option.some.inj H
                    have p130 : 0 ≤ (x44_1 : Int) := of_decide_eq_true (by first | (with_reducible assumption) | assumption)
                    have q130 : x44_1 < (y127.length : Int) := of_decide_eq_true (by first | (with_reducible assumption) | assumption)
                    obtain ⟨ad130, e130, hx130_0⟩ := Kd.at_int (Kd.R_reads' HO_42.out).2.2 x44_1 p130 q130
                    cases e130
                    replace p130 := eq_true p130
                    replace q130 := eq_true q130
                    go_wp2_with (first | ((with_reducible refine gate_callee (f := 12) rfl ?_); refine goesL_ (some 50) rfl rfl Tryd.func12 (by kernel_rfl) rfl #[.int .i64 (rd y127 x44_1)] rfl (by (try simp only [List.map_toArray, List.map_cons, List.map_nil]); first | done | rfl | (simp only [List.length_drop, List.length_take]; rfl) | (simp only [ByteArray.size_extract, ByteArray.size_append, Nat.sub_zero]; done) | (simp only [ByteArray.size_extract, ByteArray.size_append, Nat.sub_zero]; (rw [IntWalk.wrap64_in _ (by omega)]) <;> rfl)) ?_; (with_reducible refine (wire_PutInt.calls (rd y127 x44_1) t131 t132 _ A17.out).mono ?_); rintro e w23 ⟨rfl, hb⟩; refine ⟨_, rfl, ?_⟩; have n0_ := Aside0.mk (Kd.R_below (by (with_reducible repeat (first | apply Kd.R_alloc | apply Kd.R_drewN | apply Kd.R_drew)); exact HO_42.out) hb); have n1_ := Aside0.mk (below_step (by repeat (first | (with_reducible first | exact HB.out | apply below_alloc | apply pw_below_drewN | apply below_drew1) | exact HB.out)) hb); clear HO_42; clear HB; have HO_42 := n0_; have HB := n1_; clear n0_ n1_; (try clear hb); (try clear hb2); (try clear hk); (try clear hi)) | ((with_reducible refine gate_callee (f := 13) rfl ?_); refine goesL_ (some 55) rfl rfl Tryd.func13 (by kernel_rfl) rfl #[.int .i64 (rd y127 x44_1)] rfl (by (try simp only [List.map_toArray, List.map_cons, List.map_nil]); first | done | rfl | (simp only [List.length_drop, List.length_take]; rfl) | (simp only [ByteArray.size_extract, ByteArray.size_append, Nat.sub_zero]; done) | (simp only [ByteArray.size_extract, ByteArray.size_append, Nat.sub_zero]; (rw [IntWalk.wrap64_in _ (by omega)]) <;> rfl)) ?_; (with_reducible refine (yardstickref01_PutInt.calls k1 (rd y127 x44_1) t133 t134 _ A18.out).mono ?_); rintro e w24 ⟨rfl, hb⟩; refine ⟨_, rfl, ?_⟩; have n0_ := Aside0.mk (Kd.R_below (by (with_reducible repeat (first | apply Kd.R_alloc | apply Kd.R_drewN | apply Kd.R_drew)); exact HO_42.out) hb); have n1_ := Aside0.mk (below_step (by repeat (first | (with_reducible first | exact HB.out | apply below_alloc | apply pw_below_drewN | apply below_drew1) | exact HB.out)) hb); clear HO_42; clear HB; have HO_42 := n0_; have HB := n1_; clear n0_ n1_; (try clear hb); (try clear hb2); (try clear hk); (try clear hi)))
                    go_ret
                    exact ⟨by first | rfl | (simp [errW_none, errW_some] <;> rfl) | (simp only [← hji5]; first | rfl | (simp [errW_none, errW_some] <;> rfl)) | (simp [*, errW_none, errW_some] <;> rfl), by repeat (first | (with_reducible first | exact HB.out | apply below_alloc | apply pw_below_drewN | apply below_drew1) | exact HB.out)⟩
                · rw [if_neg c19] at H
                  have c19b0 : (t131.toList == t133.toList) = false := beq_eq_false_iff_ne.mpr c19
                  have c19b1 : (t131.toList != t133.toList) = true := bne_iff_ne.mpr c19
                  obtain rfl := Option.some.inj H
                  have p130 : 0 ≤ (x44_1 : Int) := of_decide_eq_true (by first | (with_reducible assumption) | assumption)
                  have q130 : x44_1 < (y127.length : Int) := of_decide_eq_true (by first | (with_reducible assumption) | assumption)
                  obtain ⟨ad130, e130, hx130_0⟩ := Kd.at_int (Kd.R_reads' HO_42.out).2.2 x44_1 p130 q130
                  cases e130
                  replace p130 := eq_true p130
                  replace q130 := eq_true q130
                  go_wp2_with (first | ((with_reducible refine gate_callee (f := 12) rfl ?_); refine goesL_ (some 50) rfl rfl Tryd.func12 (by kernel_rfl) rfl #[.int .i64 (rd y127 x44_1)] rfl (by (try simp only [List.map_toArray, List.map_cons, List.map_nil]); first | done | rfl | (simp only [List.length_drop, List.length_take]; rfl) | (simp only [ByteArray.size_extract, ByteArray.size_append, Nat.sub_zero]; done) | (simp only [ByteArray.size_extract, ByteArray.size_append, Nat.sub_zero]; (rw [IntWalk.wrap64_in _ (by omega)]) <;> rfl)) ?_; (with_reducible refine (wire_PutInt.calls (rd y127 x44_1) t131 t132 _ A17.out).mono ?_); rintro e w25 ⟨rfl, hb⟩; refine ⟨_, rfl, ?_⟩; have n0_ := Aside0.mk (Kd.R_below (by (with_reducible repeat (first | apply Kd.R_alloc | apply Kd.R_drewN | apply Kd.R_drew)); exact HO_42.out) hb); have n1_ := Aside0.mk (below_step (by repeat (first | (with_reducible first | exact HB.out | apply below_alloc | apply pw_below_drewN | apply below_drew1) | exact HB.out)) hb); clear HO_42; clear HB; have HO_42 := n0_; have HB := n1_; clear n0_ n1_; (try clear hb); (try clear hb2); (try clear hk); (try clear hi)) | ((with_reducible refine gate_callee (f := 13) rfl ?_); refine goesL_ (some 55) rfl rfl Tryd.func13 (by kernel_rfl) rfl #[.int .i64 (rd y127 x44_1)] rfl (by (try simp only [List.map_toArray, List.map_cons, List.map_nil]); first | done | rfl | (simp only [List.length_drop, List.length_take]; rfl) | (simp only [ByteArray.size_extract, ByteArray.size_append, Nat.sub_zero]; done) | (simp only [ByteArray.size_extract, ByteArray.size_append, Nat.sub_zero]; (rw [IntWalk.wrap64_in _ (by omega)]) <;> rfl)) ?_; (with_reducible refine (yardstickref01_PutInt.calls k1 (rd y127 x44_1) t133 t134 _ A18.out).mono ?_); rintro e w26 ⟨rfl, hb⟩; refine ⟨_, rfl, ?_⟩; have n0_ := Aside0.mk (Kd.R_below (by (with_reducible repeat (first | apply Kd.R_alloc | apply Kd.R_drewN | apply Kd.R_drew)); exact HO_42.out) hb); have n1_ := Aside0.mk (below_step (by repeat (first | (with_reducible first | exact HB.out | apply below_alloc | apply pw_below_drewN | apply below_drew1) | exact HB.out)) hb); clear HO_42; clear HB; have HO_42 := n0_; have HB := n1_; clear n0_ n1_; (try clear hb); (try clear hb2); (try clear hk); (try clear hi)))
                  go_ret
                  exact ⟨by first | rfl | (simp [errW_none, errW_some] <;> rfl) | (simp only [← hji5]; first | rfl | (simp [errW_none, errW_some] <;> rfl)) | (simp [*, errW_none, errW_some] <;> rfl), by repeat (first | (with_reducible first | exact HB.out | apply below_alloc | apply pw_below_drewN | apply below_drew1) | exact HB.out)⟩
              · rw [if_neg c16] at H
                exact absurd H (by simp)
            · rw [if_neg c15] at H
              exact absurd H (by simp)
          · rw [if_neg c14] at H
            have c14b0 : decide (x44_1 < (y127.length : Int)) = false := decide_eq_false c14
            clear c14
            replace H := Option.bind_eq_some_iff.mp H
            obtain ⟨t135, A270, H⟩ := H
            replace H : ((some (([a2, t135] : List Int) : List Int)).bind fun y136 => (yardsticklaw01_WireMatchesReference.l1 k1 t125 (a1.extract 0 ((ji5) : Int).toNat) y136 (y136.length : Int) 0)) = some r := H
            have A27 := Aside0.mk A270
            clear A270
            obtain ⟨y136, hy136⟩ : ∃ y_ : List Int, y_ = (([a2, t135] : List Int)) := ⟨_, rfl⟩
            replace H : (yardsticklaw01_WireMatchesReference.l1 k1 t125 (a1.extract 0 ((ji5) : Int).toNat) y136 (y136.length : Int) 0) = some r := by first | (rw [hy136]; with_reducible exact H) | (have H2_ := (Option.bind_some _ _).symm.trans H; rw [hy136]; with_reducible exact H2_) | (have H2_ := (Option.bind_some _ _).symm.trans H; with_reducible exact H2_) | with_reducible exact H | (rw [hy136]; exact H) | exact H
            have Ny136 := Aside0.mk hy136
            clear hy136
            have H' := Aside0.mk H
            clear H
            go_wp2_with (first | ((with_reducible refine gate_callee (f := 14) rfl ?_); refine goesL_ (some 72) rfl rfl Tryd.func14 (by kernel_rfl) rfl #[.int .i64 a2, .int .i64 (wrap64 (((a1.extract 0 ((ji5) : Int).toNat).size : Int) + 2))] rfl (by (try simp only [List.map_toArray, List.map_cons, List.map_nil]); first | done | (simp only [hji5]; rfl) | rfl | (simp only [List.length_drop, List.length_take]; rfl) | (simp only [ByteArray.size_extract, ByteArray.size_append, Nat.sub_zero]; done) | (simp only [ByteArray.size_extract, ByteArray.size_append, Nat.sub_zero]; (rw [IntWalk.wrap64_in _ (by omega)]) <;> rfl)) ?_; (with_reducible refine (yardsticklaw01_pick.calls a2 (wrap64 (((a1.extract 0 ((ji5) : Int).toNat).size : Int) + 2)) t135 _ A27.out).mono ?_); rintro e w' ⟨rfl, ⟨nd, rfl⟩⟩; refine ⟨_, rfl, ?_⟩) | ((with_reducible refine gate_dst (N := 73) rfl ?_); refine Kd.R_lit (Kd.int .i64) _ 3 ?hg (N := 73) ?hd (xs := ([a2, t135] : List Int)) (inner := [.int .i64 a2, .int .i64 t135]) (ok := fun _ => True) (okp := fun _ => True) ?hr ?hp (fun _ hk => hk) trivial (Below.refl _ _) (Nat.le_refl _) (by simp) ?_; (case hd => rfl); (case hg => rfl); (case hr => first | (go_simp; done) | (go_simp; rfl)); (case hp => exact (Reps.one (show Kd.M (Kd.int .i64) _ _ _ a2 [.int .i64 a2] from rfl) (Reps.one (show Kd.M (Kd.int .i64) _ _ _ t135 [.int .i64 t135] from rfl) (Reps.none _ _)))); intro v137 w28 ho29 hb hg_ hnew_; clear hg_ hnew_; (first | rw [← Ny136.out] at ho29 | (simp only [Int.reduceToNat] at ho29; rw [← Ny136.out] at ho29)); have n0_ := Aside0.mk (Kd.R_elder' (by (with_reducible repeat (first | apply Kd.R_alloc | apply Kd.R_drewN | apply Kd.R_drew)); exact HO_42.out) (Kd.R_base ho29) hb); have n1_ := Aside0.mk (Kd.R_lower (Kd.R_new' ho29 (Kd.R_lt (by (with_reducible repeat (first | apply Kd.R_alloc | apply Kd.R_drewN | apply Kd.R_drew)); exact HO_42.out))) (below_size (by repeat (first | (with_reducible first | exact HB.out | apply below_alloc | apply pw_below_drewN | apply below_drew1) | exact HB.out)))); have n2_ := Aside0.mk (below_step (by repeat (first | (with_reducible first | exact HB.out | apply below_alloc | apply pw_below_drewN | apply below_drew1) | exact HB.out)) hb); clear HO_42; clear HB; have HO_42 := n0_; have HO138 := n1_; have HB := n2_; clear n0_ n1_ n2_; clear hb ho29; obtain ⟨Ao30, co30, eo30⟩ := Kd.R_slice HO138.out; subst eo30))
            go_loopg [75] k1 (fun kq v75 w' => ∃ (x75_2 : Int), v75 = .int .i64 x75_2 ∧ Aside0 (yardsticklaw01_WireMatchesReference.l1 kq t125 (a1.extract 0 ((ji5) : Int).toNat) y136 (y136.length : Int) x75_2 = some r) ∧ Aside0 (kq ≤ k1) ∧ Aside0 (Kd.R (Kd.int .i64) 3 w' w.heap.size (fun _ => True) (.slice Ao30 y136.length co30) y136) ∧ Aside0 (Below w.heap.size w w'))
            case atStart => exact ⟨(0), (by first | rfl | (simp; done) | (simp [*]; done)), H', ⟨Nat.le_refl _⟩, ⟨by (with_reducible repeat (first | apply Kd.R_alloc | apply Kd.R_drewN | apply Kd.R_drew)); exact Kd.R_mono HO138.out (fun _ hk => trivial)⟩, ⟨by repeat (first | (with_reducible first | exact HB.out | apply below_alloc | apply pw_below_drewN | apply below_drew1) | exact HB.out)⟩⟩
            case round =>
              clear H'
              try clear c1
              try clear p1
              try clear q1
              try clear hx1
              try clear c2
              try clear p2
              try clear c3
              try clear c6
              try clear c6b0
              try clear c6b1
              try clear p6
              try clear c7
              try clear c7b0
              try clear c7b1
              try clear c10
              try clear c11
              try clear c12
              try clear c13
              try clear p13
              try clear q13
              try clear hx13
              try clear c14
              try clear c14b0
              try clear c15
              try clear c15b0
              try clear c16
              try clear c16b0
              try clear c19
              try clear c19b0
              try clear c19b1
              try clear c20
              try clear c20b0
              try clear c20b1
              try clear hx130_0
              try clear p130
              try clear p2
              try clear p6
              try clear q130
              obtain ⟨x75_2, rfl, HA, HK2, HO_73, HB⟩ := hrel
              cases gk with
              | zero => exact absurd HA.out (by simp [yardsticklaw01_WireMatchesReference.l1])
              | succ k2 =>
                have H := HA.out
                clear HA
                simp only [yardsticklaw01_WireMatchesReference.l1] at H
                by_cases c31 : x75_2 < (y136.length : Int)
                · rw [if_pos c31] at H
                  have c31b0 : decide (x75_2 < (y136.length : Int)) = true := decide_eq_true c31
                  clear c31
                  by_cases c32 : 0 ≤ x75_2
                  · rw [if_pos c32] at H
                    have c32b0 : decide (0 ≤ x75_2) = true := decide_eq_true c32
                    clear c32
                    by_cases c33 : x75_2 < (y136.length : Int)
                    · rw [if_pos c33] at H
                      have c33b0 : decide (x75_2 < (y136.length : Int)) = true := decide_eq_true c33
                      clear c33
                      replace H := Option.bind_eq_some_iff.mp H
                      obtain ⟨⟨t140, t141, t142⟩, A340, H⟩ := H
                      replace H : ((yardstickref01_Int.f k2 (a1.extract 0 ((ji5) : Int).toNat) (rd y136 x75_2)).bind fun bt143 => ((Pa.wire_String.f k2 (a1.extract 0 ((ji5) : Int).toNat) (rd y136 x75_2)).bind fun bt146 => ((yardstickref01_String.f k2 (a1.extract 0 ((ji5) : Int).toNat) (rd y136 x75_2)).bind fun bt149 => (if t140 = bt143.1 then (if t141 = bt143.2.1 then (if t142 = bt143.2.2 then (if bt146.1.toList = bt149.1.toList then (if bt146.2.1 = bt149.2.1 then (if bt146.2.2 = bt149.2.2 then (yardsticklaw01_WireMatchesReference.l1 k2 t125 (a1.extract 0 ((ji5) : Int).toNat) y136 (y136.length : Int) (wrap64 (x75_2 + 1))) else (some false)) else (some false)) else (some false)) else (some false)) else (some false)) else (some false))))) = some r := H
                      have A34 := Aside0.mk A340
                      clear A340
                      replace H := Option.bind_eq_some_iff.mp H
                      obtain ⟨⟨t143, t144, t145⟩, A350, H⟩ := H
                      replace H : ((Pa.wire_String.f k2 (a1.extract 0 ((ji5) : Int).toNat) (rd y136 x75_2)).bind fun bt146 => ((yardstickref01_String.f k2 (a1.extract 0 ((ji5) : Int).toNat) (rd y136 x75_2)).bind fun bt149 => (if t140 = t143 then (if t141 = t144 then (if t142 = t145 then (if bt146.1.toList = bt149.1.toList then (if bt146.2.1 = bt149.2.1 then (if bt146.2.2 = bt149.2.2 then (yardsticklaw01_WireMatchesReference.l1 k2 t125 (a1.extract 0 ((ji5) : Int).toNat) y136 (y136.length : Int) (wrap64 (x75_2 + 1))) else (some false)) else (some false)) else (some false)) else (some false)) else (some false)) else (some false)))) = some r := H
                      have A35 := Aside0.mk A350
                      clear A350
                      replace H := Option.bind_eq_some_iff.mp H
                      obtain ⟨⟨t146, t147, t148⟩, A360, H⟩ := H
                      replace H : ((yardstickref01_String.f k2 (a1.extract 0 ((ji5) : Int).toNat) (rd y136 x75_2)).bind fun bt149 => (if t140 = t143 then (if t141 = t144 then (if t142 = t145 then (if t146.toList = bt149.1.toList then (if t147 = bt149.2.1 then (if t148 = bt149.2.2 then (yardsticklaw01_WireMatchesReference.l1 k2 t125 (a1.extract 0 ((ji5) : Int).toNat) y136 (y136.length : Int) (wrap64 (x75_2 + 1))) else (some false)) else (some false)) else (some false)) else (some false)) else (some false)) else (some false))) = some r := H
                      have A36 := Aside0.mk A360
                      clear A360
                      replace H := Option.bind_eq_some_iff.mp H
                      obtain ⟨⟨t149, t150, t151⟩, A370, H⟩ := H
                      replace H : (if t140 = t143 then (if t141 = t144 then (if t142 = t145 then (if t146.toList = t149.toList then (if t147 = t150 then (if t148 = t151 then (yardsticklaw01_WireMatchesReference.l1 k2 t125 (a1.extract 0 ((ji5) : Int).toNat) y136 (y136.length : Int) (wrap64 (x75_2 + 1))) else (some false)) else (some false)) else (some false)) else (some false)) else (some false)) else (some false)) = some r := H
                      have A37 := Aside0.mk A370
                      clear A370
                      by_cases c38 : t140 = t143
                      · rw [if_pos c38] at H
                        have c38b0 : (t140 == t143) = true := beq_iff_eq.mpr c38
                        have c38b1 : (t140 != t143) = false := bne_eq_false_iff_eq.mpr c38
                        clear c38
                        by_cases c39 : t141 = t144
                        · rw [if_pos c39] at H
                          have c39b0 : (t141 == t144) = true := beq_iff_eq.mpr c39
                          have c39b1 : (t141 != t144) = false := bne_eq_false_iff_eq.mpr c39
                          clear c39
                          by_cases c40 : t142 = t145
                          · rw [if_pos c40] at H
                            have c40b0 : (t142 == t145) = true := beq_iff_eq.mpr c40
                            have c40b1 : (t142 != t145) = false := bne_eq_false_iff_eq.mpr c40
                            clear c40
                            by_cases c41 : t146.toList = t149.toList
                            · rw [if_pos c41] at H
                              have c41b0 : (t146.toList == t149.toList) = true := beq_iff_eq.mpr c41
                              have c41b1 : (t146.toList != t149.toList) = false := bne_eq_false_iff_eq.mpr c41
                              clear c41
                              by_cases c42 : t147 = t150
                              · rw [if_pos c42] at H
                                have c42b0 : (t147 == t150) = true := beq_iff_eq.mpr c42
                                have c42b1 : (t147 != t150) = false := bne_eq_false_iff_eq.mpr c42
                                clear c42
                                by_cases c43 : t148 = t151
                                · rw [if_pos c43] at H
                                  have c43b0 : (t148 == t151) = true := beq_iff_eq.mpr c43
                                  have c43b1 : (t148 != t151) = false := bne_eq_false_iff_eq.mpr c43
                                  clear c43
                                  have H' := Aside0.mk H
                                  clear H
                                  have p139 : 0 ≤ (x75_2 : Int) := of_decide_eq_true (by first | (with_reducible assumption) | assumption)
                                  have q139 : x75_2 < (y136.length : Int) := of_decide_eq_true (by first | (with_reducible assumption) | assumption)
                                  obtain ⟨ad139, e139, hx139_0⟩ := Kd.at_int (Kd.R_reads' HO_73.out).2.2 x75_2 p139 q139
                                  cases e139
                                  replace p139 := eq_true p139
                                  replace q139 := eq_true q139
                                  go_wp2_with (first | ((with_reducible refine gate_callee (f := 15) rfl ?_); refine goesL_ (some 82) rfl rfl Tryd.func15 (by kernel_rfl) rfl #[.string (a1.extract 0 ((ji5) : Int).toNat), .int .i64 (rd y136 x75_2)] rfl (by (try simp only [List.map_toArray, List.map_cons, List.map_nil]); first | done | (simp only [hji5]; rfl) | rfl | (simp only [List.length_drop, List.length_take]; rfl) | (simp only [ByteArray.size_extract, ByteArray.size_append, Nat.sub_zero]; done) | (simp only [ByteArray.size_extract, ByteArray.size_append, Nat.sub_zero]; (rw [IntWalk.wrap64_in _ (by omega)]) <;> rfl)) ?_; (with_reducible refine (Pa.wire_Int.calls k2 (a1.extract 0 ((ji5) : Int).toNat) (rd y136 x75_2) t140 t141 t142 _ A34.out).mono ?_); rintro e w' ⟨rfl, ⟨nd, rfl⟩⟩; refine ⟨_, rfl, ?_⟩) | ((with_reducible refine gate_callee (f := 16) rfl ?_); refine goesL_ (some 89) rfl rfl Tryd.func16 (by kernel_rfl) rfl #[.string (a1.extract 0 ((ji5) : Int).toNat), .int .i64 (rd y136 x75_2)] rfl (by (try simp only [List.map_toArray, List.map_cons, List.map_nil]); first | done | (simp only [hji5]; rfl) | rfl | (simp only [List.length_drop, List.length_take]; rfl) | (simp only [ByteArray.size_extract, ByteArray.size_append, Nat.sub_zero]; done) | (simp only [ByteArray.size_extract, ByteArray.size_append, Nat.sub_zero]; (rw [IntWalk.wrap64_in _ (by omega)]) <;> rfl)) ?_; (with_reducible refine (yardstickref01_Int.calls k2 (a1.extract 0 ((ji5) : Int).toNat) (rd y136 x75_2) t143 t144 t145 _ A35.out).mono ?_); rintro e w44 ⟨rfl, hb⟩; refine ⟨_, rfl, ?_⟩; have n0_ := Aside0.mk (Kd.R_below (by (with_reducible repeat (first | apply Kd.R_alloc | apply Kd.R_drewN | apply Kd.R_drew)); exact HO_73.out) hb); have n1_ := Aside0.mk (below_step (by repeat (first | (with_reducible first | exact HB.out | apply below_alloc | apply pw_below_drewN | apply below_drew1) | exact HB.out)) hb); clear HO_73; clear HB; have HO_73 := n0_; have HB := n1_; clear n0_ n1_; (try clear hb); (try clear hb2); (try clear hk); (try clear hi)) | ((with_reducible refine gate_callee (f := 17) rfl ?_); refine goesL_ (some 96) rfl rfl Tryd.func17 (by kernel_rfl) rfl #[.string (a1.extract 0 ((ji5) : Int).toNat), .int .i64 (rd y136 x75_2)] rfl (by (try simp only [List.map_toArray, List.map_cons, List.map_nil]); first | done | (simp only [hji5]; rfl) | rfl | (simp only [List.length_drop, List.length_take]; rfl) | (simp only [ByteArray.size_extract, ByteArray.size_append, Nat.sub_zero]; done) | (simp only [ByteArray.size_extract, ByteArray.size_append, Nat.sub_zero]; (rw [IntWalk.wrap64_in _ (by omega)]) <;> rfl)) ?_; (with_reducible refine (Pa.wire_String.calls k2 (a1.extract 0 ((ji5) : Int).toNat) (rd y136 x75_2) t146 t147 t148 _ A36.out).mono ?_); rintro e w' ⟨rfl, ⟨nd, rfl⟩⟩; refine ⟨_, rfl, ?_⟩) | ((with_reducible refine gate_callee (f := 18) rfl ?_); refine goesL_ (some 103) rfl rfl Tryd.func18 (by kernel_rfl) rfl #[.string (a1.extract 0 ((ji5) : Int).toNat), .int .i64 (rd y136 x75_2)] rfl (by (try simp only [List.map_toArray, List.map_cons, List.map_nil]); first | done | (simp only [hji5]; rfl) | rfl | (simp only [List.length_drop, List.length_take]; rfl) | (simp only [ByteArray.size_extract, ByteArray.size_append, Nat.sub_zero]; done) | (simp only [ByteArray.size_extract, ByteArray.size_append, Nat.sub_zero]; (rw [IntWalk.wrap64_in _ (by omega)]) <;> rfl)) ?_; (with_reducible refine (yardstickref01_String.calls k2 (a1.extract 0 ((ji5) : Int).toNat) (rd y136 x75_2) t149 t150 t151 _ A37.out).mono ?_); rintro e w45 ⟨rfl, hb⟩; refine ⟨_, rfl, ?_⟩; have n0_ := Aside0.mk (Kd.R_below (by (with_reducible repeat (first | apply Kd.R_alloc | apply Kd.R_drewN | apply Kd.R_drew)); exact HO_73.out) hb); have n1_ := Aside0.mk (below_step (by repeat (first | (with_reducible first | exact HB.out | apply below_alloc | apply pw_below_drewN | apply below_drew1) | exact HB.out)) hb); clear HO_73; clear HB; have HO_73 := n0_; have HB := n1_; clear n0_ n1_; (try clear hb); (try clear hb2); (try clear hk); (try clear hi)))
                                  go_roundg k2
                                  case measure => have := HK1.out; have := HK2.out; omega
                                  case rel => exact ⟨(wrap64 (x75_2 + 1)), (by first | rfl | (simp; done) | (simp [*]; done)), H', ⟨by have := HK1.out; have := HK2.out; omega⟩, ⟨by (with_reducible repeat (first | apply Kd.R_alloc | apply Kd.R_drewN | apply Kd.R_drew)); exact HO_73.out⟩, ⟨by repeat (first | (with_reducible first | exact HB.out | apply below_alloc | apply pw_below_drewN | apply below_drew1) | exact HB.out)⟩⟩
                                · rw [if_neg c43] at H
                                  have c43b0 : (t148 == t151) = false := beq_eq_false_iff_ne.mpr c43
                                  have c43b1 : (t148 != t151) = true := bne_iff_ne.mpr c43
                                  obtain rfl := Option.some.inj H
                                  have p139 : 0 ≤ (x75_2 : Int) := of_decide_eq_true (by first | (with_reducible assumption) | assumption)
                                  have q139 : x75_2 < (y136.length : Int) := of_decide_eq_true (by first | (with_reducible assumption) | assumption)
                                  obtain ⟨ad139, e139, hx139_0⟩ := Kd.at_int (Kd.R_reads' HO_73.out).2.2 x75_2 p139 q139
                                  cases e139
                                  replace p139 := eq_true p139
                                  replace q139 := eq_true q139
                                  go_wp2_with (first | ((with_reducible refine gate_callee (f := 15) rfl ?_); refine goesL_ (some 82) rfl rfl Tryd.func15 (by kernel_rfl) rfl #[.string (a1.extract 0 ((ji5) : Int).toNat), .int .i64 (rd y136 x75_2)] rfl (by (try simp only [List.map_toArray, List.map_cons, List.map_nil]); first | done | (simp only [hji5]; rfl) | rfl | (simp only [List.length_drop, List.length_take]; rfl) | (simp only [ByteArray.size_extract, ByteArray.size_append, Nat.sub_zero]; done) | (simp only [ByteArray.size_extract, ByteArray.size_append, Nat.sub_zero]; (rw [IntWalk.wrap64_in _ (by omega)]) <;> rfl)) ?_; (with_reducible refine (Pa.wire_Int.calls k2 (a1.extract 0 ((ji5) : Int).toNat) (rd y136 x75_2) t140 t141 t142 _ A34.out).mono ?_); rintro e w' ⟨rfl, ⟨nd, rfl⟩⟩; refine ⟨_, rfl, ?_⟩) | ((with_reducible refine gate_callee (f := 16) rfl ?_); refine goesL_ (some 89) rfl rfl Tryd.func16 (by kernel_rfl) rfl #[.string (a1.extract 0 ((ji5) : Int).toNat), .int .i64 (rd y136 x75_2)] rfl (by (try simp only [List.map_toArray, List.map_cons, List.map_nil]); first | done | (simp only [hji5]; rfl) | rfl | (simp only [List.length_drop, List.length_take]; rfl) | (simp only [ByteArray.size_extract, ByteArray.size_append, Nat.sub_zero]; done) | (simp only [ByteArray.size_extract, ByteArray.size_append, Nat.sub_zero]; (rw [IntWalk.wrap64_in _ (by omega)]) <;> rfl)) ?_; (with_reducible refine (yardstickref01_Int.calls k2 (a1.extract 0 ((ji5) : Int).toNat) (rd y136 x75_2) t143 t144 t145 _ A35.out).mono ?_); rintro e w46 ⟨rfl, hb⟩; refine ⟨_, rfl, ?_⟩; have n0_ := Aside0.mk (Kd.R_below (by (with_reducible repeat (first | apply Kd.R_alloc | apply Kd.R_drewN | apply Kd.R_drew)); exact HO_73.out) hb); have n1_ := Aside0.mk (below_step (by repeat (first | (with_reducible first | exact HB.out | apply below_alloc | apply pw_below_drewN | apply below_drew1) | exact HB.out)) hb); clear HO_73; clear HB; have HO_73 := n0_; have HB := n1_; clear n0_ n1_; (try clear hb); (try clear hb2); (try clear hk); (try clear hi)) | ((with_reducible refine gate_callee (f := 17) rfl ?_); refine goesL_ (some 96) rfl rfl Tryd.func17 (by kernel_rfl) rfl #[.string (a1.extract 0 ((ji5) : Int).toNat), .int .i64 (rd y136 x75_2)] rfl (by (try simp only [List.map_toArray, List.map_cons, List.map_nil]); first | done | (simp only [hji5]; rfl) | rfl | (simp only [List.length_drop, List.length_take]; rfl) | (simp only [ByteArray.size_extract, ByteArray.size_append, Nat.sub_zero]; done) | (simp only [ByteArray.size_extract, ByteArray.size_append, Nat.sub_zero]; (rw [IntWalk.wrap64_in _ (by omega)]) <;> rfl)) ?_; (with_reducible refine (Pa.wire_String.calls k2 (a1.extract 0 ((ji5) : Int).toNat) (rd y136 x75_2) t146 t147 t148 _ A36.out).mono ?_); rintro e w' ⟨rfl, ⟨nd, rfl⟩⟩; refine ⟨_, rfl, ?_⟩) | ((with_reducible refine gate_callee (f := 18) rfl ?_); refine goesL_ (some 103) rfl rfl Tryd.func18 (by kernel_rfl) rfl #[.string (a1.extract 0 ((ji5) : Int).toNat), .int .i64 (rd y136 x75_2)] rfl (by (try simp only [List.map_toArray, List.map_cons, List.map_nil]); first | done | (simp only [hji5]; rfl) | rfl | (simp only [List.length_drop, List.length_take]; rfl) | (simp only [ByteArray.size_extract, ByteArray.size_append, Nat.sub_zero]; done) | (simp only [ByteArray.size_extract, ByteArray.size_append, Nat.sub_zero]; (rw [IntWalk.wrap64_in _ (by omega)]) <;> rfl)) ?_; (with_reducible refine (yardstickref01_String.calls k2 (a1.extract 0 ((ji5) : Int).toNat) (rd y136 x75_2) t149 t150 t151 _ A37.out).mono ?_); rintro e w47 ⟨rfl, hb⟩; refine ⟨_, rfl, ?_⟩; have n0_ := Aside0.mk (Kd.R_below (by (with_reducible repeat (first | apply Kd.R_alloc | apply Kd.R_drewN | apply Kd.R_drew)); exact HO_73.out) hb); have n1_ := Aside0.mk (below_step (by repeat (first | (with_reducible first | exact HB.out | apply below_alloc | apply pw_below_drewN | apply below_drew1) | exact HB.out)) hb); clear HO_73; clear HB; have HO_73 := n0_; have HB := n1_; clear n0_ n1_; (try clear hb); (try clear hb2); (try clear hk); (try clear hi)))
                                  go_ret
                                  exact ⟨by first | rfl | (simp [errW_none, errW_some] <;> rfl) | (simp only [← hji5]; first | rfl | (simp [errW_none, errW_some] <;> rfl)) | (simp [*, errW_none, errW_some] <;> rfl), by repeat (first | (with_reducible first | exact HB.out | apply below_alloc | apply pw_below_drewN | apply below_drew1) | exact HB.out)⟩
                              · rw [if_neg c42] at H
                                have c42b0 : (t147 == t150) = false := beq_eq_false_iff_ne.mpr c42
                                have c42b1 : (t147 != t150) = true := bne_iff_ne.mpr c42
                                obtain rfl := Option.some.inj H
                                have p139 : 0 ≤ (x75_2 : Int) := of_decide_eq_true (by first | (with_reducible assumption) | assumption)
                                have q139 : x75_2 < (y136.length : Int) := of_decide_eq_true (by first | (with_reducible assumption) | assumption)
                                obtain ⟨ad139, e139, hx139_0⟩ := Kd.at_int (Kd.R_reads' HO_73.out).2.2 x75_2 p139 q139
                                cases e139
                                replace p139 := eq_true p139
                                replace q139 := eq_true q139
                                go_wp2_with (first | ((with_reducible refine gate_callee (f := 15) rfl ?_); refine goesL_ (some 82) rfl rfl Tryd.func15 (by kernel_rfl) rfl #[.string (a1.extract 0 ((ji5) : Int).toNat), .int .i64 (rd y136 x75_2)] rfl (by (try simp only [List.map_toArray, List.map_cons, List.map_nil]); first | done | (simp only [hji5]; rfl) | rfl | (simp only [List.length_drop, List.length_take]; rfl) | (simp only [ByteArray.size_extract, ByteArray.size_append, Nat.sub_zero]; done) | (simp only [ByteArray.size_extract, ByteArray.size_append, Nat.sub_zero]; (rw [IntWalk.wrap64_in _ (by omega)]) <;> rfl)) ?_; (with_reducible refine (Pa.wire_Int.calls k2 (a1.extract 0 ((ji5) : Int).toNat) (rd y136 x75_2) t140 t141 t142 _ A34.out).mono ?_); rintro e w' ⟨rfl, ⟨nd, rfl⟩⟩; refine ⟨_, rfl, ?_⟩) | ((with_reducible refine gate_callee (f := 16) rfl ?_); refine goesL_ (some 89) rfl rfl Tryd.func16 (by kernel_rfl) rfl #[.string (a1.extract 0 ((ji5) : Int).toNat), .int .i64 (rd y136 x75_2)] rfl (by (try simp only [List.map_toArray, List.map_cons, List.map_nil]); first | done | (simp only [hji5]; rfl) | rfl | (simp only [List.length_drop, List.length_take]; rfl) | (simp only [ByteArray.size_extract, ByteArray.size_append, Nat.sub_zero]; done) | (simp only [ByteArray.size_extract, ByteArray.size_append, Nat.sub_zero]; (rw [IntWalk.wrap64_in _ (by omega)]) <;> rfl)) ?_; (with_reducible refine (yardstickref01_Int.calls k2 (a1.extract 0 ((ji5) : Int).toNat) (rd y136 x75_2) t143 t144 t145 _ A35.out).mono ?_); rintro e w48 ⟨rfl, hb⟩; refine ⟨_, rfl, ?_⟩; have n0_ := Aside0.mk (Kd.R_below (by (with_reducible repeat (first | apply Kd.R_alloc | apply Kd.R_drewN | apply Kd.R_drew)); exact HO_73.out) hb); have n1_ := Aside0.mk (below_step (by repeat (first | (with_reducible first | exact HB.out | apply below_alloc | apply pw_below_drewN | apply below_drew1) | exact HB.out)) hb); clear HO_73; clear HB; have HO_73 := n0_; have HB := n1_; clear n0_ n1_; (try clear hb); (try clear hb2); (try clear hk); (try clear hi)) | ((with_reducible refine gate_callee (f := 17) rfl ?_); refine goesL_ (some 96) rfl rfl Tryd.func17 (by kernel_rfl) rfl #[.string (a1.extract 0 ((ji5) : Int).toNat), .int .i64 (rd y136 x75_2)] rfl (by (try simp only [List.map_toArray, List.map_cons, List.map_nil]); first | done | (simp only [hji5]; rfl) | rfl | (simp only [List.length_drop, List.length_take]; rfl) | (simp only [ByteArray.size_extract, ByteArray.size_append, Nat.sub_zero]; done) | (simp only [ByteArray.size_extract, ByteArray.size_append, Nat.sub_zero]; (rw [IntWalk.wrap64_in _ (by omega)]) <;> rfl)) ?_; (with_reducible refine (Pa.wire_String.calls k2 (a1.extract 0 ((ji5) : Int).toNat) (rd y136 x75_2) t146 t147 t148 _ A36.out).mono ?_); rintro e w' ⟨rfl, ⟨nd, rfl⟩⟩; refine ⟨_, rfl, ?_⟩) | ((with_reducible refine gate_callee (f := 18) rfl ?_); refine goesL_ (some 103) rfl rfl Tryd.func18 (by kernel_rfl) rfl #[.string (a1.extract 0 ((ji5) : Int).toNat), .int .i64 (rd y136 x75_2)] rfl (by (try simp only [List.map_toArray, List.map_cons, List.map_nil]); first | done | (simp only [hji5]; rfl) | rfl | (simp only [List.length_drop, List.length_take]; rfl) | (simp only [ByteArray.size_extract, ByteArray.size_append, Nat.sub_zero]; done) | (simp only [ByteArray.size_extract, ByteArray.size_append, Nat.sub_zero]; (rw [IntWalk.wrap64_in _ (by omega)]) <;> rfl)) ?_; (with_reducible refine (yardstickref01_String.calls k2 (a1.extract 0 ((ji5) : Int).toNat) (rd y136 x75_2) t149 t150 t151 _ A37.out).mono ?_); rintro e w49 ⟨rfl, hb⟩; refine ⟨_, rfl, ?_⟩; have n0_ := Aside0.mk (Kd.R_below (by (with_reducible repeat (first | apply Kd.R_alloc | apply Kd.R_drewN | apply Kd.R_drew)); exact HO_73.out) hb); have n1_ := Aside0.mk (below_step (by repeat (first | (with_reducible first | exact HB.out | apply below_alloc | apply pw_below_drewN | apply below_drew1) | exact HB.out)) hb); clear HO_73; clear HB; have HO_73 := n0_; have HB := n1_; clear n0_ n1_; (try clear hb); (try clear hb2); (try clear hk); (try clear hi)))
                                go_ret
                                exact ⟨by first | rfl | (simp [errW_none, errW_some] <;> rfl) | (simp only [← hji5]; first | rfl | (simp [errW_none, errW_some] <;> rfl)) | (simp [*, errW_none, errW_some] <;> rfl), by repeat (first | (with_reducible first | exact HB.out | apply below_alloc | apply pw_below_drewN | apply below_drew1) | exact HB.out)⟩
                            · rw [if_neg c41] at H
                              have c41b0 : (t146.toList == t149.toList) = false := beq_eq_false_iff_ne.mpr c41
                              have c41b1 : (t146.toList != t149.toList) = true := bne_iff_ne.mpr c41
                              obtain rfl := Option.some.inj H
                              have p139 : 0 ≤ (x75_2 : Int) := of_decide_eq_true (by first | (with_reducible assumption) | assumption)
                              have q139 : x75_2 < (y136.length : Int) := of_decide_eq_true (by first | (with_reducible assumption) | assumption)
                              obtain ⟨ad139, e139, hx139_0⟩ := Kd.at_int (Kd.R_reads' HO_73.out).2.2 x75_2 p139 q139
                              cases e139
                              replace p139 := eq_true p139
                              replace q139 := eq_true q139
                              go_wp2_with (first | ((with_reducible refine gate_callee (f := 15) rfl ?_); refine goesL_ (some 82) rfl rfl Tryd.func15 (by kernel_rfl) rfl #[.string (a1.extract 0 ((ji5) : Int).toNat), .int .i64 (rd y136 x75_2)] rfl (by (try simp only [List.map_toArray, List.map_cons, List.map_nil]); first | done | (simp only [hji5]; rfl) | rfl | (simp only [List.length_drop, List.length_take]; rfl) | (simp only [ByteArray.size_extract, ByteArray.size_append, Nat.sub_zero]; done) | (simp only [ByteArray.size_extract, ByteArray.size_append, Nat.sub_zero]; (rw [IntWalk.wrap64_in _ (by omega)]) <;> rfl)) ?_; (with_reducible refine (Pa.wire_Int.calls k2 (a1.extract 0 ((ji5) : Int).toNat) (rd y136 x75_2) t140 t141 t142 _ A34.out).mono ?_); rintro e w' ⟨rfl, ⟨nd, rfl⟩⟩; refine ⟨_, rfl, ?_⟩) | ((with_reducible refine gate_callee (f := 16) rfl ?_); refine goesL_ (some 89) rfl rfl Tryd.func16 (by kernel_rfl) rfl #[.string (a1.extract 0 ((ji5) : Int).toNat), .int .i64 (rd y136 x75_2)] rfl (by (try simp only [List.map_toArray, List.map_cons, List.map_nil]); first | done | (simp only [hji5]; rfl) | rfl | (simp only [List.length_drop, List.length_take]; rfl) | (simp only [ByteArray.size_extract, ByteArray.size_append, Nat.sub_zero]; done) | (simp only [ByteArray.size_extract, ByteArray.size_append, Nat.sub_zero]; (rw [IntWalk.wrap64_in _ (by omega)]) <;> rfl)) ?_; (with_reducible refine (yardstickref01_Int.calls k2 (a1.extract 0 ((ji5) : Int).toNat) (rd y136 x75_2) t143 t144 t145 _ A35.out).mono ?_); rintro e w50 ⟨rfl, hb⟩; refine ⟨_, rfl, ?_⟩; have n0_ := Aside0.mk (Kd.R_below (by (with_reducible repeat (first | apply Kd.R_alloc | apply Kd.R_drewN | apply Kd.R_drew)); exact HO_73.out) hb); have n1_ := Aside0.mk (below_step (by repeat (first | (with_reducible first | exact HB.out | apply below_alloc | apply pw_below_drewN | apply below_drew1) | exact HB.out)) hb); clear HO_73; clear HB; have HO_73 := n0_; have HB := n1_; clear n0_ n1_; (try clear hb); (try clear hb2); (try clear hk); (try clear hi)) | ((with_reducible refine gate_callee (f := 17) rfl ?_); refine goesL_ (some 96) rfl rfl Tryd.func17 (by kernel_rfl) rfl #[.string (a1.extract 0 ((ji5) : Int).toNat), .int .i64 (rd y136 x75_2)] rfl (by (try simp only [List.map_toArray, List.map_cons, List.map_nil]); first | done | (simp only [hji5]; rfl) | rfl | (simp only [List.length_drop, List.length_take]; rfl) | (simp only [ByteArray.size_extract, ByteArray.size_append, Nat.sub_zero]; done) | (simp only [ByteArray.size_extract, ByteArray.size_append, Nat.sub_zero]; (rw [IntWalk.wrap64_in _ (by omega)]) <;> rfl)) ?_; (with_reducible refine (Pa.wire_String.calls k2 (a1.extract 0 ((ji5) : Int).toNat) (rd y136 x75_2) t146 t147 t148 _ A36.out).mono ?_); rintro e w' ⟨rfl, ⟨nd, rfl⟩⟩; refine ⟨_, rfl, ?_⟩) | ((with_reducible refine gate_callee (f := 18) rfl ?_); refine goesL_ (some 103) rfl rfl Tryd.func18 (by kernel_rfl) rfl #[.string (a1.extract 0 ((ji5) : Int).toNat), .int .i64 (rd y136 x75_2)] rfl (by (try simp only [List.map_toArray, List.map_cons, List.map_nil]); first | done | (simp only [hji5]; rfl) | rfl | (simp only [List.length_drop, List.length_take]; rfl) | (simp only [ByteArray.size_extract, ByteArray.size_append, Nat.sub_zero]; done) | (simp only [ByteArray.size_extract, ByteArray.size_append, Nat.sub_zero]; (rw [IntWalk.wrap64_in _ (by omega)]) <;> rfl)) ?_; (with_reducible refine (yardstickref01_String.calls k2 (a1.extract 0 ((ji5) : Int).toNat) (rd y136 x75_2) t149 t150 t151 _ A37.out).mono ?_); rintro e w51 ⟨rfl, hb⟩; refine ⟨_, rfl, ?_⟩; have n0_ := Aside0.mk (Kd.R_below (by (with_reducible repeat (first | apply Kd.R_alloc | apply Kd.R_drewN | apply Kd.R_drew)); exact HO_73.out) hb); have n1_ := Aside0.mk (below_step (by repeat (first | (with_reducible first | exact HB.out | apply below_alloc | apply pw_below_drewN | apply below_drew1) | exact HB.out)) hb); clear HO_73; clear HB; have HO_73 := n0_; have HB := n1_; clear n0_ n1_; (try clear hb); (try clear hb2); (try clear hk); (try clear hi)))
                              go_ret
                              exact ⟨by first | rfl | (simp [errW_none, errW_some] <;> rfl) | (simp only [← hji5]; first | rfl | (simp [errW_none, errW_some] <;> rfl)) | (simp [*, errW_none, errW_some] <;> rfl), by repeat (first | (with_reducible first | exact HB.out | apply below_alloc | apply pw_below_drewN | apply below_drew1) | exact HB.out)⟩
                          · rw [if_neg c40] at H
                            have c40b0 : (t142 == t145) = false := beq_eq_false_iff_ne.mpr c40
                            have c40b1 : (t142 != t145) = true := bne_iff_ne.mpr c40
                            obtain rfl := Option.some.inj H
                            have p139 : 0 ≤ (x75_2 : Int) := of_decide_eq_true (by first | (with_reducible assumption) | assumption)
                            have q139 : x75_2 < (y136.length : Int) := of_decide_eq_true (by first | (with_reducible assumption) | assumption)
                            obtain ⟨ad139, e139, hx139_0⟩ := Kd.at_int (Kd.R_reads' HO_73.out).2.2 x75_2 p139 q139
                            cases e139
                            replace p139 := eq_true p139
                            replace q139 := eq_true q139
                            go_wp2_with (first | ((with_reducible refine gate_callee (f := 15) rfl ?_); refine goesL_ (some 82) rfl rfl Tryd.func15 (by kernel_rfl) rfl #[.string (a1.extract 0 ((ji5) : Int).toNat), .int .i64 (rd y136 x75_2)] rfl (by (try simp only [List.map_toArray, List.map_cons, List.map_nil]); first | done | (simp only [hji5]; rfl) | rfl | (simp only [List.length_drop, List.length_take]; rfl) | (simp only [ByteArray.size_extract, ByteArray.size_append, Nat.sub_zero]; done) | (simp only [ByteArray.size_extract, ByteArray.size_append, Nat.sub_zero]; (rw [IntWalk.wrap64_in _ (by omega)]) <;> rfl)) ?_; (with_reducible refine (Pa.wire_Int.calls k2 (a1.extract 0 ((ji5) : Int).toNat) (rd y136 x75_2) t140 t141 t142 _ A34.out).mono ?_); rintro e w' ⟨rfl, ⟨nd, rfl⟩⟩; refine ⟨_, rfl, ?_⟩) | ((with_reducible refine gate_callee (f := 16) rfl ?_); refine goesL_ (some 89) rfl rfl Tryd.func16 (by kernel_rfl) rfl #[.string (a1.extract 0 ((ji5) : Int).toNat), .int .i64 (rd y136 x75_2)] rfl (by (try simp only [List.map_toArray, List.map_cons, List.map_nil]); first | done | (simp only [hji5]; rfl) | rfl | (simp only [List.length_drop, List.length_take]; rfl) | (simp only [ByteArray.size_extract, ByteArray.size_append, Nat.sub_zero]; done) | (simp only [ByteArray.size_extract, ByteArray.size_append, Nat.sub_zero]; (rw [IntWalk.wrap64_in _ (by omega)]) <;> rfl)) ?_; (with_reducible refine (yardstickref01_Int.calls k2 (a1.extract 0 ((ji5) : Int).toNat) (rd y136 x75_2) t143 t144 t145 _ A35.out).mono ?_); rintro e w52 ⟨rfl, hb⟩; refine ⟨_, rfl, ?_⟩; have n0_ := Aside0.mk (Kd.R_below (by (with_reducible repeat (first | apply Kd.R_alloc | apply Kd.R_drewN | apply Kd.R_drew)); exact HO_73.out) hb); have n1_ := Aside0.mk (below_step (by repeat (first | (with_reducible first | exact HB.out | apply below_alloc | apply pw_below_drewN | apply below_drew1) | exact HB.out)) hb); clear HO_73; clear HB; have HO_73 := n0_; have HB := n1_; clear n0_ n1_; (try clear hb); (try clear hb2); (try clear hk); (try clear hi)) | ((with_reducible refine gate_callee (f := 17) rfl ?_); refine goesL_ (some 96) rfl rfl Tryd.func17 (by kernel_rfl) rfl #[.string (a1.extract 0 ((ji5) : Int).toNat), .int .i64 (rd y136 x75_2)] rfl (by (try simp only [List.map_toArray, List.map_cons, List.map_nil]); first | done | (simp only [hji5]; rfl) | rfl | (simp only [List.length_drop, List.length_take]; rfl) | (simp only [ByteArray.size_extract, ByteArray.size_append, Nat.sub_zero]; done) | (simp only [ByteArray.size_extract, ByteArray.size_append, Nat.sub_zero]; (rw [IntWalk.wrap64_in _ (by omega)]) <;> rfl)) ?_; (with_reducible refine (Pa.wire_String.calls k2 (a1.extract 0 ((ji5) : Int).toNat) (rd y136 x75_2) t146 t147 t148 _ A36.out).mono ?_); rintro e w' ⟨rfl, ⟨nd, rfl⟩⟩; refine ⟨_, rfl, ?_⟩) | ((with_reducible refine gate_callee (f := 18) rfl ?_); refine goesL_ (some 103) rfl rfl Tryd.func18 (by kernel_rfl) rfl #[.string (a1.extract 0 ((ji5) : Int).toNat), .int .i64 (rd y136 x75_2)] rfl (by (try simp only [List.map_toArray, List.map_cons, List.map_nil]); first | done | (simp only [hji5]; rfl) | rfl | (simp only [List.length_drop, List.length_take]; rfl) | (simp only [ByteArray.size_extract, ByteArray.size_append, Nat.sub_zero]; done) | (simp only [ByteArray.size_extract, ByteArray.size_append, Nat.sub_zero]; (rw [IntWalk.wrap64_in _ (by omega)]) <;> rfl)) ?_; (with_reducible refine (yardstickref01_String.calls k2 (a1.extract 0 ((ji5) : Int).toNat) (rd y136 x75_2) t149 t150 t151 _ A37.out).mono ?_); rintro e w53 ⟨rfl, hb⟩; refine ⟨_, rfl, ?_⟩; have n0_ := Aside0.mk (Kd.R_below (by (with_reducible repeat (first | apply Kd.R_alloc | apply Kd.R_drewN | apply Kd.R_drew)); exact HO_73.out) hb); have n1_ := Aside0.mk (below_step (by repeat (first | (with_reducible first | exact HB.out | apply below_alloc | apply pw_below_drewN | apply below_drew1) | exact HB.out)) hb); clear HO_73; clear HB; have HO_73 := n0_; have HB := n1_; clear n0_ n1_; (try clear hb); (try clear hb2); (try clear hk); (try clear hi)))
                            go_ret
                            exact ⟨by first | rfl | (simp [errW_none, errW_some] <;> rfl) | (simp only [← hji5]; first | rfl | (simp [errW_none, errW_some] <;> rfl)) | (simp [*, errW_none, errW_some] <;> rfl), by repeat (first | (with_reducible first | exact HB.out | apply below_alloc | apply pw_below_drewN | apply below_drew1) | exact HB.out)⟩
                        · rw [if_neg c39] at H
                          have c39b0 : (t141 == t144) = false := beq_eq_false_iff_ne.mpr c39
                          have c39b1 : (t141 != t144) = true := bne_iff_ne.mpr c39
                          obtain rfl := Option.some.inj H
                          have p139 : 0 ≤ (x75_2 : Int) := of_decide_eq_true (by first | (with_reducible assumption) | assumption)
                          have q139 : x75_2 < (y136.length : Int) := of_decide_eq_true (by first | (with_reducible assumption) | assumption)
                          obtain ⟨ad139, e139, hx139_0⟩ := Kd.at_int (Kd.R_reads' HO_73.out).2.2 x75_2 p139 q139
                          cases e139
                          replace p139 := eq_true p139
                          replace q139 := eq_true q139
                          go_wp2_with (first | ((with_reducible refine gate_callee (f := 15) rfl ?_); refine goesL_ (some 82) rfl rfl Tryd.func15 (by kernel_rfl) rfl #[.string (a1.extract 0 ((ji5) : Int).toNat), .int .i64 (rd y136 x75_2)] rfl (by (try simp only [List.map_toArray, List.map_cons, List.map_nil]); first | done | (simp only [hji5]; rfl) | rfl | (simp only [List.length_drop, List.length_take]; rfl) | (simp only [ByteArray.size_extract, ByteArray.size_append, Nat.sub_zero]; done) | (simp only [ByteArray.size_extract, ByteArray.size_append, Nat.sub_zero]; (rw [IntWalk.wrap64_in _ (by omega)]) <;> rfl)) ?_; (with_reducible refine (Pa.wire_Int.calls k2 (a1.extract 0 ((ji5) : Int).toNat) (rd y136 x75_2) t140 t141 t142 _ A34.out).mono ?_); rintro e w' ⟨rfl, ⟨nd, rfl⟩⟩; refine ⟨_, rfl, ?_⟩) | ((with_reducible refine gate_callee (f := 16) rfl ?_); refine goesL_ (some 89) rfl rfl Tryd.func16 (by kernel_rfl) rfl #[.string (a1.extract 0 ((ji5) : Int).toNat), .int .i64 (rd y136 x75_2)] rfl (by (try simp only [List.map_toArray, List.map_cons, List.map_nil]); first | done | (simp only [hji5]; rfl) | rfl | (simp only [List.length_drop, List.length_take]; rfl) | (simp only [ByteArray.size_extract, ByteArray.size_append, Nat.sub_zero]; done) | (simp only [ByteArray.size_extract, ByteArray.size_append, Nat.sub_zero]; (rw [IntWalk.wrap64_in _ (by omega)]) <;> rfl)) ?_; (with_reducible refine (yardstickref01_Int.calls k2 (a1.extract 0 ((ji5) : Int).toNat) (rd y136 x75_2) t143 t144 t145 _ A35.out).mono ?_); rintro e w54 ⟨rfl, hb⟩; refine ⟨_, rfl, ?_⟩; have n0_ := Aside0.mk (Kd.R_below (by (with_reducible repeat (first | apply Kd.R_alloc | apply Kd.R_drewN | apply Kd.R_drew)); exact HO_73.out) hb); have n1_ := Aside0.mk (below_step (by repeat (first | (with_reducible first | exact HB.out | apply below_alloc | apply pw_below_drewN | apply below_drew1) | exact HB.out)) hb); clear HO_73; clear HB; have HO_73 := n0_; have HB := n1_; clear n0_ n1_; (try clear hb); (try clear hb2); (try clear hk); (try clear hi)) | ((with_reducible refine gate_callee (f := 17) rfl ?_); refine goesL_ (some 96) rfl rfl Tryd.func17 (by kernel_rfl) rfl #[.string (a1.extract 0 ((ji5) : Int).toNat), .int .i64 (rd y136 x75_2)] rfl (by (try simp only [List.map_toArray, List.map_cons, List.map_nil]); first | done | (simp only [hji5]; rfl) | rfl | (simp only [List.length_drop, List.length_take]; rfl) | (simp only [ByteArray.size_extract, ByteArray.size_append, Nat.sub_zero]; done) | (simp only [ByteArray.size_extract, ByteArray.size_append, Nat.sub_zero]; (rw [IntWalk.wrap64_in _ (by omega)]) <;> rfl)) ?_; (with_reducible refine (Pa.wire_String.calls k2 (a1.extract 0 ((ji5) : Int).toNat) (rd y136 x75_2) t146 t147 t148 _ A36.out).mono ?_); rintro e w' ⟨rfl, ⟨nd, rfl⟩⟩; refine ⟨_, rfl, ?_⟩) | ((with_reducible refine gate_callee (f := 18) rfl ?_); refine goesL_ (some 103) rfl rfl Tryd.func18 (by kernel_rfl) rfl #[.string (a1.extract 0 ((ji5) : Int).toNat), .int .i64 (rd y136 x75_2)] rfl (by (try simp only [List.map_toArray, List.map_cons, List.map_nil]); first | done | (simp only [hji5]; rfl) | rfl | (simp only [List.length_drop, List.length_take]; rfl) | (simp only [ByteArray.size_extract, ByteArray.size_append, Nat.sub_zero]; done) | (simp only [ByteArray.size_extract, ByteArray.size_append, Nat.sub_zero]; (rw [IntWalk.wrap64_in _ (by omega)]) <;> rfl)) ?_; (with_reducible refine (yardstickref01_String.calls k2 (a1.extract 0 ((ji5) : Int).toNat) (rd y136 x75_2) t149 t150 t151 _ A37.out).mono ?_); rintro e w55 ⟨rfl, hb⟩; refine ⟨_, rfl, ?_⟩; have n0_ := Aside0.mk (Kd.R_below (by (with_reducible repeat (first | apply Kd.R_alloc | apply Kd.R_drewN | apply Kd.R_drew)); exact HO_73.out) hb); have n1_ := Aside0.mk (below_step (by repeat (first | (with_reducible first | exact HB.out | apply below_alloc | apply pw_below_drewN | apply below_drew1) | exact HB.out)) hb); clear HO_73; clear HB; have HO_73 := n0_; have HB := n1_; clear n0_ n1_; (try clear hb); (try clear hb2); (try clear hk); (try clear hi)))
                          go_ret
                          exact ⟨by first | rfl | (simp [errW_none, errW_some] <;> rfl) | (simp only [← hji5]; first | rfl | (simp [errW_none, errW_some] <;> rfl)) | (simp [*, errW_none, errW_some] <;> rfl), by repeat (first | (with_reducible first | exact HB.out | apply below_alloc | apply pw_below_drewN | apply below_drew1) | exact HB.out)⟩
                      · rw [if_neg c38] at H
                        have c38b0 : (t140 == t143) = false := beq_eq_false_iff_ne.mpr c38
                        have c38b1 : (t140 != t143) = true := bne_iff_ne.mpr c38
                        obtain rfl := Option.some.inj H
                        have p139 : 0 ≤ (x75_2 : Int) := of_decide_eq_true (by first | (with_reducible assumption) | assumption)
                        have q139 : x75_2 < (y136.length : Int) := of_decide_eq_true (by first | (with_reducible assumption) | assumption)
                        obtain ⟨ad139, e139, hx139_0⟩ := Kd.at_int (Kd.R_reads' HO_73.out).2.2 x75_2 p139 q139
                        cases e139
                        replace p139 := eq_true p139
                        replace q139 := eq_true q139
                        go_wp2_with (first | ((with_reducible refine gate_callee (f := 15) rfl ?_); refine goesL_ (some 82) rfl rfl Tryd.func15 (by kernel_rfl) rfl #[.string (a1.extract 0 ((ji5) : Int).toNat), .int .i64 (rd y136 x75_2)] rfl (by (try simp only [List.map_toArray, List.map_cons, List.map_nil]); first | done | (simp only [hji5]; rfl) | rfl | (simp only [List.length_drop, List.length_take]; rfl) | (simp only [ByteArray.size_extract, ByteArray.size_append, Nat.sub_zero]; done) | (simp only [ByteArray.size_extract, ByteArray.size_append, Nat.sub_zero]; (rw [IntWalk.wrap64_in _ (by omega)]) <;> rfl)) ?_; (with_reducible refine (Pa.wire_Int.calls k2 (a1.extract 0 ((ji5) : Int).toNat) (rd y136 x75_2) t140 t141 t142 _ A34.out).mono ?_); rintro e w' ⟨rfl, ⟨nd, rfl⟩⟩; refine ⟨_, rfl, ?_⟩) | ((with_reducible refine gate_callee (f := 16) rfl ?_); refine goesL_ (some 89) rfl rfl Tryd.func16 (by kernel_rfl) rfl #[.string (a1.extract 0 ((ji5) : Int).toNat), .int .i64 (rd y136 x75_2)] rfl (by (try simp only [List.map_toArray, List.map_cons, List.map_nil]); first | done | (simp only [hji5]; rfl) | rfl | (simp only [List.length_drop, List.length_take]; rfl) | (simp only [ByteArray.size_extract, ByteArray.size_append, Nat.sub_zero]; done) | (simp only [ByteArray.size_extract, ByteArray.size_append, Nat.sub_zero]; (rw [IntWalk.wrap64_in _ (by omega)]) <;> rfl)) ?_; (with_reducible refine (yardstickref01_Int.calls k2 (a1.extract 0 ((ji5) : Int).toNat) (rd y136 x75_2) t143 t144 t145 _ A35.out).mono ?_); rintro e w56 ⟨rfl, hb⟩; refine ⟨_, rfl, ?_⟩; have n0_ := Aside0.mk (Kd.R_below (by (with_reducible repeat (first | apply Kd.R_alloc | apply Kd.R_drewN | apply Kd.R_drew)); exact HO_73.out) hb); have n1_ := Aside0.mk (below_step (by repeat (first | (with_reducible first | exact HB.out | apply below_alloc | apply pw_below_drewN | apply below_drew1) | exact HB.out)) hb); clear HO_73; clear HB; have HO_73 := n0_; have HB := n1_; clear n0_ n1_; (try clear hb); (try clear hb2); (try clear hk); (try clear hi)) | ((with_reducible refine gate_callee (f := 17) rfl ?_); refine goesL_ (some 96) rfl rfl Tryd.func17 (by kernel_rfl) rfl #[.string (a1.extract 0 ((ji5) : Int).toNat), .int .i64 (rd y136 x75_2)] rfl (by (try simp only [List.map_toArray, List.map_cons, List.map_nil]); first | done | (simp only [hji5]; rfl) | rfl | (simp only [List.length_drop, List.length_take]; rfl) | (simp only [ByteArray.size_extract, ByteArray.size_append, Nat.sub_zero]; done) | (simp only [ByteArray.size_extract, ByteArray.size_append, Nat.sub_zero]; (rw [IntWalk.wrap64_in _ (by omega)]) <;> rfl)) ?_; (with_reducible refine (Pa.wire_String.calls k2 (a1.extract 0 ((ji5) : Int).toNat) (rd y136 x75_2) t146 t147 t148 _ A36.out).mono ?_); rintro e w' ⟨rfl, ⟨nd, rfl⟩⟩; refine ⟨_, rfl, ?_⟩) | ((with_reducible refine gate_callee (f := 18) rfl ?_); refine goesL_ (some 103) rfl rfl Tryd.func18 (by kernel_rfl) rfl #[.string (a1.extract 0 ((ji5) : Int).toNat), .int .i64 (rd y136 x75_2)] rfl (by (try simp only [List.map_toArray, List.map_cons, List.map_nil]); first | done | (simp only [hji5]; rfl) | rfl | (simp only [List.length_drop, List.length_take]; rfl) | (simp only [ByteArray.size_extract, ByteArray.size_append, Nat.sub_zero]; done) | (simp only [ByteArray.size_extract, ByteArray.size_append, Nat.sub_zero]; (rw [IntWalk.wrap64_in _ (by omega)]) <;> rfl)) ?_; (with_reducible refine (yardstickref01_String.calls k2 (a1.extract 0 ((ji5) : Int).toNat) (rd y136 x75_2) t149 t150 t151 _ A37.out).mono ?_); rintro e w57 ⟨rfl, hb⟩; refine ⟨_, rfl, ?_⟩; have n0_ := Aside0.mk (Kd.R_below (by (with_reducible repeat (first | apply Kd.R_alloc | apply Kd.R_drewN | apply Kd.R_drew)); exact HO_73.out) hb); have n1_ := Aside0.mk (below_step (by repeat (first | (with_reducible first | exact HB.out | apply below_alloc | apply pw_below_drewN | apply below_drew1) | exact HB.out)) hb); clear HO_73; clear HB; have HO_73 := n0_; have HB := n1_; clear n0_ n1_; (try clear hb); (try clear hb2); (try clear hk); (try clear hi)))
                        go_ret
                        exact ⟨by first | rfl | (simp [errW_none, errW_some] <;> rfl) | (simp only [← hji5]; first | rfl | (simp [errW_none, errW_some] <;> rfl)) | (simp [*, errW_none, errW_some] <;> rfl), by repeat (first | (with_reducible first | exact HB.out | apply below_alloc | apply pw_below_drewN | apply below_drew1) | exact HB.out)⟩
                    · rw [if_neg c33] at H
                      exact absurd H (by simp)
                  · rw [if_neg c32] at H
                    exact absurd H (by simp)
                · rw [if_neg c31] at H
                  have c31b0 : decide (x75_2 < (y136.length : Int)) = false := decide_eq_false c31
                  clear c31
                  replace H := Option.bind_eq_some_iff.mp H
                  obtain ⟨⟨t152, t153⟩, A580, H⟩ := H
                  replace H : ((yardstickref01_PutString.f k2 (a1.extract 0 ((ji5) : Int).toNat)).bind fun bt154 => (if t125 = true then (if t152.toList = bt154.1.toList then (if t153 = bt154.2 then ((wire_Sum.f (a1.extract 0 ((ji5) : Int).toNat)).bind fun t156 => ((yardstickref01_Sum.f k2 (a1.extract 0 ((ji5) : Int).toNat)).bind fun t157 => (some (t156 == t157)))) else (some false)) else (some false)) else (some false))) = some r := H
                  have A58 := Aside0.mk A580
                  clear A580
                  replace H := Option.bind_eq_some_iff.mp H
                  obtain ⟨⟨t154, t155⟩, A590, H⟩ := H
                  replace H : (if t125 = true then (if t152.toList = t154.toList then (if t153 = t155 then ((wire_Sum.f (a1.extract 0 ((ji5) : Int).toNat)).bind fun t156 => ((yardstickref01_Sum.f k2 (a1.extract 0 ((ji5) : Int).toNat)).bind fun t157 => (some (t156 == t157)))) else (some false)) else (some false)) else (some false)) = some r := H
                  have A59 := Aside0.mk A590
                  clear A590
                  by_cases c60 : t125 = true
                  · subst c60
                    have H1 : (if t152.toList = t154.toList then (if t153 = t155 then ((wire_Sum.f (a1.extract 0 ((ji5) : Int).toNat)).bind fun t156 => ((yardstickref01_Sum.f k2 (a1.extract 0 ((ji5) : Int).toNat)).bind fun t157 => (some (t156 == t157)))) else (some false)) else (some false)) = some r := by rw [if_pos rfl] at H; exact H
                    clear H
                    have H := H1
                    clear H1
                    by_cases c61 : t152.toList = t154.toList
                    · rw [if_pos c61] at H
                      have c61b0 : (t152.toList == t154.toList) = true := beq_iff_eq.mpr c61
                      have c61b1 : (t152.toList != t154.toList) = false := bne_eq_false_iff_eq.mpr c61
                      clear c61
                      by_cases c62 : t153 = t155
                      · rw [if_pos c62] at H
                        have c62b0 : (t153 == t155) = true := beq_iff_eq.mpr c62
                        have c62b1 : (t153 != t155) = false := bne_eq_false_iff_eq.mpr c62
                        clear c62
                        replace H := Option.bind_eq_some_iff.mp H
                        obtain ⟨t156, A630, H⟩ := H
                        replace H : ((yardstickref01_Sum.f k2 (a1.extract 0 ((ji5) : Int).toNat)).bind fun t157 => (some (t156 == t157))) = some r := H
                        have A63 := Aside0.mk A630
                        clear A630
                        replace H := Option.bind_eq_some_iff.mp H
                        obtain ⟨t157, A640, H⟩ := H
                        replace H : (some (t156 == t157)) = some r := H
                        have A64 := Aside0.mk A640
                        clear A640
                        obtain rfl := Option.some.inj H
                        go_wp2_with (first | ((with_reducible refine gate_callee (f := 19) rfl ?_); refine goesL_ (some 138) rfl rfl Tryd.func19 (by kernel_rfl) rfl #[.string (a1.extract 0 ((ji5) : Int).toNat)] rfl (by (try simp only [List.map_toArray, List.map_cons, List.map_nil]); first | done | (simp only [hji5]; rfl) | rfl | (simp only [List.length_drop, List.length_take]; rfl) | (simp only [ByteArray.size_extract, ByteArray.size_append, Nat.sub_zero]; done) | (simp only [ByteArray.size_extract, ByteArray.size_append, Nat.sub_zero]; (rw [IntWalk.wrap64_in _ (by omega)]) <;> rfl)) ?_; (with_reducible refine (Pa.wire_PutString.calls (a1.extract 0 ((ji5) : Int).toNat) t152 t153 _ A58.out).mono ?_); rintro e w65 ⟨rfl, hb⟩; refine ⟨_, rfl, ?_⟩; have n0_ := Aside0.mk (Kd.R_below (by (with_reducible repeat (first | apply Kd.R_alloc | apply Kd.R_drewN | apply Kd.R_drew)); exact HO_73.out) hb); have n1_ := Aside0.mk (below_step (by repeat (first | (with_reducible first | exact HB.out | apply below_alloc | apply pw_below_drewN | apply below_drew1) | exact HB.out)) hb); clear HO_73; clear HB; have HO_73 := n0_; have HB := n1_; clear n0_ n1_; (try clear hb); (try clear hb2); (try clear hk); (try clear hi)) | ((with_reducible refine gate_callee (f := 20) rfl ?_); refine goesL_ (some 143) rfl rfl Tryd.func20 (by kernel_rfl) rfl #[.string (a1.extract 0 ((ji5) : Int).toNat)] rfl (by (try simp only [List.map_toArray, List.map_cons, List.map_nil]); first | done | (simp only [hji5]; rfl) | rfl | (simp only [List.length_drop, List.length_take]; rfl) | (simp only [ByteArray.size_extract, ByteArray.size_append, Nat.sub_zero]; done) | (simp only [ByteArray.size_extract, ByteArray.size_append, Nat.sub_zero]; (rw [IntWalk.wrap64_in _ (by omega)]) <;> rfl)) ?_; (with_reducible refine (yardstickref01_PutString.calls k2 (a1.extract 0 ((ji5) : Int).toNat) t154 t155 _ A59.out).mono ?_); rintro e w66 ⟨rfl, hb⟩; refine ⟨_, rfl, ?_⟩; have n0_ := Aside0.mk (Kd.R_below (by (with_reducible repeat (first | apply Kd.R_alloc | apply Kd.R_drewN | apply Kd.R_drew)); exact HO_73.out) hb); have n1_ := Aside0.mk (below_step (by repeat (first | (with_reducible first | exact HB.out | apply below_alloc | apply pw_below_drewN | apply below_drew1) | exact HB.out)) hb); clear HO_73; clear HB; have HO_73 := n0_; have HB := n1_; clear n0_ n1_; (try clear hb); (try clear hb2); (try clear hk); (try clear hi)) | (go_at_call 21; (with_reducible refine (wire_Sum.calls (a1.extract 0 ((ji5) : Int).toNat) t156 _ ?side1 A63.out).mono ?_); (case side1 => exact Aside0.mk (Laid.below HG.out (by repeat (first | (with_reducible first | exact HB.out | apply below_alloc | apply pw_below_drewN | apply below_drew1) | exact HB.out)))); rintro e w67 ⟨rfl, hb⟩; have n0_ := Aside0.mk (Kd.R_below (by (with_reducible repeat (first | apply Kd.R_alloc | apply Kd.R_drewN | apply Kd.R_drew)); exact HO_73.out) hb); have n1_ := Aside0.mk (below_step (by repeat (first | (with_reducible first | exact HB.out | apply below_alloc | apply pw_below_drewN | apply below_drew1) | exact HB.out)) hb); clear HO_73; clear HB; have HO_73 := n0_; have HB := n1_; clear n0_ n1_; (try clear hb); (try clear hb2); (try clear hk); (try clear hi)) | (go_at_call 22; (with_reducible refine (yardstickref01_Sum.calls k2 (a1.extract 0 ((ji5) : Int).toNat) t157 _ A64.out).mono ?_); rintro e w' ⟨rfl, ⟨nd, rfl⟩⟩))
                        go_ret
                        exact ⟨by first | rfl | (simp [errW_none, errW_some] <;> rfl) | (simp only [← hji5]; first | rfl | (simp [errW_none, errW_some] <;> rfl)) | (simp [*, errW_none, errW_some] <;> rfl), by repeat (first | (with_reducible first | exact HB.out | apply below_alloc | apply pw_below_drewN | apply below_drew1) | exact HB.out)⟩
                      · rw [if_neg c62] at H
                        have c62b0 : (t153 == t155) = false := beq_eq_false_iff_ne.mpr c62
                        have c62b1 : (t153 != t155) = true := bne_iff_ne.mpr c62
                        obtain rfl := Option.some.inj H
                        go_wp2_with (first | ((with_reducible refine gate_callee (f := 19) rfl ?_); refine goesL_ (some 138) rfl rfl Tryd.func19 (by kernel_rfl) rfl #[.string (a1.extract 0 ((ji5) : Int).toNat)] rfl (by (try simp only [List.map_toArray, List.map_cons, List.map_nil]); first | done | (simp only [hji5]; rfl) | rfl | (simp only [List.length_drop, List.length_take]; rfl) | (simp only [ByteArray.size_extract, ByteArray.size_append, Nat.sub_zero]; done) | (simp only [ByteArray.size_extract, ByteArray.size_append, Nat.sub_zero]; (rw [IntWalk.wrap64_in _ (by omega)]) <;> rfl)) ?_; (with_reducible refine (Pa.wire_PutString.calls (a1.extract 0 ((ji5) : Int).toNat) t152 t153 _ A58.out).mono ?_); rintro e w68 ⟨rfl, hb⟩; refine ⟨_, rfl, ?_⟩; have n0_ := Aside0.mk (Kd.R_below (by (with_reducible repeat (first | apply Kd.R_alloc | apply Kd.R_drewN | apply Kd.R_drew)); exact HO_73.out) hb); have n1_ := Aside0.mk (below_step (by repeat (first | (with_reducible first | exact HB.out | apply below_alloc | apply pw_below_drewN | apply below_drew1) | exact HB.out)) hb); clear HO_73; clear HB; have HO_73 := n0_; have HB := n1_; clear n0_ n1_; (try clear hb); (try clear hb2); (try clear hk); (try clear hi)) | ((with_reducible refine gate_callee (f := 20) rfl ?_); refine goesL_ (some 143) rfl rfl Tryd.func20 (by kernel_rfl) rfl #[.string (a1.extract 0 ((ji5) : Int).toNat)] rfl (by (try simp only [List.map_toArray, List.map_cons, List.map_nil]); first | done | (simp only [hji5]; rfl) | rfl | (simp only [List.length_drop, List.length_take]; rfl) | (simp only [ByteArray.size_extract, ByteArray.size_append, Nat.sub_zero]; done) | (simp only [ByteArray.size_extract, ByteArray.size_append, Nat.sub_zero]; (rw [IntWalk.wrap64_in _ (by omega)]) <;> rfl)) ?_; (with_reducible refine (yardstickref01_PutString.calls k2 (a1.extract 0 ((ji5) : Int).toNat) t154 t155 _ A59.out).mono ?_); rintro e w69 ⟨rfl, hb⟩; refine ⟨_, rfl, ?_⟩; have n0_ := Aside0.mk (Kd.R_below (by (with_reducible repeat (first | apply Kd.R_alloc | apply Kd.R_drewN | apply Kd.R_drew)); exact HO_73.out) hb); have n1_ := Aside0.mk (below_step (by repeat (first | (with_reducible first | exact HB.out | apply below_alloc | apply pw_below_drewN | apply below_drew1) | exact HB.out)) hb); clear HO_73; clear HB; have HO_73 := n0_; have HB := n1_; clear n0_ n1_; (try clear hb); (try clear hb2); (try clear hk); (try clear hi)))
                        go_ret
                        exact ⟨by first | rfl | (simp [errW_none, errW_some] <;> rfl) | (simp only [← hji5]; first | rfl | (simp [errW_none, errW_some] <;> rfl)) | (simp [*, errW_none, errW_some] <;> rfl), by repeat (first | (with_reducible first | exact HB.out | apply below_alloc | apply pw_below_drewN | apply below_drew1) | exact HB.out)⟩
                    · rw [if_neg c61] at H
                      have c61b0 : (t152.toList == t154.toList) = false := beq_eq_false_iff_ne.mpr c61
                      have c61b1 : (t152.toList != t154.toList) = true := bne_iff_ne.mpr c61
                      obtain rfl := Option.some.inj H
                      go_wp2_with (first | ((with_reducible refine gate_callee (f := 19) rfl ?_); refine goesL_ (some 138) rfl rfl Tryd.func19 (by kernel_rfl) rfl #[.string (a1.extract 0 ((ji5) : Int).toNat)] rfl (by (try simp only [List.map_toArray, List.map_cons, List.map_nil]); first | done | (simp only [hji5]; rfl) | rfl | (simp only [List.length_drop, List.length_take]; rfl) | (simp only [ByteArray.size_extract, ByteArray.size_append, Nat.sub_zero]; done) | (simp only [ByteArray.size_extract, ByteArray.size_append, Nat.sub_zero]; (rw [IntWalk.wrap64_in _ (by omega)]) <;> rfl)) ?_; (with_reducible refine (Pa.wire_PutString.calls (a1.extract 0 ((ji5) : Int).toNat) t152 t153 _ A58.out).mono ?_); rintro e w70 ⟨rfl, hb⟩; refine ⟨_, rfl, ?_⟩; have n0_ := Aside0.mk (Kd.R_below (by (with_reducible repeat (first | apply Kd.R_alloc | apply Kd.R_drewN | apply Kd.R_drew)); exact HO_73.out) hb); have n1_ := Aside0.mk (below_step (by repeat (first | (with_reducible first | exact HB.out | apply below_alloc | apply pw_below_drewN | apply below_drew1) | exact HB.out)) hb); clear HO_73; clear HB; have HO_73 := n0_; have HB := n1_; clear n0_ n1_; (try clear hb); (try clear hb2); (try clear hk); (try clear hi)) | ((with_reducible refine gate_callee (f := 20) rfl ?_); refine goesL_ (some 143) rfl rfl Tryd.func20 (by kernel_rfl) rfl #[.string (a1.extract 0 ((ji5) : Int).toNat)] rfl (by (try simp only [List.map_toArray, List.map_cons, List.map_nil]); first | done | (simp only [hji5]; rfl) | rfl | (simp only [List.length_drop, List.length_take]; rfl) | (simp only [ByteArray.size_extract, ByteArray.size_append, Nat.sub_zero]; done) | (simp only [ByteArray.size_extract, ByteArray.size_append, Nat.sub_zero]; (rw [IntWalk.wrap64_in _ (by omega)]) <;> rfl)) ?_; (with_reducible refine (yardstickref01_PutString.calls k2 (a1.extract 0 ((ji5) : Int).toNat) t154 t155 _ A59.out).mono ?_); rintro e w71 ⟨rfl, hb⟩; refine ⟨_, rfl, ?_⟩; have n0_ := Aside0.mk (Kd.R_below (by (with_reducible repeat (first | apply Kd.R_alloc | apply Kd.R_drewN | apply Kd.R_drew)); exact HO_73.out) hb); have n1_ := Aside0.mk (below_step (by repeat (first | (with_reducible first | exact HB.out | apply below_alloc | apply pw_below_drewN | apply below_drew1) | exact HB.out)) hb); clear HO_73; clear HB; have HO_73 := n0_; have HB := n1_; clear n0_ n1_; (try clear hb); (try clear hb2); (try clear hk); (try clear hi)))
                      go_ret
                      exact ⟨by first | rfl | (simp [errW_none, errW_some] <;> rfl) | (simp only [← hji5]; first | rfl | (simp [errW_none, errW_some] <;> rfl)) | (simp [*, errW_none, errW_some] <;> rfl), by repeat (first | (with_reducible first | exact HB.out | apply below_alloc | apply pw_below_drewN | apply below_drew1) | exact HB.out)⟩
                  · replace c60 := Bool.eq_false_iff.mpr c60
                    subst c60
                    have H1 : (some false) = some r := by rw [if_neg (show ¬ (false = true) by decide)] at H; exact H
                    clear H
                    have H := H1
                    clear H1
                    obtain rfl := Option.some.inj H
                    go_wp2_with (first | ((with_reducible refine gate_callee (f := 19) rfl ?_); refine goesL_ (some 138) rfl rfl Tryd.func19 (by kernel_rfl) rfl #[.string (a1.extract 0 ((ji5) : Int).toNat)] rfl (by (try simp only [List.map_toArray, List.map_cons, List.map_nil]); first | done | (simp only [hji5]; rfl) | rfl | (simp only [List.length_drop, List.length_take]; rfl) | (simp only [ByteArray.size_extract, ByteArray.size_append, Nat.sub_zero]; done) | (simp only [ByteArray.size_extract, ByteArray.size_append, Nat.sub_zero]; (rw [IntWalk.wrap64_in _ (by omega)]) <;> rfl)) ?_; (with_reducible refine (Pa.wire_PutString.calls (a1.extract 0 ((ji5) : Int).toNat) t152 t153 _ A58.out).mono ?_); rintro e w72 ⟨rfl, hb⟩; refine ⟨_, rfl, ?_⟩; have n0_ := Aside0.mk (Kd.R_below (by (with_reducible repeat (first | apply Kd.R_alloc | apply Kd.R_drewN | apply Kd.R_drew)); exact HO_73.out) hb); have n1_ := Aside0.mk (below_step (by repeat (first | (with_reducible first | exact HB.out | apply below_alloc | apply pw_below_drewN | apply below_drew1) | exact HB.out)) hb); clear HO_73; clear HB; have HO_73 := n0_; have HB := n1_; clear n0_ n1_; (try clear hb); (try clear hb2); (try clear hk); (try clear hi)) | ((with_reducible refine gate_callee (f := 20) rfl ?_); refine goesL_ (some 143) rfl rfl Tryd.func20 (by kernel_rfl) rfl #[.string (a1.extract 0 ((ji5) : Int).toNat)] rfl (by (try simp only [List.map_toArray, List.map_cons, List.map_nil]); first | done | (simp only [hji5]; rfl) | rfl | (simp only [List.length_drop, List.length_take]; rfl) | (simp only [ByteArray.size_extract, ByteArray.size_append, Nat.sub_zero]; done) | (simp only [ByteArray.size_extract, ByteArray.size_append, Nat.sub_zero]; (rw [IntWalk.wrap64_in _ (by omega)]) <;> rfl)) ?_; (with_reducible refine (yardstickref01_PutString.calls k2 (a1.extract 0 ((ji5) : Int).toNat) t154 t155 _ A59.out).mono ?_); rintro e w73 ⟨rfl, hb⟩; refine ⟨_, rfl, ?_⟩; have n0_ := Aside0.mk (Kd.R_below (by (with_reducible repeat (first | apply Kd.R_alloc | apply Kd.R_drewN | apply Kd.R_drew)); exact HO_73.out) hb); have n1_ := Aside0.mk (below_step (by repeat (first | (with_reducible first | exact HB.out | apply below_alloc | apply pw_below_drewN | apply below_drew1) | exact HB.out)) hb); clear HO_73; clear HB; have HO_73 := n0_; have HB := n1_; clear n0_ n1_; (try clear hb); (try clear hb2); (try clear hk); (try clear hi)))
                    go_ret
                    exact ⟨by first | rfl | (simp [errW_none, errW_some] <;> rfl) | (simp only [← hji5]; first | rfl | (simp [errW_none, errW_some] <;> rfl)) | (simp [*, errW_none, errW_some] <;> rfl), by repeat (first | (with_reducible first | exact HB.out | apply below_alloc | apply pw_below_drewN | apply below_drew1) | exact HB.out)⟩
    · rw [if_neg c7] at H
      exact absurd H (by simp)
  · rw [if_neg c6] at H
    exact absurd H (by simp)

/-- THE ONE PURE STATEMENT of yardsticklaw01_WireMatchesReference: yours. -/
def yardsticklaw01_WireMatchesReference.Pure : Prop := ∀ (a0 : Int) (a1 : ByteArray) (a2 : Int), (Lit.int .i64 a0).wf = true → a1.size ≤ 140737488351232 → (Lit.int .i64 a2).wf = true → ∃ k, yardsticklaw01_WireMatchesReference.f k a0 a1 a2 = some true
theorem yardsticklaw01_WireMatchesReference.walk (P : yardsticklaw01_WireMatchesReference.Pure) (a0 : Int) (a1 : ByteArray) (a2 : Int) (w : World) (HG : Aside0 (Laid w)) (w0 : (Lit.int .i64 a0).wf = true) (w1 : a1.size ≤ 140737488351232) (w2 : (Lit.int .i64 a2).wf = true) :
    Calls Tryd.prog 3 #[.int .i64 a0, .string a1, .int .i64 a2] w fun e w' => e = .returned (.bool true) ∧ Below w.heap.size w w' := by
  obtain ⟨k, h⟩ := P a0 a1 a2 w0 w1 w2
  refine (yardsticklaw01_WireMatchesReference.calls k a0 a1 a2 true w HG h).mono ?_
  rintro e w' ⟨rfl, hd⟩
  exact ⟨rfl, hd⟩

-- NOT PRINTED: function 4 (yardsticklaw01_WireRoundTrip)

end Go.Proofs.YtffalfonmooinaaDoor.Pr
