/- wire.PutInt: the encoding of an integer. -/
import Derived.Test.YtffalfonmooinaaDoorGroups
import Derived.Maps.AppendAt
import Derived.RangeFuncBox
import Derived.Test.YtffalfonmooinaaDoorWWords
namespace Go.Proofs.YtffalfonmooinaaDoor
open Go.RowKit Go.Shelf Go.Proofs.YtffalfonmooinaaDoorW.PrintWords
set_option linter.unusedVariables false
set_option linter.unusedSimpArgs false
attribute [local go_sem] Oper.semAt_some

/-- The byte of a group: 128 is added to every byte except the last one. -/
def byteOf (x : Nat × Bool) : Nat := if x.2 then x.1 else x.1 + 128

theorem groups_in (F : Fence) (n : Nat) (h23 : F.fn 23) (hro : F.round = none) (z : Int) (w : World) :
    CallsIn F n Tryd.prog 23 #[.int .u64 z] w fun e w' => e = .returned (.func (.func 25) #[] #[.pointer (some ⟨w.heap.size, 0, none⟩)]) ∧ w.alloc (.cells #[.int .u64 z] 49) = w' := by
  refine callsIn_of_wp Tryd.func23 rfl h23 ?_ hro
  simp only [Tryd.ntmps23, List.size_toArray, List.length_cons, List.length_nil, Nat.reduceAdd, Nat.reduceSub, Array.replicate_succ, Array.replicate_zero, List.push_toArray, List.append_toArray, List.nil_append, List.cons_append]
  gi_wp2
  go_ret
  exact ⟨rfl, rfl⟩

/-- The number that is encoded for x. -/
def zig (x : Int) : Nat := if x < 0 then (-2 * x - 1).toNat else (2 * x).toNat

/-- The encoding of x. -/
def encStr (x : Int) : ByteArray := strOfNums ((grp 10 (zig x)).map fun y => ((byteOf y : Nat) : Int))

theorem xor_u64 (a b : Nat) (ha : a < 18446744073709551616) (hb : b < 18446744073709551616) : Go.bits .xor .u64 (a : Int) (b : Int) = ((a ^^^ b : Nat) : Int) := by
  have h := Nat.xor_lt_two_pow (n := 64) (x := a) (y := b) (by omega) (by omega)
  have ea : a % 2 ^ 64 = a := Nat.mod_eq_of_lt (by omega)
  have eb : b % 2 ^ 64 = b := Nat.mod_eq_of_lt (by omega)
  show IntKind.u64.wrap ((BitVec.ofInt 64 (a : Int) ^^^ BitVec.ofInt 64 (b : Int)).toNat : Int) = _
  simp only [BitVec.ofInt_natCast, BitVec.toNat_xor, BitVec.toNat_ofNat, ea, eb]
  exact IntWalk.u64_in _ (by omega)
theorem compl_u64 (c : Nat) (h : c < 18446744073709551616) : 18446744073709551615 ^^^ c = 18446744073709551615 - c := by
  apply Nat.eq_of_testBit_eq
  intro i
  have h1 := Nat.testBit_two_pow_sub_succ (n := 64) (x := c) (by omega) i
  have h2 : 2 ^ 64 - (c + 1) = 18446744073709551615 - c := by omega
  rw [h2] at h1
  rw [h1, Nat.testBit_xor, show (18446744073709551615 : Nat) = 2 ^ 64 - 1 by decide, Nat.testBit_two_pow_sub_one]
  by_cases hi : i < 64
  · simp [hi]
  · have : c.testBit i = false := Nat.testBit_lt_two_pow (Nat.lt_of_lt_of_le h (by
      have : 2 ^ 64 ≤ 2 ^ i := Nat.pow_le_pow_right (by omega) (by omega)
      simpa using this))
    simp [hi, this]
theorem zig_lt (x : Int) (h0 : -4611686018427387903 ≤ x) (h1 : x ≤ 4611686018427387903) : zig x < 18446744073709551616 := by
  unfold zig; split <;> omega
theorem wrap_u64 (n : Int) : IntKind.u64.wrap n = n % 18446744073709551616 := by simp [IntKind.wrap, IntKind.bits, IntKind.signed]
theorem zig_bits (x : Int) (h0 : -4611686018427387903 ≤ x) (h1 : x ≤ 4611686018427387903) :
    Go.bits .xor .u64 (IntKind.u64.wrap (IntKind.u64.wrap x * 2)) (IntKind.u64.wrap (x / 9223372036854775808)) = ((zig x : Nat) : Int) := by
  by_cases h : x < 0
  · have e1 : IntKind.u64.wrap (IntKind.u64.wrap x * 2) = (((2 * x + 18446744073709551616).toNat : Nat) : Int) := by
      rw [wrap_u64, wrap_u64]; omega
    have e2 : IntKind.u64.wrap (x / 9223372036854775808) = ((18446744073709551615 : Nat) : Int) := by
      rw [wrap_u64]; omega
    rw [e1, e2, xor_u64 _ _ (by omega) (by decide), Nat.xor_comm, compl_u64 _ (by omega)]
    unfold zig
    rw [if_pos h]
    omega
  · have e1 : IntKind.u64.wrap (IntKind.u64.wrap x * 2) = (((2 * x).toNat : Nat) : Int) := by
      rw [wrap_u64, wrap_u64]; omega
    have e2 : IntKind.u64.wrap (x / 9223372036854775808) = ((0 : Nat) : Int) := by
      rw [wrap_u64]; omega
    rw [e1, e2, xor_u64 _ _ (by omega) (by decide), Nat.xor_zero]
    unfold zig
    rw [if_neg h]

theorem grp_lt (k z : Nat) (x : Nat × Bool) (h : x ∈ grp k z) : x.1 < 128 := by
  induction k generalizing z with
  | zero => simp [grp] at h
  | succ k ih =>
    simp only [grp] at h
    split at h
    · simp at h; subst h; assumption
    · simp only [List.mem_cons] at h
      rcases h with rfl | h
      · exact Nat.mod_lt _ (by decide)
      · exact ih _ h
theorem grp_len (k z : Nat) : (grp k z).length ≤ k := by
  induction k generalizing z with
  | zero => simp [grp]
  | succ k ih =>
    simp only [grp]
    split
    · simp
    · simp; exact ih _
theorem or128_u8 (g : Nat) (h : g < 128) : Go.bits .or .u8 (g : Int) 128 = ((g + 128 : Nat) : Int) := by
  have hall : ∀ k : Fin 128, Go.bits .or .u8 ((k.1 : Nat) : Int) 128 = ((k.1 + 128 : Nat) : Int) := by decide
  exact hall ⟨g, h⟩
theorem info5 : (Tryd.prog.info? 5).map (fun i => (i.zero, i.size, i.bytes)) = some (some (.int .u8 0), 1, 1) := by kernel_rfl

theorem body_end {w W w1 : World} {v v' : Value} {xs ys : List Value} {k : Nat} {tmp : Obj} {f : Nat × Bool → Value} {pre : List (Nat × Bool)} {y : Nat × Bool}
    (hv : Boxed W w.heap.size 38 v) (hrow : W.ownsRow (w.heap.size + 2) 5 1 v k xs) (hv1 : Boxed w1 w.heap.size 38 v)
    (hown' : w1.ownsRow (w.heap.size + 2) 5 1 v' (k + 1) ys) (hgrow : (W.alloc tmp).grownBy w1 v.ownBlock) (hb : Below w.heap.size w W) (hsz : w.heap.size + 2 ≤ W.heap.size) (hk : k + 1 = (pre ++ [y]).length) (hy : ys = (pre ++ [y]).map f) :
    KeepsFrom (w.heap.size + 2) W (w1.setCell ⟨w.heap.size, 0, none⟩ v') ∧ (w1.setCell ⟨w.heap.size, 0, none⟩ v').heap[w.heap.size + 1]? = W.heap[w.heap.size + 1]? ∧
      ∃ v, Boxed (w1.setCell ⟨w.heap.size, 0, none⟩ v') w.heap.size 38 v ∧ (w1.setCell ⟨w.heap.size, 0, none⟩ v').ownsRow (w.heap.size + 2) 5 1 v (pre ++ [y]).length ((pre ++ [y]).map f) ∧
        Below w.heap.size w (w1.setCell ⟨w.heap.size, 0, none⟩ v') ∧ w.heap.size + 2 ≤ (w1.setCell ⟨w.heap.size, 0, none⟩ v').heap.size := by
  have hgs := hgrow.size
  simp at hgs
  have hss : (w1.setCell ⟨w.heap.size, 0, none⟩ v').heap.size = w1.heap.size := by simp
  have hrowB : ∀ j, v.ownBlock = some j → w.heap.size + 2 ≤ j := fun j ej => (hrow.lt j ej).1
  refine ⟨((KeepsOthers.alloc W tmp).trans (KeepsOthers.of_grownBy hgrow fun j o ej hj => ?_)).trans (KeepsOthers.setCell _ _ _) |>.from _, ?_, v', hv1.set v', ?_, ?_, by omega⟩
  · rcases (hrow.alloc tmp).2 with ⟨rfl, _⟩ | ⟨g, cap, cur, rfl, _, hgb, _⟩
    · simp [Value.ownBlock] at ej
    · obtain rfl : g = j := by simpa [Value.ownBlock] using ej
      rw [hgb] at hj; cases hj; rfl
  · rw [Below.heap_setCell _ _ _ _ (by simp)]
    rw [hgrow.block (w.heap.size + 1) (by simp; omega) (fun e => by have := hrowB _ e.symm; omega)]
    exact Below.heap_alloc _ _ _ (by omega)
  · rw [← hk, ← hy]
    exact hown'.kept (grownBy_setCell' w1 _ v') (.inr (hv1.not_row (by decide) hown').symm)
  · have hb2 := ((hb.trans (Below.refl _ _)).alloc hb.size tmp).grown hgrow (by simp; omega) (fun j ej => by have := hrowB j ej; omega)
    exact hb2.setCell (p := ⟨w.heap.size, 0, none⟩) (Nat.le_refl _) v'

theorem putInt_in (F : Fence) (n : Nat) (h12 : F.fn 12) (h23 : F.fn 23) (h25 : F.fn 25) (hro : F.round = none) (hn : 3 ≤ n) (x : Int) (w : World) (h0 : -4611686018427387903 ≤ x) (h1 : x ≤ 4611686018427387903) :
    CallsIn F n Tryd.prog 12 #[.int .i64 x] w fun e w' => e = .returned (.tuple #[.string (encStr x), .int .i64 0]) ∧ Below w.heap.size w w' := by
  unfold encStr
  refine callsIn_of_wp_marks Tryd.func12 rfl h12 ?_ hro
  simp only [Tryd.ntmps12, List.size_toArray, List.length_cons, List.length_nil, Nat.reduceAdd, Nat.reduceSub, Array.replicate_succ, Array.replicate_zero, List.push_toArray, List.append_toArray, List.nil_append, List.cons_append]
  have h0' : decide (x < -4611686018427387903) = false := decide_eq_false (by omega)
  have h1' : decide (4611686018427387903 < x) = false := decide_eq_false (by omega)
  have hn1 : 1 ≤ n := by omega
  have hz := zig_bits x h0 h1
  have hzl := zig_lt x h0 h1
  generalize zig x = z at *
  gi_wp2_with (gi_at_call 23; refine (groups_in F (n - 1) h23 hro _ _).mono ?_; rintro e w' ⟨rfl, rfl⟩)
  have bo : Boxed ((w.alloc (.cells #[.slice none 0 0] 38)).alloc (.cells #[.int .u64 (z : Nat)] 49)) w.heap.size 38 (.slice none 0 0) := (Boxed.new w 38 _).alloc _
  have bz : Boxed ((w.alloc (.cells #[.slice none 0 0] 38)).alloc (.cells #[.int .u64 (z : Nat)] 49)) (w.heap.size + 1) 49 (.int .u64 (z : Nat)) := by
    have := Boxed.new (w.alloc (.cells #[.slice none 0 0] 38)) 49 (.int .u64 (z : Nat)); rwa [World.size_alloc] at this
  have bw : Below w.heap.size w ((w.alloc (.cells #[.slice none 0 0] 38)).alloc (.cells #[.int .u64 (z : Nat)] 49)) := ((Below.refl _ _).alloc (Nat.le_refl _) _).alloc (by simp) _
  have hs0 : ((w.alloc (.cells #[.slice none 0 0] 38)).alloc (.cells #[.int .u64 (z : Nat)] 49)).heap.size = w.heap.size + 2 := by simp
  generalize (w.alloc (.cells #[.slice none 0 0] 38)).alloc (.cells #[.int .u64 (z : Nat)] 49) = W0 at *
  refine wpIn_rangeFunc_fix hro hn1 (gf := 25) (lb := #[.pointer (some ⟨w.heap.size + 1, 0, none⟩)]) rfl h25 (enters_of Tryd.func25 (by kernel_rfl) rfl)
    (groups_gives F (n - 1) h25 hro (by omega) (w.heap.size + 1) z hzl W0 bz) (fun r e => by omega) (fun h k => k.trans h) ?hkb (Below.refl _ _) (fun _ => rfl)
    (fun pre W => ∃ v, Boxed W w.heap.size 38 v ∧ W.ownsRow (w.heap.size + 2) 5 1 v pre.length (pre.map fun x => .int .u8 (byteOf x : Nat)) ∧ Below w.heap.size w W ∧ w.heap.size + 2 ≤ W.heap.size)
    ?own ⟨_, bo, World.ownsRow_nil _ _ _ _, bw, by omega⟩
    (fun y => { tmps := #[.int .i64 x, undef, .string ⟨#[]⟩, .int .i64 0, .pointer (some ⟨w.heap.size, 0, none⟩), .int .u8 (y.1 : Nat), .bool y.2, .int .i64 x, .bool false, .bool false, .int .i64 x, .bool false, .bool false, .int .i64 x,
      .int .u64 (IntKind.u64.wrap x), .int .u64 (IntKind.u64.wrap (IntKind.u64.wrap x * 2)), .int .i64 x, .int .i64 (x / 9223372036854775808), .int .u64 (IntKind.u64.wrap (x / 9223372036854775808)), .int .u64 (z : Nat),
      .func (.func 25) #[] #[.pointer (some ⟨w.heap.size + 1, 0, none⟩)], .int .u8 (y.1 : Nat), .bool y.2, undef, undef, undef, undef, undef, undef, undef, undef, undef, undef], defers := [] }) ?assign ?body ?done
  case hkb =>
    intro W l o' hl
    exact World.putObj_heap_other (by omega)
  case own =>
    rintro s A B row ⟨v, hv, hr, hb, hsz⟩ hg hrow
    have hne : ∀ r, row = some r → w.heap.size + 1 ≤ r := by
      intro r e
      rcases hrow r e with ⟨hle, _⟩ | rfl <;> omega
    refine ⟨v, hv.kept hg ?_, hr.kept hg ?_, hb.grown hg hb.size (fun k e => by have := hne k e; omega), Nat.le_trans hsz hg.size⟩
    · intro e
      have := hne _ e.symm
      omega
    · rcases hr.2 with ⟨rfl, _⟩ | ⟨g, cap, cur, rfl, hbg, hgb, _⟩
      · exact .inl rfl
      · refine .inr fun e => ?_
        rcases hrow g (by simpa [Value.ownBlock] using e.symm) with ⟨_, o, ho, hc⟩ | rfl
        · rw [hgb] at ho; cases ho; cases hc
        · omega
  case assign =>
    intro l y W K hK
    simp only [encG]
    gi_wp2
    exact hK
  case body =>
    rintro l pre ⟨g, last⟩ W ⟨v, hv, hrow, hb, hsz⟩ hpre
    have hg := grp_lt _ _ _ (hpre.subset (by simp) : (g, last) ∈ grp 10 z)
    have hlen : pre.length + 1 ≤ 10 := by have := hpre.length_le; have := grp_len 10 z; simp at *; omega
    have hor := or128_u8 g hg
    obtain ⟨i0, hi, hz0, hz1, hz2⟩ := info_parts info5
    have hc := hv.cell
    have hf := hv.frozen
    dsimp only at hg ⊢
    rw [hs0]
    clear bo bz bw hs0
    cases last with
    | true =>
      gi_wp2_with (gi_at_builtin; refine wpListIn_append_own _ rfl _ _ 38 rfl (w.heap.size + 2) 5 i0 (.int .u8 0) 1 1 Tryd.underlying38 hi hz0 hz1 hz2 rfl (by decide) _ _ _ rfl (hrow.alloc _) ⟨W.heap.size, 0, none⟩ 1 1 [.int .u8 ((g : Nat) : Int)] rfl rfl (cell_one_new _ _ _) (by simp [Value.oneCell']) (by unfold maxLen; omega) (by omega) (by simp; omega) ?_; intro v' w1 hown' hgrow _; obtain ⟨g', cap', rfl⟩ := ownsRow_succ hown'; have hv1 := (hv.alloc _).kept hgrow (hv.not_row (by decide) hrow); have hc1 := hv1.cell; have hf1 := hv1.frozen; clear hc hf)
      exact body_end (pre := pre) (y := (g, true)) hv hrow hv1 hown' hgrow hb hsz (by simp) (by simp [byteOf])
    | false =>
      gi_wp2_with (gi_at_builtin; refine wpListIn_append_own _ rfl _ _ 38 rfl (w.heap.size + 2) 5 i0 (.int .u8 0) 1 1 Tryd.underlying38 hi hz0 hz1 hz2 rfl (by decide) _ _ _ rfl (hrow.alloc _) ⟨W.heap.size, 0, none⟩ 1 1 [.int .u8 ((g + 128 : Nat) : Int)] rfl rfl (cell_one_new _ _ _) (by simp [Value.oneCell']) (by unfold maxLen; omega) (by omega) (by simp; omega) ?_; intro v' w1 hown' hgrow _; obtain ⟨g', cap', rfl⟩ := ownsRow_succ hown'; have hv1 := (hv.alloc _).kept hgrow (hv.not_row (by decide) hrow); have hc1 := hv1.cell; have hf1 := hv1.frozen; clear hc hf)
      exact body_end (pre := pre) (y := (g, false)) hv hrow hv1 hown' hgrow hb hsz (by simp) (by simp [byteOf])
  case done =>
    rintro D W hD ⟨v, hv, hrow, hb, hsz⟩ hK
    clear bo bz bw
    have hc := hv.cell
    have hl : (grp 10 z).map (fun x => Value.int .u8 (byteOf x : Nat)) = nums .u8 ((grp 10 z).map fun x => ((byteOf x : Nat) : Int)) := by simp [nums]
    rw [hl] at hrow
    have hcv := own_string (P := Tryd.prog) (src := 38) (dst := 9) Tryd.underlying38 Tryd.underlying5 Tryd.underlying9 hrow
    clear hl
    generalize hr : strOfNums ((grp 10 z).map fun x => ((byteOf x : Nat) : Int)) = r at hcv
    have HR := Lib.hid hr
    clear hr
    gi_wp2
    refine ⟨by simp, .inl ⟨_, _, rfl, run_takeDeferred hK, ?_⟩⟩
    refine ⟨.tuple #[.string r, .int .i64 0], by simp [results, Tryd.results12, go_sem], by rw [HR.out], ?_⟩
    exact hb.trans (belowK_b (w := w) (Nat.le_refl _) W D _ _ (by omega) hK rfl rfl)

/-- wire.PutInt, as a plain function. -/
def wire_PutInt.f (a0 : Int) : Option (ByteArray × Int) :=
  if a0 < -4611686018427387903 then some (⟨#[]⟩, 10) else if a0 > 4611686018427387903 then some (⟨#[]⟩, 10) else some (encStr a0, 0)

theorem wire_PutInt.calls (a0 : Int) (r1 : ByteArray) (r2 : Int) (w : World) (h : wire_PutInt.f a0 = some (r1, r2)) :
    Calls Tryd.prog 12 #[.int .i64 a0] w fun e w' => e = .returned (.tuple #[.string r1, .int .i64 r2]) ∧ Below w.heap.size w w' := by
  unfold wire_PutInt.f at h
  split at h
  · rename_i hc
    simp only [Option.some.injEq, Prod.mk.injEq] at h
    obtain ⟨rfl, rfl⟩ := h
    go_enter Tryd.func12, Tryd.ntmps12
    go_wp2
    go_ret2
    exact ⟨rfl, Below.refl _ _⟩
  · rename_i hc
    split at h
    · rename_i hc2
      simp only [Option.some.injEq, Prod.mk.injEq] at h
      obtain ⟨rfl, rfl⟩ := h
      have hd : decide (a0 < -4611686018427387903) = false := decide_eq_false hc
      go_enter Tryd.func12, Tryd.ntmps12
      go_wp2
      go_ret2
      exact ⟨rfl, Below.refl _ _⟩
    · rename_i hc2
      simp only [Option.some.injEq, Prod.mk.injEq] at h
      obtain ⟨rfl, rfl⟩ := h
      refine (callsIn_wide (n := 3)).1 ?_
      exact putInt_in Fence.wide 3 trivial trivial trivial rfl (Nat.le_refl _) a0 w (by omega) (by omega)
end Go.Proofs.YtffalfonmooinaaDoor
