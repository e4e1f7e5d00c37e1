/- The iterator wire.groups(z): it hands out the 7-bit groups of z. -/
import Derived.Test.YtffalfonmooinaaDoorProg
import Derived.Test.YtffalfonmooinaaDoorRangeFix
import Derived.RangeFuncNested
import Derived.RangeFuncBound
import Derived.RangeFuncCalls
import Derived.RangeFuncLeaves
import Derived.Shelf.Abstract
import Derived.Shelf.RegionOpen
import Derived.WalkKit
import Derived.OwnWalkIn
import Derived.TacticsInMore
import Derived.LoopNIn
import Derived.LoopIn
import Derived.Outline
import Derived.Lib.Hide
import Derived.OneCell
import Derived.KernelRfl
namespace Go.Proofs.YtffalfonmooinaaDoor
open Go.RowKit Go.Shelf
set_option linter.unusedVariables false
set_option linter.unusedSimpArgs false
attribute [local go_sem] Oper.semAt_some

/-- The 7-bit groups of z, the least significant one first, and whether a group is the last one. -/
def grp : Nat → Nat → List (Nat × Bool)
  | 0, _ => []
  | k + 1, z => if z < 128 then [(z, true)] else (z % 128, false) :: grp k (z / 128)
def encG (x : Nat × Bool) : Array Value := #[.int .u8 (x.1 : Nat), .bool x.2]

theorem and127_u64 (a : Nat) (ha : a < 18446744073709551616) : Go.bits .and .u64 (a : Int) 127 = ((a % 128 : Nat) : Int) := by
  have h := bits_mask .u64 64 (by decide) (fun n h0 h1 => by simp [IntKind.wrap, IntKind.bits, IntKind.signed]; omega) 7 (by decide) (a : Int) (by omega) (by omega)
  simpa using h

/-- The number in block B. -/
def left (B : Nat) (w : World) : Nat := match w.cell? ⟨B, 0, none⟩ with
  | some (.int _ n) => n.toNat
  | _ => 0
theorem left_eq {B : Nat} {w : World} {z : Nat} (h : w.heap[B]? = some (.cells #[.int .u64 (z : Nat)] 49 (0, 0))) : left B w = z := by
  unfold left World.cell?
  simp [h]
theorem cell_box {B : Nat} {w : World} {v : Value} {t : TypeId} (h : w.heap[B]? = some (.cells #[v] t (0, 0))) : w.cell? ⟨B, 0, none⟩ = some v ∧ w.frozen? ⟨B, 0, none⟩ = false := by
  unfold World.cell? World.frozen?
  simp [h]

theorem groups_gives (F : Fence) (n : Nat) (h25 : F.fn 25) (hro : F.round = none) (hn : 1 ≤ n) (B : Nat) (z : Nat) (hz : z < 18446744073709551616) (w : World) (hB : w.heap[B]? = some (.cells #[.int .u64 (z : Nat)] 49 (0, 0))) :
    GivesFix F n Tryd.prog 25 #[.pointer (some ⟨B, 0, none⟩)] encG (grp 10 z) (fun r => r = B) (fun W W' => W'.heap[B]? = W.heap[B]?) w := by
  intro l J W hW hJ hY h0
  have hB' : W.heap[B]? = some (.cells #[.int .u64 (z : Nat)] 49 (0, 0)) := (hW.block B (Array.getElem?_eq_some_iff.1 hB).1).trans hB
  clear hB hW
  refine callsIn_of_wp Tryd.func25 rfl h25 ?_ hro
  simp only [Tryd.ntmps25, List.size_toArray, List.length_cons, List.length_nil, Nat.reduceAdd, Nat.reduceSub, Array.replicate_succ, Array.replicate_zero, List.push_toArray, List.append_toArray, List.nil_append, List.cons_append]
  gi_wp2
  gi_loopw [3] (fun _ wr => ∃ (pre : List (Nat × Bool)) (k z' : Nat), 1 ≤ k ∧ z' < 128 ^ k ∧ z' < 18446744073709551616 ∧ grp 10 z = pre ++ grp k z' ∧ wr.heap[B]? = some (.cells #[.int .u64 (z' : Nat)] 49 (0, 0)) ∧ J pre wr)
    (fun _ wr => left B wr)
  case atStart => exact ⟨[], 10, z, by decide, by omega, hz, rfl, hB', h0⟩
  case round =>
    obtain ⟨pre, k, z', hk1, hz1, hz2, hx, hb, hJs⟩ := hrel
    obtain ⟨hc, hf⟩ := cell_box hb
    have hl := left_eq hb
    have ea := and127_u64 z' hz2
    by_cases hlt : z' < 128
    · have hd : decide ((z' : Int) < 128) = true := decide_eq_true (by omega)
      have hg : grp k z' = [(z' % 128, true)] := by
        obtain ⟨k, rfl⟩ : ∃ m, k = m + 1 := ⟨k - 1, by omega⟩
        simp only [grp]; rw [if_pos hlt, Nat.mod_eq_of_lt hlt]
      rw [hg] at hx
      have hx' := Lib.hid hx
      obtain ⟨fn, tmps, assign, body, hy, hR⟩ := hY pre (z' % 128, true) wr hJs (by rw [hx]; exact List.prefix_refl _)
      clear hx hg hl hY hJ hJs h0
      dsimp only [encG] at hy
      have l128 : z' % 128 < 128 := Nat.mod_lt _ (by decide)
      generalize z' % 128 = g at *
      gi_wp2
      refine hR.mono ?_
      rintro e W' ⟨rfl, hJ', hk⟩
      gi_wp2
      refine bodyPost_ret (results_none rfl _ _ _) rfl ?_
      exact ⟨⟨_, rfl⟩, by rw [hx'.out]; exact hJ'⟩
    · have hd : decide ((z' : Int) < 128) = false := decide_eq_false (by omega)
      obtain ⟨k, rfl⟩ : ∃ m, k = m + 1 := ⟨k - 1, by omega⟩
      have hg : grp (k + 1) z' = (z' % 128, false) :: grp k (z' / 128) := by
        simp only [grp]; rw [if_neg hlt]
      rw [hg] at hx
      have hk1' : 1 ≤ k := by
        rcases k with _ | k
        · simp at hz1; omega
        · omega
      have hz1' : z' / 128 < 128 ^ k := by
        rw [Nat.pow_succ] at hz1
        exact Nat.div_lt_of_lt_mul (by omega)
      have hx' := Lib.hid hx
      obtain ⟨fn, tmps, assign, body, hy, hR⟩ := hY pre (z' % 128, false) wr hJs (by rw [hx]; exact ⟨grp k (z' / 128), by simp⟩)
      clear hx hg hl hY hJs h0 hz1 hk1
      dsimp only [encG] at hy
      have l128 : z' % 128 < 128 := Nat.mod_lt _ (by decide)
      generalize z' % 128 = g at *
      gi_wp2
      refine hR.mono ?_
      rintro e W' ⟨rfl, hJ', hk⟩
      obtain ⟨hc', hf'⟩ := cell_box (hk.trans hb)
      have hJ2 := hJ _ _ (W'.setCell ⟨B, 0, none⟩ (.int .u64 ((z' / 128 : Nat) : Int))) (some B) hJ' (grownBy_setCell' _ _ _) (fun r e => by cases e; rfl)
      have hL := left_eq (one_setCell (u := .int .u64 ((z' / 128 : Nat) : Int)) (hk.trans hb))
      have hL0 := left_eq hb
      have hb2 := one_setCell (u := .int .u64 ((z' / 128 : Nat) : Int)) (hk.trans hb)
      have HX := Lib.hid (And.intro hb2 (And.intro hJ2 (And.intro hL hL0)))
      clear hL hL0 hb2 hJ2
      gi_wp2
      obtain ⟨hb2, hJ2, hL, hL0⟩ := HX.out
      refine ⟨⟨pre ++ [(g, false)], k, z' / 128, hk1', hz1', by omega, by rw [hx'.out]; simp, hb2, hJ2⟩, ?_⟩
      have hq : ((z' : Int) / 128) = ((z' / 128 : Nat) : Int) := by omega
      rw [hq, hL, hL0]
      exact Nat.div_lt_self (by omega) (by decide)
end Go.Proofs.YtffalfonmooinaaDoor
