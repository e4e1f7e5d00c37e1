/- Plain facts about the encoding of integers: what Int reads is what PutInt wrote. -/
import Derived.Test.YtffalfonmooinaaDoorPa1
namespace Go.Proofs.YtffalfonmooinaaDoor
open Go.RowKit Go.Proofs.YtffalfonmooinaaDoorW.PrintWords Go.Proofs.YtffalfonmooinaaDoorW.PrintLast Go.Proofs.YtffalfonmooinaaDoorW.PrintMore
set_option linter.unusedVariables false
set_option linter.unusedSimpArgs false

/-- The bytes of the encoding of z. -/
def encN (k z : Nat) : List Nat := (grp k z).map byteOf
theorem encN_small {k z : Nat} (h : z < 128) : encN (k + 1) z = [z] := by simp [encN, grp, h, byteOf]
theorem encN_big {k z : Nat} (h : ¬ z < 128) : encN (k + 1) z = (z % 128 + 128) :: encN k (z / 128) := by simp [encN, grp, h, byteOf]
theorem encN_lt (k z : Nat) : ∀ x ∈ encN k z, x < 256 := by
  intro x hx
  obtain ⟨y, hy, rfl⟩ := List.mem_map.1 hx
  have := grp_lt k z y hy
  unfold byteOf
  split <;> omega
theorem encN_len (k z : Nat) : (encN k z).length ≤ k := by
  unfold encN
  rw [List.length_map]
  exact grp_len k z
/-- Enough rounds: more of them change nothing. -/
theorem encN_more : ∀ (k m z : Nat), z < 128 ^ (k + 1) → encN (k + 1) z = encN (k + 1 + m) z
  | 0, m, z, h => by
    rw [Nat.zero_add, Nat.pow_one] at h
    rw [show 0 + 1 + m = m + 1 by omega, encN_small h, encN_small h]
  | k + 1, m, z, h => by
    by_cases hz : z < 128
    · rw [show k + 1 + 1 + m = (k + 1 + m) + 1 by omega, encN_small hz, encN_small hz]
    · rw [show k + 1 + 1 + m = (k + 1 + m) + 1 by omega, encN_big hz, encN_big hz, encN_more k m (z / 128) (Nat.div_lt_of_lt_mul (by rw [Nat.pow_succ] at h; omega))]

/-- The number that a code stands for. -/
def zag (z : Nat) : Int := if z % 2 = 0 then ((z / 2 : Nat) : Int) else -((z / 2 : Nat) : Int) - 1
theorem zag_zig (x : Int) : zag (zig x) = x := by
  unfold zag zig
  split <;> split <;> omega
theorem zig_zag (z : Nat) : zig (zag z) = z := by
  unfold zag zig
  split <;> split <;> omega

/-! ### The bits -/
theorem and127_u8 (b : Nat) (h : b < 256) : Go.bits .and .u8 (b : Int) 127 = ((b % 128 : Nat) : Int) := by
  have hall : ∀ k : Fin 256, Go.bits .and .u8 ((k.1 : Nat) : Int) 127 = ((k.1 % 128 : Nat) : Int) := by decide +kernel
  exact hall ⟨b, h⟩
theorem pow_128 (i : Nat) : 2 ^ (7 * i) = 128 ^ i := by rw [Nat.pow_mul]
theorem pow_bound (i : Nat) (h : i ≤ 8) : 128 ^ i ≤ 72057594037927936 := by
  have := Nat.pow_le_pow_right (n := 128) (by decide) h
  simpa using this
theorem shl_u64 (g i : Nat) (hg : g < 128) (hi : i ≤ 8) : shl .u64 (IntKind.u64.wrap (g : Int)) (((7 * i : Nat) : Int)) = ((g * 128 ^ i : Nat) : Int) := by
  have hb := pow_bound i hi
  have hm : g * 128 ^ i ≤ 127 * 72057594037927936 := Nat.mul_le_mul (by omega) hb
  unfold shl
  rw [IntWalk.u64_in (g : Int) (by omega), Int.toNat_natCast, Nat.min_eq_left (by simp [IntKind.bits]; omega)]
  have e : ((g : Int) * 2 ^ (7 * i)) = ((g * 128 ^ i : Nat) : Int) := by
    rw [← pow_128]
    simp
  rw [e]
  exact IntWalk.u64_in _ (by omega)
theorem or_u64 (v g i : Nat) (hv : v < 128 ^ i) (hg : g < 128) (hi : i ≤ 8) : Go.bits .or .u64 (v : Int) ((g * 128 ^ i : Nat) : Int) = ((v + g * 128 ^ i : Nat) : Int) := by
  have hb := pow_bound i hi
  have hm : g * 128 ^ i ≤ 127 * 72057594037927936 := Nat.mul_le_mul (by omega) hb
  have h := (bits_nat .u64 64 (by decide) (fun n h0 h1 => IntWalk.u64_in n (by omega)) v (g * 128 ^ i) (by omega) (by omega)).2
  rw [h]
  have e : v ||| g * 128 ^ i = v + g * 128 ^ i := by
    rw [Nat.or_comm, ← pow_128, Nat.mul_comm g, ← Nat.two_pow_add_eq_or_of_lt (by rw [pow_128]; exact hv), Nat.add_comm]
  rw [e]
theorem and1_u64 (z : Nat) (hz : z < 18446744073709551616) : Go.bits .and .u64 (z : Int) 1 = ((z % 2 : Nat) : Int) := by
  have h := bits_mask .u64 64 (by decide) (fun n h0 h1 => IntWalk.u64_in n (by omega)) 1 (by decide) (z : Int) (by omega) (by omega)
  simpa using h
theorem not_i64 (c : Nat) (h : c < 9223372036854775808) : Go.bits .xor .i64 (c : Int) (-1) = -(c : Int) - 1 := by
  have e1 : BitVec.ofInt 64 (-1) = BitVec.ofNat 64 18446744073709551615 := by decide
  have ea : c % 2 ^ 64 = c := Nat.mod_eq_of_lt (by omega)
  show IntKind.i64.wrap ((BitVec.ofInt 64 (c : Int) ^^^ BitVec.ofInt 64 (-1)).toNat : Int) = _
  rw [e1]
  simp only [BitVec.ofInt_natCast, BitVec.toNat_xor, BitVec.toNat_ofNat, ea]
  rw [show 18446744073709551615 % 2 ^ 64 = 18446744073709551615 by decide, Nat.xor_comm, compl_u64 c (by omega), IntKind.wrap_i64]
  omega
theorem same_i64 (c : Nat) (h : c < 9223372036854775808) : Go.bits .xor .i64 (c : Int) 0 = (c : Int) := by
  have ea : c % 2 ^ 64 = c := Nat.mod_eq_of_lt (by omega)
  show IntKind.i64.wrap ((BitVec.ofInt 64 (c : Int) ^^^ BitVec.ofInt 64 0).toNat : Int) = _
  have e0 : BitVec.ofInt 64 0 = BitVec.ofNat 64 0 := by decide
  rw [e0]
  simp only [BitVec.ofInt_natCast, BitVec.toNat_xor, BitVec.toNat_ofNat, ea, Nat.zero_mod, Nat.xor_zero]
  rw [IntKind.wrap_i64]
  omega
theorem zag_bits (z : Nat) (hz : z < 9223372036854775808) : Go.bits .xor .i64 (wrap64 ((z : Int) / 2)) (wrap64 (-(wrap64 (Go.bits .and .u64 (z : Int) 1)))) = zag z := by
  rw [and1_u64 z (by omega)]
  have e1 : wrap64 ((z : Int) / 2) = ((z / 2 : Nat) : Int) := by unfold wrap64; omega
  rw [e1]
  unfold zag
  by_cases h : z % 2 = 0
  · rw [if_pos h, h]
    have e2 : wrap64 (-(wrap64 ((0 : Nat) : Int))) = 0 := by decide +kernel
    rw [e2]
    exact same_i64 _ (by omega)
  · have h1 : z % 2 = 1 := by omega
    rw [if_neg h, h1]
    have e2 : wrap64 (-(wrap64 ((1 : Nat) : Int))) = -1 := by decide +kernel
    rw [e2]
    exact not_i64 _ (by omega)
end Go.Proofs.YtffalfonmooinaaDoor
