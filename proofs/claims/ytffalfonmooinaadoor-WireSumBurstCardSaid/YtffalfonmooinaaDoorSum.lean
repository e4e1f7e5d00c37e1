import Derived.Test.YtffalfonmooinaaDoorProg
import Derived.Below
import Derived.WalkKit
import Derived.KernelRfl
import Derived.RowKit3
import Derived.LoopTactic
import Derived.Outline
import Derived.Laws.BitsLemmas
import Derived.WalkSpells
import Derived.Lib.Hide
import Derived.Test.YtffalfonmooinaaDoorWWords
namespace Go.Proofs.YtffalfonmooinaaDoor
open Go.RowKit Go.Proofs.YtffalfonmooinaaDoorW.PrintWords
set_option linter.unusedVariables false
set_option linter.unusedSimpArgs false

def nibs : List Nat := [0, 274646895, 549293790, 820201905, 1098587580, 1361435347, 1640403810, 1905808397, 2197175160, 2460548119, 2722870694, 2987750089, 3280807620, 3553878443, 3811616794, 4084100981]
def nib (k : Nat) : Nat := nibs.getD k 0
/-- The table lies in memory. -/
def Laid (w : World) : Prop := ∀ k, k < 16 → w.cell? ⟨0, k, none⟩ = some (.int .u32 (nib k : Nat))

def half (r : Nat) : Nat := r / 16 ^^^ nib (r % 16)
def byteStep (r : Nat) (b : UInt8) : Nat := half (half (r ^^^ b.toNat))
def crc (l : List UInt8) (r : Nat) : Nat := l.foldl byteStep r

theorem xor_u32 (a b : Nat) (ha : a < 4294967296) (hb : b < 4294967296) : Go.bits .xor .u32 (a : Int) (b : Int) = ((a ^^^ b : Nat) : Int) := by
  have h := Nat.xor_lt_two_pow (n := 32) (x := a) (y := b) (by omega) (by omega)
  have ea : a % 2 ^ 32 = a := Nat.mod_eq_of_lt (by omega)
  have eb : b % 2 ^ 32 = b := Nat.mod_eq_of_lt (by omega)
  show IntKind.u32.wrap ((BitVec.ofInt 32 (a : Int) ^^^ BitVec.ofInt 32 (b : Int)).toNat : Int) = _
  simp only [BitVec.ofInt_natCast, BitVec.toNat_xor, BitVec.toNat_ofNat, ea, eb, IntKind.wrap_u32]
  omega
theorem and15_u32 (a : Nat) (ha : a < 4294967296) : Go.bits .and .u32 (a : Int) 15 = ((a % 16 : Nat) : Int) := by
  have h := bits_mask .u32 32 (by decide) (fun n h0 h1 => by rw [IntKind.wrap_u32]; omega) 4 (by decide) (a : Int) (by omega) (by omega)
  simpa using h
theorem nib_lt (k : Nat) : nib k < 4294967296 := by
  unfold nib
  by_cases h : k < 16
  · have : ∀ k : Fin 16, nibs.getD k.1 0 < 4294967296 := by decide
    exact this ⟨k, h⟩
  · rw [List.getD_eq_getElem?_getD, List.getElem?_eq_none (by simp [nibs]; omega)]; decide
theorem half_lt (r : Nat) (h : r < 4294967296) : half r < 4294967296 := by
  have := Nat.xor_lt_two_pow (n := 32) (x := r / 16) (y := nib (r % 16)) (by omega) (nib_lt _)
  exact this
theorem byteStep_lt (r : Nat) (b : UInt8) (h : r < 4294967296) : byteStep r b < 4294967296 := by
  have hb := b.toNat_lt
  exact half_lt _ (half_lt _ (Nat.xor_lt_two_pow (n := 32) (by omega) (by omega)))
theorem crc_lt (l : List UInt8) : ∀ (r : Nat), r < 4294967296 → crc l r < 4294967296 := by
  induction l with
  | nil => exact fun r h => h
  | cons b l ih => exact fun r h => ih _ (byteStep_lt r b h)
theorem take_snoc (s : ByteArray) (k : Nat) (h : k < s.size) : s.data.toList.take (k + 1) = s.data.toList.take k ++ [s[k]] := by
  rw [List.take_succ_eq_append_getElem (by simpa using h)]; rfl
theorem crc_snoc (l : List UInt8) (b : UInt8) (r : Nat) : crc (l ++ [b]) r = byteStep (crc l r) b := by simp [crc]

theorem sum_end (c : Nat) (h : c < 4294967296) : wrap64 (Go.bits .xor .u32 IntKind.u32.max (c : Int)) = ((4294967295 - c : Nat) : Int) := by
  have hm : IntKind.u32.max = ((4294967295 : Nat) : Int) := by decide
  rw [hm, xor_u32 _ _ (by decide) h]
  have : 4294967295 ^^^ c = 4294967295 - c := by
    apply Nat.eq_of_testBit_eq
    intro i
    have h1 := Nat.testBit_two_pow_sub_succ (n := 32) (x := c) (by omega) i
    have h2 : 2 ^ 32 - (c + 1) = 4294967295 - c := by omega
    rw [h2] at h1
    rw [h1, Nat.testBit_xor, show (4294967295 : Nat) = 2 ^ 32 - 1 by decide, Nat.testBit_two_pow_sub_one]
    by_cases hi : i < 32
    · simp [hi]
    · have : c.testBit i = false := Nat.testBit_lt_two_pow (Nat.lt_of_lt_of_le h (by
        have : 2 ^ 32 ≤ 2 ^ i := Nat.pow_le_pow_right (by omega) (by omega)
        simpa using this))
      simp [hi, this]
  rw [this]
  unfold wrap64
  omega
theorem sum_any (s : ByteArray) (w : World) (hs : s.size ≤ maxLen) (hL : Laid w) :
    Calls Tryd.prog 21 #[.string s] w fun e w' => e = .returned (.int .i64 ((4294967295 - crc s.data.toList 4294967295 : Nat) : Int)) ∧ w = w' := by
  unfold maxLen at hs
  have HL := Lib.hid hL
  clear hL
  go_enter Tryd.func21, Tryd.ntmps21
  go_wp2
  go_loop [3, 7] (fun r i => ∃ k : Nat, k ≤ s.size ∧ i = .int .i64 k ∧ r = .int .u32 (crc (s.data.toList.take k) 4294967295 : Nat)) (fun _ i => s.size - (intOf i).toNat)
  case atStart => exact ⟨0, Nat.zero_le _, rfl, rfl⟩
  case round =>
    obtain ⟨k, hk, rfl, rfl⟩ := hrel
    have hR := crc_lt (s.data.toList.take k) 4294967295 (by decide)
    by_cases hlt : k < s.size
    · have hn : crc (s.data.toList.take (k + 1)) 4294967295 = byteStep (crc (s.data.toList.take k) 4294967295) s[k] := by rw [take_snoc s k hlt, crc_snoc]
      generalize crc (s.data.toList.take k) 4294967295 = R at *
      have hb := s[k].toNat_lt
      have e1 := xor_u32 R s[k].toNat hR (by omega)
      have l1 : R ^^^ s[k].toNat < 4294967296 := Nat.xor_lt_two_pow (n := 32) (by omega) (by omega)
      have hn' : byteStep R s[k] = half (half (R ^^^ s[k].toNat)) := rfl
      generalize R ^^^ s[k].toNat = R1 at *
      have e2 := and15_u32 R1 l1
      have c2 := HL (R1 % 16) (by omega)
      have e3 := xor_u32 (R1 / 16) (nib (R1 % 16)) (by omega) (nib_lt _)
      have d3 : (R1 : Int) / 16 = ((R1 / 16 : Nat) : Int) := by omega
      have l2 := half_lt R1 l1
      have h2 : half R1 = R1 / 16 ^^^ nib (R1 % 16) := rfl
      rw [← h2, ← d3] at e3
      generalize half R1 = R2 at *
      clear h2 d3
      have j2 : R1 % 16 < 16 := by omega
      generalize nib (R1 % 16) = n1 at *
      generalize R1 % 16 = k1 at *
      have e4 := and15_u32 R2 l2
      have c4 := HL (R2 % 16) (by omega)
      have e5 := xor_u32 (R2 / 16) (nib (R2 % 16)) (by omega) (nib_lt _)
      have d5 : (R2 : Int) / 16 = ((R2 / 16 : Nat) : Int) := by omega
      have h3 : half R2 = R2 / 16 ^^^ nib (R2 % 16) := rfl
      rw [← h3, ← d5] at e5
      generalize half R2 = R3 at *
      clear h3 d5
      have j4 : R2 % 16 < 16 := by omega
      generalize nib (R2 % 16) = n2 at *
      generalize R2 % 16 = k2 at *
      have HN := Lib.hid (hn.trans hn')
      clear hn hn'
      go_wp2
      go_round
      case rel => exact ⟨k + 1, by omega, by go_num, by rw [HN]⟩
      case measure => simp [intOf]; omega
    · obtain rfl : k = s.size := by omega
      have he := sum_end _ hR
      rw [List.take_of_length_le (by simp)] at he
      have HE := Lib.hid he
      clear he
      rw [List.take_of_length_le (by simp)]
      go_wp2
      go_ret
      exact ⟨by rw [HE.out]; rfl, rfl⟩
/-- The table lies there still. -/
theorem Laid.below {w w' : World} (h : Laid w) (hb : Below w.heap.size w w') : Laid w' := fun k hk => pw_cell_below hb (h k hk)

/-- wire.Sum, as a plain function. -/
def wire_Sum.f (a0 : ByteArray) : Option Int := if a0.size ≤ 9223372036854775807 then some ((4294967295 - crc a0.data.toList 4294967295 : Nat) : Int) else none
theorem wire_Sum.calls (a0 : ByteArray) (r : Int) (w : World) (HG : Aside0 (Laid w)) (h : wire_Sum.f a0 = some r) :
    Calls Tryd.prog 21 #[.string a0] w fun e w' => e = .returned (.int .i64 r) ∧ Below w.heap.size w w' := by
  unfold wire_Sum.f at h
  split at h
  · rename_i hs
    obtain rfl := Option.some.inj h
    exact (sum_any a0 w (by unfold maxLen; omega) HG.out).mono fun e w' ⟨he, hw⟩ => ⟨he, hw ▸ Below.refl _ _⟩
  · exact absurd h (by simp)
end Go.Proofs.YtffalfonmooinaaDoor
