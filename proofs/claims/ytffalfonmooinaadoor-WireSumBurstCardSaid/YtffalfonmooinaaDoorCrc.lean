/- Plain facts about the checksum: it is linear. -/
import Derived.Test.YtffalfonmooinaaDoorPa1
namespace Go.Proofs.YtffalfonmooinaaDoor
open Go.RowKit Go.Proofs.YtffalfonmooinaaDoorW.PrintWords
set_option linter.unusedVariables false
set_option linter.unusedSimpArgs false

theorem nib_xor (a b : Nat) (ha : a < 16) (hb : b < 16) : nib (a ^^^ b) = nib a ^^^ nib b := by
  have h : ∀ (x y : Fin 16), nib (x.1 ^^^ y.1) = nib x.1 ^^^ nib y.1 := by decide +kernel
  exact h ⟨a, ha⟩ ⟨b, hb⟩
theorem xor4 (a b c d : Nat) : (a ^^^ b) ^^^ (c ^^^ d) = (a ^^^ c) ^^^ (b ^^^ d) := by
  rw [Nat.xor_assoc, Nat.xor_assoc, ← Nat.xor_assoc b c d, Nat.xor_comm b c, Nat.xor_assoc c b d]
theorem half_xor (a b : Nat) : half (a ^^^ b) = half a ^^^ half b := by
  unfold half
  have e1 : (a ^^^ b) / 16 = a / 16 ^^^ b / 16 := Nat.xor_div_two_pow (n := 4)
  have e2 : (a ^^^ b) % 16 = a % 16 ^^^ b % 16 := Nat.xor_mod_two_pow (n := 4)
  rw [e1, e2, nib_xor _ _ (Nat.mod_lt _ (by decide)) (Nat.mod_lt _ (by decide)), xor4]
/-- A byte's step, on numbers. -/
def stepN (r b : Nat) : Nat := half (half (r ^^^ b))
theorem stepN_xor (r s a b : Nat) : stepN (r ^^^ s) (a ^^^ b) = stepN r a ^^^ stepN s b := by
  unfold stepN
  rw [xor4, half_xor, half_xor]
theorem stepN_lt (r b : Nat) (hr : r < 4294967296) (hb : b < 256) : stepN r b < 4294967296 :=
  half_lt _ (half_lt _ (Nat.xor_lt_two_pow (n := 32) (by omega) (by omega)))
/-- The register behind a list of bytes, told as numbers. -/
def crcN (l : List Nat) (r : Nat) : Nat := l.foldl stepN r
theorem crc_eq (l : List UInt8) : ∀ r, crc l r = crcN (l.map UInt8.toNat) r := by
  induction l with
  | nil => exact fun _ => rfl
  | cons b l ih => exact fun r => ih _
theorem crcN_xor : ∀ (a b : List Nat), a.length = b.length → ∀ r s, crcN (List.zipWith (· ^^^ ·) a b) (r ^^^ s) = crcN a r ^^^ crcN b s
  | [], [], _, r, s => rfl
  | x :: a, y :: b, h, r, s => by
    show crcN (List.zipWith (· ^^^ ·) a b) (stepN (r ^^^ s) (x ^^^ y)) = _
    rw [stepN_xor]
    exact crcN_xor a b (by simpa using h) _ _
  | [], _ :: _, h, _, _ => by simp at h
  | _ :: _, [], h, _, _ => by simp at h
theorem crcN_lt : ∀ (l : List Nat), (∀ x ∈ l, x < 256) → ∀ r, r < 4294967296 → crcN l r < 4294967296
  | [], _, r, h => h
  | x :: l, hl, r, h => crcN_lt l (fun y hy => hl y (List.mem_cons_of_mem _ hy)) _ (stepN_lt _ _ h (hl x (List.mem_cons_self ..)))
theorem compl_u32 (c : Nat) (h : c < 4294967296) : 4294967295 - c = 4294967295 ^^^ c := by
  have := sum_end c h
  have hm : IntKind.u32.max = ((4294967295 : Nat) : Int) := by decide
  rw [hm, xor_u32 _ _ (by decide) h] at this
  have hl := Nat.xor_lt_two_pow (n := 32) (x := 4294967295) (y := c) (by omega) (by omega)
  unfold wrap64 at this
  omega
theorem xor_i64 (a b : Nat) (ha : a < 4294967296) (hb : b < 4294967296) : Go.bits .xor .i64 (a : Int) (b : Int) = ((a ^^^ b : Nat) : Int) := by
  have h := Nat.xor_lt_two_pow (n := 32) (x := a) (y := b) (by omega) (by omega)
  have ea : a % 2 ^ 64 = a := Nat.mod_eq_of_lt (by omega)
  have eb : b % 2 ^ 64 = b := Nat.mod_eq_of_lt (by omega)
  show IntKind.i64.wrap ((BitVec.ofInt 64 (a : Int) ^^^ BitVec.ofInt 64 (b : Int)).toNat : Int) = _
  simp only [BitVec.ofInt_natCast, BitVec.toNat_xor, BitVec.toNat_ofNat, ea, eb]
  exact IntWalk.i64_in _ (by omega)
theorem xor_u8 (a b : Nat) (ha : a < 256) (hb : b < 256) : Go.bits .xor .u8 (a : Int) (b : Int) = ((a ^^^ b : Nat) : Int) := by
  have h := Nat.xor_lt_two_pow (n := 8) (x := a) (y := b) (by omega) (by omega)
  have ea : a % 2 ^ 8 = a := Nat.mod_eq_of_lt (by omega)
  have eb : b % 2 ^ 8 = b := Nat.mod_eq_of_lt (by omega)
  show IntKind.u8.wrap ((BitVec.ofInt 8 (a : Int) ^^^ BitVec.ofInt 8 (b : Int)).toNat : Int) = _
  simp only [BitVec.ofInt_natCast, BitVec.toNat_xor, BitVec.toNat_ofNat, ea, eb]
  exact IntWalk.u8_in _ (by omega)

/-! ### Bytes of strings -/
theorem bt_of (s : ByteArray) (i : Nat) (h : i < s.size) : bt s i = ((s.data.toList[i]'(by simpa using h)).toNat : Int) := by
  unfold bt
  rw [dif_pos (by simpa using h)]
  rfl
theorem extract_list (s : ByteArray) (a b : Nat) : (s.extract a b).data.toList = (s.data.toList.take b).drop a := by
  rw [ByteArray.data_extract]
  simp [List.drop_take]
/-- The checksum of a string. -/
def sumOf (l : List UInt8) : Nat := 4294967295 ^^^ crcN (l.map UInt8.toNat) 4294967295
theorem wire_Sum_f (s : ByteArray) (h : s.size ≤ 9223372036854775807) : wire_Sum.f s = some ((sumOf s.data.toList : Nat) : Int) := by
  unfold wire_Sum.f sumOf
  rw [if_pos h, ← compl_u32 _ (crcN_lt _ (by intro x hx; obtain ⟨b, _, rfl⟩ := List.mem_map.1 hx; exact b.toNat_lt) _ (by decide)), crc_eq]
theorem sumOf_lt (l : List UInt8) : sumOf l < 4294967296 :=
  Nat.xor_lt_two_pow (n := 32) (by decide) (crcN_lt _ (by intro x hx; obtain ⟨b, _, rfl⟩ := List.mem_map.1 hx; exact b.toNat_lt) _ (by decide))
end Go.Proofs.YtffalfonmooinaaDoor
