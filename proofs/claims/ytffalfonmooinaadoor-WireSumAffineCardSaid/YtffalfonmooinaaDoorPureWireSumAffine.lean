/- The law WireSumAffine, over plain numbers and lists: the checksum of the XOR of three strings of one length is the XOR of their checksums. -/
import Derived.Test.YtffalfonmooinaaDoorPr6
import Derived.Test.YtffalfonmooinaaDoorCrc
namespace Go.Proofs.YtffalfonmooinaaDoor.Pure
open Go.RowKit Go.Proofs.YtffalfonmooinaaDoor.Pr Go.Proofs.YtffalfonmooinaaDoorW.PrintWords Go.Proofs.YtffalfonmooinaaDoorW.PrintLast
set_option linter.unusedVariables false
set_option linter.unusedSimpArgs false

def x3 (la lb lc : List UInt8) : List Nat := List.zipWith (· ^^^ ·) (List.zipWith (· ^^^ ·) (la.map UInt8.toNat) (lb.map UInt8.toNat)) (lc.map UInt8.toNat)
theorem x3_len {la lb lc : List UInt8} {n : Nat} (ha : la.length = n) (hb : lb.length = n) (hc : lc.length = n) : (x3 la lb lc).length = n := by simp [x3, ha, hb, hc]
theorem x3_lt (la lb lc : List UInt8) : ∀ x ∈ x3 la lb lc, x < 256 := by
  intro x hx
  unfold x3 at hx
  obtain ⟨i, hi, rfl⟩ := List.getElem_of_mem hx
  simp only [List.getElem_zipWith, List.getElem_map]
  exact Nat.xor_lt_two_pow (n := 8) (Nat.xor_lt_two_pow (n := 8) (UInt8.toNat_lt _) (UInt8.toNat_lt _)) (UInt8.toNat_lt _)
theorem x3_at {la lb lc : List UInt8} {i : Nat} (ha : i < la.length) (hb : i < lb.length) (hc : i < lc.length) (h : i < (x3 la lb lc).length) :
    (x3 la lb lc)[i] = la[i].toNat ^^^ lb[i].toNat ^^^ lc[i].toNat := by simp [x3]

theorem sum_x3 {la lb lc : List UInt8} {n : Nat} (ha : la.length = n) (hb : lb.length = n) (hc : lc.length = n) :
    4294967295 ^^^ crcN (x3 la lb lc) 4294967295 = sumOf la ^^^ sumOf lb ^^^ sumOf lc := by
  have h1 := crcN_xor (List.zipWith (· ^^^ ·) (la.map UInt8.toNat) (lb.map UInt8.toNat)) (lc.map UInt8.toNat) (by simp [ha, hb, hc]) (4294967295 ^^^ 4294967295) 4294967295
  rw [crcN_xor (la.map UInt8.toNat) (lb.map UInt8.toNat) (by simp [ha, hb])] at h1
  have e : (4294967295 ^^^ 4294967295) ^^^ 4294967295 = 4294967295 := by decide
  rw [e] at h1
  unfold x3 sumOf
  rw [h1]
  generalize crcN (la.map UInt8.toNat) 4294967295 = A
  generalize crcN (lb.map UInt8.toNat) 4294967295 = B
  generalize crcN (lc.map UInt8.toNat) 4294967295 = C
  rw [xor4 4294967295 A 4294967295 B, xor4 (4294967295 ^^^ 4294967295) (A ^^^ B) 4294967295 C]
  have e2 : (4294967295 : Nat) ^^^ 4294967295 ^^^ 4294967295 = 4294967295 := by decide
  rw [e2]

theorem set_step (X : List Nat) (n i : Nat) (h : X.length = n) (hi : i < n) :
    ((X.take i).map (fun x : Nat => (x : Int)) ++ List.replicate (n - i) 0).set i ((X[i]'(by omega) : Nat) : Int) = (X.take (i + 1)).map (fun x : Nat => (x : Int)) ++ List.replicate (n - (i + 1)) 0 := by
  have e : n - i = (n - (i + 1)) + 1 := by omega
  rw [List.take_succ_eq_append_getElem (by omega), List.map_append, List.append_assoc, List.set_append_right _ _ (by simp; omega), e, List.replicate_succ]
  have : i - ((X.take i).map (fun x : Nat => (x : Int))).length = 0 := by simp; omega
  rw [this]
  simp

theorem u8_of (l : List Nat) (h : ∀ x ∈ l, x < 256) : ((l.map (fun x : Nat => (x : Int))).map fun n => UInt8.ofNat n.toNat).map UInt8.toNat = l := by
  rw [List.map_map, List.map_map]
  conv => rhs; rw [← List.map_id l]
  refine List.map_congr_left fun x hx => ?_
  have := h x hx
  simp
  omega

theorem wrap_succ (i : Nat) (h : i < 1000000) : wrap64 ((i : Int) + 1) = ((i + 1 : Nat) : Int) := by unfold wrap64; omega

theorem loop (a b c : ByteArray) (n : Nat) (ha : n ≤ a.size) (hb : n ≤ b.size) (hc : n ≤ c.size) (hn : n ≤ 200) (d : Nat) :
    ∀ (k i : Nat), n - i = d → i ≤ n → d < k → 
      yardsticklaw01_WireSumAffine.l0 k a b c true n (((x3 (a.data.toList.take n) (b.data.toList.take n) (c.data.toList.take n)).take i).map (fun x : Nat => (x : Int)) ++ List.replicate (n - i) 0) i = some true := by
  have la : (a.data.toList.take n).length = n := by simp; omega
  have lb : (b.data.toList.take n).length = n := by simp; omega
  have lc : (c.data.toList.take n).length = n := by simp; omega
  have lX := x3_len la lb lc
  induction d with
  | zero =>
    intro k i hd hi hk
    obtain ⟨k, rfl⟩ : ∃ m, k = m + 1 := ⟨k - 1, by omega⟩
    obtain rfl : i = n := by omega
    simp only [yardsticklaw01_WireSumAffine.l0]
    rw [if_neg (by omega), if_pos trivial, List.take_of_length_le (by omega), Nat.sub_self, List.replicate_zero, List.append_nil]
    rw [wire_Sum_f _ (by rw [strOfNums_size]; simp; omega)]
    simp only [Option.bind_some]
    rw [if_pos (by omega), if_pos (by omega), wire_Sum_f _ (by rw [ByteArray.size_extract]; omega)]
    simp only [Option.bind_some]
    rw [if_pos (by omega), wire_Sum_f _ (by rw [ByteArray.size_extract]; omega)]
    simp only [Option.bind_some]
    rw [if_pos (by omega), wire_Sum_f _ (by rw [ByteArray.size_extract]; omega)]
    simp only [Option.bind_some, extract_list, List.drop_zero, Int.toNat_natCast]
    have hl : ∀ l, sumOf l < 4294967296 := sumOf_lt
    rw [xor_i64 _ _ (hl _) (hl _), xor_i64 _ _ (Nat.xor_lt_two_pow (n := 32) (hl _) (hl _)) (hl _)]
    have e : sumOf (strOfNums ((x3 (a.data.toList.take i) (b.data.toList.take i) (c.data.toList.take i)).map (fun x : Nat => (x : Int)))).data.toList = sumOf (a.data.toList.take i) ^^^ sumOf (b.data.toList.take i) ^^^ sumOf (c.data.toList.take i) := by
      rw [← sum_x3 la lb lc]
      unfold sumOf
      rw [strOfNums_data, u8_of _ (x3_lt _ _ _)]
    rw [e]
    simp
  | succ d ih =>
    intro k i hd hi hk
    obtain ⟨k, rfl⟩ : ∃ m, k = m + 1 := ⟨k - 1, by omega⟩
    have hlt : i < n := by omega
    simp only [yardsticklaw01_WireSumAffine.l0]
    have hX : ((((x3 (a.data.toList.take n) (b.data.toList.take n) (c.data.toList.take n)).take i).map (fun x : Nat => (x : Int)) ++ List.replicate (n - i) 0).length : Int) = n := by simp; omega
    rw [if_pos (by omega), if_pos (by omega), if_pos (by omega), if_pos (by omega), if_pos (by omega), if_pos (by omega)]
    rw [bt_of a i (by omega), bt_of b i (by omega), bt_of c i (by omega), xor_u8 _ _ (UInt8.toNat_lt _) (UInt8.toNat_lt _), xor_u8 _ _ (Nat.xor_lt_two_pow (n := 8) (UInt8.toNat_lt _) (UInt8.toNat_lt _)) (UInt8.toNat_lt _)]
    have hv := x3_at (la := a.data.toList.take n) (lb := b.data.toList.take n) (lc := c.data.toList.take n) (i := i) (by omega) (by omega) (by omega) (by omega)
    simp only [List.getElem_take] at hv
    rw [← hv, Int.toNat_natCast, set_step _ n i lX hlt, wrap_succ i (by omega)]
    exact ih k (i + 1) (by omega) (by omega) (by omega)

theorem mn_nat (a b : Nat) : mn (a : Int) (b : Int) = ((min a b : Nat) : Int) := by
  unfold mn
  split <;> omega
theorem WireSumAffine : yardsticklaw01_WireSumAffine.Pure := by
  intro a b c _ _ _
  have hm : mn (mn (mn (a.size : Int) (b.size : Int)) (c.size : Int)) 200 = ((min (min (min a.size b.size) c.size) 200 : Nat) : Int) := by
    rw [mn_nat, mn_nat]
    exact mn_nat _ 200
  have h1 : min (min (min a.size b.size) c.size) 200 ≤ a.size := by omega
  have h2 : min (min (min a.size b.size) c.size) 200 ≤ b.size := by omega
  have h3 : min (min (min a.size b.size) c.size) 200 ≤ c.size := by omega
  have h4 : min (min (min a.size b.size) c.size) 200 ≤ 200 := by omega
  generalize min (min (min a.size b.size) c.size) 200 = n at *
  refine ⟨n + 1, ?_⟩
  unfold yardsticklaw01_WireSumAffine.f sane.f
  rw [hm]
  simp only [Option.bind_some]
  rw [if_pos (by omega), if_pos (by omega)]
  have := loop a b c n h1 h2 h3 h4 n (n + 1) 0 (by omega) (by omega) (by omega)
  simpa using this

end Go.Proofs.YtffalfonmooinaaDoor.Pure
