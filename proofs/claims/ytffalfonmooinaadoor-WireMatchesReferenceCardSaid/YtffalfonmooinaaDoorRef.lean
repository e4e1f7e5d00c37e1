/- The reference implementation of the wire layer, over plain numbers: it comes to the same as the program. -/
import Derived.Test.YtffalfonmooinaaDoorPr2
import Derived.Test.YtffalfonmooinaaDoorPick
namespace Go.Proofs.YtffalfonmooinaaDoor
open Go.RowKit Go.Proofs.YtffalfonmooinaaDoor.Pr Go.Proofs.YtffalfonmooinaaDoorW.PrintWords Go.Proofs.YtffalfonmooinaaDoorW.PrintLast Go.Proofs.YtffalfonmooinaaDoorW.PrintMore
set_option linter.unusedVariables false
set_option linter.unusedSimpArgs false

instance (x : Int) : Decidable (Fits x) := inferInstanceAs (Decidable (_ ∧ _))
/-! ### PutInt -/
theorem ref_zig (x : Int) (h : Fits x) : yardstickref01_zigzag.f x = some ((zig x : Nat) : Int) := by
  obtain ⟨h0, h1⟩ := h
  unfold yardstickref01_zigzag.f zig
  by_cases hx : x < 0
  · rw [if_pos hx, if_pos hx]
    congr 1
    rw [wrap_u64, wrap_u64, wrap_u64]
    unfold wrap64
    omega
  · rw [if_neg hx, if_neg hx]
    congr 1
    rw [wrap_u64, wrap_u64]
    omega
theorem ref_put_loop : ∀ (k z f : Nat) (xs : List Int), z < 128 ^ (k + 1) → z < 18446744073709551616 → xs.length + k < 1000 → k < f →
    yardstickref01_PutInt.l0 f z xs = some (strOfNums (xs ++ (encN (k + 1) z).map fun x : Nat => (x : Int)), 0)
  | k, z, f, xs, hz, hz64, hx, hf => by
    obtain ⟨f, rfl⟩ : ∃ m, f = m + 1 := ⟨f - 1, by omega⟩
    simp only [yardstickref01_PutInt.l0]
    by_cases hs : z < 128
    · rw [if_neg (by omega), if_pos (by omega), encN_small hs]
      have e : (z : Int) % 256 = (z : Int) := by omega
      rw [e]
      rfl
    · cases k with
      | zero => simp at hz; omega
      | succ k =>
        have hzd : z / 128 < 128 ^ (k + 1) := Nat.div_lt_of_lt_mul (by rw [Nat.pow_succ] at hz; omega)
        have e1 : IntKind.u64.wrap (Int.tdiv (z : Int) 128) = ((z / 128 : Nat) : Int) := by
          rw [Int.tdiv_eq_ediv_of_nonneg (by omega)]
          exact IntWalk.u64_in _ (by omega)
        have e2 : (IntKind.u64.wrap ((Int.tmod (z : Int) 128) + 128)) % 256 = ((z % 128 + 128 : Nat) : Int) := by
          rw [Int.tmod_eq_emod_of_nonneg (by omega), IntWalk.u64_in _ (by omega)]
          omega
        rw [if_pos (by omega), if_pos (by omega), e1, e2, ref_put_loop k (z / 128) f _ hzd (by omega) (by simp; omega) (by omega), encN_big hs]
        simp
theorem ref_put (x : Int) (f : Nat) (hf : 12 ≤ f) : yardstickref01_PutInt.f f x = wire_PutInt.f x := by
  obtain ⟨f, rfl⟩ : ∃ m, f = m + 1 := ⟨f - 1, by omega⟩
  unfold yardstickref01_PutInt.f wire_PutInt.f
  by_cases h0 : x < -4611686018427387903
  · rw [if_pos h0, if_pos h0]; simp [yardstickref01_PutInt.j0]
  · rw [if_neg h0, if_neg h0]
    by_cases h1 : x > 4611686018427387903
    · rw [if_pos h1, decide_eq_true h1]; simp [yardstickref01_PutInt.j0]
    · have hx : Fits x := ⟨by omega, by omega⟩
      have hz := zig_lt9 x hx
      rw [if_neg h1, decide_eq_false h1]
      simp only [yardstickref01_PutInt.j0]
      rw [if_neg (by simp), ref_zig x hx]
      simp only [Option.bind_some]
      rw [ref_put_loop 9 (zig x) f [] (by omega) (by omega) (by decide) (by omega)]
      congr 2
      apply bytes_inj
      rw [bytes_enc, List.nil_append, bytes_mk _ (encN_lt _ _)]

/-! ### Int -/
theorem ref_round (f : Nat) (s : ByteArray) (a v i b : Nat) (hs : s.size ≤ 4611686018427387904) (hi : i < 9) (hb : (bytes s)[a + i]? = some b) (hv : v < 128 ^ i) (hf : 12 ≤ f) :
    yardstickref01_Int.l0 (f + 2) s a v i =
      if 128 ≤ b then yardstickref01_Int.l0 f s a ((v + b % 128 * 128 ^ i : Nat) : Int) ((i + 1 : Nat) : Int)
      else if Fits (zag (v + b * 128 ^ i)) ∧ enc (zag (v + b * 128 ^ i)) = ((bytes s).drop a).take (i + 1) then some (zag (v + b * 128 ^ i), ((a + i + 1 : Nat) : Int), 0) else some (0, 0, 10) := by
  have hp : a + i < s.size := by
    have := (List.getElem?_eq_some_iff.1 hb).1
    rw [bytes_len] at this
    exact this
  have hb8 : b < 256 := bytes_lt s b (List.mem_of_getElem? hb)
  have hpow := pow_bound i (by omega)
  have hm : b % 128 * 128 ^ i ≤ 127 * 72057594037927936 := Nat.mul_le_mul (by omega) hpow
  have hz : v + b % 128 * 128 ^ i < 9223372036854775808 := by omega
  have c1 : (i : Int) < 9 := by omega
  have c3 : 0 ≤ ((a + i : Nat) : Int) := by omega
  have c4 : ((a + i : Nat) : Int) < (s.size : Int) := by omega
  have c5 : 0 ≤ ((7 * i : Nat) : Int) := by omega
  have a1 : a + i < 9223372036854775808 := by omega
  have a2 : 7 * i < 9223372036854775808 := by omega
  have a3 : i + 1 < 9223372036854775808 := by omega
  have a4 : a + i + 1 < 9223372036854775808 := by omega
  have a5 : i ≤ 8 := by omega
  have a6 : b % 128 < 128 := Nat.mod_lt _ (by decide)
  have eb : IntKind.u64.wrap (b : Int) = (b : Int) := IntWalk.u64_in _ (by omega)
  have em : Int.tmod (b : Int) 128 = ((b % 128 : Nat) : Int) := by rw [Int.tmod_eq_emod_of_nonneg (by omega)]; omega
  have esh := shl_u64 (b % 128) i a6 a5
  have ew : IntKind.u64.wrap ((b % 128 : Nat) : Int) = ((b % 128 : Nat) : Int) := IntWalk.u64_in _ (by omega)
  rw [ew] at esh
  have ez : IntKind.u64.wrap ((v : Int) + ((b % 128 * 128 ^ i : Nat) : Int)) = ((v + b % 128 * 128 ^ i : Nat) : Int) := by
    rw [← Int.natCast_add]; exact IntWalk.u64_in _ (by omega)
  simp only [yardstickref01_Int.l0, yardstickref01_Int.j2]
  rw [if_pos c1, wrap_nat (show (a : Int) + (i : Int) = ((a + i : Nat) : Int) by omega) a1, wrap_nat (show 7 * (i : Int) = ((7 * i : Nat) : Int) by omega) a2, wrap_nat (show (i : Int) + 1 = ((i + 1 : Nat) : Int) by omega) a3,
    wrap_nat (show ((a + i : Nat) : Int) + 1 = ((a + i + 1 : Nat) : Int) by omega) a4, bt_bytes s (a + i) b hb, eb, em, esh, ez, decide_eq_true c4, if_pos rfl, if_pos c3, if_pos c4, if_pos c5]
  clear ez esh ew em eb
  by_cases h : 128 ≤ b
  · rw [if_pos h, if_pos (by omega)]
  · have hmod : b % 128 = b := Nat.mod_eq_of_lt (by omega)
    rw [if_neg h, if_neg (by omega)]
    rw [hmod] at hz ⊢
    generalize v + b * 128 ^ i = z at *
    have e1 : wrap64 (IntKind.u64.wrap (Int.tdiv (z : Int) 2)) = ((z / 2 : Nat) : Int) := by
      rw [Int.tdiv_eq_ediv_of_nonneg (by omega), IntWalk.u64_in _ (by omega)]
      exact wrap_nat (by omega) (by omega)
    have e2 : wrap64 (wrap64 (-((z / 2 : Nat) : Int)) - 1) = -((z / 2 : Nat) : Int) - 1 := by
      rw [IntWalk.wrap64_in (-((z / 2 : Nat) : Int)) (by omega)]
      exact IntWalk.wrap64_in _ (by omega)
    have key : ∀ n : Int, n = zag z → ((yardstickref01_PutInt.f f n).bind fun t => if t.2 = 0 then (if 0 ≤ (a : Int) then (if (a : Int) ≤ ((a + i + 1 : Nat) : Int) then (if ((a + i + 1 : Nat) : Int) ≤ (s.size : Int) then
        (if t.1.toList = (s.extract (a : Int).toNat (((a + i + 1 : Nat) : Int)).toNat).toList then some (n, ((a + i + 1 : Nat) : Int), (0 : Int)) else some (0, 0, 10)) else none) else none) else none) else some (0, 0, 10)) =
        if Fits (zag z) ∧ enc (zag z) = ((bytes s).drop a).take (i + 1) then some (zag z, ((a + i + 1 : Nat) : Int), 0) else some (0, 0, 10) := by
      intro n hn
      rw [← hn, ref_put n f hf]
      by_cases hfit : Fits n
      · rw [putInt_fits n hfit]
        simp only [Option.bind_some, Int.toNat_natCast]
        rw [if_pos trivial, if_pos (by omega), if_pos (by omega), if_pos (by omega)]
        have hiff : (encStr n).toList = (s.extract a (a + i + 1)).toList ↔ enc n = ((bytes s).drop a).take (i + 1) := by
          have hb : bytes (s.extract a (a + i + 1)) = ((bytes s).drop a).take (i + 1) := by
            rw [bytes_extract, List.drop_take, show a + i + 1 - a = i + 1 by omega]
          constructor
          · intro e
            rw [← bytes_encStr, toList_inj e, hb]
          · intro e
            have : encStr n = s.extract a (a + i + 1) := bytes_inj (by rw [bytes_encStr, hb, e])
            rw [this]
        by_cases he : enc n = ((bytes s).drop a).take (i + 1)
        · rw [if_pos (hiff.2 he), if_pos ⟨hfit, he⟩]
        · rw [if_neg (fun e => he (hiff.1 e)), if_neg (fun e => he e.2)]
      · have : wire_PutInt.f n = some (⟨#[]⟩, 10) := by
          unfold wire_PutInt.f
          by_cases h0 : n < -4611686018427387903
          · rw [if_pos h0]
          · rw [if_neg h0, if_pos]
            exact Int.not_le.1 fun h1 => hfit ⟨by omega, h1⟩
        rw [this]
        simp only [Option.bind_some]
        rw [if_neg (by decide), if_neg (fun e => hfit e.1)]
    have et : Int.tmod (z : Int) 2 = ((z % 2 : Nat) : Int) := by rw [Int.tmod_eq_emod_of_nonneg (by omega)]; omega
    rw [e1, e2, et]
    clear e1 e2 et
    by_cases hodd : z % 2 = 1
    · rw [if_pos (by omega)]
      exact key _ (by unfold zag; rw [if_neg (by omega)])
    · rw [if_neg (by omega)]
      exact key _ (by unfold zag; rw [if_pos (by omega)])

theorem prefix_of_parts {l m : List Nat} {n : Nat} (h : l = m.take n) : l <+: m := by rw [h]; exact List.take_prefix _ _
theorem ref_any (s : ByteArray) (a : Nat) (hs : s.size ≤ 4611686018427387904) (ha : a ≤ s.size) : ∀ (d i v f : Nat), i + d = 9 → v < 128 ^ i → 2 * d + 14 ≤ f →
    yardstickref01_Int.l0 f s a v i = some (0, 0, 10) ∨ ∃ x, Fits x ∧ enc x <+: (bytes s).drop a ∧ yardstickref01_Int.l0 f s a v i = some (x, ((a + (enc x).length : Nat) : Int), 0)
  | d, i, v, f, hd, hv, hf => by
    obtain ⟨f, rfl⟩ : ∃ m, f = m + 2 := ⟨f - 2, by omega⟩
    by_cases hp : a + i < s.size
    · cases d with
      | zero =>
        left
        obtain rfl : i = 9 := by omega
        have c1 : ¬ (((9 : Nat) : Int) < 9) := by omega
        simp only [yardstickref01_Int.l0]
        rw [if_neg c1, yardstickref01_Int.j2]
        rfl
      | succ d =>
        obtain ⟨b, hb⟩ : ∃ b, (bytes s)[a + i]? = some b := ⟨_, List.getElem?_eq_getElem (by rw [bytes_len]; exact hp)⟩
        rw [ref_round f s a v i b hs (by omega) hb hv (by omega)]
        by_cases h : 128 ≤ b
        · rw [if_pos h]
          exact ref_any s a hs ha d (i + 1) (v + b % 128 * 128 ^ i) f (by omega) (low_lt _ _ _ hv (Nat.mod_lt _ (by decide))) (by omega)
        · rw [if_neg h]
          by_cases hr : Fits (zag (v + b * 128 ^ i)) ∧ enc (zag (v + b * 128 ^ i)) = ((bytes s).drop a).take (i + 1)
          · rw [if_pos hr]
            refine .inr ⟨_, hr.1, prefix_of_parts hr.2, ?_⟩
            have hl := congrArg List.length hr.2
            rw [List.length_take, List.length_drop, bytes_len] at hl
            rw [hl, show a + min (i + 1) (s.size - a) = a + i + 1 by omega]
          · rw [if_neg hr]
            exact .inl rfl
    · left
      have a1 : a + i < 9223372036854775808 := by omega
      have c2 : ¬ ((a + i : Nat) : Int) < (s.size : Int) := by omega
      simp only [yardstickref01_Int.l0]
      split
      · rw [wrap_nat (show (a : Int) + (i : Int) = ((a + i : Nat) : Int) by omega) a1, decide_eq_false c2, yardstickref01_Int.j2]
        rfl
      · rw [yardstickref01_Int.j2]
        rfl

theorem ref_good (s : ByteArray) (a : Nat) (x : Int) (hs : s.size ≤ 4611686018427387904) (hx : Fits x) (hall : enc x <+: (bytes s).drop a) : ∀ (k z i v f : Nat), z < 128 ^ (k + 1) → v < 128 ^ i → i + (encN (k + 1) z).length = (enc x).length →
    v + z * 128 ^ i = zig x → encN (k + 1) z <+: (bytes s).drop (a + i) → 2 * (encN (k + 1) z).length + 12 ≤ f →
    yardstickref01_Int.l0 f s a v i = some (x, ((a + (enc x).length : Nat) : Int), 0)
  | k, z, i, v, f, hz, hv, hl, hn, hp, hf => by
    have hl9 := enc_len x hx
    by_cases hs1 : z < 128
    · rw [encN_small hs1] at hl hp hf
      simp only [List.length_cons, List.length_nil] at hl hf
      obtain ⟨f, rfl⟩ : ∃ m, f = m + 2 := ⟨f - 2, by omega⟩
      obtain ⟨hb, _⟩ := prefix_head hp
      have h2 : enc x = ((bytes s).drop a).take (i + 1) := by rw [prefix_take hall, ← hl]
      rw [ref_round f s a v i z hs (by omega) hb hv (by omega), if_neg (by omega), hn, zag_zig, if_pos ⟨hx, h2⟩, ← hl]
      rfl
    · cases k with
      | zero => simp at hz; omega
      | succ k =>
        rw [encN_big hs1] at hl hp hf
        simp only [List.length_cons] at hl hf
        obtain ⟨f, rfl⟩ : ∃ m, f = m + 2 := ⟨f - 2, by omega⟩
        obtain ⟨hb, hp'⟩ := prefix_head hp
        have hzd : z / 128 < 128 ^ (k + 1) := Nat.div_lt_of_lt_mul (by rw [Nat.pow_succ] at hz; omega)
        have hmod : (z % 128 + 128) % 128 = z % 128 := by omega
        have hzm : z % 128 + 128 * (z / 128) = z := Nat.mod_add_div z 128
        have e := sum_step v (z % 128) (z / 128) i
        rw [hzm] at e
        rw [ref_round f s a v i _ hs (by omega) hb hv (by omega), if_pos (by omega), hmod]
        exact ref_good s a x hs hx hall k (z / 128) (i + 1) (v + z % 128 * 128 ^ i) f hzd (low_lt _ _ _ hv (Nat.mod_lt _ (by decide))) (by omega) (by rw [e]; exact hn) (by rw [← Nat.add_assoc]; exact hp') (by omega)

theorem ref_at (f : Nat) (s : ByteArray) (a : Nat) (ha : a ≤ s.size) : yardstickref01_Int.f (f + 1) s a = yardstickref01_Int.l0 f s a 0 0 := by
  have hd : decide ((a : Int) > (s.size : Int)) = false := decide_eq_false (by omega)
  unfold yardstickref01_Int.f
  rw [if_neg (by omega), hd]
  simp only [yardstickref01_Int.j0]
  rfl
/-- The reference's Int comes to the same as the program's. -/
theorem ref_Int (f g : Nat) (s : ByteArray) (a : Int) (hs : s.size ≤ 4611686018427387904) (hf : 40 ≤ f) (hg : 11 ≤ g) : yardstickref01_Int.f f s a = Pa.wire_Int.f g s a := by
  obtain ⟨f, rfl⟩ : ∃ m, f = m + 1 := ⟨f - 1, by omega⟩
  by_cases h : a < 0 ∨ (s.size : Int) < a
  · rw [Int_arg g s a h (by omega)]
    unfold yardstickref01_Int.f
    by_cases h0 : a < 0
    · rw [if_pos h0]; simp [yardstickref01_Int.j0]
    · have hd : decide (a > (s.size : Int)) = true := decide_eq_true (by omega)
      rw [if_neg h0, hd]; simp [yardstickref01_Int.j0]
  · obtain ⟨n, rfl⟩ := Int.eq_ofNat_of_zero_le (show 0 ≤ a by omega)
    have ha : n ≤ s.size := by omega
    have good : ∀ x, Fits x → enc x <+: (bytes s).drop n → yardstickref01_Int.l0 f s n 0 0 = some (x, ((n + (enc x).length : Nat) : Int), 0) := by
      intro x hx hp
      have h9 := enc9 x hx
      have hl := enc_len x hx
      have := ref_good s n x hs hx hp 8 (zig x) 0 0 f (zig_lt9 x hx) (by decide) (by rw [Nat.zero_add, h9]) (by simp) (by rw [h9] at hp; simpa using hp) (by have e : encN (8 + 1) (zig x) = enc x := h9.symm; rw [e]; omega)
      exact this
    rw [ref_at f s n ha]
    rcases Int_any g s n hs ha hg with h1 | ⟨x, hx, hp, h1⟩
    · rw [h1]
      rcases ref_any s n hs ha 9 0 0 f (by decide) (by decide) (by omega) with h2 | ⟨x, hx, hp, h2⟩
      · simpa using h2
      · have := Int_good g s n x hs ha hx hp (by omega)
        rw [h1] at this
        have h3 := (Prod.mk.inj (Prod.mk.inj (Option.some.inj this)).2).2
        exact absurd h3 (by decide)
    · rw [h1]
      have := good x hx hp
      simpa using this
theorem ref_String (f g : Nat) (s : ByteArray) (a : Int) (hs : s.size ≤ 4611686018427387904) (hf : 40 ≤ f) (hg : 11 ≤ g) : yardstickref01_String.f f s a = Pa.wire_String.f g s a := by
  unfold yardstickref01_String.f Pa.wire_String.f
  rw [ref_Int f g s a hs hf hg]
theorem ref_PutString (f : Nat) (s : ByteArray) (hf : 12 ≤ f) : yardstickref01_PutString.f f s = Pa.wire_PutString.f s := by
  unfold yardstickref01_PutString.f Pa.wire_PutString.f
  rw [ref_put _ f hf]

/-! ### Sum -/
/-- One bit of the checksum's register. -/
def bitStep (r : Nat) : Nat := if r % 2 = 1 then r / 2 ^^^ 2197175160 else r / 2
theorem bitStep_lt (r : Nat) (h : r < 4294967296) : bitStep r < 4294967296 := by
  unfold bitStep
  split
  · exact Nat.xor_lt_two_pow (n := 32) (by omega) (by omega)
  · omega
theorem bitStep_xor (a b : Nat) : bitStep (a ^^^ b) = bitStep a ^^^ bitStep b := by
  have e : (a ^^^ b) / 2 = a / 2 ^^^ b / 2 := Nat.xor_div_two
  have e2 : (a ^^^ b) % 2 = (a % 2) ^^^ (b % 2) := Nat.xor_mod_two_pow (n := 1)
  unfold bitStep
  rw [e, e2]
  rcases Nat.mod_two_eq_zero_or_one a with ha | ha <;> rcases Nat.mod_two_eq_zero_or_one b with hb | hb <;> rw [ha, hb]
  · rfl
  · show a / 2 ^^^ b / 2 ^^^ 2197175160 = a / 2 ^^^ (b / 2 ^^^ 2197175160)
    rw [Nat.xor_assoc]
  · show a / 2 ^^^ b / 2 ^^^ 2197175160 = a / 2 ^^^ 2197175160 ^^^ b / 2
    rw [Nat.xor_assoc, Nat.xor_assoc, Nat.xor_comm 2197175160]
  · show a / 2 ^^^ b / 2 = (a / 2 ^^^ 2197175160) ^^^ (b / 2 ^^^ 2197175160)
    rw [xor4, Nat.xor_self, Nat.xor_zero]
theorem bitStep4 (r : Nat) (h : r < 4294967296) : bitStep (bitStep (bitStep (bitStep r))) = half r := by
  have e : r = (r / 16 * 16) ^^^ (r % 16) := by
    have h1 := Nat.two_pow_add_eq_or_of_lt (i := 4) (b := r % 16) (Nat.mod_lt _ (by decide)) (r / 16)
    have h2 : 2 ^ 4 * (r / 16) + r % 16 = r := by omega
    apply Nat.eq_of_testBit_eq
    intro j
    rw [Nat.testBit_xor]
    have e3 : (r / 16 * 16).testBit j = (decide (4 ≤ j) && (r / 16).testBit (j - 4)) := by rw [show (16 : Nat) = 2 ^ 4 by decide, Nat.testBit_mul_two_pow]
    have e4 : (r % 16).testBit j = (decide (j < 4) && r.testBit j) := by rw [show (16 : Nat) = 2 ^ 4 by decide, Nat.testBit_mod_two_pow]
    have e5 : (r / 16).testBit (j - 4) = r.testBit (j - 4 + 4) := by rw [show (16 : Nat) = 2 ^ 4 by decide, Nat.testBit_div_two_pow]
    rw [e3, e4, e5]
    by_cases hj : j < 4
    · have : ¬ (4 ≤ j) := by omega
      simp [hj, this]
    · have h4 : 4 ≤ j := by omega
      rw [Nat.sub_add_cancel h4]
      simp [hj, h4]
  have hq : ∀ q, bitStep (bitStep (bitStep (bitStep (q * 16)))) = q := by
    intro q
    have s : ∀ m, bitStep (m * 2) = m := by
      intro m
      unfold bitStep
      rw [if_neg (by omega)]
      omega
    rw [show q * 16 = q * 2 * 2 * 2 * 2 by omega, s, s, s, s]
  have hm : ∀ m : Fin 16, bitStep (bitStep (bitStep (bitStep m.1))) = nib m.1 := by decide
  have hm' := hm ⟨r % 16, Nat.mod_lt _ (by decide)⟩
  unfold half
  conv => lhs; rw [e]
  rw [bitStep_xor, bitStep_xor, bitStep_xor, bitStep_xor, hq, hm']

theorem ref_bit (f : Nat) (s : ByteArray) (r i j : Nat) (hr : r < 4294967296) (hj : j < 8) : yardstickref01_Sum.l1 (f + 1) s r i j = yardstickref01_Sum.l1 f s ((bitStep r : Nat) : Int) i ((j + 1 : Nat) : Int) := by
  have e1 : (Int.tdiv (r : Int) 2) % 4294967296 = ((r / 2 : Nat) : Int) := by rw [Int.tdiv_eq_ediv_of_nonneg (by omega)]; omega
  have et : Int.tmod (r : Int) 2 = ((r % 2 : Nat) : Int) := by rw [Int.tmod_eq_emod_of_nonneg (by omega)]; omega
  simp only [yardstickref01_Sum.l1]
  rw [if_pos (by omega), e1, et, wrap_nat (show (j : Int) + 1 = ((j + 1 : Nat) : Int) by omega) (by omega)]
  unfold bitStep
  by_cases h : r % 2 = 1
  · rw [if_pos h, if_pos (by omega)]
    have := xor_u32 (r / 2) 2197175160 (by omega) (by decide)
    rw [← this]
    rfl
  · rw [if_neg h, if_neg (by omega)]
theorem ref_byte (f : Nat) (s : ByteArray) (r i : Nat) (hr : r < 4294967296) (hi : i < 1000000000) : yardstickref01_Sum.l1 (f + 9) s r i 0 = yardstickref01_Sum.l0 f s ((half (half r) : Nat) : Int) ((i + 1 : Nat) : Int) := by
  have h1 := bitStep_lt r hr
  have h2 := bitStep_lt _ h1
  have h3 := bitStep_lt _ h2
  have h4 := bitStep_lt _ h3
  have h5 := bitStep_lt _ h4
  have h6 := bitStep_lt _ h5
  have h7 := bitStep_lt _ h6
  have e : yardstickref01_Sum.l1 (f + 9) s r i ((0 : Nat) : Int) = yardstickref01_Sum.l1 (f + 1) s ((bitStep (bitStep (bitStep (bitStep (bitStep (bitStep (bitStep (bitStep r))))))) : Nat) : Int) i ((8 : Nat) : Int) := by
    rw [ref_bit (f + 8) s r i 0 hr (by decide), ref_bit (f + 7) s _ i _ h1 (by decide), ref_bit (f + 6) s _ i _ h2 (by decide), ref_bit (f + 5) s _ i _ h3 (by decide), ref_bit (f + 4) s _ i _ h4 (by decide), ref_bit (f + 3) s _ i _ h5 (by decide), ref_bit (f + 2) s _ i _ h6 (by decide), ref_bit (f + 1) s _ i _ h7 (by decide)]
  rw [show (0 : Int) = ((0 : Nat) : Int) from rfl, e, bitStep4 r hr, bitStep4 _ (half_lt r hr)]
  simp only [yardstickref01_Sum.l1]
  rw [if_neg (by decide), wrap_nat (show (i : Int) + 1 = ((i + 1 : Nat) : Int) by omega) (by omega)]
theorem ref_sum_loop (s : ByteArray) (hs : s.size ≤ 100000) : ∀ (d i r f : Nat), i + d = s.size → r < 4294967296 → 10 * d + 1 ≤ f →
    yardstickref01_Sum.l0 f s r i = some ((4294967295 ^^^ crcN ((bytes s).drop i) r : Nat) : Int)
  | 0, i, r, f, hd, hr, hf => by
    obtain ⟨f, rfl⟩ : ∃ m, f = m + 1 := ⟨f - 1, by omega⟩
    obtain rfl : i = s.size := by omega
    simp only [yardstickref01_Sum.l0]
    rw [if_neg (by omega), sum_end r hr, compl_u32 r hr, List.drop_eq_nil_of_le (by rw [bytes_len]; omega)]
    rfl
  | d + 1, i, r, f, hd, hr, hf => by
    obtain ⟨f, rfl⟩ : ∃ m, f = m + 10 := ⟨f - 10, by omega⟩
    have hp : i < (bytes s).length := by rw [bytes_len]; omega
    have hb8 : (bytes s)[i] < 256 := bytes_lt s _ (List.getElem_mem hp)
    have e1 := bt_bytes s i (bytes s)[i] (List.getElem?_eq_getElem hp)
    have e2 : (((bytes s)[i] : Nat) : Int) % 4294967296 = (((bytes s)[i] : Nat) : Int) := by omega
    simp only [yardstickref01_Sum.l0]
    rw [if_pos (by omega), if_pos (by omega), e1, e2, xor_u32 r _ hr (by omega), ref_byte f s _ i (Nat.xor_lt_two_pow (n := 32) (by omega) (by omega)) (by omega)]
    rw [ref_sum_loop s hs d (i + 1) _ f (by omega) (half_lt _ (half_lt _ (Nat.xor_lt_two_pow (n := 32) (by omega) (by omega)))) (by omega), List.drop_eq_getElem_cons hp]
    rfl
theorem ref_Sum (f : Nat) (s : ByteArray) (hs : s.size ≤ 100000) (hf : 10 * s.size + 1 ≤ f) : yardstickref01_Sum.f f s = wire_Sum.f s := by
  rw [wire_Sum_f s (by omega)]
  have := ref_sum_loop s hs s.size 0 4294967295 f (by omega) (by decide) hf
  exact this
end Go.Proofs.YtffalfonmooinaaDoor
