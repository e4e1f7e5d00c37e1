/- Plain facts: a change of at most 32 consecutive bits of a string changes its checksum. -/
import Derived.Test.YtffalfonmooinaaDoorCrc
namespace Go.Proofs.YtffalfonmooinaaDoor
set_option linter.unusedVariables false
set_option linter.unusedSimpArgs false

/-- One bit of the register, on numbers of any size. -/
def bstep (r : Nat) : Nat := if r % 2 = 1 then r / 2 ^^^ 2197175160 else r / 2
def iter : Nat → Nat → Nat
  | 0, r => r
  | n + 1, r => iter n (bstep r)
theorem iter_add (a b r : Nat) : iter (a + b) r = iter b (iter a r) := by
  induction a generalizing r with
  | zero => rw [Nat.zero_add]; rfl
  | succ a ih => rw [Nat.add_right_comm]; exact ih _
theorem bstep_xor (a b : Nat) : bstep (a ^^^ b) = bstep a ^^^ bstep b := by
  have e : (a ^^^ b) / 2 = a / 2 ^^^ b / 2 := Nat.xor_div_two
  have e2 : (a ^^^ b) % 2 = (a % 2) ^^^ (b % 2) := Nat.xor_mod_two_pow (n := 1)
  unfold bstep
  rw [e, e2]
  rcases Nat.mod_two_eq_zero_or_one a with ha | ha <;> rcases Nat.mod_two_eq_zero_or_one b with hb | hb <;> rw [ha, hb]
  · rfl
  · show a / 2 ^^^ b / 2 ^^^ 2197175160 = a / 2 ^^^ (b / 2 ^^^ 2197175160)
    rw [Nat.xor_assoc]
  · show a / 2 ^^^ b / 2 ^^^ 2197175160 = a / 2 ^^^ 2197175160 ^^^ b / 2
    rw [Nat.xor_assoc, Nat.xor_assoc, Nat.xor_comm 2197175160]
  · show a / 2 ^^^ b / 2 = (a / 2 ^^^ 2197175160) ^^^ (b / 2 ^^^ 2197175160)
    rw [xor4, Nat.xor_self, Nat.xor_zero]
theorem iter_xor (n a b : Nat) : iter n (a ^^^ b) = iter n a ^^^ iter n b := by
  induction n generalizing a b with
  | zero => rfl
  | succ n ih =>
    show iter n (bstep (a ^^^ b)) = iter n (bstep a) ^^^ iter n (bstep b)
    rw [bstep_xor, ih]
theorem iter_shift (n q : Nat) : iter n (q * 2 ^ n) = q := by
  induction n with
  | zero => exact Nat.mul_one q
  | succ n ih =>
    show iter n (bstep (q * 2 ^ (n + 1))) = q
    have e : q * 2 ^ (n + 1) = q * 2 ^ n * 2 := by rw [Nat.pow_succ, Nat.mul_assoc]
    have : bstep (q * 2 ^ n * 2) = q * 2 ^ n := by
      unfold bstep
      rw [if_neg (by omega)]
      omega
    rw [e, this, ih]
theorem bstep_small (r : Nat) (h : r < 4294967296) : bstep r < 4294967296 ∧ (r ≠ 0 → bstep r ≠ 0) := by
  unfold bstep
  split
  · refine ⟨Nat.xor_lt_two_pow (n := 32) (by omega) (by omega), fun _ e => ?_⟩
    have h1 : (r / 2 ^^^ 2197175160).testBit 31 = true := by
      rw [Nat.testBit_xor, Nat.testBit_lt_two_pow (x := r / 2) (i := 31) (by omega)]
      decide
    rw [e] at h1
    simp at h1
  · exact ⟨by omega, fun h0 => by omega⟩
theorem iter_small (n r : Nat) (h : r < 4294967296) : iter n r < 4294967296 ∧ (r ≠ 0 → iter n r ≠ 0) := by
  induction n generalizing r with
  | zero => exact ⟨h, id⟩
  | succ n ih =>
    obtain ⟨h1, h2⟩ := bstep_small r h
    obtain ⟨h3, h4⟩ := ih _ h1
    exact ⟨h3, fun h0 => h4 (h2 h0)⟩
theorem iter_zero (n : Nat) : iter n 0 = 0 := by
  induction n with
  | zero => rfl
  | succ n ih => exact ih

theorem iter4 (r : Nat) (h : r < 4294967296) : iter 4 r = half r := by
  have e : r = (r / 16 * 2 ^ 4) ^^^ (r % 16) := by
    apply Nat.eq_of_testBit_eq
    intro j
    rw [Nat.testBit_xor]
    have e3 : (r / 16 * 2 ^ 4).testBit j = (decide (4 ≤ j) && (r / 16).testBit (j - 4)) := by rw [Nat.testBit_mul_two_pow]
    have e4 : (r % 16).testBit j = (decide (j < 4) && r.testBit j) := by rw [show (16 : Nat) = 2 ^ 4 by decide, Nat.testBit_mod_two_pow]
    have e5 : (r / 16).testBit (j - 4) = r.testBit (j - 4 + 4) := by rw [show (16 : Nat) = 2 ^ 4 by decide, Nat.testBit_div_two_pow]
    rw [e3, e4, e5]
    by_cases hj : j < 4
    · have : ¬ (4 ≤ j) := by omega
      simp [hj, this]
    · have h4 : 4 ≤ j := by omega
      rw [Nat.sub_add_cancel h4]
      simp [hj, h4]
  have hm : ∀ m : Fin 16, iter 4 m.1 = nib m.1 := by decide
  have hm' := hm ⟨r % 16, Nat.mod_lt _ (by decide)⟩
  unfold half
  conv => lhs; rw [e]
  rw [iter_xor, iter_shift, hm']
theorem iter8 (r : Nat) (h : r < 4294967296) : iter 8 r = half (half r) := by
  rw [show (8 : Nat) = 4 + 4 by decide, iter_add, iter4 r h, iter4 _ (half_lt r h)]

/-- The bits of a list of bytes, as one number. -/
def big : List Nat → Nat
  | [] => 0
  | b :: l => b ^^^ big l * 2 ^ 8
theorem crcN_big : ∀ (l : List Nat), (∀ x ∈ l, x < 256) → ∀ r, r < 4294967296 → crcN l r = iter (8 * l.length) (r ^^^ big l)
  | [], _, r, _ => by show r = r ^^^ 0; rw [Nat.xor_zero]
  | b :: l, hl, r, hr => by
    have hb : b < 256 := hl b (List.mem_cons_self ..)
    have hx : r ^^^ b < 4294967296 := Nat.xor_lt_two_pow (n := 32) (by omega) (by omega)
    have e : 8 * (b :: l).length = 8 + 8 * l.length := by rw [List.length_cons]; omega
    rw [e, iter_add]
    show crcN l (stepN r b) = iter (8 * l.length) (iter 8 (r ^^^ (b ^^^ big l * 2 ^ 8)))
    rw [← Nat.xor_assoc, iter_xor, iter_shift, iter8 _ hx]
    exact crcN_big l (fun y hy => hl y (List.mem_cons_of_mem _ hy)) _ (stepN_lt _ _ hr hb)
theorem xor_mul (a b n : Nat) : (a ^^^ b) * 2 ^ n = a * 2 ^ n ^^^ b * 2 ^ n := by
  apply Nat.eq_of_testBit_eq
  intro j
  rw [Nat.testBit_xor, Nat.testBit_mul_two_pow, Nat.testBit_mul_two_pow, Nat.testBit_mul_two_pow, Nat.testBit_xor]
  cases decide (n ≤ j) <;> simp
theorem big_set : ∀ (l : List Nat) (j c : Nat), j < l.length → big (l.set j (l.getD j 0 ^^^ c)) = big l ^^^ c * 2 ^ (8 * j)
  | [], j, c, h => absurd h (Nat.not_lt_zero _)
  | b :: l, 0, c, _ => by
    show (b ^^^ c) ^^^ big l * 2 ^ 8 = (b ^^^ big l * 2 ^ 8) ^^^ c * 2 ^ 0
    rw [Nat.pow_zero, Nat.mul_one, Nat.xor_assoc, Nat.xor_assoc, Nat.xor_comm c]
  | b :: l, j + 1, c, h => by
    show b ^^^ big (l.set j (l.getD j 0 ^^^ c)) * 2 ^ 8 = (b ^^^ big l * 2 ^ 8) ^^^ c * 2 ^ (8 * (j + 1))
    rw [big_set l j c (by simpa using h), xor_mul, ← Nat.xor_assoc]
    congr 1
    rw [Nat.mul_assoc, ← Nat.pow_add, show 8 * (j + 1) = 8 * j + 8 by omega]

/-- The list behind i turned bits. -/
def flip (xs : List Nat) (k : Nat) : List Nat := xs.set (k / 8) (xs.getD (k / 8) 0 ^^^ 2 ^ (k % 8))
def burst (xs : List Nat) (bits start : Nat) : Nat → List Nat
  | 0 => xs
  | i + 1 => if bits / 2 ^ i % 2 = 1 then flip (burst xs bits start i) (start + i) else burst xs bits start i
def turned (bits : Nat) : Nat → Bool
  | 0 => false
  | i + 1 => if bits / 2 ^ i % 2 = 1 then true else turned bits i
theorem burst_len (xs : List Nat) (bits start i : Nat) : (burst xs bits start i).length = xs.length := by
  induction i with
  | zero => rfl
  | succ i ih =>
    unfold burst
    split
    · simp [flip, ih]
    · exact ih
theorem burst_lt (xs : List Nat) (h : ∀ x ∈ xs, x < 256) (bits start i : Nat) : ∀ x ∈ burst xs bits start i, x < 256 := by
  induction i with
  | zero => exact h
  | succ i ih =>
    unfold burst
    split
    · intro x hx
      unfold flip at hx
      rcases List.mem_or_eq_of_mem_set hx with hx | rfl
      · exact ih x hx
      · have h8 : 2 ^ ((start + i) % 8) < 2 ^ 8 := Nat.pow_lt_pow_right (by decide) (Nat.mod_lt _ (by decide))
        refine Nat.xor_lt_two_pow (n := 8) ?_ h8
        rw [List.getD_eq_getElem?_getD]
        cases hg : (burst xs bits start i)[(start + i) / 8]? with
        | none => decide
        | some y => exact ih y (List.mem_of_getElem? hg)
    · exact ih
theorem low_xor (b k : Nat) (h : b < 2 ^ k) : b + 2 ^ k = b ^^^ 2 ^ k := by
  have h1 := Nat.two_pow_add_eq_or_of_lt h 1
  rw [Nat.mul_one, Nat.add_comm] at h1
  rw [h1]
  apply Nat.eq_of_testBit_eq
  intro j
  rw [Nat.testBit_or, Nat.testBit_xor, Nat.testBit_two_pow]
  by_cases hj : k = j
  · subst hj
    rw [Nat.testBit_lt_two_pow h]
    simp
  · simp [hj]
theorem burst_big (xs : List Nat) (bits start : Nat) : ∀ k, start + k ≤ 8 * xs.length → big (burst xs bits start k) = big xs ^^^ bits % 2 ^ k * 2 ^ start
  | 0, _ => by show big xs = big xs ^^^ bits % 1 * 2 ^ start; rw [Nat.mod_one, Nat.zero_mul, Nat.xor_zero]
  | k + 1, h => by
    have ih := burst_big xs bits start k (by omega)
    have hm : bits % 2 ^ (k + 1) = bits % 2 ^ k + 2 ^ k * (bits / 2 ^ k % 2) := Nat.mod_pow_succ
    unfold burst
    split
    · rename_i hb
      rw [hb, Nat.mul_one, low_xor _ _ (Nat.mod_lt _ (Nat.two_pow_pos k))] at hm
      unfold flip
      rw [big_set _ _ _ (by rw [burst_len]; omega), ih, hm, xor_mul, ← Nat.xor_assoc]
      congr 1
      rw [← Nat.pow_add, ← Nat.pow_add]
      congr 1
      have := Nat.mod_add_div (start + k) 8
      omega
    · rename_i hb
      have h0 : bits / 2 ^ k % 2 = 0 := by omega
      rw [h0, Nat.mul_zero, Nat.add_zero] at hm
      rw [ih, hm]
      try rw [Nat.add_zero]
theorem turned_iff (bits : Nat) : ∀ k, turned bits k = decide (bits % 2 ^ k ≠ 0)
  | 0 => by show false = decide (bits % 1 ≠ 0); rw [Nat.mod_one]; rfl
  | k + 1 => by
    have hm : bits % 2 ^ (k + 1) = bits % 2 ^ k + 2 ^ k * (bits / 2 ^ k % 2) := Nat.mod_pow_succ
    have hp := Nat.two_pow_pos k
    unfold turned
    split
    · rename_i hb
      rw [hb, Nat.mul_one] at hm
      rw [hm]
      exact (decide_eq_true (by omega)).symm
    · rename_i hb
      have h0 : bits / 2 ^ k % 2 = 0 := by omega
      rw [h0, Nat.mul_zero, Nat.add_zero] at hm
      rw [hm]
      exact turned_iff bits k
theorem burst_sum (xs : List Nat) (hx : ∀ x ∈ xs, x < 256) (bits start k : Nat) (hk : k ≤ 32) (h : start + k ≤ 8 * xs.length) :
    turned bits k = ((4294967295 ^^^ crcN (burst xs bits start k) 4294967295) != (4294967295 ^^^ crcN xs 4294967295)) := by
  have e1 := crcN_big (burst xs bits start k) (burst_lt xs hx bits start k) 4294967295 (by decide)
  have e2 := crcN_big xs hx 4294967295 (by decide)
  rw [burst_len, burst_big xs bits start k h, ← Nat.xor_assoc, iter_xor, ← e2] at e1
  have e3 : 8 * xs.length = start + (8 * xs.length - start) := by omega
  rw [e3, iter_add, iter_shift] at e1
  have hw : bits % 2 ^ k < 4294967296 := by
    have h1 : bits % 2 ^ k < 2 ^ k := Nat.mod_lt _ (Nat.two_pow_pos k)
    have h2 : 2 ^ k ≤ 2 ^ 32 := Nat.pow_le_pow_right (by decide) hk
    omega
  obtain ⟨_, hne⟩ := iter_small (8 * xs.length - start) _ hw
  rw [turned_iff, e1]
  generalize crcN xs 4294967295 = c at *
  generalize 8 * xs.length - start = n at *
  by_cases h0 : bits % 2 ^ k = 0
  · rw [h0, iter_zero, Nat.xor_zero]
    simp
  · have hn := hne h0
    generalize iter n (bits % 2 ^ k) = d at *
    have : (4294967295 ^^^ (c ^^^ d)) ≠ (4294967295 ^^^ c) := by
      intro e
      have h3 : (4294967295 ^^^ (c ^^^ d)) ^^^ (4294967295 ^^^ c) = d := by
        rw [xor4, Nat.xor_self, Nat.zero_xor, Nat.xor_comm c d, Nat.xor_assoc, Nat.xor_self, Nat.xor_zero]
      rw [e, Nat.xor_self] at h3
      exact hn h3.symm
    simp [h0, this]
end Go.Proofs.YtffalfonmooinaaDoor
