/- wire.Int and wire.String, over plain lists: what they accept is what PutInt and PutString make, and nothing else. -/
import Derived.Test.YtffalfonmooinaaDoorLeb
import Derived.Test.YtffalfonmooinaaDoorCrc
namespace Go.Proofs.YtffalfonmooinaaDoor
open Go.RowKit Go.Proofs.YtffalfonmooinaaDoorW.PrintWords Go.Proofs.YtffalfonmooinaaDoorW.PrintLast Go.Proofs.YtffalfonmooinaaDoorW.PrintMore
set_option linter.unusedVariables false
set_option linter.unusedSimpArgs false

/-- The bytes of a string, as numbers. -/
def bytes (s : ByteArray) : List Nat := s.data.toList.map UInt8.toNat
theorem bytes_len (s : ByteArray) : (bytes s).length = s.size := by simp [bytes]
theorem bytes_lt (s : ByteArray) : ∀ x ∈ bytes s, x < 256 := by
  intro x hx
  obtain ⟨b, _, rfl⟩ := List.mem_map.1 hx
  exact b.toNat_lt
theorem bt_bytes (s : ByteArray) (p b : Nat) (h : (bytes s)[p]? = some b) : bt s (p : Int) = (b : Int) := by
  obtain ⟨hp, hb⟩ := List.getElem?_eq_some_iff.1 h
  have hp' : p < s.size := by rw [bytes_len] at hp; exact hp
  rw [bt_of s p hp']
  simp only [bytes, List.getElem_map] at hb
  rw [hb]
theorem bytes_mk (l : List Nat) (h : ∀ x ∈ l, x < 256) : bytes (strOfNums (l.map fun x : Nat => (x : Int))) = l := by
  unfold bytes
  rw [strOfNums_data, List.map_map, List.map_map]
  conv => rhs; rw [← List.map_id l]
  refine List.map_congr_left fun x hx => ?_
  have := h x hx
  simp
  omega
theorem bytes_append (s t : ByteArray) : bytes (s ++ t) = bytes s ++ bytes t := by simp [bytes]
theorem bytes_inj {s t : ByteArray} (h : bytes s = bytes t) : s = t := by
  have h1 : s.data.toList = t.data.toList := by
    have inj : ∀ (l m : List UInt8), l.map UInt8.toNat = m.map UInt8.toNat → l = m := by
      intro l
      induction l with
      | nil => intro m hm; cases m <;> simp_all
      | cons b l ih =>
        intro m hm
        cases m with
        | nil => simp at hm
        | cons c m =>
          simp only [List.map_cons, List.cons.injEq] at hm
          rw [UInt8.toNat_inj.1 hm.1, ih m hm.2]
    exact inj _ _ h
  exact ByteArray.ext (Array.toList_inj.1 h1)
theorem bytes_extract (s : ByteArray) (a b : Nat) : bytes (s.extract a b) = ((bytes s).take b).drop a := by
  unfold bytes
  rw [extract_list, List.map_drop, List.map_take]
theorem bytes_enc (x : Int) : bytes (encStr x) = encN 10 (zig x) := by
  have : encStr x = strOfNums ((encN 10 (zig x)).map fun x : Nat => (x : Int)) := by
    unfold encStr encN
    rw [List.map_map]
    rfl
  rw [this, bytes_mk _ (encN_lt _ _)]

theorem wrap_nat {x : Int} {n : Nat} (h : x = (n : Int)) (hn : n < 9223372036854775808) : wrap64 x = (n : Int) := by
  subst h
  unfold wrap64
  omega
/-- One round of Int's loop. -/
theorem int_round (f : Nat) (s : ByteArray) (a v i b : Nat) (hs : s.size ≤ 4611686018427387904) (hi : i < 9) (hb : (bytes s)[a + i]? = some b) (hv : v < 128 ^ i) :
    Pa.wire_Int.l0 (f + 1) s a v i =
      if 128 ≤ b then Pa.wire_Int.l0 f s a ((v + b % 128 * 128 ^ i : Nat) : Int) ((i + 1 : Nat) : Int)
      else if (b = 0 ∧ 0 < i) ∨ zag (v + b * 128 ^ i) < -4611686018427387903 then some (0, 0, 10) else some (zag (v + b * 128 ^ i), ((a + i + 1 : Nat) : Int), 0) := by
  have hp : a + i < s.size := by
    have := (List.getElem?_eq_some_iff.1 hb).1
    rw [bytes_len] at this
    exact this
  have hb8 : b < 256 := bytes_lt s b (List.mem_of_getElem? hb)
  have hpow := pow_bound i (by omega)
  have hm : b % 128 * 128 ^ i ≤ 127 * 72057594037927936 := Nat.mul_le_mul (by omega) hpow
  have hz : v + b % 128 * 128 ^ i < 9223372036854775808 := by omega
  have c1 : (i : Int) < 9 := by omega
  have c2 : ¬ (((a + i : Nat) : Int) ≥ (s.size : Int)) := by omega
  have c3 : 0 ≤ ((a + i : Nat) : Int) := by omega
  have c4 : ((a + i : Nat) : Int) < (s.size : Int) := by omega
  have c5 : 0 ≤ ((7 * i : Nat) : Int) := by omega
  have a1 : a + i < 9223372036854775808 := by omega
  have a2 : 7 * i < 9223372036854775808 := by omega
  have a3 : i + 1 < 9223372036854775808 := by omega
  have a4 : a + i + 1 < 9223372036854775808 := by omega
  have a5 : i ≤ 8 := by omega
  have a6 : b % 128 < 128 := Nat.mod_lt _ (by decide)
  simp only [Pa.wire_Int.l0]
  rw [wrap_nat (show (a : Int) + (i : Int) = ((a + i : Nat) : Int) by omega) a1, wrap_nat (show 7 * (i : Int) = ((7 * i : Nat) : Int) by omega) a2, wrap_nat (show (i : Int) + 1 = ((i + 1 : Nat) : Int) by omega) a3,
    wrap_nat (show ((a + i : Nat) : Int) + 1 = ((a + i + 1 : Nat) : Int) by omega) a4, bt_bytes s (a + i) b hb, and127_u8 b hb8, shl_u64 (b % 128) i a6 a5, or_u64 v (b % 128) i hv a6 a5, zag_bits (v + b % 128 * 128 ^ i) hz,
    if_pos c1, if_neg c2, if_pos c3, if_pos c4, if_pos c5]
  by_cases h : 128 ≤ b
  · rw [if_pos h, if_pos (by omega)]
  · have hmod : b % 128 = b := Nat.mod_eq_of_lt (by omega)
    rw [if_neg h, if_neg (by omega), hmod]
    by_cases h0 : b = 0
    · subst h0
      rw [if_pos (by rfl)]
      by_cases hi0 : 0 < i
      · rw [if_pos (by omega), if_pos (.inl ⟨rfl, hi0⟩)]
      · rw [if_neg (by omega)]
        by_cases hn : zag (v + 0 * 128 ^ i) < -4611686018427387903
        · rw [if_pos hn, if_pos (.inr hn)]
        · rw [if_neg hn, if_neg (by rintro (⟨_, h1⟩ | h1); exact hi0 h1; exact hn h1)]
    · rw [if_neg (by omega)]
      by_cases hn : zag (v + b * 128 ^ i) < -4611686018427387903
      · rw [if_pos hn, if_pos (.inr hn)]
      · rw [if_neg hn, if_neg (by rintro (⟨h1, _⟩ | h1); exact h0 h1; exact hn h1)]

theorem prefix_head {x : Nat} {l m : List Nat} {p : Nat} (h : x :: l <+: m.drop p) : m[p]? = some x ∧ l <+: m.drop (p + 1) := by
  obtain ⟨t, ht⟩ := h
  have h0 : (m.drop p)[0]? = some x := by rw [← ht]; rfl
  refine ⟨by simpa using h0, t, ?_⟩
  have := congrArg (List.drop 1) ht
  simpa [List.drop_drop, Nat.add_comm] using this
theorem pow_succ' (i : Nat) : 128 ^ (i + 1) = 128 ^ i * 128 := Nat.pow_succ ..
theorem sum_step (v b z i : Nat) : v + b * 128 ^ i + z * 128 ^ (i + 1) = v + (b + 128 * z) * 128 ^ i := by
  rw [pow_succ', Nat.add_mul, Nat.mul_assoc 128 z, Nat.mul_comm 128, Nat.mul_assoc z, Nat.add_assoc]
theorem low_lt (v b i : Nat) (hv : v < 128 ^ i) (hb : b < 128) : v + b * 128 ^ i < 128 ^ (i + 1) := by
  rw [pow_succ']
  have : b * 128 ^ i ≤ 127 * 128 ^ i := Nat.mul_le_mul_right _ (by omega)
  omega

theorem int_good (s : ByteArray) (a : Nat) (hs : s.size ≤ 4611686018427387904) : ∀ (k z i v f : Nat), z < 128 ^ (k + 1) → v < 128 ^ i → (z ≠ 0 ∨ i = 0) → i + (encN (k + 1) z).length ≤ 9 →
    -4611686018427387903 ≤ zag (v + z * 128 ^ i) → encN (k + 1) z <+: (bytes s).drop (a + i) → (encN (k + 1) z).length ≤ f →
    Pa.wire_Int.l0 f s a v i = some (zag (v + z * 128 ^ i), ((a + i + (encN (k + 1) z).length : Nat) : Int), 0)
  | k, z, i, v, f, hz, hv, hc, hl, hn, hp, hf => by
    by_cases hs1 : z < 128
    · rw [encN_small hs1] at hl hp hf ⊢
      simp only [List.length_cons, List.length_nil] at hl hf ⊢
      obtain ⟨f, rfl⟩ : ∃ m, f = m + 1 := ⟨f - 1, by omega⟩
      obtain ⟨hb, _⟩ := prefix_head hp
      rw [int_round f s a v i z hs (by omega) hb hv, if_neg (by omega), if_neg]
      rintro (⟨h1, h2⟩ | h1)
      · rcases hc with h | h <;> omega
      · omega
    · cases k with
      | zero => simp at hz; omega
      | succ k =>
        rw [encN_big hs1] at hl hp hf ⊢
        simp only [List.length_cons] at hl hf ⊢
        obtain ⟨f, rfl⟩ : ∃ m, f = m + 1 := ⟨f - 1, by omega⟩
        obtain ⟨hb, hp'⟩ := prefix_head hp
        have hzd : z / 128 < 128 ^ (k + 1) := Nat.div_lt_of_lt_mul (by rw [Nat.pow_succ] at hz; omega)
        have hmod : (z % 128 + 128) % 128 = z % 128 := by omega
        have hzm : z % 128 + 128 * (z / 128) = z := Nat.mod_add_div z 128
        have e := sum_step v (z % 128) (z / 128) i
        rw [hzm] at e
        rw [int_round f s a v i _ hs (by omega) hb hv, if_pos (by omega), hmod]
        have := int_good s a hs k (z / 128) (i + 1) (v + z % 128 * 128 ^ i) f hzd (low_lt _ _ _ hv (Nat.mod_lt _ (by decide))) (.inl (by omega)) (by omega) (by rw [e]; exact hn) (by rw [← Nat.add_assoc]; exact hp') (by omega)
        rw [this, e]
        congr 3
        omega

theorem int_any (s : ByteArray) (a : Nat) (hs : s.size ≤ 4611686018427387904) (ha : a ≤ s.size) : ∀ (d i v f : Nat), i + d = 9 → v < 128 ^ i → d < f →
    Pa.wire_Int.l0 f s a v i = some (0, 0, 10) ∨ ∃ z, z < 128 ^ (d + 1) ∧ (z ≠ 0 ∨ i = 0) ∧ i + (encN (d + 1) z).length ≤ 9 ∧ v + z * 128 ^ i < 128 ^ 9 ∧ -4611686018427387903 ≤ zag (v + z * 128 ^ i) ∧
      encN (d + 1) z <+: (bytes s).drop (a + i) ∧ Pa.wire_Int.l0 f s a v i = some (zag (v + z * 128 ^ i), ((a + i + (encN (d + 1) z).length : Nat) : Int), 0)
  | d, i, v, f, hd, hv, hf => by
    obtain ⟨f, rfl⟩ : ∃ m, f = m + 1 := ⟨f - 1, by omega⟩
    by_cases hp : a + i < s.size
    · cases d with
      | zero =>
        left
        obtain rfl : i = 9 := by omega
        have c1 : ¬ (((9 : Nat) : Int) < 9) := by omega
        simp only [Pa.wire_Int.l0]
        rw [if_neg c1]
      | succ d =>
        obtain ⟨b, hb⟩ : ∃ b, (bytes s)[a + i]? = some b := ⟨_, List.getElem?_eq_getElem (by rw [bytes_len]; exact hp)⟩
        have hb8 : b < 256 := bytes_lt s b (List.mem_of_getElem? hb)
        rw [int_round f s a v i b hs (by omega) hb hv]
        by_cases h : 128 ≤ b
        · rw [if_pos h]
          rcases int_any s a hs ha d (i + 1) (v + b % 128 * 128 ^ i) f (by omega) (low_lt _ _ _ hv (Nat.mod_lt _ (by decide))) (by omega) with hr | ⟨z, h1, h2, h3, h4, h5, h6, h7⟩
          · exact .inl hr
          · right
            have hz0 : z ≠ 0 := by rcases h2 with h2 | h2 <;> omega
            have e := sum_step v (b % 128) z i
            have hbig : ¬ (b % 128 + 128 * z < 128) := by omega
            have e1 : (b % 128 + 128 * z) % 128 + 128 = b := by omega
            have e2 : (b % 128 + 128 * z) / 128 = z := by omega
            have e3 : encN (d + 1 + 1) (b % 128 + 128 * z) = b :: encN (d + 1) z := by rw [encN_big hbig, e1, e2]
            refine ⟨b % 128 + 128 * z, ?_, .inl (by omega), ?_, ?_, ?_, ?_, ?_⟩
            · rw [Nat.pow_succ]; omega
            · rw [e3]; simp only [List.length_cons]; omega
            · rw [← e]; exact h4
            · rw [← e]; exact h5
            · rw [e3]
              obtain ⟨t, ht⟩ := h6
              refine ⟨t, ?_⟩
              have hlt : a + i < (bytes s).length := by rw [bytes_len]; exact hp
              rw [List.cons_append, ht, List.drop_eq_getElem_cons hlt]
              congr 1
              exact ((List.getElem?_eq_some_iff.1 hb).2).symm
            · rw [e3, h7, e]
              simp only [List.length_cons]
              congr 3
              omega
        · rw [if_neg h]
          by_cases hr : (b = 0 ∧ 0 < i) ∨ zag (v + b * 128 ^ i) < -4611686018427387903
          · rw [if_pos hr]; exact .inl rfl
          · rw [if_neg hr]
            right
            have hsm : b < 128 := by omega
            refine ⟨b, ?_, ?_, ?_, ?_, ?_, ?_, ?_⟩
            · have := Nat.one_le_two_pow (n := 7 * (d + 1)); rw [Nat.pow_succ]; rw [pow_128] at this; omega
            · by_cases hb0 : b = 0
              · right; exact Classical.byContradiction fun hi => hr (.inl ⟨hb0, by omega⟩)
              · exact .inl hb0
            · rw [encN_small hsm]; simp only [List.length_cons, List.length_nil]; omega
            · have := low_lt v b i hv hsm
              have h9 : 128 ^ (i + 1) ≤ 128 ^ 9 := Nat.pow_le_pow_right (by decide) (by omega)
              omega
            · exact Int.not_lt.1 fun hlt => hr (.inr hlt)
            · rw [encN_small hsm]
              have hlt : a + i < (bytes s).length := by rw [bytes_len]; exact hp
              rw [List.drop_eq_getElem_cons hlt]
              refine ⟨(bytes s).drop (a + i + 1), ?_⟩
              rw [List.singleton_append]
              congr 1
              exact ((List.getElem?_eq_some_iff.1 hb).2).symm
            · rw [encN_small hsm]
              rfl
    · left
      have a1 : a + i < 9223372036854775808 := by omega
      have c2 : ((a + i : Nat) : Int) ≥ (s.size : Int) := by omega
      simp only [Pa.wire_Int.l0]
      split
      · rw [wrap_nat (show (a : Int) + (i : Int) = ((a + i : Nat) : Int) by omega) a1, if_pos c2]
      · rfl

/-! ### Int, PutInt, String and PutString as wholes -/
def Fits (x : Int) : Prop := -4611686018427387903 ≤ x ∧ x ≤ 4611686018427387903
/-- The encoding of x, as numbers. -/
def enc (x : Int) : List Nat := encN 10 (zig x)
theorem zig_lt9 (x : Int) (h : Fits x) : zig x < 128 ^ 9 := by
  obtain ⟨h0, h1⟩ := h
  unfold zig
  split <;> omega
theorem enc9 (x : Int) (h : Fits x) : enc x = encN 9 (zig x) := (encN_more 8 1 (zig x) (zig_lt9 x h)).symm
theorem enc_len (x : Int) (h : Fits x) : (enc x).length ≤ 9 := by rw [enc9 x h]; exact encN_len _ _
theorem enc_pos (x : Int) : 1 ≤ (enc x).length := by
  unfold enc
  by_cases h : zig x < 128
  · rw [encN_small h]; simp
  · rw [encN_big h]; simp
theorem putInt_fits (x : Int) (h : Fits x) : wire_PutInt.f x = some (encStr x, 0) := by
  obtain ⟨h0, h1⟩ := h
  unfold wire_PutInt.f
  rw [if_neg (by omega), if_neg (by omega)]
theorem bytes_encStr (x : Int) : bytes (encStr x) = enc x := bytes_enc x
theorem encStr_size (x : Int) : (encStr x).size = (enc x).length := by rw [← bytes_len, bytes_encStr]

theorem Int_at (f : Nat) (s : ByteArray) (a : Nat) (ha : a ≤ s.size) : Pa.wire_Int.f (f + 1) s a = Pa.wire_Int.l0 f s a 0 0 := by
  have hd : decide ((a : Int) > (s.size : Int)) = false := decide_eq_false (by omega)
  unfold Pa.wire_Int.f
  rw [if_neg (by omega), hd]
  simp only [Pa.wire_Int.j0]
  rfl
theorem Int_good (f : Nat) (s : ByteArray) (a : Nat) (x : Int) (hs : s.size ≤ 4611686018427387904) (ha : a ≤ s.size) (hx : Fits x) (hp : enc x <+: (bytes s).drop a) (hf : 10 ≤ f) :
    Pa.wire_Int.f f s a = some (x, ((a + (enc x).length : Nat) : Int), 0) := by
  obtain ⟨f, rfl⟩ : ∃ m, f = m + 1 := ⟨f - 1, by omega⟩
  have hl := enc_len x hx
  have h9 := enc9 x hx
  rw [h9] at hp hl ⊢
  rw [Int_at f s a ha]
  have hl' : (encN (8 + 1) (zig x)).length ≤ 9 := hl
  have := int_good s a hs 8 (zig x) 0 0 f (zig_lt9 x hx) (by decide) (.inr rfl) (by omega) (by simpa [zag_zig] using hx.1) (by simpa using hp) (by omega)
  simpa [zag_zig] using this
theorem Int_any (f : Nat) (s : ByteArray) (a : Nat) (hs : s.size ≤ 4611686018427387904) (ha : a ≤ s.size) (hf : 11 ≤ f) :
    Pa.wire_Int.f f s a = some (0, 0, 10) ∨ ∃ x, Fits x ∧ enc x <+: (bytes s).drop a ∧ Pa.wire_Int.f f s a = some (x, ((a + (enc x).length : Nat) : Int), 0) := by
  obtain ⟨f, rfl⟩ : ∃ m, f = m + 1 := ⟨f - 1, by omega⟩
  rw [Int_at f s a ha]
  rcases int_any s a hs ha 9 0 0 f (by decide) (by decide) (by omega) with h | ⟨z, h1, h2, h3, h4, h5, h6, h7⟩
  · exact .inl (by simpa using h)
  · right
    simp only [Nat.pow_zero, Nat.mul_one, Nat.zero_add, Nat.add_zero, Nat.reduceAdd] at h4 h5 h6 h7
    have e : enc (zag z) = encN 10 z := by unfold enc; rw [zig_zag]
    have hf : Fits (zag z) := ⟨h5, by unfold zag; split <;> omega⟩
    refine ⟨zag z, hf, by rw [e]; exact h6, ?_⟩
    rw [e]
    exact h7
theorem Int_arg (f : Nat) (s : ByteArray) (a : Int) (ha : a < 0 ∨ (s.size : Int) < a) (hf : 1 ≤ f) : Pa.wire_Int.f f s a = some (0, 0, 2) := by
  obtain ⟨f, rfl⟩ : ∃ m, f = m + 1 := ⟨f - 1, by omega⟩
  unfold Pa.wire_Int.f
  by_cases h : a < 0
  · rw [if_pos h]; simp [Pa.wire_Int.j0]
  · have hd : decide (a > (s.size : Int)) = true := decide_eq_true (by omega)
    rw [if_neg h, hd]; simp [Pa.wire_Int.j0]

/-- The encoding of a string. -/
def encS (t : ByteArray) : List Nat := enc (t.size : Int) ++ bytes t
theorem encS_len (t : ByteArray) : (encS t).length = (enc (t.size : Int)).length + t.size := by simp [encS, bytes_len]
theorem fits_size (t : ByteArray) (h : t.size ≤ 65536) : Fits (t.size : Int) := ⟨by omega, by omega⟩
theorem putString_fits (t : ByteArray) (h : t.size ≤ 65536) : Pa.wire_PutString.f t = some (encStr (t.size : Int) ++ t, 0) := by
  have hl := enc_len _ (fits_size t h)
  rw [← encStr_size] at hl
  unfold Pa.wire_PutString.f
  rw [if_neg (by omega), putInt_fits _ (fits_size t h)]
  simp only [Option.bind_some]
  rw [if_pos (by omega)]
theorem bytes_putString (t : ByteArray) : bytes (encStr (t.size : Int) ++ t) = encS t := by rw [bytes_append, bytes_encStr]; rfl
theorem prefix_append {l m t : List Nat} (h : l ++ m <+: t) : l <+: t ∧ m <+: t.drop l.length := by
  obtain ⟨r, rfl⟩ := h
  exact ⟨⟨m ++ r, by simp⟩, ⟨r, by simp⟩⟩
theorem prefix_take {l m : List Nat} (h : l <+: m) : l = m.take l.length := (List.prefix_iff_eq_take.1 h)

theorem String_good (f : Nat) (s : ByteArray) (a : Nat) (t : ByteArray) (hs : s.size ≤ 4611686018427387904) (ha : a ≤ s.size) (ht : t.size ≤ 65536) (hp : encS t <+: (bytes s).drop a) (hf : 10 ≤ f) :
    Pa.wire_String.f f s a = some (t, ((a + (encS t).length : Nat) : Int), 0) := by
  obtain ⟨h1, h2⟩ := prefix_append hp
  have hi := Int_good f s a (t.size : Int) hs ha (fits_size t ht) h1 hf
  have hlen := hp.length_le
  rw [encS_len, List.length_drop, bytes_len] at hlen
  rw [List.drop_drop] at h2
  have ht2 := prefix_take h2
  rw [bytes_len] at ht2
  have e0 := encS_len t
  unfold Pa.wire_String.f
  rw [hi]
  simp only [Option.bind_some]
  generalize (enc (t.size : Int)).length = m at *
  have w1 : wrap64 ((s.size : Int) - ((a + m : Nat) : Int)) = ((s.size - (a + m) : Nat) : Int) := wrap_nat (by omega) (by omega)
  have w2 : wrap64 (((a + m : Nat) : Int) + (t.size : Int)) = ((a + m + t.size : Nat) : Int) := wrap_nat (by omega) (by omega)
  have c1 : ¬ ((t.size : Int) < 0) := by omega
  have c2 : ¬ ((t.size : Int) > 65536) := by omega
  have c3 : ¬ ((t.size : Int) > ((s.size - (a + m) : Nat) : Int)) := by omega
  have c4 : 0 ≤ ((a + m : Nat) : Int) := by omega
  have c5 : ((a + m : Nat) : Int) ≤ ((a + m + t.size : Nat) : Int) := by omega
  have c6 : ((a + m + t.size : Nat) : Int) ≤ (s.size : Int) := by omega
  rw [w1, w2, if_pos trivial, if_neg c1, if_neg c2, if_neg c3, if_pos c4, if_pos c5, if_pos c6, Int.toNat_natCast, Int.toNat_natCast]
  have e : s.extract (a + m) (a + m + t.size) = t := by
    apply bytes_inj
    rw [bytes_extract, ht2, List.drop_take, show a + m + t.size - (a + m) = t.size by omega]
  rw [e, e0, Nat.add_assoc]

theorem String_any (f : Nat) (s : ByteArray) (a : Nat) (hs : s.size ≤ 4611686018427387904) (ha : a ≤ s.size) (hf : 11 ≤ f) :
    Pa.wire_String.f f s a = some (⟨#[]⟩, 0, 10) ∨ ∃ t : ByteArray, t.size ≤ 65536 ∧ encS t <+: (bytes s).drop a ∧ Pa.wire_String.f f s a = some (t, ((a + (encS t).length : Nat) : Int), 0) := by
  rcases Int_any f s a hs ha hf with h | ⟨x, hx, hp, h⟩
  · left
    unfold Pa.wire_String.f
    rw [h]
    simp
  · by_cases hgood : 0 ≤ x ∧ x ≤ 65536 ∧ x ≤ ((s.size - (a + (enc x).length) : Nat) : Int)
    · obtain ⟨g1, g2, g3⟩ := hgood
      right
      obtain ⟨n, rfl⟩ := Int.eq_ofNat_of_zero_le g1
      have hlen := hp.length_le
      rw [List.length_drop, bytes_len] at hlen
      have hsz : (s.extract (a + (enc n).length) (a + (enc n).length + n)).size = n := by rw [ByteArray.size_extract]; omega
      have hpre : encS (s.extract (a + (enc n).length) (a + (enc n).length + n)) <+: (bytes s).drop a := by
        unfold encS
        rw [hsz, bytes_extract]
        obtain ⟨r, hr⟩ := hp
        have hr2 : r = (bytes s).drop (a + (enc n).length) := by
          have := congrArg (List.drop (enc n).length) hr
          simpa [List.drop_drop] using this
        rw [List.drop_take, ← hr2, show a + (enc n).length + n - (a + (enc n).length) = n by omega, ← hr]
        exact (List.prefix_append_right_inj _).2 (List.take_prefix _ _)
      exact ⟨_, by rw [hsz]; omega, hpre, String_good f s a _ hs ha (by rw [hsz]; omega) hpre (by omega)⟩
    · left
      have hlen := hp.length_le
      rw [List.length_drop, bytes_len] at hlen
      have h9 := enc_len x hx
      unfold Pa.wire_String.f
      rw [h]
      simp only [Option.bind_some]
      generalize (enc x).length = m at *
      have w1 : wrap64 ((s.size : Int) - ((a + m : Nat) : Int)) = ((s.size - (a + m) : Nat) : Int) := wrap_nat (by omega) (by omega)
      rw [if_pos trivial, w1]
      clear w1
      split
      · rfl
      · split
        · rfl
        · split
          · rfl
          · omega
theorem String_arg (f : Nat) (s : ByteArray) (a : Int) (ha : a < 0 ∨ (s.size : Int) < a) (hf : 1 ≤ f) : Pa.wire_String.f f s a = some (⟨#[]⟩, 0, 2) := by
  unfold Pa.wire_String.f
  rw [Int_arg f s a ha hf]
  simp

/-- The encodings are prefix-free. -/
theorem enc_free {x y : Int} (hx : Fits x) (hy : Fits y) {l : List Nat} (h1 : enc x <+: l) (h2 : enc y <+: l) (h256 : ∀ b ∈ l, b < 256) (hl : l.length ≤ 1000000) : x = y := by
  have hb := bytes_mk l h256
  have hsz : (strOfNums (l.map fun x : Nat => (x : Int))).size = l.length := by rw [← bytes_len, hb]
  have e1 := Int_good 10 (strOfNums (l.map fun x : Nat => (x : Int))) 0 x (by omega) (by omega) hx (by rw [hb]; simpa using h1) (by omega)
  have e2 := Int_good 10 (strOfNums (l.map fun x : Nat => (x : Int))) 0 y (by omega) (by omega) hy (by rw [hb]; simpa using h2) (by omega)
  rw [e1] at e2
  simpa using (Prod.mk.inj (Option.some.inj e2)).1
end Go.Proofs.YtffalfonmooinaaDoor
