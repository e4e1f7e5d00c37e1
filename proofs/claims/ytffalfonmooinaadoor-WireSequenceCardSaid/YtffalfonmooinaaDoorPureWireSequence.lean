/- The law WireSequence, over plain numbers and lists: a concatenation of encodings of integers and strings is decoded into the same values, and ends exactly at its end. -/
import Derived.Test.YtffalfonmooinaaDoorPr4
import Derived.Test.YtffalfonmooinaaDoorPick
namespace Go.Proofs.YtffalfonmooinaaDoor.Pure
open Go.RowKit Go.Proofs.YtffalfonmooinaaDoor.Pr Go.Proofs.YtffalfonmooinaaDoorW.PrintWords Go.Proofs.YtffalfonmooinaaDoorW.PrintLast
set_option linter.unusedVariables false
set_option linter.unusedSimpArgs false

section
variable (X : Nat → Int) (U : Nat → ByteArray)
def pre (m : Nat) : List Nat := (List.range m).flatMap fun i => enc (X i) ++ encS (U i)
theorem pre_succ (m : Nat) : pre X U (m + 1) = pre X U m ++ (enc (X m) ++ encS (U m)) := by
  unfold pre
  rw [List.range_succ, List.flatMap_append]
  simp
theorem pre_split (m d : Nat) : ∃ rest, pre X U (m + 1 + d) = pre X U m ++ ((enc (X m) ++ encS (U m)) ++ rest) := by
  induction d with
  | zero => exact ⟨[], by rw [Nat.add_zero, pre_succ, List.append_nil]⟩
  | succ d ih =>
    obtain ⟨r, hr⟩ := ih
    exact ⟨r ++ (enc (X (m + 1 + d)) ++ encS (U (m + 1 + d))), by rw [← Nat.add_assoc, pre_succ, hr]; simp⟩
theorem pre_len (hX : ∀ i, Fits (X i)) (hU : ∀ i, (U i).size ≤ 100) (m : Nat) : (pre X U m).length ≤ m * 200 := by
  induction m with
  | zero => simp [pre]
  | succ m ih =>
    have h1 := enc_len _ (hX m)
    have h2 := enc_len _ (fits_size (U m) (by have := hU m; omega))
    have h3 := hU m
    have h4 := encS_len (U m)
    rw [pre_succ, List.length_append, List.length_append]
    omega

variable (l : List Int) (ts : List ByteArray) (n : Nat)

theorem first (hn : n ≤ 20) (hl : n ≤ l.length) (ht : n ≤ ts.length) (hX : ∀ i, Fits (X i)) (hU : ∀ i, (U i).size ≤ 100)
    (eX : ∀ i : Nat, i < n → yardsticklaw01_NumberFrom.f (rd l i) = some (X i)) (eU : ∀ i : Nat, i < n → U i = (rdOf ByteArray.empty ts i).extract 0 (min (rdOf ByteArray.empty ts i).size 100)) :
    ∀ (d i f : Nat) (s : ByteArray), i + d = n → bytes s = pre X U i → d < f → ∃ g s', f = g + d + 1 ∧ bytes s' = pre X U n ∧ yardsticklaw01_WireSequence.l0 f l ts true n s i = yardsticklaw01_WireSequence.l1 g l ts true n s' 0 0
  | 0, i, f, s, hd, hs, hf => by
    obtain ⟨f, rfl⟩ : ∃ m, f = m + 1 := ⟨f - 1, by omega⟩
    obtain rfl : i = n := by omega
    refine ⟨f, s, rfl, hs, ?_⟩
    simp only [yardsticklaw01_WireSequence.l0]
    rw [if_neg (by omega)]
  | d + 1, i, f, s, hd, hs, hf => by
    obtain ⟨f, rfl⟩ : ∃ m, f = m + 1 := ⟨f - 1, by omega⟩
    have hi : i < n := by omega
    have hm : mn ((rdOf ByteArray.empty ts i).size : Int) 100 = ((min (rdOf ByteArray.empty ts i).size 100 : Nat) : Int) := min_nat _ 100
    have hU' := hU i
    have hx9 := enc_len _ (hX i)
    have hu9 := enc_len _ (fits_size (U i) (by omega))
    have hp := pre_len X U hX hU i
    have z1 : s.size ≤ 4000 := by rw [← bytes_len, hs]; omega
    have z2 : (encStr (X i)).size ≤ 9 := by rw [encStr_size]; exact hx9
    have z3 : (encStr ((U i).size : Int) ++ U i).size ≤ 200 := by rw [← bytes_len, bytes_putString, encS_len]; omega
    have z4 : (s ++ encStr (X i)).size ≤ 4009 := by rw [ByteArray.size_append]; omega
    obtain ⟨g, s', hg, hs', e⟩ := first hn hl ht hX hU eX eU d (i + 1) f ((s ++ encStr (X i)) ++ (encStr ((U i).size : Int) ++ U i)) (by omega)
      (by rw [bytes_append, bytes_append, bytes_encStr, bytes_putString, hs, pre_succ, List.append_assoc]) (by omega)
    refine ⟨g, s', by omega, hs', ?_⟩
    rw [← e]
    simp only [yardsticklaw01_WireSequence.l0]
    rw [if_pos (by omega), if_pos (by omega), if_pos (by omega), eX i hi]
    simp only [Option.bind_some]
    rw [putInt_fits _ (hX i)]
    simp only [Option.bind_some]
    rw [if_pos (by omega), hm, if_pos (by omega), if_pos (by omega), Int.toNat_natCast, ← eU i hi, putString_fits _ (by omega)]
    simp only [Option.bind_some]
    rw [if_pos trivial, if_pos trivial, if_pos (by omega), if_pos (by omega), wrap_nat (show (i : Int) + 1 = ((i + 1 : Nat) : Int) by omega) (by omega)]

theorem second (hn : n ≤ 20) (hl : n ≤ l.length) (ht : n ≤ ts.length) (hX : ∀ i, Fits (X i)) (hU : ∀ i, (U i).size ≤ 100)
    (eX : ∀ i : Nat, i < n → yardsticklaw01_NumberFrom.f (rd l i) = some (X i)) (eU : ∀ i : Nat, i < n → U i = (rdOf ByteArray.empty ts i).extract 0 (min (rdOf ByteArray.empty ts i).size 100))
    (s : ByteArray) (hs : bytes s = pre X U n) :
    ∀ (d i f : Nat), i + d = n → d + 12 ≤ f → yardsticklaw01_WireSequence.l1 f l ts true n s ((pre X U i).length : Nat) i = some true
  | 0, i, f, hd, hf => by
    obtain ⟨f, rfl⟩ : ∃ m, f = m + 1 := ⟨f - 1, by omega⟩
    obtain rfl : i = n := by omega
    have hp := pre_len X U hX hU i
    have z : s.size = (pre X U i).length := by rw [← bytes_len, hs]
    simp only [yardsticklaw01_WireSequence.l1]
    rw [if_neg (by omega)]
    rcases Int_any f s (pre X U i).length (by omega) (by omega) (by omega) with h | ⟨y, hy, hpre, _⟩
    · rw [h]
      simp only [Option.bind_some]
      rw [if_pos trivial, if_pos (by omega)]
      rfl
    · exfalso
      rw [hs, List.drop_length] at hpre
      have h1 := hpre.length_le
      have h2 := enc_pos y
      rw [List.length_nil] at h1
      omega
  | d + 1, i, f, hd, hf => by
    obtain ⟨f, rfl⟩ : ∃ m, f = m + 1 := ⟨f - 1, by omega⟩
    have hi : i < n := by omega
    have hm : mn ((rdOf ByteArray.empty ts i).size : Int) 100 = ((min (rdOf ByteArray.empty ts i).size 100 : Nat) : Int) := min_nat _ 100
    have hU' := hU i
    have hp := pre_len X U hX hU n
    have z : s.size = (pre X U n).length := by rw [← bytes_len, hs]
    obtain ⟨rest, hrest⟩ := pre_split X U i d
    rw [show i + 1 + d = n by omega] at hrest
    have hlen := congrArg List.length hrest
    simp only [List.length_append] at hlen
    have h1 : enc (X i) <+: (bytes s).drop (pre X U i).length := by
      rw [hs, hrest, List.drop_left]
      exact ⟨encS (U i) ++ rest, by simp⟩
    have h2 : encS (U i) <+: (bytes s).drop ((pre X U i).length + (enc (X i)).length) := by
      rw [hs, hrest, ← List.drop_drop, List.drop_left, List.append_assoc, List.drop_left]
      exact ⟨rest, rfl⟩
    have i1 := Int_good f s (pre X U i).length (X i) (by omega) (by omega) (hX i) h1 (by omega)
    have i2 := String_good f s ((pre X U i).length + (enc (X i)).length) (U i) (by omega) (by omega) (by omega) h2 (by omega)
    have ih := second hn hl ht hX hU eX eU s hs d (i + 1) f (by omega) (by omega)
    have e2 : (pre X U (i + 1)).length = (pre X U i).length + (enc (X i)).length + (encS (U i)).length := by rw [pre_succ, List.length_append, List.length_append, Nat.add_assoc]
    rw [e2] at ih
    simp only [yardsticklaw01_WireSequence.l1]
    rw [if_pos (by omega), i1]
    simp only [Option.bind_some]
    rw [i2]
    simp only [Option.bind_some]
    rw [if_pos trivial, if_pos trivial, if_pos (by omega), if_pos (by omega), eX i hi]
    simp only [Option.bind_some]
    rw [if_pos trivial, if_pos (by omega), hm, if_pos (by omega), if_pos (by omega), Int.toNat_natCast, ← eU i hi, if_pos rfl, wrap_nat (show (i : Int) + 1 = ((i + 1 : Nat) : Int) by omega) (by omega)]
    exact ih
end

theorem WireSequence (l : List Int) (ts : List ByteArray) (hl : ∀ x ∈ l, (Lit.int .i64 x).wf = true) (hll : l.length ≤ 9223372036854775807) (htl : ts.length ≤ 9223372036854775807) :
    ∃ k, yardsticklaw01_WireSequence.f k l ts = some true := by
  have hm : mn (mn (l.length : Int) (ts.length : Int)) 20 = ((min (min l.length ts.length) 20 : Nat) : Int) := by
    have e : ∀ a b : Nat, mn (a : Int) (b : Int) = ((min a b : Nat) : Int) := by
      intro a b
      unfold mn
      split <;> omega
    rw [e]
    exact e _ 20
  have h1 : min (min l.length ts.length) 20 ≤ l.length := by omega
  have h2 : min (min l.length ts.length) 20 ≤ ts.length := by omega
  have h3 : min (min l.length ts.length) 20 ≤ 20 := by omega
  obtain ⟨f, hf⟩ : ∃ f : Nat, 60 ≤ f := ⟨60, Nat.le_refl _⟩
  refine ⟨f, ?_⟩
  unfold yardsticklaw01_WireSequence.f sane.f
  rw [hm]
  generalize min (min l.length ts.length) 20 = n at *
  have ex : ∀ i : Nat, ∃ x, Fits x ∧ (i < n → yardsticklaw01_NumberFrom.f (rd l i) = some x) := by
    intro i
    by_cases hi : i < n
    · obtain ⟨x, e, hx⟩ := number_some (rd l i) (hl _ (by
        unfold rd
        rw [Int.toNat_natCast, List.getD_eq_getElem?_getD, List.getElem?_eq_getElem (by omega)]
        exact List.getElem_mem _))
      exact ⟨x, hx, fun _ => e⟩
    · exact ⟨0, ⟨by decide, by decide⟩, fun h => absurd h hi⟩
  have hX := fun i => (Classical.choose_spec (ex i)).1
  have eX := fun i => (Classical.choose_spec (ex i)).2
  have hU : ∀ i : Nat, ((rdOf ByteArray.empty ts (i : Int)).extract 0 (min (rdOf ByteArray.empty ts (i : Int)).size 100)).size ≤ 100 := by
    intro i
    rw [ByteArray.size_extract]
    omega
  simp only [Option.bind_some]
  obtain ⟨g, s', hg, hs', e⟩ := first (fun i => Classical.choose (ex i)) (fun i : Nat => (rdOf ByteArray.empty ts (i : Int)).extract 0 (min (rdOf ByteArray.empty ts (i : Int)).size 100)) l ts n h3 h1 h2 hX hU eX (fun _ _ => rfl) n 0 f ⟨#[]⟩ (by omega) rfl (by omega)
  refine Eq.trans e ?_
  exact second (fun i => Classical.choose (ex i)) (fun i : Nat => (rdOf ByteArray.empty ts (i : Int)).extract 0 (min (rdOf ByteArray.empty ts (i : Int)).size 100)) l ts n h3 h1 h2 hX hU eX (fun _ _ => rfl) s' hs' n 0 g (by omega) (by omega)
end Go.Proofs.YtffalfonmooinaaDoor.Pure
