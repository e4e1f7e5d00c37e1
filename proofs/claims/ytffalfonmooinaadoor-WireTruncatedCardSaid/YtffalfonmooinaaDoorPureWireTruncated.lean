/- The law WireTruncated, over plain numbers and lists: no proper prefix of an encoding is accepted, and the encodings of different integers are not prefixes of each other. -/
import Derived.Test.YtffalfonmooinaaDoorPr5
import Derived.Test.YtffalfonmooinaaDoorPick
namespace Go.Proofs.YtffalfonmooinaaDoor.Pure
open Go.RowKit Go.Proofs.YtffalfonmooinaaDoor.Pr Go.Proofs.YtffalfonmooinaaDoorW.PrintWords Go.Proofs.YtffalfonmooinaaDoorW.PrintLast
set_option linter.unusedVariables false
set_option linter.unusedSimpArgs false

theorem int_short (x : Int) (hx : Fits x) (p : Nat) (hp : p < (encStr x).size) (f : Nat) (hf : 11 ≤ f) : Pa.wire_Int.f f ((encStr x).extract 0 p) 0 = some (0, 0, 10) := by
  have hl := enc_len x hx
  rw [encStr_size] at hp
  have hsz : ((encStr x).extract 0 p).size = p := by rw [ByteArray.size_extract, encStr_size]; omega
  rcases Int_any f ((encStr x).extract 0 p) 0 (by omega) (by omega) hf with h | ⟨y, hy, hpre, _⟩
  · exact_mod_cast h
  · exfalso
    rw [bytes_extract, bytes_encStr] at hpre
    simp only [List.drop_zero] at hpre
    have h1 : enc y <+: enc x := hpre.trans (List.take_prefix _ _)
    have := enc_free hy hx h1 (List.prefix_refl _) (encN_lt _ _) (by omega)
    subst this
    have := hpre.length_le
    rw [List.length_take] at this
    omega
theorem string_short (t : ByteArray) (ht : t.size ≤ 65536) (p : Nat) (hp : p < (encStr (t.size : Int) ++ t).size) (f : Nat) (hf : 11 ≤ f) : Pa.wire_String.f f ((encStr (t.size : Int) ++ t).extract 0 p) 0 = some (⟨#[]⟩, 0, 10) := by
  have hl := enc_len _ (fits_size t ht)
  have hbs : (encStr (t.size : Int) ++ t).size = (encS t).length := by rw [← bytes_putString, bytes_len]
  have he := encS_len t
  have hsz : ((encStr (t.size : Int) ++ t).extract 0 p).size = p := by rw [ByteArray.size_extract]; omega
  rcases String_any f ((encStr (t.size : Int) ++ t).extract 0 p) 0 (by omega) (by omega) hf with h | ⟨u, hu, hpre, _⟩
  · exact_mod_cast h
  · exfalso
    rw [bytes_extract, bytes_putString] at hpre
    simp only [List.drop_zero] at hpre
    have h1 : encS u <+: encS t := hpre.trans (List.take_prefix _ _)
    have h2 : enc (u.size : Int) <+: encS t := (List.prefix_append _ _).trans h1
    have h3 : enc (t.size : Int) <+: encS t := List.prefix_append _ _
    have h256 : ∀ b ∈ encS t, b < 256 := by
      intro b hb
      unfold encS at hb
      rcases List.mem_append.1 hb with hb | hb
      · exact encN_lt _ _ b hb
      · exact bytes_lt _ b hb
    have e := enc_free (fits_size u hu) (fits_size t ht) h2 h3 h256 (by omega)
    have := hpre.length_le
    rw [List.length_take, encS_len u, e] at this
    omega
theorem size_of_int {s t : ByteArray} (h : (s.size : Int) = (t.size : Int)) : s.size = t.size := by omega

theorem WireTruncated : yardsticklaw01_WireTruncated.Pure := by
  intro a b t at_ ha hb _ hat
  obtain ⟨x, ex, hx⟩ := number_some a ha
  obtain ⟨y, ey, hy⟩ := number_some b hb
  obtain ⟨g0, g1⟩ := wf_i64 hat
  have hm := min_nat t 200
  have hmle : min t.size 200 ≤ t.size := by omega
  have hm2 : min t.size 200 ≤ 65536 := by omega
  have hts : (t.extract 0 (min t.size 200)).size ≤ 65536 := by rw [ByteArray.size_extract]; omega
  have hx0 := enc_pos x
  rw [← encStr_size] at hx0
  have ht0 : 1 ≤ (encStr ((t.extract 0 (min t.size 200)).size : Int) ++ t.extract 0 (min t.size 200)).size := by
    have := enc_pos ((t.extract 0 (min t.size 200)).size : Int)
    rw [← bytes_len, bytes_putString, encS_len]
    omega
  refine ⟨40, ?_⟩
  unfold yardsticklaw01_WireTruncated.f sane.f
  have hm' : mn (t.size : Int) 200 = ((min t.size 200 : Nat) : Int) := hm
  rw [hm']
  generalize min t.size 200 = n at *
  simp only [Option.bind_some]
  rw [ex]
  simp only [Option.bind_some]
  rw [putInt_fits x hx]
  simp only [Option.bind_some]
  rw [ey]
  simp only [Option.bind_some]
  rw [putInt_fits y hy]
  simp only [Option.bind_some]
  rw [if_pos (by omega), if_pos (by omega), Int.toNat_natCast]
  generalize t.extract 0 n = u at *
  rw [putString_fits u hts]
  simp only [Option.bind_some]
  have d1 : ((((encStr (u.size : Int) ++ u).size : Int)) == 0) = false := by
    rw [beq_eq_false_iff_ne]; omega
  rw [if_pos trivial, if_pos trivial, if_pos trivial, if_neg (by omega), d1]
  obtain ⟨p, ep, p0, p1⟩ := pick_some at_ ((encStr x).size : Int) g0 g1 (by omega)
  obtain ⟨q, eq, q0, q1⟩ := pick_some at_ ((encStr (u.size : Int) ++ u).size : Int) g0 g1 (by omega)
  obtain ⟨p, rfl⟩ := Int.eq_ofNat_of_zero_le p0
  obtain ⟨q, rfl⟩ := Int.eq_ofNat_of_zero_le q0
  have i1 := int_short x hx p (by omega) 39 (by decide)
  have i2 := string_short u hts q (by omega) 39 (by decide)
  simp only [yardsticklaw01_WireTruncated.j0]
  rw [if_neg (by simp), ep]
  simp only [Option.bind_some]
  rw [if_pos (by omega), if_pos (by omega), Int.toNat_natCast, i1]
  simp only [Option.bind_some]
  rw [eq]
  simp only [Option.bind_some]
  rw [if_pos (by omega), if_pos (by omega), Int.toNat_natCast, i2]
  simp only [Option.bind_some]
  rw [ex, ey]
  simp only [Option.bind_some, Int.toNat_natCast]
  by_cases hle : ((encStr x).size : Int) ≤ ((encStr y).size : Int)
  · rw [if_pos hle, if_pos (by omega), if_pos trivial, if_pos trivial, if_pos trivial]
    congr 1
    rw [beq_iff_eq]
    by_cases hxy : x = y
    · subst hxy
      have e : (encStr x).extract 0 (encStr x).size = encStr x := by
        apply bytes_inj
        rw [bytes_extract, List.drop_zero, List.take_of_length_le (by rw [bytes_len]; omega)]
      rw [e]
      simp
    · have e1 : (x == y) = false := by simpa using hxy
      rw [e1, beq_eq_false_iff_ne]
      intro e
      apply hxy
      have e2 : (encStr y).extract 0 (encStr x).size = encStr x := toList_inj e
      have e3 := congrArg bytes e2
      rw [bytes_extract, bytes_encStr, bytes_encStr] at e3
      simp only [List.drop_zero] at e3
      have hl := enc_len y hy
      exact enc_free hx hy (by rw [← e3]; exact List.take_prefix _ _) (List.prefix_refl _) (encN_lt _ _) (by omega)
  · rw [if_neg hle, if_pos trivial, if_pos trivial, if_pos trivial]
    have hxy : x ≠ y := by rintro rfl; omega
    have e1 : (x == y) = false := by simpa using hxy
    rw [e1]
    rfl
end Go.Proofs.YtffalfonmooinaaDoor.Pure
