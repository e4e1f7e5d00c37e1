/- The law WireUnique, over plain numbers and lists: what Int and String accept at an offset is, up to the returned end, what PutInt and PutString return for the value. -/
import Derived.Test.YtffalfonmooinaaDoorPr3
import Derived.Test.YtffalfonmooinaaDoorPick
namespace Go.Proofs.YtffalfonmooinaaDoor.Pure
open Go.RowKit Go.Proofs.YtffalfonmooinaaDoor.Pr Go.Proofs.YtffalfonmooinaaDoorW.PrintWords Go.Proofs.YtffalfonmooinaaDoorW.PrintLast
set_option linter.unusedVariables false
set_option linter.unusedSimpArgs false

theorem cut_eq (t u : ByteArray) (a : Nat) (h : bytes u <+: (bytes t).drop a) : (t.extract a (a + (bytes u).length)).toList = u.toList := by
  have e : t.extract a (a + (bytes u).length) = u := by
    apply bytes_inj
    rw [bytes_extract, List.drop_take, Nat.add_sub_cancel_left]
    exact (prefix_take h).symm
  rw [e]
theorem zero_fits : Fits 0 := ⟨by decide, by decide⟩
theorem empty_put : Pa.wire_PutString.f ⟨#[]⟩ = some (encStr 0, 0) := by
  have := putString_fits ⟨#[]⟩ (by decide)
  rw [this]
  simp
  apply bytes_inj
  rw [bytes_append]
  have : bytes ⟨#[]⟩ = [] := rfl
  rw [this, List.append_nil]
  rfl

theorem round1 (f : Nat) (t : ByteArray) (ks : List Int) (i kk : Nat) (hi : i < ks.length) (hk : rd ks i = (kk : Int)) (hkk : kk ≤ t.size) (ht : t.size ≤ 100000) (hf : 11 ≤ f) :
    yardsticklaw01_WireUnique.l0 (f + 1) true t ks (ks.length : Int) i = yardsticklaw01_WireUnique.j1 f true t kk ks (ks.length : Int) i false := by
  simp only [yardsticklaw01_WireUnique.l0]
  rw [if_pos (by omega), if_pos (by omega), if_pos (by omega), hk]
  rcases Int_any f t kk (by omega) hkk hf with h | ⟨x, hx, hp, h⟩
  · rw [h]
    simp only [Option.bind_some]
    rw [putInt_fits 0 zero_fits]
    simp only [Option.bind_some]
    rw [if_neg (by decide), if_pos trivial, if_pos trivial]
    rfl
  · rw [h]
    simp only [Option.bind_some]
    rw [putInt_fits x hx]
    simp only [Option.bind_some]
    have hlen := hp.length_le
    rw [List.length_drop, bytes_len] at hlen
    have hc := cut_eq t (encStr x) kk (by rw [bytes_encStr]; exact hp)
    rw [bytes_encStr] at hc
    rw [if_pos trivial, if_pos trivial, if_neg (by omega), if_neg (by omega), if_pos (by omega), if_pos (by omega), if_pos (by omega), Int.toNat_natCast, Int.toNat_natCast, if_pos hc]
theorem round2 (f : Nat) (t : ByteArray) (ks : List Int) (i kk : Nat) (hi : i < 1000) (hkk : kk ≤ t.size) (ht : t.size ≤ 100000) (hf : 11 ≤ f) :
    yardsticklaw01_WireUnique.j1 (f + 1) true t kk ks (ks.length : Int) i false = yardsticklaw01_WireUnique.l0 f true t ks (ks.length : Int) ((i + 1 : Nat) : Int) := by
  have hw : wrap64 ((i : Int) + 1) = ((i + 1 : Nat) : Int) := wrap_nat (by omega) (by omega)
  simp only [yardsticklaw01_WireUnique.j1]
  rw [if_neg (by simp), hw]
  clear hw
  rcases String_any f t kk (by omega) hkk hf with h | ⟨u, hu, hp, h⟩
  · rw [h]
    simp only [Option.bind_some]
    rw [empty_put]
    simp only [Option.bind_some]
    rw [if_neg (by decide), if_pos trivial, if_pos (by simp), if_pos trivial]
  · rw [h]
    simp only [Option.bind_some]
    rw [putString_fits u hu]
    simp only [Option.bind_some]
    have hlen := hp.length_le
    rw [List.length_drop, bytes_len] at hlen
    have hc := cut_eq t (encStr (u.size : Int) ++ u) kk (by rw [bytes_putString]; exact hp)
    rw [bytes_putString] at hc
    rw [if_pos trivial, if_pos trivial, if_neg (by omega), if_neg (by omega), if_pos (by omega), if_pos (by omega), if_pos (by omega), Int.toNat_natCast, Int.toNat_natCast, if_pos hc]

theorem WireUnique : yardsticklaw01_WireUnique.Pure := by
  intro s at_ b _ hat _
  obtain ⟨g0, g1⟩ := wf_i64 hat
  have hm : mn (s.size : Int) 300 = ((min s.size 300 : Nat) : Int) := min_nat s 300
  refine ⟨40, ?_⟩
  unfold yardsticklaw01_WireUnique.f sane.f
  rw [hm]
  have hmle : min s.size 300 ≤ s.size := by omega
  have hm2 : min s.size 300 ≤ 300 := by omega
  generalize min s.size 300 = n at *
  simp only [Option.bind_some, Int.toNat_natCast]
  have e1 : (strOfNums [b]).size = 1 := by rw [strOfNums_size]; rfl
  have e2 : (s.extract 0 n).size = n := by rw [ByteArray.size_extract]; omega
  rw [if_pos (by omega), if_pos (by omega), if_pos (by omega)]
  have e3 : (strOfNums [b] ++ s.extract 0 n).size = n + 1 := by rw [ByteArray.size_append]; omega
  generalize strOfNums [b] ++ s.extract 0 n = t at *
  rw [wrap_nat (show (t.size : Int) + 1 = ((n + 2 : Nat) : Int) by omega) (by omega)]
  obtain ⟨p, ep, p0, p1⟩ := pick_some at_ ((n + 2 : Nat) : Int) g0 g1 (by omega)
  obtain ⟨p, rfl⟩ := Int.eq_ofNat_of_zero_le p0
  rw [ep]
  simp only [Option.bind_some]
  have r0 := round1 39 t [0, (p : Int)] 0 0 (by simp) rfl (by omega) (by omega) (by decide)
  have r1 := round2 38 t [0, (p : Int)] 0 0 (by decide) (by omega) (by omega) (by decide)
  have r2 := round1 37 t [0, (p : Int)] 1 p (by simp) rfl (by omega) (by omega) (by decide)
  have r3 := round2 36 t [0, (p : Int)] 1 p (by decide) (by omega) (by omega) (by decide)
  refine r0.trans (r1.trans (r2.trans (r3.trans ?_)))
  simp [yardsticklaw01_WireUnique.l0]
end Go.Proofs.YtffalfonmooinaaDoor.Pure
