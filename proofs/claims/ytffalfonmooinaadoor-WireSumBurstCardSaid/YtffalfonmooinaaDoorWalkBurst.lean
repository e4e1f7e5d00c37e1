/- The walk of WireSumBurst: a change of at most 32 consecutive bits of a string changes its checksum. -/
import Derived.Test.YtffalfonmooinaaDoorPick
import Derived.Test.YtffalfonmooinaaDoorSane
import Derived.Test.YtffalfonmooinaaDoorBurst
import Derived.Deep.QuietTactic
import Derived.BigQuiet
import Derived.Laws.BytesArg
import Derived.Outline
import Derived.RegionTactic
import Derived.ChangeAlike
namespace Go.Proofs.YtffalfonmooinaaDoor
open Go.RowKit Go.Proofs.YtffalfonmooinaaDoorW.PrintWords Go.Proofs.YtffalfonmooinaaDoorW.PrintLast Go.Proofs.YtffalfonmooinaaDoorW.PrintMore
attribute [local go_sem] max2_int min2_int max_two min_two max_three min_three max_four min_four
set_option linter.unusedVariables false
set_option linter.unusedSimpArgs false

/-- Block B holds the bytes xs, which may be written; the world came after w. -/
structure Buf (w : World) (B : Nat) (xs : List Nat) (W : World) : Prop where
  below : Below w.heap.size w W
  ge : w.heap.size ≤ B
  cell : ∀ j x, xs[j]? = some x → W.cell? ⟨B, j, none⟩ = some (.int .u8 (x : Nat))
  free : ∀ j, j < xs.length → W.frozen? ⟨B, j, none⟩ = false

theorem Buf.set {w : World} {B : Nat} {xs : List Nat} {W : World} (h : Buf w B xs W) (j v : Nat) (hj : j < xs.length) : Buf w B (xs.set j v) (W.setCell ⟨B, j, none⟩ (.int .u8 (v : Nat))) where
  below := h.below.setCell (p := ⟨B, j, none⟩) h.ge _
  ge := h.ge
  cell := by
    intro i x hi
    by_cases e : i = j
    · subst e
      rw [List.getElem?_set_self hj] at hi
      cases hi
      exact World.cell?_setCell_same' _ _ _ (by rw [h.cell i _ (List.getElem?_eq_getElem hj)]; rfl)
    · rw [List.getElem?_set_ne (Ne.symm e)] at hi
      exact (World.cell?_setCell_other W ⟨B, j, none⟩ ⟨B, i, none⟩ _ (by intro e2; injection e2 with _ e3; exact e e3.symm)).trans (h.cell i x hi)
  free := by
    intro i hi
    rw [World.frozen?_setCell]
    exact h.free i (by simpa using hi)
theorem Buf.drew {w : World} {B : Nat} {xs : List Nat} {W : World} (h : Buf w B xs W) : Buf w B xs W.drew :=
  ⟨h.below.drew, h.ge, h.cell, h.free⟩
theorem Buf.drewN {w : World} {B : Nat} {xs : List Nat} {W : World} (h : Buf w B xs W) (n : Nat) : Buf w B xs (W.drewN n) :=
  ⟨pw_below_drewN h.below n, h.ge, h.cell, h.free⟩
theorem Buf.new {w w1 : World} (hb : Below w.heap.size w w1) (p : ByteArray) : Buf w w1.heap.size (bytes p) (Lib.bytesWorld w1 5 p) where
  below := bytes_below hb hb.size 5 p
  ge := hb.size
  cell := by
    intro j x hx
    have hj : j < p.size := by
      have := (List.getElem?_eq_some_iff.1 hx).1
      rwa [bytes_len] at this
    rw [Lib.bytesWorld_cell w1 5 p j hj]
    congr 2
    have e := (List.getElem?_eq_some_iff.1 hx).2
    simp only [bytes, List.getElem_map] at e
    rw [← e, List.getD_eq_getElem?_getD, List.getElem?_eq_getElem (by simpa using hj)]
    rfl
  free := by
    intro j hj
    rw [bytes_len] at hj
    unfold World.frozen?
    rw [Lib.bytesWorld_at_new]
    simp [Lib.bytesCells]
    omega

theorem buf_byte {p : ByteArray} {bits start k j v : Nat} (hv : (burst (bytes p) bits start k)[j]? = some v) : v < 256 :=
  burst_lt _ (bytes_lt p) bits start k v (List.mem_of_getElem? hv)
theorem burst_step {w wr : World} {B : Nat} {p : ByteArray} {bits start k v : Nat} (hbuf : Buf w B (burst (bytes p) bits start k) wr) (hv : (burst (bytes p) bits start k)[(start + k) / 8]? = some v) (hj : (start + k) / 8 < (burst (bytes p) bits start k).length)
    (h256 : v < 256) (hbit : bits / 2 ^ k % 2 = 1) :
    Buf w B (burst (bytes p) bits start (k + 1)) (wr.setCell ⟨B, (start + k) / 8, none⟩ (.int .u8 (Go.bits .xor .u8 (v : Int) (2 ^ ((start + k) % 8) % 256)))).drew := by
  have h8 : 2 ^ ((start + k) % 8) < 2 ^ 8 := Nat.pow_lt_pow_right (by decide) (Nat.mod_lt _ (by decide))
  have e : ((2 : Int) ^ ((start + k) % 8) % 256) = ((2 ^ ((start + k) % 8) : Nat) : Int) := by
    have e1 : ((2 : Int) ^ ((start + k) % 8)) = ((2 ^ ((start + k) % 8) : Nat) : Int) := by simp
    rw [e1]
    generalize 2 ^ ((start + k) % 8) = q at *
    omega
  rw [e, xor_u8 v _ h256 h8]
  have e2 : burst (bytes p) bits start (k + 1) = (burst (bytes p) bits start k).set ((start + k) / 8) (v ^^^ 2 ^ ((start + k) % 8)) := by
    have : burst (bytes p) bits start (k + 1) = flip (burst (bytes p) bits start k) (start + k) := by
      show (if bits / 2 ^ k % 2 = 1 then _ else _) = _
      rw [if_pos hbit]
    rw [this]
    unfold flip
    rw [List.getD_eq_getElem?_getD, hv]
    rfl
  rw [e2]
  exact (hbuf.set _ _ hj).drew
theorem burst_none (xs : List Nat) (bits start k : Nat) (h : ¬ bits / 2 ^ k % 2 = 1) : burst xs bits start (k + 1) = burst xs bits start k := by
  show (if bits / 2 ^ k % 2 = 1 then _ else _) = _
  rw [if_neg h]
theorem turned_yes (bits k : Nat) (h : bits / 2 ^ k % 2 = 1) : turned bits (k + 1) = true := by
  show (if bits / 2 ^ k % 2 = 1 then _ else _) = _
  rw [if_pos h]
theorem turned_no (bits k : Nat) (h : ¬ bits / 2 ^ k % 2 = 1) : turned bits (k + 1) = turned bits k := by
  show (if bits / 2 ^ k % 2 = 1 then _ else _) = _
  rw [if_neg h]
theorem laid_buf {w wr : World} {B : Nat} {X : List Nat} (HG : Aside0 (Laid w)) (h : Aside0 (Buf w B X wr)) : Laid wr := HG.out.below h.out.below
theorem sum_quiet (s : ByteArray) (w : World) (n : Nat) (hs : s.size ≤ 9223372036854775807) (hL : Laid w) :
    Calls Tryd.prog 21 #[.string s] (w.drewN n) fun e w'' => e = .returned (.int .i64 ((sumOf s.data.toList : Nat) : Int)) ∧ ∃ m, w'' = w.drewN m := by
  refine (sum_any s (w.drewN n) (by unfold maxLen; omega) (hL.below (pw_below_drewN (Below.refl _ _) n))).mono ?_
  rintro e w' ⟨rfl, rfl⟩
  refine ⟨?_, n, rfl⟩
  unfold sumOf
  rw [crc_eq, ← compl_u32 _ (crcN_lt _ (by intro x hx; obtain ⟨b, _, rfl⟩ := List.mem_map.1 hx; exact b.toNat_lt) _ (by decide))]
theorem crcN_str (X : List Nat) (h : ∀ x ∈ X, x < 256) : sumOf (strOfNums (X.map fun x : Nat => (x : Int))).data.toList = 4294967295 ^^^ crcN X 4294967295 := by
  unfold sumOf
  have := bytes_mk X h
  unfold bytes at this
  rw [this]
theorem crcN_bytes (p : ByteArray) : sumOf p.data.toList = 4294967295 ^^^ crcN (bytes p) 4294967295 := rfl
theorem fin_bool (b : Bool) (x y : Nat) (h : b = (x != y)) : (b == ((x : Int) != (y : Int))) = true := by
  subst h
  by_cases e : x = y
  · subst e; simp
  · have e2 : (x : Int) ≠ (y : Int) := by omega
    rw [bne_iff_ne.2 e, bne_iff_ne.2 e2]
    rfl
theorem bit_int (bits k : Nat) : (((bits : Int) / 2 ^ k).tmod 2) = ((bits / 2 ^ k % 2 : Nat) : Int) := by
  have e : ((bits : Int) / 2 ^ k) = ((bits / 2 ^ k : Nat) : Int) := by simp
  rw [e]
  generalize bits / 2 ^ k = q
  rw [Int.tmod_eq_emod_of_nonneg (by omega)]
  omega
theorem bit_yes (bits k : Nat) (h : bits / 2 ^ k % 2 = 1) : (((bits : Int) / 2 ^ k).tmod 2 == 1) = true := by
  rw [bit_int, h]; rfl
theorem bit_no (bits k : Nat) (h : ¬ bits / 2 ^ k % 2 = 1) : (((bits : Int) / 2 ^ k).tmod 2 == 1) = false := by
  rw [bit_int, show bits / 2 ^ k % 2 = 0 by omega]; rfl
set_option maxRecDepth 100000 in
set_option maxHeartbeats 4000000 in
theorem burst_long (s : ByteArray) (at_ : Int) (bits : Nat) (w : World) (HG : Aside0 (Laid w)) (hs : s.size ≤ 140737488351232) (ha : (Lit.int .i64 at_).wf = true) (hb : bits < 4294967296) (h1 : 1 ≤ s.size) (h2 : 1 ≤ bits) :
    Calls Tryd.prog 8 #[.string s, .int .i64 at_, .int .u32 bits] w fun e w' => e = .returned (.bool true) ∧ Below w.heap.size w w' := by
  obtain ⟨m, hm, hm1, hm2, hm3⟩ : ∃ m : Nat, (if 300 < (s.size : Int) then 300 else (s.size : Int)) = (m : Int) ∧ m ≤ s.size ∧ m ≤ 300 ∧ 1 ≤ m := ⟨min s.size 300, by split <;> omega, by omega, by omega, by omega⟩
  obtain ⟨p, hp⟩ : ∃ p, s.extract 0 m = p := ⟨_, rfl⟩
  have zp : p.size = m := by rw [← hp, ByteArray.size_extract]; omega
  have hpm := Aside0.mk zp
  obtain ⟨g0, g1⟩ := wf_i64 ha
  obtain ⟨start, es, s0, s1⟩ := pick_some at_ ((8 * m : Nat) : Int) g0 g1 (by omega)
  obtain ⟨start, rfl⟩ := Int.eq_ofNat_of_zero_le s0
  rw [show ((8 * m : Nat) : Int) = 8 * (m : Int) by omega] at es
  have ES := Aside0.mk es
  clear es s0 g0 g1
  have kb := fun W => print_bytes (P := Tryd.prog) 9 38 5 Tryd.underlying9 Tryd.underlying38 Tryd.underlying5 p W
  have t1 : ((m : Int) == 0) = false := by rw [beq_eq_false_iff_ne]; omega
  have t2 : ((bits : Int) == 0) = false := by rw [beq_eq_false_iff_ne]; omega
  go_enter Tryd.func8, Tryd.ntmps8
  go_upto_region 3 with (go_at_call 10; refine (sane.calls true _ HG rfl).mono ?_; rintro e w1 ⟨rfl, hb1⟩; have H1 := Aside0.mk (Buf.new hb1 p); have G1 := Aside0.mk (HG.out.below hb1); obtain ⟨W0, hW0⟩ : ∃ W, Lib.bytesWorld w1 5 p = W := ⟨_, rfl⟩; obtain ⟨B, hB⟩ : ∃ B, w1.heap.size = B := ⟨_, rfl⟩; obtain ⟨C, hC⟩ : ∃ C, grownCap w1 m 0 5 = C := ⟨_, rfl⟩)
  rw [hW0, hB] at H1
  have G2 : Aside0 (Laid W0) := Aside0.mk (HG.out.below H1.out.below)
  clear hW0 hC kb hm hb1 G1
  go_wp2_with (go_at_call 14; refine (Pr.yardsticklaw01_pick.calls at_ (8 * (m : Int)) start _ ES.out).mono ?_; rintro e w' ⟨rfl, ⟨nd, rfl⟩⟩)
  have HD : Aside0 (Buf w B (bytes p) (W0.drewN nd)) := Aside0.mk (H1.out.drewN nd)
  have GD : Aside0 (Laid (W0.drewN nd)) := Aside0.mk (G2.out.below (pw_below_drewN (Below.refl _ _) nd))
  clear H1 G2
  generalize W0.drewN nd = W1 at *
  have hlen : Aside0 ((bytes p).length = m) := Aside0.mk (by rw [bytes_len]; exact zp)
  clear hpm ES ha
  go_loopw [10, 11] (fun ch i wr => ∃ k : Nat, k ≤ 32 ∧ i = .int .i64 (k : Nat) ∧ start + k ≤ 8 * m ∧ Aside0 (ch = .bool (turned bits k)) ∧ Aside0 (Buf w B (burst (bytes p) bits start k) wr))
    (fun _ i _ => 32 - (intOf i).toNat)
  case atStart => exact ⟨0, by omega, rfl, by omega, ⟨rfl⟩, HD⟩
  case round =>
    obtain ⟨k, hk, rfl, hsk, hch, hbuf⟩ := hrel
    by_cases hgo : k < 32 ∧ start + k < 8 * m
    · obtain ⟨hk2, hs2⟩ := hgo
      have hj : (start + k) / 8 < (burst (bytes p) bits start k).length := by rw [burst_len, hlen.out]; omega
      obtain ⟨v, hv⟩ : ∃ v, (burst (bytes p) bits start k)[(start + k) / 8]? = some v := ⟨_, List.getElem?_eq_getElem hj⟩
      have hc := hbuf.out.cell _ _ hv
      have hf := hbuf.out.free _ hj
      have ej : (((start : Int) + (k : Int)) / 8).toNat = (start + k) / 8 := by omega
      by_cases hbit : bits / 2 ^ k % 2 = 1
      · have hbt := bit_yes bits k hbit
        have hn := Aside0.mk (burst_step hbuf.out hv hj (Nat.lt_of_lt_of_le (buf_byte hv) (Nat.le_refl _)) hbit)
        have hnt := Aside0.mk (turned_yes bits k hbit)
        go_wp2
        go_region
        go_wp2
        go_roundw
        case rel => exact ⟨k + 1, by omega, by go_num, by omega, ⟨by rw [hnt.out]⟩, ⟨hn.out⟩⟩
        case measure => simp [intOf]; omega
      · have hbt := bit_no bits k hbit
        have hn := Aside0.mk (burst_none (bytes p) bits start k hbit)
        have hnt := Aside0.mk (turned_no bits k hbit)
        go_wp2
        go_roundw
        case rel => exact ⟨k + 1, by omega, by go_num, by omega, ⟨by rw [hnt.out]; exact hch.out⟩, ⟨by rw [hn.out]; exact hbuf.out⟩⟩
        case measure => simp [intOf]; omega
    · have hx := bytes_lt p
      have hk2 : start + k ≤ 8 * (bytes p).length := by rw [hlen.out]; exact hsk
      have hs := burst_sum (bytes p) hx bits start k hk hk2
      have hX := burst_lt (bytes p) hx bits start k
      have hXl : (burst (bytes p) bits start k).length = m := by rw [burst_len, hlen.out]
      have hcell := hbuf.out.cell
      have GK := laid_buf HG hbuf
      generalize burst (bytes p) bits start k = X at *
      have hcv : ∀ n, (convert 38 9 (.slice (some ⟨B, 0, none⟩) m C)).run Tryd.prog (wr.drewN n) = .ok (.string (strOfNums (X.map fun x : Nat => (x : Int)))) (wr.drewN n) := by
        intro n
        refine run_convert_bytes_arg (P := Tryd.prog) (w := wr.drewN n) 38 5 Tryd.underlying38 Tryd.underlying5 B 0 m C (X.map fun x : Nat => (x : Int)) (by simp [hXl]) (fun i hi => ?_) 9 Tryd.underlying9
        have := hcell i X[i] (List.getElem?_eq_getElem (by omega))
        rw [Nat.zero_add, List.getD_eq_getElem?_getD, List.getElem?_map, List.getElem?_eq_getElem (by omega)]
        exact this
      have hq1 := fun n => sum_quiet (strOfNums (X.map fun x : Nat => (x : Int))) wr n (by rw [strOfNums_size, List.length_map]; omega) GK
      have hq2 := fun n => sum_quiet p wr n (by omega) GK
      rw [← crcN_str X hX, ← crcN_bytes p] at hs
      have hbool := hch.out
      subst hbool
      have hfin := fin_bool _ _ _ hs
      have HQ1 := Aside0.mk hq1
      have HQ2 := Aside0.mk hq2
      generalize strOfNums (X.map fun x : Nat => (x : Int)) = r at *
      generalize ((sumOf r.data.toList : Nat) : Int) = v1 at *
      generalize ((sumOf p.data.toList : Nat) : Int) = v2 at *
      generalize turned bits k = tb at *
      clear hq1 hq2 hs hch hcell hX hXl hx hk2
      have BB := Aside0.mk hbuf.out.below
      clear hbuf GK
      by_cases hk32 : k < 32
      · have hge : ¬ ((start : Int) + (k : Int) < 8 * (m : Int)) := by omega
        go_wp2
        go_quiet ((first | (go_at_call 21; with_reducible exact HQ1.out _) | (go_at_call 21; with_reducible exact HQ2.out _)))
        go_wp2
        go_ret
        exact ⟨rfl, pw_below_drewN BB.out _⟩
      · obtain rfl : k = 32 := by omega
        go_wp2
        go_quiet ((first | (go_at_call 21; with_reducible exact HQ1.out _) | (go_at_call 21; with_reducible exact HQ2.out _)))
        go_wp2
        go_ret
        exact ⟨rfl, pw_below_drewN BB.out _⟩

set_option maxRecDepth 100000 in
set_option maxHeartbeats 4000000 in
theorem burst_empty (s : ByteArray) (at_ : Int) (bits : Nat) (w : World) (HG : Aside0 (Laid w)) (h0 : s.size = 0) :
    Calls Tryd.prog 8 #[.string s, .int .i64 at_, .int .u32 bits] w fun e w' => e = .returned (.bool true) ∧ Below w.heap.size w w' := by
  have hm : ¬ (300 < (s.size : Int)) := by omega
  have kb := fun W => print_bytes (P := Tryd.prog) 9 38 5 Tryd.underlying9 Tryd.underlying38 Tryd.underlying5 s W
  have t1 : ((s.size : Int) == 0) = true := by rw [beq_iff_eq]; omega
  have hz : s.size < 1 := by omega
  clear h0
  go_enter Tryd.func8, Tryd.ntmps8
  go_wp2_with (go_at_call 10; refine (sane.calls true _ HG rfl).mono ?_; rintro e w1 ⟨rfl, hb1⟩; have H1 := Aside0.mk (bytes_below hb1 hb1.size 5 s); obtain ⟨W0, hW0⟩ : ∃ W, Lib.bytesWorld w1 5 s = W := ⟨_, rfl⟩)
  rw [hW0] at H1
  go_ret
  exact ⟨rfl, H1.out⟩

set_option maxRecDepth 100000 in
set_option maxHeartbeats 4000000 in
theorem burst_none0 (s : ByteArray) (at_ : Int) (w : World) (HG : Aside0 (Laid w)) (h0 : 1 ≤ s.size) :
    Calls Tryd.prog 8 #[.string s, .int .i64 at_, .int .u32 0] w fun e w' => e = .returned (.bool true) ∧ Below w.heap.size w w' := by
  obtain ⟨m, hm, hm1, hm2, hm3⟩ : ∃ m : Nat, (if 300 < (s.size : Int) then 300 else (s.size : Int)) = (m : Int) ∧ m ≤ s.size ∧ m ≤ 300 ∧ 1 ≤ m := ⟨min s.size 300, by split <;> omega, by omega, by omega, by omega⟩
  obtain ⟨p, hp⟩ : ∃ p, s.extract 0 m = p := ⟨_, rfl⟩
  have zp : p.size = m := by rw [← hp, ByteArray.size_extract]; omega
  have kb := fun W => print_bytes (P := Tryd.prog) 9 38 5 Tryd.underlying9 Tryd.underlying38 Tryd.underlying5 p W
  have t1 : ((m : Int) == 0) = false := by rw [beq_eq_false_iff_ne]; omega
  go_enter Tryd.func8, Tryd.ntmps8
  go_wp2_with (go_at_call 10; refine (sane.calls true _ HG rfl).mono ?_; rintro e w1 ⟨rfl, hb1⟩; have H1 := Aside0.mk (bytes_below hb1 hb1.size 5 p); obtain ⟨W0, hW0⟩ : ∃ W, Lib.bytesWorld w1 5 p = W := ⟨_, rfl⟩)
  rw [hW0] at H1
  go_ret
  exact ⟨rfl, H1.out⟩

theorem walkBurst (s : ByteArray) (at_ bits : Int) (w : World) (HG : Aside0 (Laid w)) (hs : s.size ≤ 140737488351232) (ha : (Lit.int .i64 at_).wf = true) (hb : (Lit.int .u32 bits).wf = true) :
    Calls Tryd.prog 8 #[.string s, .int .i64 at_, .int .u32 bits] w fun e w' => e = .returned (.bool true) ∧ Below w.heap.size w w' := by
  obtain ⟨b0, b1⟩ : 0 ≤ bits ∧ bits ≤ 4294967295 := by simpa [Lit.wf, IntKind.min, IntKind.max, IntKind.signed, IntKind.bits] using hb
  obtain ⟨n, rfl⟩ := Int.eq_ofNat_of_zero_le b0
  by_cases h0 : s.size = 0
  · exact burst_empty s at_ n w HG h0
  · by_cases h2 : n = 0
    · subst h2
      exact burst_none0 s at_ w HG (by omega)
    · exact burst_long s at_ n w HG hs ha (by omega) (by omega) (by omega)
end Go.Proofs.YtffalfonmooinaaDoor
