/- DigestChainBinding answers true: parts of the proof, merged. -/
import Derived.Test.YtabjfogmcehemaaDoorChainLaw6

section
namespace Go.Proofs.YtabjfogmcehemaaDoor.Pure
open Go.RowKit Tree Go.Proofs.YtabjfogmcehemaaDoorW.PrintWords Go.Proofs.YtabjfogmcehemaaDoorW.PrintLast Go.Proofs.YtabjfogmcehemaaDoorW.PrintMore
set_option linter.unusedVariables false
set_option linter.unusedSimpArgs false
theorem collide2_l0 (a b : List ByteArray) (ha : a.length ≤ 1000) (hb : b.length ≤ 1000) (sa : ∀ x ∈ a, x.size ≤ 1000) (sb : ∀ x ∈ b, x.size ≤ 1000)
    (j : Nat) (x y : ByteArray) (hx : a[j]? = some x) (hy : b[j]? = some y) (hne : x ≠ y) (hs : sumF x = sumF y) : ∀ (d f i : Nat), i + d = j → 2 * d + 2 ≤ f → Pi.w_collide.l0 f a b (i : Int) = some true := by
  have la := (List.getElem?_eq_some_iff.1 hx).1
  have lb := (List.getElem?_eq_some_iff.1 hy).1
  intro d
  induction d with
  | zero =>
    intro f i hi hf
    obtain ⟨f, rfl⟩ : ∃ g, f = g + 1 + 1 := ⟨f - 2, by omega⟩
    obtain rfl : i = j := by omega
    simp only [Pi.w_collide.l0, Pi.w_collide.j1]
    rw [if_pos (by omega), decide_eq_true (by omega : (i : Int) < (b.length : Int)), if_pos rfl, if_pos (by omega), if_pos (by omega), if_pos (by omega), rdOf_nat a i x hx, rdOf_nat b i y hy, if_neg (fun h => hne (toList_inj h)),
      Sum_f x (sa x (List.mem_of_getElem? hx)), Sum_f y (sb y (List.mem_of_getElem? hy))]
    simp only [Option.bind_some]
    rw [if_pos (by rw [hs])]
  | succ d ih =>
    intro f i hi hf
    obtain ⟨f, rfl⟩ : ∃ g, f = g + 1 + 1 := ⟨f - 2, by omega⟩
    have gx : a[i]? = some a[i] := List.getElem?_eq_getElem (by omega)
    have gy : b[i]? = some b[i] := List.getElem?_eq_getElem (by omega)
    have hn := ih f (i + 1) (by omega) (by omega)
    simp only [Pi.w_collide.l0, Pi.w_collide.j1]
    rw [if_pos (by omega), decide_eq_true (by omega : (i : Int) < (b.length : Int)), if_pos rfl, if_pos (by omega), if_pos (by omega), if_pos (by omega), rdOf_nat a i _ gx, rdOf_nat b i _ gy, wsm _ (by omega) (by omega)]
    split
    · exact hn
    · rw [Sum_f _ (sa _ (List.mem_of_getElem? gx)), Sum_f _ (sb _ (List.mem_of_getElem? gy))]
      simp only [Option.bind_some]
      split
      · rfl
      · exact hn
theorem collide2_f {a b : List ByteArray} (h : Coll a b) (ha : a.length ≤ 1000) (hb : b.length ≤ 1000) (sa : ∀ x ∈ a, x.size ≤ 1000) (sb : ∀ x ∈ b, x.size ≤ 1000) (f : Nat) (hf : 2100 ≤ f) : Pi.w_collide.f f a b = some true := by
  obtain ⟨j, x, y, hx, hy, hne, hs⟩ := h
  have la := (List.getElem?_eq_some_iff.1 hx).1
  exact collide2_l0 a b ha hb sa sb j x y hx hy hne hs j f 0 (by omega) (by omega)
def zero32 : ByteArray := strOfNums (List.replicate 32 0)
theorem zero32_size : zero32.size = 32 := by unfold zero32; rw [strOfNums_size]; rfl
def chainIn (a b : ByteArray) : ByteArray := (⟨#[2]⟩ : ByteArray) ++ a ++ b
theorem chainIn_inj {a b c d : ByteArray} (h : chainIn a b = chainIn c d) (hs : a.size = c.size) : a = c ∧ b = d := by
  unfold chainIn at h
  obtain ⟨h1, h2⟩ := app_inj h (by rw [ByteArray.size_append, ByteArray.size_append, hs])
  exact ⟨(app_inj h1 rfl).2, h2⟩
theorem chainIn_size (a b : ByteArray) (ha : a.size = 32) (hb : b.size ≤ 60) : (chainIn a b).size ≤ 93 := by unfold chainIn; rw [ByteArray.size_append, ByteArray.size_append, ha]; show 1 + 32 + _ ≤ _; omega
def headR : List ByteArray → ByteArray
  | [] => zero32
  | s :: l => chainB (headR l) s
def strsR : List ByteArray → List ByteArray
  | [] => []
  | s :: l => chainIn (headR l) s :: strsR l
theorem headR_size (l : List ByteArray) : (headR l).size = 32 := by
  cases l with
  | nil => exact zero32_size
  | cons s l => exact chainB_size _ _
theorem strsR_len (l : List ByteArray) : (strsR l).length = l.length := by
  induction l with
  | nil => rfl
  | cons s l ih => simp only [strsR, List.length_cons, ih]
theorem strsR_sizes (l : List ByteArray) (h : ∀ x ∈ l, x.size ≤ 60) : ∀ x ∈ strsR l, x.size ≤ 1000 := by
  induction l with
  | nil => intro x hx; cases hx
  | cons s l ih =>
    intro x hx
    simp only [strsR] at hx
    rcases List.mem_cons.1 hx with rfl | hx
    · have := chainIn_size (headR l) s (headR_size l) (h s (by simp)); omega
    · exact ih (fun y hy => h y (by simp [hy])) x hx
theorem head_coll : ∀ (A B : List ByteArray), headR A = headR B → A ≠ B →
    Coll (strsR A) (strsR B) ∨ (A.length ≠ B.length ∧ ∃ x, (if A.length < B.length then strsR B else strsR A)[min A.length B.length]? = some x ∧ sumF x = zero32) := by
  intro A
  induction A with
  | nil =>
    intro B h hne
    cases B with
    | nil => exact absurd rfl hne
    | cons t B =>
      refine .inr ⟨by simp, chainIn (headR B) t, ?_, h.symm⟩
      rw [if_pos (by simp)]
      simp [strsR]
  | cons s A ih =>
    intro B h hne
    cases B with
    | nil =>
      refine .inr ⟨by simp, chainIn (headR A) s, ?_, h⟩
      rw [if_neg (by simp)]
      simp [strsR]
    | cons t B =>
      by_cases he : chainIn (headR A) s = chainIn (headR B) t
      · obtain ⟨h1, rfl⟩ := chainIn_inj he (by rw [headR_size, headR_size])
        rcases ih B h1 (fun e => hne (by rw [e])) with hc | ⟨h2, x, h3, h4⟩
        · exact .inl (Coll.tail hc)
        · refine .inr ⟨by simpa using h2, x, ?_, h4⟩
          simp only [List.length_cons, strsR, Nat.add_lt_add_iff_right]
          rw [show min (A.length + 1) (B.length + 1) = min A.length B.length + 1 by omega]
          by_cases hl : A.length < B.length
          · rw [if_pos hl] at h3 ⊢
            simpa using h3
          · rw [if_neg hl] at h3 ⊢
            simpa using h3
      · exact .inl (Coll.head he h)
theorem heads_l0 (l : List ByteArray) (hl : l.length ≤ 1000) (hs : ∀ x ∈ l, x.size ≤ 60) : ∀ (d f i : Nat), i + d = l.length → d < f → Pi.w_heads.l0 f l (headR (l.take i).reverse) (strsR (l.take i).reverse) (i : Int) = some (strsR l.reverse, headR l.reverse) := by
  intro d
  induction d with
  | zero =>
    intro f i hi hf
    obtain ⟨f, rfl⟩ : ∃ g, f = g + 1 := ⟨f - 1, by omega⟩
    simp only [Pi.w_heads.l0]
    rw [if_neg (by omega), List.take_of_length_le (by omega)]
  | succ d ih =>
    intro f i hi hf
    obtain ⟨f, rfl⟩ : ∃ g, f = g + 1 := ⟨f - 1, by omega⟩
    have hn := ih f (i + 1) (by omega) (by omega)
    have hx : l[i]? = some l[i] := List.getElem?_eq_getElem (by omega)
    have hz := hs _ (List.mem_of_getElem? hx)
    have e : (l.take (i + 1)).reverse = l[i] :: (l.take i).reverse := by
      rw [List.take_add_one, hx]
      simp
    rw [e] at hn
    simp only [headR, strsR] at hn
    have z1 := headR_size (l.take i).reverse
    have z2 := strsR_len (l.take i).reverse
    rw [List.length_reverse, List.length_take] at z2
    simp only [Pi.w_heads.l0]
    rw [if_pos (by omega), if_pos (by omega), if_pos (by omega), rdOf_nat l i _ hx, if_pos (by rw [ByteArray.size_append, z1]; show 1 + 32 + _ ≤ _; omega), Option.bind_some, if_pos (by rw [List.length_singleton, z2]; omega)]
    have ec : digest_Chain.f (headR (l.take i).reverse) l[i] = some (chainB (headR (l.take i).reverse) l[i]) := by unfold digest_Chain.f; rw [if_pos (by omega)]
    rw [ec, Option.bind_some, wsm _ (by omega) (by omega)]
    exact hn
theorem heads_f (l : List ByteArray) (hl : l.length ≤ 1000) (hs : ∀ x ∈ l, x.size ≤ 60) (f : Nat) (hf : 1001 ≤ f) : Pi.w_heads.f f l = some (strsR l.reverse, headR l.reverse) := by
  unfold Pi.w_heads.f
  rw [if_pos (by decide)]
  exact heads_l0 l hl hs l.length f 0 (by omega) (by omega)
end Go.Proofs.YtabjfogmcehemaaDoor.Pure
end

section
namespace Go.Proofs.YtabjfogmcehemaaDoor.Pure
open Go.RowKit Tree Go.Proofs.YtabjfogmcehemaaDoorW.PrintWords Go.Proofs.YtabjfogmcehemaaDoorW.PrintLast Go.Proofs.YtabjfogmcehemaaDoorW.PrintMore
set_option linter.unusedVariables false
set_option linter.unusedSimpArgs false
theorem same2_l0 (a b : List ByteArray) (hab : a.length = b.length) (hl : a.length ≤ 1000) : ∀ (d f i : Nat), i + d = a.length → d < f → ∃ r, Pa.r_Same.l0 f a b (i : Int) = some r ∧ (r = true ↔ a.drop i = b.drop i) := by
  intro d
  induction d with
  | zero =>
    intro f i hi hf
    obtain ⟨f, rfl⟩ : ∃ g, f = g + 1 := ⟨f - 1, by omega⟩
    simp only [Pa.r_Same.l0]
    rw [if_neg (by omega), List.drop_eq_nil_of_le (by omega), List.drop_eq_nil_of_le (by omega)]
    exact ⟨true, rfl, by simp⟩
  | succ d ih =>
    intro f i hi hf
    obtain ⟨f, rfl⟩ : ∃ g, f = g + 1 := ⟨f - 1, by omega⟩
    have gx : a[i]? = some a[i] := List.getElem?_eq_getElem (by omega)
    have gy : b[i]? = some b[i] := List.getElem?_eq_getElem (by omega)
    obtain ⟨r, h1, h2⟩ := ih f (i + 1) (by omega) (by omega)
    simp only [Pa.r_Same.l0]
    rw [if_pos (by omega), if_pos (by omega), if_pos (by omega), rdOf_nat a i _ gx, rdOf_nat b i _ gy, wsm _ (by omega) (by omega)]
    rw [List.drop_eq_getElem_cons (show i < a.length by omega), List.drop_eq_getElem_cons (show i < b.length by omega)]
    by_cases he : a[i] = b[i]
    · rw [if_pos (by rw [he])]
      exact ⟨r, h1, by rw [h2, he]; exact ⟨fun e => by rw [e], fun e => (List.cons.inj e).2⟩⟩
    · rw [if_neg (fun h => he (toList_inj h))]
      exact ⟨false, rfl, ⟨fun h => (by cases h), fun e => absurd (List.cons.inj e).1 he⟩⟩
theorem same2_f (a b : List ByteArray) (hl : a.length ≤ 1000) (f : Nat) (hf : 1001 ≤ f) : ∃ r, Pa.r_Same.f f a b = some r ∧ (r = true ↔ a = b) := by
  unfold Pa.r_Same.f
  by_cases h : a.length = b.length
  · rw [if_pos (by omega)]
    have := same2_l0 a b h hl a.length f 0 (by omega) (by omega)
    simpa using this
  · rw [if_neg (by omega)]
    exact ⟨false, rfl, by simp; intro e; exact h (by rw [e])⟩
theorem collide_any (a b : List ByteArray) (ha : a.length ≤ 1000) (hb : b.length ≤ 1000) (sa : ∀ x ∈ a, x.size ≤ 1000) (sb : ∀ x ∈ b, x.size ≤ 1000) : ∀ (d f i : Nat), i + d = a.length → 2 * d + 2 ≤ f → ∃ r, Pi.w_collide.l0 f a b (i : Int) = some r := by
  intro d
  induction d with
  | zero =>
    intro f i hi hf
    obtain ⟨f, rfl⟩ : ∃ g, f = g + 1 + 1 := ⟨f - 2, by omega⟩
    simp only [Pi.w_collide.l0, Pi.w_collide.j1]
    rw [if_neg (by omega), if_neg (by decide)]
    exact ⟨_, rfl⟩
  | succ d ih =>
    intro f i hi hf
    obtain ⟨f, rfl⟩ : ∃ g, f = g + 1 + 1 := ⟨f - 2, by omega⟩
    obtain ⟨r, hn⟩ := ih f (i + 1) (by omega) (by omega)
    simp only [Pi.w_collide.l0, Pi.w_collide.j1]
    rw [if_pos (by omega)]
    by_cases hb2 : (i : Int) < (b.length : Int)
    · have gx : a[i]? = some a[i] := List.getElem?_eq_getElem (by omega)
      have gy : b[i]? = some b[i] := List.getElem?_eq_getElem (by omega)
      rw [decide_eq_true hb2, if_pos rfl, if_pos (by omega), if_pos (by omega), if_pos hb2, rdOf_nat a i _ gx, rdOf_nat b i _ gy, wsm _ (by omega) (by omega)]
      split
      · exact ⟨r, hn⟩
      · rw [Sum_f _ (sa _ (List.mem_of_getElem? gx)), Sum_f _ (sb _ (List.mem_of_getElem? gy)), Option.bind_some, Option.bind_some]
        split
        · exact ⟨_, rfl⟩
        · exact ⟨r, hn⟩
    · rw [decide_eq_false hb2, if_neg (by decide)]
      exact ⟨_, rfl⟩
theorem zero_eq : (strOfNums (List.replicate 32 0)) = zero32 := rfl
theorem DigestChainBinding (l0 l1 : List ByteArray) (h0 : l0.length ≤ 9223372036854775807) (h1 : l1.length ≤ 9223372036854775807) : ∃ k, Pi.w_DigestChainBinding.f k l0 l1 = some true := by
  obtain ⟨F, hF⟩ : ∃ F : Nat, F = 3000 := ⟨_, rfl⟩
  refine ⟨F + 1 + 1, ?_⟩
  unfold Pi.w_DigestChainBinding.f w_sane.f
  have f0 := few_f l0 h0 20 (by omega) (F + 1 + 1) (by omega)
  have f1 := few_f l1 h1 20 (by omega) (F + 1 + 1) (by omega)
  rw [show ((20 : Nat) : Int) = 20 from rfl] at f0 f1
  have n0 := fewL_len 20 l0
  have n1 := fewL_len 20 l1
  have s0 := fewL_size 20 l0
  have s1 := fewL_size 20 l1
  rw [f0, f1, Option.bind_some, Option.bind_some, Option.bind_some]
  generalize fewL 20 l0 = a at *
  generalize fewL 20 l1 = b at *
  obtain ⟨r, hr, hr2⟩ := same2_f a b (by omega) (F + 1 + 1) (by omega)
  rw [heads_f a (by omega) s0 (F + 1 + 1) (by omega), heads_f b (by omega) s1 (F + 1 + 1) (by omega), Option.bind_some, Option.bind_some, hr, Option.bind_some]
  have za := headR_size a.reverse
  have zb := headR_size b.reverse
  have la := strsR_len a.reverse
  have lb := strsR_len b.reverse
  rw [List.length_reverse] at la lb
  have ra := strsR_sizes a.reverse (fun x hx => s0 x (List.mem_reverse.1 hx))
  have rb := strsR_sizes b.reverse (fun x hx => s1 x (List.mem_reverse.1 hx))
  rw [if_pos (by dsimp only; omega)]
  dsimp only
  by_cases hab : a = b
  · have hrt : r = true := hr2.2 hab
    subst hrt
    subst hab
    rw [if_pos rfl]
    simp only [Pi.w_DigestChainBinding.j0, Pi.w_DigestChainBinding.j1]
    rw [show ((headR a.reverse).toList != (headR a.reverse).toList) = false from bne_self_eq_false _, if_neg (by decide), if_pos trivial, if_pos trivial]
  · have hrf : r = false := by
      cases r with
      | false => rfl
      | true => exact absurd (hr2.1 rfl) hab
    subst hrf
    rw [if_neg (show ¬ (false = true) by decide)]
    simp only [Pi.w_DigestChainBinding.j0, Pi.w_DigestChainBinding.j1]
    rw [if_neg (show ¬ (false = true) by decide), if_neg (show ¬ (false = true) by decide)]
    by_cases hh : headR a.reverse = headR b.reverse
    · rw [hh, show ((headR b.reverse).toList != (headR b.reverse).toList) = false from bne_self_eq_false _, if_neg (show ¬ (false = true) by decide)]
      have hne : a.reverse ≠ b.reverse := fun e => hab (by have := congrArg List.reverse e; rwa [List.reverse_reverse, List.reverse_reverse] at this)
      obtain ⟨c, hc⟩ := collide_any (strsR a.reverse) (strsR b.reverse) (by omega) (by omega) ra rb (strsR a.reverse).length F 0 (by omega) (by omega)
      have hcf : Pi.w_collide.f F (strsR a.reverse) (strsR b.reverse) = some c := hc
      have key := head_coll a.reverse b.reverse hh hne
      rw [List.length_reverse, List.length_reverse] at key
      have hcoll : Coll (strsR a.reverse) (strsR b.reverse) → c = true := fun h => by
        have := collide2_f h (by omega) (by omega) ra rb F (by omega)
        rw [hcf] at this
        exact Option.some.inj this
      generalize strsR a.reverse = A at *
      generalize strsR b.reverse = B at *
      have hmn : mn (A.length : Int) (B.length : Int) = ((min a.length b.length : Nat) : Int) := by unfold mn; split <;> omega
      rw [hmn, zero_eq]
      by_cases hgt : (B.length : Int) > (A.length : Int)
      · rw [if_pos hgt, if_neg (by omega), if_pos (by omega), if_pos (by omega)]
        have gx : B[min a.length b.length]? = some B[min a.length b.length] := List.getElem?_eq_getElem (by omega)
        rw [rdOf_nat B _ _ gx, Sum_f _ (rb _ (List.mem_of_getElem? gx)), Option.bind_some, if_pos (by decide), if_pos trivial, hcf, Option.bind_some]
        rcases key with h | ⟨_, x, h3, h4⟩
        · rw [hcoll h, if_pos rfl]
        · rw [if_pos (by omega), gx] at h3
          rw [Option.some.inj h3, h4, beq_self_eq_true]
          split <;> rfl
      · rw [if_neg hgt]
        by_cases heq : (A.length : Int) = (B.length : Int)
        · rw [if_pos heq, if_pos trivial, hcf, Option.bind_some]
          rcases key with h | ⟨h2, _⟩
          · rw [hcoll h, if_pos rfl]
          · omega
        · rw [if_neg heq, if_pos (by omega), if_pos (by omega)]
          have gx : A[min a.length b.length]? = some A[min a.length b.length] := List.getElem?_eq_getElem (by omega)
          rw [rdOf_nat A _ _ gx, Sum_f _ (ra _ (List.mem_of_getElem? gx)), Option.bind_some, if_pos (by decide), if_pos trivial, hcf, Option.bind_some]
          rcases key with h | ⟨_, x, h3, h4⟩
          · rw [hcoll h, if_pos rfl]
          · rw [if_neg (by omega), gx] at h3
            rw [Option.some.inj h3, h4, beq_self_eq_true]
            split <;> rfl
    · rw [show ((headR a.reverse).toList != (headR b.reverse).toList) = true from by rw [bne_iff_ne]; exact fun h => hh (toList_inj h), if_pos rfl]
end Go.Proofs.YtabjfogmcehemaaDoor.Pure
end

section
namespace Go.Proofs.YtabjfogmcehemaaDoor
open Go Go.RowKit Go.Proofs.YtabjfogmcehemaaDoorW.PrintWords
set_option linter.unusedVariables false
set_option linter.unusedSimpArgs false
def StrsAt (w : World) (a : Option Addr) (len cap : Nat) (zs : List ByteArray) : Prop :=
  (a = none ∧ len = 0 ∧ cap = 0 ∧ zs = []) ∨ ∃ x, a = some x ∧ len ≤ cap ∧ cap ≤ maxLen ∧ zs.length = cap ∧ (∀ i, i < zs.length → w.cell? (x.add i) = some (.string (zs.getD i ByteArray.empty))) ∧ ∀ s ∈ zs, s.size ≤ maxLen
theorem StrsAt.reads {w : World} {a : Option Addr} {len cap : Nat} {zs : List ByteArray} (h : StrsAt w a len cap zs) :
    ∃ l : List ByteArray, len = l.length ∧ Kd.C Kd.string w a l.length l ∧ l.length ≤ maxLen ∧ (∀ s ∈ l, s.size ≤ maxLen) ∧ l.length ≤ cap := by
  rcases h with ⟨rfl, rfl, rfl, rfl⟩ | ⟨x, rfl, hl, hm, hz, hc, hs⟩
  · exact ⟨[], rfl, Kd.C_of_reads (d := ByteArray.empty) (h1 := fun _ => rfl) ⟨rfl, by decide, fun h => absurd h (by decide)⟩, by decide, by simp, by decide⟩
  · have e : (zs.take len).length = len := by rw [List.length_take]; omega
    refine ⟨zs.take len, e.symm, Kd.C_of_reads (d := ByteArray.empty) (h1 := fun _ => rfl) ⟨rfl, ?_, fun _ => ⟨x, rfl, fun j hj => ?_⟩⟩, by omega, fun s hs' => hs s (List.mem_of_mem_take hs'), by omega⟩
    · unfold maxLen at hm; omega
    · rw [hc j (by omega)]
      rw [List.getD_eq_getElem?_getD, List.getD_eq_getElem?_getD, List.getElem?_take_of_lt (by omega)]
end Go.Proofs.YtabjfogmcehemaaDoor
end

section
namespace Go.Proofs.YtabjfogmcehemaaDoor
open Go Go.RowKit Go.Proofs.YtabjfogmcehemaaDoorW.PrintWords
set_option linter.unusedVariables false
theorem walkChain (a0 : Option Addr) (len0 cap0 : Nat) (z0 : List ByteArray) (a1 : Option Addr) (len1 cap1 : Nat) (z1 : List ByteArray) (w : World) (HG : Aside0 (Laid w)) (w0 : StrsAt w a0 len0 cap0 z0) (w1 : StrsAt w a1 len1 cap1 z1) :
    Calls Tryd.prog 11 #[.slice a0 len0 cap0, .slice a1 len1 cap1] w fun e w' => e = .returned (.bool true) ∧ Below w.heap.size w w' := by
  obtain ⟨l0, rfl, hr0, hm0, hw0, hc0⟩ := w0.reads
  obtain ⟨l1, rfl, hr1, hm1, hw1, hc1⟩ := w1.reads
  unfold maxLen at hm0 hm1
  obtain ⟨k, h⟩ := Pure.DigestChainBinding l0 l1 (by omega) (by omega)
  exact Pi.w_DigestChainBinding.calls k a0 cap0 l0 a1 cap1 l1 true w HG hr0 hc0 hr1 hc1 h
end Go.Proofs.YtabjfogmcehemaaDoor
end

section
namespace Go.Proofs.YtabjfogmcehemaaDoor.rowDigestChainBinding
open Go Go.ChangeShapes Go.WideShapes Go.ChangeAt Go.RowKit
open Go.ChangeMaps (open_string shut_string)
set_option linter.unusedVariables false
set_option linter.unusedSimpArgs false
set_option maxRecDepth 100000 in
theorem lifted (os : Os) (started : os.Started) (H : Type) (enc : TypeId × Value → H) :
    ReturnsInHanded {} Tryd.checked os 11 .any (fun w args => (Rows.digestChainBindingSpec.pre enc Tryd.prog Tryd.f11 [] false w args ∧ laidMetH Tryd.prog laidL w) ∧ sizedMet enc Tryd.prog Tryd.f11 (OpenSpec.ofChange Rows.digestChainBindingSpec) false w args)
      (Rows.digestChainBindingSpec.post enc Tryd.prog Tryd.f11 false true false false) := by
  refine returnsInHanded_of_change_and (C := Tryd.checked) (X := fun w _ => laidMetH Tryd.prog laidL w) (fun _ _ _ hh h => h.of_heap hh) own started (by kernel_rfl) Tryd.func11
    (ChangeSpec.witness_shaped (enc := enc) (C := Tryd.checked) (os := os) (X := fun w _ => laidMetH Tryd.prog laidL w) false (World.doorLaid Tryd.prog doorSteps os) #[.slice none 0 0, .slice none 0 0] 8 rfl (World.shaped_of_RefB (by kernel_rfl) (by kernel_rfl)) (by kernel_rfl) (by kernel_rfl) (by kernel_rfl) (door_met os _)) ?_
  intro W base args ds gs before hval0 hW hcnd hsz0 hL _
  have hsz : (DataW.weightsEach Tryd.prog (Tryd.f11.params.toList ++ Rows.digestChainBindingSpec.plain.varTypes Tryd.prog) (ds ++ gs)).all (· ≤ reachBytes) = true := hsz0
  have hval : ∀ (j : Nat) t v, Tryd.f11.params[j]? = some t → args[j]? = some v → Value.okWide Tryd.prog W .any base t v := hval0
  have hW' := hW
  obtain ⟨p, q, hA0, hV, rfl, hfz, hnd⟩ := hW
  have hA : DataW.TrodAll enc Tryd.prog W 0 (fun _ => true) true Tryd.f11.params.toList args.toList ds p := hA0
  rw [Tryd.params11] at hA hval hsz
  obtain ⟨v0, vs0, d0, ds0, p0, q0, hargs, rfl, rfl, h0, r0⟩ := trodAll_cons hA
  obtain ⟨v1, vs1, d1, ds1, p1, q1, rfl, rfl, rfl, h1, r1⟩ := trodAll_cons r0
  obtain ⟨rfl, rfl, rfl⟩ := trodAll_nil r1
  obtain rfl : args = #[v0, v1] := by cases args; simp_all
  obtain ⟨rfl, rfl⟩ := trodVars_none hV
  obtain ⟨a0, len0, cap0, rfl⟩ := okWide_slice Tryd.underlying22 (hval 0 22 v0 rfl rfl)
  have k0 := h0
  have lt0 : ∀ x ∈ p0, x.block < W.heap.size := by obtain ⟨m, hm⟩ := k0; exact DataW.trod_lt m _ _ _ hm
  obtain ⟨z0, w0⟩ : ∃ zs, StrsAt W a0 len0 cap0 zs := by
    obtain ⟨fuel, hf⟩ := h0
    rcases open_strings Tryd.underlying22 Tryd.underlying9 (by kernel_rfl) hf with ⟨hcs, _⟩ | ⟨x, l, c, zs, hcs, _, hl, hm, hz, _, hcell, hwz⟩
    · simp [Value.cells] at hcs
      obtain ⟨rfl, rfl, rfl⟩ := hcs
      exact ⟨[], .inl ⟨rfl, rfl, rfl, rfl⟩⟩
    · simp [Value.cells] at hcs
      obtain ⟨rfl, rfl, rfl⟩ := hcs
      exact ⟨zs, .inr ⟨_, rfl, hl, hm, by simpa using hz, hcell, hwz⟩⟩
  obtain ⟨a1, len1, cap1, rfl⟩ := okWide_slice Tryd.underlying22 (hval 1 22 v1 rfl rfl)
  have k1 := h1
  have lt1 : ∀ x ∈ p1, x.block < W.heap.size := by obtain ⟨m, hm⟩ := k1; exact DataW.trod_lt m _ _ _ hm
  obtain ⟨z1, w1⟩ : ∃ zs, StrsAt W a1 len1 cap1 zs := by
    obtain ⟨fuel, hf⟩ := h1
    rcases open_strings Tryd.underlying22 Tryd.underlying9 (by kernel_rfl) hf with ⟨hcs, _⟩ | ⟨x, l, c, zs, hcs, _, hl, hm, hz, _, hcell, hwz⟩
    · simp [Value.cells] at hcs
      obtain ⟨rfl, rfl, rfl⟩ := hcs
      exact ⟨[], .inl ⟨rfl, rfl, rfl, rfl⟩⟩
    · simp [Value.cells] at hcs
      obtain ⟨rfl, rfl, rfl⟩ := hcs
      exact ⟨zs, .inr ⟨_, rfl, hl, hm, by simpa using hz, hcell, hwz⟩⟩
  have HG := of_laid hL
  clear hA0 hval0 hsz0
  refine (walkChain a0 len0 cap0 z0 a1 len1 cap1 z1 W HG w0 w1).mono fun e W' ⟨he, bel⟩ => ?_
  subst he
  exact ⟨_, rfl, _, _, _, [], _, [], hW', trodAll_mk1 (shut_bool Tryd.underlying4 _), (trodAll_cons_mk (Below.trod laidOut (by kernel_rfl) (of_decide_eq_true (by kernel_rfl)) k0 bel lt0) (trodAll_cons_mk (Below.trod laidOut (by kernel_rfl) (of_decide_eq_true (by kernel_rfl)) k1 bel lt1) trodAll_mk0)), rfl, bel.frame _, fun h => by cases h⟩
theorem over : Rows.DigestChainBindingSaid :=
  OpenClaim.holds_of_wide 11 Tryd.f11 rfl rfl rfl rfl rfl rfl rfl ⟨rfl, rfl, rfl, rfl, rfl⟩ rfl rfl rfl rfl rfl (by kernel_rfl) Tryd.func11 (by kernel_rfl)
    (of_decide_eq_true (by kernel_rfl)) (by unfold Func.isWrapper; first | (rw [if_pos (by decide +kernel)]; kernel_rfl) | (rw [if_neg (by decide +kernel)]; exact ⟨rfl, rfl⟩))
    (fun os started H enc _ => lifted os started H enc)
theorem card : Rows.DigestChainBindingCardSaid :=
  Claim7.holds_tied_plain_at .later [] [.data] true (true, Rows.digestChainBindingCard.stood.harness.2) false
    over (fun _ h => by cases h) (by kernel_rfl) (fun _ h => by cases h) digestChainBinding_row_tie rfl ⟨rfl, rfl⟩ (by kernel_rfl) rfl
    (fun f fn hf hfn => by
      obtain rfl : f = 11 := Option.some.inj ((show Tryd.prog.funcNamed "yardstick/yardsticklaw02.DigestChainBinding" = some 11 by kernel_rfl).symm.trans hf) |>.symm
      obtain rfl : fn = Tryd.f11 := (Option.some.inj (Tryd.func11.symm.trans hfn)).symm
      exact ⟨by kernel_rfl, fun j t ht => by
        rw [Tryd.params11] at ht
        have hm : t ∈ [22, 22] := by simpa using Array.mem_of_getElem? ht
        have hall : ([22, 22].all fun u => !Tryd.prog.wantsStandIn u) = true := by kernel_rfl
        exact (show Tryd.prog.wantsStandIn t = false by simpa using List.all_eq_true.1 hall t hm)⟩)
    (by kernel_rfl)
end Go.Proofs.YtabjfogmcehemaaDoor.rowDigestChainBinding
namespace Go.Proofs.YtabjfogmcehemaaDoor
theorem digestChainBinding_holds : Rows.DigestChainBindingCardSaid := rowDigestChainBinding.card
#print axioms digestChainBinding_holds
end Go.Proofs.YtabjfogmcehemaaDoor
end
