/- The walk of WireRoundTrip: Int and String return what PutInt and PutString were given and the end of the encoding, wherever it is embedded. -/
import Derived.Test.YtffalfonmooinaaDoorPick
import Derived.Test.YtffalfonmooinaaDoorSane
import Derived.Outline
namespace Go.Proofs.YtffalfonmooinaaDoor
open Go.RowKit Go.Proofs.YtffalfonmooinaaDoorW.PrintWords Go.Proofs.YtffalfonmooinaaDoorW.PrintLast Go.Proofs.YtffalfonmooinaaDoorW.PrintMore
attribute [local go_sem] max2_int min2_int max_two min_two max_three min_three max_four min_four
set_option linter.unusedVariables false
set_option linter.unusedSimpArgs false

/-- The box of the array of two strings, at block B, in a world that came after w. -/
structure HeldTwo (w : World) (B : Nat) (x y : ByteArray) (W : World) : Prop where
  below : Below w.heap.size w W
  cell0 : W.cell? ⟨B, 0, none⟩ = some (.string x)
  cell1 : W.cell? ⟨B, 1, none⟩ = some (.string y)
theorem HeldTwo.step {w W W' : World} {B : Nat} {x y : ByteArray} (h : HeldTwo w B x y W) (hb : Below W.heap.size W W') : HeldTwo w B x y W' :=
  ⟨below_step h.below hb, pw_cell_below hb h.cell0, pw_cell_below hb h.cell1⟩
theorem HeldTwo.new (w : World) (x y : ByteArray) : HeldTwo w w.heap.size x y (w.alloc (.cells #[.string x, .string y] 36)) :=
  ⟨below_alloc (Below.refl _ _) _, by unfold World.cell?; rw [World.alloc_heap_new]; rfl, by unfold World.cell?; rw [World.alloc_heap_new]; rfl⟩

theorem round_facts (c : Int) (hc : (Lit.int .i64 c).wf = true) (p q t : ByteArray) (hp : p.size ≤ 200) (hq : q.size ≤ 200) (ht : t.size ≤ 200) :
    ∃ n, Pr.yardsticklaw01_NumberFrom.f c = some n ∧ wire_PutInt.f n = some (encStr n, 0) ∧ Pa.wire_PutString.f t = some (encStr (t.size : Int) ++ t, 0) ∧
      Pa.wire_Int.f 40 ((p ++ encStr n) ++ q) (p.size : Int) = some (n, ((p.size + (encStr n).size : Nat) : Int), 0) ∧
      Pa.wire_String.f 40 ((p ++ (encStr (t.size : Int) ++ t)) ++ q) (p.size : Int) = some (t, ((p.size + (encStr (t.size : Int) ++ t).size : Nat) : Int), 0) ∧
      (encStr n).size ≤ 9 ∧ (encStr (t.size : Int) ++ t).size ≤ 400 := by
  obtain ⟨n, en, hn⟩ := number_some c hc
  have h9 := enc_len n hn
  have h9' := enc_len _ (fits_size t (by omega))
  have hs1 : (encStr n).size = (enc n).length := encStr_size n
  have hs2 : (encStr (t.size : Int) ++ t).size = (encS t).length := by rw [← bytes_putString, bytes_len]
  have hs3 := encS_len t
  refine ⟨n, en, putInt_fits n hn, putString_fits t (by omega), ?_, ?_, by omega, by omega⟩
  · rw [hs1]
    refine Int_good 40 _ p.size n ?_ ?_ hn ?_ (by decide)
    · rw [ByteArray.size_append, ByteArray.size_append]; omega
    · rw [ByteArray.size_append, ByteArray.size_append]; omega
    · rw [bytes_append, bytes_append, bytes_encStr, List.append_assoc, ← bytes_len, List.drop_left]
      exact List.prefix_append _ _
  · rw [hs2]
    refine String_good 40 _ p.size t ?_ ?_ (by omega) ?_ (by decide)
    · rw [ByteArray.size_append, ByteArray.size_append]; omega
    · rw [ByteArray.size_append, ByteArray.size_append]; omega
    · rw [bytes_append, bytes_append, bytes_putString, List.append_assoc, ← bytes_len, List.drop_left]
      exact List.prefix_append _ _

set_option maxRecDepth 100000 in
set_option maxHeartbeats 4000000 in
theorem walkRoundTrip (c : Int) (text x y : ByteArray) (w : World) (HG : Aside0 (Laid w)) (hc : (Lit.int .i64 c).wf = true) (ht : text.size ≤ 140737488351232) :
    Calls Tryd.prog 4 #[.int .i64 c, .string text, .agg #[.string x, .string y]] w fun e w' => e = .returned (.bool true) ∧ Below w.heap.size w w' := by
  obtain ⟨mx, hmx, hmx1, hmx2⟩ : ∃ m : Nat, (if 200 < (x.size : Int) then 200 else (x.size : Int)) = (m : Int) ∧ m ≤ x.size ∧ m ≤ 200 := ⟨min x.size 200, by split <;> omega, by omega, by omega⟩
  obtain ⟨my, hmy, hmy1, hmy2⟩ : ∃ m : Nat, (if 200 < (y.size : Int) then 200 else (y.size : Int)) = (m : Int) ∧ m ≤ y.size ∧ m ≤ 200 := ⟨min y.size 200, by split <;> omega, by omega, by omega⟩
  obtain ⟨mt, hmt, hmt1, hmt2⟩ : ∃ m : Nat, (if 200 < (text.size : Int) then 200 else (text.size : Int)) = (m : Int) ∧ m ≤ text.size ∧ m ≤ 200 := ⟨min text.size 200, by split <;> omega, by omega, by omega⟩
  obtain ⟨p, hp⟩ : ∃ p, x.extract 0 mx = p := ⟨_, rfl⟩
  obtain ⟨q, hq⟩ : ∃ p, y.extract 0 my = p := ⟨_, rfl⟩
  obtain ⟨t, htt⟩ : ∃ p, text.extract 0 mt = p := ⟨_, rfl⟩
  have zp : p.size ≤ 200 := by rw [← hp, ByteArray.size_extract]; omega
  have zq : q.size ≤ 200 := by rw [← hq, ByteArray.size_extract]; omega
  have zt : t.size ≤ 200 := by rw [← htt, ByteArray.size_extract]; omega
  obtain ⟨n, en, e1, e2, e3, e4, za, zb⟩ := round_facts c hc p q t zp zq zt
  rw [Int.natCast_add] at e3 e4
  generalize encStr (t.size : Int) ++ t = b at *
  generalize encStr n = a at *
  obtain ⟨s1, hs1⟩ : ∃ s, (p ++ a) ++ q = s := ⟨_, rfl⟩
  obtain ⟨s2, hs2⟩ : ∃ s, (p ++ b) ++ q = s := ⟨_, rfl⟩
  rw [hs1] at e3
  rw [hs2] at e4
  have F := Aside0.mk (And.intro en (And.intro e1 (And.intro e2 (And.intro e3 e4))))
  clear en e1 e2 e3 e4
  have l1 : (9223372036854775807 < p.size + a.size) = False := eq_false (by omega)
  have l2 : (9223372036854775807 < p.size + a.size + q.size) = False := eq_false (by omega)
  have l3 : (9223372036854775807 < p.size + b.size) = False := eq_false (by omega)
  have l4 : (9223372036854775807 < p.size + b.size + q.size) = False := eq_false (by omega)
  have H0 := Aside0.mk (HeldTwo.new w x y)
  have G0 := Aside0.mk (HG.out.below (below_alloc (Below.refl _ _) (.cells #[.string x, .string y] 36)))
  go_enter Tryd.func4, Tryd.ntmps4
  go_upto_region 2 with (go_at_call 10; refine (sane.calls true _ G0 rfl).mono ?_; rintro e w1 ⟨rfl, hb⟩; have H1 := Aside0.mk (H0.out.step hb); have G1 := Aside0.mk (G0.out.below hb); clear H0 G0 hb)
  go_upto_region 3 with (go_at_call 11; refine (Pr.yardsticklaw01_NumberFrom.calls c n _ F.out.1).mono ?_; rintro e w2 ⟨rfl, hb⟩; have H2 := Aside0.mk (H1.out.step hb); have G2 := Aside0.mk (G1.out.below hb); clear H1 G1 hb; have c0 := H2.out.cell0; have c1 := H2.out.cell1)
  go_upto_region 6 with (fail)
  clear c0 c1 hmx hmy hmt
  go_upto_region 8 with (first
    | (go_at_call 12; with_reducible refine (wire_PutInt.calls n a 0 _ F.out.2.1).mono ?_; rintro e w3 ⟨rfl, hb⟩; have H3 := Aside0.mk (below_step H2.out.below hb); clear H2 G2 hb)
    | (go_at_call 19; with_reducible refine (Pa.wire_PutString.calls t b 0 _ F.out.2.2.1).mono ?_; rintro e w4 ⟨rfl, hb⟩; have H4 := Aside0.mk (below_step H3.out hb); clear H3 hb))
  go_wp2_with (first
    | (go_at_call 15; with_reducible refine (Pa.wire_Int.calls 40 s1 (p.size : Int) n ((p.size : Int) + (a.size : Int)) 0 _ F.out.2.2.2.1).mono ?_; rintro e w5 ⟨rfl, ⟨nd, rfl⟩⟩)
    | (go_at_call 17; with_reducible refine (Pa.wire_String.calls 40 s2 (p.size : Int) t ((p.size : Int) + (b.size : Int)) 0 _ F.out.2.2.2.2).mono ?_; rintro e w6 ⟨rfl, ⟨nd, rfl⟩⟩))
  go_ret
  exact ⟨rfl, by repeat (first | with_reducible exact H4.out | apply pw_below_drewN)⟩
end Go.Proofs.YtffalfonmooinaaDoor
