/- The functions of package digest answer as the reference's do: parts of the proofs, merged. -/
import Derived.Test.YtabjfogmcehemaaDoorRefBase2

section
namespace Go.Proofs.YtabjfogmcehemaaDoor
set_option linter.unusedVariables false
set_option linter.unusedSimpArgs false
abbrev Stk := List (ByteArray × Nat)
def collapse : Nat → Stk → Stk
  | 0, st => st
  | _ + 1, [] => []
  | _ + 1, [x] => [x]
  | k + 1, x :: y :: t => if y.2 = x.2 then collapse k ((nodeB y.1 x.1, 2 * x.2) :: t) else x :: y :: t
def pushS (st : Stk) (s : ByteArray) : Stk := collapse (st.length + 1) ((leafB s, 1) :: st)
def stackS (l : List ByteArray) : Stk := l.foldl pushS []
def finishS : Stk → ByteArray
  | [] => sumF ⟨#[]⟩
  | x :: t => t.foldl (fun out p => nodeB p.1 out) x.1
def rootS (l : List ByteArray) : ByteArray := finishS (stackS l)
theorem stackS_take (l : List ByteArray) (k : Nat) (s : ByteArray) (h : l[k]? = some s) : stackS (l.take (k + 1)) = pushS (stackS (l.take k)) s := by
  unfold stackS
  rw [List.take_add_one, h]
  simp
structure Good (st : Stk) (n : Nat) : Prop where
  sum : (st.map (·.2)).sum = n
  size : ∀ x ∈ st, x.1.size = 32
  pos : ∀ x ∈ st, 1 ≤ x.2
theorem good_nil : Good [] 0 := ⟨rfl, by simp, by simp⟩
theorem Good.join {x y : ByteArray × Nat} {t : Stk} {n : Nat} (h : Good (x :: y :: t) n) (he : y.2 = x.2) : Good ((nodeB y.1 x.1, 2 * x.2) :: t) n := by
  refine ⟨?_, ?_, ?_⟩
  · have := h.sum
    simp only [List.map_cons, List.sum_cons] at this ⊢
    omega
  · intro z hz
    rcases List.mem_cons.1 hz with rfl | hz
    · exact nodeB_size _ _
    · exact h.size z (List.mem_cons_of_mem _ (List.mem_cons_of_mem _ hz))
  · intro z hz
    rcases List.mem_cons.1 hz with rfl | hz
    · have := h.pos x (by simp); show 1 ≤ 2 * x.2; omega
    · exact h.pos z (List.mem_cons_of_mem _ (List.mem_cons_of_mem _ hz))
theorem Good.le {st : Stk} {n : Nat} (h : Good st n) (x : ByteArray × Nat) (hx : x ∈ st) : x.2 ≤ n := by
  rw [← h.sum]
  have : ∀ st : Stk, x ∈ st → x.2 ≤ (st.map (·.2)).sum := by
    intro st
    induction st with
    | nil => intro h; cases h
    | cons y t ih =>
      intro h
      simp only [List.map_cons, List.sum_cons]
      rcases List.mem_cons.1 h with rfl | h
      · omega
      · have := ih h; omega
  exact this st hx
theorem Good.len {st : Stk} {n : Nat} (h : Good st n) : st.length ≤ n := by
  rw [← h.sum]
  have : ∀ st : Stk, (∀ x ∈ st, 1 ≤ x.2) → st.length ≤ (st.map (·.2)).sum := by
    intro st
    induction st with
    | nil => intro _; simp
    | cons y t ih =>
      intro h
      simp only [List.map_cons, List.sum_cons, List.length_cons]
      have h1 := h y (by simp)
      have := ih (fun x hx => h x (List.mem_cons_of_mem _ hx))
      omega
  exact this st h.pos
theorem Good.push {st : Stk} {n : Nat} (h : Good st n) (s : ByteArray) : Good ((leafB s, 1) :: st) (n + 1) := by
  refine ⟨?_, ?_, ?_⟩
  · simp only [List.map_cons, List.sum_cons, h.sum]; omega
  · intro z hz
    rcases List.mem_cons.1 hz with rfl | hz
    · exact leafB_size _
    · exact h.size z hz
  · intro z hz
    rcases List.mem_cons.1 hz with rfl | hz
    · exact Nat.le_refl _
    · exact h.pos z hz
theorem Good.collapse {n : Nat} : ∀ (k : Nat) (st : Stk), Good st n → Good (collapse k st) n := by
  intro k
  induction k with
  | zero => exact fun _ h => h
  | succ k ih =>
    intro st h
    match st, h with
    | [], h => exact h
    | [x], h => exact h
    | x :: y :: t, h =>
      simp only [YtabjfogmcehemaaDoor.collapse]
      split
      · rename_i he; exact ih _ (h.join he)
      · exact h
theorem good_stack (l : List ByteArray) : Good (stackS l) l.length := by
  have : ∀ (l : List ByteArray) (st : Stk) (n : Nat), Good st n → Good (l.foldl pushS st) (n + l.length) := by
    intro l
    induction l with
    | nil => exact fun st n h => h
    | cons s l ih =>
      intro st n h
      simp only [List.foldl_cons, List.length_cons]
      rw [show n + (l.length + 1) = (n + 1) + l.length by omega]
      exact ih _ _ (Good.collapse _ _ (h.push s))
  have := this l [] 0 good_nil
  rwa [Nat.zero_add] at this
theorem collapse_pos : ∀ (k : Nat) (st : Stk), st ≠ [] → collapse k st ≠ [] := by
  intro k
  induction k with
  | zero => exact fun _ h => h
  | succ k ih =>
    intro st h
    match st, h with
    | [], h => exact h
    | [x], h => exact h
    | x :: y :: t, h =>
      simp only [collapse]
      split
      · exact ih _ (by simp)
      · exact h
theorem stack_pos (l : List ByteArray) (h : l ≠ []) : stackS l ≠ [] := by
  have : ∀ (l : List ByteArray) (st : Stk), l ≠ [] ∨ st ≠ [] → l.foldl pushS st ≠ [] := by
    intro l
    induction l with
    | nil => intro st h; rcases h with h | h; exact absurd rfl h; exact h
    | cons s l ih =>
      intro st _
      exact ih _ (.inr (collapse_pos _ _ (by simp)))
  exact this l [] (.inl h)
end Go.Proofs.YtabjfogmcehemaaDoor
end

section
namespace Go.Proofs.YtabjfogmcehemaaDoor
open Go.RowKit Go.Shelf Go.Proofs.YtabjfogmcehemaaDoorW.PrintWords Go.Proofs.YtabjfogmcehemaaDoorW.PrintLast Go.Proofs.YtabjfogmcehemaaDoorW.PrintMore
set_option linter.unusedVariables false
set_option linter.unusedSimpArgs false
attribute [local go_sem] Oper.semAt_some
attribute [local go_sem] max2_int min2_int max_two min_two
def backL {α : Type} (d : α) (xs : List α) : Nat → List (Nat × α)
  | 0 => []
  | k + 1 => (k, xs.getD k d) :: backL d xs k
def encB (p : Nat × ByteArray) : Array Value := #[.int .i64 (p.1 : Nat), .string p.2]
theorem backward_any (a : Option Addr) (l c : Nat) (w : World) :
    Calls Tryd.prog 44 #[.slice a l c] w fun e w' => e = .returned (.func (.func 60) #[] #[.pointer (some ⟨w.heap.size, 0, none⟩)]) ∧ w.alloc (.cells #[.slice a l c] 22) = w' := by
  go_enter Tryd.func44, Tryd.ntmps44
  go_wp2
  go_ret
  exact ⟨rfl, rfl⟩
set_option maxRecDepth 100000 in
set_option maxHeartbeats 4000000 in
theorem back_gives (F : Fence) (n : Nat) (h60 : F.fn 60) (hro : F.round = none) (hn : 1 ≤ n) (S R c : Nat) (xs : List ByteArray) (hxl : xs.length ≤ 140737488355328) (w : World)
    (hS : w.heap[S]? = some (.cells #[.slice (some ⟨R, 0, none⟩) xs.length c] 22 (0, 0))) (hcell : ∀ j x, xs[j]? = some x → w.cell? ⟨R, j, none⟩ = some (.string x)) (hR : R < w.heap.size) :
    GivesFix F n Tryd.prog 60 #[.pointer (some ⟨S, 0, none⟩)] encB (backL ⟨#[]⟩ xs xs.length) (fun _ => False) (fun W W' => W'.heap[S]? = W.heap[S]? ∧ W'.heap[R]? = W.heap[R]?) w := by
  intro l J W hW hJ hY h0
  have h1 := (hW.block S (Array.getElem?_eq_some_iff.1 hS).1).trans hS
  have h2 := hW.block R hR
  clear hS hW
  refine callsIn_of_wp Tryd.func60 rfl h60 ?_ hro
  simp only [Tryd.ntmps60, List.size_toArray, List.length_cons, List.length_nil, Nat.reduceAdd, Nat.reduceSub, Array.replicate_succ, Array.replicate_zero, List.push_toArray, List.append_toArray, List.nil_append, List.cons_append]
  obtain ⟨c0, f0⟩ := cell_box h1
  have HX := Aside0.mk hcell
  clear hcell
  obtain ⟨m, hm⟩ : ∃ m, xs.length = m := ⟨_, rfl⟩
  have HM := Aside0.mk hm
  rw [hm] at hxl h1 c0
  have HB0 := Aside0.mk (show backL ⟨#[]⟩ xs xs.length = [] ++ backL ⟨#[]⟩ xs m by rw [hm]; rfl)
  clear hm
  gi_wp2
  clear c0 f0
  gi_loopw [3] (fun i wr => ∃ (pre : List (Nat × ByteArray)) (k : Nat), k ≤ m ∧ i = .int .i64 ((k : Int) - 1) ∧ Aside0 (backL ⟨#[]⟩ xs xs.length = pre ++ backL ⟨#[]⟩ xs k) ∧ J pre wr ∧ wr.heap[S]? = some (.cells #[.slice (some ⟨R, 0, none⟩) m c] 22 (0, 0)) ∧ Aside0 (wr.heap[R]? = w.heap[R]?))
    (fun i _ => (intOf i + 1).toNat)
  case atStart => exact ⟨[], m, Nat.le_refl _, rfl, HB0, h0, h1, ⟨h2⟩⟩
  case round =>
    obtain ⟨pre, k, hk, rfl, HB, hJs, hb1, hb2⟩ := hrel
    obtain ⟨c1, f1⟩ := cell_box hb1
    clear h0 h1 h2 HB0
    by_cases hlt : 0 < k
    · obtain ⟨j, rfl⟩ : ∃ j, k = j + 1 := ⟨k - 1, by omega⟩
      have hjm : j < m := by omega
      obtain ⟨x, hx⟩ : ∃ x, xs[j]? = some x := ⟨_, List.getElem?_eq_getElem (by rw [HM.out]; omega)⟩
      have hB : backL ⟨#[]⟩ xs (j + 1) = (j, x) :: backL ⟨#[]⟩ xs j := by
        show (j, xs.getD j ⟨#[]⟩) :: _ = _
        rw [List.getD_eq_getElem?_getD, hx]; rfl
      have hcx : wr.cell? ⟨R, j, none⟩ = some (.string x) := (World.cell?_of_block (a := ⟨R, j, none⟩) hb2.out).trans (HX.out j x hx)
      have HBn : Aside0 (backL ⟨#[]⟩ xs xs.length = (pre ++ [(j, x)]) ++ backL ⟨#[]⟩ xs j) := ⟨by rw [HB.out, hB]; simp⟩
      obtain ⟨fn, tmps, assign, body, hy, hRr⟩ := hY pre (j, x) wr hJs (by rw [HBn.out]; exact List.prefix_append _ _)
      dsimp only [encB] at hy
      have HJ := Aside0.mk hJ
      clear hY hJ hJs hx hB HB hlt
      have e1 : ((j + 1 : Nat) : Int) - 1 = (j : Int) := by omega
      have e2 : (0 : Int) ≤ (j : Int) := by omega
      have e3 : (j : Int) < (m : Int) := by omega
      rw [e1]
      clear e1
      gi_wp2
      refine hRr.mono ?_
      rintro e W' ⟨rfl, hJ', hk1, hk2⟩
      have g1 : W'.heap[S]? = some (.cells #[.slice (some ⟨R, 0, none⟩) m c] 22 (0, 0)) := hk1.trans hb1
      have g2 : Aside0 (W'.heap[R]? = w.heap[R]?) := ⟨hk2.trans hb2.out⟩
      have GG := Aside0.mk (And.intro hJ' g1)
      clear g1 hJ' hk1 hk2 c1 f1 hcx hb1 hb2 hRr hy
      gi_wp2
      refine ⟨⟨pre ++ [(j, x)], j, by omega, by go_num, HBn, GG.out.1, GG.out.2, g2⟩, ?_⟩
      simp [intOf]
    · obtain rfl : k = 0 := by omega
      have hB0 : backL ⟨#[]⟩ xs xs.length = pre := by rw [HB.out]; simp [backL]
      have HQ := Aside0.mk (show J (backL ⟨#[]⟩ xs xs.length) wr by rw [hB0]; exact hJs)
      clear hJs hJ hY HB hB0
      gi_wp2
      refine ⟨rfl, .tuple #[], by simp [results, Tryd.results60, go_sem], ⟨_, rfl⟩, HQ.out⟩
end Go.Proofs.YtabjfogmcehemaaDoor
end

section
namespace Go.Proofs.YtabjfogmcehemaaDoor
open Go.RowKit Go.Shelf Go.Proofs.YtabjfogmcehemaaDoorW.PrintWords Go.Proofs.YtabjfogmcehemaaDoorW.PrintLast Go.Proofs.YtabjfogmcehemaaDoorW.PrintMore
set_option linter.unusedVariables false
set_option linter.unusedSimpArgs false
attribute [local go_sem] Oper.semAt_some
attribute [local go_sem] max2_int min2_int max_two min_two max_three min_three max_four min_four
attribute [local go_sem ↓] Go.wp_at_zero Go.wp_at_succ
def strsV (rs : List ByteArray) : List Value := rs.map Value.string
def natsV (ns : List Nat) : List Value := ns.map fun n : Nat => Value.int .i64 (n : Int)
structure RSt (w : World) (rs : List ByteArray) (ns : List Nat) (vw vs : Value) (W : World) : Prop where
  below : Below w.heap.size w W
  who : W.ownsRow w.heap.size 9 1 vw rs.length (strsV rs)
  siz : W.ownsRow w.heap.size 3 1 vs ns.length (natsV ns)
section
variable {w W w1 : World} {rs : List ByteArray} {ns : List Nat} {vw vs : Value}
theorem RSt.grown (h : RSt w rs ns vw vs W) (hb : Below W.heap.size W w1) : RSt w rs ns vw vs w1 :=
  ⟨below_step h.below hb, own_move h.who (fun k hk => hb.block k (own_lt h.who k hk)), own_move h.siz (fun k hk => hb.block k (own_lt h.siz k hk))⟩
theorem RSt.alloc (h : RSt w rs ns vw vs W) (o : Obj) : RSt w rs ns vw vs (W.alloc o) := h.grown ((Below.refl _ _).alloc (Nat.le_refl _) o)
theorem RSt.drewN (h : RSt w rs ns vw vs W) (n : Nat) : RSt w rs ns vw vs (W.drewN n) := h.grown (pw_below_drewN (Below.refl _ _) n)
theorem RSt.drew (h : RSt w rs ns vw vs W) : RSt w rs ns vw vs W.drew := h.drewN 1
theorem RSt.pushW (h : RSt w rs ns vw vs W) {v' : Value} {r : ByteArray} (ho : w1.ownsRow w.heap.size 9 1 v' (rs.length + 1) (strsV rs ++ [.string r])) (hg : W.grownBy w1 vw.ownBlock) : RSt w (rs ++ [r]) ns v' vs w1 where
  below := h.below.grown hg h.below.size (fun k hk => own_base h.who k hk)
  who := by rw [List.length_append, List.length_singleton]; simpa [strsV] using ho
  siz := own_other h.siz hg (own_type_ne h.siz h.who (by decide))
theorem RSt.pushS (h : RSt w rs ns vw vs W) {v' : Value} {m : Nat} (ho : w1.ownsRow w.heap.size 3 1 v' (ns.length + 1) (natsV ns ++ [.int .i64 (m : Nat)])) (hg : W.grownBy w1 vs.ownBlock) : RSt w rs (ns ++ [m]) vw v' w1 where
  below := h.below.grown hg h.below.size (fun k hk => own_base h.siz k hk)
  who := own_other h.who hg (own_type_ne h.who h.siz (by decide))
  siz := by rw [List.length_append, List.length_singleton]; simpa [natsV] using ho
theorem own_take {base g n cap m : Nat} {e : TypeId} {xs : List Value} (h : W.ownsRow base e 1 (.slice (some ⟨g, 0, none⟩) n cap) n xs) (hm : m ≤ n) : W.ownsRow base e 1 (.slice (some ⟨g, 0, none⟩) m cap) m (xs.take m) := by
  obtain ⟨h1, h2⟩ := h
  rcases h2 with ⟨h2, _⟩ | ⟨g', cap', cur, he, hg, hh, hn, hc, hs, ht⟩
  · cases h2
  · cases he
    refine ⟨by rw [List.length_take]; omega, .inr ⟨g, cap, cur, rfl, hg, hh, by omega, hc, hs, ?_⟩⟩
    rw [← ht, List.take_take, Nat.mul_one, Nat.mul_one, Nat.min_eq_left hm]
theorem RSt.popW {g n cap m : Nat} (h : RSt w rs ns (.slice (some ⟨g, 0, none⟩) n cap) vs W) (hn : n = rs.length) (hm : m ≤ n) : RSt w (rs.take m) ns (.slice (some ⟨g, 0, none⟩) m cap) vs W := by
  subst hn
  refine ⟨h.below, ?_, h.siz⟩
  have := own_take h.who hm
  rw [List.length_take, Nat.min_eq_left hm]
  simpa [strsV, List.map_take] using this
theorem RSt.popS {g n cap m : Nat} (h : RSt w rs ns vw (.slice (some ⟨g, 0, none⟩) n cap) W) (hn : n = ns.length) (hm : m ≤ n) : RSt w rs (ns.take m) vw (.slice (some ⟨g, 0, none⟩) m cap) W := by
  subst hn
  refine ⟨h.below, h.who, ?_⟩
  have := own_take h.siz hm
  rw [List.length_take, Nat.min_eq_left hm]
  simpa [natsV, List.map_take] using this
theorem own_cell {base g n cap j : Nat} {e : TypeId} {xs : List Value} {v : Value} (h : W.ownsRow base e 1 (.slice (some ⟨g, 0, none⟩) n cap) n xs) (hv : xs[j]? = some v) : W.cell? ⟨g, j, none⟩ = some v := by
  obtain ⟨h1, h2⟩ := h
  rcases h2 with ⟨h2, _⟩ | ⟨g', cap', cur, he, hg, hh, hn, hc, hs, ht⟩
  · cases h2
  · cases he
    unfold World.cell?
    rw [hh]
    simp only [Option.bind_some]
    rw [← ht, List.getElem?_take] at hv
    split at hv
    · rw [Array.getElem?_toList] at hv; exact hv
    · cases hv
theorem own_cap {base g n cap : Nat} {e : TypeId} {xs : List Value} (h : W.ownsRow base e 1 (.slice (some ⟨g, 0, none⟩) n cap) n xs) : n ≤ cap ∧ cap ≤ maxLen := by
  rcases h.2 with ⟨h2, _⟩ | ⟨g', cap', cur, he, hg, hh, hn, hc, hs, ht⟩
  · cases h2
  · cases he; exact ⟨hn, hc⟩
end
theorem own_form {w : World} {base n : Nat} {e : TypeId} {v : Value} {xs : List Value} (h : w.ownsRow base e 1 v n xs) (hn : 0 < n) : ∃ g cap, v = .slice (some ⟨g, 0, none⟩) n cap := by
  rcases h.2 with ⟨_, h2⟩ | ⟨g, cap, cur, rfl, _⟩
  · omega
  · exact ⟨g, cap, rfl⟩
theorem own_gt {w : World} {base g n cap : Nat} {e : TypeId} {xs : List Value} (h : w.ownsRow base e 1 (.slice (some ⟨g, 0, none⟩) n cap) n xs) : base ≤ g ∧ g < w.heap.size := ⟨own_base h g rfl, own_lt h g rfl⟩
theorem collapse_nil (f : Nat) : collapse f [] = [] := by cases f <;> rfl
theorem collapse_one (f : Nat) (x : ByteArray × Nat) : collapse f [x] = [x] := by cases f <;> rfl
theorem collapse_ne (f : Nat) (x y : ByteArray × Nat) (t : Stk) (h : y.2 ≠ x.2) : collapse f (x :: y :: t) = x :: y :: t := by
  cases f with
  | zero => rfl
  | succ f => simp only [collapse]; rw [if_neg h]
theorem collapse_eq (f : Nat) (x y : ByteArray × Nat) (t : Stk) (h : y.2 = x.2) : collapse (f + 1) (x :: y :: t) = collapse f ((nodeB y.1 x.1, 2 * x.2) :: t) := by
  simp only [collapse]; rw [if_pos h]
structure InSt (w : World) (k : Nat) (tgt : Stk) (st : Stk) (a b : Value) (W : World) : Prop where
  r : RSt w (st.map (·.1)).reverse (st.map (·.2)).reverse a b W
  good : Good st k
  tgt : ∃ f, st.length ≤ f ∧ collapse f st = tgt
section
variable {α β : Type} (f : α → β) (p q : α) (t : List α)
theorem rev_len : ((p :: q :: t).map f).reverse.length = t.length + 2 := by simp
theorem rev_at0 : ((p :: q :: t).map f).reverse[t.length]? = some (f q) := by
  rw [List.getElem?_reverse (by simp; omega)]
  simp
theorem rev_at1 : ((p :: q :: t).map f).reverse[t.length + 1]? = some (f p) := by
  rw [List.getElem?_reverse (by simp)]
  simp
theorem rev_take : ((p :: q :: t).map f).reverse.take t.length = (t.map f).reverse := by
  simp
end
theorem info9 : (Tryd.prog.info? 9).map (fun i => (i.zero, i.size, i.bytes)) = some (some (.string ⟨#[]⟩), 1, 16) := by kernel_rfl
theorem info3 : (Tryd.prog.info? 3).map (fun i => (i.zero, i.size, i.bytes)) = some (some (.int .i64 0), 1, 8) := by kernel_rfl
theorem InSt.next {w W : World} {k : Nat} {tgt : Stk} {p q : ByteArray × Nat} {t : Stk} {a b a0 b0 : Value} {W0 : World} (h : InSt w k tgt (p :: q :: t) a0 b0 W0) (he : q.2 = p.2) {rs : List ByteArray} {ns : List Nat} {r : ByteArray} (hr : nodeB q.1 p.1 = r)
    (h1 : rs = (t.map (·.1)).reverse) (h2 : ns = (t.map (·.2)).reverse) (hR : RSt w (rs ++ [r]) (ns ++ [2 * p.2]) a b W) : InSt w k tgt ((r, 2 * p.2) :: t) a b W := by
  subst hr h1 h2
  refine ⟨by simpa using hR, h.good.join he, ?_⟩
  obtain ⟨f, hf, hc⟩ := h.tgt
  obtain ⟨f, rfl⟩ : ∃ g, f = g + 1 := ⟨f - 1, by simp only [List.length_cons] at hf; omega⟩
  rw [collapse_eq f p q t he] at hc
  exact ⟨f, by simp only [List.length_cons] at hf ⊢; omega, hc⟩
theorem InSt.stop {w W : World} {k : Nat} {tgt st : Stk} {a b : Value} (h : InSt w k tgt st a b W) (hs : ∀ f, collapse f st = st) : tgt = st := by
  obtain ⟨f, hf, hc⟩ := h.tgt
  rw [← hc, hs]
theorem add0 (a : Addr) : a.add 0 = a := by cases a; rename_i b o m; cases m <;> simp [Addr.add]
section
variable {w W : World} {rs : List ByteArray} {ns : List Nat} {ops : Array Oper} {o : Oper} {a : Act} {K : Act → World → Prop} {Q : Exit → Act → World → Prop} {E : Prop}
theorem RSt.stepW (hgd : o.guard = none) (s x : Operand) (ho : o.op = .call { callee := .builtin .append, args := #[s, x], argTypes := #[22, 22] }) {vs : Value} {ga N ca : Nat}
    (h : RSt w rs ns (.slice (some ⟨ga, 0, none⟩) N ca) vs W) (hN : rs.length = N) (m : Nat) (hm : m ≤ N) (hN2 : N ≤ 1000001) (hs : a.eval s = .slice (some ⟨ga, 0, none⟩) m ca) (ad : Addr) (mm : Nat) (r : ByteArray)
    (hx : a.eval x = .slice (some ad) 1 mm) (hc : W.cell? ad = some (.string r))
    (hK : ∀ g cap w', RSt w (rs.take m ++ [r]) ns (.slice (some ⟨g, 0, none⟩) (m + 1) cap) vs w' → K (a.put o.dst (.slice (some ⟨g, 0, none⟩) (m + 1) cap)) w') :
    if Region.wanted o (yielded ops a.tmps) = true then Oper.wp Tryd.prog o a W K Q else E := by
  obtain ⟨i9, hi9, hz9, hs9, hb9⟩ := info_parts info9
  have hp := h.popW hN.symm hm
  have hw := hp.who
  rw [List.length_take, hN, Nat.min_eq_left hm] at hw
  refine step_append_lies _ hgd s x 22 ho w.heap.size 9 i9 _ 1 16 Tryd.underlying22 hi9 hz9 hs9 hb9 rfl (by decide) _ m (strsV (rs.take m)) hs hw ad 1 mm [.string r] hx rfl (fun j u hu => ?_) (by simp [Value.oneCell']) (by decide) (by unfold maxLen; omega) (by omega) h.below.size _ rfl ?_
  · have hj : j < 1 := (List.getElem?_eq_some_iff.1 hu).1
    obtain rfl : j = 0 := by omega
    cases hu
    rw [add0]; exact hc
  · intro g cap w' ho' hg _ _
    refine hK g cap w' (hp.pushW ?_ hg)
    rw [List.length_take, hN, Nat.min_eq_left hm]
    exact ho'
theorem RSt.stepS (hgd : o.guard = none) (s x : Operand) (ho : o.op = .call { callee := .builtin .append, args := #[s, x], argTypes := #[49, 49] }) {vw : Value} {gb N cb : Nat}
    (h : RSt w rs ns vw (.slice (some ⟨gb, 0, none⟩) N cb) W) (hN : ns.length = N) (m : Nat) (hm : m ≤ N) (hN2 : N ≤ 1000001) (hs : a.eval s = .slice (some ⟨gb, 0, none⟩) m cb) (ad : Addr) (mm : Nat) (r : Nat)
    (hx : a.eval x = .slice (some ad) 1 mm) (hc : W.cell? ad = some (.int .i64 (r : Nat)))
    (hK : ∀ g cap w', RSt w rs (ns.take m ++ [r]) vw (.slice (some ⟨g, 0, none⟩) (m + 1) cap) w' → K (a.put o.dst (.slice (some ⟨g, 0, none⟩) (m + 1) cap)) w') :
    if Region.wanted o (yielded ops a.tmps) = true then Oper.wp Tryd.prog o a W K Q else E := by
  obtain ⟨i3, hi3, hz3, hs3, hb3⟩ := info_parts info3
  have hp := h.popS hN.symm hm
  have hw := hp.siz
  rw [List.length_take, hN, Nat.min_eq_left hm] at hw
  refine step_append_lies _ hgd s x 49 ho w.heap.size 3 i3 _ 1 8 Tryd.underlying49 hi3 hz3 hs3 hb3 rfl (by decide) _ m (natsV (ns.take m)) hs hw ad 1 mm [.int .i64 (r : Nat)] hx rfl (fun j u hu => ?_) (by simp [Value.oneCell']) (by decide) (by unfold maxLen; omega) (by omega) h.below.size _ rfl ?_
  · have hj : j < 1 := (List.getElem?_eq_some_iff.1 hu).1
    obtain rfl : j = 0 := by omega
    cases hu
    rw [add0]; exact hc
  · intro g cap w' ho' hg _ _
    refine hK g cap w' (hp.pushS ?_ hg)
    rw [List.length_take, hN, Nat.min_eq_left hm]
    exact ho'
end
theorem backL_snd {α : Type} (d : α) (xs : List α) : ∀ k, k ≤ xs.length → (backL d xs k).map (·.2) = (xs.take k).reverse := by
  intro k
  induction k with
  | zero => intro _; rfl
  | succ k ih =>
    intro h
    have hx : xs[k]? = some xs[k] := List.getElem?_eq_getElem (by omega)
    rw [List.take_add_one, hx]
    simp only [backL, List.map_cons, ih (by omega), Option.toList, List.reverse_append, List.reverse_cons, List.reverse_nil, List.nil_append, List.singleton_append]
    rw [List.getD_eq_getElem?_getD, hx]
    rfl
theorem backL_mem {α : Type} (d : α) (xs : List α) (k : Nat) (hk : k ≤ xs.length) (p : Nat × α) (h : p ∈ backL d xs k) : p.2 ∈ xs := by
  have : p.2 ∈ (backL d xs k).map (·.2) := List.mem_map.2 ⟨p, h, rfl⟩
  rw [backL_snd d xs k hk] at this
  exact List.mem_of_mem_take (List.mem_reverse.1 this)
def outAt (v : ByteArray) (pre : List (Nat × ByteArray)) : ByteArray := pre.foldl (fun out p => nodeB p.2 out) v
theorem outAt_next (v : ByteArray) (pre : List (Nat × ByteArray)) (p : Nat × ByteArray) : outAt v (pre ++ [p]) = nodeB p.2 (outAt v pre) := by
  unfold outAt; rw [List.foldl_append]; rfl
theorem outAt_size (v : ByteArray) (hv : v.size = 32) (pre : List (Nat × ByteArray)) : (outAt v pre).size = 32 := by
  have : ∀ (pre : List (Nat × ByteArray)) (v : ByteArray), v.size = 32 → (pre.foldl (fun out p => nodeB p.2 out) v).size = 32 := by
    intro pre
    induction pre with
    | nil => exact fun _ h => h
    | cons p pre ih => exact fun v h => ih _ (nodeB_size _ _)
  exact this pre v hv
theorem outAt_all (x0 : ByteArray × Nat) (t : Stk) : outAt x0.1 (backL ⟨#[]⟩ ((t.map (·.1)).reverse) ((t.map (·.1)).reverse).length) = finishS (x0 :: t) := by
  have h := backL_snd (⟨#[]⟩ : ByteArray) ((t.map (·.1)).reverse) _ (Nat.le_refl _)
  have e : ∀ (pre : List (Nat × ByteArray)) (v : ByteArray), outAt v pre = (pre.map (·.2)).foldl (fun out x => nodeB x out) v := by
    intro pre v
    unfold outAt
    rw [List.foldl_map]
  rw [e, h, List.take_length, List.reverse_reverse, List.foldl_map]
  rfl
theorem rootS_nil : rootS [] = sumF ⟨#[]⟩ := rfl
set_option maxRecDepth 100000 in
set_option maxHeartbeats 8000000 in
theorem root_cons (ad : Addr) (c : Nat) (l : List ByteArray) (w : World) (HG : Aside0 (Laid w)) (hcell : ∀ j x, l[j]? = some x → w.cell? (ad.add j) = some (.string x)) (had : ad.block < w.heap.size) (hc : l.length ≤ c) (h0 : 0 < l.length)
    (hl : l.length ≤ 1000000) (hsz : ∀ x ∈ l, x.size ≤ 35184372088832) :
    Calls Tryd.prog 19 #[.slice (some ad) l.length c] w fun e w' => e = .returned (.string (rootS l)) ∧ Below w.heap.size w w' := by
  refine (callsIn_wide (n := 5)).1 ?_
  refine callsIn_of_wp_marks Tryd.func19 rfl trivial ?_ rfl
  simp only [Tryd.ntmps19, List.size_toArray, List.length_cons, List.length_nil, Nat.reduceAdd, Nat.reduceSub, Array.replicate_succ, Array.replicate_zero, List.push_toArray, List.append_toArray, List.nil_append, List.cons_append]
  refine wpIn_wide.2 ?_
  obtain ⟨i9, hi9, hz9, hs9, hb9⟩ := info_parts info9
  obtain ⟨i3, hi3, hz3, hs3, hb3⟩ := info_parts info3
  have HCELL := Aside0.mk hcell
  have HSZ := Aside0.mk hsz
  clear hcell hsz
  obtain ⟨n, hn⟩ : ∃ n, l.length = n := ⟨_, rfl⟩
  have HN := Aside0.mk hn
  rw [hn] at hc h0 hl ⊢
  clear hn
  go_wp2
  go_loopw [3, 4, 13] (fun a b i wr => ∃ k : Nat, k ≤ n ∧ i = .int .i64 k ∧ Aside0 (RSt w ((stackS (l.take k)).map (·.1)).reverse ((stackS (l.take k)).map (·.2)).reverse a b wr)) (fun _ _ i _ => n - (intOf i).toNat)
  case atStart => exact ⟨0, Nat.zero_le _, rfl, ⟨⟨Below.refl _ _, World.ownsRow_nil _ _ _ _, World.ownsRow_nil _ _ _ _⟩⟩⟩
  case round =>
    obtain ⟨k, hk, rfl, S⟩ := hrel
    by_cases hlt : k < n
    · obtain ⟨x, hx⟩ : ∃ x, l[k]? = some x := ⟨_, List.getElem?_eq_getElem (by rw [HN.out]; exact hlt)⟩
      have hcx : wr.cell? (ad.add k) = some (.string x) := pw_cell_below S.out.below (HCELL.out k x hx)
      have LEAF := Aside0.mk (fun W (hb : Below w.heap.size w W) => leaf_any x W ⟨HG.out.below hb⟩ (HSZ.out x (List.mem_of_getElem? hx)))
      have HST := Aside0.mk (stackS_take l k x hx)
      have HGOOD := Aside0.mk (good_stack (l.take k))
      clear hx
      generalize stackS (l.take k) = st at *
      have hkI : (k : Int) < (n : Int) := by omega
      have ok : (0 : Int) ≤ (k : Int) := by omega
      have hlen : Aside0 (st.length ≤ k) := ⟨by
        have hx := HGOOD.out.len
        rw [List.length_take] at hx
        omega⟩
      have hk1 : (st.map (·.1)).reverse.length < 1000001 := by have := hlen.out; rw [List.length_reverse, List.length_map]; omega
      have hk2 : (st.map (·.2)).reverse.length < 1000001 := by have := hlen.out; rw [List.length_reverse, List.length_map]; omega
      go_wp2_with (first
        | (go_at_call 29; go_must (refine (LEAF.out _ S.out.below).mono ?_); rintro e w1 ⟨rfl, hb⟩; have S1 := Aside0.mk (S.out.grown hb); clear S; have S := S1; clear S1 hb)
        | (at_builtin; refine wpList_append_lies _ rfl _ _ 22 rfl w.heap.size 9 i9 (.string ⟨#[]⟩) 1 16 Tryd.underlying22 hi9 hz9 hs9 hb9 rfl (by decide) _ _ _ rfl (S.out.alloc _).who _ 1 1 [.string (leafB x)] rfl rfl (cell_one_new _ _ _) (by simp [Value.oneCell']) (by decide) (by unfold maxLen; omega) (by omega) (S.out.alloc _).below.size _ rfl ?_; intro ga ca w2 ho hg hat hlt2; have S1 := Aside0.mk ((S.out.alloc _).pushW ho hg); clear S; have S := S1; clear S1 ho hg hat)
        | (at_builtin; go_must (refine wpList_append_lies _ rfl _ _ 49 rfl w.heap.size 3 i3 (.int .i64 0) 1 8 Tryd.underlying49 hi3 hz3 hs3 hb3 rfl (by decide) _ _ _ rfl (S.out.alloc _).siz _ 1 1 [.int .i64 1] rfl rfl (cell_one_new _ _ _) (by simp [Value.oneCell']) (by decide) (by unfold maxLen; omega) (by omega) (S.out.alloc _).below.size _ rfl ?_); intro gb cb w3 ho hg hat hlt3; have S1 := Aside0.mk ((S.out.alloc _).pushS (m := 1) ho hg); clear S; have S := S1; clear S1 ho hg hat))
      have IN : Aside0 (InSt w (k + 1) (stackS (l.take (k + 1))) ((leafB x, 1) :: st) (.slice (some ⟨ga, 0, none⟩) ((st.map (·.1)).reverse.length + 1) ca) (.slice (some ⟨gb, 0, none⟩) ((st.map (·.2)).reverse.length + 1) cb) w3) := ⟨⟨by
        simpa using S.out, by
        have := HGOOD.out.push x
        rw [List.length_take, Nat.min_eq_left (by rw [HN.out]; omega)] at this
        exact this, st.length + 1, by simp, by rw [HST.out]; rfl⟩⟩
      have hk1 : (leafB x, 1) :: st ≠ [] := by simp
      go_loopw [3, 4, 7] (fun a b i wr => ∃ st' : Stk, i = .int .i64 (st'.length : Nat) ∧ Aside0 (InSt w (k + 1) (stackS (l.take (k + 1))) st' a b wr)) (fun _ _ i _ => (intOf i).toNat)
      case atStart => exact ⟨(leafB x, 1) :: st, by simp, ⟨by have := IN.out; simpa using this⟩⟩
      case round =>
        clear S IN HST HGOOD hlen
        obtain ⟨st', rfl, IN⟩ := hrel
        by_cases hst : ∃ p q t, st' = p :: q :: t
        · obtain ⟨p, q, t, rfl⟩ := hst
          obtain ⟨m, hm⟩ : ∃ m, t.length = m := ⟨_, rfl⟩
          have hw := IN.out.r.who
          have hs := IN.out.r.siz
          have ra0 := rev_at0 (fun x : ByteArray × Nat => x.1) p q t
          have ra1 := rev_at1 (fun x : ByteArray × Nat => x.1) p q t
          have rb0 := rev_at0 (fun x : ByteArray × Nat => x.2) p q t
          have rb1 := rev_at1 (fun x : ByteArray × Nat => x.2) p q t
          obtain ⟨N, hNm⟩ : ∃ N, m + 2 = N := ⟨_, rfl⟩
          have el : (((p :: q :: t).length : Nat) : Int) = (N : Int) := by simp [hm]; omega
          rw [rev_len, hm, hNm] at hw hs
          rw [hm] at ra0 ra1 rb0 rb1
          obtain ⟨ga, ca, rfl⟩ := own_form hw (by omega)
          obtain ⟨gb, cb, rfl⟩ := own_form hs (by omega)
          have hca := own_cap hw
          have hcb := own_cap hs
          have c1 := own_cell (j := m) (v := .string q.1) hw (by unfold strsV; rw [List.getElem?_map, ra0]; rfl)
          have c2 := own_cell (j := m + 1) (v := .string p.1) hw (by unfold strsV; rw [List.getElem?_map, ra1]; rfl)
          have d1 := own_cell (j := m) (v := .int .i64 (q.2 : Nat)) hs (by unfold natsV; rw [List.getElem?_map, rb0]; rfl)
          have d2 := own_cell (j := m + 1) (v := .int .i64 (p.2 : Nat)) hs (by unfold natsV; rw [List.getElem?_map, rb1]; rfl)
          have hmb : N ≤ 1000001 := by have := IN.out.good.len; simp only [List.length_cons, hm] at this; omega
          have hgood := IN.out.good
          have zq := hgood.size q (by simp)
          have zp := hgood.size p (by simp)
          have lp := hgood.le p (by simp)
          clear hw hs ra0 ra1 rb0 rb1
          rw [el]
          clear el
          obtain ⟨hca1, hca2⟩ := hca
          obtain ⟨hcb1, hcb2⟩ := hcb
          have HZ := Aside0.mk (And.intro hca2 hcb2)
          have HGOOD := Aside0.mk hgood
          have HM := Aside0.mk hm
          have b1 : (m : Int) ≤ (ca : Int) := by omega
          have b2 : (m : Int) ≤ (cb : Int) := by omega
          have b3 : (0 : Int) ≤ (m : Int) := by omega
          have b4 : (m : Int) < (N : Int) := by omega
          have b5 : (m : Int) + 1 < (N : Int) := by omega
          have b6 : (0 : Int) ≤ (m : Int) + 1 := by omega
          have b7 : ((m : Int) + 1).toNat = m + 1 := by omega
          have b8 : decide ((1 : Int) < (N : Int)) = true := decide_eq_true (by omega)
          have s1 : IntKind.i64.wrap ((N : Int) - 2) = (m : Int) := by rw [show (N : Int) - 2 = m by omega]; exact IntWalk.i64_in _ (by omega)
          have s2 : IntKind.i64.wrap ((N : Int) - 1) = (m : Int) + 1 := by rw [show (N : Int) - 1 = m + 1 by omega]; exact IntWalk.i64_in _ (by omega)
          have HNM := Aside0.mk hNm
          clear hca2 hcb2 hgood hm hNm
          by_cases he : q.2 = p.2
          · have t1 : (((q.2 : Nat) : Int) == ((p.2 : Nat) : Int)) = true := by rw [he]; simp
            have HE := Aside0.mk he
            clear he
            go_upto_region 8 with (fail)
            go_quiet ((fail))
            have NODE : Aside0 (∀ W, RSt w ((p :: q :: t).map (·.1)).reverse ((p :: q :: t).map (·.2)).reverse (.slice (some ⟨ga, 0, none⟩) N ca) (.slice (some ⟨gb, 0, none⟩) N cb) W →
                Calls Tryd.prog 32 #[.string q.1, .string p.1] W fun e w' => e = .returned (.string (nodeB q.1 p.1)) ∧ RSt w ((p :: q :: t).map (·.1)).reverse ((p :: q :: t).map (·.2)).reverse (.slice (some ⟨ga, 0, none⟩) N ca) (.slice (some ⟨gb, 0, none⟩) N cb) w') := ⟨fun W h =>
              (node_any q.1 p.1 W ⟨HG.out.below h.below⟩ (by rw [zq, zp]; decide)).mono fun e w' ⟨he, hb⟩ => ⟨he, h.grown hb⟩⟩
            have HR1 := Aside0.mk (rev_len (fun x : ByteArray × Nat => x.1) p q t)
            have HR2 := Aside0.mk (rev_at0 (fun x : ByteArray × Nat => x.1) p q t)
            have HR3 := Aside0.mk (rev_at1 (fun x : ByteArray × Nat => x.1) p q t)
            have HR4 := Aside0.mk (rev_take (fun x : ByteArray × Nat => x.1) p q t)
            have HS1 := Aside0.mk (rev_len (fun x : ByteArray × Nat => x.2) p q t)
            have HS3 := Aside0.mk (rev_at1 (fun x : ByteArray × Nat => x.2) p q t)
            have HS4 := Aside0.mk (rev_take (fun x : ByteArray × Nat => x.2) p q t)
            rw [HM.out] at HR1 HR2 HR3 HR4 HS1 HS3 HS4
            rw [HNM.out] at HR1 HS1
            have R := Aside0.mk IN.out.r
            generalize ((p :: q :: t).map (·.1)).reverse = rs at *
            generalize ((p :: q :: t).map (·.2)).reverse = ns at *
            obtain ⟨r, hr⟩ : ∃ r, nodeB q.1 p.1 = r := ⟨_, rfl⟩
            rw [hr] at NODE
            have HRN := Aside0.mk hr
            clear hr
            have R1 := R.out
            go_upto_block 3 with (fail)
            go_cut [3, 4] from 44 to 72 (fun a b wx => ∃ g3 cap3 g4 cap4, a = .slice (some ⟨g3, 0, none⟩) (m + 1) cap3 ∧ b = .slice (some ⟨g4, 0, none⟩) (m + 1) cap4 ∧ Aside0 (RSt w (rs.take m ++ [r]) (ns.take m ++ [2 * p.2]) (.slice (some ⟨g3, 0, none⟩) (m + 1) cap3) (.slice (some ⟨g4, 0, none⟩) (m + 1) cap4) wx))
            case first =>
              go_upto_region 10 with (fail)
              go_cut [3] from 44 to 60 (fun a wx => ∃ g cap, a = .slice (some ⟨g, 0, none⟩) (m + 1) cap ∧ Aside0 (RSt w (rs.take m ++ [r]) ns (.slice (some ⟨g, 0, none⟩) (m + 1) cap) (.slice (some ⟨gb, 0, none⟩) N cb) wx))
              case first =>
                refine wp_region_noPanic ?_
                go_region_law ((first | (go_simp; go_at_call 32; with_reducible refine (NODE.out _ ?_).mono ?_; (focus (repeat (first | with_reducible assumption | with_reducible apply RSt.drew | with_reducible apply RSt.drewN | with_reducible apply RSt.alloc))); rintro e w' ⟨rfl, hs⟩) | (refine RSt.stepW (w := w) (ns := ns) (vs := .slice (some ⟨gb, 0, none⟩) N cb) (ga := ga) (ca := ca) (by rfl) _ _ (by rfl) ?zhr HR1.out m (by omega) hmb (by rfl) _ 1 r (by rfl) ?zhc ?_; (case zhr => (repeat (first | with_reducible assumption | with_reducible apply RSt.drew | with_reducible apply RSt.drewN | with_reducible apply RSt.alloc))); (case zhc => (repeat (first | exact cellN_new rfl rfl | refine cellN_drewN ?_ | refine cellN_drew ?_))); intro gg cap w1 hR2; have HR2 := Aside0.mk hR2; clear hR2)))
                all_goals (refine NoPanic.normal ?_; go_wp2_with fail; go_meet; exact ⟨_, _, rfl, HR2⟩)
              case rest =>
                obtain ⟨g3, cap3, rfl, R3⟩ := hcut
                clear R R1 c1 c2 d1 d2
                have hwr := R3.out.who
                have hsr := R3.out.siz
                rw [HS1.out] at hsr
                have d2 := own_cell (j := m + 1) (v := .int .i64 (p.2 : Nat)) hsr (by unfold natsV; rw [List.getElem?_map, HS3.out]; rfl)
                have s5 : IntKind.i64.wrap (2 * (p.2 : Int)) = ((2 * p.2 : Nat) : Int) := by rw [IntWalk.i64_in _ (by omega)]; omega
                clear hwr hsr
                have R4 := R3.out
                go_upto_region 11 with (fail)
                refine wp_region_noPanic ?_
                go_region_law ((first | (refine RSt.stepS (w := w) (rs := rs.take m ++ [r]) (vw := .slice (some ⟨g3, 0, none⟩) (m + 1) cap3) (gb := gb) (cb := cb) (by rfl) _ _ (by rfl) ?zhr HS1.out m (by omega) hmb (by rfl) _ 1 (2 * p.2) (by rfl) ?zhc ?_; (case zhr => (repeat (first | with_reducible assumption | with_reducible apply RSt.drew | with_reducible apply RSt.drewN | with_reducible apply RSt.alloc))); (case zhc => (repeat (first | exact cellN_new rfl (by first | rfl | (rw [s5]; rfl)) | refine cellN_drewN ?_ | refine cellN_drew ?_))); intro gg cap w1 hR2; have HR2 := Aside0.mk hR2; clear hR2)))
                all_goals (refine NoPanic.normal ?_; go_wp2_with fail; go_meet; exact ⟨_, _, _, _, rfl, rfl, HR2⟩)
            case rest =>
              obtain ⟨g3, cap3, g4, cap4, rfl, rfl, R5⟩ := hcut
              clear R R1 c1 c2 d1 d2
              have s6 : (N : Int) - 1 = (((((r, 2 * p.2) :: t : Stk)).length : Nat) : Int) := by simp [HM.out]; have := HNM.out; omega
              have HIN := Aside0.mk (IN.out.next HE.out HRN.out HR4.out HS4.out R5.out)
              go_wp2
              have s7 : wrap64 ((t.length : Int) + 1) = (t.length : Int) + 1 := by have := HM.out; unfold wrap64; omega
              rw [s7]
              refine ⟨⟨(r, 2 * p.2) :: t, by simp, HIN⟩, ?_⟩
              have := HM.out
              have := HNM.out
              simp only [intOf]
              omega
          · have t1 : (((q.2 : Nat) : Int) == ((p.2 : Nat) : Int)) = false := by rw [beq_eq_false_iff_ne]; exact fun e => he (by exact Int.ofNat.inj e)
            have hstop := IN.out.stop (fun f => collapse_ne f p q t he)
            have HSTOP := Aside0.mk hstop
            clear he hstop
            go_upto_region 8 with (fail)
            go_quiet ((fail))
            go_wp2
            refine ⟨⟨k + 1, by omega, by go_num, ⟨by rw [HSTOP.out]; exact IN.out.r.drewN nq⟩⟩, ?_⟩
            simp [intOf]
            omega
        · have hstop : stackS (l.take (k + 1)) = st' ∧ st'.length ≤ 1 := by
            match st', hst, IN with
            | [], _, IN => exact ⟨IN.out.stop collapse_nil, by simp⟩
            | [x], _, IN => exact ⟨IN.out.stop (fun f => collapse_one f x), by simp⟩
            | p :: q :: t, hst, _ => exact absurd ⟨p, q, t, rfl⟩ hst
          obtain ⟨hst1, hst2⟩ := hstop
          have HSTOP := Aside0.mk hst1
          clear hst1 hst
          obtain ⟨N, hN⟩ : ∃ N, st'.length = N := ⟨_, rfl⟩
          rw [hN] at hst2 ⊢
          clear hN
          have b8 : decide ((1 : Int) < (N : Int)) = false := decide_eq_false (by omega)
          go_upto_region 8 with (fail)
          go_quiet ((fail))
          go_wp2
          refine ⟨⟨k + 1, by omega, by go_num, ⟨by rw [HSTOP.out]; exact IN.out.r.drewN nq⟩⟩, ?_⟩
          simp [intOf]
          omega
    · obtain rfl : k = n := by omega
      rw [List.take_of_length_le (by rw [HN.out]; exact Nat.le_refl _)] at S
      have hne := stack_pos l (by intro e; rw [e] at HN; have := HN.out; simp at this; omega)
      have hgood := good_stack l
      have HFIN : Aside0 (rootS l = finishS (stackS l)) := ⟨rfl⟩
      generalize stackS l = st at *
      obtain ⟨x0, t, rfl⟩ : ∃ x0 t, st = x0 :: t := by
        cases st with
        | nil => exact absurd rfl hne
        | cons x t => exact ⟨x, t, rfl⟩
      clear hne hlt
      obtain ⟨m, hm⟩ : ∃ m, t.length = m := ⟨_, rfl⟩
      have hw := S.out.who
      have hlen : (((x0 :: t).map (·.1)).reverse).length = m + 1 := by simp [hm]
      rw [hlen] at hw
      obtain ⟨ga, ca, rfl⟩ := own_form hw (by omega)
      have c0 := own_cell (j := m) (v := .string x0.1) hw (by unfold strsV; rw [List.getElem?_map, ← hm]; simp [List.getElem?_append_right])
      have hca := own_cap hw
      have hmb : m + 1 ≤ 1000000 := by have := hgood.len; rw [HN.out] at this; simp only [List.length_cons, hm] at this; omega
      have HCELLS : Aside0 (∀ j x, ((t.map (·.1)).reverse)[j]? = some x → wr.cell? ⟨ga, j, none⟩ = some (.string x)) := ⟨fun j x hx => own_cell hw (by
        unfold strsV
        rw [List.getElem?_map, List.map_cons, List.reverse_cons, List.getElem?_append_left (List.getElem?_eq_some_iff.1 hx).1, hx]; rfl)⟩
      have hgt := own_gt hw
      have HGOOD := Aside0.mk hgood
      have HM := Aside0.mk hm
      have HB := Aside0.mk S.out.below
      obtain ⟨hca1, hca2⟩ := hca
      obtain ⟨hgt1, hgt2⟩ := hgt
      have b1 : (m : Int) + 1 ≤ (ca : Int) := by omega
      have b2 : (0 : Int) ≤ (m : Int) := by omega
      clear hw hlen hgood hm S hca2
      go_wp2_with (go_at_call 44; go_must (refine (backward_any _ _ _ _).mono ?_); rintro e w' ⟨rfl, rfl⟩)
      have HFIN2 := outAt_all x0 t
      rw [← HFIN.out] at HFIN2
      have HFINAL := Aside0.mk HFIN2
      have hz0 : x0.1.size = 32 := HGOOD.out.size x0 (by simp)
      have hzx : ∀ x ∈ (t.map (·.1)).reverse, x.size = 32 := by
        intro x hx
        obtain ⟨y, hy, rfl⟩ := List.mem_map.1 (List.mem_reverse.1 hx)
        exact HGOOD.out.size y (List.mem_cons_of_mem _ hy)
      have hxl : ((t.map (·.1)).reverse).length = m := by simp [HM.out]
      clear HFIN HFIN2 HGOOD
      generalize (t.map (·.1)).reverse = xs at *
      have HZX := Aside0.mk hzx
      clear hzx
      have HXL := Aside0.mk hxl
      rw [← hxl]
      have hS1 : ((wr.alloc (.cells #[.string x0.1] 9)).alloc (.cells #[.slice (some ⟨ga, 0, none⟩) xs.length ca] 22)).heap[wr.heap.size + 1]? = some (.cells #[.slice (some ⟨ga, 0, none⟩) xs.length ca] 22 (0, 0)) := by
        have := World.alloc_heap_new (wr.alloc (.cells #[.string x0.1] 9)) (.cells #[.slice (some ⟨ga, 0, none⟩) xs.length ca] 22)
        rwa [World.size_alloc] at this
      have hO : ((wr.alloc (.cells #[.string x0.1] 9)).alloc (.cells #[.slice (some ⟨ga, 0, none⟩) xs.length ca] 22)).heap[wr.heap.size]? = some (.cells #[.string x0.1] 9 (0, 0)) := by
        rw [Below.heap_alloc _ _ _ (by simp)]; exact World.alloc_heap_new _ _
      have hsz : ((wr.alloc (.cells #[.string x0.1] 9)).alloc (.cells #[.slice (some ⟨ga, 0, none⟩) xs.length ca] 22)).heap.size = wr.heap.size + 2 := by simp
      have hBl : Below w.heap.size w ((wr.alloc (.cells #[.string x0.1] 9)).alloc (.cells #[.slice (some ⟨ga, 0, none⟩) xs.length ca] 22)) := (HB.out.alloc HB.out.size _).alloc (by simp; have := HB.out.size; omega) _
      have hCx : ∀ j x, xs[j]? = some x → ((wr.alloc (.cells #[.string x0.1] 9)).alloc (.cells #[.slice (some ⟨ga, 0, none⟩) xs.length ca] 22)).cell? ⟨ga, j, none⟩ = some (.string x) := fun j x hx => cellN_old (by simp; omega) (cellN_old (by simpa using hgt2) (HCELLS.out j x hx))
      have hwz := HB.out.size
      generalize (wr.alloc (.cells #[.string x0.1] 9)).alloc (.cells #[.slice (some ⟨ga, 0, none⟩) xs.length ca] 22) = W0 at *
      refine (wpIn_wide (n := 5)).1 ?_
      have hin0 : ∀ {f : FuncId} {args : Array Value} {w : World} {R : Ending → World → Prop} (n : Nat), Calls Tryd.prog f args w R → CallsIn Fence.wide n Tryd.prog f args w R := fun n h => callsIn_wide.2 h
      have hF60 : Fence.wide.fn 60 := trivial
      have hF32 : Fence.wide.fn 32 := trivial
      have hFr : Fence.wide.round = none := rfl
      generalize Fence.wide = F at *
      refine wpIn_rangeFunc_fix (F := F) (n := 5) hFr (by decide) (gf := 60) (lb := #[.pointer (some ⟨wr.heap.size + 1, 0, none⟩)]) rfl hF60 (enters_of Tryd.func60 (by kernel_rfl) rfl)
        (back_gives F 4 hF60 hFr (by decide) (wr.heap.size + 1) ga ca xs (by omega) W0 hS1 hCx (by omega)) (fun r e => e.elim) (fun h k => ⟨k.1.trans h.1, k.2.trans h.2⟩) ?hkb (Below.refl _ _) (fun _ => rfl)
        (fun pre W => Below w.heap.size w W ∧ W.heap[wr.heap.size]? = some (.cells #[.string (outAt x0.1 pre)] 9 (0, 0)) ∧ W0.heap.size ≤ W.heap.size) ?own ⟨hBl, hO, Nat.le_refl _⟩ ?a1 ?assign ?body ?done
      case hkb =>
        intro W l o' hl
        exact ⟨World.putObj_heap_other (by omega), World.putObj_heap_other (by omega)⟩
      case own =>
        rintro pre A B row ⟨h1, h2, h3⟩ hg hrow
        have hr : ∀ r, row = some r → W0.heap.size ≤ r := fun r e => by
          rcases hrow r e with ⟨h, _⟩ | h
          · exact h
          · exact h.elim
        exact ⟨h1.grown hg (by omega) (fun k e => by have := hr k e; omega), (hg.block _ (by omega) (fun e => by have := hr _ e.symm; omega)).trans h2, Nat.le_trans h3 hg.size⟩
      case assign =>
        intro l y W K hK
        simp only [encB]
        gi_wp2
        exact hK
      case body =>
        rintro l pre ⟨j, x⟩ W ⟨h1, h2, h3⟩ hpre
        have hx : x ∈ xs := backL_mem ⟨#[]⟩ xs _ (Nat.le_refl _) (j, x) (hpre.subset (by simp))
        have hzx := HZX.out x hx
        have hzo := outAt_size x0.1 hz0 pre
        obtain ⟨co, fo⟩ := cell_box h2
        have hnode := node_any x (outAt x0.1 pre) W ⟨HG.out.below h1⟩ (by rw [hzx, hzo]; decide)
        have hin : CallsIn (F.inRound l) 2 Tryd.prog 32 #[.string x, .string (outAt x0.1 pre)] W _ := CallsIn.inRound l (hin0 _ hnode)
        have HIN := Aside0.mk hin
        have HH := Aside0.mk (And.intro h1 (And.intro h2 h3))
        have HNX := Aside0.mk (outAt_next x0.1 pre (j, x))
        clear hin hnode hx hpre h1 h2 h3
        gi_wp2_with (gi_at_call 32; go_must (refine HIN.out.mono ?_); rintro e w1 ⟨rfl, hb⟩; have hb1 := (hb.block wr.heap.size (Array.getElem?_eq_some_iff.1 HH.out.2.1).1).trans HH.out.2.1; obtain ⟨co1, fo1⟩ := cell_box hb1; clear co fo)
        have hwb := below_step HH.out.1 hb
        have hsW := HH.out.2.2
        have hss := hb.size
        refine ⟨⟨by rw [World.size_setCell]; exact hss, fun i o hi ho _ => (Below.heap_setCell w1 _ _ i (by simp; omega)).trans ((hb.block i (Array.getElem?_eq_some_iff.1 ho).1).trans ho)⟩,
          ⟨(Below.heap_setCell w1 _ _ _ (by simp)).trans (hb.block _ (by omega)), (Below.heap_setCell w1 _ _ _ (by simp; omega)).trans (hb.block _ (by omega))⟩,
          hwb.setCell (p := ⟨wr.heap.size, 0, none⟩) hwz _, ?_, by rw [World.size_setCell]; omega⟩
        rw [HNX.out]
        exact one_setCell hb1
      case done =>
        rintro D W hD ⟨h1, h2, h3⟩ hK
        obtain ⟨co, fo⟩ := cell_box h2
        rw [HFINAL.out] at co
        have HBW := Aside0.mk h1
        have HKD := Aside0.mk hK
        have HD := Aside0.mk hD
        clear h1 h2 h3 hK hD hO hS1
        go_wp2
        refine ⟨by simp, .inl ⟨_, _, rfl, run_takeDeferred HKD.out, ?_⟩⟩
        refine ⟨.string (rootS l), by simp [results, Tryd.results19, go_sem], rfl, ?_⟩
        have hwD : w.heap.size ≤ D := by have := HD.out; omega
        exact HBW.out.trans (belowK_b (w := w) (Nat.le_refl _) W D _ _ hwD HKD.out rfl rfl)
set_option maxRecDepth 100000 in
set_option maxHeartbeats 4000000 in
theorem root_nil (a : Option Addr) (c : Nat) (w : World) (HG : Aside0 (Laid w)) :
    Calls Tryd.prog 19 #[.slice a 0 c] w fun e w' => e = .returned (.string (rootS [])) ∧ Below w.heap.size w w' := by
  refine (callsIn_wide (n := 5)).1 ?_
  refine callsIn_of_wp_marks Tryd.func19 rfl trivial ?_ rfl
  simp only [Tryd.ntmps19, List.size_toArray, List.length_cons, List.length_nil, Nat.reduceAdd, Nat.reduceSub, Array.replicate_succ, Array.replicate_zero, List.push_toArray, List.append_toArray, List.nil_append, List.cons_append]
  refine wpIn_wide.2 ?_
  have HSUM := Aside0.mk (sum_any ⟨#[]⟩ w HG (by decide))
  go_wp2
  go_loopw [3, 13] (fun a i wr => a = .slice none 0 0 ∧ i = .int .i64 0 ∧ wr = w) (fun _ _ _ => 0)
  case atStart => exact ⟨rfl, rfl, rfl⟩
  case round =>
    obtain ⟨rfl, rfl, rfl⟩ := hrel
    go_wp2_with (go_at_call 30; go_must (refine HSUM.out.mono ?_); rintro e w' ⟨rfl, hb⟩)
    refine ⟨.string (rootS []), by simp [results, Tryd.results19, go_sem, rootS_nil], rfl, hb⟩
theorem root_any (A : Option Addr) (c : Nat) (l : List ByteArray) (w : World) (HG : Aside0 (Laid w)) (hr : Kd.C Kd.string w A l.length l) (hc : l.length ≤ c) (hl : l.length ≤ 1000000) (hsz : ∀ x ∈ l, x.size ≤ 35184372088832) :
    Calls Tryd.prog 19 #[.slice A l.length c] w fun e w' => e = .returned (.string (rootS l)) ∧ Below w.heap.size w w' := by
  rcases Nat.eq_zero_or_pos l.length with h0 | h0
  · obtain rfl := List.eq_nil_of_length_eq_zero h0
    exact root_nil A c w HG
  · obtain ⟨ad, rfl, hcell⟩ := hr.2.2 h0
    have hcell' : ∀ j x, l[j]? = some x → w.cell? (ad.add j) = some (.string x) := fun j x hx => by
      obtain ⟨cs, h1, h2, h3⟩ := hcell j x hx
      have h2' : cs = [.string x] := h2
      subst h2'
      have := h3 0 (.string x) rfl
      have e : j * Kd.string.sz + 0 = j := by show j * 1 + 0 = j; omega
      rwa [e] at this
    refine root_cons ad c l w HG hcell' ?_ hc h0 hl hsz
    have := World.block_lt_of_cell? w _ (hcell' 0 l[0] (List.getElem?_eq_getElem h0))
    rwa [add0] at this
end Go.Proofs.YtabjfogmcehemaaDoor
end

section
namespace Go.Proofs.YtabjfogmcehemaaDoor
open Go.RowKit Go.Shelf Go.Proofs.YtabjfogmcehemaaDoorW.PrintWords Go.Proofs.YtabjfogmcehemaaDoorW.PrintLast Go.Proofs.YtabjfogmcehemaaDoorW.PrintMore
set_option linter.unusedVariables false
set_option linter.unusedSimpArgs false
attribute [local go_sem] max2_int min2_int max_two min_two
def isDig (s : ByteArray) : Bool := s.size == 32
theorem isDigest_any (s : ByteArray) (w : World) : Calls Tryd.prog 51 #[.string s] w fun e w' => e = .returned (.bool (isDig s)) ∧ w = w' := by
  by_cases h : s.size = 32
  · have t : ((s.size : Int) == 32) = true := by rw [beq_iff_eq]; omega
    have hd : isDig s = true := by unfold isDig; rw [beq_iff_eq]; exact h
    rw [hd]
    clear h hd
    go_enter Tryd.func51, Tryd.ntmps51
    go_wp2
    go_ret
    exact ⟨rfl, rfl⟩
  · have t : ((s.size : Int) == 32) = false := by rw [beq_eq_false_iff_ne]; omega
    have hd : isDig s = false := by unfold isDig; rw [beq_eq_false_iff_ne]; exact h
    rw [hd]
    clear h hd
    go_enter Tryd.func51, Tryd.ntmps51
    go_wp2
    go_ret
    exact ⟨rfl, rfl⟩
theorem odd_any (s : ByteArray) (w : World) : Calls Tryd.prog 61 #[.string s] w fun e w' => e = .returned (.bool (!isDig s)) ∧ w = w' := by
  have H := Aside0.mk (isDigest_any s w)
  generalize isDig s = b at *
  go_enter Tryd.func61, Tryd.ntmps61
  go_wp2_with (go_at_call 51; go_must (refine H.out.mono ?_); rintro e w' ⟨rfl, rfl⟩)
  go_ret
  exact ⟨rfl, rfl⟩
def oddIdx : List ByteArray → Nat → Int
  | [], _ => -1
  | x :: l, k => if isDig x then oddIdx l (k + 1) else (k : Int)
theorem oddIdx_ge (l : List ByteArray) (k : Nat) : -1 ≤ oddIdx l k := by
  induction l generalizing k with
  | nil => simp [oddIdx]
  | cons x l ih => simp only [oddIdx]; split; exact ih _; omega
theorem oddIdx_all (l : List ByteArray) (k : Nat) : (decide (0 ≤ oddIdx l k)) = !(l.all isDig) := by
  induction l generalizing k with
  | nil => rfl
  | cons x l ih =>
    simp only [oddIdx, List.all_cons]
    split
    · rename_i h; rw [ih, h]; simp
    · rename_i h; simp [h]
set_option maxRecDepth 100000 in
set_option maxHeartbeats 4000000 in
theorem indexFunc_any (A : Option Addr) (c : Nat) (l : List ByteArray) (w : World) (hr : Kd.C Kd.string w A l.length l) (hl : l.length ≤ 1000000) :
    Calls Tryd.prog 73 #[.slice A l.length c, .func (.func 61) #[] #[]] w fun e w' => e = .returned (.int .i64 (oddIdx l 0)) ∧ w = w' := by
  obtain ⟨tgt, htgt⟩ : ∃ t, oddIdx l 0 = t := ⟨_, rfl⟩
  have T0 : Aside0 (oddIdx (l.drop 0) 0 = tgt) := ⟨htgt⟩
  rw [htgt]
  clear htgt
  have HR := Aside0.mk hr
  obtain ⟨n, hn⟩ : ∃ n, l.length = n := ⟨_, rfl⟩
  have HN := Aside0.mk hn
  rw [hn] at hl ⊢
  clear hn hr
  go_enter Tryd.func73, Tryd.ntmps73
  go_wp2
  go_loop [8] (fun i => ∃ k : Nat, k ≤ n ∧ i = .int .i64 k ∧ Aside0 (oddIdx (l.drop k) k = tgt)) (fun i => n - (intOf i).toNat)
  case atStart => exact ⟨0, Nat.zero_le _, rfl, T0⟩
  case round =>
    clear T0
    obtain ⟨k, hk, rfl, T⟩ := hrel
    by_cases hlt : k < n
    · obtain ⟨ad, cs, rfl, h1, h2, h3⟩ := Kd.C_get HR.out ⟨#[]⟩ (k : Int) (by omega) (by rw [HN.out]; omega)
      have hx : l[k]? = some (l.getD k ⟨#[]⟩) := by rw [List.getD_eq_getElem?_getD, List.getElem?_eq_getElem (by rw [HN.out]; exact hlt)]; rfl
      have hd : l.drop k = l.getD k ⟨#[]⟩ :: l.drop (k + 1) := by
        rw [List.drop_eq_getElem_cons (by rw [HN.out]; exact hlt)]
        congr 1
        rw [List.getD_eq_getElem?_getD, List.getElem?_eq_getElem (by rw [HN.out]; exact hlt)]
        rfl
      have T' := T.out
      rw [hd] at T'
      simp only [oddIdx] at T'
      have h2' : cs = [.string (l.getD k ⟨#[]⟩)] := h2
      subst h2'
      have hc := h3 0 _ rfl
      have e : (k : Int).toNat * Kd.string.sz + 0 = k := by show (k : Int).toNat * 1 + 0 = k; omega
      rw [e] at hc
      clear h1 h2 h3 hx hd e T
      generalize l.getD k ⟨#[]⟩ = x at *
      have hkI : (k : Int) < (n : Int) := by omega
      have ok : (0 : Int) ≤ (k : Int) := by omega
      have ODD := Aside0.mk (odd_any x w)
      cases hb : isDig x with
      | true =>
        have T2 : Aside0 (oddIdx (l.drop (k + 1)) (k + 1) = tgt) := ⟨by rw [hb] at T'; simpa using T'⟩
        rw [hb] at ODD
        clear hb T'
        go_wp2_with (go_at_call 61; go_must (refine ODD.out.mono ?_); rintro e w' ⟨rfl, rfl⟩)
        go_round
        case rel => exact ⟨k + 1, by omega, by go_num, T2⟩
        case measure => simp [intOf]; omega
      | false =>
        have T2 : Aside0 ((k : Int) = tgt) := ⟨by rw [hb] at T'; simpa using T'⟩
        rw [hb] at ODD
        clear hb T'
        go_wp2_with (go_at_call 61; go_must (refine ODD.out.mono ?_); rintro e w' ⟨rfl, rfl⟩)
        go_ret
        exact ⟨congrArg (fun v => Ending.returned (.int .i64 v)) T2.out, rfl⟩
    · obtain rfl : k = n := by omega
      have T2 : Aside0 ((-1 : Int) = tgt) := ⟨by have := T.out; rw [List.drop_of_length_le (by rw [HN.out]; exact Nat.le_refl _)] at this; exact this⟩
      clear T
      go_wp2
      go_ret
      exact ⟨congrArg (fun v => Ending.returned (.int .i64 v)) T2.out, rfl⟩
theorem all_any (A : Option Addr) (c : Nat) (l : List ByteArray) (w : World) (hr : Kd.C Kd.string w A l.length l) (hl : l.length ≤ 1000000) :
    Calls Tryd.prog 45 #[.slice A l.length c] w fun e w' => e = .returned (.bool (l.all isDig)) ∧ w = w' := by
  have H := Aside0.mk (indexFunc_any A c l w hr hl)
  have hq := oddIdx_all l 0
  have hge := oddIdx_ge l 0
  obtain ⟨q, hqq⟩ : ∃ q, oddIdx l 0 = q := ⟨_, rfl⟩
  rw [hqq] at H hq hge
  clear hqq
  obtain ⟨b, hb⟩ : ∃ b, l.all isDig = b := ⟨_, rfl⟩
  rw [hb] at hq ⊢
  have hq2 : decide (0 ≤ q) = !b := hq
  clear hq hb hr
  generalize l.length = n at *
  have C : Aside0 (∀ W : World, W = w → Calls Tryd.prog 62 #[.slice A n c, .func (.func 61) #[] #[]] W fun e w' => e = .returned (.bool (!b)) ∧ w = w') := ⟨fun W hW => by
    subst hW
    go_enter Tryd.func62, Tryd.ntmps62
    go_wp2_with (go_at_call 73; go_must (refine H.out.mono ?_); rintro e w' ⟨rfl, rfl⟩)
    go_ret
    exact ⟨by first | rfl | rw [hq2], rfl⟩⟩
  clear hq2 hge
  go_enter Tryd.func45, Tryd.ntmps45
  go_wp2_with (go_at_call 62; go_must (refine (C.out _ rfl).mono ?_); rintro e w' ⟨rfl, rfl⟩)
  go_ret
  exact ⟨by simp, rfl⟩
end Go.Proofs.YtabjfogmcehemaaDoor
end

section
namespace Go.Proofs.YtabjfogmcehemaaDoor
open Go.RowKit Go.Shelf Go.Proofs.YtabjfogmcehemaaDoorW.PrintWords Go.Proofs.YtabjfogmcehemaaDoorW.PrintLast Go.Proofs.YtabjfogmcehemaaDoorW.PrintMore
set_option linter.unusedVariables false
set_option linter.unusedSimpArgs false
attribute [local go_sem] Oper.semAt_some
attribute [local go_sem] max2_int min2_int max_two min_two
def encS (p : Nat × (ByteArray × Bool)) : Array Value := #[.int .i64 (p.1 : Nat), .agg #[.string p.2.1, .bool p.2.2]]
theorem backwardS_any (a : Option Addr) (l c : Nat) (w : World) :
    Calls Tryd.prog 47 #[.slice a l c] w fun e w' => e = .returned (.func (.func 63) #[] #[.pointer (some ⟨w.heap.size, 0, none⟩)]) ∧ w.alloc (.cells #[.slice a l c] 54) = w' := by
  go_enter Tryd.func47, Tryd.ntmps47
  go_wp2
  go_ret
  exact ⟨rfl, rfl⟩
set_option maxRecDepth 100000 in
set_option maxHeartbeats 4000000 in
theorem backS_gives (F : Fence) (n : Nat) (h63 : F.fn 63) (hro : F.round = none) (hn : 1 ≤ n) (S R c : Nat) (xs : List (ByteArray × Bool)) (hxl : xs.length ≤ 140737488355328) (w : World)
    (hS : w.heap[S]? = some (.cells #[.slice (some ⟨R, 0, none⟩) xs.length c] 54 (0, 0))) (hcell : ∀ j x, xs[j]? = some x → w.cell? ⟨R, j * 2, none⟩ = some (.string x.1) ∧ w.cell? ⟨R, j * 2 + 1, none⟩ = some (.bool x.2)) (hR : R < w.heap.size) :
    GivesFix F n Tryd.prog 63 #[.pointer (some ⟨S, 0, none⟩)] encS (backL (⟨#[]⟩, false) xs xs.length) (fun _ => False) (fun W W' => W'.heap[S]? = W.heap[S]? ∧ W'.heap[R]? = W.heap[R]?) w := by
  intro l J W hW hJ hY h0
  have h1 := (hW.block S (Array.getElem?_eq_some_iff.1 hS).1).trans hS
  have h2 := hW.block R hR
  clear hS hW
  refine callsIn_of_wp Tryd.func63 rfl h63 ?_ hro
  simp only [Tryd.ntmps63, List.size_toArray, List.length_cons, List.length_nil, Nat.reduceAdd, Nat.reduceSub, Array.replicate_succ, Array.replicate_zero, List.push_toArray, List.append_toArray, List.nil_append, List.cons_append]
  obtain ⟨c0, f0⟩ := cell_box h1
  have HX := Aside0.mk hcell
  clear hcell
  obtain ⟨m, hm⟩ : ∃ m, xs.length = m := ⟨_, rfl⟩
  have HM := Aside0.mk hm
  rw [hm] at hxl h1 c0
  have HB0 := Aside0.mk (show backL (⟨#[]⟩, false) xs xs.length = [] ++ backL (⟨#[]⟩, false) xs m by rw [hm]; rfl)
  clear hm
  gi_wp2
  clear c0 f0
  gi_loopw [3] (fun i wr => ∃ (pre : List (Nat × (ByteArray × Bool))) (k : Nat), k ≤ m ∧ i = .int .i64 ((k : Int) - 1) ∧ Aside0 (backL (⟨#[]⟩, false) xs xs.length = pre ++ backL (⟨#[]⟩, false) xs k) ∧ J pre wr ∧ wr.heap[S]? = some (.cells #[.slice (some ⟨R, 0, none⟩) m c] 54 (0, 0)) ∧ Aside0 (wr.heap[R]? = w.heap[R]?))
    (fun i _ => (intOf i + 1).toNat)
  case atStart => exact ⟨[], m, Nat.le_refl _, rfl, HB0, h0, h1, ⟨h2⟩⟩
  case round =>
    obtain ⟨pre, k, hk, rfl, HB, hJs, hb1, hb2⟩ := hrel
    obtain ⟨c1, f1⟩ := cell_box hb1
    clear h0 h1 h2 HB0
    by_cases hlt : 0 < k
    · obtain ⟨j, rfl⟩ : ∃ j, k = j + 1 := ⟨k - 1, by omega⟩
      have hjm : j < m := by omega
      obtain ⟨x, hx⟩ : ∃ x, xs[j]? = some x := ⟨_, List.getElem?_eq_getElem (by rw [HM.out]; omega)⟩
      have hB : backL (⟨#[]⟩, false) xs (j + 1) = (j, x) :: backL (⟨#[]⟩, false) xs j := by
        show (j, xs.getD j (⟨#[]⟩, false)) :: _ = _
        rw [List.getD_eq_getElem?_getD, hx]; rfl
      have hcx : wr.cell? ⟨R, j * 2, none⟩ = some (.string x.1) := (World.cell?_of_block (a := ⟨R, j * 2, none⟩) hb2.out).trans (HX.out j x hx).1
      have hcy : wr.cell? ⟨R, j * 2 + 1, none⟩ = some (.bool x.2) := (World.cell?_of_block (a := ⟨R, j * 2 + 1, none⟩) hb2.out).trans (HX.out j x hx).2
      have HBn : Aside0 (backL (⟨#[]⟩, false) xs xs.length = (pre ++ [(j, x)]) ++ backL (⟨#[]⟩, false) xs j) := ⟨by rw [HB.out, hB]; simp⟩
      obtain ⟨fn, tmps, assign, body, hy, hRr⟩ := hY pre (j, x) wr hJs (by rw [HBn.out]; exact List.prefix_append _ _)
      dsimp only [encS] at hy
      have HJ := Aside0.mk hJ
      clear hY hJ hJs hx hB HB hlt
      have e1 : ((j + 1 : Nat) : Int) - 1 = (j : Int) := by omega
      have e2 : (0 : Int) ≤ (j : Int) := by omega
      have e3 : (j : Int) < (m : Int) := by omega
      rw [e1]
      clear e1
      gi_wp2
      refine hRr.mono ?_
      rintro e W' ⟨rfl, hJ', hk1, hk2⟩
      have g1 : W'.heap[S]? = some (.cells #[.slice (some ⟨R, 0, none⟩) m c] 54 (0, 0)) := hk1.trans hb1
      have g2 : Aside0 (W'.heap[R]? = w.heap[R]?) := ⟨hk2.trans hb2.out⟩
      have GG := Aside0.mk (And.intro hJ' g1)
      clear g1 hJ' hk1 hk2 c1 f1 hcx hcy hb1 hb2 hRr hy
      gi_wp2
      refine ⟨⟨pre ++ [(j, x)], j, by omega, by go_num, HBn, GG.out.1, GG.out.2, g2⟩, ?_⟩
      simp [intOf]
    · obtain rfl : k = 0 := by omega
      have hB0 : backL (⟨#[]⟩, false) xs xs.length = pre := by rw [HB.out]; simp [backL]
      have HQ := Aside0.mk (show J (backL (⟨#[]⟩, false) xs xs.length) wr by rw [hB0]; exact hJs)
      clear hJs hJ hY HB hB0
      gi_wp2
      refine ⟨rfl, .tuple #[], by simp [results, Tryd.results63, go_sem], ⟨_, rfl⟩, HQ.out⟩
end Go.Proofs.YtabjfogmcehemaaDoor
end

section
namespace Go.Proofs.YtabjfogmcehemaaDoor
open Go Go.RowKit
set_option linter.unusedVariables false
set_option linter.unusedSimpArgs false
variable {F : Fence} {n : Nat} {P : Program}
theorem wpIn_rangeFunc_fixA {α : Type} {g : Operand} {ps : Array Tmp} {assign body : Code} {Q : Exit → Act → World → Prop} {a : Act} {w : World}
    (hro : F.round = none) (h1 : 1 ≤ n) {gf : Nat} {lb : Array Value} (hg : a.eval g = .func (.func gf) #[] lb) (hFg : F.fn gf) (eg : ∀ args w, (callFunc gf args).run P w = .ok (.enter gf args) w)
    {encs : α → Array Value} {Kp : World → World → Prop} {xs : List α} {Wr : Nat → Prop} {w0 : World} (hseq : GivesFix F (n - 1) P gf lb encs xs Wr Kp w0)
    (hWr : ∀ r, Wr r → r < w.heap.size)
    (hKt : ∀ {A B C : World}, Kp A B → Kp B C → Kp A C) (hKb : ∀ (W : World) (l : Nat) (o' : Obj), w.heap.size ≤ l → Kp W (W.putObj l o')) (hb0 : Below w0.heap.size w0 w) (hps : ∀ x, (encs x).size = ps.size)
    (I : List α → World → Prop) (hI : OwnW w.heap.size Wr I) (h0 : I [] w)
    (Ax : α → Act → World → Prop) (hAx : ∀ (x : α) (a' : Act) (W : World) (l : Nat) (r : Loop) (o' : Obj), Ax x a' W → W.heap[l]? = some (.loop r) → Ax x a' (W.putObj l o'))
    (hassign : ∀ (l : Nat) (pre : List α) (x : α) (W : World) (K : Act → World → Prop), I pre W → (∀ a' W1, Below W.heap.size W W1 → Kp W W1 → Ax x a' W1 → K a' W1) →
      assign.wpIn (F.inRound l) (n - 1 - 1) P (Exit.then K (fun _ _ _ => False)) { tmps := (ps.zip (encs x)).foldl (fun t (p, v) => t.setIfInBounds p v) a.tmps, defers := [] } W)
    (hbody : ∀ (l : Nat) (pre : List α) (x : α) (a' : Act) (W : World), I pre W → Ax x a' W → pre ++ [x] <+: xs → body.wpIn (F.inRound l) (n - 1 - 1) P (fixPost w.heap.size Kp I (pre ++ [x]) W) a' W)
    (hdone : ∀ (D : Nat) (W : World), w.heap.size ≤ D → I xs W → W.heap[D]? = some (.deferred (some [])) → Q .normal { a with defers := { target := .collected D, args := #[] } :: a.defers } W) :
    (Code.rangeFunc g ps assign body).wpIn F n P Q a w := by
  refine wpIn_rangeFunc ?_
  intro fn hfn
  rw [hro]
  obtain ⟨rec, hrec⟩ : ∃ rec : LoopState → Option Code → Loop, rec = fun st pe => { state := st, pending := pe, fn, tmps := a.tmps, params := ps, assign, body, defers := w.heap.size } := ⟨_, rfl⟩
  obtain ⟨W1, hW1⟩ : ∃ W1, (w.alloc (.deferred (some []))).alloc (.loop (rec .ready none)) = W1 := ⟨_, rfl⟩
  have hL1 : W1.heap[w.heap.size + 1]? = some (.loop (rec .ready none)) := by
    rw [← hW1]; have := World.alloc_heap_new (w.alloc (.deferred (some []))) (.loop (rec .ready none)); rwa [World.size_alloc] at this
  have hK1 : W1.heap[w.heap.size]? = some (.deferred (some [])) := by
    rw [← hW1]; exact (Below.heap_alloc _ _ _ (by simp)).trans (World.alloc_heap_new w _)
  have hI1 : I [] W1 := by rw [← hW1]; exact hI.alloc _ (hI.alloc _ h0)
  have hb1 : Below w0.heap.size w0 W1 := by
    rw [← hW1]; exact hb0.trans ((((Below.refl _ w).alloc (Nat.le_refl _) _).alloc (by simp) _).mono hb0.size)
  refine ⟨w.heap.size + 1, [{ target := .collected w.heap.size, args := #[] }], W1, { target := .fn (.func gf) lb, args := #[.func (.yield (w.heap.size + 1)) #[] #[]] }, W1, gf,
    #[.func (.yield (w.heap.size + 1)) #[] #[]] ++ lb, W1, ?_, ?_, ?_, ?_, fun _ => h1, ?_⟩
  · rw [← hW1, hrec]; exact run_enterLoop_outer _ _ _ _ _
  · simp only [resolve, hg]
    simp [go_sem]
  · intro f' hf'; simp [Target.leads] at hf'; subst hf'; exact hFg
  · simp [invoke, go_sem, eg]
  · have keep : ∀ {A B : World} {row : Option Nat}, A.grownBy B row → (∀ r, row = some r → Wr r) → ∀ {k : Nat} {o : Obj}, w.heap.size ≤ k → A.heap[k]? = some o → B.heap[k]? = some o := by
      intro A B row hg' hr k o hk ho
      exact (hg'.block k (Array.getElem?_eq_some_iff.1 ho).1 (fun e => by have := hWr k (hr k e.symm); omega)).trans ho
    refine (hseq (w.heap.size + 1)
      (fun pre W => I pre W ∧ W.heap[w.heap.size + 1]? = some (.loop (rec .ready none)) ∧ W.heap[w.heap.size]? = some (.deferred (some [])))
      W1 hb1
      (fun s A B row hs hg' hr => ⟨hI s A B row hs.1 hg' (fun r e => .inr (hr r e)), keep hg' hr (by omega) hs.2.1, keep hg' hr (Nat.le_refl _) hs.2.2⟩)
      ?_ ⟨hI1, hL1, hK1⟩).mono ?_
    · rintro pre x W ⟨hi, hl, hk⟩ hlen
      have hlt : w.heap.size + 1 < W.heap.size := (Array.getElem?_eq_some_iff.1 hl).1
      have hy := run_yield (P := P) (args := encs x) hl (by rw [hrec]; exact hps x)
      rw [hrec] at hy
      refine ⟨fn, _, assign, body, hy, roundIn_of_wpIn hfn (hassign _ pre x W _ hi (fun a' Wa hba hka hax => ⟨_, run_beginRound ((hba.block _ hlt).trans hl) (by rw [hrec]), ?_⟩))⟩
      have hla : Wa.heap[w.heap.size + 1]? = some (.loop (rec .ready none)) := (hba.block _ hlt).trans hl
      have hkka : Wa.heap[w.heap.size]? = some (.deferred (some [])) := (hba.block _ (by omega)).trans hk
      have hia : I pre Wa := hI pre W Wa none hi ⟨hba.os, hba.tape, hba.output, hba.size, fun k hk' _ => hba.block k hk'⟩ (fun r e => by cases e)
      have hlta : w.heap.size + 1 < Wa.heap.size := Nat.lt_of_lt_of_le hlt hba.size
      have hl2 : (Wa.putObj (w.heap.size + 1) (.loop { rec .ready none with state := .busy })).heap[w.heap.size + 1]? = some (.loop { rec .ready none with state := .busy }) := World.putObj_heap_same hlta
      have hk2 : (Wa.putObj (w.heap.size + 1) (.loop { rec .ready none with state := .busy })).heap[w.heap.size]? = some (.deferred (some [])) := (World.putObj_heap_other (by omega)).trans hkka
      have hw2 : Kp Wa (Wa.putObj (w.heap.size + 1) (.loop { rec .ready none with state := .busy })) := hKb _ _ _ (by omega)
      refine wpIn_mono (hbody _ pre x a' _ (hI.putObj _ hia (by omega) hla rfl) (hAx _ _ _ _ _ _ hax hla) hlen) ?_
      rintro e a3 W3 hp
      cases e with
      | normal =>
        obtain ⟨hk3, hkp3, hi3⟩ := hp
        have hl3 := hk3.same _ _ (by omega) hl2 rfl
        have hr := run_endRound (P := P) none hl3
        rw [hrec] at hr
        have hl4 : (W3.putObj (w.heap.size + 1) (.loop (rec .ready none))).heap[w.heap.size + 1]? = some (.loop (rec .ready none)) := World.putObj_heap_same (Array.getElem?_eq_some_iff.1 hl3).1
        have hk4 : (W3.putObj (w.heap.size + 1) (.loop (rec .ready none))).heap[w.heap.size]? = some (.deferred (some [])) := (World.putObj_heap_other (by omega)).trans (hk3.same _ _ (Nat.le_refl _) hk2 rfl)
        refine ⟨_, _, hr, rfl, ⟨?_, ?_, ?_⟩, hKt (hKt (hKt hka hw2) hkp3) (hKb _ _ _ (by omega))⟩
        · exact hI.putObj _ hi3 (by omega) hl3 rfl
        · rw [hrec] at hl4 ⊢; exact hl4
        · rw [hrec] at hk4; exact hk4
      | _ => exact hp.elim
    · rintro e W2 ⟨⟨v, rfl⟩, hi, hl, hk⟩
      exact ⟨none, _, by have := run_endLoop (P := P) hl (by rw [hrec]; simp); rw [hrec] at this; exact this, hdone _ _ (Nat.le_refl _) (hI.putObj _ hi (by omega) hl rfl) ((World.putObj_heap_other (by omega)).trans hk)⟩
theorem wpIn_rangeFunc_fixB {α : Type} {g : Operand} {ps : Array Tmp} {assign body : Code} {Q : Exit → Act → World → Prop} {a : Act} {w : World}
    (hro : F.round = none) (h1 : 1 ≤ n) {gf : Nat} {lb : Array Value} (hg : a.eval g = .func (.func gf) #[] lb) (hFg : F.fn gf) (eg : ∀ args w, (callFunc gf args).run P w = .ok (.enter gf args) w)
    {encs : α → Array Value} {Kp : World → World → Prop} {xs : List α} {Wr : Nat → Prop} {w0 : World} (hseq : GivesFix F (n - 1) P gf lb encs xs Wr Kp w0)
    (hWr : ∀ r, Wr r → r < w.heap.size)
    (hKt : ∀ {A B C : World}, Kp A B → Kp B C → Kp A C) (hKb : ∀ (W : World) (l : Nat) (o' : Obj), w.heap.size ≤ l → Kp W (W.putObj l o')) (hb0 : Below w0.heap.size w0 w) (hps : ∀ x, (encs x).size = ps.size)
    (I : List α → World → Prop) (hI : OwnW w.heap.size Wr I) (h0 : I [] w) (hsz : ∀ pre W, I pre W → w.heap.size ≤ W.heap.size) (hKa : ∀ pre W o, I pre W → Kp W (W.alloc o))
    (cs : α → Array Value) (ty : TypeId) (af : α → Nat → Act)
    (hassign : ∀ (l : Nat) (pre : List α) (x : α) (W : World) (K : Act → World → Prop), I pre W → (∀ b, W.heap.size = b → K (af x b) (W.alloc (.cells (cs x) ty))) →
      assign.wpIn (F.inRound l) (n - 1 - 1) P (Exit.then K (fun _ _ _ => False)) { tmps := (ps.zip (encs x)).foldl (fun t (p, v) => t.setIfInBounds p v) a.tmps, defers := [] } W)
    (hbody : ∀ (l : Nat) (pre : List α) (x : α) (b : Nat) (W : World), I pre W → w.heap.size ≤ b → W.heap[b]? = some (.cells (cs x) ty (0, 0)) → pre ++ [x] <+: xs → body.wpIn (F.inRound l) (n - 1 - 1) P (fixPost w.heap.size Kp I (pre ++ [x]) W) (af x b) W)
    (hdone : ∀ (D : Nat) (W : World), w.heap.size ≤ D → I xs W → W.heap[D]? = some (.deferred (some [])) → Q .normal { a with defers := { target := .collected D, args := #[] } :: a.defers } W) :
    (Code.rangeFunc g ps assign body).wpIn F n P Q a w := by
  refine wpIn_rangeFunc_fixA hro h1 hg hFg eg hseq hWr hKt hKb hb0 hps I hI h0 (fun x a' W => ∃ b, w.heap.size ≤ b ∧ W.heap[b]? = some (.cells (cs x) ty (0, 0)) ∧ a' = af x b) ?_ ?_ ?_ hdone
  · rintro x a' W l r o' ⟨b, hb1, hb2, hb3⟩ hl
    refine ⟨b, hb1, (World.putObj_heap_other ?_).trans hb2, hb3⟩
    intro e
    rw [← e, hb2] at hl
    cases hl
  · intro l pre x W K hi hK
    exact hassign l pre x W K hi (fun b hb => hK _ _ ((Below.refl _ _).alloc (Nat.le_refl _) _) (hKa pre W _ hi) ⟨b, by have := hsz pre W hi; omega, by rw [← hb]; exact World.alloc_heap_new _ _, rfl⟩)
  · rintro l pre x a' W hi ⟨b, hb1, hb2, rfl⟩ hpre
    exact hbody l pre x b W hi hb1 hb2 hpre
end Go.Proofs.YtabjfogmcehemaaDoor
end

section
namespace Go.Proofs.YtabjfogmcehemaaDoor
open Go.RowKit Go.Shelf Go.Proofs.YtabjfogmcehemaaDoorW.PrintWords Go.Proofs.YtabjfogmcehemaaDoorW.PrintLast Go.Proofs.YtabjfogmcehemaaDoorW.PrintMore
set_option linter.unusedVariables false
set_option linter.unusedSimpArgs false
attribute [local go_sem] Oper.semAt_some
attribute [local go_sem] max2_int min2_int max_two min_two
def joinS (x : ByteArray × Bool) (p : ByteArray) : ByteArray := if x.2 then nodeB x.1 p else nodeB p x.1
theorem joinS_size (x : ByteArray × Bool) (p : ByteArray) : (joinS x p).size = 32 := by unfold joinS; split <;> exact nodeB_size _ _
set_option maxRecDepth 100000 in
theorem join_any (x : ByteArray × Bool) (p : ByteArray) (w : World) (HG : Aside0 (Laid w)) (hs : x.1.size + p.size ≤ 35184372088832) :
    Calls Tryd.prog 48 #[.agg #[.string x.1, .bool x.2], .string p] w fun e w' => e = .returned (.string (joinS x p)) ∧ Below w.heap.size w w' := by
  obtain ⟨r, f⟩ := x
  cases f with
  | true =>
    have H : Aside0 (∀ W : World, Below w.heap.size w W → Calls Tryd.prog 32 #[.string r, .string p] W fun e w' => e = .returned (.string (nodeB r p)) ∧ Below w.heap.size w w') := ⟨fun W hb => (node_any r p W ⟨HG.out.below hb⟩ hs).mono fun e w' ⟨he, h⟩ => ⟨he, below_step hb h⟩⟩
    dsimp only [joinS]
    go_enter Tryd.func48, Tryd.ntmps48
    go_wp2_with (go_at_call 32; go_must (refine (H.out _ ((Below.refl _ _).alloc (Nat.le_refl _) _)).mono ?_); rintro e w' ⟨rfl, hb⟩)
    go_ret
    exact ⟨rfl, hb⟩
  | false =>
    have H : Aside0 (∀ W : World, Below w.heap.size w W → Calls Tryd.prog 32 #[.string p, .string r] W fun e w' => e = .returned (.string (nodeB p r)) ∧ Below w.heap.size w w') := ⟨fun W hb => (node_any p r W ⟨HG.out.below hb⟩ (by simp only at hs; omega)).mono fun e w' ⟨he, h⟩ => ⟨he, below_step hb h⟩⟩
    dsimp only [joinS]
    go_enter Tryd.func48, Tryd.ntmps48
    go_wp2_with (go_at_call 32; go_must (refine (H.out _ ((Below.refl _ _).alloc (Nat.le_refl _) _)).mono ?_); rintro e w' ⟨rfl, hb⟩)
    go_ret
    exact ⟨rfl, hb⟩
theorem take_none (A : Option Addr) (c : Nat) (w : World) :
    Calls Tryd.prog 46 #[.slice A 0 c] w fun e w' => e = .returned (.tuple #[.string ⟨#[]⟩, .slice none 0 0, .bool false]) ∧ Drawn0 w w' := by
  go_enter Tryd.func46, Tryd.ntmps46
  go_wp2
  exact bodyPost_ret (v := .tuple #[.string ⟨#[]⟩, .slice none 0 0, .bool false]) (by simp [results, Tryd.results46, go_sem]) rfl ⟨rfl, Drawn0.refl _⟩
theorem take_some (ad : Addr) (m c : Nat) (x : ByteArray) (w : World) (hc : w.cell? (ad.add m) = some (.string x)) (hm : m + 1 ≤ c) (hl : m ≤ 1000000) :
    Calls Tryd.prog 46 #[.slice (some ad) (m + 1) c] w fun e w' => e = .returned (.tuple #[.string x, .slice (some ad) m c, .bool true]) ∧ Drawn0 w w' := by
  have b1 : (0 : Int) ≤ (m : Int) := by omega
  have b2 : (m : Int) ≤ (c : Int) := by omega
  go_enter Tryd.func46, Tryd.ntmps46
  go_upto_region 4 with (fail)
  go_quiet ((fail))
  go_wp2
  exact bodyPost_ret (v := .tuple #[.string x, .slice (some ad) m c, .bool true]) (by simp [results, Tryd.results46, go_sem]) rfl ⟨rfl, ⟨_, rfl⟩⟩
def sidesV (way : List (ByteArray × Bool)) : List Value := way.flatMap fun x => [Value.string x.1, Value.bool x.2]
theorem sidesV_app (way : List (ByteArray × Bool)) (x : ByteArray × Bool) : sidesV (way ++ [x]) = sidesV way ++ [.string x.1, .bool x.2] := by
  simp [sidesV]
theorem sidesV_at (way : List (ByteArray × Bool)) : ∀ (j : Nat) (x : ByteArray × Bool), way[j]? = some x → (sidesV way)[j * 2]? = some (.string x.1) ∧ (sidesV way)[j * 2 + 1]? = some (.bool x.2) := by
  induction way with
  | nil => intro j x h; simp at h
  | cons y way ih =>
    intro j x h
    cases j with
    | zero => cases h; exact ⟨rfl, rfl⟩
    | succ j =>
      rw [List.getElem?_cons_succ] at h
      obtain ⟨h1, h2⟩ := ih j x h
      have e : sidesV (y :: way) = .string y.1 :: .bool y.2 :: sidesV way := rfl
      rw [e]
      refine ⟨?_, ?_⟩
      · rw [show (j + 1) * 2 = j * 2 + 1 + 1 by omega, List.getElem?_cons_succ, List.getElem?_cons_succ]; exact h1
      · rw [show (j + 1) * 2 + 1 = j * 2 + 1 + 1 + 1 by omega, List.getElem?_cons_succ, List.getElem?_cons_succ]; exact h2
theorem own_cellN {W : World} {base g n cap j size : Nat} {e : TypeId} {xs : List Value} {v : Value} (h : W.ownsRow base e size (.slice (some ⟨g, 0, none⟩) n cap) n xs) (hv : xs[j]? = some v) : W.cell? ⟨g, j, none⟩ = some v := by
  obtain ⟨h1, h2⟩ := h
  rcases h2 with ⟨h2, _⟩ | ⟨g', cap', cur, he, hg, hh, hn, hc, hs, ht⟩
  · cases h2
  · cases he
    unfold World.cell?
    rw [hh]
    simp only [Option.bind_some]
    rw [← ht, List.getElem?_take] at hv
    split at hv
    · rw [Array.getElem?_toList] at hv; exact hv
    · cases hv
theorem own_formN {w : World} {base n size : Nat} {e : TypeId} {v : Value} {xs : List Value} (h : w.ownsRow base e size v n xs) : (v = .slice none 0 0 ∧ n = 0) ∨ ∃ g cap, v = .slice (some ⟨g, 0, none⟩) n cap ∧ base ≤ g ∧ g < w.heap.size ∧ n ≤ cap := by
  rcases h.2 with ⟨h1, h2⟩ | ⟨g, cap, cur, rfl, hg, hh, hn, _⟩
  · exact .inl ⟨h1, h2⟩
  · exact .inr ⟨g, cap, rfl, hg, own_lt h g rfl, hn⟩
theorem info58 : (Tryd.prog.info? 58).map (fun i => (i.zero, i.size, i.bytes)) = some (some (.agg #[.string ⟨#[]⟩, .bool false]), 2, 24) := by kernel_rfl
set_option maxRecDepth 100000 in
set_option maxHeartbeats 4000000 in
theorem backS_nil (F : Fence) (n : Nat) (h63 : F.fn 63) (hro : F.round = none) (hn : 1 ≤ n) (S R : Nat) (w : World)
    (hS : w.heap[S]? = some (.cells #[.slice none 0 0] 54 (0, 0))) :
    GivesFix F n Tryd.prog 63 #[.pointer (some ⟨S, 0, none⟩)] encS [] (fun _ => False) (fun W W' => W'.heap[S]? = W.heap[S]? ∧ W'.heap[R]? = W.heap[R]?) w := by
  intro l J W hW hJ hY h0
  have h1 := (hW.block S (Array.getElem?_eq_some_iff.1 hS).1).trans hS
  clear hS hW hY hJ
  refine callsIn_of_wp Tryd.func63 rfl h63 ?_ hro
  simp only [Tryd.ntmps63, List.size_toArray, List.length_cons, List.length_nil, Nat.reduceAdd, Nat.reduceSub, Array.replicate_succ, Array.replicate_zero, List.push_toArray, List.append_toArray, List.nil_append, List.cons_append]
  obtain ⟨c0, f0⟩ := cell_box h1
  gi_wp2
  gi_loopw [3] (fun i wr => i = .int .i64 (-1) ∧ wr = W) (fun _ _ => 0)
  case atStart => exact ⟨rfl, rfl⟩
  case round =>
    obtain ⟨rfl, rfl⟩ := hrel
    gi_wp2
    refine ⟨rfl, .tuple #[], by simp [results, Tryd.results63, go_sem], ⟨_, rfl⟩, h0⟩
end Go.Proofs.YtabjfogmcehemaaDoor
end

section
namespace Go.Proofs.YtabjfogmcehemaaDoor
set_option linter.unusedVariables false
set_option linter.unusedSimpArgs false
def valR : List ByteArray → Nat → Nat → ByteArray → Option ByteArray
  | [], n, _, v => if n ≤ 1 then some v else none
  | x :: rp, n, i, v => if n ≤ 1 then none else if leftOf n ≤ i then (valR rp (n - leftOf n) (i - leftOf n) v).map (joinS (x, true)) else (valR rp (leftOf n) i v).map (joinS (x, false))
def foldS (way : List (ByteArray × Bool)) (v : ByteArray) : ByteArray := way.foldr joinS v
theorem foldS_snoc (way : List (ByteArray × Bool)) (x : ByteArray × Bool) (v : ByteArray) : foldS (way ++ [x]) v = foldS way (joinS x v) := by
  unfold foldS; rw [List.foldr_append]; rfl
def eqB (a b : ByteArray) : Bool := a.toList == b.toList
theorem toList_inj {s t : ByteArray} (h : s.toList = t.toList) : s = t := by
  rw [ByteArray.toList_eq, ByteArray.toList_eq] at h
  exact ByteArray.ext (Array.toList_inj.1 h)
theorem eqB_iff (a b : ByteArray) : eqB a b = true ↔ a = b := by
  unfold eqB
  rw [beq_iff_eq]
  exact ⟨toList_inj, fun h => by rw [h]⟩
def okB (o : Option ByteArray) (root : ByteArray) : Bool := match o with
  | none => false
  | some v => eqB v root
def verR (root : ByteArray) (n i : Int) (s : ByteArray) (proof : List ByteArray) : Bool :=
  decide (0 ≤ i) && (decide (i < n) && (proof.all isDig && okB (valR proof.reverse n.toNat i.toNat (leafB s)) root))
theorem map_foldS (way : List (ByteArray × Bool)) (x : ByteArray × Bool) (o : Option ByteArray) : (o.map (joinS x)).map (foldS way) = o.map (foldS (way ++ [x])) := by
  cases o with
  | none => rfl
  | some v => simp only [Option.map_some, foldS_snoc]
theorem valR_end0 (n i : Nat) (v : ByteArray) (h : n ≤ 1) : valR [] n i v = some v := by simp only [valR]; rw [if_pos h]
theorem valR_none (n i : Nat) (v : ByteArray) (h : ¬ n ≤ 1) : valR [] n i v = none := by simp only [valR]; rw [if_neg h]
theorem valR_end1 (x : ByteArray) (rp : List ByteArray) (n i : Nat) (v : ByteArray) (h : n ≤ 1) : valR (x :: rp) n i v = none := by simp only [valR]; rw [if_pos h]
theorem valR_hi (x : ByteArray) (rp : List ByteArray) (n i : Nat) (v : ByteArray) (h : ¬ n ≤ 1) (hi : leftOf n ≤ i) : valR (x :: rp) n i v = (valR rp (n - leftOf n) (i - leftOf n) v).map (joinS (x, true)) := by
  simp only [valR]; rw [if_neg h, if_pos hi]
theorem valR_lo (x : ByteArray) (rp : List ByteArray) (n i : Nat) (v : ByteArray) (h : ¬ n ≤ 1) (hi : ¬ leftOf n ≤ i) : valR (x :: rp) n i v = (valR rp (leftOf n) i v).map (joinS (x, false)) := by
  simp only [valR]; rw [if_neg h, if_neg hi]
def sideAt (v : ByteArray) (pre : List (Nat × (ByteArray × Bool))) : ByteArray := pre.foldl (fun out p => joinS p.2 out) v
theorem sideAt_next (v : ByteArray) (pre : List (Nat × (ByteArray × Bool))) (p : Nat × (ByteArray × Bool)) : sideAt v (pre ++ [p]) = joinS p.2 (sideAt v pre) := by
  unfold sideAt; rw [List.foldl_append]; rfl
theorem sideAt_size (v : ByteArray) (hv : v.size = 32) (pre : List (Nat × (ByteArray × Bool))) : (sideAt v pre).size = 32 := by
  have : ∀ (pre : List (Nat × (ByteArray × Bool))) (v : ByteArray), v.size = 32 → (pre.foldl (fun out p => joinS p.2 out) v).size = 32 := by
    intro pre
    induction pre with
    | nil => exact fun _ h => h
    | cons p pre ih => exact fun v h => ih _ (joinS_size _ _)
  exact this pre v hv
theorem sideAt_all (v : ByteArray) (way : List (ByteArray × Bool)) : sideAt v (backL (⟨#[]⟩, false) way way.length) = foldS way v := by
  have h := backL_snd ((⟨#[]⟩, false) : ByteArray × Bool) way _ (Nat.le_refl _)
  have e : ∀ (pre : List (Nat × (ByteArray × Bool))) (v : ByteArray), sideAt v pre = (pre.map (·.2)).foldl (fun out x => joinS x out) v := by
    intro pre v
    unfold sideAt
    rw [List.foldl_map]
  rw [e, h, List.take_length, List.foldl_reverse]
  rfl
def jj (x : ByteArray × Bool) (p : ByteArray × ByteArray) : ByteArray × ByteArray := (if x.2 then joinS x p.1 else p.1, joinS x p.2)
def bothR (old : ByteArray) : List ByteArray → Nat → Nat → Bool → Option (ByteArray × ByteArray)
  | [], m, n, whole => if n ≤ m then (if whole then some (old, old) else none) else none
  | x :: rp, m, n, whole => if n ≤ m then (if whole then none else (match rp with | [] => some (x, x) | _ :: _ => none))
      else if leftOf n < m then (bothR old rp (m - leftOf n) (n - leftOf n) false).map (jj (x, true)) else (bothR old rp m (leftOf n) whole).map (jj (x, false))
def foldJ (way : List (ByteArray × Bool)) (p : ByteArray × ByteArray) : ByteArray × ByteArray := way.foldr jj p
theorem foldJ_snoc (way : List (ByteArray × Bool)) (x : ByteArray × Bool) (v : ByteArray × ByteArray) : foldJ (way ++ [x]) v = foldJ way (jj x v) := by
  unfold foldJ; rw [List.foldr_append]; rfl
theorem map_foldJ (way : List (ByteArray × Bool)) (x : ByteArray × Bool) (o : Option (ByteArray × ByteArray)) : (o.map (jj x)).map (foldJ way) = o.map (foldJ (way ++ [x])) := by
  cases o with
  | none => rfl
  | some v => simp only [Option.map_some, foldJ_snoc]
theorem jj_size (x : ByteArray × Bool) (p : ByteArray × ByteArray) (h : p.1.size = 32) : (jj x p).1.size = 32 ∧ (jj x p).2.size = 32 := by
  refine ⟨?_, joinS_size _ _⟩
  unfold jj
  dsimp only
  split
  · exact joinS_size _ _
  · exact h
theorem bothR_none (old : ByteArray) (m n : Nat) (b : Bool) (h : m < n) : bothR old [] m n b = none := by simp only [bothR]; rw [if_neg (by omega)]
theorem bothR_end0 (old : ByteArray) (m n : Nat) (b : Bool) (h : n ≤ m) : bothR old [] m n b = if b then some (old, old) else none := by simp only [bothR]; rw [if_pos h]
theorem bothR_end1 (old x : ByteArray) (rp : List ByteArray) (m n : Nat) (b : Bool) (h : n ≤ m) : bothR old (x :: rp) m n b = if b then none else (match rp with | [] => some (x, x) | _ :: _ => none) := by simp only [bothR]; rw [if_pos h]
theorem bothR_hi (old x : ByteArray) (rp : List ByteArray) (m n : Nat) (b : Bool) (h : m < n) (hk : leftOf n < m) : bothR old (x :: rp) m n b = (bothR old rp (m - leftOf n) (n - leftOf n) false).map (jj (x, true)) := by
  simp only [bothR]; rw [if_neg (by omega), if_pos hk]
theorem bothR_lo (old x : ByteArray) (rp : List ByteArray) (m n : Nat) (b : Bool) (h : m < n) (hk : m ≤ leftOf n) : bothR old (x :: rp) m n b = (bothR old rp m (leftOf n) b).map (jj (x, false)) := by
  simp only [bothR]; rw [if_neg (by omega), if_neg (by omega)]
def okJ (o : Option (ByteArray × ByteArray)) (old root : ByteArray) : Bool := match o with
  | none => false
  | some p => eqB p.1 old && eqB p.2 root
def vexR (old : ByteArray) (m : Int) (root : ByteArray) (n : Int) (proof : List ByteArray) : Bool :=
  decide (0 ≤ m) && (decide (m ≤ n) && (proof.all isDig && (isDig old && (isDig root &&
    (if m = 0 then proof.isEmpty && eqB old (sumF ⟨#[]⟩) else if m = n then proof.isEmpty && eqB old root else okJ (bothR old proof.reverse m.toNat n.toNat true) old root)))))
def bothAt (v : ByteArray) (pre : List (Nat × (ByteArray × Bool))) : ByteArray × ByteArray := pre.foldl (fun out p => jj p.2 out) (v, v)
theorem bothAt_next (v : ByteArray) (pre : List (Nat × (ByteArray × Bool))) (p : Nat × (ByteArray × Bool)) : bothAt v (pre ++ [p]) = jj p.2 (bothAt v pre) := by
  unfold bothAt; rw [List.foldl_append]; rfl
theorem bothAt_size (v : ByteArray) (hv : v.size = 32) (pre : List (Nat × (ByteArray × Bool))) : (bothAt v pre).1.size = 32 ∧ (bothAt v pre).2.size = 32 := by
  have : ∀ (pre : List (Nat × (ByteArray × Bool))) (v : ByteArray × ByteArray), v.1.size = 32 ∧ v.2.size = 32 → (pre.foldl (fun out p => jj p.2 out) v).1.size = 32 ∧ (pre.foldl (fun out p => jj p.2 out) v).2.size = 32 := by
    intro pre
    induction pre with
    | nil => exact fun _ h => h
    | cons p pre ih => exact fun v h => ih _ (jj_size _ _ h.1)
  exact this pre (v, v) ⟨hv, hv⟩
theorem bothAt_all (v : ByteArray) (way : List (ByteArray × Bool)) : bothAt v (backL (⟨#[]⟩, false) way way.length) = foldJ way (v, v) := by
  have h := backL_snd ((⟨#[]⟩, false) : ByteArray × Bool) way _ (Nat.le_refl _)
  have e : ∀ (pre : List (Nat × (ByteArray × Bool))) (v : ByteArray × ByteArray), pre.foldl (fun out p => jj p.2 out) v = (pre.map (·.2)).foldl (fun out x => jj x out) v := by
    intro pre v
    rw [List.foldl_map]
  unfold bothAt
  rw [e, h, List.take_length, List.foldl_reverse]
  rfl
end Go.Proofs.YtabjfogmcehemaaDoor
end

section
namespace Go.Proofs.YtabjfogmcehemaaDoor
set_option linter.unusedVariables false
set_option linter.unusedSimpArgs false
def proofR : Nat → List ByteArray → Nat → List ByteArray
  | 0, _, _ => []
  | f + 1, l, i => if l.length = 1 then [] else
      if i < leftOf l.length then proofR f (l.take (leftOf l.length)) i ++ [rootS (l.drop (leftOf l.length))]
      else proofR f (l.drop (leftOf l.length)) (i - leftOf l.length) ++ [rootS (l.take (leftOf l.length))]
def extR : Nat → List ByteArray → Nat → Bool → List ByteArray
  | 0, _, _, _ => []
  | f + 1, l, m, whole => if l.length ≤ m then (if whole then [] else [rootS l]) else
      if leftOf l.length < m then extR f (l.drop (leftOf l.length)) (m - leftOf l.length) false ++ [rootS (l.take (leftOf l.length))]
      else extR f (l.take (leftOf l.length)) m whole ++ [rootS (l.drop (leftOf l.length))]
theorem proofR_one (f : Nat) (l : List ByteArray) (i : Nat) (h : l.length = 1) : proofR f l i = [] := by
  cases f with
  | zero => rfl
  | succ f => simp only [proofR]; rw [if_pos h]
theorem proofR_lo (f : Nat) (l : List ByteArray) (i : Nat) (h : l.length ≠ 1) (hi : i < leftOf l.length) : proofR (f + 1) l i = proofR f (l.take (leftOf l.length)) i ++ [rootS (l.drop (leftOf l.length))] := by
  simp only [proofR]; rw [if_neg h, if_pos hi]
theorem proofR_hi (f : Nat) (l : List ByteArray) (i : Nat) (h : l.length ≠ 1) (hi : leftOf l.length ≤ i) : proofR (f + 1) l i = proofR f (l.drop (leftOf l.length)) (i - leftOf l.length) ++ [rootS (l.take (leftOf l.length))] := by
  simp only [proofR]; rw [if_neg h, if_neg (by omega)]
theorem extR_end (f : Nat) (l : List ByteArray) (m : Nat) (b : Bool) (hf : 1 ≤ f) (h : l.length ≤ m) : extR f l m b = if b then [] else [rootS l] := by
  obtain ⟨f, rfl⟩ : ∃ g, f = g + 1 := ⟨f - 1, by omega⟩
  simp only [extR]; rw [if_pos h]
theorem extR_hi (f : Nat) (l : List ByteArray) (m : Nat) (b : Bool) (h : m < l.length) (hm : leftOf l.length < m) : extR (f + 1) l m b = extR f (l.drop (leftOf l.length)) (m - leftOf l.length) false ++ [rootS (l.take (leftOf l.length))] := by
  simp only [extR]; rw [if_neg (by omega), if_pos hm]
theorem extR_lo (f : Nat) (l : List ByteArray) (m : Nat) (b : Bool) (h : m < l.length) (hm : m ≤ leftOf l.length) : extR (f + 1) l m b = extR f (l.take (leftOf l.length)) m b ++ [rootS (l.drop (leftOf l.length))] := by
  simp only [extR]; rw [if_neg (by omega), if_neg (by omega)]
end Go.Proofs.YtabjfogmcehemaaDoor
end

section
namespace Go.Proofs.YtabjfogmcehemaaDoor.Tree
set_option linter.unusedVariables false
set_option linter.unusedSimpArgs false
theorem rootS_nil : rootS [] = sumF ⟨#[]⟩ := rfl
theorem collapse_one (k : Nat) (x : ByteArray × Nat) : collapse k [x] = [x] := by cases k <;> rfl
theorem collapse_ne (k : Nat) (x y : ByteArray × Nat) (t : Stk) (h : y.2 ≠ x.2) : collapse k (x :: y :: t) = x :: y :: t := by
  cases k with
  | zero => rfl
  | succ k => simp only [collapse]; rw [if_neg h]
theorem collapse_eq (k : Nat) (x y : ByteArray × Nat) (t : Stk) (h : y.2 = x.2) : collapse (k + 1) (x :: y :: t) = collapse k ((nodeB y.1 x.1, 2 * x.2) :: t) := by
  simp only [collapse]; rw [if_pos h]
def full : Nat → List ByteArray → ByteArray
  | 0, l => leafB (l.headD ⟨#[]⟩)
  | k + 1, l => nodeB (full k (l.take (2 ^ k))) (full k (l.drop (2 ^ k)))
theorem push_full : ∀ (k : Nat) (l : List ByteArray) (st : Stk), l.length = 2 ^ k → (∀ y t, st = y :: t → 2 ^ k ≤ y.2) → l.foldl pushS st = collapse (st.length + 1) ((full k l, 2 ^ k) :: st) := by
  intro k
  induction k with
  | zero =>
    intro l st hl _
    match l, hl with
    | [s], _ => rfl
  | succ k ih =>
    intro l st hl ht
    have hp : 2 ^ (k + 1) = 2 * 2 ^ k := by rw [Nat.pow_succ]; omega
    have hp0 : 0 < 2 ^ k := Nat.two_pow_pos k
    have h1 : (l.take (2 ^ k)).length = 2 ^ k := by rw [List.length_take]; omega
    have h2 : (l.drop (2 ^ k)).length = 2 ^ k := by rw [List.length_drop]; omega
    conv => lhs; rw [← List.take_append_drop (2 ^ k) l]
    rw [List.foldl_append, ih _ st h1 (fun y t e => by have := ht y t e; omega)]
    have e1 : collapse (st.length + 1) ((full k (l.take (2 ^ k)), 2 ^ k) :: st) = (full k (l.take (2 ^ k)), 2 ^ k) :: st := by
      cases st with
      | nil => exact collapse_one _ _
      | cons y t => exact collapse_ne _ _ _ _ (by have := ht y t rfl; show y.2 ≠ 2 ^ k; omega)
    rw [e1, ih _ _ h2 (fun y t e => by injection e with e _; subst e; exact Nat.le_refl _), List.length_cons, collapse_eq _ (full k (l.drop (2 ^ k)), 2 ^ k) (full k (l.take (2 ^ k)), 2 ^ k) st rfl]
    simp only [full]
    rw [hp]
theorem collapse_app (B : ByteArray × Nat) : ∀ (k k' : Nat) (S : Stk) (m : Nat), S ≠ [] → S.length ≤ k → S.length ≤ k' → Good S m → m < B.2 → collapse k' (S ++ [B]) = collapse k S ++ [B] := by
  intro k
  induction k with
  | zero => intro k' S m h0 h1 _ _ _; cases S with | nil => exact absurd rfl h0 | cons x t => simp at h1
  | succ k ih =>
    intro k' S m h0 h1 h2 hg hm
    match S, h0, h1, h2, hg with
    | [x], _, _, _, hg =>
      have := hg.le x (by simp)
      rw [collapse_one]
      exact collapse_ne _ _ _ _ (by omega)
    | x :: y :: t, _, h1, h2, hg =>
      simp only [List.length_cons] at h1 h2
      by_cases he : y.2 = x.2
      · obtain ⟨k', rfl⟩ : ∃ g, k' = g + 1 := ⟨k' - 1, by omega⟩
        rw [collapse_eq _ _ _ _ he]
        show collapse (k' + 1) (x :: y :: (t ++ [B])) = _
        rw [collapse_eq _ _ _ _ he]
        exact ih k' ((nodeB y.1 x.1, 2 * x.2) :: t) m (by simp) (by simp only [List.length_cons]; omega) (by simp only [List.length_cons]; omega) (hg.join he) hm
      · rw [collapse_ne _ _ _ _ he]
        show collapse k' (x :: y :: (t ++ [B])) = _
        rw [collapse_ne _ _ _ _ he]
        rfl
theorem fold_app (B : ByteArray × Nat) : ∀ (l : List ByteArray) (S : Stk) (m : Nat), Good S m → m + l.length < B.2 → l.foldl pushS (S ++ [B]) = l.foldl pushS S ++ [B] := by
  intro l
  induction l with
  | nil => intro S m _ _; rfl
  | cons s l ih =>
    intro S m hg hm
    simp only [List.length_cons] at hm
    simp only [List.foldl_cons]
    have e : pushS (S ++ [B]) s = pushS S s ++ [B] := by
      unfold pushS
      exact collapse_app B (S.length + 1) _ ((leafB s, 1) :: S) (m + 1) (by simp) (by simp) (by simp) (hg.push s) (by omega)
    rw [e]
    exact ih (pushS S s) (m + 1) (Good.collapse _ _ (hg.push s)) (by omega)
theorem finish_app (S : Stk) (B : ByteArray × Nat) (h : S ≠ []) : finishS (S ++ [B]) = nodeB B.1 (finishS S) := by
  cases S with
  | nil => exact absurd rfl h
  | cons x t => simp only [finishS, List.cons_append, List.foldl_append, List.foldl_cons, List.foldl_nil]
theorem stack_full (k : Nat) (l : List ByteArray) (h : l.length = 2 ^ k) : stackS l = [(full k l, 2 ^ k)] := by
  unfold stackS
  rw [push_full k l [] h (fun y t e => by cases e)]
  exact collapse_one _ _
theorem root_full (k : Nat) (l : List ByteArray) (h : l.length = 2 ^ k) : rootS l = full k l := by
  unfold rootS; rw [stack_full k l h]; rfl
theorem rootS_split (l : List ByteArray) (h : 2 ≤ l.length) : rootS l = nodeB (rootS (l.take (leftOf l.length))) (rootS (l.drop (leftOf l.length))) := by
  have h1 := leftOf_lt _ h
  have h2 := leftOf_ge _ h
  have hj : leftOf l.length = 2 ^ Nat.log2 (l.length - 1) := rfl
  generalize Nat.log2 (l.length - 1) = j at hj
  rw [hj] at h1 h2 ⊢
  have l1 : (l.take (2 ^ j)).length = 2 ^ j := by rw [List.length_take]; omega
  have l2 : (l.drop (2 ^ j)).length = l.length - 2 ^ j := List.length_drop
  have hs : stackS l = (l.drop (2 ^ j)).foldl pushS [(full j (l.take (2 ^ j)), 2 ^ j)] := by
    conv => lhs; rw [← List.take_append_drop (2 ^ j) l]
    rw [← stack_full j _ l1]
    unfold stackS
    rw [List.foldl_append]
  rw [root_full j _ l1]
  by_cases he : l.length - 2 ^ j = 2 ^ j
  · rw [root_full j (l.drop (2 ^ j)) (by rw [l2, he])]
    unfold rootS
    rw [hs, push_full j _ _ (by rw [l2, he]) (fun y t e => by injection e with e _; subst e; exact Nat.le_refl _), List.length_singleton, collapse_eq _ (full j (l.drop (2 ^ j)), 2 ^ j) (full j (l.take (2 ^ j)), 2 ^ j) [] rfl, collapse_one]
    rfl
  · unfold rootS
    have := fold_app (full j (l.take (2 ^ j)), 2 ^ j) (l.drop (2 ^ j)) [] 0 good_nil (by rw [l2]; show 0 + _ < 2 ^ j; omega)
    rw [List.nil_append] at this
    rw [hs, this]
    exact finish_app _ _ (stack_pos _ (by intro e; rw [e] at l2; simp at l2; omega))
theorem finish_size (st : Stk) (n : Nat) (h : Good st n) : (finishS st).size = 32 := by
  cases st with
  | nil => exact sumF_size _
  | cons x t =>
    have : ∀ (t : Stk) (v : ByteArray), v.size = 32 → (t.foldl (fun out p => nodeB p.1 out) v).size = 32 := by
      intro t
      induction t with
      | nil => exact fun v h => h
      | cons y t ih => exact fun v h => ih _ (nodeB_size _ _)
    exact this t _ (h.size x (by simp))
theorem rootS_size32 (l : List ByteArray) : (rootS l).size = 32 := finish_size _ _ (good_stack l)
theorem left_le (n j : Nat) (h : 2 ≤ n) (hj : n ≤ 2 ^ (j + 1)) : leftOf n ≤ 2 ^ j := by
  unfold leftOf
  have : Nat.log2 (n - 1) < j + 1 := (Nat.log2_lt (by omega)).2 (by omega)
  exact Nat.pow_le_pow_right (by decide) (by omega)
theorem proofR_len : ∀ (f : Nat) (l : List ByteArray) (i j : Nat), 1 ≤ l.length → l.length ≤ 2 ^ j → (proofR f l i).length ≤ j := by
  intro f
  induction f with
  | zero => intro l i j _ _; exact Nat.zero_le _
  | succ f ih =>
    intro l i j h0 hj
    by_cases h1 : l.length = 1
    · rw [proofR_one _ _ _ h1]; exact Nat.zero_le _
    · have hk := leftOf_lt l.length (by omega)
      have hg := leftOf_ge l.length (by omega)
      have hk0 := leftOf_pos l.length
      have e1 : (l.take (leftOf l.length)).length = leftOf l.length := by rw [List.length_take]; omega
      have e2 : (l.drop (leftOf l.length)).length = l.length - leftOf l.length := List.length_drop
      cases j with
      | zero => simp at hj; omega
      | succ j =>
        have hle := left_le _ j (by omega) hj
        by_cases hlo : i < leftOf l.length
        · rw [proofR_lo _ _ _ h1 hlo, List.length_append, List.length_singleton]
          have := ih (l.take (leftOf l.length)) i j (by omega) (by omega)
          omega
        · rw [proofR_hi _ _ _ h1 (by omega), List.length_append, List.length_singleton]
          have := ih (l.drop (leftOf l.length)) (i - leftOf l.length) j (by omega) (by omega)
          omega
theorem extR_len : ∀ (f : Nat) (l : List ByteArray) (m j : Nat) (b : Bool), 1 ≤ m → 1 ≤ l.length → l.length ≤ 2 ^ j → (extR f l m b).length ≤ j + 1 := by
  intro f
  induction f with
  | zero => intro l m j b _ _ _; exact Nat.zero_le _
  | succ f ih =>
    intro l m j b hm0 h0 hj
    by_cases hm : l.length ≤ m
    · rw [extR_end _ _ _ _ (by omega) hm]; split <;> simp
    · by_cases h1 : l.length = 1
      · omega
      · have hk := leftOf_lt l.length (by omega)
        have hg := leftOf_ge l.length (by omega)
        have hk0 := leftOf_pos l.length
        have e1 : (l.take (leftOf l.length)).length = leftOf l.length := by rw [List.length_take]; omega
        have e2 : (l.drop (leftOf l.length)).length = l.length - leftOf l.length := List.length_drop
        cases j with
        | zero => simp at hj; omega
        | succ j =>
          have hle := left_le _ j (by omega) hj
          by_cases hhi : leftOf l.length < m
          · rw [extR_hi _ _ _ _ (by omega) hhi, List.length_append, List.length_singleton]
            have := ih (l.drop (leftOf l.length)) (m - leftOf l.length) j false (by omega) (by omega) (by omega)
            omega
          · rw [extR_lo _ _ _ _ (by omega) (by omega), List.length_append, List.length_singleton]
            have := ih (l.take (leftOf l.length)) m j b hm0 (by omega) (by omega)
            omega
end Go.Proofs.YtabjfogmcehemaaDoor.Tree
end

section
namespace Go.Proofs.YtabjfogmcehemaaDoor
open Go.RowKit Go.Shelf Go.Proofs.YtabjfogmcehemaaDoorW.PrintWords Go.Proofs.YtabjfogmcehemaaDoorW.PrintLast Go.Proofs.YtabjfogmcehemaaDoorW.PrintMore
set_option linter.unusedVariables false
set_option linter.unusedSimpArgs false
attribute [local go_sem] Oper.semAt_some
attribute [local go_sem] max2_int min2_int max_two min_two max_three min_three max_four min_four
attribute [local go_sem ↓] Go.wp_at_zero Go.wp_at_succ
structure VSt (w : World) (way : List (ByteArray × Bool)) (v : Value) (W : World) : Prop where
  below : Below w.heap.size w W
  own : W.ownsRow w.heap.size 58 2 v way.length (sidesV way)
section
variable {w W w1 : World} {way : List (ByteArray × Bool)} {v : Value}
theorem VSt.grown (h : VSt w way v W) (hb : Below W.heap.size W w1) : VSt w way v w1 := ⟨below_step h.below hb, own_move h.own (fun k hk => hb.block k (own_lt h.own k hk))⟩
theorem VSt.alloc (h : VSt w way v W) (o : Obj) : VSt w way v (W.alloc o) := h.grown ((Below.refl _ _).alloc (Nat.le_refl _) o)
theorem VSt.drewN (h : VSt w way v W) (m : Nat) : VSt w way v (W.drewN m) := h.grown (pw_below_drewN (Below.refl _ _) m)
theorem VSt.push (h : VSt w way v W) {v' : Value} {x : ByteArray × Bool} (ho : w1.ownsRow w.heap.size 58 2 v' (way.length + 1) (sidesV way ++ [.string x.1, .bool x.2])) (hg : W.grownBy w1 v.ownBlock) : VSt w (way ++ [x]) v' w1 where
  below := h.below.grown hg h.below.size (fun k hk => own_base h.own k hk)
  own := by rw [List.length_append, List.length_singleton, sidesV_app]; exact ho
theorem VSt.gives (h : VSt w way v W) (F : Fence) (n : Nat) (h63 : F.fn 63) (hro : F.round = none) (hn : 1 ≤ n) (hl : way.length ≤ 1000000) (W0 : World) (hW0 : Below W.heap.size W W0) (S : Nat) (hS : W0.heap[S]? = some (.cells #[v] 54 (0, 0))) :
    ∃ R, (R = S ∨ R < W.heap.size ∧ w.heap.size ≤ R ∧ some R = v.ownBlock) ∧ GivesFix F n Tryd.prog 63 #[.pointer (some ⟨S, 0, none⟩)] encS (backL (⟨#[]⟩, false) way way.length) (fun _ => False) (fun W W' => W'.heap[S]? = W.heap[S]? ∧ W'.heap[R]? = W.heap[R]?) W0 := by
  rcases own_formN h.own with ⟨rfl, h0⟩ | ⟨g, c, rfl, hg1, hg2, hg3⟩
  · obtain rfl := List.eq_nil_of_length_eq_zero h0
    exact ⟨S, .inl rfl, backS_nil F n h63 hro hn S S W0 hS⟩
  · refine ⟨g, .inr ⟨hg2, hg1, rfl⟩, backS_gives F n h63 hro hn S g c way (by omega) W0 hS (fun j x hx => ?_) (Nat.lt_of_lt_of_le hg2 hW0.size)⟩
    obtain ⟨h1, h2⟩ := sidesV_at way j x hx
    exact ⟨pw_cell_below hW0 (own_cellN h.own h1), pw_cell_below hW0 (own_cellN h.own h2)⟩
end
theorem cell_two {b : Nat} {w : World} {u v : Value} {t : TypeId} (h : w.heap[b]? = some (.cells #[u, v] t (0, 0))) : w.cell? ⟨b, 0, none⟩ = some u ∧ w.cell? ⟨b, 1, none⟩ = some v := by
  unfold World.cell?
  simp [h]
theorem isDig_size {x : ByteArray} (h : isDig x = true) : x.size = 32 := by unfold isDig at h; exact beq_iff_eq.1 h
theorem take_last {α : Type} (l : List α) (m : Nat) (x : α) (h : l[m]? = some x) : (l.take (m + 1)).reverse = x :: (l.take m).reverse := by
  rw [List.take_add_one, h]; simp
set_option maxRecDepth 100000 in
set_option maxHeartbeats 8000000 in
theorem ver_good (root s : ByteArray) (n i : Nat) (A : Option Addr) (c : Nat) (proof : List ByteArray) (w : World) (HG : Aside0 (Laid w)) (hr : Kd.C Kd.string w A proof.length proof) (hc : proof.length ≤ c) (hl : proof.length ≤ 1000000)
    (hn : n ≤ 9223372036854775807) (hi : i < n) (hs : s.size ≤ 35184372088832) (hall : proof.all isDig = true) :
    Calls Tryd.prog 21 #[.string root, .int .i64 (n : Nat), .int .i64 (i : Nat), .string s, .slice A proof.length c] w fun e w' => e = .returned (.bool (okB (valR proof.reverse n i (leafB s)) root)) ∧ Below w.heap.size w w' := by
  refine (callsIn_wide (n := 5)).1 ?_
  refine callsIn_of_wp_marks Tryd.func21 rfl trivial ?_ rfl
  simp only [Tryd.ntmps21, List.size_toArray, List.length_cons, List.length_nil, Nat.reduceAdd, Nat.reduceSub, Array.replicate_succ, Array.replicate_zero, List.push_toArray, List.append_toArray, List.nil_append, List.cons_append]
  refine wpIn_wide.2 ?_
  obtain ⟨i58, hi58, hz58, hs58, hb58⟩ := info_parts info58
  have ALL := Aside0.mk (all_any A c proof w hr hl)
  rw [hall] at ALL
  have HALL := Aside0.mk hall
  have HR := Aside0.mk hr
  clear hr hall
  obtain ⟨tgt, htgt⟩ : ∃ tgt, valR proof.reverse n i (leafB s) = tgt := ⟨_, rfl⟩
  have T0 : Aside0 ((valR (proof.take proof.length).reverse n i (leafB s)).map (foldS []) = tgt) := ⟨by rw [List.take_length, htgt]; cases tgt <;> rfl⟩
  have HTGT := Aside0.mk htgt
  clear htgt
  obtain ⟨m0, hm0⟩ : ∃ m, proof.length = m := ⟨_, rfl⟩
  have HM0 := Aside0.mk hm0
  rw [hm0] at T0 ALL hl hc ⊢
  clear hm0
  have d1 : decide ((i : Int) < 0) = false := decide_eq_false (by omega)
  have d2 : decide ((n : Int) ≤ (i : Int)) = false := decide_eq_false (by omega)
  have d3 : decide (n ≤ i) = false := decide_eq_false (by omega)
  have hpos : 1 ≤ n := by omega
  go_wp2_with (go_at_call 45; go_must (refine ALL.out.mono ?_); rintro e w' ⟨rfl, rfl⟩)
  go_loopw [1, 2, 4, 11] (fun nv iv pv wv wr => ∃ (n' i' m : Nat) (way : List (ByteArray × Bool)), nv = .int .i64 (n' : Nat) ∧ iv = .int .i64 (i' : Nat) ∧ pv = .slice A m c ∧ 1 ≤ n' ∧ n' ≤ n ∧ i' < n' ∧ m ≤ m0 ∧ way.length + m ≤ m0 ∧ Aside0 (VSt w way wv wr) ∧ Aside0 (∀ x ∈ way, x.1.size = 32) ∧
      Aside0 ((valR (proof.take m).reverse n' i' (leafB s)).map (foldS way) = tgt)) (fun _ _ pv _ _ => lenV pv)
  case atStart => exact ⟨n, i, m0, [], rfl, rfl, rfl, hpos, Nat.le_refl _, hi, Nat.le_refl _, by simp, ⟨⟨Below.refl _ _, World.ownsRow_nil _ _ _ _⟩⟩, ⟨by simp⟩, T0⟩
  case round =>
    clear T0 ALL
    obtain ⟨n', i', m, way, rfl, rfl, rfl, h1, hn', hi', hm, hwm, V, HSD, T⟩ := hrel
    by_cases hone : n' ≤ 1
    · obtain rfl : n' = 1 := by omega
      obtain rfl : i' = 0 := by omega
      have HT : Aside0 ((if m = 0 then some (foldS way (leafB s)) else none) = tgt) := ⟨by
        have h := T.out
        cases m with
        | zero => rw [List.take_zero, List.reverse_nil, valR_end0 _ _ _ (Nat.le_refl _)] at h; exact h
        | succ m =>
          obtain ⟨x, hx⟩ : ∃ x, proof[m]? = some x := ⟨_, List.getElem?_eq_getElem (by rw [HM0.out]; omega)⟩
          rw [take_last proof m _ hx, valR_end1 _ _ _ _ _ (Nat.le_refl _)] at h
          exact h⟩
      have LEAF := Aside0.mk (leaf_any s wr ⟨HG.out.below V.out.below⟩ hs)
      have hwl : way.length ≤ 1000000 := by omega
      clear T
      obtain ⟨Aw, cw, rfl⟩ := own_slice V.out.own
      have hlz := leafB_size s
      have HFOLD := Aside0.mk (sideAt_all (leafB s) way)
      have HSIDE : Aside0 (∀ x ∈ way, x.1.size = 32) := ⟨HSD.out⟩
      go_wp2_with (first
        | (go_at_call 29; go_must (refine LEAF.out.mono ?_); rintro e w1 ⟨rfl, hb⟩; have V1 := Aside0.mk (V.out.grown hb); clear hb)
        | (go_at_call 47; go_must (refine (backwardS_any _ _ _ _).mono ?_); rintro e w2 ⟨rfl, rfl⟩))
      have hS1 : ((w1.alloc (.cells #[.string (leafB s)] 9)).alloc (.cells #[.slice Aw way.length cw] 54)).heap[w1.heap.size + 1]? = some (.cells #[.slice Aw way.length cw] 54 (0, 0)) := by
        have := World.alloc_heap_new (w1.alloc (.cells #[.string (leafB s)] 9)) (.cells #[.slice Aw way.length cw] 54)
        rwa [World.size_alloc] at this
      have hO : ((w1.alloc (.cells #[.string (leafB s)] 9)).alloc (.cells #[.slice Aw way.length cw] 54)).heap[w1.heap.size]? = some (.cells #[.string (leafB s)] 9 (0, 0)) := by
        rw [Below.heap_alloc _ _ _ (by simp)]; exact World.alloc_heap_new _ _
      have hsz : ((w1.alloc (.cells #[.string (leafB s)] 9)).alloc (.cells #[.slice Aw way.length cw] 54)).heap.size = w1.heap.size + 2 := by simp
      have hBW : Below w1.heap.size w1 ((w1.alloc (.cells #[.string (leafB s)] 9)).alloc (.cells #[.slice Aw way.length cw] 54)) := ((Below.refl _ _).alloc (Nat.le_refl _) _).alloc (by simp) _
      have hBl := below_step V1.out.below hBW
      have hwz := V1.out.below.size
      generalize (w1.alloc (.cells #[.string (leafB s)] 9)).alloc (.cells #[.slice Aw way.length cw] 54) = W0 at *
      refine (wpIn_wide (n := 5)).1 ?_
      have hin0 : ∀ {f : FuncId} {args : Array Value} {w : World} {R : Ending → World → Prop} (n : Nat), Calls Tryd.prog f args w R → CallsIn Fence.wide n Tryd.prog f args w R := fun n h => callsIn_wide.2 h
      have hF63 : Fence.wide.fn 63 := trivial
      have hF48 : Fence.wide.fn 48 := trivial
      have hFr : Fence.wide.round = none := rfl
      generalize Fence.wide = F at *
      obtain ⟨R, hRR, hgives⟩ := V1.out.gives F 4 hF63 hFr (by decide) hwl W0 hBW (w1.heap.size + 1) hS1
      have hR2 : R < W0.heap.size ∧ w.heap.size ≤ R ∧ R ≠ w1.heap.size := by omega
      obtain ⟨hR3, hR4, hR5⟩ := hR2
      clear hRR
      refine wpIn_rangeFunc_fixB (F := F) (n := 5) hFr (by decide) (gf := 63) (lb := #[.pointer (some ⟨w1.heap.size + 1, 0, none⟩)]) rfl hF63 (enters_of Tryd.func63 (by kernel_rfl) rfl)
        hgives (fun r e => e.elim) (fun h k => ⟨k.1.trans h.1, k.2.trans h.2⟩) ?zhkb (Below.refl _ _) (fun _ => rfl)
        (fun pre W => Below w.heap.size w W ∧ W.heap[w1.heap.size]? = some (.cells #[.string (sideAt (leafB s) pre)] 9 (0, 0)) ∧ W0.heap.size ≤ W.heap.size) ?zown ⟨hBl, hO, Nat.le_refl _⟩ (fun pre W h => h.2.2) (fun pre W o h => ⟨Below.heap_alloc _ _ _ (by have := h.2.2; omega), Below.heap_alloc _ _ _ (by have := h.2.2; omega)⟩)
        (fun x => #[.string x.2.1, .bool x.2.2]) 58 ?zaf ?zassign ?zbody ?zdone
      case zhkb =>
        intro W l o' hl
        exact ⟨World.putObj_heap_other (by omega), World.putObj_heap_other (by omega)⟩
      case zown =>
        rintro pre A B row ⟨h1, h2, h3⟩ hg hrow
        have hr : ∀ r, row = some r → W0.heap.size ≤ r := fun r e => by
          rcases hrow r e with ⟨h, _⟩ | h
          · exact h
          · exact h.elim
        exact ⟨h1.grown hg (by omega) (fun k e => by have := hr k e; omega), (hg.block _ (by omega) (fun e => by have := hr _ e.symm; omega)).trans h2, Nat.le_trans h3 hg.size⟩
      case zassign =>
        rintro l pre y W K ⟨h1, h2, h3⟩ hK
        simp only [encS]
        obtain ⟨b, hb⟩ : ∃ b, W.heap.size = b := ⟨_, rfl⟩
        have hK2 := hK b hb
        gi_wp2
        exact hK2
      case zbody =>
        rintro l pre ⟨j, r, f⟩ b W ⟨h1, h2, h3⟩ hb1 hb2 hpre
        have hmem := backL_mem (⟨#[]⟩, false) way _ (Nat.le_refl _) (j, r, f) (hpre.subset (by simp))
        have hzr := HSIDE.out (r, f) hmem
        have hzo := sideAt_size (leafB s) hlz pre
        obtain ⟨co, fo⟩ := cell_box h2
        obtain ⟨cb1, cb2⟩ := cell_two hb2
        have hj := join_any (r, f) (sideAt (leafB s) pre) W ⟨HG.out.below h1⟩ (by rw [hzr, hzo]; decide)
        have hin : CallsIn (F.inRound l) 2 Tryd.prog 48 #[.agg #[.string r, .bool f], .string (sideAt (leafB s) pre)] W _ := CallsIn.inRound l (hin0 _ hj)
        have HIN := Aside0.mk hin
        have HH := Aside0.mk (And.intro h1 (And.intro h2 h3))
        have HNX := Aside0.mk (sideAt_next (leafB s) pre (j, r, f))
        have hob : w1.heap.size ≠ b := by omega
        clear hin hj hmem hpre h1 h2 h3 hb2
        gi_wp2_with (gi_at_call 48; go_must (refine HIN.out.mono ?_); rintro e wn ⟨rfl, hb⟩; have hbn := (hb.block w1.heap.size (Array.getElem?_eq_some_iff.1 HH.out.2.1).1).trans HH.out.2.1; obtain ⟨co1, fo1⟩ := cell_box hbn; clear co fo)
        have hwb := below_step HH.out.1 hb
        have hsW := HH.out.2.2
        have hss := hb.size
        refine ⟨⟨by rw [World.size_setCell]; exact hss, fun i o hi ho _ => (Below.heap_setCell wn _ _ i (by simp; omega)).trans ((hb.block i (Array.getElem?_eq_some_iff.1 ho).1).trans ho)⟩,
          ⟨(Below.heap_setCell wn _ _ _ (by simp)).trans (hb.block _ (by omega)), (Below.heap_setCell wn _ _ _ (by simp; omega)).trans (hb.block _ (by omega))⟩,
          hwb.setCell (p := ⟨w1.heap.size, 0, none⟩) hwz _, ?_, by rw [World.size_setCell]; omega⟩
        rw [HNX.out]
        exact one_setCell hbn
      case zdone =>
        rintro D W hD ⟨h1, h2, h3⟩ hK
        rw [HFOLD.out] at h2
        obtain ⟨co, fo⟩ := cell_box h2
        have HBW := Aside0.mk h1
        have HKD := Aside0.mk hK
        have HD := Aside0.mk hD
        clear h1 h2 h3 hK hD hO hS1
        have hwD : w.heap.size ≤ D := by have := HD.out; omega
        have hfin : Aside0 (∀ b : Bool, okB tgt root = b → Below w.heap.size w (W.putObj D (.deferred none)) ∧ okB (valR proof.reverse n i (leafB s)) root = b) := ⟨fun b hb => ⟨HBW.out.trans (belowK_b (w := w) (Nat.le_refl _) W D _ _ hwD HKD.out rfl rfl), by rw [HTGT.out]; exact hb⟩⟩
        generalize foldS way (leafB s) = v at *
        cases m with
        | succ m =>
          have hb : okB tgt root = false := by rw [← HT.out, if_neg (by omega)]; rfl
          obtain ⟨q1, q2⟩ := hfin.out false hb
          have Q1 := Aside0.mk q1
          have Q2 := Aside0.mk q2
          clear q1 q2 hb
          have t3 : (((m + 1 : Nat) : Int) == 0) = false := by rw [beq_eq_false_iff_ne]; omega
          go_wp2
          refine ⟨by simp, .inl ⟨_, _, rfl, run_takeDeferred HKD.out, ?_⟩⟩
          exact ⟨.bool (okB (valR proof.reverse n i (leafB s)) root), by simp [results, Tryd.results21, go_sem]; rw [Q2.out], rfl, Q1.out⟩
        | zero =>
          cases hv : eqB v root with
          | true =>
            have hb : okB tgt root = true := by rw [← HT.out, if_pos rfl]; exact hv
            obtain ⟨q1, q2⟩ := hfin.out true hb
            have Q1 := Aside0.mk q1
            have Q2 := Aside0.mk q2
            have t4 : (v.toList == root.toList) = true := hv
            clear q1 q2 hb hv
            go_wp2
            refine ⟨by simp, .inl ⟨_, _, rfl, run_takeDeferred HKD.out, ?_⟩⟩
            exact ⟨.bool (okB (valR proof.reverse n i (leafB s)) root), by simp [results, Tryd.results21, go_sem]; rw [Q2.out], rfl, Q1.out⟩
          | false =>
            have hb : okB tgt root = false := by rw [← HT.out, if_pos rfl]; exact hv
            obtain ⟨q1, q2⟩ := hfin.out false hb
            have Q1 := Aside0.mk q1
            have Q2 := Aside0.mk q2
            have t4 : (v.toList == root.toList) = false := hv
            clear q1 q2 hb hv
            go_wp2
            refine ⟨by simp, .inl ⟨_, _, rfl, run_takeDeferred HKD.out, ?_⟩⟩
            exact ⟨.bool (okB (valR proof.reverse n i (leafB s)) root), by simp [results, Tryd.results21, go_sem]; rw [Q2.out], rfl, Q1.out⟩
    · have t1 : decide ((1 : Int) < (n' : Int)) = true := decide_eq_true (by omega)
      cases m with
      | zero =>
        have hnone : Aside0 (okB tgt root = false) := ⟨by
          have h := T.out
          rw [List.take_zero, List.reverse_nil, valR_none _ _ _ hone] at h
          rw [← h]; rfl⟩
        go_wp2_with (go_at_call 46; go_must (refine (take_none A c _).mono ?_); rintro e w' ⟨rfl, ⟨nd, rfl⟩⟩)
        refine ⟨.bool (okB (valR proof.reverse n i (leafB s)) root), by simp [results, Tryd.results21, go_sem]; rw [HTGT.out, hnone.out], rfl, pw_below_drewN V.out.below _⟩
      | succ m =>
        obtain ⟨x, hx⟩ : ∃ x, proof[m]? = some x := ⟨_, List.getElem?_eq_getElem (by rw [HM0.out]; omega)⟩
        obtain ⟨ad, cs, rfl, z1, z2, z3⟩ := Kd.C_get HR.out ⟨#[]⟩ (m : Int) (by omega) (by rw [HM0.out]; omega)
        have hxg : proof.getD m ⟨#[]⟩ = x := by rw [List.getD_eq_getElem?_getD, hx]; rfl
        have z2' : cs = [.string x] := by rw [← hxg]; exact z2
        subst z2'
        have hcw := z3 0 _ rfl
        rw [show (m : Int).toNat * Kd.string.sz + 0 = m by show (m : Int).toNat * 1 + 0 = m; omega] at hcw
        have TAKE := Aside0.mk (take_some ad m c x wr (pw_cell_below V.out.below hcw) (by omega) (by omega))
        have hrev := take_last proof m x hx
        rw [hrev] at T
        obtain ⟨k, hk⟩ : ∃ k, leftOf n' = k := ⟨_, rfl⟩
        have hk1 := leftOf_lt n' (by omega)
        have hk3 := leftOf_pos n'
        have LEFT : Aside0 (∀ W, Calls Tryd.prog 40 #[.int .i64 (n' : Nat)] W fun e w' => e = .returned (.int .i64 (k : Nat)) ∧ Drawn0 W w') := ⟨fun W => digest_left.calls _ _ W (by unfold digest_left.f; rw [if_pos (by omega)]; simp [hk])⟩
        have HK := Aside0.mk hk
        rw [hk] at hk1 hk3
        have hwl : way.length ≤ 1000000 := by omega
        have hxz : x.size = 32 := isDig_size (List.all_eq_true.1 HALL.out x (List.mem_of_getElem? hx))
        clear z1 z2 z3 hx hxg hrev hk
        by_cases hik : k ≤ i'
        · have t2 : decide ((k : Int) ≤ (i' : Int)) = true := decide_eq_true (by omega)
          have HSD2 : Aside0 (∀ y ∈ way ++ [(x, true)], y.1.size = 32) := ⟨by intro y hy; rcases List.mem_append.1 hy with hy | hy; exact HSD.out y hy; rw [List.mem_singleton.1 hy]; exact hxz⟩
          have T2 : Aside0 ((valR (proof.take m).reverse (n' - k) (i' - k) (leafB s)).map (foldS (way ++ [(x, true)])) = tgt) := ⟨by
            have h := T.out
            rw [valR_hi _ _ _ _ _ hone (by rw [HK.out]; exact hik), HK.out, map_foldS] at h
            exact h⟩
          have e1 : (n' : Int) - (k : Int) = ((n' - k : Nat) : Int) := by omega
          have e2 : (i' : Int) - (k : Int) = ((i' - k : Nat) : Int) := by omega
          clear T
          go_wp2_with (first
            | (go_at_call 46; go_must (refine TAKE.out.mono ?_); rintro e w1 ⟨rfl, ⟨nd, rfl⟩⟩)
            | (go_at_call 40; go_must (refine (LEFT.out _).mono ?_); rintro e w1 ⟨rfl, ⟨nd2, rfl⟩⟩)
            | (at_builtin; go_must (refine wpList_append_lies _ rfl _ _ 54 rfl w.heap.size 58 i58 (.agg #[.string ⟨#[]⟩, .bool false]) 2 24 Tryd.underlying54 hi58 hz58 hs58 hb58 rfl (by decide) _ _ _ rfl ((V.out.drewN _).alloc _).own _ 1 1 [.string x, .bool true] rfl rfl (World.news_of_block (cs := #[.string x, .bool true]) (t := 58) (fr := (0, 0)) (World.alloc_heap_new _ _)) (by simp [Value.oneCell']) (by decide) (by unfold maxLen; omega) (by omega) ((V.out.drewN _).alloc _).below.size _ rfl ?_); intro ga ca w2 ho hg hat hlt2; have V3 := Aside0.mk (((V.out.drewN _).alloc _).push (x := (x, true)) ho hg); clear ho hg hat))
          refine ⟨⟨n' - k, i' - k, m, way ++ [(x, true)], (by first | rfl | go_num | simp), (by first | rfl | go_num | simp), rfl, by omega, by omega, by omega, by omega, by simp; omega, V3, HSD2, T2⟩, ?_⟩
          simp [lenV]
        · have t2 : decide ((k : Int) ≤ (i' : Int)) = false := decide_eq_false (by omega)
          have HSD2 : Aside0 (∀ y ∈ way ++ [(x, false)], y.1.size = 32) := ⟨by intro y hy; rcases List.mem_append.1 hy with hy | hy; exact HSD.out y hy; rw [List.mem_singleton.1 hy]; exact hxz⟩
          have T2 : Aside0 ((valR (proof.take m).reverse k i' (leafB s)).map (foldS (way ++ [(x, false)])) = tgt) := ⟨by
            have h := T.out
            rw [valR_lo _ _ _ _ _ hone (by rw [HK.out]; exact hik), HK.out, map_foldS] at h
            exact h⟩
          clear T
          go_wp2_with (first
            | (go_at_call 46; go_must (refine TAKE.out.mono ?_); rintro e w1 ⟨rfl, ⟨nd, rfl⟩⟩)
            | (go_at_call 40; go_must (refine (LEFT.out _).mono ?_); rintro e w1 ⟨rfl, ⟨nd2, rfl⟩⟩)
            | (at_builtin; go_must (refine wpList_append_lies _ rfl _ _ 54 rfl w.heap.size 58 i58 (.agg #[.string ⟨#[]⟩, .bool false]) 2 24 Tryd.underlying54 hi58 hz58 hs58 hb58 rfl (by decide) _ _ _ rfl ((V.out.drewN _).alloc _).own _ 1 1 [.string x, .bool false] rfl rfl (World.news_of_block (cs := #[.string x, .bool false]) (t := 58) (fr := (0, 0)) (World.alloc_heap_new _ _)) (by simp [Value.oneCell']) (by decide) (by unfold maxLen; omega) (by omega) ((V.out.drewN _).alloc _).below.size _ rfl ?_); intro ga ca w2 ho hg hat hlt2; have V3 := Aside0.mk (((V.out.drewN _).alloc _).push (x := (x, false)) ho hg); clear ho hg hat))
          refine ⟨⟨k, i', m, way ++ [(x, false)], (by first | rfl | go_num | simp), (by first | rfl | go_num | simp), rfl, by omega, by omega, by omega, by omega, by simp; omega, V3, HSD2, T2⟩, ?_⟩
          simp [lenV]
end Go.Proofs.YtabjfogmcehemaaDoor
end

section
namespace Go.Proofs.YtabjfogmcehemaaDoor
open Go.RowKit Go.Shelf Go.Proofs.YtabjfogmcehemaaDoorW.PrintWords Go.Proofs.YtabjfogmcehemaaDoorW.PrintLast Go.Proofs.YtabjfogmcehemaaDoorW.PrintMore
set_option linter.unusedVariables false
set_option linter.unusedSimpArgs false
attribute [local go_sem] Oper.semAt_some
attribute [local go_sem] max2_int min2_int max_two min_two max_three min_three max_four min_four
attribute [local go_sem ↓] Go.wp_at_zero Go.wp_at_succ
theorem vex_bad (old root : ByteArray) (m n : Int) (A : Option Addr) (c p : Nat) (w : World) (h : m < 0 ∨ n < m) :
    Calls Tryd.prog 23 #[.string old, .int .i64 m, .string root, .int .i64 n, .slice A p c] w fun e w' => e = .returned (.bool false) ∧ Below w.heap.size w w' := by
  by_cases h1 : m < 0
  · have d1 : decide (m < 0) = true := decide_eq_true h1
    go_enter Tryd.func23, Tryd.ntmps23
    go_wp2
    go_ret
    exact ⟨rfl, Below.refl _ _⟩
  · have d1 : decide (m < 0) = false := decide_eq_false h1
    have d2 : decide (n < m) = true := decide_eq_true (by omega)
    go_enter Tryd.func23, Tryd.ntmps23
    go_wp2
    go_ret
    exact ⟨rfl, Below.refl _ _⟩
set_option maxRecDepth 100000 in
set_option maxHeartbeats 4000000 in
theorem vex_odd (old root : ByteArray) (m n : Int) (A : Option Addr) (c : Nat) (proof : List ByteArray) (w : World) (hr : Kd.C Kd.string w A proof.length proof) (hl : proof.length ≤ 1000000) (h0 : 0 ≤ m) (h1 : m ≤ n)
    (h : (proof.all isDig && (isDig old && isDig root)) = false) :
    Calls Tryd.prog 23 #[.string old, .int .i64 m, .string root, .int .i64 n, .slice A proof.length c] w fun e w' => e = .returned (.bool false) ∧ Below w.heap.size w w' := by
  have d1 : decide (m < 0) = false := decide_eq_false (by omega)
  have d2 : decide (n < m) = false := decide_eq_false (by omega)
  have ALL := Aside0.mk (all_any A c proof w hr hl)
  have D1 := Aside0.mk (isDigest_any old w)
  have D2 := Aside0.mk (isDigest_any root w)
  cases e1 : proof.all isDig with
  | false =>
    rw [e1] at ALL
    clear hr h e1
    generalize proof.length = p at *
    go_enter Tryd.func23, Tryd.ntmps23
    go_wp2_with (go_at_call 45; go_must (refine ALL.out.mono ?_); rintro e w' ⟨rfl, rfl⟩)
    go_ret
    exact ⟨rfl, Below.refl _ _⟩
  | true =>
    rw [e1] at ALL h
    cases e2 : isDig old with
    | false =>
      rw [e2] at D1
      clear hr h e1 e2
      generalize proof.length = p at *
      go_enter Tryd.func23, Tryd.ntmps23
      go_wp2_with (first | (go_at_call 45; go_must (refine ALL.out.mono ?_); rintro e w' ⟨rfl, rfl⟩) | (go_at_call 51; go_must (refine D1.out.mono ?_); rintro e w' ⟨rfl, rfl⟩))
      go_ret
      exact ⟨rfl, Below.refl _ _⟩
    | true =>
      rw [e2] at D1 h
      have e3 : isDig root = false := by simpa using h
      rw [e3] at D2
      clear hr h e1 e2 e3
      generalize proof.length = p at *
      go_enter Tryd.func23, Tryd.ntmps23
      go_wp2_with (first | (go_at_call 45; go_must (refine ALL.out.mono ?_); rintro e w' ⟨rfl, rfl⟩) | (go_at_call 51; refine D1.out.mono ?_; rintro e w' ⟨rfl, rfl⟩) | (go_at_call 51; go_must (refine D2.out.mono ?_); rintro e w' ⟨rfl, rfl⟩))
      go_ret
      exact ⟨rfl, Below.refl _ _⟩
set_option maxRecDepth 100000 in
set_option maxHeartbeats 4000000 in
theorem vex_zero (old root : ByteArray) (n : Int) (A : Option Addr) (c : Nat) (proof : List ByteArray) (w : World) (HG : Aside0 (Laid w)) (hr : Kd.C Kd.string w A proof.length proof) (hl : proof.length ≤ 1000000) (h1 : 0 ≤ n)
    (e1 : proof.all isDig = true) (e2 : isDig old = true) (e3 : isDig root = true) :
    Calls Tryd.prog 23 #[.string old, .int .i64 0, .string root, .int .i64 n, .slice A proof.length c] w fun e w' => e = .returned (.bool (proof.isEmpty && eqB old (sumF ⟨#[]⟩))) ∧ Below w.heap.size w w' := by
  have d2 : decide (n < 0) = false := decide_eq_false (by omega)
  have ALL := Aside0.mk (all_any A c proof w hr hl)
  have D1 := Aside0.mk (isDigest_any old w)
  have D2 := Aside0.mk (isDigest_any root w)
  have SUM := Aside0.mk (sum_any ⟨#[]⟩ w HG (by decide))
  rw [e1] at ALL
  rw [e2] at D1
  rw [e3] at D2
  cases proof with
  | cons x proof =>
    have t1 : (((x :: proof).length : Int) == 0) = false := by rw [beq_eq_false_iff_ne]; simp; omega
    have e4 : ((x :: proof).isEmpty && eqB old (sumF ⟨#[]⟩)) = false := rfl
    rw [e4]
    clear e1 e2 e3 e4 hr
    generalize (x :: proof).length = p at *
    go_enter Tryd.func23, Tryd.ntmps23
    go_wp2_with (first | (go_at_call 45; go_must (refine ALL.out.mono ?_); rintro e w' ⟨rfl, rfl⟩) | (go_at_call 51; refine D1.out.mono ?_; rintro e w' ⟨rfl, rfl⟩) | (go_at_call 51; go_must (refine D2.out.mono ?_); rintro e w' ⟨rfl, rfl⟩))
    go_ret
    exact ⟨rfl, Below.refl _ _⟩
  | nil =>
    have e4 : (([] : List ByteArray).isEmpty && eqB old (sumF ⟨#[]⟩)) = eqB old (sumF ⟨#[]⟩) := rfl
    rw [e4]
    clear e1 e2 e3 e4 hr
    obtain ⟨sm, hsm⟩ : ∃ sm, sumF ⟨#[]⟩ = sm := ⟨_, rfl⟩
    rw [hsm] at SUM ⊢
    clear hsm
    obtain ⟨b, hb⟩ : ∃ b, eqB old sm = b := ⟨_, rfl⟩
    rw [hb]
    have t1 : (old.toList == sm.toList) = b := hb
    clear hb
    go_enter Tryd.func23, Tryd.ntmps23
    go_wp2_with (first | (go_at_call 45; go_must (refine ALL.out.mono ?_); rintro e w' ⟨rfl, rfl⟩) | (go_at_call 51; refine D1.out.mono ?_; rintro e w' ⟨rfl, rfl⟩) | (go_at_call 51; go_must (refine D2.out.mono ?_); rintro e w' ⟨rfl, rfl⟩) | (go_at_call 30; go_must (refine SUM.out.mono ?_); rintro e w' ⟨rfl, hb⟩))
    go_ret
    exact ⟨rfl, hb⟩
set_option maxRecDepth 100000 in
set_option maxHeartbeats 4000000 in
theorem vex_eq (old root : ByteArray) (n : Int) (A : Option Addr) (c : Nat) (proof : List ByteArray) (w : World) (hr : Kd.C Kd.string w A proof.length proof) (hl : proof.length ≤ 1000000) (h1 : 0 < n)
    (e1 : proof.all isDig = true) (e2 : isDig old = true) (e3 : isDig root = true) :
    Calls Tryd.prog 23 #[.string old, .int .i64 n, .string root, .int .i64 n, .slice A proof.length c] w fun e w' => e = .returned (.bool (proof.isEmpty && eqB old root)) ∧ Below w.heap.size w w' := by
  have d1 : decide (n < 0) = false := decide_eq_false (by omega)
  have d3 : (n == 0) = false := by rw [beq_eq_false_iff_ne]; omega
  have ALL := Aside0.mk (all_any A c proof w hr hl)
  have D1 := Aside0.mk (isDigest_any old w)
  have D2 := Aside0.mk (isDigest_any root w)
  rw [e1] at ALL
  rw [e2] at D1
  rw [e3] at D2
  obtain ⟨b, hb⟩ : ∃ b, eqB old root = b := ⟨_, rfl⟩
  rw [hb]
  have t2 : (old.toList == root.toList) = b := hb
  clear hb
  cases proof with
  | cons x proof =>
    have t1 : (((x :: proof).length : Int) == 0) = false := by rw [beq_eq_false_iff_ne]; simp; omega
    have e4 : ((x :: proof).isEmpty && b) = false := rfl
    rw [e4]
    clear e1 e2 e3 e4 hr
    generalize (x :: proof).length = p at *
    go_enter Tryd.func23, Tryd.ntmps23
    go_wp2_with (first | (go_at_call 45; go_must (refine ALL.out.mono ?_); rintro e w' ⟨rfl, rfl⟩) | (go_at_call 51; refine D1.out.mono ?_; rintro e w' ⟨rfl, rfl⟩) | (go_at_call 51; go_must (refine D2.out.mono ?_); rintro e w' ⟨rfl, rfl⟩))
    go_ret
    exact ⟨rfl, Below.refl _ _⟩
  | nil =>
    have e4 : (([] : List ByteArray).isEmpty && b) = b := rfl
    rw [e4]
    clear e1 e2 e3 e4 hr
    go_enter Tryd.func23, Tryd.ntmps23
    go_wp2_with (first | (go_at_call 45; go_must (refine ALL.out.mono ?_); rintro e w' ⟨rfl, rfl⟩) | (go_at_call 51; refine D1.out.mono ?_; rintro e w' ⟨rfl, rfl⟩) | (go_at_call 51; go_must (refine D2.out.mono ?_); rintro e w' ⟨rfl, rfl⟩))
    go_ret
    exact ⟨rfl, Below.refl _ _⟩
structure ESt (w : World) (way : List (ByteArray × Bool)) (v : Value) (O1 O2 pp : Nat) (v0 : ByteArray) (tgt : Option (ByteArray × ByteArray)) (W : World) : Prop where
  size : v0.size = 32
  tgt : (if pp = 0 then some (foldJ way (v0, v0)) else none) = tgt
  v : VSt w way v W
  b1 : W.heap[O1]? = some (.cells #[.string v0] 9 (0, 0))
  b2 : W.heap[O2]? = some (.cells #[.string v0] 9 (0, 0))
theorem ESt.drewN {w W : World} {way : List (ByteArray × Bool)} {v : Value} {O1 O2 pp : Nat} {v0 : ByteArray} {tgt : Option (ByteArray × ByteArray)} (h : ESt w way v O1 O2 pp v0 tgt W) (n : Nat) : ESt w way v O1 O2 pp v0 tgt (W.drewN n) := ⟨h.size, h.tgt, h.v.drewN n, h.b1, h.b2⟩
theorem ESt.drew {w W : World} {way : List (ByteArray × Bool)} {v : Value} {O1 O2 pp : Nat} {v0 : ByteArray} {tgt : Option (ByteArray × ByteArray)} (h : ESt w way v O1 O2 pp v0 tgt W) : ESt w way v O1 O2 pp v0 tgt W.drew := h.drewN 1
theorem VSt.setCell {w W : World} {way : List (ByteArray × Bool)} {v : Value} (h : VSt w way v W) {b : Nat} (hb : w.heap.size ≤ b) (hne : some b ≠ v.ownBlock) (u : Value) : VSt w way v (W.setCell ⟨b, 0, none⟩ u) :=
  ⟨h.below.setCell (p := ⟨b, 0, none⟩) hb u, own_setCell h.own (p := ⟨b, 0, none⟩) hne u⟩
theorem VSt.ne {w W : World} {way : List (ByteArray × Bool)} {v : Value} (h : VSt w way v W) {b : Nat} {cs : Array Value} (hb : W.heap[b]? = some (.cells cs 9 (0, 0))) : some b ≠ v.ownBlock := own_ne h.own hb (by decide)
structure BSt (w : World) (O1 O2 N : Nat) (q : ByteArray × ByteArray) (W : World) : Prop where
  below : Below w.heap.size w W
  b1 : W.heap[O1]? = some (.cells #[.string q.1] 9 (0, 0))
  b2 : W.heap[O2]? = some (.cells #[.string q.2] 9 (0, 0))
  size : N ≤ W.heap.size
theorem BSt.call {w W W' : World} {O1 O2 N : Nat} {q : ByteArray × ByteArray} (h : BSt w O1 O2 N q W) (hb : Below W.heap.size W W') : BSt w O1 O2 N q W' :=
  ⟨below_step h.below hb, (hb.block _ (Array.getElem?_eq_some_iff.1 h.b1).1).trans h.b1, (hb.block _ (Array.getElem?_eq_some_iff.1 h.b2).1).trans h.b2, Nat.le_trans h.size hb.size⟩
theorem BSt.set1 {w W : World} {O1 O2 N : Nat} {q : ByteArray × ByteArray} (h : BSt w O1 O2 N q W) (hw : w.heap.size ≤ O1) (hne : O2 ≠ O1) (v : ByteArray) : BSt w O1 O2 N (v, q.2) (W.setCell ⟨O1, 0, none⟩ (.string v)) :=
  ⟨h.below.setCell (p := ⟨O1, 0, none⟩) hw _, one_setCell h.b1, (Below.heap_setCell _ _ _ _ hne).trans h.b2, by rw [World.size_setCell]; exact h.size⟩
theorem BSt.set2 {w W : World} {O1 O2 N : Nat} {q : ByteArray × ByteArray} (h : BSt w O1 O2 N q W) (hw : w.heap.size ≤ O2) (hne : O1 ≠ O2) (v : ByteArray) : BSt w O1 O2 N (q.1, v) (W.setCell ⟨O2, 0, none⟩ (.string v)) :=
  ⟨h.below.setCell (p := ⟨O2, 0, none⟩) hw _, (Below.heap_setCell _ _ _ _ hne).trans h.b1, one_setCell h.b2, by rw [World.size_setCell]; exact h.size⟩
structure KB (N S R : Nat) (W W' : World) : Prop where
  k : KeepsFrom N W W'
  s : W'.heap[S]? = W.heap[S]?
  r : W'.heap[R]? = W.heap[R]?
theorem KB.refl (N S R : Nat) (W : World) : KB N S R W W := ⟨KeepsFrom.refl N W, rfl, rfl⟩
theorem KB.call {N S R : Nat} {W W1 W2 : World} (h : KB N S R W W1) (hb : Below W1.heap.size W1 W2) (hS : S < W1.heap.size) (hR : R < W1.heap.size) : KB N S R W W2 :=
  ⟨h.k.trans ⟨hb.size, fun i o _ ho _ => (hb.block i (Array.getElem?_eq_some_iff.1 ho).1).trans ho⟩, (hb.block S hS).trans h.s, (hb.block R hR).trans h.r⟩
theorem KB.set {N S R : Nat} {W W1 : World} (h : KB N S R W W1) (O : Nat) (hO : O < N) (hS : S ≠ O) (hR : R ≠ O) (v : Value) : KB N S R W (W1.setCell ⟨O, 0, none⟩ v) :=
  ⟨h.k.trans ⟨by rw [World.size_setCell]; exact Nat.le_refl _, fun i o hi ho _ => (Below.heap_setCell W1 _ _ i (by simp; omega)).trans ho⟩, (Below.heap_setCell _ _ _ _ hS).trans h.s, (Below.heap_setCell _ _ _ _ hR).trans h.r⟩
set_option maxRecDepth 100000 in
set_option maxHeartbeats 16000000 in
theorem vex_main (old root : ByteArray) (m0 n0 : Nat) (A : Option Addr) (c : Nat) (proof : List ByteArray) (w : World) (HG : Aside0 (Laid w)) (hr : Kd.C Kd.string w A proof.length proof) (hc : proof.length ≤ c) (hl : proof.length ≤ 1000000)
    (hn : n0 ≤ 9223372036854775807) (hm : 0 < m0) (hmn : m0 < n0) (e1 : proof.all isDig = true) (e2 : isDig old = true) (e3 : isDig root = true) :
    Calls Tryd.prog 23 #[.string old, .int .i64 (m0 : Nat), .string root, .int .i64 (n0 : Nat), .slice A proof.length c] w fun e w' => e = .returned (.bool (okJ (bothR old proof.reverse m0 n0 true) old root)) ∧ Below w.heap.size w w' := by
  refine (callsIn_wide (n := 5)).1 ?_
  refine callsIn_of_wp_marks Tryd.func23 rfl trivial ?_ rfl
  simp only [Tryd.ntmps23, List.size_toArray, List.length_cons, List.length_nil, Nat.reduceAdd, Nat.reduceSub, Array.replicate_succ, Array.replicate_zero, List.push_toArray, List.append_toArray, List.nil_append, List.cons_append]
  refine wpIn_wide.2 ?_
  obtain ⟨i58, hi58, hz58, hs58, hb58⟩ := info_parts info58
  have ALL := Aside0.mk (all_any A c proof w hr hl)
  have D1 := Aside0.mk (isDigest_any old w)
  have D2 := Aside0.mk (isDigest_any root w)
  rw [e1] at ALL
  rw [e2] at D1
  rw [e3] at D2
  have HALL := Aside0.mk e1
  have hzo := isDig_size e2
  have HR := Aside0.mk hr
  clear hr e1 e2 e3
  obtain ⟨tgt, htgt⟩ : ∃ tgt, bothR old proof.reverse m0 n0 true = tgt := ⟨_, rfl⟩
  have T0 : Aside0 ((bothR old (proof.take proof.length).reverse m0 n0 true).map (foldJ []) = tgt) := ⟨by rw [List.take_length, htgt]; cases tgt <;> rfl⟩
  have HTGT := Aside0.mk htgt
  clear htgt
  obtain ⟨p0, hp0⟩ : ∃ p, proof.length = p := ⟨_, rfl⟩
  have HP0 := Aside0.mk hp0
  rw [hp0] at T0 ALL hl hc ⊢
  clear hp0
  have d1 : decide ((m0 : Int) < 0) = false := decide_eq_false (by omega)
  have d2 : decide ((n0 : Int) < (m0 : Int)) = false := decide_eq_false (by omega)
  have d3 : decide (n0 < m0) = false := decide_eq_false (by omega)
  have d4 : ((m0 : Int) == 0) = false := by rw [beq_eq_false_iff_ne]; omega
  have d5 : ((m0 : Int) == (n0 : Int)) = false := by rw [beq_eq_false_iff_ne]; omega
  go_wp2_with (first | (go_at_call 45; go_must (refine ALL.out.mono ?_); rintro e w' ⟨rfl, rfl⟩) | (go_at_call 51; refine D1.out.mono ?_; rintro e w' ⟨rfl, rfl⟩) | (go_at_call 51; go_must (refine D2.out.mono ?_); rintro e w' ⟨rfl, rfl⟩))
  go_loopw [1, 3, 4, 11, 12] (fun iv nv pv wv bv wr => ∃ (n' m' p : Nat) (way : List (ByteArray × Bool)) (bw : Bool), nv = .int .i64 (n' : Nat) ∧ iv = .int .i64 (m' : Nat) ∧ pv = .slice A p c ∧ bv = .bool bw ∧ 0 < m' ∧ m' ≤ n' ∧ n' ≤ n0 ∧ p ≤ p0 ∧ way.length + p ≤ p0 ∧ Aside0 (VSt w way wv wr) ∧ Aside0 (∀ x ∈ way, x.1.size = 32) ∧
      Aside0 ((bothR old (proof.take p).reverse m' n' bw).map (foldJ way) = tgt)) (fun _ _ pv _ _ _ => lenV pv)
  case atStart => exact ⟨n0, m0, p0, [], true, rfl, rfl, rfl, rfl, hm, by omega, Nat.le_refl _, Nat.le_refl _, by simp, ⟨⟨Below.refl _ _, World.ownsRow_nil _ _ _ _⟩⟩, ⟨by simp⟩, T0⟩
  case round =>
    clear T0 ALL D1 D2
    obtain ⟨n', m', p, way, bw, rfl, rfl, rfl, rfl, h1, hmn', hn', hp, hwp, V, HSD, T⟩ := hrel
    by_cases hone : m' < n'
    · have t1 : decide ((m' : Int) < (n' : Int)) = true := decide_eq_true (by omega)
      cases p with
      | zero =>
        have hnone : Aside0 (okJ tgt old root = false) := ⟨by
          have h := T.out
          rw [List.take_zero, List.reverse_nil, bothR_none _ _ _ _ hone] at h
          rw [← h]; rfl⟩
        go_wp2_with (go_at_call 46; go_must (refine (take_none A c _).mono ?_); rintro e w' ⟨rfl, ⟨nd, rfl⟩⟩)
        refine ⟨.bool (okJ (bothR old proof.reverse m0 n0 true) old root), by simp [results, Tryd.results23, go_sem]; rw [HTGT.out, hnone.out], rfl, pw_below_drewN V.out.below _⟩
      | succ p =>
        obtain ⟨x, hx⟩ : ∃ x, proof[p]? = some x := ⟨_, List.getElem?_eq_getElem (by rw [HP0.out]; omega)⟩
        obtain ⟨ad, cs, rfl, z1, z2, z3⟩ := Kd.C_get HR.out ⟨#[]⟩ (p : Int) (by omega) (by rw [HP0.out]; omega)
        have hxg : proof.getD p ⟨#[]⟩ = x := by rw [List.getD_eq_getElem?_getD, hx]; rfl
        have z2' : cs = [.string x] := by rw [← hxg]; exact z2
        subst z2'
        have hcw := z3 0 _ rfl
        rw [show (p : Int).toNat * Kd.string.sz + 0 = p by show (p : Int).toNat * 1 + 0 = p; omega] at hcw
        have TAKE := Aside0.mk (take_some ad p c x wr (pw_cell_below V.out.below hcw) (by omega) (by omega))
        have hrev := take_last proof p x hx
        rw [hrev] at T
        obtain ⟨k, hk⟩ : ∃ k, leftOf n' = k := ⟨_, rfl⟩
        have hk1 := leftOf_lt n' (by omega)
        have hk3 := leftOf_pos n'
        have LEFT : Aside0 (∀ W, Calls Tryd.prog 40 #[.int .i64 (n' : Nat)] W fun e w' => e = .returned (.int .i64 (k : Nat)) ∧ Drawn0 W w') := ⟨fun W => digest_left.calls _ _ W (by unfold digest_left.f; rw [if_pos (by omega)]; simp [hk])⟩
        have HK := Aside0.mk hk
        rw [hk] at hk1 hk3
        have hwl : way.length ≤ 1000000 := by omega
        have hxz : x.size = 32 := isDig_size (List.all_eq_true.1 HALL.out x (List.mem_of_getElem? hx))
        clear z1 z2 z3 hx hxg hrev hk
        by_cases hik : k < m'
        · have t2 : decide ((k : Int) < (m' : Int)) = true := decide_eq_true (by omega)
          have HSD2 : Aside0 (∀ y ∈ way ++ [(x, true)], y.1.size = 32) := ⟨by intro y hy; rcases List.mem_append.1 hy with hy | hy; exact HSD.out y hy; rw [List.mem_singleton.1 hy]; exact hxz⟩
          have T2 : Aside0 ((bothR old (proof.take p).reverse (m' - k) (n' - k) false).map (foldJ (way ++ [(x, true)])) = tgt) := ⟨by
            have h := T.out
            rw [bothR_hi _ _ _ _ _ _ hone (by rw [HK.out]; exact hik), HK.out, map_foldJ] at h
            exact h⟩
          have e1 : (n' : Int) - (k : Int) = ((n' - k : Nat) : Int) := by omega
          have e2 : (m' : Int) - (k : Int) = ((m' - k : Nat) : Int) := by omega
          clear T
          go_wp2_with (first
            | (go_at_call 46; go_must (refine TAKE.out.mono ?_); rintro e w1 ⟨rfl, ⟨nd, rfl⟩⟩)
            | (go_at_call 40; go_must (refine (LEFT.out _).mono ?_); rintro e w1 ⟨rfl, ⟨nd2, rfl⟩⟩)
            | (at_builtin; go_must (refine wpList_append_lies _ rfl _ _ 54 rfl w.heap.size 58 i58 (.agg #[.string ⟨#[]⟩, .bool false]) 2 24 Tryd.underlying54 hi58 hz58 hs58 hb58 rfl (by decide) _ _ _ rfl ((V.out.drewN _).alloc _).own _ 1 1 [.string x, .bool true] rfl rfl (World.news_of_block (cs := #[.string x, .bool true]) (t := 58) (fr := (0, 0)) (World.alloc_heap_new _ _)) (by simp [Value.oneCell']) (by decide) (by unfold maxLen; omega) (by omega) ((V.out.drewN _).alloc _).below.size _ rfl ?_); intro ga ca w2 ho hg hat hlt2; have V3 := Aside0.mk (((V.out.drewN _).alloc _).push (x := (x, true)) ho hg); clear ho hg hat))
          refine ⟨⟨n' - k, m' - k, p, way ++ [(x, true)], false, (by first | rfl | go_num | simp), (by first | rfl | go_num | simp), rfl, rfl, by omega, by omega, by omega, by omega, by simp; omega, V3, HSD2, T2⟩, ?_⟩
          simp [lenV]
        · have t2 : decide ((k : Int) < (m' : Int)) = false := decide_eq_false (by omega)
          have HSD2 : Aside0 (∀ y ∈ way ++ [(x, false)], y.1.size = 32) := ⟨by intro y hy; rcases List.mem_append.1 hy with hy | hy; exact HSD.out y hy; rw [List.mem_singleton.1 hy]; exact hxz⟩
          have T2 : Aside0 ((bothR old (proof.take p).reverse m' k bw).map (foldJ (way ++ [(x, false)])) = tgt) := ⟨by
            have h := T.out
            rw [bothR_lo _ _ _ _ _ _ hone (by rw [HK.out]; omega), HK.out, map_foldJ] at h
            exact h⟩
          clear T
          go_wp2_with (first
            | (go_at_call 46; go_must (refine TAKE.out.mono ?_); rintro e w1 ⟨rfl, ⟨nd, rfl⟩⟩)
            | (go_at_call 40; go_must (refine (LEFT.out _).mono ?_); rintro e w1 ⟨rfl, ⟨nd2, rfl⟩⟩)
            | (at_builtin; go_must (refine wpList_append_lies _ rfl _ _ 54 rfl w.heap.size 58 i58 (.agg #[.string ⟨#[]⟩, .bool false]) 2 24 Tryd.underlying54 hi58 hz58 hs58 hb58 rfl (by decide) _ _ _ rfl ((V.out.drewN _).alloc _).own _ 1 1 [.string x, .bool false] rfl rfl (World.news_of_block (cs := #[.string x, .bool false]) (t := 58) (fr := (0, 0)) (World.alloc_heap_new _ _)) (by simp [Value.oneCell']) (by decide) (by unfold maxLen; omega) (by omega) ((V.out.drewN _).alloc _).below.size _ rfl ?_); intro ga ca w2 ho hg hat hlt2; have V3 := Aside0.mk (((V.out.drewN _).alloc _).push (x := (x, false)) ho hg); clear ho hg hat))
          refine ⟨⟨k, m', p, way ++ [(x, false)], bw, (by first | rfl | go_num | simp), (by first | rfl | go_num | simp), rfl, rfl, by omega, by omega, by omega, by omega, by simp; omega, V3, HSD2, T2⟩, ?_⟩
          simp [lenV]
    · obtain rfl : m' = n' := by omega
      obtain ⟨Aw, cw, rfl⟩ := own_slice V.out.own
      have hwl : way.length ≤ 1000000 := by omega
      have VA : Aside0 (VSt w way (.slice Aw way.length cw) ((wr.alloc (.cells #[.string old] 9)).alloc (.cells #[.string old] 9))) := ⟨(V.out.alloc _).alloc _⟩
      have HO1 : Aside0 (((wr.alloc (.cells #[.string old] 9)).alloc (.cells #[.string old] 9)).heap[wr.heap.size]? = some (.cells #[.string old] 9 (0, 0))) := ⟨by rw [Below.heap_alloc _ _ _ (by simp)]; exact World.alloc_heap_new _ _⟩
      have HO2 : Aside0 (((wr.alloc (.cells #[.string old] 9)).alloc (.cells #[.string old] 9)).heap[wr.heap.size + 1]? = some (.cells #[.string old] 9 (0, 0))) := ⟨by
        have := World.alloc_heap_new (wr.alloc (.cells #[.string old] 9)) (.cells #[.string old] 9)
        rwa [World.size_alloc] at this⟩
      go_upto_if 102 with (fail)
      go_cut [4] from 103 to 111 (fun pv wx => ∃ (v0 : ByteArray) (A' : Option Addr) (pp c' : Nat), pv = .slice A' pp c' ∧ Aside0 (ESt w way (.slice Aw way.length cw) wr.heap.size (wr.heap.size + 1) pp v0 tgt wx))
      case first =>
        cases bw with
        | true =>
          have hE : Aside0 (ESt w way (.slice Aw way.length cw) wr.heap.size (wr.heap.size + 1) p old tgt ((wr.alloc (.cells #[.string old] 9)).alloc (.cells #[.string old] 9))) := ⟨⟨hzo, by
            have h := T.out
            cases p with
            | zero => rw [List.take_zero, List.reverse_nil, bothR_end0 _ _ _ _ (Nat.le_refl _)] at h; exact h
            | succ p =>
              obtain ⟨x, hx⟩ : ∃ x, proof[p]? = some x := ⟨_, List.getElem?_eq_getElem (by rw [HP0.out]; omega)⟩
              rw [take_last proof p x hx, bothR_end1 _ _ _ _ _ _ (Nat.le_refl _)] at h
              exact h, VA.out, HO1.out, HO2.out⟩⟩
          go_wp2_with fail
          go_meet
          exact ⟨old, A, p, c, rfl, hE⟩
        | false =>
          by_cases hp1 : p = 1
          · subst hp1
            obtain ⟨x, hx⟩ : ∃ x, proof[0]? = some x := ⟨_, List.getElem?_eq_getElem (by rw [HP0.out]; omega)⟩
            obtain ⟨ad, cs, rfl, z1, z2, z3⟩ := Kd.C_get HR.out ⟨#[]⟩ 0 (by omega) (by rw [HP0.out]; omega)
            have hxg : proof.getD (0 : Int).toNat ⟨#[]⟩ = x := by show proof.getD 0 ⟨#[]⟩ = x; rw [List.getD_eq_getElem?_getD, hx]; rfl
            have z2' : cs = [.string x] := by rw [← hxg]; exact z2
            subst z2'
            have hcw := z3 0 _ rfl
            rw [show (0 : Int).toNat * Kd.string.sz + 0 = 0 by rfl, add0] at hcw
            have hxz : x.size = 32 := isDig_size (List.all_eq_true.1 HALL.out x (List.mem_of_getElem? hx))
            have hadw : ad.block < w.heap.size := World.block_lt_of_cell? w _ hcw
            have hcr := pw_cell_below V.out.below hcw
            have hwz := V.out.below.size
            have hT1 : some (foldJ way (x, x)) = tgt := by
              have h := T.out
              rw [take_last proof 0 x hx, bothR_end1 _ _ _ _ _ _ (Nat.le_refl _), List.take_zero, List.reverse_nil] at h
              exact h
            have HT1 := Aside0.mk hT1
            clear z1 z2 z3 hxg hx hT1 T
            have hcA : ((wr.alloc (.cells #[.string old] 9)).alloc (.cells #[.string old] 9)).cell? ad = some (.string x) := cellN_old (by simp; omega) (cellN_old (by omega) hcr)
            clear hcr
            obtain ⟨WA, hWA⟩ : ∃ WA, (wr.alloc (.cells #[.string old] 9)).alloc (.cells #[.string old] 9) = WA := ⟨_, rfl⟩
            rw [hWA] at VA HO1 HO2 hcA
            go_upto_region 23 with (fail)
            try rw [hWA]
            clear hWA
            obtain ⟨c1, f1⟩ := cell_box HO1.out
            obtain ⟨c2, f2⟩ := cell_box HO2.out
            have n1 : ad.block ≠ wr.heap.size := by omega
            have n2 : ad.block ≠ wr.heap.size + 1 := by omega
            have n3 : ∀ v, (WA.setCell ⟨wr.heap.size, 0, none⟩ v).cell? ad = some (.string x) := fun v => (World.cell?_setCell_far WA ⟨wr.heap.size, 0, none⟩ ad v (by simp; omega)).trans hcA
            have n4 : ∀ v, (WA.setCell ⟨wr.heap.size + 1, 0, none⟩ v).cell? ad = some (.string x) := fun v => (World.cell?_setCell_far WA ⟨wr.heap.size + 1, 0, none⟩ ad v (by simp; omega)).trans hcA
            have hne := VA.out.ne HO1.out
            have hne2 := VA.out.ne HO2.out
            have E1 : ESt w way (.slice Aw way.length cw) wr.heap.size (wr.heap.size + 1) 0 x tgt ((WA.setCell ⟨wr.heap.size, 0, none⟩ (.string x)).setCell ⟨wr.heap.size + 1, 0, none⟩ (.string x)) :=
              ⟨hxz, by rw [if_pos rfl]; exact HT1.out, (VA.out.setCell hwz hne _).setCell (by omega) hne2 _, (Below.heap_setCell _ _ _ _ (by simp)).trans (one_setCell HO1.out), one_setCell ((Below.heap_setCell _ _ _ _ (by simp)).trans HO2.out)⟩
            have E2 : ESt w way (.slice Aw way.length cw) wr.heap.size (wr.heap.size + 1) 0 x tgt ((WA.setCell ⟨wr.heap.size + 1, 0, none⟩ (.string x)).setCell ⟨wr.heap.size, 0, none⟩ (.string x)) :=
              ⟨hxz, by rw [if_pos rfl]; exact HT1.out, (VA.out.setCell (by omega) hne2 _).setCell hwz hne _, one_setCell ((Below.heap_setCell _ _ _ _ (by simp)).trans HO1.out), (Below.heap_setCell _ _ _ _ (by simp)).trans (one_setCell HO2.out)⟩
            have H1 := Aside0.mk E1
            have H2 := Aside0.mk E2
            clear E1 E2 hne hne2
            refine wp_region_noPanic ?_
            go_region_law ((fail))
            all_goals (refine NoPanic.normal ?_; go_wp2_with fail; go_meet; exact ⟨x, none, 0, 0, rfl, ⟨by first | exact H1.out.drew | exact H2.out.drew | exact H1.out.drewN _ | exact H2.out.drewN _⟩⟩)
          · have hnone : Aside0 (okJ tgt old root = false) := ⟨by
              have h := T.out
              cases p with
              | zero => rw [List.take_zero, List.reverse_nil, bothR_end0 _ _ _ _ (Nat.le_refl _)] at h; rw [← h]; rfl
              | succ p =>
                obtain ⟨x, hx⟩ : ∃ x, proof[p]? = some x := ⟨_, List.getElem?_eq_getElem (by rw [HP0.out]; omega)⟩
                rw [take_last proof p x hx, bothR_end1 _ _ _ _ _ _ (Nat.le_refl _)] at h
                cases p with
                | zero => omega
                | succ p =>
                  obtain ⟨y, hy⟩ : ∃ y, proof[p]? = some y := ⟨_, List.getElem?_eq_getElem (by rw [HP0.out]; omega)⟩
                  rw [take_last proof p y hy] at h
                  rw [← h]; rfl⟩
            have t3 : ((p : Int) == 1) = false := by rw [beq_eq_false_iff_ne]; omega
            clear T
            go_wp2
            refine ⟨.bool (okJ (bothR old proof.reverse m0 n0 true) old root), by simp [results, Tryd.results23, go_sem]; rw [HTGT.out, hnone.out], rfl, VA.out.below⟩
      case rest =>
        obtain ⟨v0, A', pp, c', rfl, E⟩ := hcut
        have hwz := V.out.below.size
        clear HO1 HO2 VA T V
        have hO1 := (Array.getElem?_eq_some_iff.1 E.out.b1).1
        have hO2 := (Array.getElem?_eq_some_iff.1 E.out.b2).1
        have HFOLD := Aside0.mk (bothAt_all v0 way)
        have hvz := E.out.size
        go_wp2_with (go_at_call 47; go_must (refine (backwardS_any _ _ _ _).mono ?_); rintro e w2 ⟨rfl, rfl⟩)
        have hS1 : (wc.alloc (.cells #[.slice Aw way.length cw] 54)).heap[wc.heap.size]? = some (.cells #[.slice Aw way.length cw] 54 (0, 0)) := World.alloc_heap_new _ _
        have hB0 : BSt w wr.heap.size (wr.heap.size + 1) (wc.alloc (.cells #[.slice Aw way.length cw] 54)).heap.size (v0, v0) (wc.alloc (.cells #[.slice Aw way.length cw] 54)) :=
          ⟨E.out.v.below.alloc E.out.v.below.size _, (Below.heap_alloc _ _ _ hO1).trans E.out.b1, (Below.heap_alloc _ _ _ hO2).trans E.out.b2, Nat.le_refl _⟩
        have hsz : (wc.alloc (.cells #[.slice Aw way.length cw] 54)).heap.size = wc.heap.size + 1 := by simp
        have hBW : Below wc.heap.size wc (wc.alloc (.cells #[.slice Aw way.length cw] 54)) := (Below.refl _ _).alloc (Nat.le_refl _) _
        have hwc := E.out.v.below.size
        have hneR := E.out.v.ne E.out.b1
        have hneR2 := E.out.v.ne E.out.b2
        generalize wc.alloc (.cells #[.slice Aw way.length cw] 54) = W0 at *
        refine (wpIn_wide (n := 5)).1 ?_
        have hin0 : ∀ {f : FuncId} {args : Array Value} {w : World} {R : Ending → World → Prop} (n : Nat), Calls Tryd.prog f args w R → CallsIn Fence.wide n Tryd.prog f args w R := fun n h => callsIn_wide.2 h
        have hF63 : Fence.wide.fn 63 := trivial
        have hF48 : Fence.wide.fn 48 := trivial
        have hFr : Fence.wide.round = none := rfl
        generalize Fence.wide = F at *
        obtain ⟨R, hRR, hgives⟩ := E.out.v.gives F 4 hF63 hFr (by decide) hwl W0 hBW wc.heap.size hS1
        have hR3 : R < W0.heap.size ∧ R ≠ wr.heap.size ∧ R ≠ wr.heap.size + 1 := by
          rcases hRR with rfl | ⟨h1, h2, h3⟩
          · omega
          · exact ⟨by omega, fun e => hneR (by rw [← e]; exact h3), fun e => hneR2 (by rw [← e]; exact h3)⟩
        obtain ⟨hR3, hR4, hR5⟩ := hR3
        clear hRR hneR hneR2
        refine wpIn_rangeFunc_fixB (F := F) (n := 5) hFr (by decide) (gf := 63) (lb := #[.pointer (some ⟨wc.heap.size, 0, none⟩)]) rfl hF63 (enters_of Tryd.func63 (by kernel_rfl) rfl)
          hgives (fun r e => e.elim) (fun h k => ⟨k.1.trans h.1, k.2.trans h.2⟩) ?zhkb (Below.refl _ _) (fun _ => rfl)
          (fun pre W => BSt w wr.heap.size (wr.heap.size + 1) W0.heap.size (bothAt v0 pre) W) ?zown hB0 (fun pre W h => h.size) (fun pre W o h => ⟨Below.heap_alloc _ _ _ (by have := h.size; omega), Below.heap_alloc _ _ _ (by have := h.size; omega)⟩)
          (fun x => #[.string x.2.1, .bool x.2.2]) 58 ?zaf ?zassign ?zbody ?zdone
        case zhkb =>
          intro W l o' hl
          exact ⟨World.putObj_heap_other (by omega), World.putObj_heap_other (by omega)⟩
        case zown =>
          rintro pre A B row h hg hrow
          have hr : ∀ r, row = some r → W0.heap.size ≤ r := fun r e => by
            rcases hrow r e with ⟨h, _⟩ | h
            · exact h
            · exact h.elim
          have h3 := h.size
          exact ⟨h.below.grown hg (by omega) (fun k e => by have := hr k e; omega), (hg.block _ (by omega) (fun e => by have := hr _ e.symm; omega)).trans h.b1, (hg.block _ (by omega) (fun e => by have := hr _ e.symm; omega)).trans h.b2, Nat.le_trans h3 hg.size⟩
        case zassign =>
          rintro l pre y W K h hK
          simp only [encS]
          obtain ⟨b, hb⟩ : ∃ b, W.heap.size = b := ⟨_, rfl⟩
          have hK2 := hK b hb
          gi_wp2
          exact hK2
        case zbody =>
          rintro l pre ⟨j, r, f⟩ b W hB hb1 hb2 hpre
          have hmem := backL_mem (⟨#[]⟩, false) way _ (Nat.le_refl _) (j, r, f) (hpre.subset (by simp))
          have hzr := HSD.out (r, f) hmem
          obtain ⟨hq1, hq2⟩ := bothAt_size v0 hvz pre
          have HNX := Aside0.mk (bothAt_next v0 pre (j, r, f))
          generalize bothAt v0 pre = q at *
          obtain ⟨q1, q2⟩ := q
          dsimp only at hq1 hq2
          have JN : Aside0 (∀ (u : ByteArray) (W' : World), u.size = 32 → Below w.heap.size w W' → CallsIn (F.inRound l) 2 Tryd.prog 48 #[.agg #[.string r, .bool f], .string u] W' fun e w'' => e = .returned (.string (joinS (r, f) u)) ∧ Below W'.heap.size W' w'') :=
            ⟨fun u W' hu hb => CallsIn.inRound l (hin0 _ (join_any (r, f) u W' ⟨HG.out.below hb⟩ (by rw [hu]; dsimp only at hzr ⊢; rw [hzr]; decide)))⟩
          obtain ⟨co1, fo1⟩ := cell_box hB.b1
          obtain ⟨co2, fo2⟩ := cell_box hB.b2
          obtain ⟨cb1, cb2⟩ := cell_two hb2
          have HB := Aside0.mk hB
          have hbN : wr.heap.size ≠ b := by omega
          have hbN2 : wr.heap.size + 1 ≠ b := by omega
          have hO12 : wr.heap.size ≠ wr.heap.size + 1 := by omega
          have hbW : b < W.heap.size := (Array.getElem?_eq_some_iff.1 hb2).1
          clear hmem hpre hB hin0
          cases f with
          | true =>
            gi_wp2_with (first
              | (gi_at_call 48; (with_reducible refine (JN.out q1 W hq1 HB.out.below).mono ?_); rintro e wn ⟨rfl, hb⟩; have HBn := Aside0.mk (HB.out.call hb); have HKn := Aside0.mk ((KB.refl W0.heap.size wc.heap.size R W).call hb (by have := HB.out.size; omega) (by have := HB.out.size; omega)); obtain ⟨co3, fo3⟩ := cell_box HBn.out.b1; obtain ⟨co4, fo4⟩ := cell_box HBn.out.b2; obtain ⟨cb3, cb4⟩ := cell_two ((hb.block b hbW).trans hb2); have HBs := Aside0.mk (HBn.out.set1 (by omega) (Ne.symm hO12) (joinS (r, true) q1)); have HKs := Aside0.mk (HKn.out.set wr.heap.size (by omega) (by omega) hR4 (.string (joinS (r, true) q1))); obtain ⟨co5, fo5⟩ := cell_box HBs.out.b2; obtain ⟨cb5, cb6⟩ := cell_two ((Below.heap_setCell wn ⟨wr.heap.size, 0, none⟩ (.string (joinS (r, true) q1)) b (Ne.symm hbN)).trans ((hb.block b hbW).trans hb2)); clear co1 fo1 co2 fo2 cb1 cb2 hb2 hb)
              | (gi_at_call 48; (with_reducible refine (JN.out q2 _ hq2 HBs.out.below).mono ?_); rintro e wm ⟨rfl, hb⟩; have HBm := Aside0.mk (HBs.out.call hb); have HKm := Aside0.mk (HKs.out.call hb (by have := HBs.out.size; omega) (by have := HBs.out.size; omega)); obtain ⟨co7, fo7⟩ := cell_box HBm.out.b2; clear co3 fo3 co4 fo4 co5 fo5 cb3 cb4 cb5 cb6 hb))
            have hBf := HBm.out.set2 (by omega) hO12 (joinS (r, true) q2)
            have hKf := HKm.out.set (wr.heap.size + 1) (by omega) (by omega) hR5 (.string (joinS (r, true) q2))
            refine ⟨hKf.k, ⟨hKf.s, hKf.r⟩, ?_⟩
            show BSt w wr.heap.size (wr.heap.size + 1) W0.heap.size (bothAt v0 (pre ++ [(j, r, true)])) _
            rw [HNX.out]
            exact hBf
          | false =>
            gi_wp2_with (gi_at_call 48; go_must (refine (JN.out q2 W hq2 HB.out.below).mono ?_); rintro e wn ⟨rfl, hb⟩; have HBn := Aside0.mk (HB.out.call hb); have HKn := Aside0.mk ((KB.refl W0.heap.size wc.heap.size R W).call hb (by have := HB.out.size; omega) (by have := HB.out.size; omega)); obtain ⟨co3, fo3⟩ := cell_box HBn.out.b2; clear co2 fo2 hb)
            have hBf := HBn.out.set2 (by omega) hO12 (joinS (r, false) q2)
            have hKf := HKn.out.set (wr.heap.size + 1) (by omega) (by omega) hR5 (.string (joinS (r, false) q2))
            refine ⟨hKf.k, ⟨hKf.s, hKf.r⟩, ?_⟩
            show BSt w wr.heap.size (wr.heap.size + 1) W0.heap.size (bothAt v0 (pre ++ [(j, r, false)])) _
            rw [HNX.out]
            exact hBf
        case zdone =>
          rintro D W hD h hK
          have hb1 := h.b1
          have hb2 := h.b2
          rw [HFOLD.out] at hb1 hb2
          obtain ⟨co1, fo1⟩ := cell_box hb1
          obtain ⟨co2, fo2⟩ := cell_box hb2
          have hwD : w.heap.size ≤ D := by omega
          have HKD := Aside0.mk hK
          have hfin : Aside0 (∀ b : Bool, okJ tgt old root = b → Below w.heap.size w (W.putObj D (.deferred none)) ∧ okJ (bothR old proof.reverse m0 n0 true) old root = b) := ⟨fun b hb => ⟨h.below.trans (belowK_b (w := w) (Nat.le_refl _) W D _ _ hwD HKD.out rfl rfl), by rw [HTGT.out]; exact hb⟩⟩
          have HT := Aside0.mk E.out.tgt
          clear hb1 hb2 h hK hD hB0 hS1
          generalize foldJ way (v0, v0) = q at *
          obtain ⟨q1, q2⟩ := q
          dsimp only at co1 co2
          cases pp with
          | succ pp =>
            have hb : okJ tgt old root = false := by rw [← HT.out, if_neg (by omega)]; rfl
            obtain ⟨z1, z2⟩ := hfin.out false hb
            have Q1 := Aside0.mk z1
            have Q2 := Aside0.mk z2
            clear z1 z2 hb
            have t3 : (((pp + 1 : Nat) : Int) == 0) = false := by rw [beq_eq_false_iff_ne]; omega
            go_wp2
            refine ⟨by simp, .inl ⟨_, _, rfl, run_takeDeferred HKD.out, ?_⟩⟩
            exact ⟨.bool (okJ (bothR old proof.reverse m0 n0 true) old root), by simp [results, Tryd.results23, go_sem]; rw [Q2.out], rfl, Q1.out⟩
          | zero =>
            have hok : okJ tgt old root = (eqB q1 old && eqB q2 root) := by rw [← HT.out, if_pos rfl]; rfl
            cases hv1 : eqB q1 old with
            | false =>
              have hb : okJ tgt old root = false := by rw [hok, hv1]; rfl
              obtain ⟨z1, z2⟩ := hfin.out false hb
              have Q1 := Aside0.mk z1
              have Q2 := Aside0.mk z2
              have t4 : (q1.toList == old.toList) = false := hv1
              clear z1 z2 hb hok hv1
              go_wp2
              refine ⟨by simp, .inl ⟨_, _, rfl, run_takeDeferred HKD.out, ?_⟩⟩
              exact ⟨.bool (okJ (bothR old proof.reverse m0 n0 true) old root), by simp [results, Tryd.results23, go_sem]; rw [Q2.out], rfl, Q1.out⟩
            | true =>
              cases hv2 : eqB q2 root with
              | false =>
                have hb : okJ tgt old root = false := by rw [hok, hv1, hv2]; rfl
                obtain ⟨z1, z2⟩ := hfin.out false hb
                have Q1 := Aside0.mk z1
                have Q2 := Aside0.mk z2
                have t4 : (q1.toList == old.toList) = true := hv1
                have t5 : (q2.toList == root.toList) = false := hv2
                clear z1 z2 hb hok hv1 hv2
                go_wp2
                refine ⟨by simp, .inl ⟨_, _, rfl, run_takeDeferred HKD.out, ?_⟩⟩
                exact ⟨.bool (okJ (bothR old proof.reverse m0 n0 true) old root), by simp [results, Tryd.results23, go_sem]; rw [Q2.out], rfl, Q1.out⟩
              | true =>
                have hb : okJ tgt old root = true := by rw [hok, hv1, hv2]; rfl
                obtain ⟨z1, z2⟩ := hfin.out true hb
                have Q1 := Aside0.mk z1
                have Q2 := Aside0.mk z2
                have t4 : (q1.toList == old.toList) = true := hv1
                have t5 : (q2.toList == root.toList) = true := hv2
                clear z1 z2 hb hok hv1 hv2
                go_wp2
                refine ⟨by simp, .inl ⟨_, _, rfl, run_takeDeferred HKD.out, ?_⟩⟩
                exact ⟨.bool (okJ (bothR old proof.reverse m0 n0 true) old root), by simp [results, Tryd.results23, go_sem]; rw [Q2.out], rfl, Q1.out⟩
end Go.Proofs.YtabjfogmcehemaaDoor
end

section
namespace Go.Proofs.YtabjfogmcehemaaDoor
open Go.RowKit Go.Shelf Go.Proofs.YtabjfogmcehemaaDoorW.PrintWords Go.Proofs.YtabjfogmcehemaaDoorW.PrintLast Go.Proofs.YtabjfogmcehemaaDoorW.PrintMore
set_option linter.unusedVariables false
set_option linter.unusedSimpArgs false
attribute [local go_sem] max2_int min2_int max_two min_two max_three min_three max_four min_four
attribute [local go_sem ↓] Go.wp_at_zero Go.wp_at_succ
structure DSt (w : World) (L : Nat) (cur : List ByteArray) (ad : Addr) (n c : Nat) (outs : List ByteArray) (o : Value) (W : World) : Prop where
  len : cur.length = n
  pos : 1 ≤ n
  cap : n ≤ c
  row : Kd.C Kd.string w (some ad) cur.length cur
  small : ∀ x ∈ cur, x.size ≤ 35184372088832
  sum : outs.length + n ≤ L
  below : Below w.heap.size w W
  own : W.ownsRow w.heap.size 9 1 o outs.length (strsV outs)
section
variable {w W w1 : World} {L n c : Nat} {cur outs : List ByteArray} {ad : Addr} {o : Value}
theorem DSt.grown (h : DSt w L cur ad n c outs o W) (hb : Below W.heap.size W w1) : DSt w L cur ad n c outs o w1 :=
  ⟨h.len, h.pos, h.cap, h.row, h.small, h.sum, below_step h.below hb, own_move h.own (fun k hk => hb.block k (own_lt h.own k hk))⟩
theorem DSt.alloc (h : DSt w L cur ad n c outs o W) (b : Obj) : DSt w L cur ad n c outs o (W.alloc b) := h.grown ((Below.refl _ _).alloc (Nat.le_refl _) b)
theorem DSt.drewN (h : DSt w L cur ad n c outs o W) (m : Nat) : DSt w L cur ad n c outs o (W.drewN m) := h.grown (pw_below_drewN (Below.refl _ _) m)
theorem DSt.take {k : Nat} (h : DSt w L cur ad n c outs o W) (hk : k < n) (h1 : 1 ≤ k) {o' : Value} {r : ByteArray} (ho : w1.ownsRow w.heap.size 9 1 o' (outs.length + 1) (strsV outs ++ [.string r])) (hg : W.grownBy w1 o.ownBlock) : DSt w L (cur.take k) ad k c (outs ++ [r]) o' w1 where
  len := by rw [List.length_take, h.len]; omega
  pos := h1
  cap := by have := h.cap; omega
  row := Kd.C_take h.row (by rw [h.len]; omega)
  small := fun x hx => h.small x (List.mem_of_mem_take hx)
  sum := by have := h.sum; rw [List.length_append, List.length_singleton]; omega
  below := h.below.grown hg h.below.size (fun k hk => own_base h.own k hk)
  own := by rw [List.length_append, List.length_singleton]; simpa [strsV] using ho
theorem DSt.rowDrop {k : Nat} (h : DSt w L cur ad n c outs o W) (hk : k < n) : Kd.C Kd.string w (some (ad.add k)) (cur.drop k).length (cur.drop k) := by
  have := Kd.C_drop (c := c) h.row (show k ≤ cur.length by rw [h.len]; omega) (by rw [h.len]; exact h.cap)
  rw [if_neg (by have := h.cap; omega)] at this
  have e : k * Kd.string.sz = k := by show k * 1 = k; omega
  rw [e] at this
  exact this
theorem DSt.drop {k : Nat} (h : DSt w L cur ad n c outs o W) (hk : k < n) (h1 : 1 ≤ k) {o' : Value} {r : ByteArray} (ho : w1.ownsRow w.heap.size 9 1 o' (outs.length + 1) (strsV outs ++ [.string r])) (hg : W.grownBy w1 o.ownBlock) : DSt w L (cur.drop k) (ad.add k) (n - k) (c - k) (outs ++ [r]) o' w1 where
  len := by rw [List.length_drop, h.len]
  pos := by omega
  cap := by have := h.cap; omega
  row := h.rowDrop hk
  small := fun x hx => h.small x (List.mem_of_mem_drop hx)
  sum := by have := h.sum; rw [List.length_append, List.length_singleton]; omega
  below := h.below.grown hg h.below.size (fun k hk => own_base h.own k hk)
  own := by rw [List.length_append, List.length_singleton]; simpa [strsV] using ho
theorem DSt.root_take {k : Nat} (h : DSt w L cur ad n c outs o W) (HG : Aside0 (Laid w)) (hk : k < n) (hL : L ≤ 1000000) : Calls Tryd.prog 19 #[.slice (some ad) k c] W fun e w' => e = .returned (.string (rootS (cur.take k))) ∧ DSt w L cur ad n c outs o w' := by
  have hs := h.sum
  have hcap := h.cap
  have hl : (cur.take k).length = k := by rw [List.length_take, h.len]; omega
  have := root_any (some ad) c (cur.take k) W ⟨HG.out.below h.below⟩ (Kd.C_below (Kd.C_take h.row (by rw [h.len]; omega)) h.below) (by rw [hl]; omega) (by rw [hl]; omega) (fun x hx => h.small x (List.mem_of_mem_take hx))
  rw [hl] at this
  exact this.mono fun e w' ⟨he, hb⟩ => ⟨he, h.grown hb⟩
theorem DSt.root_drop {k : Nat} (h : DSt w L cur ad n c outs o W) (HG : Aside0 (Laid w)) (hk : k < n) (hL : L ≤ 1000000) : Calls Tryd.prog 19 #[.slice (some (ad.add k)) (n - k) (c - k)] W fun e w' => e = .returned (.string (rootS (cur.drop k))) ∧ DSt w L cur ad n c outs o w' := by
  have hs := h.sum
  have hcap := h.cap
  have hl : (cur.drop k).length = n - k := by rw [List.length_drop, h.len]
  have := root_any (some (ad.add k)) (c - k) (cur.drop k) W ⟨HG.out.below h.below⟩ (Kd.C_below (h.rowDrop hk) h.below) (by rw [hl]; omega) (by rw [hl]; omega) (fun x hx => h.small x (List.mem_of_mem_drop hx))
  rw [hl] at this
  exact this.mono fun e w' ⟨he, hb⟩ => ⟨he, h.grown hb⟩
theorem DSt.root_all (h : DSt w L cur ad n c outs o W) (HG : Aside0 (Laid w)) (hL : L ≤ 1000000) : Calls Tryd.prog 19 #[.slice (some ad) n c] W fun e w' => e = .returned (.string (rootS cur)) ∧ DSt w L cur ad n c outs o w' := by
  have hs := h.sum
  have hcap := h.cap
  have := root_any (some ad) c cur W ⟨HG.out.below h.below⟩ (Kd.C_below h.row h.below) (by rw [h.len]; omega) (by rw [h.len]; omega) h.small
  rw [h.len] at this
  exact this.mono fun e w' ⟨he, hb⟩ => ⟨he, h.grown hb⟩
end
theorem own_setCells {base g n cap : Nat} {e : TypeId} : ∀ (ys : List Value) (o : Nat) (W : World) (xs : List Value), W.ownsRow base e 1 (.slice (some ⟨g, 0, none⟩) n cap) n xs → o + ys.length ≤ xs.length →
    (W.setCells g o ys).ownsRow base e 1 (.slice (some ⟨g, 0, none⟩) n cap) n (xs.take o ++ ys ++ xs.drop (o + ys.length)) ∧ W.grownBy (W.setCells g o ys) (some g) := by
  intro ys
  induction ys with
  | nil =>
    intro o W xs h ho
    refine ⟨?_, ⟨rfl, rfl, rfl, Nat.le_refl _, fun _ _ _ => rfl⟩⟩
    simpa [World.setCells] using h
  | cons y ys ih =>
    intro o W xs h ho
    simp only [List.length_cons] at ho
    obtain ⟨h1, h2⟩ := h.stored o y
    obtain ⟨h3, h4⟩ := ih (o + 1) _ _ h1 (by rw [List.length_set]; omega)
    refine ⟨?_, h2.trans h4⟩
    have e : (xs.set o y).take (o + 1) ++ ys ++ (xs.set o y).drop (o + 1 + ys.length) = xs.take o ++ (y :: ys) ++ xs.drop (o + (y :: ys).length) := by
      have ho' : o < xs.length := by omega
      rw [List.take_add_one, List.getElem?_set_self ho', List.take_set_of_le (Nat.le_refl _), List.drop_set_of_lt (by omega)]
      simp only [List.length_cons, Option.toList, List.append_assoc, List.singleton_append, List.cons_append]
      rw [show o + 1 + ys.length = o + (ys.length + 1) by omega]
      simp
    rw [e] at h3
    exact h3
theorem reverse_own {w W : World} {base : Nat} {o : Value} {outs : List ByteArray} (h : W.ownsRow base 9 1 o outs.length (strsV outs)) (hl : outs.length ≤ 1000000) (hb : Below base w W) :
    Calls Tryd.prog 41 #[o] W fun e w' => e = .returned (.tuple #[]) ∧ w'.ownsRow base 9 1 o outs.length (strsV outs.reverse) ∧ Below base w w' := by
  rcases Nat.eq_zero_or_pos outs.length with h0 | h0
  · obtain rfl := List.eq_nil_of_length_eq_zero h0
    obtain ⟨A, c, rfl⟩ := own_slice h
    refine (Tryd.slices_Reverse_string_empty A c W).mono ?_
    rintro e w' ⟨rfl, rfl⟩
    exact ⟨rfl, h, hb⟩
  · obtain ⟨g, c, rfl⟩ := own_form h h0
    have hx : ∀ i, i < outs.length → (strsV outs)[i]? = some (.string (outs.getD i ⟨#[]⟩)) := by
      intro i hi
      unfold strsV
      rw [List.getElem?_map, List.getD_eq_getElem?_getD, List.getElem?_eq_getElem hi]
      rfl
    have hfr : ∀ j, W.frozen? ⟨g, j, none⟩ = false := by
      intro j
      rcases h.2 with ⟨h2, _⟩ | ⟨g', cap', cur, he, hg, hh, hn, hc, hs, ht⟩
      · cases h2
      · cases he
        unfold World.frozen?
        rw [hh]
        simp
    refine (Tryd.slices_Reverse_string_cells g 0 outs.length c (fun i => outs.getD i ⟨#[]⟩) W (by omega) (fun i hi => by rw [Nat.zero_add]; exact own_cell h (hx i hi)) (fun j hj => hfr _)).mono ?_
    rintro e w' ⟨rfl, q, rfl⟩
    have hd : (W.drewN q).ownsRow base 9 1 (.slice (some ⟨g, 0, none⟩) outs.length c) outs.length (strsV outs) := h
    have hys : (Lib.strsOf (fun i => outs.getD i ⟨#[]⟩) outs.length).reverse.map encStr = strsV outs.reverse := by
      have e1 : Lib.strsOf (fun i => outs.getD i ⟨#[]⟩) outs.length = outs.map (·.data.toList) := by
        apply List.ext_getElem?
        intro i
        unfold Lib.strsOf
        rw [List.getElem?_map, List.getElem?_map]
        by_cases hi : i < outs.length
        · rw [List.getElem?_range hi, List.getElem?_eq_getElem hi]
          simp [List.getD_eq_getElem?_getD, List.getElem?_eq_getElem hi]
        · rw [List.getElem?_eq_none (by simpa using hi), List.getElem?_eq_none (by omega)]
          rfl
      rw [e1, ← List.map_reverse]
      exact Lib.map_encStr _
    rw [hys]
    obtain ⟨h1, h2⟩ := own_setCells (strsV outs.reverse) 0 _ _ hd (by simp [strsV])
    refine ⟨rfl, ?_, (pw_below_drewN hb q).grown h2 ?_ (fun k e => by cases e; exact own_base h g rfl)⟩
    · have e2 : (strsV outs).drop (0 + (strsV outs.reverse).length) = [] := List.drop_of_length_le (by simp [strsV])
      rw [e2] at h1
      simpa using h1
    · exact Nat.le_of_lt (Nat.lt_of_le_of_lt (own_base h g rfl) (own_lt h g rfl))
theorem proof_bad (A : Option Addr) (c n : Nat) (i : Int) (w : World) (h : i < 0 ∨ (n : Int) ≤ i) :
    Calls Tryd.prog 14 #[.slice A n c, .int .i64 i] w fun e w' => e = .returned (.tuple #[.slice none 0 0, .int .i64 2]) ∧ Below w.heap.size w w' := by
  by_cases h1 : i < 0
  · have d1 : decide (i < 0) = true := decide_eq_true h1
    go_enter Tryd.func14, Tryd.ntmps14
    go_wp2
    go_step3
    go_wp2
    rw [Exit.noGoto_ret]
    go_ret2
    exact ⟨rfl, Below.refl _ _⟩
  · have d1 : decide (i < 0) = false := decide_eq_false h1
    have h2 : (n : Int) ≤ i := by omega
    have d2 : decide ((n : Int) ≤ i) = true := decide_eq_true h2
    go_enter Tryd.func14, Tryd.ntmps14
    go_wp2
    go_step3
    go_wp2
    rw [Exit.noGoto_ret]
    go_ret2
    exact ⟨rfl, Below.refl _ _⟩
set_option maxRecDepth 100000 in
set_option maxHeartbeats 8000000 in
theorem proof_good (ad : Addr) (c : Nat) (l : List ByteArray) (i : Nat) (w : World) (HG : Aside0 (Laid w)) (hr : Kd.C Kd.string w (some ad) l.length l) (hc : l.length ≤ c) (hl : l.length ≤ 1000000) (hi : i < l.length) (hsz : ∀ x ∈ l, x.size ≤ 35184372088832) :
    Calls Tryd.prog 14 #[.slice (some ad) l.length c, .int .i64 (i : Nat)] w fun e w' => ∃ v, e = .returned (.tuple #[v, .int .i64 0]) ∧ w'.ownsRow w.heap.size 9 1 v (proofR l.length l i).length (strsV (proofR l.length l i)) ∧ Below w.heap.size w w' := by
  obtain ⟨i9, hi9, hz9, hs9, hb9⟩ := info_parts info9
  have S0 : Aside0 (DSt w l.length l ad l.length c [] (.slice none 0 0) w) := ⟨⟨rfl, by omega, hc, hr, hsz, by simp, Below.refl _ _, World.ownsRow_nil _ _ _ _⟩⟩
  have T0 : Aside0 (∃ f, l.length ≤ f ∧ proofR f l i ++ ([] : List ByteArray).reverse = proofR l.length l i) := ⟨⟨l.length, Nat.le_refl _, by simp⟩⟩
  obtain ⟨tgt, htgt⟩ : ∃ tgt, proofR l.length l i = tgt := ⟨_, rfl⟩
  rw [htgt] at T0 ⊢
  clear htgt
  obtain ⟨n, hn⟩ : ∃ n, l.length = n := ⟨_, rfl⟩
  rw [hn] at S0 T0 hc hl hi ⊢
  clear hr hsz hn
  have d1 : decide ((i : Int) < 0) = false := decide_eq_false (by omega)
  have d2 : decide ((n : Int) ≤ (i : Int)) = false := decide_eq_false (by omega)
  have d3 : decide (n ≤ i) = false := decide_eq_false (by omega)
  have hpos : 1 ≤ n := by omega
  go_enter Tryd.func14, Tryd.ntmps14
  go_wp2
  go_step3
  go_wp2
  go_step3
  go_wp2
  go_loopw [0, 1, 6] (fun a iv o wr => ∃ (cur : List ByteArray) (ad' : Addr) (n' c' j : Nat) (outs : List ByteArray), a = .slice (some ad') n' c' ∧ iv = .int .i64 (j : Nat) ∧ j < n' ∧ n' ≤ n ∧ 1 ≤ n' ∧ n' ≤ c' ∧ Aside0 (DSt w n cur ad' n' c' outs o wr) ∧ Aside0 (∃ f, n' ≤ f ∧ proofR f cur j ++ outs.reverse = tgt))
    (fun a _ _ _ => lenV a)
  case atStart => exact ⟨l, ad, n, c, i, [], rfl, rfl, hi, Nat.le_refl _, hpos, hc, S0, T0⟩
  case round =>
    clear S0 T0
    obtain ⟨cur, ad', n', c', j, outs, rfl, rfl, hj, hn', h1, hc', S, T⟩ := hrel
    by_cases hone : n' = 1
    · subst hone
      have t1 : (((1 : Nat) : Int) == 1) = true := rfl
      have hfin : Aside0 (outs.reverse = tgt) := ⟨by obtain ⟨f, hf, h⟩ := T.out; rw [proofR_one f cur j S.out.len] at h; exact h⟩
      have hl1 : outs.length ≤ 1000000 := by have := S.out.sum; omega
      have REV := Aside0.mk (reverse_own S.out.own hl1 S.out.below)
      rw [hfin.out] at REV
      go_wp2_with (go_at_call 41; go_must (refine REV.out.mono ?_); rintro e w' ⟨rfl, ho, hb⟩)
      rw [Exit.noGoto_ret]
      have hlen : outs.length = tgt.length := by rw [← hfin.out, List.length_reverse]
      rw [hlen] at ho
      go_ret2
      exact ⟨_, rfl, ho, hb⟩
    · obtain ⟨k, hk⟩ : ∃ k, leftOf n' = k := ⟨_, rfl⟩
      have hk1 := leftOf_lt n' (by omega)
      have hk3 := leftOf_pos n'
      have hk2 := leftOf_ge n' (by omega)
      have LEFT : Aside0 (∀ W, Calls Tryd.prog 40 #[.int .i64 (n' : Nat)] W fun e w' => e = .returned (.int .i64 (k : Nat)) ∧ Drawn0 W w') := ⟨fun W => digest_left.calls _ _ W (by unfold digest_left.f; rw [if_pos (by omega)]; simp [hk])⟩
      rw [hk] at hk1 hk2 hk3
      have HK := Aside0.mk hk
      clear hk
      have t1 : ((n' : Int) == 1) = false := by rw [beq_eq_false_iff_ne]; omega
      have b1 : (0 : Int) ≤ (k : Int) := by omega
      have b2 : (k : Int) ≤ (c' : Int) := by omega
      have b3 : (k : Int) ≤ (n' : Int) := by omega
      have b4 : c' ≠ k := by omega
      have hL : outs.length ≤ 1000000 := by have := S.out.sum; omega
      have hlo : outs.length < 1000001 := by omega
      by_cases hjk : j < k
      · have t2 : decide ((k : Int) ≤ (j : Int)) = false := decide_eq_false (by omega)
        have T2 : Aside0 (∃ f, k ≤ f ∧ proofR f (cur.take k) j ++ (outs ++ [rootS (cur.drop k)]).reverse = tgt) := ⟨by
          obtain ⟨f, hf, h⟩ := T.out
          obtain ⟨f, rfl⟩ : ∃ g, f = g + 1 := ⟨f - 1, by omega⟩
          have hkl : leftOf cur.length = k := by rw [S.out.len, HK.out]
          rw [proofR_lo f cur j (by rw [S.out.len]; exact hone) (by rw [hkl]; exact hjk), hkl] at h
          exact ⟨f, by omega, by simpa using h⟩⟩
        have ROOT := Aside0.mk (fun W (h : DSt w n cur ad' n' c' outs u6 W) => h.root_drop HG hk1 hl)
        generalize rootS (cur.drop k) = r at *
        go_upto_region 6 with (go_at_call 40; with_reducible refine (LEFT.out _).mono ?_; rintro e w' ⟨rfl, ⟨nq0, rfl⟩⟩)
        go_quiet ((fail))
        have S2 := Aside0.mk ((S.out.drewN nq0).drewN nq)
        clear S T
        generalize (wr.drewN nq0).drewN nq = W2 at *
        go_wp2_with (first
          | (go_at_call 19; go_must (refine (ROOT.out _ S2.out).mono ?_); rintro e w1 ⟨rfl, hd⟩; have S3 := Aside0.mk hd; clear hd)
          | (at_builtin; go_must (refine wpList_append_lies _ rfl _ _ 22 rfl w.heap.size 9 i9 (.string ⟨#[]⟩) 1 16 Tryd.underlying22 hi9 hz9 hs9 hb9 rfl (by decide) _ _ _ rfl (S3.out.alloc _).own _ 1 1 [.string r] rfl rfl (cell_one_new _ _ _) (by simp [Value.oneCell']) (by decide) (by unfold maxLen; omega) (by omega) (S3.out.alloc _).below.size _ rfl ?_); intro ga ca w2 ho hg hat hlt2; have S4 := Aside0.mk ((S3.out.alloc _).take hk1 (by omega) ho hg); clear ho hg hat S3))
        refine ⟨?_, ?_⟩
        · exact ⟨cur.take k, ad', k, c', j, outs ++ [r], rfl, rfl, hjk, by omega, by omega, by omega, S4, T2⟩
        · simp only [lenV]; omega
      · have t2 : decide ((k : Int) ≤ (j : Int)) = true := decide_eq_true (by omega)
        have T2 : Aside0 (∃ f, n' - k ≤ f ∧ proofR f (cur.drop k) (j - k) ++ (outs ++ [rootS (cur.take k)]).reverse = tgt) := ⟨by
          obtain ⟨f, hf, h⟩ := T.out
          obtain ⟨f, rfl⟩ : ∃ g, f = g + 1 := ⟨f - 1, by omega⟩
          have hkl : leftOf cur.length = k := by rw [S.out.len, HK.out]
          rw [proofR_hi f cur j (by rw [S.out.len]; exact hone) (by rw [hkl]; omega), hkl] at h
          exact ⟨f, by omega, by simpa using h⟩⟩
        have ROOT := Aside0.mk (fun W (h : DSt w n cur ad' n' c' outs u6 W) => h.root_take HG hk1 hl)
        generalize rootS (cur.take k) = r at *
        have e5 : ((j : Int) - (k : Int)) = ((j - k : Nat) : Int) := by omega
        go_upto_region 6 with (go_at_call 40; with_reducible refine (LEFT.out _).mono ?_; rintro e w' ⟨rfl, ⟨nq0, rfl⟩⟩)
        go_quiet ((fail))
        have S2 := Aside0.mk ((S.out.drewN nq0).drewN nq)
        clear S T
        generalize (wr.drewN nq0).drewN nq = W2 at *
        go_wp2_with (first
          | (go_at_call 19; go_must (refine (ROOT.out _ S2.out).mono ?_); rintro e w1 ⟨rfl, hd⟩; have S3 := Aside0.mk hd; clear hd)
          | (at_builtin; go_must (refine wpList_append_lies _ rfl _ _ 22 rfl w.heap.size 9 i9 (.string ⟨#[]⟩) 1 16 Tryd.underlying22 hi9 hz9 hs9 hb9 rfl (by decide) _ _ _ rfl (S3.out.alloc _).own _ 1 1 [.string r] rfl rfl (cell_one_new _ _ _) (by simp [Value.oneCell']) (by decide) (by unfold maxLen; omega) (by omega) (S3.out.alloc _).below.size _ rfl ?_); intro ga ca w2 ho hg hat hlt2; have S4 := Aside0.mk ((S3.out.alloc _).drop hk1 (by omega) ho hg); clear ho hg hat S3))
        refine ⟨?_, ?_⟩
        · exact ⟨cur.drop k, ad'.add k, n' - k, c' - k, j - k, outs ++ [r], rfl, (by first | rfl | go_num | simp), by omega, by omega, by omega, by omega, S4, T2⟩
        · simp only [lenV]; omega
end Go.Proofs.YtabjfogmcehemaaDoor
end

section
namespace Go.Proofs.YtabjfogmcehemaaDoor
open Go.RowKit Go.Shelf Go.Proofs.YtabjfogmcehemaaDoorW.PrintWords Go.Proofs.YtabjfogmcehemaaDoorW.PrintLast Go.Proofs.YtabjfogmcehemaaDoorW.PrintMore
set_option linter.unusedVariables false
set_option linter.unusedSimpArgs false
attribute [local go_sem] max2_int min2_int max_two min_two max_three min_three max_four min_four
attribute [local go_sem ↓] Go.wp_at_zero Go.wp_at_succ
theorem ext_bad (A : Option Addr) (c n : Nat) (i : Int) (w : World) (h : i < 0 ∨ (n : Int) < i) :
    Calls Tryd.prog 16 #[.slice A n c, .int .i64 i] w fun e w' => e = .returned (.tuple #[.slice none 0 0, .int .i64 2]) ∧ Below w.heap.size w w' := by
  by_cases h1 : i < 0
  · have d1 : decide (i < 0) = true := decide_eq_true h1
    go_enter Tryd.func16, Tryd.ntmps16
    go_wp2
    go_ret2
    exact ⟨rfl, Below.refl _ _⟩
  · have d1 : decide (i < 0) = false := decide_eq_false h1
    have h2 : (n : Int) < i := by omega
    have d2 : decide ((n : Int) < i) = true := decide_eq_true h2
    go_enter Tryd.func16, Tryd.ntmps16
    go_wp2
    go_ret2
    exact ⟨rfl, Below.refl _ _⟩
theorem ext_zero (A : Option Addr) (c n : Nat) (w : World) :
    Calls Tryd.prog 16 #[.slice A n c, .int .i64 0] w fun e w' => e = .returned (.tuple #[.slice none 0 0, .int .i64 0]) ∧ Below w.heap.size w w' := by
  have d2 : decide ((n : Int) < 0) = false := decide_eq_false (by omega)
  go_enter Tryd.func16, Tryd.ntmps16
  go_wp2
  go_ret2
  exact ⟨rfl, Below.refl _ _⟩
set_option maxRecDepth 100000 in
set_option maxHeartbeats 8000000 in
theorem ext_good (ad : Addr) (c : Nat) (l : List ByteArray) (i : Nat) (w : World) (HG : Aside0 (Laid w)) (hr : Kd.C Kd.string w (some ad) l.length l) (hc : l.length ≤ c) (hl : l.length ≤ 1000000) (hi : i ≤ l.length) (hi1 : 1 ≤ i) (hsz : ∀ x ∈ l, x.size ≤ 35184372088832) :
    Calls Tryd.prog 16 #[.slice (some ad) l.length c, .int .i64 (i : Nat)] w fun e w' => ∃ v, e = .returned (.tuple #[v, .int .i64 0]) ∧ w'.ownsRow w.heap.size 9 1 v (extR l.length l i true).length (strsV (extR l.length l i true)) ∧ Below w.heap.size w w' := by
  obtain ⟨i9, hi9, hz9, hs9, hb9⟩ := info_parts info9
  have S0 : Aside0 (DSt w l.length l ad l.length c [] (.slice none 0 0) w) := ⟨⟨rfl, by omega, hc, hr, hsz, by simp, Below.refl _ _, World.ownsRow_nil _ _ _ _⟩⟩
  have T0 : Aside0 (∃ f, l.length ≤ f ∧ extR f l i true ++ ([] : List ByteArray).reverse = extR l.length l i true) := ⟨⟨l.length, Nat.le_refl _, by simp⟩⟩
  obtain ⟨tgt, htgt⟩ : ∃ tgt, extR l.length l i true = tgt := ⟨_, rfl⟩
  rw [htgt] at T0 ⊢
  clear htgt
  obtain ⟨n, hn⟩ : ∃ n, l.length = n := ⟨_, rfl⟩
  rw [hn] at S0 T0 hc hl hi ⊢
  clear hr hsz hn
  have d1 : decide ((i : Int) < 0) = false := decide_eq_false (by omega)
  have d2 : decide ((n : Int) < (i : Int)) = false := decide_eq_false (by omega)
  have d3 : decide (n < i) = false := decide_eq_false (by omega)
  have d4 : ((i : Int) == 0) = false := by rw [beq_eq_false_iff_ne]; omega
  have hpos : 1 ≤ n := by omega
  go_enter Tryd.func16, Tryd.ntmps16
  go_wp2
  go_loopw [0, 1, 6, 7] (fun a iv o b wr => ∃ (cur : List ByteArray) (ad' : Addr) (n' c' j : Nat) (outs : List ByteArray) (bw : Bool), a = .slice (some ad') n' c' ∧ iv = .int .i64 (j : Nat) ∧ b = .bool bw ∧ 1 ≤ j ∧ j ≤ n' ∧ n' ≤ n ∧ n' ≤ c' ∧ Aside0 (DSt w n cur ad' n' c' outs o wr) ∧ Aside0 (∃ f, n' ≤ f ∧ extR f cur j bw ++ outs.reverse = tgt))
    (fun a _ _ _ _ => lenV a)
  case atStart => exact ⟨l, ad, n, c, i, [], true, rfl, rfl, rfl, hi1, hi, Nat.le_refl _, hc, S0, T0⟩
  case round =>
    clear S0 T0
    obtain ⟨cur, ad', n', c', j, outs, bw, rfl, rfl, rfl, h1, hj, hn', hc', S, T⟩ := hrel
    have hL : outs.length ≤ 1000000 := by have := S.out.sum; omega
    have hlo : outs.length < 1000001 := by omega
    by_cases hjn : j < n'
    · obtain ⟨k, hk⟩ : ∃ k, leftOf n' = k := ⟨_, rfl⟩
      have hk1 := leftOf_lt n' (by omega)
      have hk3 := leftOf_pos n'
      have hk2 := leftOf_ge n' (by omega)
      have LEFT : Aside0 (∀ W, Calls Tryd.prog 40 #[.int .i64 (n' : Nat)] W fun e w' => e = .returned (.int .i64 (k : Nat)) ∧ Drawn0 W w') := ⟨fun W => digest_left.calls _ _ W (by unfold digest_left.f; rw [if_pos (by omega)]; simp [hk])⟩
      rw [hk] at hk1 hk2 hk3
      have HK := Aside0.mk hk
      clear hk
      have t1 : decide ((j : Int) < (n' : Int)) = true := decide_eq_true (by omega)
      have b1 : (0 : Int) ≤ (k : Int) := by omega
      have b2 : (k : Int) ≤ (c' : Int) := by omega
      have b3 : (k : Int) ≤ (n' : Int) := by omega
      have b4 : c' ≠ k := by omega
      by_cases hjk : j ≤ k
      · have t2 : decide ((k : Int) < (j : Int)) = false := decide_eq_false (by omega)
        have T2 : Aside0 (∃ f, k ≤ f ∧ extR f (cur.take k) j bw ++ (outs ++ [rootS (cur.drop k)]).reverse = tgt) := ⟨by
          obtain ⟨f, hf, h⟩ := T.out
          obtain ⟨f, rfl⟩ : ∃ g, f = g + 1 := ⟨f - 1, by omega⟩
          have hkl : leftOf cur.length = k := by rw [S.out.len, HK.out]
          rw [extR_lo f cur j bw (by rw [S.out.len]; exact hjn) (by rw [hkl]; exact hjk), hkl] at h
          exact ⟨f, by omega, by simpa using h⟩⟩
        have ROOT := Aside0.mk (fun W (h : DSt w n cur ad' n' c' outs u6 W) => h.root_drop HG hk1 hl)
        generalize rootS (cur.drop k) = r at *
        go_upto_region 9 with (go_at_call 40; with_reducible refine (LEFT.out _).mono ?_; rintro e w' ⟨rfl, ⟨nq0, rfl⟩⟩)
        go_quiet ((fail))
        have S2 := Aside0.mk ((S.out.drewN nq0).drewN nq)
        clear S T
        generalize (wr.drewN nq0).drewN nq = W2 at *
        go_wp2_with (first
          | (go_at_call 19; go_must (refine (ROOT.out _ S2.out).mono ?_); rintro e w1 ⟨rfl, hd⟩; have S3 := Aside0.mk hd; clear hd)
          | (at_builtin; go_must (refine wpList_append_lies _ rfl _ _ 22 rfl w.heap.size 9 i9 (.string ⟨#[]⟩) 1 16 Tryd.underlying22 hi9 hz9 hs9 hb9 rfl (by decide) _ _ _ rfl (S3.out.alloc _).own _ 1 1 [.string r] rfl rfl (cell_one_new _ _ _) (by simp [Value.oneCell']) (by decide) (by unfold maxLen; omega) (by omega) (S3.out.alloc _).below.size _ rfl ?_); intro ga ca w2 ho hg hat hlt2; have S4 := Aside0.mk ((S3.out.alloc _).take hk1 (by omega) ho hg); clear ho hg hat S3))
        refine ⟨?_, ?_⟩
        · exact ⟨cur.take k, ad', k, c', j, outs ++ [r], bw, rfl, rfl, rfl, by omega, hjk, by omega, by omega, S4, T2⟩
        · simp only [lenV]; omega
      · have t2 : decide ((k : Int) < (j : Int)) = true := decide_eq_true (by omega)
        have T2 : Aside0 (∃ f, n' - k ≤ f ∧ extR f (cur.drop k) (j - k) false ++ (outs ++ [rootS (cur.take k)]).reverse = tgt) := ⟨by
          obtain ⟨f, hf, h⟩ := T.out
          obtain ⟨f, rfl⟩ : ∃ g, f = g + 1 := ⟨f - 1, by omega⟩
          have hkl : leftOf cur.length = k := by rw [S.out.len, HK.out]
          rw [extR_hi f cur j bw (by rw [S.out.len]; exact hjn) (by rw [hkl]; omega), hkl] at h
          exact ⟨f, by omega, by simpa using h⟩⟩
        have ROOT := Aside0.mk (fun W (h : DSt w n cur ad' n' c' outs u6 W) => h.root_take HG hk1 hl)
        generalize rootS (cur.take k) = r at *
        have e5 : ((j : Int) - (k : Int)) = ((j - k : Nat) : Int) := by omega
        go_upto_region 9 with (go_at_call 40; with_reducible refine (LEFT.out _).mono ?_; rintro e w' ⟨rfl, ⟨nq0, rfl⟩⟩)
        go_quiet ((fail))
        have S2 := Aside0.mk ((S.out.drewN nq0).drewN nq)
        clear S T
        generalize (wr.drewN nq0).drewN nq = W2 at *
        go_wp2_with (first
          | (go_at_call 19; go_must (refine (ROOT.out _ S2.out).mono ?_); rintro e w1 ⟨rfl, hd⟩; have S3 := Aside0.mk hd; clear hd)
          | (at_builtin; go_must (refine wpList_append_lies _ rfl _ _ 22 rfl w.heap.size 9 i9 (.string ⟨#[]⟩) 1 16 Tryd.underlying22 hi9 hz9 hs9 hb9 rfl (by decide) _ _ _ rfl (S3.out.alloc _).own _ 1 1 [.string r] rfl rfl (cell_one_new _ _ _) (by simp [Value.oneCell']) (by decide) (by unfold maxLen; omega) (by omega) (S3.out.alloc _).below.size _ rfl ?_); intro ga ca w2 ho hg hat hlt2; have S4 := Aside0.mk ((S3.out.alloc _).drop hk1 (by omega) ho hg); clear ho hg hat S3))
        refine ⟨?_, ?_⟩
        · exact ⟨cur.drop k, ad'.add k, n' - k, c' - k, j - k, outs ++ [r], false, rfl, (by first | rfl | go_num | simp), rfl, by omega, by omega, by omega, by omega, S4, T2⟩
        · simp only [lenV]; omega
    · obtain rfl : j = n' := by omega
      have t1 : decide ((j : Int) < (j : Int)) = false := decide_eq_false (by omega)
      have hT : Aside0 ((if bw then [] else [rootS cur]) ++ outs.reverse = tgt) := ⟨by
        obtain ⟨f, hf, h⟩ := T.out
        rw [extR_end f cur j bw (by omega) (by rw [S.out.len]; exact Nat.le_refl _)] at h
        exact h⟩
      clear T
      cases bw with
      | true =>
        have hfin : Aside0 (outs.reverse = tgt) := ⟨by have := hT.out; simpa using this⟩
        have REV := Aside0.mk (reverse_own S.out.own hL S.out.below)
        rw [hfin.out] at REV
        go_wp2_with (go_at_call 41; go_must (refine REV.out.mono ?_); rintro e w' ⟨rfl, ho, hb⟩)
        have hlen : outs.length = tgt.length := by rw [← hfin.out, List.length_reverse]
        rw [hlen] at ho
        go_ret2
        exact ⟨_, rfl, ho, hb⟩
      | false =>
        have hfin : Aside0 ((outs ++ [rootS cur]).reverse = tgt) := ⟨by have := hT.out; simpa using this⟩
        have ROOT := Aside0.mk (fun W (h : DSt w n cur ad' j c' outs u6 W) => h.root_all HG hl)
        generalize rootS cur = r at *
        have REV : Aside0 (∀ (v : Value) (W : World), W.ownsRow w.heap.size 9 1 v (outs.length + 1) (strsV outs ++ [.string r]) → Below w.heap.size w W → Calls Tryd.prog 41 #[v] W fun e w' => e = .returned (.tuple #[]) ∧ w'.ownsRow w.heap.size 9 1 v tgt.length (strsV tgt) ∧ Below w.heap.size w w') := ⟨fun v W h hb => by
          have h' : W.ownsRow w.heap.size 9 1 v (outs ++ [r]).length (strsV (outs ++ [r])) := by rw [List.length_append, List.length_singleton]; simpa [strsV] using h
          have := reverse_own h' (by rw [List.length_append, List.length_singleton]; have := S.out.sum; omega) hb
          rw [hfin.out] at this
          have hlen : (outs ++ [r]).length = tgt.length := by rw [← hfin.out, List.length_reverse]
          rwa [hlen] at this⟩
        go_wp2_with (first
          | (go_at_call 19; go_must (refine (ROOT.out _ S.out).mono ?_); rintro e w1 ⟨rfl, hd⟩; have S3 := Aside0.mk hd; clear hd)
          | (at_builtin; go_must (refine wpList_append_lies _ rfl _ _ 22 rfl w.heap.size 9 i9 (.string ⟨#[]⟩) 1 16 Tryd.underlying22 hi9 hz9 hs9 hb9 rfl (by decide) _ _ _ rfl (S3.out.alloc _).own _ 1 1 [.string r] rfl rfl (cell_one_new _ _ _) (by simp [Value.oneCell']) (by decide) (by unfold maxLen; omega) (by omega) (S3.out.alloc _).below.size _ rfl ?_); intro ga ca w2 ho hg hat hlt2; have BL := Aside0.mk ((S3.out.alloc _).below.grown hg (S3.out.alloc _).below.size (fun k hk => own_base S3.out.own k hk)); have OW := Aside0.mk ho; clear ho hg hat)
          | (go_at_call 41; go_must (refine (REV.out _ _ OW.out BL.out).mono ?_); rintro e w' ⟨rfl, ho, hb⟩))
        go_ret2
        exact ⟨_, rfl, ho, hb⟩
end Go.Proofs.YtabjfogmcehemaaDoor
end

section
namespace Go.Proofs.YtabjfogmcehemaaDoor
open Go.RowKit Go.Shelf Go.Proofs.YtabjfogmcehemaaDoorW.PrintWords Go.Proofs.YtabjfogmcehemaaDoorW.PrintLast Go.Proofs.YtabjfogmcehemaaDoorW.PrintMore
set_option linter.unusedVariables false
set_option linter.unusedSimpArgs false
def fits (l : List ByteArray) : Bool := decide (l.length ≤ 1000000) && l.all fun x => decide (x.size ≤ 35184372088832)
theorem fits_iff (l : List ByteArray) : fits l = true ↔ l.length ≤ 1000000 ∧ ∀ x ∈ l, x.size ≤ 35184372088832 := by
  unfold fits
  simp [List.all_eq_true]
def digest_Root.f (l0 : List ByteArray) : Option ByteArray := if fits l0 then some (rootS l0) else none
theorem digest_Root.calls (A0 : Option Addr) (c0 : Nat) (l0 : List ByteArray) (r : ByteArray) (w : World) (HG : Aside0 (Laid w)) (hr0 : Kd.C Kd.string w A0 l0.length l0) (hc0 : l0.length ≤ c0) (h : digest_Root.f l0 = some r) :
    Calls Tryd.prog 19 #[.slice A0 l0.length c0] w fun e w' => e = .returned (.string r) ∧ Below w.heap.size w w' := by
  unfold digest_Root.f at h
  split at h
  · rename_i hf
    cases h
    obtain ⟨h1, h2⟩ := (fits_iff l0).1 hf
    exact root_any A0 c0 l0 w HG hr0 hc0 h1 h2
  · cases h
theorem strs_R {w : World} {base : Nat} {v : Value} {xs : List ByteArray} (h : w.ownsRow base 9 1 v xs.length (strsV xs)) : Kd.R Kd.string 9 w base (fun _ => True) v xs :=
  Kd.R_of_own h (fun _ _ => trivial)
def digest_Proof.f (l0 : List ByteArray) (a1 : Int) : Option (List ByteArray × Int) :=
  if fits l0 then some (if 0 ≤ a1 ∧ a1 < l0.length then (proofR l0.length l0 a1.toNat, 0) else ([], 2)) else none
theorem digest_Proof.calls (A0 : Option Addr) (c0 : Nat) (l0 : List ByteArray) (a1 : Int) (r1 : List ByteArray) (r2 : Int) (w : World) (HG : Aside0 (Laid w)) (hr0 : Kd.C Kd.string w A0 l0.length l0) (hc0 : l0.length ≤ c0) (h : digest_Proof.f l0 a1 = some (r1, r2)) :
    Calls Tryd.prog 14 #[.slice A0 l0.length c0, .int .i64 a1] w fun e w' => ∃ v0_ : Value, e = .returned (.tuple #[v0_, .int .i64 r2]) ∧ Kd.R Kd.string 9 w' w.heap.size (fun _ => True) v0_ r1 ∧ Below w.heap.size w w' := by
  unfold digest_Proof.f at h
  split at h
  · rename_i hf
    obtain ⟨h1, h2⟩ := (fits_iff l0).1 hf
    split at h
    · rename_i hi
      obtain ⟨i0, i1⟩ := hi
      cases h
      obtain ⟨i, rfl⟩ := Int.eq_ofNat_of_zero_le i0
      obtain ⟨ad, rfl, _⟩ := hr0.2.2 (by omega)
      refine (proof_good ad c0 l0 i w HG hr0 hc0 h1 (by omega) h2).mono ?_
      rintro e w' ⟨v, rfl, ho, hb⟩
      exact ⟨v, rfl, strs_R ho, hb⟩
    · rename_i hi
      cases h
      refine (proof_bad A0 c0 l0.length a1 w (by omega)).mono ?_
      rintro e w' ⟨rfl, hb⟩
      exact ⟨_, rfl, Kd.R_nil _ _ _ _ _, hb⟩
  · cases h
def digest_Extension.f (l0 : List ByteArray) (a1 : Int) : Option (List ByteArray × Int) :=
  if fits l0 then some (if 0 ≤ a1 ∧ a1 ≤ l0.length then (if a1 = 0 then ([], 0) else (extR l0.length l0 a1.toNat true, 0)) else ([], 2)) else none
theorem digest_Extension.calls (A0 : Option Addr) (c0 : Nat) (l0 : List ByteArray) (a1 : Int) (r1 : List ByteArray) (r2 : Int) (w : World) (HG : Aside0 (Laid w)) (hr0 : Kd.C Kd.string w A0 l0.length l0) (hc0 : l0.length ≤ c0) (h : digest_Extension.f l0 a1 = some (r1, r2)) :
    Calls Tryd.prog 16 #[.slice A0 l0.length c0, .int .i64 a1] w fun e w' => ∃ v0_ : Value, e = .returned (.tuple #[v0_, .int .i64 r2]) ∧ Kd.R Kd.string 9 w' w.heap.size (fun _ => True) v0_ r1 ∧ Below w.heap.size w w' := by
  unfold digest_Extension.f at h
  split at h
  · rename_i hf
    obtain ⟨h1, h2⟩ := (fits_iff l0).1 hf
    split at h
    · rename_i hi
      obtain ⟨i0, i1⟩ := hi
      split at h
      · rename_i hz
        cases h
        subst hz
        refine (ext_zero A0 c0 l0.length w).mono ?_
        rintro e w' ⟨rfl, hb⟩
        exact ⟨_, rfl, Kd.R_nil _ _ _ _ _, hb⟩
      · rename_i hz
        cases h
        obtain ⟨i, rfl⟩ := Int.eq_ofNat_of_zero_le i0
        obtain ⟨ad, rfl, _⟩ := hr0.2.2 (by omega)
        refine (ext_good ad c0 l0 i w HG hr0 hc0 h1 (by omega) (by omega) h2).mono ?_
        rintro e w' ⟨v, rfl, ho, hb⟩
        exact ⟨v, rfl, strs_R ho, hb⟩
    · rename_i hi
      cases h
      refine (ext_bad A0 c0 l0.length a1 w (by omega)).mono ?_
      rintro e w' ⟨rfl, hb⟩
      exact ⟨_, rfl, Kd.R_nil _ _ _ _ _, hb⟩
  · cases h
set_option maxRecDepth 100000 in
theorem ver_early (root s : ByteArray) (n i : Int) (A : Option Addr) (c p : Nat) (w : World) (h : i < 0 ∨ n ≤ i) :
    Calls Tryd.prog 21 #[.string root, .int .i64 n, .int .i64 i, .string s, .slice A p c] w fun e w' => e = .returned (.bool false) ∧ Below w.heap.size w w' := by
  by_cases h1 : i < 0
  · have d1 : decide (i < 0) = true := decide_eq_true h1
    go_enter Tryd.func21, Tryd.ntmps21
    go_wp2
    go_ret
    exact ⟨rfl, Below.refl _ _⟩
  · have d1 : decide (i < 0) = false := decide_eq_false h1
    have d2 : decide (n ≤ i) = true := decide_eq_true (by omega)
    go_enter Tryd.func21, Tryd.ntmps21
    go_wp2
    go_ret
    exact ⟨rfl, Below.refl _ _⟩
set_option maxRecDepth 100000 in
theorem ver_odd (root s : ByteArray) (n i : Int) (A : Option Addr) (c : Nat) (proof : List ByteArray) (w : World) (hr : Kd.C Kd.string w A proof.length proof) (hl : proof.length ≤ 1000000) (h0 : 0 ≤ i) (h1 : i < n) (h : proof.all isDig = false) :
    Calls Tryd.prog 21 #[.string root, .int .i64 n, .int .i64 i, .string s, .slice A proof.length c] w fun e w' => e = .returned (.bool false) ∧ Below w.heap.size w w' := by
  have d1 : decide (i < 0) = false := decide_eq_false (by omega)
  have d2 : decide (n ≤ i) = false := decide_eq_false (by omega)
  have ALL := Aside0.mk (all_any A c proof w hr hl)
  rw [h] at ALL
  clear hr h
  generalize proof.length = p at *
  go_enter Tryd.func21, Tryd.ntmps21
  go_wp2_with (go_at_call 45; go_must (refine ALL.out.mono ?_); rintro e w' ⟨rfl, rfl⟩)
  go_ret
  exact ⟨rfl, Below.refl _ _⟩
def digest_Verify.f (a0 : ByteArray) (a1 a2 : Int) (a3 : ByteArray) (l4 : List ByteArray) : Option Bool :=
  if a1 ≤ 9223372036854775807 ∧ a3.size ≤ 35184372088832 ∧ l4.length ≤ 1000000 then some (verR a0 a1 a2 a3 l4) else none
theorem digest_Verify.calls (a0 : ByteArray) (a1 : Int) (a2 : Int) (a3 : ByteArray) (A4 : Option Addr) (c4 : Nat) (l4 : List ByteArray) (r : Bool) (w : World) (HG : Aside0 (Laid w)) (hr4 : Kd.C Kd.string w A4 l4.length l4) (hc4 : l4.length ≤ c4) (h : digest_Verify.f a0 a1 a2 a3 l4 = some r) :
    Calls Tryd.prog 21 #[.string a0, .int .i64 a1, .int .i64 a2, .string a3, .slice A4 l4.length c4] w fun e w' => e = .returned (.bool r) ∧ Below w.heap.size w w' := by
  unfold digest_Verify.f at h
  split at h
  · rename_i hf
    obtain ⟨f1, f2, f3⟩ := hf
    cases h
    by_cases h0 : 0 ≤ a2 ∧ a2 < a1
    · obtain ⟨h0, h1⟩ := h0
      cases hall : l4.all isDig with
      | false =>
        have e : verR a0 a1 a2 a3 l4 = false := by unfold verR; rw [hall]; simp
        rw [e]
        exact ver_odd a0 a3 a1 a2 A4 c4 l4 w hr4 f3 h0 h1 hall
      | true =>
        obtain ⟨i, rfl⟩ := Int.eq_ofNat_of_zero_le h0
        obtain ⟨n, rfl⟩ := Int.eq_ofNat_of_zero_le (show 0 ≤ a1 by omega)
        have e : verR a0 (n : Int) (i : Int) a3 l4 = okB (valR l4.reverse n i (leafB a3)) a0 := by
          unfold verR
          rw [hall, decide_eq_true h0, decide_eq_true h1]
          rfl
        rw [e]
        exact ver_good a0 a3 n i A4 c4 l4 w HG hr4 hc4 f3 (by omega) (by omega) f2 hall
    · have e : verR a0 a1 a2 a3 l4 = false := by
        unfold verR
        by_cases h2 : 0 ≤ a2
        · have : ¬ a2 < a1 := fun h => h0 ⟨h2, h⟩
          rw [decide_eq_false this]; simp
        · rw [decide_eq_false h2]; rfl
      rw [e]
      exact ver_early a0 a3 a1 a2 A4 c4 l4.length w (by omega)
  · cases h
def digest_VerifyExtension.f (a0 : ByteArray) (a1 : Int) (a2 : ByteArray) (a3 : Int) (l4 : List ByteArray) : Option Bool :=
  if a3 ≤ 9223372036854775807 ∧ l4.length ≤ 1000000 then some (vexR a0 a1 a2 a3 l4) else none
theorem digest_VerifyExtension.calls (a0 : ByteArray) (a1 : Int) (a2 : ByteArray) (a3 : Int) (A4 : Option Addr) (c4 : Nat) (l4 : List ByteArray) (r : Bool) (w : World) (HG : Aside0 (Laid w)) (hr4 : Kd.C Kd.string w A4 l4.length l4) (hc4 : l4.length ≤ c4) (h : digest_VerifyExtension.f a0 a1 a2 a3 l4 = some r) :
    Calls Tryd.prog 23 #[.string a0, .int .i64 a1, .string a2, .int .i64 a3, .slice A4 l4.length c4] w fun e w' => e = .returned (.bool r) ∧ Below w.heap.size w w' := by
  unfold digest_VerifyExtension.f at h
  split at h
  · rename_i hf
    obtain ⟨f1, f3⟩ := hf
    cases h
    by_cases h0 : 0 ≤ a1 ∧ a1 ≤ a3
    · obtain ⟨h0, h1⟩ := h0
      cases hall : (l4.all isDig && (isDig a0 && isDig a2)) with
      | false =>
        have e : vexR a0 a1 a2 a3 l4 = false := by
          unfold vexR
          rw [decide_eq_true h0, decide_eq_true h1]
          cases h5 : l4.all isDig
          · rfl
          · cases h6 : isDig a0
            · rfl
            · cases h7 : isDig a2
              · rfl
              · rw [h5, h6, h7] at hall; cases hall
        rw [e]
        exact vex_odd a0 a2 a1 a3 A4 c4 l4 w hr4 f3 h0 h1 hall
      | true =>
        simp only [Bool.and_eq_true] at hall
        obtain ⟨g1, g2, g3⟩ := hall
        by_cases hz : a1 = 0
        · subst hz
          have e : vexR a0 0 a2 a3 l4 = (l4.isEmpty && eqB a0 (sumF ⟨#[]⟩)) := by
            unfold vexR
            rw [decide_eq_true h0, decide_eq_true h1, g1, g2, g3, if_pos rfl]
            rfl
          rw [e]
          exact vex_zero a0 a2 a3 A4 c4 l4 w HG hr4 f3 h1 g1 g2 g3
        · by_cases hq : a1 = a3
          · subst hq
            have e : vexR a0 a1 a2 a1 l4 = (l4.isEmpty && eqB a0 a2) := by
              unfold vexR
              rw [decide_eq_true h0, decide_eq_true h1, g1, g2, g3, if_neg hz, if_pos rfl]
              rfl
            rw [e]
            exact vex_eq a0 a2 a1 A4 c4 l4 w hr4 f3 (by omega) g1 g2 g3
          · obtain ⟨m, rfl⟩ := Int.eq_ofNat_of_zero_le h0
            obtain ⟨n, rfl⟩ := Int.eq_ofNat_of_zero_le (show 0 ≤ a3 by omega)
            have e : vexR a0 (m : Int) a2 (n : Int) l4 = okJ (bothR a0 l4.reverse m n true) a0 a2 := by
              unfold vexR
              rw [decide_eq_true h0, decide_eq_true h1, g1, g2, g3, if_neg hz, if_neg hq]
              rfl
            rw [e]
            exact vex_main a0 a2 m n A4 c4 l4 w HG hr4 hc4 f3 (by omega) (by omega) (by omega) g1 g2 g3
    · have e : vexR a0 a1 a2 a3 l4 = false := by
        unfold vexR
        by_cases h2 : 0 ≤ a1
        · have : ¬ a1 ≤ a3 := fun h => h0 ⟨h2, h⟩
          rw [decide_eq_false this]; simp
        · rw [decide_eq_false h2]; rfl
      rw [e]
      exact vex_bad a0 a2 a1 a3 A4 c4 l4.length w (by omega)
  · cases h
end Go.Proofs.YtabjfogmcehemaaDoor
end
