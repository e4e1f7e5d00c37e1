/- DigestProofAccepted answers true: parts of the proof, merged. -/
import Derived.Test.YtabjfogmcehemaaDoorProofLaw2

section
namespace Go.Proofs.YtabjfogmcehemaaDoor.Tree
set_option linter.unusedVariables false
set_option linter.unusedSimpArgs false
theorem rootS_nil : rootS [] = sumF ⟨#[]⟩ := rfl
theorem collapse_one (k : Nat) (x : ByteArray × Nat) : collapse k [x] = [x] := by cases k <;> rfl
theorem collapse_ne (k : Nat) (x y : ByteArray × Nat) (t : Stk) (h : y.2 ≠ x.2) : collapse k (x :: y :: t) = x :: y :: t := by
  cases k with
  | zero => rfl
  | succ k => simp only [collapse]; rw [if_neg h]
theorem collapse_eq (k : Nat) (x y : ByteArray × Nat) (t : Stk) (h : y.2 = x.2) : collapse (k + 1) (x :: y :: t) = collapse k ((nodeB y.1 x.1, 2 * x.2) :: t) := by
  simp only [collapse]; rw [if_pos h]
def full : Nat → List ByteArray → ByteArray
  | 0, l => leafB (l.headD ⟨#[]⟩)
  | k + 1, l => nodeB (full k (l.take (2 ^ k))) (full k (l.drop (2 ^ k)))
theorem push_full : ∀ (k : Nat) (l : List ByteArray) (st : Stk), l.length = 2 ^ k → (∀ y t, st = y :: t → 2 ^ k ≤ y.2) → l.foldl pushS st = collapse (st.length + 1) ((full k l, 2 ^ k) :: st) := by
  intro k
  induction k with
  | zero =>
    intro l st hl _
    match l, hl with
    | [s], _ => rfl
  | succ k ih =>
    intro l st hl ht
    have hp : 2 ^ (k + 1) = 2 * 2 ^ k := by rw [Nat.pow_succ]; omega
    have hp0 : 0 < 2 ^ k := Nat.two_pow_pos k
    have h1 : (l.take (2 ^ k)).length = 2 ^ k := by rw [List.length_take]; omega
    have h2 : (l.drop (2 ^ k)).length = 2 ^ k := by rw [List.length_drop]; omega
    conv => lhs; rw [← List.take_append_drop (2 ^ k) l]
    rw [List.foldl_append, ih _ st h1 (fun y t e => by have := ht y t e; omega)]
    have e1 : collapse (st.length + 1) ((full k (l.take (2 ^ k)), 2 ^ k) :: st) = (full k (l.take (2 ^ k)), 2 ^ k) :: st := by
      cases st with
      | nil => exact collapse_one _ _
      | cons y t => exact collapse_ne _ _ _ _ (by have := ht y t rfl; show y.2 ≠ 2 ^ k; omega)
    rw [e1, ih _ _ h2 (fun y t e => by injection e with e _; subst e; exact Nat.le_refl _), List.length_cons, collapse_eq _ (full k (l.drop (2 ^ k)), 2 ^ k) (full k (l.take (2 ^ k)), 2 ^ k) st rfl]
    simp only [full]
    rw [hp]
theorem collapse_app (B : ByteArray × Nat) : ∀ (k k' : Nat) (S : Stk) (m : Nat), S ≠ [] → S.length ≤ k → S.length ≤ k' → Good S m → m < B.2 → collapse k' (S ++ [B]) = collapse k S ++ [B] := by
  intro k
  induction k with
  | zero => intro k' S m h0 h1 _ _ _; cases S with | nil => exact absurd rfl h0 | cons x t => simp at h1
  | succ k ih =>
    intro k' S m h0 h1 h2 hg hm
    match S, h0, h1, h2, hg with
    | [x], _, _, _, hg =>
      have := hg.le x (by simp)
      rw [collapse_one]
      exact collapse_ne _ _ _ _ (by omega)
    | x :: y :: t, _, h1, h2, hg =>
      simp only [List.length_cons] at h1 h2
      by_cases he : y.2 = x.2
      · obtain ⟨k', rfl⟩ : ∃ g, k' = g + 1 := ⟨k' - 1, by omega⟩
        rw [collapse_eq _ _ _ _ he]
        show collapse (k' + 1) (x :: y :: (t ++ [B])) = _
        rw [collapse_eq _ _ _ _ he]
        exact ih k' ((nodeB y.1 x.1, 2 * x.2) :: t) m (by simp) (by simp only [List.length_cons]; omega) (by simp only [List.length_cons]; omega) (hg.join he) hm
      · rw [collapse_ne _ _ _ _ he]
        show collapse k' (x :: y :: (t ++ [B])) = _
        rw [collapse_ne _ _ _ _ he]
        rfl
theorem fold_app (B : ByteArray × Nat) : ∀ (l : List ByteArray) (S : Stk) (m : Nat), Good S m → m + l.length < B.2 → l.foldl pushS (S ++ [B]) = l.foldl pushS S ++ [B] := by
  intro l
  induction l with
  | nil => intro S m _ _; rfl
  | cons s l ih =>
    intro S m hg hm
    simp only [List.length_cons] at hm
    simp only [List.foldl_cons]
    have e : pushS (S ++ [B]) s = pushS S s ++ [B] := by
      unfold pushS
      exact collapse_app B (S.length + 1) _ ((leafB s, 1) :: S) (m + 1) (by simp) (by simp) (by simp) (hg.push s) (by omega)
    rw [e]
    exact ih (pushS S s) (m + 1) (Good.collapse _ _ (hg.push s)) (by omega)
theorem finish_app (S : Stk) (B : ByteArray × Nat) (h : S ≠ []) : finishS (S ++ [B]) = nodeB B.1 (finishS S) := by
  cases S with
  | nil => exact absurd rfl h
  | cons x t => simp only [finishS, List.cons_append, List.foldl_append, List.foldl_cons, List.foldl_nil]
theorem stack_full (k : Nat) (l : List ByteArray) (h : l.length = 2 ^ k) : stackS l = [(full k l, 2 ^ k)] := by
  unfold stackS
  rw [push_full k l [] h (fun y t e => by cases e)]
  exact collapse_one _ _
theorem root_full (k : Nat) (l : List ByteArray) (h : l.length = 2 ^ k) : rootS l = full k l := by
  unfold rootS; rw [stack_full k l h]; rfl
theorem rootS_split (l : List ByteArray) (h : 2 ≤ l.length) : rootS l = nodeB (rootS (l.take (leftOf l.length))) (rootS (l.drop (leftOf l.length))) := by
  have h1 := leftOf_lt _ h
  have h2 := leftOf_ge _ h
  have hj : leftOf l.length = 2 ^ Nat.log2 (l.length - 1) := rfl
  generalize Nat.log2 (l.length - 1) = j at hj
  rw [hj] at h1 h2 ⊢
  have l1 : (l.take (2 ^ j)).length = 2 ^ j := by rw [List.length_take]; omega
  have l2 : (l.drop (2 ^ j)).length = l.length - 2 ^ j := List.length_drop
  have hs : stackS l = (l.drop (2 ^ j)).foldl pushS [(full j (l.take (2 ^ j)), 2 ^ j)] := by
    conv => lhs; rw [← List.take_append_drop (2 ^ j) l]
    rw [← stack_full j _ l1]
    unfold stackS
    rw [List.foldl_append]
  rw [root_full j _ l1]
  by_cases he : l.length - 2 ^ j = 2 ^ j
  · rw [root_full j (l.drop (2 ^ j)) (by rw [l2, he])]
    unfold rootS
    rw [hs, push_full j _ _ (by rw [l2, he]) (fun y t e => by injection e with e _; subst e; exact Nat.le_refl _), List.length_singleton, collapse_eq _ (full j (l.drop (2 ^ j)), 2 ^ j) (full j (l.take (2 ^ j)), 2 ^ j) [] rfl, collapse_one]
    rfl
  · unfold rootS
    have := fold_app (full j (l.take (2 ^ j)), 2 ^ j) (l.drop (2 ^ j)) [] 0 good_nil (by rw [l2]; show 0 + _ < 2 ^ j; omega)
    rw [List.nil_append] at this
    rw [hs, this]
    exact finish_app _ _ (stack_pos _ (by intro e; rw [e] at l2; simp at l2; omega))
theorem finish_size (st : Stk) (n : Nat) (h : Good st n) : (finishS st).size = 32 := by
  cases st with
  | nil => exact sumF_size _
  | cons x t =>
    have : ∀ (t : Stk) (v : ByteArray), v.size = 32 → (t.foldl (fun out p => nodeB p.1 out) v).size = 32 := by
      intro t
      induction t with
      | nil => exact fun v h => h
      | cons y t ih => exact fun v h => ih _ (nodeB_size _ _)
    exact this t _ (h.size x (by simp))
theorem rootS_size32 (l : List ByteArray) : (rootS l).size = 32 := finish_size _ _ (good_stack l)
theorem isDig_root (l : List ByteArray) : isDig (rootS l) = true := by unfold isDig; rw [rootS_size32]; rfl
theorem val_proof : ∀ (f : Nat) (l : List ByteArray) (i : Nat) (s : ByteArray), l.length ≤ f → l[i]? = some s → valR (proofR f l i).reverse l.length i (leafB s) = some (rootS l) := by
  intro f
  induction f with
  | zero => intro l i s hl hi; have := (List.getElem?_eq_some_iff.1 hi).1; omega
  | succ f ih =>
    intro l i s hl hi
    have hin := (List.getElem?_eq_some_iff.1 hi).1
    by_cases h1 : l.length = 1
    · rw [proofR_one _ _ _ h1]
      match l, h1 with
      | [x], _ =>
        obtain rfl : i = 0 := by simp at hin; exact hin
        simp at hi
        subst hi
        exact valR_end0 _ _ _ (Nat.le_refl _)
    · have hk := leftOf_lt l.length (by omega)
      have hk0 := leftOf_pos l.length
      have e1 : (l.take (leftOf l.length)).length = leftOf l.length := by rw [List.length_take]; omega
      have e2 : (l.drop (leftOf l.length)).length = l.length - leftOf l.length := List.length_drop
      rw [rootS_split l (by omega)]
      by_cases hlo : i < leftOf l.length
      · rw [proofR_lo _ _ _ h1 hlo, List.reverse_append, List.reverse_singleton, List.singleton_append, valR_lo _ _ _ _ _ (by omega) (by omega)]
        have := ih (l.take (leftOf l.length)) i s (by omega) (by rw [List.getElem?_take, if_pos hlo]; exact hi)
        rw [e1] at this
        rw [this]
        rfl
      · rw [proofR_hi _ _ _ h1 (by omega), List.reverse_append, List.reverse_singleton, List.singleton_append, valR_hi _ _ _ _ _ (by omega) (by omega)]
        have := ih (l.drop (leftOf l.length)) (i - leftOf l.length) s (by omega) (by rw [List.getElem?_drop, show leftOf l.length + (i - leftOf l.length) = i by omega]; exact hi)
        rw [e2] at this
        rw [this]
        rfl
theorem proofR_dig : ∀ (f : Nat) (l : List ByteArray) (i : Nat), (proofR f l i).all isDig = true := by
  intro f
  induction f with
  | zero => intro l i; rfl
  | succ f ih =>
    intro l i
    simp only [proofR]
    split
    · rfl
    · split <;> simp [ih, isDig_root]
theorem left_le (n j : Nat) (h : 2 ≤ n) (hj : n ≤ 2 ^ (j + 1)) : leftOf n ≤ 2 ^ j := by
  unfold leftOf
  have : Nat.log2 (n - 1) < j + 1 := (Nat.log2_lt (by omega)).2 (by omega)
  exact Nat.pow_le_pow_right (by decide) (by omega)
theorem proofR_len : ∀ (f : Nat) (l : List ByteArray) (i j : Nat), 1 ≤ l.length → l.length ≤ 2 ^ j → (proofR f l i).length ≤ j := by
  intro f
  induction f with
  | zero => intro l i j _ _; exact Nat.zero_le _
  | succ f ih =>
    intro l i j h0 hj
    by_cases h1 : l.length = 1
    · rw [proofR_one _ _ _ h1]; exact Nat.zero_le _
    · have hk := leftOf_lt l.length (by omega)
      have hg := leftOf_ge l.length (by omega)
      have hk0 := leftOf_pos l.length
      have e1 : (l.take (leftOf l.length)).length = leftOf l.length := by rw [List.length_take]; omega
      have e2 : (l.drop (leftOf l.length)).length = l.length - leftOf l.length := List.length_drop
      cases j with
      | zero => simp at hj; omega
      | succ j =>
        have hle := left_le _ j (by omega) hj
        by_cases hlo : i < leftOf l.length
        · rw [proofR_lo _ _ _ h1 hlo, List.length_append, List.length_singleton]
          have := ih (l.take (leftOf l.length)) i j (by omega) (by omega)
          omega
        · rw [proofR_hi _ _ _ h1 (by omega), List.length_append, List.length_singleton]
          have := ih (l.drop (leftOf l.length)) (i - leftOf l.length) j (by omega) (by omega)
          omega
end Go.Proofs.YtabjfogmcehemaaDoor.Tree
end

section
namespace Go.Proofs.YtabjfogmcehemaaDoor
open Go.RowKit Go.Shelf Go.Proofs.YtabjfogmcehemaaDoorW.PrintWords Go.Proofs.YtabjfogmcehemaaDoorW.PrintLast Go.Proofs.YtabjfogmcehemaaDoorW.PrintMore
set_option linter.unusedVariables false
set_option linter.unusedSimpArgs false
attribute [local go_sem] Oper.semAt_some
attribute [local go_sem] max2_int min2_int max_two min_two max_three min_three max_four min_four
attribute [local go_sem ↓] Go.wp_at_zero Go.wp_at_succ
structure VSt (w : World) (way : List (ByteArray × Bool)) (v : Value) (W : World) : Prop where
  below : Below w.heap.size w W
  own : W.ownsRow w.heap.size 58 2 v way.length (sidesV way)
section
variable {w W w1 : World} {way : List (ByteArray × Bool)} {v : Value}
theorem VSt.grown (h : VSt w way v W) (hb : Below W.heap.size W w1) : VSt w way v w1 := ⟨below_step h.below hb, own_move h.own (fun k hk => hb.block k (own_lt h.own k hk))⟩
theorem VSt.alloc (h : VSt w way v W) (o : Obj) : VSt w way v (W.alloc o) := h.grown ((Below.refl _ _).alloc (Nat.le_refl _) o)
theorem VSt.drewN (h : VSt w way v W) (m : Nat) : VSt w way v (W.drewN m) := h.grown (pw_below_drewN (Below.refl _ _) m)
theorem VSt.push (h : VSt w way v W) {v' : Value} {x : ByteArray × Bool} (ho : w1.ownsRow w.heap.size 58 2 v' (way.length + 1) (sidesV way ++ [.string x.1, .bool x.2])) (hg : W.grownBy w1 v.ownBlock) : VSt w (way ++ [x]) v' w1 where
  below := h.below.grown hg h.below.size (fun k hk => own_base h.own k hk)
  own := by rw [List.length_append, List.length_singleton, sidesV_app]; exact ho
theorem VSt.gives (h : VSt w way v W) (F : Fence) (n : Nat) (h63 : F.fn 63) (hro : F.round = none) (hn : 1 ≤ n) (hl : way.length ≤ 1000000) (W0 : World) (hW0 : Below W.heap.size W W0) (S : Nat) (hS : W0.heap[S]? = some (.cells #[v] 54 (0, 0))) :
    ∃ R, (R = S ∨ R < W.heap.size ∧ w.heap.size ≤ R ∧ some R = v.ownBlock) ∧ GivesFix F n Tryd.prog 63 #[.pointer (some ⟨S, 0, none⟩)] encS (backL (⟨#[]⟩, false) way way.length) (fun _ => False) (fun W W' => W'.heap[S]? = W.heap[S]? ∧ W'.heap[R]? = W.heap[R]?) W0 := by
  rcases own_formN h.own with ⟨rfl, h0⟩ | ⟨g, c, rfl, hg1, hg2, hg3⟩
  · obtain rfl := List.eq_nil_of_length_eq_zero h0
    exact ⟨S, .inl rfl, backS_nil F n h63 hro hn S S W0 hS⟩
  · refine ⟨g, .inr ⟨hg2, hg1, rfl⟩, backS_gives F n h63 hro hn S g c way (by omega) W0 hS (fun j x hx => ?_) (Nat.lt_of_lt_of_le hg2 hW0.size)⟩
    obtain ⟨h1, h2⟩ := sidesV_at way j x hx
    exact ⟨pw_cell_below hW0 (own_cellN h.own h1), pw_cell_below hW0 (own_cellN h.own h2)⟩
end
theorem cell_two {b : Nat} {w : World} {u v : Value} {t : TypeId} (h : w.heap[b]? = some (.cells #[u, v] t (0, 0))) : w.cell? ⟨b, 0, none⟩ = some u ∧ w.cell? ⟨b, 1, none⟩ = some v := by
  unfold World.cell?
  simp [h]
theorem isDig_size {x : ByteArray} (h : isDig x = true) : x.size = 32 := by unfold isDig at h; exact beq_iff_eq.1 h
theorem take_last {α : Type} (l : List α) (m : Nat) (x : α) (h : l[m]? = some x) : (l.take (m + 1)).reverse = x :: (l.take m).reverse := by
  rw [List.take_add_one, h]; simp
set_option maxRecDepth 100000 in
set_option maxHeartbeats 8000000 in
theorem ver_good (root s : ByteArray) (n i : Nat) (A : Option Addr) (c : Nat) (proof : List ByteArray) (w : World) (HG : Aside0 (Laid w)) (hr : Kd.C Kd.string w A proof.length proof) (hc : proof.length ≤ c) (hl : proof.length ≤ 1000000)
    (hn : n ≤ 9223372036854775807) (hi : i < n) (hs : s.size ≤ 35184372088832) (hall : proof.all isDig = true) :
    Calls Tryd.prog 21 #[.string root, .int .i64 (n : Nat), .int .i64 (i : Nat), .string s, .slice A proof.length c] w fun e w' => e = .returned (.bool (okB (valR proof.reverse n i (leafB s)) root)) ∧ Below w.heap.size w w' := by
  refine (callsIn_wide (n := 5)).1 ?_
  refine callsIn_of_wp_marks Tryd.func21 rfl trivial ?_ rfl
  simp only [Tryd.ntmps21, List.size_toArray, List.length_cons, List.length_nil, Nat.reduceAdd, Nat.reduceSub, Array.replicate_succ, Array.replicate_zero, List.push_toArray, List.append_toArray, List.nil_append, List.cons_append]
  refine wpIn_wide.2 ?_
  obtain ⟨i58, hi58, hz58, hs58, hb58⟩ := info_parts info58
  have ALL := Aside0.mk (all_any A c proof w hr hl)
  rw [hall] at ALL
  have HALL := Aside0.mk hall
  have HR := Aside0.mk hr
  clear hr hall
  obtain ⟨tgt, htgt⟩ : ∃ tgt, valR proof.reverse n i (leafB s) = tgt := ⟨_, rfl⟩
  have T0 : Aside0 ((valR (proof.take proof.length).reverse n i (leafB s)).map (foldS []) = tgt) := ⟨by rw [List.take_length, htgt]; cases tgt <;> rfl⟩
  have HTGT := Aside0.mk htgt
  clear htgt
  obtain ⟨m0, hm0⟩ : ∃ m, proof.length = m := ⟨_, rfl⟩
  have HM0 := Aside0.mk hm0
  rw [hm0] at T0 ALL hl hc ⊢
  clear hm0
  have d1 : decide ((i : Int) < 0) = false := decide_eq_false (by omega)
  have d2 : decide ((n : Int) ≤ (i : Int)) = false := decide_eq_false (by omega)
  have d3 : decide (n ≤ i) = false := decide_eq_false (by omega)
  have hpos : 1 ≤ n := by omega
  go_wp2_with (go_at_call 45; go_must (refine ALL.out.mono ?_); rintro e w' ⟨rfl, rfl⟩)
  go_loopw [1, 2, 4, 11] (fun nv iv pv wv wr => ∃ (n' i' m : Nat) (way : List (ByteArray × Bool)), nv = .int .i64 (n' : Nat) ∧ iv = .int .i64 (i' : Nat) ∧ pv = .slice A m c ∧ 1 ≤ n' ∧ n' ≤ n ∧ i' < n' ∧ m ≤ m0 ∧ way.length + m ≤ m0 ∧ Aside0 (VSt w way wv wr) ∧ Aside0 (∀ x ∈ way, x.1.size = 32) ∧
      Aside0 ((valR (proof.take m).reverse n' i' (leafB s)).map (foldS way) = tgt)) (fun _ _ pv _ _ => lenV pv)
  case atStart => exact ⟨n, i, m0, [], rfl, rfl, rfl, hpos, Nat.le_refl _, hi, Nat.le_refl _, by simp, ⟨⟨Below.refl _ _, World.ownsRow_nil _ _ _ _⟩⟩, ⟨by simp⟩, T0⟩
  case round =>
    clear T0 ALL
    obtain ⟨n', i', m, way, rfl, rfl, rfl, h1, hn', hi', hm, hwm, V, HSD, T⟩ := hrel
    by_cases hone : n' ≤ 1
    · obtain rfl : n' = 1 := by omega
      obtain rfl : i' = 0 := by omega
      have HT : Aside0 ((if m = 0 then some (foldS way (leafB s)) else none) = tgt) := ⟨by
        have h := T.out
        cases m with
        | zero => rw [List.take_zero, List.reverse_nil, valR_end0 _ _ _ (Nat.le_refl _)] at h; exact h
        | succ m =>
          obtain ⟨x, hx⟩ : ∃ x, proof[m]? = some x := ⟨_, List.getElem?_eq_getElem (by rw [HM0.out]; omega)⟩
          rw [take_last proof m _ hx, valR_end1 _ _ _ _ _ (Nat.le_refl _)] at h
          exact h⟩
      have LEAF := Aside0.mk (leaf_any s wr ⟨HG.out.below V.out.below⟩ hs)
      have hwl : way.length ≤ 1000000 := by omega
      clear T
      obtain ⟨Aw, cw, rfl⟩ := own_slice V.out.own
      have hlz := leafB_size s
      have HFOLD := Aside0.mk (sideAt_all (leafB s) way)
      have HSIDE : Aside0 (∀ x ∈ way, x.1.size = 32) := ⟨HSD.out⟩
      go_wp2_with (first
        | (go_at_call 29; go_must (refine LEAF.out.mono ?_); rintro e w1 ⟨rfl, hb⟩; have V1 := Aside0.mk (V.out.grown hb); clear hb)
        | (go_at_call 47; go_must (refine (backwardS_any _ _ _ _).mono ?_); rintro e w2 ⟨rfl, rfl⟩))
      have hS1 : ((w1.alloc (.cells #[.string (leafB s)] 9)).alloc (.cells #[.slice Aw way.length cw] 54)).heap[w1.heap.size + 1]? = some (.cells #[.slice Aw way.length cw] 54 (0, 0)) := by
        have := World.alloc_heap_new (w1.alloc (.cells #[.string (leafB s)] 9)) (.cells #[.slice Aw way.length cw] 54)
        rwa [World.size_alloc] at this
      have hO : ((w1.alloc (.cells #[.string (leafB s)] 9)).alloc (.cells #[.slice Aw way.length cw] 54)).heap[w1.heap.size]? = some (.cells #[.string (leafB s)] 9 (0, 0)) := by
        rw [Below.heap_alloc _ _ _ (by simp)]; exact World.alloc_heap_new _ _
      have hsz : ((w1.alloc (.cells #[.string (leafB s)] 9)).alloc (.cells #[.slice Aw way.length cw] 54)).heap.size = w1.heap.size + 2 := by simp
      have hBW : Below w1.heap.size w1 ((w1.alloc (.cells #[.string (leafB s)] 9)).alloc (.cells #[.slice Aw way.length cw] 54)) := ((Below.refl _ _).alloc (Nat.le_refl _) _).alloc (by simp) _
      have hBl := below_step V1.out.below hBW
      have hwz := V1.out.below.size
      generalize (w1.alloc (.cells #[.string (leafB s)] 9)).alloc (.cells #[.slice Aw way.length cw] 54) = W0 at *
      refine (wpIn_wide (n := 5)).1 ?_
      have hin0 : ∀ {f : FuncId} {args : Array Value} {w : World} {R : Ending → World → Prop} (n : Nat), Calls Tryd.prog f args w R → CallsIn Fence.wide n Tryd.prog f args w R := fun n h => callsIn_wide.2 h
      have hF63 : Fence.wide.fn 63 := trivial
      have hF48 : Fence.wide.fn 48 := trivial
      have hFr : Fence.wide.round = none := rfl
      generalize Fence.wide = F at *
      obtain ⟨R, hRR, hgives⟩ := V1.out.gives F 4 hF63 hFr (by decide) hwl W0 hBW (w1.heap.size + 1) hS1
      have hR2 : R < W0.heap.size ∧ w.heap.size ≤ R ∧ R ≠ w1.heap.size := by omega
      obtain ⟨hR3, hR4, hR5⟩ := hR2
      clear hRR
      refine wpIn_rangeFunc_fixB (F := F) (n := 5) hFr (by decide) (gf := 63) (lb := #[.pointer (some ⟨w1.heap.size + 1, 0, none⟩)]) rfl hF63 (enters_of Tryd.func63 (by kernel_rfl) rfl)
        hgives (fun r e => e.elim) (fun h k => ⟨k.1.trans h.1, k.2.trans h.2⟩) ?zhkb (Below.refl _ _) (fun _ => rfl)
        (fun pre W => Below w.heap.size w W ∧ W.heap[w1.heap.size]? = some (.cells #[.string (sideAt (leafB s) pre)] 9 (0, 0)) ∧ W0.heap.size ≤ W.heap.size) ?zown ⟨hBl, hO, Nat.le_refl _⟩ (fun pre W h => h.2.2) (fun pre W o h => ⟨Below.heap_alloc _ _ _ (by have := h.2.2; omega), Below.heap_alloc _ _ _ (by have := h.2.2; omega)⟩)
        (fun x => #[.string x.2.1, .bool x.2.2]) 58 ?zaf ?zassign ?zbody ?zdone
      case zhkb =>
        intro W l o' hl
        exact ⟨World.putObj_heap_other (by omega), World.putObj_heap_other (by omega)⟩
      case zown =>
        rintro pre A B row ⟨h1, h2, h3⟩ hg hrow
        have hr : ∀ r, row = some r → W0.heap.size ≤ r := fun r e => by
          rcases hrow r e with ⟨h, _⟩ | h
          · exact h
          · exact h.elim
        exact ⟨h1.grown hg (by omega) (fun k e => by have := hr k e; omega), (hg.block _ (by omega) (fun e => by have := hr _ e.symm; omega)).trans h2, Nat.le_trans h3 hg.size⟩
      case zassign =>
        rintro l pre y W K ⟨h1, h2, h3⟩ hK
        simp only [encS]
        obtain ⟨b, hb⟩ : ∃ b, W.heap.size = b := ⟨_, rfl⟩
        have hK2 := hK b hb
        gi_wp2
        exact hK2
      case zbody =>
        rintro l pre ⟨j, r, f⟩ b W ⟨h1, h2, h3⟩ hb1 hb2 hpre
        have hmem := backL_mem (⟨#[]⟩, false) way _ (Nat.le_refl _) (j, r, f) (hpre.subset (by simp))
        have hzr := HSIDE.out (r, f) hmem
        have hzo := sideAt_size (leafB s) hlz pre
        obtain ⟨co, fo⟩ := cell_box h2
        obtain ⟨cb1, cb2⟩ := cell_two hb2
        have hj := join_any (r, f) (sideAt (leafB s) pre) W ⟨HG.out.below h1⟩ (by rw [hzr, hzo]; decide)
        have hin : CallsIn (F.inRound l) 2 Tryd.prog 48 #[.agg #[.string r, .bool f], .string (sideAt (leafB s) pre)] W _ := CallsIn.inRound l (hin0 _ hj)
        have HIN := Aside0.mk hin
        have HH := Aside0.mk (And.intro h1 (And.intro h2 h3))
        have HNX := Aside0.mk (sideAt_next (leafB s) pre (j, r, f))
        have hob : w1.heap.size ≠ b := by omega
        clear hin hj hmem hpre h1 h2 h3 hb2
        gi_wp2_with (gi_at_call 48; go_must (refine HIN.out.mono ?_); rintro e wn ⟨rfl, hb⟩; have hbn := (hb.block w1.heap.size (Array.getElem?_eq_some_iff.1 HH.out.2.1).1).trans HH.out.2.1; obtain ⟨co1, fo1⟩ := cell_box hbn; clear co fo)
        have hwb := below_step HH.out.1 hb
        have hsW := HH.out.2.2
        have hss := hb.size
        refine ⟨⟨by rw [World.size_setCell]; exact hss, fun i o hi ho _ => (Below.heap_setCell wn _ _ i (by simp; omega)).trans ((hb.block i (Array.getElem?_eq_some_iff.1 ho).1).trans ho)⟩,
          ⟨(Below.heap_setCell wn _ _ _ (by simp)).trans (hb.block _ (by omega)), (Below.heap_setCell wn _ _ _ (by simp; omega)).trans (hb.block _ (by omega))⟩,
          hwb.setCell (p := ⟨w1.heap.size, 0, none⟩) hwz _, ?_, by rw [World.size_setCell]; omega⟩
        rw [HNX.out]
        exact one_setCell hbn
      case zdone =>
        rintro D W hD ⟨h1, h2, h3⟩ hK
        rw [HFOLD.out] at h2
        obtain ⟨co, fo⟩ := cell_box h2
        have HBW := Aside0.mk h1
        have HKD := Aside0.mk hK
        have HD := Aside0.mk hD
        clear h1 h2 h3 hK hD hO hS1
        have hwD : w.heap.size ≤ D := by have := HD.out; omega
        have hfin : Aside0 (∀ b : Bool, okB tgt root = b → Below w.heap.size w (W.putObj D (.deferred none)) ∧ okB (valR proof.reverse n i (leafB s)) root = b) := ⟨fun b hb => ⟨HBW.out.trans (belowK_b (w := w) (Nat.le_refl _) W D _ _ hwD HKD.out rfl rfl), by rw [HTGT.out]; exact hb⟩⟩
        generalize foldS way (leafB s) = v at *
        cases m with
        | succ m =>
          have hb : okB tgt root = false := by rw [← HT.out, if_neg (by omega)]; rfl
          obtain ⟨q1, q2⟩ := hfin.out false hb
          have Q1 := Aside0.mk q1
          have Q2 := Aside0.mk q2
          clear q1 q2 hb
          have t3 : (((m + 1 : Nat) : Int) == 0) = false := by rw [beq_eq_false_iff_ne]; omega
          go_wp2
          refine ⟨by simp, .inl ⟨_, _, rfl, run_takeDeferred HKD.out, ?_⟩⟩
          exact ⟨.bool (okB (valR proof.reverse n i (leafB s)) root), by simp [results, Tryd.results21, go_sem]; rw [Q2.out], rfl, Q1.out⟩
        | zero =>
          cases hv : eqB v root with
          | true =>
            have hb : okB tgt root = true := by rw [← HT.out, if_pos rfl]; exact hv
            obtain ⟨q1, q2⟩ := hfin.out true hb
            have Q1 := Aside0.mk q1
            have Q2 := Aside0.mk q2
            have t4 : (v.toList == root.toList) = true := hv
            clear q1 q2 hb hv
            go_wp2
            refine ⟨by simp, .inl ⟨_, _, rfl, run_takeDeferred HKD.out, ?_⟩⟩
            exact ⟨.bool (okB (valR proof.reverse n i (leafB s)) root), by simp [results, Tryd.results21, go_sem]; rw [Q2.out], rfl, Q1.out⟩
          | false =>
            have hb : okB tgt root = false := by rw [← HT.out, if_pos rfl]; exact hv
            obtain ⟨q1, q2⟩ := hfin.out false hb
            have Q1 := Aside0.mk q1
            have Q2 := Aside0.mk q2
            have t4 : (v.toList == root.toList) = false := hv
            clear q1 q2 hb hv
            go_wp2
            refine ⟨by simp, .inl ⟨_, _, rfl, run_takeDeferred HKD.out, ?_⟩⟩
            exact ⟨.bool (okB (valR proof.reverse n i (leafB s)) root), by simp [results, Tryd.results21, go_sem]; rw [Q2.out], rfl, Q1.out⟩
    · have t1 : decide ((1 : Int) < (n' : Int)) = true := decide_eq_true (by omega)
      cases m with
      | zero =>
        have hnone : Aside0 (okB tgt root = false) := ⟨by
          have h := T.out
          rw [List.take_zero, List.reverse_nil, valR_none _ _ _ hone] at h
          rw [← h]; rfl⟩
        go_wp2_with (go_at_call 46; go_must (refine (take_none A c _).mono ?_); rintro e w' ⟨rfl, ⟨nd, rfl⟩⟩)
        refine ⟨.bool (okB (valR proof.reverse n i (leafB s)) root), by simp [results, Tryd.results21, go_sem]; rw [HTGT.out, hnone.out], rfl, pw_below_drewN V.out.below _⟩
      | succ m =>
        obtain ⟨x, hx⟩ : ∃ x, proof[m]? = some x := ⟨_, List.getElem?_eq_getElem (by rw [HM0.out]; omega)⟩
        obtain ⟨ad, cs, rfl, z1, z2, z3⟩ := Kd.C_get HR.out ⟨#[]⟩ (m : Int) (by omega) (by rw [HM0.out]; omega)
        have hxg : proof.getD m ⟨#[]⟩ = x := by rw [List.getD_eq_getElem?_getD, hx]; rfl
        have z2' : cs = [.string x] := by rw [← hxg]; exact z2
        subst z2'
        have hcw := z3 0 _ rfl
        rw [show (m : Int).toNat * Kd.string.sz + 0 = m by show (m : Int).toNat * 1 + 0 = m; omega] at hcw
        have TAKE := Aside0.mk (take_some ad m c x wr (pw_cell_below V.out.below hcw) (by omega) (by omega))
        have hrev := take_last proof m x hx
        rw [hrev] at T
        obtain ⟨k, hk⟩ : ∃ k, leftOf n' = k := ⟨_, rfl⟩
        have hk1 := leftOf_lt n' (by omega)
        have hk3 := leftOf_pos n'
        have LEFT : Aside0 (∀ W, Calls Tryd.prog 40 #[.int .i64 (n' : Nat)] W fun e w' => e = .returned (.int .i64 (k : Nat)) ∧ Drawn0 W w') := ⟨fun W => digest_left.calls _ _ W (by unfold digest_left.f; rw [if_pos (by omega)]; simp [hk])⟩
        have HK := Aside0.mk hk
        rw [hk] at hk1 hk3
        have hwl : way.length ≤ 1000000 := by omega
        have hxz : x.size = 32 := isDig_size (List.all_eq_true.1 HALL.out x (List.mem_of_getElem? hx))
        clear z1 z2 z3 hx hxg hrev hk
        by_cases hik : k ≤ i'
        · have t2 : decide ((k : Int) ≤ (i' : Int)) = true := decide_eq_true (by omega)
          have HSD2 : Aside0 (∀ y ∈ way ++ [(x, true)], y.1.size = 32) := ⟨by intro y hy; rcases List.mem_append.1 hy with hy | hy; exact HSD.out y hy; rw [List.mem_singleton.1 hy]; exact hxz⟩
          have T2 : Aside0 ((valR (proof.take m).reverse (n' - k) (i' - k) (leafB s)).map (foldS (way ++ [(x, true)])) = tgt) := ⟨by
            have h := T.out
            rw [valR_hi _ _ _ _ _ hone (by rw [HK.out]; exact hik), HK.out, map_foldS] at h
            exact h⟩
          have e1 : (n' : Int) - (k : Int) = ((n' - k : Nat) : Int) := by omega
          have e2 : (i' : Int) - (k : Int) = ((i' - k : Nat) : Int) := by omega
          clear T
          go_wp2_with (first
            | (go_at_call 46; go_must (refine TAKE.out.mono ?_); rintro e w1 ⟨rfl, ⟨nd, rfl⟩⟩)
            | (go_at_call 40; go_must (refine (LEFT.out _).mono ?_); rintro e w1 ⟨rfl, ⟨nd2, rfl⟩⟩)
            | (at_builtin; go_must (refine wpList_append_lies _ rfl _ _ 54 rfl w.heap.size 58 i58 (.agg #[.string ⟨#[]⟩, .bool false]) 2 24 Tryd.underlying54 hi58 hz58 hs58 hb58 rfl (by decide) _ _ _ rfl ((V.out.drewN _).alloc _).own _ 1 1 [.string x, .bool true] rfl rfl (World.news_of_block (cs := #[.string x, .bool true]) (t := 58) (fr := (0, 0)) (World.alloc_heap_new _ _)) (by simp [Value.oneCell']) (by decide) (by unfold maxLen; omega) (by omega) ((V.out.drewN _).alloc _).below.size _ rfl ?_); intro ga ca w2 ho hg hat hlt2; have V3 := Aside0.mk (((V.out.drewN _).alloc _).push (x := (x, true)) ho hg); clear ho hg hat))
          refine ⟨⟨n' - k, i' - k, m, way ++ [(x, true)], (by first | rfl | go_num | simp), (by first | rfl | go_num | simp), rfl, by omega, by omega, by omega, by omega, by simp; omega, V3, HSD2, T2⟩, ?_⟩
          simp [lenV]
        · have t2 : decide ((k : Int) ≤ (i' : Int)) = false := decide_eq_false (by omega)
          have HSD2 : Aside0 (∀ y ∈ way ++ [(x, false)], y.1.size = 32) := ⟨by intro y hy; rcases List.mem_append.1 hy with hy | hy; exact HSD.out y hy; rw [List.mem_singleton.1 hy]; exact hxz⟩
          have T2 : Aside0 ((valR (proof.take m).reverse k i' (leafB s)).map (foldS (way ++ [(x, false)])) = tgt) := ⟨by
            have h := T.out
            rw [valR_lo _ _ _ _ _ hone (by rw [HK.out]; exact hik), HK.out, map_foldS] at h
            exact h⟩
          clear T
          go_wp2_with (first
            | (go_at_call 46; go_must (refine TAKE.out.mono ?_); rintro e w1 ⟨rfl, ⟨nd, rfl⟩⟩)
            | (go_at_call 40; go_must (refine (LEFT.out _).mono ?_); rintro e w1 ⟨rfl, ⟨nd2, rfl⟩⟩)
            | (at_builtin; go_must (refine wpList_append_lies _ rfl _ _ 54 rfl w.heap.size 58 i58 (.agg #[.string ⟨#[]⟩, .bool false]) 2 24 Tryd.underlying54 hi58 hz58 hs58 hb58 rfl (by decide) _ _ _ rfl ((V.out.drewN _).alloc _).own _ 1 1 [.string x, .bool false] rfl rfl (World.news_of_block (cs := #[.string x, .bool false]) (t := 58) (fr := (0, 0)) (World.alloc_heap_new _ _)) (by simp [Value.oneCell']) (by decide) (by unfold maxLen; omega) (by omega) ((V.out.drewN _).alloc _).below.size _ rfl ?_); intro ga ca w2 ho hg hat hlt2; have V3 := Aside0.mk (((V.out.drewN _).alloc _).push (x := (x, false)) ho hg); clear ho hg hat))
          refine ⟨⟨k, i', m, way ++ [(x, false)], (by first | rfl | go_num | simp), (by first | rfl | go_num | simp), rfl, by omega, by omega, by omega, by omega, by simp; omega, V3, HSD2, T2⟩, ?_⟩
          simp [lenV]
end Go.Proofs.YtabjfogmcehemaaDoor
end

section
namespace Go.Proofs.YtabjfogmcehemaaDoor
open Go.RowKit Go.Shelf Go.Proofs.YtabjfogmcehemaaDoorW.PrintWords Go.Proofs.YtabjfogmcehemaaDoorW.PrintLast Go.Proofs.YtabjfogmcehemaaDoorW.PrintMore
set_option linter.unusedVariables false
set_option linter.unusedSimpArgs false
attribute [local go_sem] Oper.semAt_some
attribute [local go_sem] max2_int min2_int max_two min_two max_three min_three max_four min_four
attribute [local go_sem ↓] Go.wp_at_zero Go.wp_at_succ
theorem vex_bad (old root : ByteArray) (m n : Int) (A : Option Addr) (c p : Nat) (w : World) (h : m < 0 ∨ n < m) :
    Calls Tryd.prog 23 #[.string old, .int .i64 m, .string root, .int .i64 n, .slice A p c] w fun e w' => e = .returned (.bool false) ∧ Below w.heap.size w w' := by
  by_cases h1 : m < 0
  · have d1 : decide (m < 0) = true := decide_eq_true h1
    go_enter Tryd.func23, Tryd.ntmps23
    go_wp2
    go_ret
    exact ⟨rfl, Below.refl _ _⟩
  · have d1 : decide (m < 0) = false := decide_eq_false h1
    have d2 : decide (n < m) = true := decide_eq_true (by omega)
    go_enter Tryd.func23, Tryd.ntmps23
    go_wp2
    go_ret
    exact ⟨rfl, Below.refl _ _⟩
set_option maxRecDepth 100000 in
set_option maxHeartbeats 4000000 in
theorem vex_odd (old root : ByteArray) (m n : Int) (A : Option Addr) (c : Nat) (proof : List ByteArray) (w : World) (hr : Kd.C Kd.string w A proof.length proof) (hl : proof.length ≤ 1000000) (h0 : 0 ≤ m) (h1 : m ≤ n)
    (h : (proof.all isDig && (isDig old && isDig root)) = false) :
    Calls Tryd.prog 23 #[.string old, .int .i64 m, .string root, .int .i64 n, .slice A proof.length c] w fun e w' => e = .returned (.bool false) ∧ Below w.heap.size w w' := by
  have d1 : decide (m < 0) = false := decide_eq_false (by omega)
  have d2 : decide (n < m) = false := decide_eq_false (by omega)
  have ALL := Aside0.mk (all_any A c proof w hr hl)
  have D1 := Aside0.mk (isDigest_any old w)
  have D2 := Aside0.mk (isDigest_any root w)
  cases e1 : proof.all isDig with
  | false =>
    rw [e1] at ALL
    clear hr h e1
    generalize proof.length = p at *
    go_enter Tryd.func23, Tryd.ntmps23
    go_wp2_with (go_at_call 45; go_must (refine ALL.out.mono ?_); rintro e w' ⟨rfl, rfl⟩)
    go_ret
    exact ⟨rfl, Below.refl _ _⟩
  | true =>
    rw [e1] at ALL h
    cases e2 : isDig old with
    | false =>
      rw [e2] at D1
      clear hr h e1 e2
      generalize proof.length = p at *
      go_enter Tryd.func23, Tryd.ntmps23
      go_wp2_with (first | (go_at_call 45; go_must (refine ALL.out.mono ?_); rintro e w' ⟨rfl, rfl⟩) | (go_at_call 51; go_must (refine D1.out.mono ?_); rintro e w' ⟨rfl, rfl⟩))
      go_ret
      exact ⟨rfl, Below.refl _ _⟩
    | true =>
      rw [e2] at D1 h
      have e3 : isDig root = false := by simpa using h
      rw [e3] at D2
      clear hr h e1 e2 e3
      generalize proof.length = p at *
      go_enter Tryd.func23, Tryd.ntmps23
      go_wp2_with (first | (go_at_call 45; go_must (refine ALL.out.mono ?_); rintro e w' ⟨rfl, rfl⟩) | (go_at_call 51; refine D1.out.mono ?_; rintro e w' ⟨rfl, rfl⟩) | (go_at_call 51; go_must (refine D2.out.mono ?_); rintro e w' ⟨rfl, rfl⟩))
      go_ret
      exact ⟨rfl, Below.refl _ _⟩
set_option maxRecDepth 100000 in
set_option maxHeartbeats 4000000 in
theorem vex_zero (old root : ByteArray) (n : Int) (A : Option Addr) (c : Nat) (proof : List ByteArray) (w : World) (HG : Aside0 (Laid w)) (hr : Kd.C Kd.string w A proof.length proof) (hl : proof.length ≤ 1000000) (h1 : 0 ≤ n)
    (e1 : proof.all isDig = true) (e2 : isDig old = true) (e3 : isDig root = true) :
    Calls Tryd.prog 23 #[.string old, .int .i64 0, .string root, .int .i64 n, .slice A proof.length c] w fun e w' => e = .returned (.bool (proof.isEmpty && eqB old (sumF ⟨#[]⟩))) ∧ Below w.heap.size w w' := by
  have d2 : decide (n < 0) = false := decide_eq_false (by omega)
  have ALL := Aside0.mk (all_any A c proof w hr hl)
  have D1 := Aside0.mk (isDigest_any old w)
  have D2 := Aside0.mk (isDigest_any root w)
  have SUM := Aside0.mk (sum_any ⟨#[]⟩ w HG (by decide))
  rw [e1] at ALL
  rw [e2] at D1
  rw [e3] at D2
  cases proof with
  | cons x proof =>
    have t1 : (((x :: proof).length : Int) == 0) = false := by rw [beq_eq_false_iff_ne]; simp; omega
    have e4 : ((x :: proof).isEmpty && eqB old (sumF ⟨#[]⟩)) = false := rfl
    rw [e4]
    clear e1 e2 e3 e4 hr
    generalize (x :: proof).length = p at *
    go_enter Tryd.func23, Tryd.ntmps23
    go_wp2_with (first | (go_at_call 45; go_must (refine ALL.out.mono ?_); rintro e w' ⟨rfl, rfl⟩) | (go_at_call 51; refine D1.out.mono ?_; rintro e w' ⟨rfl, rfl⟩) | (go_at_call 51; go_must (refine D2.out.mono ?_); rintro e w' ⟨rfl, rfl⟩))
    go_ret
    exact ⟨rfl, Below.refl _ _⟩
  | nil =>
    have e4 : (([] : List ByteArray).isEmpty && eqB old (sumF ⟨#[]⟩)) = eqB old (sumF ⟨#[]⟩) := rfl
    rw [e4]
    clear e1 e2 e3 e4 hr
    obtain ⟨sm, hsm⟩ : ∃ sm, sumF ⟨#[]⟩ = sm := ⟨_, rfl⟩
    rw [hsm] at SUM ⊢
    clear hsm
    obtain ⟨b, hb⟩ : ∃ b, eqB old sm = b := ⟨_, rfl⟩
    rw [hb]
    have t1 : (old.toList == sm.toList) = b := hb
    clear hb
    go_enter Tryd.func23, Tryd.ntmps23
    go_wp2_with (first | (go_at_call 45; go_must (refine ALL.out.mono ?_); rintro e w' ⟨rfl, rfl⟩) | (go_at_call 51; refine D1.out.mono ?_; rintro e w' ⟨rfl, rfl⟩) | (go_at_call 51; go_must (refine D2.out.mono ?_); rintro e w' ⟨rfl, rfl⟩) | (go_at_call 30; go_must (refine SUM.out.mono ?_); rintro e w' ⟨rfl, hb⟩))
    go_ret
    exact ⟨rfl, hb⟩
set_option maxRecDepth 100000 in
set_option maxHeartbeats 4000000 in
theorem vex_eq (old root : ByteArray) (n : Int) (A : Option Addr) (c : Nat) (proof : List ByteArray) (w : World) (hr : Kd.C Kd.string w A proof.length proof) (hl : proof.length ≤ 1000000) (h1 : 0 < n)
    (e1 : proof.all isDig = true) (e2 : isDig old = true) (e3 : isDig root = true) :
    Calls Tryd.prog 23 #[.string old, .int .i64 n, .string root, .int .i64 n, .slice A proof.length c] w fun e w' => e = .returned (.bool (proof.isEmpty && eqB old root)) ∧ Below w.heap.size w w' := by
  have d1 : decide (n < 0) = false := decide_eq_false (by omega)
  have d3 : (n == 0) = false := by rw [beq_eq_false_iff_ne]; omega
  have ALL := Aside0.mk (all_any A c proof w hr hl)
  have D1 := Aside0.mk (isDigest_any old w)
  have D2 := Aside0.mk (isDigest_any root w)
  rw [e1] at ALL
  rw [e2] at D1
  rw [e3] at D2
  obtain ⟨b, hb⟩ : ∃ b, eqB old root = b := ⟨_, rfl⟩
  rw [hb]
  have t2 : (old.toList == root.toList) = b := hb
  clear hb
  cases proof with
  | cons x proof =>
    have t1 : (((x :: proof).length : Int) == 0) = false := by rw [beq_eq_false_iff_ne]; simp; omega
    have e4 : ((x :: proof).isEmpty && b) = false := rfl
    rw [e4]
    clear e1 e2 e3 e4 hr
    generalize (x :: proof).length = p at *
    go_enter Tryd.func23, Tryd.ntmps23
    go_wp2_with (first | (go_at_call 45; go_must (refine ALL.out.mono ?_); rintro e w' ⟨rfl, rfl⟩) | (go_at_call 51; refine D1.out.mono ?_; rintro e w' ⟨rfl, rfl⟩) | (go_at_call 51; go_must (refine D2.out.mono ?_); rintro e w' ⟨rfl, rfl⟩))
    go_ret
    exact ⟨rfl, Below.refl _ _⟩
  | nil =>
    have e4 : (([] : List ByteArray).isEmpty && b) = b := rfl
    rw [e4]
    clear e1 e2 e3 e4 hr
    go_enter Tryd.func23, Tryd.ntmps23
    go_wp2_with (first | (go_at_call 45; go_must (refine ALL.out.mono ?_); rintro e w' ⟨rfl, rfl⟩) | (go_at_call 51; refine D1.out.mono ?_; rintro e w' ⟨rfl, rfl⟩) | (go_at_call 51; go_must (refine D2.out.mono ?_); rintro e w' ⟨rfl, rfl⟩))
    go_ret
    exact ⟨rfl, Below.refl _ _⟩
structure ESt (w : World) (way : List (ByteArray × Bool)) (v : Value) (O1 O2 pp : Nat) (v0 : ByteArray) (tgt : Option (ByteArray × ByteArray)) (W : World) : Prop where
  size : v0.size = 32
  tgt : (if pp = 0 then some (foldJ way (v0, v0)) else none) = tgt
  v : VSt w way v W
  b1 : W.heap[O1]? = some (.cells #[.string v0] 9 (0, 0))
  b2 : W.heap[O2]? = some (.cells #[.string v0] 9 (0, 0))
theorem ESt.drewN {w W : World} {way : List (ByteArray × Bool)} {v : Value} {O1 O2 pp : Nat} {v0 : ByteArray} {tgt : Option (ByteArray × ByteArray)} (h : ESt w way v O1 O2 pp v0 tgt W) (n : Nat) : ESt w way v O1 O2 pp v0 tgt (W.drewN n) := ⟨h.size, h.tgt, h.v.drewN n, h.b1, h.b2⟩
theorem ESt.drew {w W : World} {way : List (ByteArray × Bool)} {v : Value} {O1 O2 pp : Nat} {v0 : ByteArray} {tgt : Option (ByteArray × ByteArray)} (h : ESt w way v O1 O2 pp v0 tgt W) : ESt w way v O1 O2 pp v0 tgt W.drew := h.drewN 1
theorem VSt.setCell {w W : World} {way : List (ByteArray × Bool)} {v : Value} (h : VSt w way v W) {b : Nat} (hb : w.heap.size ≤ b) (hne : some b ≠ v.ownBlock) (u : Value) : VSt w way v (W.setCell ⟨b, 0, none⟩ u) :=
  ⟨h.below.setCell (p := ⟨b, 0, none⟩) hb u, own_setCell h.own (p := ⟨b, 0, none⟩) hne u⟩
theorem VSt.ne {w W : World} {way : List (ByteArray × Bool)} {v : Value} (h : VSt w way v W) {b : Nat} {cs : Array Value} (hb : W.heap[b]? = some (.cells cs 9 (0, 0))) : some b ≠ v.ownBlock := own_ne h.own hb (by decide)
structure BSt (w : World) (O1 O2 N : Nat) (q : ByteArray × ByteArray) (W : World) : Prop where
  below : Below w.heap.size w W
  b1 : W.heap[O1]? = some (.cells #[.string q.1] 9 (0, 0))
  b2 : W.heap[O2]? = some (.cells #[.string q.2] 9 (0, 0))
  size : N ≤ W.heap.size
theorem BSt.call {w W W' : World} {O1 O2 N : Nat} {q : ByteArray × ByteArray} (h : BSt w O1 O2 N q W) (hb : Below W.heap.size W W') : BSt w O1 O2 N q W' :=
  ⟨below_step h.below hb, (hb.block _ (Array.getElem?_eq_some_iff.1 h.b1).1).trans h.b1, (hb.block _ (Array.getElem?_eq_some_iff.1 h.b2).1).trans h.b2, Nat.le_trans h.size hb.size⟩
theorem BSt.set1 {w W : World} {O1 O2 N : Nat} {q : ByteArray × ByteArray} (h : BSt w O1 O2 N q W) (hw : w.heap.size ≤ O1) (hne : O2 ≠ O1) (v : ByteArray) : BSt w O1 O2 N (v, q.2) (W.setCell ⟨O1, 0, none⟩ (.string v)) :=
  ⟨h.below.setCell (p := ⟨O1, 0, none⟩) hw _, one_setCell h.b1, (Below.heap_setCell _ _ _ _ hne).trans h.b2, by rw [World.size_setCell]; exact h.size⟩
theorem BSt.set2 {w W : World} {O1 O2 N : Nat} {q : ByteArray × ByteArray} (h : BSt w O1 O2 N q W) (hw : w.heap.size ≤ O2) (hne : O1 ≠ O2) (v : ByteArray) : BSt w O1 O2 N (q.1, v) (W.setCell ⟨O2, 0, none⟩ (.string v)) :=
  ⟨h.below.setCell (p := ⟨O2, 0, none⟩) hw _, (Below.heap_setCell _ _ _ _ hne).trans h.b1, one_setCell h.b2, by rw [World.size_setCell]; exact h.size⟩
structure KB (N S R : Nat) (W W' : World) : Prop where
  k : KeepsFrom N W W'
  s : W'.heap[S]? = W.heap[S]?
  r : W'.heap[R]? = W.heap[R]?
theorem KB.refl (N S R : Nat) (W : World) : KB N S R W W := ⟨KeepsFrom.refl N W, rfl, rfl⟩
theorem KB.call {N S R : Nat} {W W1 W2 : World} (h : KB N S R W W1) (hb : Below W1.heap.size W1 W2) (hS : S < W1.heap.size) (hR : R < W1.heap.size) : KB N S R W W2 :=
  ⟨h.k.trans ⟨hb.size, fun i o _ ho _ => (hb.block i (Array.getElem?_eq_some_iff.1 ho).1).trans ho⟩, (hb.block S hS).trans h.s, (hb.block R hR).trans h.r⟩
theorem KB.set {N S R : Nat} {W W1 : World} (h : KB N S R W W1) (O : Nat) (hO : O < N) (hS : S ≠ O) (hR : R ≠ O) (v : Value) : KB N S R W (W1.setCell ⟨O, 0, none⟩ v) :=
  ⟨h.k.trans ⟨by rw [World.size_setCell]; exact Nat.le_refl _, fun i o hi ho _ => (Below.heap_setCell W1 _ _ i (by simp; omega)).trans ho⟩, (Below.heap_setCell _ _ _ _ hS).trans h.s, (Below.heap_setCell _ _ _ _ hR).trans h.r⟩
set_option maxRecDepth 100000 in
set_option maxHeartbeats 16000000 in
theorem vex_main (old root : ByteArray) (m0 n0 : Nat) (A : Option Addr) (c : Nat) (proof : List ByteArray) (w : World) (HG : Aside0 (Laid w)) (hr : Kd.C Kd.string w A proof.length proof) (hc : proof.length ≤ c) (hl : proof.length ≤ 1000000)
    (hn : n0 ≤ 9223372036854775807) (hm : 0 < m0) (hmn : m0 < n0) (e1 : proof.all isDig = true) (e2 : isDig old = true) (e3 : isDig root = true) :
    Calls Tryd.prog 23 #[.string old, .int .i64 (m0 : Nat), .string root, .int .i64 (n0 : Nat), .slice A proof.length c] w fun e w' => e = .returned (.bool (okJ (bothR old proof.reverse m0 n0 true) old root)) ∧ Below w.heap.size w w' := by
  refine (callsIn_wide (n := 5)).1 ?_
  refine callsIn_of_wp_marks Tryd.func23 rfl trivial ?_ rfl
  simp only [Tryd.ntmps23, List.size_toArray, List.length_cons, List.length_nil, Nat.reduceAdd, Nat.reduceSub, Array.replicate_succ, Array.replicate_zero, List.push_toArray, List.append_toArray, List.nil_append, List.cons_append]
  refine wpIn_wide.2 ?_
  obtain ⟨i58, hi58, hz58, hs58, hb58⟩ := info_parts info58
  have ALL := Aside0.mk (all_any A c proof w hr hl)
  have D1 := Aside0.mk (isDigest_any old w)
  have D2 := Aside0.mk (isDigest_any root w)
  rw [e1] at ALL
  rw [e2] at D1
  rw [e3] at D2
  have HALL := Aside0.mk e1
  have hzo := isDig_size e2
  have HR := Aside0.mk hr
  clear hr e1 e2 e3
  obtain ⟨tgt, htgt⟩ : ∃ tgt, bothR old proof.reverse m0 n0 true = tgt := ⟨_, rfl⟩
  have T0 : Aside0 ((bothR old (proof.take proof.length).reverse m0 n0 true).map (foldJ []) = tgt) := ⟨by rw [List.take_length, htgt]; cases tgt <;> rfl⟩
  have HTGT := Aside0.mk htgt
  clear htgt
  obtain ⟨p0, hp0⟩ : ∃ p, proof.length = p := ⟨_, rfl⟩
  have HP0 := Aside0.mk hp0
  rw [hp0] at T0 ALL hl hc ⊢
  clear hp0
  have d1 : decide ((m0 : Int) < 0) = false := decide_eq_false (by omega)
  have d2 : decide ((n0 : Int) < (m0 : Int)) = false := decide_eq_false (by omega)
  have d3 : decide (n0 < m0) = false := decide_eq_false (by omega)
  have d4 : ((m0 : Int) == 0) = false := by rw [beq_eq_false_iff_ne]; omega
  have d5 : ((m0 : Int) == (n0 : Int)) = false := by rw [beq_eq_false_iff_ne]; omega
  go_wp2_with (first | (go_at_call 45; go_must (refine ALL.out.mono ?_); rintro e w' ⟨rfl, rfl⟩) | (go_at_call 51; refine D1.out.mono ?_; rintro e w' ⟨rfl, rfl⟩) | (go_at_call 51; go_must (refine D2.out.mono ?_); rintro e w' ⟨rfl, rfl⟩))
  go_loopw [1, 3, 4, 11, 12] (fun iv nv pv wv bv wr => ∃ (n' m' p : Nat) (way : List (ByteArray × Bool)) (bw : Bool), nv = .int .i64 (n' : Nat) ∧ iv = .int .i64 (m' : Nat) ∧ pv = .slice A p c ∧ bv = .bool bw ∧ 0 < m' ∧ m' ≤ n' ∧ n' ≤ n0 ∧ p ≤ p0 ∧ way.length + p ≤ p0 ∧ Aside0 (VSt w way wv wr) ∧ Aside0 (∀ x ∈ way, x.1.size = 32) ∧
      Aside0 ((bothR old (proof.take p).reverse m' n' bw).map (foldJ way) = tgt)) (fun _ _ pv _ _ _ => lenV pv)
  case atStart => exact ⟨n0, m0, p0, [], true, rfl, rfl, rfl, rfl, hm, by omega, Nat.le_refl _, Nat.le_refl _, by simp, ⟨⟨Below.refl _ _, World.ownsRow_nil _ _ _ _⟩⟩, ⟨by simp⟩, T0⟩
  case round =>
    clear T0 ALL D1 D2
    obtain ⟨n', m', p, way, bw, rfl, rfl, rfl, rfl, h1, hmn', hn', hp, hwp, V, HSD, T⟩ := hrel
    by_cases hone : m' < n'
    · have t1 : decide ((m' : Int) < (n' : Int)) = true := decide_eq_true (by omega)
      cases p with
      | zero =>
        have hnone : Aside0 (okJ tgt old root = false) := ⟨by
          have h := T.out
          rw [List.take_zero, List.reverse_nil, bothR_none _ _ _ _ hone] at h
          rw [← h]; rfl⟩
        go_wp2_with (go_at_call 46; go_must (refine (take_none A c _).mono ?_); rintro e w' ⟨rfl, ⟨nd, rfl⟩⟩)
        refine ⟨.bool (okJ (bothR old proof.reverse m0 n0 true) old root), by simp [results, Tryd.results23, go_sem]; rw [HTGT.out, hnone.out], rfl, pw_below_drewN V.out.below _⟩
      | succ p =>
        obtain ⟨x, hx⟩ : ∃ x, proof[p]? = some x := ⟨_, List.getElem?_eq_getElem (by rw [HP0.out]; omega)⟩
        obtain ⟨ad, cs, rfl, z1, z2, z3⟩ := Kd.C_get HR.out ⟨#[]⟩ (p : Int) (by omega) (by rw [HP0.out]; omega)
        have hxg : proof.getD p ⟨#[]⟩ = x := by rw [List.getD_eq_getElem?_getD, hx]; rfl
        have z2' : cs = [.string x] := by rw [← hxg]; exact z2
        subst z2'
        have hcw := z3 0 _ rfl
        rw [show (p : Int).toNat * Kd.string.sz + 0 = p by show (p : Int).toNat * 1 + 0 = p; omega] at hcw
        have TAKE := Aside0.mk (take_some ad p c x wr (pw_cell_below V.out.below hcw) (by omega) (by omega))
        have hrev := take_last proof p x hx
        rw [hrev] at T
        obtain ⟨k, hk⟩ : ∃ k, leftOf n' = k := ⟨_, rfl⟩
        have hk1 := leftOf_lt n' (by omega)
        have hk3 := leftOf_pos n'
        have LEFT : Aside0 (∀ W, Calls Tryd.prog 40 #[.int .i64 (n' : Nat)] W fun e w' => e = .returned (.int .i64 (k : Nat)) ∧ Drawn0 W w') := ⟨fun W => digest_left.calls _ _ W (by unfold digest_left.f; rw [if_pos (by omega)]; simp [hk])⟩
        have HK := Aside0.mk hk
        rw [hk] at hk1 hk3
        have hwl : way.length ≤ 1000000 := by omega
        have hxz : x.size = 32 := isDig_size (List.all_eq_true.1 HALL.out x (List.mem_of_getElem? hx))
        clear z1 z2 z3 hx hxg hrev hk
        by_cases hik : k < m'
        · have t2 : decide ((k : Int) < (m' : Int)) = true := decide_eq_true (by omega)
          have HSD2 : Aside0 (∀ y ∈ way ++ [(x, true)], y.1.size = 32) := ⟨by intro y hy; rcases List.mem_append.1 hy with hy | hy; exact HSD.out y hy; rw [List.mem_singleton.1 hy]; exact hxz⟩
          have T2 : Aside0 ((bothR old (proof.take p).reverse (m' - k) (n' - k) false).map (foldJ (way ++ [(x, true)])) = tgt) := ⟨by
            have h := T.out
            rw [bothR_hi _ _ _ _ _ _ hone (by rw [HK.out]; exact hik), HK.out, map_foldJ] at h
            exact h⟩
          have e1 : (n' : Int) - (k : Int) = ((n' - k : Nat) : Int) := by omega
          have e2 : (m' : Int) - (k : Int) = ((m' - k : Nat) : Int) := by omega
          clear T
          go_wp2_with (first
            | (go_at_call 46; go_must (refine TAKE.out.mono ?_); rintro e w1 ⟨rfl, ⟨nd, rfl⟩⟩)
            | (go_at_call 40; go_must (refine (LEFT.out _).mono ?_); rintro e w1 ⟨rfl, ⟨nd2, rfl⟩⟩)
            | (at_builtin; go_must (refine wpList_append_lies _ rfl _ _ 54 rfl w.heap.size 58 i58 (.agg #[.string ⟨#[]⟩, .bool false]) 2 24 Tryd.underlying54 hi58 hz58 hs58 hb58 rfl (by decide) _ _ _ rfl ((V.out.drewN _).alloc _).own _ 1 1 [.string x, .bool true] rfl rfl (World.news_of_block (cs := #[.string x, .bool true]) (t := 58) (fr := (0, 0)) (World.alloc_heap_new _ _)) (by simp [Value.oneCell']) (by decide) (by unfold maxLen; omega) (by omega) ((V.out.drewN _).alloc _).below.size _ rfl ?_); intro ga ca w2 ho hg hat hlt2; have V3 := Aside0.mk (((V.out.drewN _).alloc _).push (x := (x, true)) ho hg); clear ho hg hat))
          refine ⟨⟨n' - k, m' - k, p, way ++ [(x, true)], false, (by first | rfl | go_num | simp), (by first | rfl | go_num | simp), rfl, rfl, by omega, by omega, by omega, by omega, by simp; omega, V3, HSD2, T2⟩, ?_⟩
          simp [lenV]
        · have t2 : decide ((k : Int) < (m' : Int)) = false := decide_eq_false (by omega)
          have HSD2 : Aside0 (∀ y ∈ way ++ [(x, false)], y.1.size = 32) := ⟨by intro y hy; rcases List.mem_append.1 hy with hy | hy; exact HSD.out y hy; rw [List.mem_singleton.1 hy]; exact hxz⟩
          have T2 : Aside0 ((bothR old (proof.take p).reverse m' k bw).map (foldJ (way ++ [(x, false)])) = tgt) := ⟨by
            have h := T.out
            rw [bothR_lo _ _ _ _ _ _ hone (by rw [HK.out]; omega), HK.out, map_foldJ] at h
            exact h⟩
          clear T
          go_wp2_with (first
            | (go_at_call 46; go_must (refine TAKE.out.mono ?_); rintro e w1 ⟨rfl, ⟨nd, rfl⟩⟩)
            | (go_at_call 40; go_must (refine (LEFT.out _).mono ?_); rintro e w1 ⟨rfl, ⟨nd2, rfl⟩⟩)
            | (at_builtin; go_must (refine wpList_append_lies _ rfl _ _ 54 rfl w.heap.size 58 i58 (.agg #[.string ⟨#[]⟩, .bool false]) 2 24 Tryd.underlying54 hi58 hz58 hs58 hb58 rfl (by decide) _ _ _ rfl ((V.out.drewN _).alloc _).own _ 1 1 [.string x, .bool false] rfl rfl (World.news_of_block (cs := #[.string x, .bool false]) (t := 58) (fr := (0, 0)) (World.alloc_heap_new _ _)) (by simp [Value.oneCell']) (by decide) (by unfold maxLen; omega) (by omega) ((V.out.drewN _).alloc _).below.size _ rfl ?_); intro ga ca w2 ho hg hat hlt2; have V3 := Aside0.mk (((V.out.drewN _).alloc _).push (x := (x, false)) ho hg); clear ho hg hat))
          refine ⟨⟨k, m', p, way ++ [(x, false)], bw, (by first | rfl | go_num | simp), (by first | rfl | go_num | simp), rfl, rfl, by omega, by omega, by omega, by omega, by simp; omega, V3, HSD2, T2⟩, ?_⟩
          simp [lenV]
    · obtain rfl : m' = n' := by omega
      obtain ⟨Aw, cw, rfl⟩ := own_slice V.out.own
      have hwl : way.length ≤ 1000000 := by omega
      have VA : Aside0 (VSt w way (.slice Aw way.length cw) ((wr.alloc (.cells #[.string old] 9)).alloc (.cells #[.string old] 9))) := ⟨(V.out.alloc _).alloc _⟩
      have HO1 : Aside0 (((wr.alloc (.cells #[.string old] 9)).alloc (.cells #[.string old] 9)).heap[wr.heap.size]? = some (.cells #[.string old] 9 (0, 0))) := ⟨by rw [Below.heap_alloc _ _ _ (by simp)]; exact World.alloc_heap_new _ _⟩
      have HO2 : Aside0 (((wr.alloc (.cells #[.string old] 9)).alloc (.cells #[.string old] 9)).heap[wr.heap.size + 1]? = some (.cells #[.string old] 9 (0, 0))) := ⟨by
        have := World.alloc_heap_new (wr.alloc (.cells #[.string old] 9)) (.cells #[.string old] 9)
        rwa [World.size_alloc] at this⟩
      go_upto_if 102 with (fail)
      go_cut [4] from 103 to 111 (fun pv wx => ∃ (v0 : ByteArray) (A' : Option Addr) (pp c' : Nat), pv = .slice A' pp c' ∧ Aside0 (ESt w way (.slice Aw way.length cw) wr.heap.size (wr.heap.size + 1) pp v0 tgt wx))
      case first =>
        cases bw with
        | true =>
          have hE : Aside0 (ESt w way (.slice Aw way.length cw) wr.heap.size (wr.heap.size + 1) p old tgt ((wr.alloc (.cells #[.string old] 9)).alloc (.cells #[.string old] 9))) := ⟨⟨hzo, by
            have h := T.out
            cases p with
            | zero => rw [List.take_zero, List.reverse_nil, bothR_end0 _ _ _ _ (Nat.le_refl _)] at h; exact h
            | succ p =>
              obtain ⟨x, hx⟩ : ∃ x, proof[p]? = some x := ⟨_, List.getElem?_eq_getElem (by rw [HP0.out]; omega)⟩
              rw [take_last proof p x hx, bothR_end1 _ _ _ _ _ _ (Nat.le_refl _)] at h
              exact h, VA.out, HO1.out, HO2.out⟩⟩
          go_wp2_with fail
          go_meet
          exact ⟨old, A, p, c, rfl, hE⟩
        | false =>
          by_cases hp1 : p = 1
          · subst hp1
            obtain ⟨x, hx⟩ : ∃ x, proof[0]? = some x := ⟨_, List.getElem?_eq_getElem (by rw [HP0.out]; omega)⟩
            obtain ⟨ad, cs, rfl, z1, z2, z3⟩ := Kd.C_get HR.out ⟨#[]⟩ 0 (by omega) (by rw [HP0.out]; omega)
            have hxg : proof.getD (0 : Int).toNat ⟨#[]⟩ = x := by show proof.getD 0 ⟨#[]⟩ = x; rw [List.getD_eq_getElem?_getD, hx]; rfl
            have z2' : cs = [.string x] := by rw [← hxg]; exact z2
            subst z2'
            have hcw := z3 0 _ rfl
            rw [show (0 : Int).toNat * Kd.string.sz + 0 = 0 by rfl, add0] at hcw
            have hxz : x.size = 32 := isDig_size (List.all_eq_true.1 HALL.out x (List.mem_of_getElem? hx))
            have hadw : ad.block < w.heap.size := World.block_lt_of_cell? w _ hcw
            have hcr := pw_cell_below V.out.below hcw
            have hwz := V.out.below.size
            have hT1 : some (foldJ way (x, x)) = tgt := by
              have h := T.out
              rw [take_last proof 0 x hx, bothR_end1 _ _ _ _ _ _ (Nat.le_refl _), List.take_zero, List.reverse_nil] at h
              exact h
            have HT1 := Aside0.mk hT1
            clear z1 z2 z3 hxg hx hT1 T
            have hcA : ((wr.alloc (.cells #[.string old] 9)).alloc (.cells #[.string old] 9)).cell? ad = some (.string x) := cellN_old (by simp; omega) (cellN_old (by omega) hcr)
            clear hcr
            obtain ⟨WA, hWA⟩ : ∃ WA, (wr.alloc (.cells #[.string old] 9)).alloc (.cells #[.string old] 9) = WA := ⟨_, rfl⟩
            rw [hWA] at VA HO1 HO2 hcA
            go_upto_region 23 with (fail)
            try rw [hWA]
            clear hWA
            obtain ⟨c1, f1⟩ := cell_box HO1.out
            obtain ⟨c2, f2⟩ := cell_box HO2.out
            have n1 : ad.block ≠ wr.heap.size := by omega
            have n2 : ad.block ≠ wr.heap.size + 1 := by omega
            have n3 : ∀ v, (WA.setCell ⟨wr.heap.size, 0, none⟩ v).cell? ad = some (.string x) := fun v => (World.cell?_setCell_far WA ⟨wr.heap.size, 0, none⟩ ad v (by simp; omega)).trans hcA
            have n4 : ∀ v, (WA.setCell ⟨wr.heap.size + 1, 0, none⟩ v).cell? ad = some (.string x) := fun v => (World.cell?_setCell_far WA ⟨wr.heap.size + 1, 0, none⟩ ad v (by simp; omega)).trans hcA
            have hne := VA.out.ne HO1.out
            have hne2 := VA.out.ne HO2.out
            have E1 : ESt w way (.slice Aw way.length cw) wr.heap.size (wr.heap.size + 1) 0 x tgt ((WA.setCell ⟨wr.heap.size, 0, none⟩ (.string x)).setCell ⟨wr.heap.size + 1, 0, none⟩ (.string x)) :=
              ⟨hxz, by rw [if_pos rfl]; exact HT1.out, (VA.out.setCell hwz hne _).setCell (by omega) hne2 _, (Below.heap_setCell _ _ _ _ (by simp)).trans (one_setCell HO1.out), one_setCell ((Below.heap_setCell _ _ _ _ (by simp)).trans HO2.out)⟩
            have E2 : ESt w way (.slice Aw way.length cw) wr.heap.size (wr.heap.size + 1) 0 x tgt ((WA.setCell ⟨wr.heap.size + 1, 0, none⟩ (.string x)).setCell ⟨wr.heap.size, 0, none⟩ (.string x)) :=
              ⟨hxz, by rw [if_pos rfl]; exact HT1.out, (VA.out.setCell (by omega) hne2 _).setCell hwz hne _, one_setCell ((Below.heap_setCell _ _ _ _ (by simp)).trans HO1.out), (Below.heap_setCell _ _ _ _ (by simp)).trans (one_setCell HO2.out)⟩
            have H1 := Aside0.mk E1
            have H2 := Aside0.mk E2
            clear E1 E2 hne hne2
            refine wp_region_noPanic ?_
            go_region_law ((fail))
            all_goals (refine NoPanic.normal ?_; go_wp2_with fail; go_meet; exact ⟨x, none, 0, 0, rfl, ⟨by first | exact H1.out.drew | exact H2.out.drew | exact H1.out.drewN _ | exact H2.out.drewN _⟩⟩)
          · have hnone : Aside0 (okJ tgt old root = false) := ⟨by
              have h := T.out
              cases p with
              | zero => rw [List.take_zero, List.reverse_nil, bothR_end0 _ _ _ _ (Nat.le_refl _)] at h; rw [← h]; rfl
              | succ p =>
                obtain ⟨x, hx⟩ : ∃ x, proof[p]? = some x := ⟨_, List.getElem?_eq_getElem (by rw [HP0.out]; omega)⟩
                rw [take_last proof p x hx, bothR_end1 _ _ _ _ _ _ (Nat.le_refl _)] at h
                cases p with
                | zero => omega
                | succ p =>
                  obtain ⟨y, hy⟩ : ∃ y, proof[p]? = some y := ⟨_, List.getElem?_eq_getElem (by rw [HP0.out]; omega)⟩
                  rw [take_last proof p y hy] at h
                  rw [← h]; rfl⟩
            have t3 : ((p : Int) == 1) = false := by rw [beq_eq_false_iff_ne]; omega
            clear T
            go_wp2
            refine ⟨.bool (okJ (bothR old proof.reverse m0 n0 true) old root), by simp [results, Tryd.results23, go_sem]; rw [HTGT.out, hnone.out], rfl, VA.out.below⟩
      case rest =>
        obtain ⟨v0, A', pp, c', rfl, E⟩ := hcut
        have hwz := V.out.below.size
        clear HO1 HO2 VA T V
        have hO1 := (Array.getElem?_eq_some_iff.1 E.out.b1).1
        have hO2 := (Array.getElem?_eq_some_iff.1 E.out.b2).1
        have HFOLD := Aside0.mk (bothAt_all v0 way)
        have hvz := E.out.size
        go_wp2_with (go_at_call 47; go_must (refine (backwardS_any _ _ _ _).mono ?_); rintro e w2 ⟨rfl, rfl⟩)
        have hS1 : (wc.alloc (.cells #[.slice Aw way.length cw] 54)).heap[wc.heap.size]? = some (.cells #[.slice Aw way.length cw] 54 (0, 0)) := World.alloc_heap_new _ _
        have hB0 : BSt w wr.heap.size (wr.heap.size + 1) (wc.alloc (.cells #[.slice Aw way.length cw] 54)).heap.size (v0, v0) (wc.alloc (.cells #[.slice Aw way.length cw] 54)) :=
          ⟨E.out.v.below.alloc E.out.v.below.size _, (Below.heap_alloc _ _ _ hO1).trans E.out.b1, (Below.heap_alloc _ _ _ hO2).trans E.out.b2, Nat.le_refl _⟩
        have hsz : (wc.alloc (.cells #[.slice Aw way.length cw] 54)).heap.size = wc.heap.size + 1 := by simp
        have hBW : Below wc.heap.size wc (wc.alloc (.cells #[.slice Aw way.length cw] 54)) := (Below.refl _ _).alloc (Nat.le_refl _) _
        have hwc := E.out.v.below.size
        have hneR := E.out.v.ne E.out.b1
        have hneR2 := E.out.v.ne E.out.b2
        generalize wc.alloc (.cells #[.slice Aw way.length cw] 54) = W0 at *
        refine (wpIn_wide (n := 5)).1 ?_
        have hin0 : ∀ {f : FuncId} {args : Array Value} {w : World} {R : Ending → World → Prop} (n : Nat), Calls Tryd.prog f args w R → CallsIn Fence.wide n Tryd.prog f args w R := fun n h => callsIn_wide.2 h
        have hF63 : Fence.wide.fn 63 := trivial
        have hF48 : Fence.wide.fn 48 := trivial
        have hFr : Fence.wide.round = none := rfl
        generalize Fence.wide = F at *
        obtain ⟨R, hRR, hgives⟩ := E.out.v.gives F 4 hF63 hFr (by decide) hwl W0 hBW wc.heap.size hS1
        have hR3 : R < W0.heap.size ∧ R ≠ wr.heap.size ∧ R ≠ wr.heap.size + 1 := by
          rcases hRR with rfl | ⟨h1, h2, h3⟩
          · omega
          · exact ⟨by omega, fun e => hneR (by rw [← e]; exact h3), fun e => hneR2 (by rw [← e]; exact h3)⟩
        obtain ⟨hR3, hR4, hR5⟩ := hR3
        clear hRR hneR hneR2
        refine wpIn_rangeFunc_fixB (F := F) (n := 5) hFr (by decide) (gf := 63) (lb := #[.pointer (some ⟨wc.heap.size, 0, none⟩)]) rfl hF63 (enters_of Tryd.func63 (by kernel_rfl) rfl)
          hgives (fun r e => e.elim) (fun h k => ⟨k.1.trans h.1, k.2.trans h.2⟩) ?zhkb (Below.refl _ _) (fun _ => rfl)
          (fun pre W => BSt w wr.heap.size (wr.heap.size + 1) W0.heap.size (bothAt v0 pre) W) ?zown hB0 (fun pre W h => h.size) (fun pre W o h => ⟨Below.heap_alloc _ _ _ (by have := h.size; omega), Below.heap_alloc _ _ _ (by have := h.size; omega)⟩)
          (fun x => #[.string x.2.1, .bool x.2.2]) 58 ?zaf ?zassign ?zbody ?zdone
        case zhkb =>
          intro W l o' hl
          exact ⟨World.putObj_heap_other (by omega), World.putObj_heap_other (by omega)⟩
        case zown =>
          rintro pre A B row h hg hrow
          have hr : ∀ r, row = some r → W0.heap.size ≤ r := fun r e => by
            rcases hrow r e with ⟨h, _⟩ | h
            · exact h
            · exact h.elim
          have h3 := h.size
          exact ⟨h.below.grown hg (by omega) (fun k e => by have := hr k e; omega), (hg.block _ (by omega) (fun e => by have := hr _ e.symm; omega)).trans h.b1, (hg.block _ (by omega) (fun e => by have := hr _ e.symm; omega)).trans h.b2, Nat.le_trans h3 hg.size⟩
        case zassign =>
          rintro l pre y W K h hK
          simp only [encS]
          obtain ⟨b, hb⟩ : ∃ b, W.heap.size = b := ⟨_, rfl⟩
          have hK2 := hK b hb
          gi_wp2
          exact hK2
        case zbody =>
          rintro l pre ⟨j, r, f⟩ b W hB hb1 hb2 hpre
          have hmem := backL_mem (⟨#[]⟩, false) way _ (Nat.le_refl _) (j, r, f) (hpre.subset (by simp))
          have hzr := HSD.out (r, f) hmem
          obtain ⟨hq1, hq2⟩ := bothAt_size v0 hvz pre
          have HNX := Aside0.mk (bothAt_next v0 pre (j, r, f))
          generalize bothAt v0 pre = q at *
          obtain ⟨q1, q2⟩ := q
          dsimp only at hq1 hq2
          have JN : Aside0 (∀ (u : ByteArray) (W' : World), u.size = 32 → Below w.heap.size w W' → CallsIn (F.inRound l) 2 Tryd.prog 48 #[.agg #[.string r, .bool f], .string u] W' fun e w'' => e = .returned (.string (joinS (r, f) u)) ∧ Below W'.heap.size W' w'') :=
            ⟨fun u W' hu hb => CallsIn.inRound l (hin0 _ (join_any (r, f) u W' ⟨HG.out.below hb⟩ (by rw [hu]; dsimp only at hzr ⊢; rw [hzr]; decide)))⟩
          obtain ⟨co1, fo1⟩ := cell_box hB.b1
          obtain ⟨co2, fo2⟩ := cell_box hB.b2
          obtain ⟨cb1, cb2⟩ := cell_two hb2
          have HB := Aside0.mk hB
          have hbN : wr.heap.size ≠ b := by omega
          have hbN2 : wr.heap.size + 1 ≠ b := by omega
          have hO12 : wr.heap.size ≠ wr.heap.size + 1 := by omega
          have hbW : b < W.heap.size := (Array.getElem?_eq_some_iff.1 hb2).1
          clear hmem hpre hB hin0
          cases f with
          | true =>
            gi_wp2_with (first
              | (gi_at_call 48; (with_reducible refine (JN.out q1 W hq1 HB.out.below).mono ?_); rintro e wn ⟨rfl, hb⟩; have HBn := Aside0.mk (HB.out.call hb); have HKn := Aside0.mk ((KB.refl W0.heap.size wc.heap.size R W).call hb (by have := HB.out.size; omega) (by have := HB.out.size; omega)); obtain ⟨co3, fo3⟩ := cell_box HBn.out.b1; obtain ⟨co4, fo4⟩ := cell_box HBn.out.b2; obtain ⟨cb3, cb4⟩ := cell_two ((hb.block b hbW).trans hb2); have HBs := Aside0.mk (HBn.out.set1 (by omega) (Ne.symm hO12) (joinS (r, true) q1)); have HKs := Aside0.mk (HKn.out.set wr.heap.size (by omega) (by omega) hR4 (.string (joinS (r, true) q1))); obtain ⟨co5, fo5⟩ := cell_box HBs.out.b2; obtain ⟨cb5, cb6⟩ := cell_two ((Below.heap_setCell wn ⟨wr.heap.size, 0, none⟩ (.string (joinS (r, true) q1)) b (Ne.symm hbN)).trans ((hb.block b hbW).trans hb2)); clear co1 fo1 co2 fo2 cb1 cb2 hb2 hb)
              | (gi_at_call 48; (with_reducible refine (JN.out q2 _ hq2 HBs.out.below).mono ?_); rintro e wm ⟨rfl, hb⟩; have HBm := Aside0.mk (HBs.out.call hb); have HKm := Aside0.mk (HKs.out.call hb (by have := HBs.out.size; omega) (by have := HBs.out.size; omega)); obtain ⟨co7, fo7⟩ := cell_box HBm.out.b2; clear co3 fo3 co4 fo4 co5 fo5 cb3 cb4 cb5 cb6 hb))
            have hBf := HBm.out.set2 (by omega) hO12 (joinS (r, true) q2)
            have hKf := HKm.out.set (wr.heap.size + 1) (by omega) (by omega) hR5 (.string (joinS (r, true) q2))
            refine ⟨hKf.k, ⟨hKf.s, hKf.r⟩, ?_⟩
            show BSt w wr.heap.size (wr.heap.size + 1) W0.heap.size (bothAt v0 (pre ++ [(j, r, true)])) _
            rw [HNX.out]
            exact hBf
          | false =>
            gi_wp2_with (gi_at_call 48; go_must (refine (JN.out q2 W hq2 HB.out.below).mono ?_); rintro e wn ⟨rfl, hb⟩; have HBn := Aside0.mk (HB.out.call hb); have HKn := Aside0.mk ((KB.refl W0.heap.size wc.heap.size R W).call hb (by have := HB.out.size; omega) (by have := HB.out.size; omega)); obtain ⟨co3, fo3⟩ := cell_box HBn.out.b2; clear co2 fo2 hb)
            have hBf := HBn.out.set2 (by omega) hO12 (joinS (r, false) q2)
            have hKf := HKn.out.set (wr.heap.size + 1) (by omega) (by omega) hR5 (.string (joinS (r, false) q2))
            refine ⟨hKf.k, ⟨hKf.s, hKf.r⟩, ?_⟩
            show BSt w wr.heap.size (wr.heap.size + 1) W0.heap.size (bothAt v0 (pre ++ [(j, r, false)])) _
            rw [HNX.out]
            exact hBf
        case zdone =>
          rintro D W hD h hK
          have hb1 := h.b1
          have hb2 := h.b2
          rw [HFOLD.out] at hb1 hb2
          obtain ⟨co1, fo1⟩ := cell_box hb1
          obtain ⟨co2, fo2⟩ := cell_box hb2
          have hwD : w.heap.size ≤ D := by omega
          have HKD := Aside0.mk hK
          have hfin : Aside0 (∀ b : Bool, okJ tgt old root = b → Below w.heap.size w (W.putObj D (.deferred none)) ∧ okJ (bothR old proof.reverse m0 n0 true) old root = b) := ⟨fun b hb => ⟨h.below.trans (belowK_b (w := w) (Nat.le_refl _) W D _ _ hwD HKD.out rfl rfl), by rw [HTGT.out]; exact hb⟩⟩
          have HT := Aside0.mk E.out.tgt
          clear hb1 hb2 h hK hD hB0 hS1
          generalize foldJ way (v0, v0) = q at *
          obtain ⟨q1, q2⟩ := q
          dsimp only at co1 co2
          cases pp with
          | succ pp =>
            have hb : okJ tgt old root = false := by rw [← HT.out, if_neg (by omega)]; rfl
            obtain ⟨z1, z2⟩ := hfin.out false hb
            have Q1 := Aside0.mk z1
            have Q2 := Aside0.mk z2
            clear z1 z2 hb
            have t3 : (((pp + 1 : Nat) : Int) == 0) = false := by rw [beq_eq_false_iff_ne]; omega
            go_wp2
            refine ⟨by simp, .inl ⟨_, _, rfl, run_takeDeferred HKD.out, ?_⟩⟩
            exact ⟨.bool (okJ (bothR old proof.reverse m0 n0 true) old root), by simp [results, Tryd.results23, go_sem]; rw [Q2.out], rfl, Q1.out⟩
          | zero =>
            have hok : okJ tgt old root = (eqB q1 old && eqB q2 root) := by rw [← HT.out, if_pos rfl]; rfl
            cases hv1 : eqB q1 old with
            | false =>
              have hb : okJ tgt old root = false := by rw [hok, hv1]; rfl
              obtain ⟨z1, z2⟩ := hfin.out false hb
              have Q1 := Aside0.mk z1
              have Q2 := Aside0.mk z2
              have t4 : (q1.toList == old.toList) = false := hv1
              clear z1 z2 hb hok hv1
              go_wp2
              refine ⟨by simp, .inl ⟨_, _, rfl, run_takeDeferred HKD.out, ?_⟩⟩
              exact ⟨.bool (okJ (bothR old proof.reverse m0 n0 true) old root), by simp [results, Tryd.results23, go_sem]; rw [Q2.out], rfl, Q1.out⟩
            | true =>
              cases hv2 : eqB q2 root with
              | false =>
                have hb : okJ tgt old root = false := by rw [hok, hv1, hv2]; rfl
                obtain ⟨z1, z2⟩ := hfin.out false hb
                have Q1 := Aside0.mk z1
                have Q2 := Aside0.mk z2
                have t4 : (q1.toList == old.toList) = true := hv1
                have t5 : (q2.toList == root.toList) = false := hv2
                clear z1 z2 hb hok hv1 hv2
                go_wp2
                refine ⟨by simp, .inl ⟨_, _, rfl, run_takeDeferred HKD.out, ?_⟩⟩
                exact ⟨.bool (okJ (bothR old proof.reverse m0 n0 true) old root), by simp [results, Tryd.results23, go_sem]; rw [Q2.out], rfl, Q1.out⟩
              | true =>
                have hb : okJ tgt old root = true := by rw [hok, hv1, hv2]; rfl
                obtain ⟨z1, z2⟩ := hfin.out true hb
                have Q1 := Aside0.mk z1
                have Q2 := Aside0.mk z2
                have t4 : (q1.toList == old.toList) = true := hv1
                have t5 : (q2.toList == root.toList) = true := hv2
                clear z1 z2 hb hok hv1 hv2
                go_wp2
                refine ⟨by simp, .inl ⟨_, _, rfl, run_takeDeferred HKD.out, ?_⟩⟩
                exact ⟨.bool (okJ (bothR old proof.reverse m0 n0 true) old root), by simp [results, Tryd.results23, go_sem]; rw [Q2.out], rfl, Q1.out⟩
end Go.Proofs.YtabjfogmcehemaaDoor
end

section
namespace Go.Proofs.YtabjfogmcehemaaDoor
open Go.RowKit Go.Shelf Go.Proofs.YtabjfogmcehemaaDoorW.PrintWords Go.Proofs.YtabjfogmcehemaaDoorW.PrintLast Go.Proofs.YtabjfogmcehemaaDoorW.PrintMore
set_option linter.unusedVariables false
set_option linter.unusedSimpArgs false
attribute [local go_sem] max2_int min2_int max_two min_two max_three min_three max_four min_four
attribute [local go_sem ↓] Go.wp_at_zero Go.wp_at_succ
structure DSt (w : World) (L : Nat) (cur : List ByteArray) (ad : Addr) (n c : Nat) (outs : List ByteArray) (o : Value) (W : World) : Prop where
  len : cur.length = n
  pos : 1 ≤ n
  cap : n ≤ c
  row : Kd.C Kd.string w (some ad) cur.length cur
  small : ∀ x ∈ cur, x.size ≤ 35184372088832
  sum : outs.length + n ≤ L
  below : Below w.heap.size w W
  own : W.ownsRow w.heap.size 9 1 o outs.length (strsV outs)
section
variable {w W w1 : World} {L n c : Nat} {cur outs : List ByteArray} {ad : Addr} {o : Value}
theorem DSt.grown (h : DSt w L cur ad n c outs o W) (hb : Below W.heap.size W w1) : DSt w L cur ad n c outs o w1 :=
  ⟨h.len, h.pos, h.cap, h.row, h.small, h.sum, below_step h.below hb, own_move h.own (fun k hk => hb.block k (own_lt h.own k hk))⟩
theorem DSt.alloc (h : DSt w L cur ad n c outs o W) (b : Obj) : DSt w L cur ad n c outs o (W.alloc b) := h.grown ((Below.refl _ _).alloc (Nat.le_refl _) b)
theorem DSt.drewN (h : DSt w L cur ad n c outs o W) (m : Nat) : DSt w L cur ad n c outs o (W.drewN m) := h.grown (pw_below_drewN (Below.refl _ _) m)
theorem DSt.take {k : Nat} (h : DSt w L cur ad n c outs o W) (hk : k < n) (h1 : 1 ≤ k) {o' : Value} {r : ByteArray} (ho : w1.ownsRow w.heap.size 9 1 o' (outs.length + 1) (strsV outs ++ [.string r])) (hg : W.grownBy w1 o.ownBlock) : DSt w L (cur.take k) ad k c (outs ++ [r]) o' w1 where
  len := by rw [List.length_take, h.len]; omega
  pos := h1
  cap := by have := h.cap; omega
  row := Kd.C_take h.row (by rw [h.len]; omega)
  small := fun x hx => h.small x (List.mem_of_mem_take hx)
  sum := by have := h.sum; rw [List.length_append, List.length_singleton]; omega
  below := h.below.grown hg h.below.size (fun k hk => own_base h.own k hk)
  own := by rw [List.length_append, List.length_singleton]; simpa [strsV] using ho
theorem DSt.rowDrop {k : Nat} (h : DSt w L cur ad n c outs o W) (hk : k < n) : Kd.C Kd.string w (some (ad.add k)) (cur.drop k).length (cur.drop k) := by
  have := Kd.C_drop (c := c) h.row (show k ≤ cur.length by rw [h.len]; omega) (by rw [h.len]; exact h.cap)
  rw [if_neg (by have := h.cap; omega)] at this
  have e : k * Kd.string.sz = k := by show k * 1 = k; omega
  rw [e] at this
  exact this
theorem DSt.drop {k : Nat} (h : DSt w L cur ad n c outs o W) (hk : k < n) (h1 : 1 ≤ k) {o' : Value} {r : ByteArray} (ho : w1.ownsRow w.heap.size 9 1 o' (outs.length + 1) (strsV outs ++ [.string r])) (hg : W.grownBy w1 o.ownBlock) : DSt w L (cur.drop k) (ad.add k) (n - k) (c - k) (outs ++ [r]) o' w1 where
  len := by rw [List.length_drop, h.len]
  pos := by omega
  cap := by have := h.cap; omega
  row := h.rowDrop hk
  small := fun x hx => h.small x (List.mem_of_mem_drop hx)
  sum := by have := h.sum; rw [List.length_append, List.length_singleton]; omega
  below := h.below.grown hg h.below.size (fun k hk => own_base h.own k hk)
  own := by rw [List.length_append, List.length_singleton]; simpa [strsV] using ho
theorem DSt.root_take {k : Nat} (h : DSt w L cur ad n c outs o W) (HG : Aside0 (Laid w)) (hk : k < n) (hL : L ≤ 1000000) : Calls Tryd.prog 19 #[.slice (some ad) k c] W fun e w' => e = .returned (.string (rootS (cur.take k))) ∧ DSt w L cur ad n c outs o w' := by
  have hs := h.sum
  have hcap := h.cap
  have hl : (cur.take k).length = k := by rw [List.length_take, h.len]; omega
  have := root_any (some ad) c (cur.take k) W ⟨HG.out.below h.below⟩ (Kd.C_below (Kd.C_take h.row (by rw [h.len]; omega)) h.below) (by rw [hl]; omega) (by rw [hl]; omega) (fun x hx => h.small x (List.mem_of_mem_take hx))
  rw [hl] at this
  exact this.mono fun e w' ⟨he, hb⟩ => ⟨he, h.grown hb⟩
theorem DSt.root_drop {k : Nat} (h : DSt w L cur ad n c outs o W) (HG : Aside0 (Laid w)) (hk : k < n) (hL : L ≤ 1000000) : Calls Tryd.prog 19 #[.slice (some (ad.add k)) (n - k) (c - k)] W fun e w' => e = .returned (.string (rootS (cur.drop k))) ∧ DSt w L cur ad n c outs o w' := by
  have hs := h.sum
  have hcap := h.cap
  have hl : (cur.drop k).length = n - k := by rw [List.length_drop, h.len]
  have := root_any (some (ad.add k)) (c - k) (cur.drop k) W ⟨HG.out.below h.below⟩ (Kd.C_below (h.rowDrop hk) h.below) (by rw [hl]; omega) (by rw [hl]; omega) (fun x hx => h.small x (List.mem_of_mem_drop hx))
  rw [hl] at this
  exact this.mono fun e w' ⟨he, hb⟩ => ⟨he, h.grown hb⟩
theorem DSt.root_all (h : DSt w L cur ad n c outs o W) (HG : Aside0 (Laid w)) (hL : L ≤ 1000000) : Calls Tryd.prog 19 #[.slice (some ad) n c] W fun e w' => e = .returned (.string (rootS cur)) ∧ DSt w L cur ad n c outs o w' := by
  have hs := h.sum
  have hcap := h.cap
  have := root_any (some ad) c cur W ⟨HG.out.below h.below⟩ (Kd.C_below h.row h.below) (by rw [h.len]; omega) (by rw [h.len]; omega) h.small
  rw [h.len] at this
  exact this.mono fun e w' ⟨he, hb⟩ => ⟨he, h.grown hb⟩
end
theorem own_setCells {base g n cap : Nat} {e : TypeId} : ∀ (ys : List Value) (o : Nat) (W : World) (xs : List Value), W.ownsRow base e 1 (.slice (some ⟨g, 0, none⟩) n cap) n xs → o + ys.length ≤ xs.length →
    (W.setCells g o ys).ownsRow base e 1 (.slice (some ⟨g, 0, none⟩) n cap) n (xs.take o ++ ys ++ xs.drop (o + ys.length)) ∧ W.grownBy (W.setCells g o ys) (some g) := by
  intro ys
  induction ys with
  | nil =>
    intro o W xs h ho
    refine ⟨?_, ⟨rfl, rfl, rfl, Nat.le_refl _, fun _ _ _ => rfl⟩⟩
    simpa [World.setCells] using h
  | cons y ys ih =>
    intro o W xs h ho
    simp only [List.length_cons] at ho
    obtain ⟨h1, h2⟩ := h.stored o y
    obtain ⟨h3, h4⟩ := ih (o + 1) _ _ h1 (by rw [List.length_set]; omega)
    refine ⟨?_, h2.trans h4⟩
    have e : (xs.set o y).take (o + 1) ++ ys ++ (xs.set o y).drop (o + 1 + ys.length) = xs.take o ++ (y :: ys) ++ xs.drop (o + (y :: ys).length) := by
      have ho' : o < xs.length := by omega
      rw [List.take_add_one, List.getElem?_set_self ho', List.take_set_of_le (Nat.le_refl _), List.drop_set_of_lt (by omega)]
      simp only [List.length_cons, Option.toList, List.append_assoc, List.singleton_append, List.cons_append]
      rw [show o + 1 + ys.length = o + (ys.length + 1) by omega]
      simp
    rw [e] at h3
    exact h3
theorem reverse_own {w W : World} {base : Nat} {o : Value} {outs : List ByteArray} (h : W.ownsRow base 9 1 o outs.length (strsV outs)) (hl : outs.length ≤ 1000000) (hb : Below base w W) :
    Calls Tryd.prog 41 #[o] W fun e w' => e = .returned (.tuple #[]) ∧ w'.ownsRow base 9 1 o outs.length (strsV outs.reverse) ∧ Below base w w' := by
  rcases Nat.eq_zero_or_pos outs.length with h0 | h0
  · obtain rfl := List.eq_nil_of_length_eq_zero h0
    obtain ⟨A, c, rfl⟩ := own_slice h
    refine (Tryd.slices_Reverse_string_empty A c W).mono ?_
    rintro e w' ⟨rfl, rfl⟩
    exact ⟨rfl, h, hb⟩
  · obtain ⟨g, c, rfl⟩ := own_form h h0
    have hx : ∀ i, i < outs.length → (strsV outs)[i]? = some (.string (outs.getD i ⟨#[]⟩)) := by
      intro i hi
      unfold strsV
      rw [List.getElem?_map, List.getD_eq_getElem?_getD, List.getElem?_eq_getElem hi]
      rfl
    have hfr : ∀ j, W.frozen? ⟨g, j, none⟩ = false := by
      intro j
      rcases h.2 with ⟨h2, _⟩ | ⟨g', cap', cur, he, hg, hh, hn, hc, hs, ht⟩
      · cases h2
      · cases he
        unfold World.frozen?
        rw [hh]
        simp
    refine (Tryd.slices_Reverse_string_cells g 0 outs.length c (fun i => outs.getD i ⟨#[]⟩) W (by omega) (fun i hi => by rw [Nat.zero_add]; exact own_cell h (hx i hi)) (fun j hj => hfr _)).mono ?_
    rintro e w' ⟨rfl, q, rfl⟩
    have hd : (W.drewN q).ownsRow base 9 1 (.slice (some ⟨g, 0, none⟩) outs.length c) outs.length (strsV outs) := h
    have hys : (Lib.strsOf (fun i => outs.getD i ⟨#[]⟩) outs.length).reverse.map encStr = strsV outs.reverse := by
      have e1 : Lib.strsOf (fun i => outs.getD i ⟨#[]⟩) outs.length = outs.map (·.data.toList) := by
        apply List.ext_getElem?
        intro i
        unfold Lib.strsOf
        rw [List.getElem?_map, List.getElem?_map]
        by_cases hi : i < outs.length
        · rw [List.getElem?_range hi, List.getElem?_eq_getElem hi]
          simp [List.getD_eq_getElem?_getD, List.getElem?_eq_getElem hi]
        · rw [List.getElem?_eq_none (by simpa using hi), List.getElem?_eq_none (by omega)]
          rfl
      rw [e1, ← List.map_reverse]
      exact Lib.map_encStr _
    rw [hys]
    obtain ⟨h1, h2⟩ := own_setCells (strsV outs.reverse) 0 _ _ hd (by simp [strsV])
    refine ⟨rfl, ?_, (pw_below_drewN hb q).grown h2 ?_ (fun k e => by cases e; exact own_base h g rfl)⟩
    · have e2 : (strsV outs).drop (0 + (strsV outs.reverse).length) = [] := List.drop_of_length_le (by simp [strsV])
      rw [e2] at h1
      simpa using h1
    · exact Nat.le_of_lt (Nat.lt_of_le_of_lt (own_base h g rfl) (own_lt h g rfl))
theorem proof_bad (A : Option Addr) (c n : Nat) (i : Int) (w : World) (h : i < 0 ∨ (n : Int) ≤ i) :
    Calls Tryd.prog 14 #[.slice A n c, .int .i64 i] w fun e w' => e = .returned (.tuple #[.slice none 0 0, .int .i64 2]) ∧ Below w.heap.size w w' := by
  by_cases h1 : i < 0
  · have d1 : decide (i < 0) = true := decide_eq_true h1
    go_enter Tryd.func14, Tryd.ntmps14
    go_wp2
    go_step3
    go_wp2
    rw [Exit.noGoto_ret]
    go_ret2
    exact ⟨rfl, Below.refl _ _⟩
  · have d1 : decide (i < 0) = false := decide_eq_false h1
    have h2 : (n : Int) ≤ i := by omega
    have d2 : decide ((n : Int) ≤ i) = true := decide_eq_true h2
    go_enter Tryd.func14, Tryd.ntmps14
    go_wp2
    go_step3
    go_wp2
    rw [Exit.noGoto_ret]
    go_ret2
    exact ⟨rfl, Below.refl _ _⟩
set_option maxRecDepth 100000 in
set_option maxHeartbeats 8000000 in
theorem proof_good (ad : Addr) (c : Nat) (l : List ByteArray) (i : Nat) (w : World) (HG : Aside0 (Laid w)) (hr : Kd.C Kd.string w (some ad) l.length l) (hc : l.length ≤ c) (hl : l.length ≤ 1000000) (hi : i < l.length) (hsz : ∀ x ∈ l, x.size ≤ 35184372088832) :
    Calls Tryd.prog 14 #[.slice (some ad) l.length c, .int .i64 (i : Nat)] w fun e w' => ∃ v, e = .returned (.tuple #[v, .int .i64 0]) ∧ w'.ownsRow w.heap.size 9 1 v (proofR l.length l i).length (strsV (proofR l.length l i)) ∧ Below w.heap.size w w' := by
  obtain ⟨i9, hi9, hz9, hs9, hb9⟩ := info_parts info9
  have S0 : Aside0 (DSt w l.length l ad l.length c [] (.slice none 0 0) w) := ⟨⟨rfl, by omega, hc, hr, hsz, by simp, Below.refl _ _, World.ownsRow_nil _ _ _ _⟩⟩
  have T0 : Aside0 (∃ f, l.length ≤ f ∧ proofR f l i ++ ([] : List ByteArray).reverse = proofR l.length l i) := ⟨⟨l.length, Nat.le_refl _, by simp⟩⟩
  obtain ⟨tgt, htgt⟩ : ∃ tgt, proofR l.length l i = tgt := ⟨_, rfl⟩
  rw [htgt] at T0 ⊢
  clear htgt
  obtain ⟨n, hn⟩ : ∃ n, l.length = n := ⟨_, rfl⟩
  rw [hn] at S0 T0 hc hl hi ⊢
  clear hr hsz hn
  have d1 : decide ((i : Int) < 0) = false := decide_eq_false (by omega)
  have d2 : decide ((n : Int) ≤ (i : Int)) = false := decide_eq_false (by omega)
  have d3 : decide (n ≤ i) = false := decide_eq_false (by omega)
  have hpos : 1 ≤ n := by omega
  go_enter Tryd.func14, Tryd.ntmps14
  go_wp2
  go_step3
  go_wp2
  go_step3
  go_wp2
  go_loopw [0, 1, 6] (fun a iv o wr => ∃ (cur : List ByteArray) (ad' : Addr) (n' c' j : Nat) (outs : List ByteArray), a = .slice (some ad') n' c' ∧ iv = .int .i64 (j : Nat) ∧ j < n' ∧ n' ≤ n ∧ 1 ≤ n' ∧ n' ≤ c' ∧ Aside0 (DSt w n cur ad' n' c' outs o wr) ∧ Aside0 (∃ f, n' ≤ f ∧ proofR f cur j ++ outs.reverse = tgt))
    (fun a _ _ _ => lenV a)
  case atStart => exact ⟨l, ad, n, c, i, [], rfl, rfl, hi, Nat.le_refl _, hpos, hc, S0, T0⟩
  case round =>
    clear S0 T0
    obtain ⟨cur, ad', n', c', j, outs, rfl, rfl, hj, hn', h1, hc', S, T⟩ := hrel
    by_cases hone : n' = 1
    · subst hone
      have t1 : (((1 : Nat) : Int) == 1) = true := rfl
      have hfin : Aside0 (outs.reverse = tgt) := ⟨by obtain ⟨f, hf, h⟩ := T.out; rw [proofR_one f cur j S.out.len] at h; exact h⟩
      have hl1 : outs.length ≤ 1000000 := by have := S.out.sum; omega
      have REV := Aside0.mk (reverse_own S.out.own hl1 S.out.below)
      rw [hfin.out] at REV
      go_wp2_with (go_at_call 41; go_must (refine REV.out.mono ?_); rintro e w' ⟨rfl, ho, hb⟩)
      rw [Exit.noGoto_ret]
      have hlen : outs.length = tgt.length := by rw [← hfin.out, List.length_reverse]
      rw [hlen] at ho
      go_ret2
      exact ⟨_, rfl, ho, hb⟩
    · obtain ⟨k, hk⟩ : ∃ k, leftOf n' = k := ⟨_, rfl⟩
      have hk1 := leftOf_lt n' (by omega)
      have hk3 := leftOf_pos n'
      have hk2 := leftOf_ge n' (by omega)
      have LEFT : Aside0 (∀ W, Calls Tryd.prog 40 #[.int .i64 (n' : Nat)] W fun e w' => e = .returned (.int .i64 (k : Nat)) ∧ Drawn0 W w') := ⟨fun W => digest_left.calls _ _ W (by unfold digest_left.f; rw [if_pos (by omega)]; simp [hk])⟩
      rw [hk] at hk1 hk2 hk3
      have HK := Aside0.mk hk
      clear hk
      have t1 : ((n' : Int) == 1) = false := by rw [beq_eq_false_iff_ne]; omega
      have b1 : (0 : Int) ≤ (k : Int) := by omega
      have b2 : (k : Int) ≤ (c' : Int) := by omega
      have b3 : (k : Int) ≤ (n' : Int) := by omega
      have b4 : c' ≠ k := by omega
      have hL : outs.length ≤ 1000000 := by have := S.out.sum; omega
      have hlo : outs.length < 1000001 := by omega
      by_cases hjk : j < k
      · have t2 : decide ((k : Int) ≤ (j : Int)) = false := decide_eq_false (by omega)
        have T2 : Aside0 (∃ f, k ≤ f ∧ proofR f (cur.take k) j ++ (outs ++ [rootS (cur.drop k)]).reverse = tgt) := ⟨by
          obtain ⟨f, hf, h⟩ := T.out
          obtain ⟨f, rfl⟩ : ∃ g, f = g + 1 := ⟨f - 1, by omega⟩
          have hkl : leftOf cur.length = k := by rw [S.out.len, HK.out]
          rw [proofR_lo f cur j (by rw [S.out.len]; exact hone) (by rw [hkl]; exact hjk), hkl] at h
          exact ⟨f, by omega, by simpa using h⟩⟩
        have ROOT := Aside0.mk (fun W (h : DSt w n cur ad' n' c' outs u6 W) => h.root_drop HG hk1 hl)
        generalize rootS (cur.drop k) = r at *
        go_upto_region 6 with (go_at_call 40; with_reducible refine (LEFT.out _).mono ?_; rintro e w' ⟨rfl, ⟨nq0, rfl⟩⟩)
        go_quiet ((fail))
        have S2 := Aside0.mk ((S.out.drewN nq0).drewN nq)
        clear S T
        generalize (wr.drewN nq0).drewN nq = W2 at *
        go_wp2_with (first
          | (go_at_call 19; go_must (refine (ROOT.out _ S2.out).mono ?_); rintro e w1 ⟨rfl, hd⟩; have S3 := Aside0.mk hd; clear hd)
          | (at_builtin; go_must (refine wpList_append_lies _ rfl _ _ 22 rfl w.heap.size 9 i9 (.string ⟨#[]⟩) 1 16 Tryd.underlying22 hi9 hz9 hs9 hb9 rfl (by decide) _ _ _ rfl (S3.out.alloc _).own _ 1 1 [.string r] rfl rfl (cell_one_new _ _ _) (by simp [Value.oneCell']) (by decide) (by unfold maxLen; omega) (by omega) (S3.out.alloc _).below.size _ rfl ?_); intro ga ca w2 ho hg hat hlt2; have S4 := Aside0.mk ((S3.out.alloc _).take hk1 (by omega) ho hg); clear ho hg hat S3))
        refine ⟨?_, ?_⟩
        · exact ⟨cur.take k, ad', k, c', j, outs ++ [r], rfl, rfl, hjk, by omega, by omega, by omega, S4, T2⟩
        · simp only [lenV]; omega
      · have t2 : decide ((k : Int) ≤ (j : Int)) = true := decide_eq_true (by omega)
        have T2 : Aside0 (∃ f, n' - k ≤ f ∧ proofR f (cur.drop k) (j - k) ++ (outs ++ [rootS (cur.take k)]).reverse = tgt) := ⟨by
          obtain ⟨f, hf, h⟩ := T.out
          obtain ⟨f, rfl⟩ : ∃ g, f = g + 1 := ⟨f - 1, by omega⟩
          have hkl : leftOf cur.length = k := by rw [S.out.len, HK.out]
          rw [proofR_hi f cur j (by rw [S.out.len]; exact hone) (by rw [hkl]; omega), hkl] at h
          exact ⟨f, by omega, by simpa using h⟩⟩
        have ROOT := Aside0.mk (fun W (h : DSt w n cur ad' n' c' outs u6 W) => h.root_take HG hk1 hl)
        generalize rootS (cur.take k) = r at *
        have e5 : ((j : Int) - (k : Int)) = ((j - k : Nat) : Int) := by omega
        go_upto_region 6 with (go_at_call 40; with_reducible refine (LEFT.out _).mono ?_; rintro e w' ⟨rfl, ⟨nq0, rfl⟩⟩)
        go_quiet ((fail))
        have S2 := Aside0.mk ((S.out.drewN nq0).drewN nq)
        clear S T
        generalize (wr.drewN nq0).drewN nq = W2 at *
        go_wp2_with (first
          | (go_at_call 19; go_must (refine (ROOT.out _ S2.out).mono ?_); rintro e w1 ⟨rfl, hd⟩; have S3 := Aside0.mk hd; clear hd)
          | (at_builtin; go_must (refine wpList_append_lies _ rfl _ _ 22 rfl w.heap.size 9 i9 (.string ⟨#[]⟩) 1 16 Tryd.underlying22 hi9 hz9 hs9 hb9 rfl (by decide) _ _ _ rfl (S3.out.alloc _).own _ 1 1 [.string r] rfl rfl (cell_one_new _ _ _) (by simp [Value.oneCell']) (by decide) (by unfold maxLen; omega) (by omega) (S3.out.alloc _).below.size _ rfl ?_); intro ga ca w2 ho hg hat hlt2; have S4 := Aside0.mk ((S3.out.alloc _).drop hk1 (by omega) ho hg); clear ho hg hat S3))
        refine ⟨?_, ?_⟩
        · exact ⟨cur.drop k, ad'.add k, n' - k, c' - k, j - k, outs ++ [r], rfl, (by first | rfl | go_num | simp), by omega, by omega, by omega, by omega, S4, T2⟩
        · simp only [lenV]; omega
end Go.Proofs.YtabjfogmcehemaaDoor
end

section
namespace Go.Proofs.YtabjfogmcehemaaDoor
open Go.RowKit Go.Shelf Go.Proofs.YtabjfogmcehemaaDoorW.PrintWords Go.Proofs.YtabjfogmcehemaaDoorW.PrintLast Go.Proofs.YtabjfogmcehemaaDoorW.PrintMore
set_option linter.unusedVariables false
set_option linter.unusedSimpArgs false
attribute [local go_sem] max2_int min2_int max_two min_two max_three min_three max_four min_four
attribute [local go_sem ↓] Go.wp_at_zero Go.wp_at_succ
theorem ext_bad (A : Option Addr) (c n : Nat) (i : Int) (w : World) (h : i < 0 ∨ (n : Int) < i) :
    Calls Tryd.prog 16 #[.slice A n c, .int .i64 i] w fun e w' => e = .returned (.tuple #[.slice none 0 0, .int .i64 2]) ∧ Below w.heap.size w w' := by
  by_cases h1 : i < 0
  · have d1 : decide (i < 0) = true := decide_eq_true h1
    go_enter Tryd.func16, Tryd.ntmps16
    go_wp2
    go_ret2
    exact ⟨rfl, Below.refl _ _⟩
  · have d1 : decide (i < 0) = false := decide_eq_false h1
    have h2 : (n : Int) < i := by omega
    have d2 : decide ((n : Int) < i) = true := decide_eq_true h2
    go_enter Tryd.func16, Tryd.ntmps16
    go_wp2
    go_ret2
    exact ⟨rfl, Below.refl _ _⟩
theorem ext_zero (A : Option Addr) (c n : Nat) (w : World) :
    Calls Tryd.prog 16 #[.slice A n c, .int .i64 0] w fun e w' => e = .returned (.tuple #[.slice none 0 0, .int .i64 0]) ∧ Below w.heap.size w w' := by
  have d2 : decide ((n : Int) < 0) = false := decide_eq_false (by omega)
  go_enter Tryd.func16, Tryd.ntmps16
  go_wp2
  go_ret2
  exact ⟨rfl, Below.refl _ _⟩
set_option maxRecDepth 100000 in
set_option maxHeartbeats 8000000 in
theorem ext_good (ad : Addr) (c : Nat) (l : List ByteArray) (i : Nat) (w : World) (HG : Aside0 (Laid w)) (hr : Kd.C Kd.string w (some ad) l.length l) (hc : l.length ≤ c) (hl : l.length ≤ 1000000) (hi : i ≤ l.length) (hi1 : 1 ≤ i) (hsz : ∀ x ∈ l, x.size ≤ 35184372088832) :
    Calls Tryd.prog 16 #[.slice (some ad) l.length c, .int .i64 (i : Nat)] w fun e w' => ∃ v, e = .returned (.tuple #[v, .int .i64 0]) ∧ w'.ownsRow w.heap.size 9 1 v (extR l.length l i true).length (strsV (extR l.length l i true)) ∧ Below w.heap.size w w' := by
  obtain ⟨i9, hi9, hz9, hs9, hb9⟩ := info_parts info9
  have S0 : Aside0 (DSt w l.length l ad l.length c [] (.slice none 0 0) w) := ⟨⟨rfl, by omega, hc, hr, hsz, by simp, Below.refl _ _, World.ownsRow_nil _ _ _ _⟩⟩
  have T0 : Aside0 (∃ f, l.length ≤ f ∧ extR f l i true ++ ([] : List ByteArray).reverse = extR l.length l i true) := ⟨⟨l.length, Nat.le_refl _, by simp⟩⟩
  obtain ⟨tgt, htgt⟩ : ∃ tgt, extR l.length l i true = tgt := ⟨_, rfl⟩
  rw [htgt] at T0 ⊢
  clear htgt
  obtain ⟨n, hn⟩ : ∃ n, l.length = n := ⟨_, rfl⟩
  rw [hn] at S0 T0 hc hl hi ⊢
  clear hr hsz hn
  have d1 : decide ((i : Int) < 0) = false := decide_eq_false (by omega)
  have d2 : decide ((n : Int) < (i : Int)) = false := decide_eq_false (by omega)
  have d3 : decide (n < i) = false := decide_eq_false (by omega)
  have d4 : ((i : Int) == 0) = false := by rw [beq_eq_false_iff_ne]; omega
  have hpos : 1 ≤ n := by omega
  go_enter Tryd.func16, Tryd.ntmps16
  go_wp2
  go_loopw [0, 1, 6, 7] (fun a iv o b wr => ∃ (cur : List ByteArray) (ad' : Addr) (n' c' j : Nat) (outs : List ByteArray) (bw : Bool), a = .slice (some ad') n' c' ∧ iv = .int .i64 (j : Nat) ∧ b = .bool bw ∧ 1 ≤ j ∧ j ≤ n' ∧ n' ≤ n ∧ n' ≤ c' ∧ Aside0 (DSt w n cur ad' n' c' outs o wr) ∧ Aside0 (∃ f, n' ≤ f ∧ extR f cur j bw ++ outs.reverse = tgt))
    (fun a _ _ _ _ => lenV a)
  case atStart => exact ⟨l, ad, n, c, i, [], true, rfl, rfl, rfl, hi1, hi, Nat.le_refl _, hc, S0, T0⟩
  case round =>
    clear S0 T0
    obtain ⟨cur, ad', n', c', j, outs, bw, rfl, rfl, rfl, h1, hj, hn', hc', S, T⟩ := hrel
    have hL : outs.length ≤ 1000000 := by have := S.out.sum; omega
    have hlo : outs.length < 1000001 := by omega
    by_cases hjn : j < n'
    · obtain ⟨k, hk⟩ : ∃ k, leftOf n' = k := ⟨_, rfl⟩
      have hk1 := leftOf_lt n' (by omega)
      have hk3 := leftOf_pos n'
      have hk2 := leftOf_ge n' (by omega)
      have LEFT : Aside0 (∀ W, Calls Tryd.prog 40 #[.int .i64 (n' : Nat)] W fun e w' => e = .returned (.int .i64 (k : Nat)) ∧ Drawn0 W w') := ⟨fun W => digest_left.calls _ _ W (by unfold digest_left.f; rw [if_pos (by omega)]; simp [hk])⟩
      rw [hk] at hk1 hk2 hk3
      have HK := Aside0.mk hk
      clear hk
      have t1 : decide ((j : Int) < (n' : Int)) = true := decide_eq_true (by omega)
      have b1 : (0 : Int) ≤ (k : Int) := by omega
      have b2 : (k : Int) ≤ (c' : Int) := by omega
      have b3 : (k : Int) ≤ (n' : Int) := by omega
      have b4 : c' ≠ k := by omega
      by_cases hjk : j ≤ k
      · have t2 : decide ((k : Int) < (j : Int)) = false := decide_eq_false (by omega)
        have T2 : Aside0 (∃ f, k ≤ f ∧ extR f (cur.take k) j bw ++ (outs ++ [rootS (cur.drop k)]).reverse = tgt) := ⟨by
          obtain ⟨f, hf, h⟩ := T.out
          obtain ⟨f, rfl⟩ : ∃ g, f = g + 1 := ⟨f - 1, by omega⟩
          have hkl : leftOf cur.length = k := by rw [S.out.len, HK.out]
          rw [extR_lo f cur j bw (by rw [S.out.len]; exact hjn) (by rw [hkl]; exact hjk), hkl] at h
          exact ⟨f, by omega, by simpa using h⟩⟩
        have ROOT := Aside0.mk (fun W (h : DSt w n cur ad' n' c' outs u6 W) => h.root_drop HG hk1 hl)
        generalize rootS (cur.drop k) = r at *
        go_upto_region 9 with (go_at_call 40; with_reducible refine (LEFT.out _).mono ?_; rintro e w' ⟨rfl, ⟨nq0, rfl⟩⟩)
        go_quiet ((fail))
        have S2 := Aside0.mk ((S.out.drewN nq0).drewN nq)
        clear S T
        generalize (wr.drewN nq0).drewN nq = W2 at *
        go_wp2_with (first
          | (go_at_call 19; go_must (refine (ROOT.out _ S2.out).mono ?_); rintro e w1 ⟨rfl, hd⟩; have S3 := Aside0.mk hd; clear hd)
          | (at_builtin; go_must (refine wpList_append_lies _ rfl _ _ 22 rfl w.heap.size 9 i9 (.string ⟨#[]⟩) 1 16 Tryd.underlying22 hi9 hz9 hs9 hb9 rfl (by decide) _ _ _ rfl (S3.out.alloc _).own _ 1 1 [.string r] rfl rfl (cell_one_new _ _ _) (by simp [Value.oneCell']) (by decide) (by unfold maxLen; omega) (by omega) (S3.out.alloc _).below.size _ rfl ?_); intro ga ca w2 ho hg hat hlt2; have S4 := Aside0.mk ((S3.out.alloc _).take hk1 (by omega) ho hg); clear ho hg hat S3))
        refine ⟨?_, ?_⟩
        · exact ⟨cur.take k, ad', k, c', j, outs ++ [r], bw, rfl, rfl, rfl, by omega, hjk, by omega, by omega, S4, T2⟩
        · simp only [lenV]; omega
      · have t2 : decide ((k : Int) < (j : Int)) = true := decide_eq_true (by omega)
        have T2 : Aside0 (∃ f, n' - k ≤ f ∧ extR f (cur.drop k) (j - k) false ++ (outs ++ [rootS (cur.take k)]).reverse = tgt) := ⟨by
          obtain ⟨f, hf, h⟩ := T.out
          obtain ⟨f, rfl⟩ : ∃ g, f = g + 1 := ⟨f - 1, by omega⟩
          have hkl : leftOf cur.length = k := by rw [S.out.len, HK.out]
          rw [extR_hi f cur j bw (by rw [S.out.len]; exact hjn) (by rw [hkl]; omega), hkl] at h
          exact ⟨f, by omega, by simpa using h⟩⟩
        have ROOT := Aside0.mk (fun W (h : DSt w n cur ad' n' c' outs u6 W) => h.root_take HG hk1 hl)
        generalize rootS (cur.take k) = r at *
        have e5 : ((j : Int) - (k : Int)) = ((j - k : Nat) : Int) := by omega
        go_upto_region 9 with (go_at_call 40; with_reducible refine (LEFT.out _).mono ?_; rintro e w' ⟨rfl, ⟨nq0, rfl⟩⟩)
        go_quiet ((fail))
        have S2 := Aside0.mk ((S.out.drewN nq0).drewN nq)
        clear S T
        generalize (wr.drewN nq0).drewN nq = W2 at *
        go_wp2_with (first
          | (go_at_call 19; go_must (refine (ROOT.out _ S2.out).mono ?_); rintro e w1 ⟨rfl, hd⟩; have S3 := Aside0.mk hd; clear hd)
          | (at_builtin; go_must (refine wpList_append_lies _ rfl _ _ 22 rfl w.heap.size 9 i9 (.string ⟨#[]⟩) 1 16 Tryd.underlying22 hi9 hz9 hs9 hb9 rfl (by decide) _ _ _ rfl (S3.out.alloc _).own _ 1 1 [.string r] rfl rfl (cell_one_new _ _ _) (by simp [Value.oneCell']) (by decide) (by unfold maxLen; omega) (by omega) (S3.out.alloc _).below.size _ rfl ?_); intro ga ca w2 ho hg hat hlt2; have S4 := Aside0.mk ((S3.out.alloc _).drop hk1 (by omega) ho hg); clear ho hg hat S3))
        refine ⟨?_, ?_⟩
        · exact ⟨cur.drop k, ad'.add k, n' - k, c' - k, j - k, outs ++ [r], false, rfl, (by first | rfl | go_num | simp), rfl, by omega, by omega, by omega, by omega, S4, T2⟩
        · simp only [lenV]; omega
    · obtain rfl : j = n' := by omega
      have t1 : decide ((j : Int) < (j : Int)) = false := decide_eq_false (by omega)
      have hT : Aside0 ((if bw then [] else [rootS cur]) ++ outs.reverse = tgt) := ⟨by
        obtain ⟨f, hf, h⟩ := T.out
        rw [extR_end f cur j bw (by omega) (by rw [S.out.len]; exact Nat.le_refl _)] at h
        exact h⟩
      clear T
      cases bw with
      | true =>
        have hfin : Aside0 (outs.reverse = tgt) := ⟨by have := hT.out; simpa using this⟩
        have REV := Aside0.mk (reverse_own S.out.own hL S.out.below)
        rw [hfin.out] at REV
        go_wp2_with (go_at_call 41; go_must (refine REV.out.mono ?_); rintro e w' ⟨rfl, ho, hb⟩)
        have hlen : outs.length = tgt.length := by rw [← hfin.out, List.length_reverse]
        rw [hlen] at ho
        go_ret2
        exact ⟨_, rfl, ho, hb⟩
      | false =>
        have hfin : Aside0 ((outs ++ [rootS cur]).reverse = tgt) := ⟨by have := hT.out; simpa using this⟩
        have ROOT := Aside0.mk (fun W (h : DSt w n cur ad' j c' outs u6 W) => h.root_all HG hl)
        generalize rootS cur = r at *
        have REV : Aside0 (∀ (v : Value) (W : World), W.ownsRow w.heap.size 9 1 v (outs.length + 1) (strsV outs ++ [.string r]) → Below w.heap.size w W → Calls Tryd.prog 41 #[v] W fun e w' => e = .returned (.tuple #[]) ∧ w'.ownsRow w.heap.size 9 1 v tgt.length (strsV tgt) ∧ Below w.heap.size w w') := ⟨fun v W h hb => by
          have h' : W.ownsRow w.heap.size 9 1 v (outs ++ [r]).length (strsV (outs ++ [r])) := by rw [List.length_append, List.length_singleton]; simpa [strsV] using h
          have := reverse_own h' (by rw [List.length_append, List.length_singleton]; have := S.out.sum; omega) hb
          rw [hfin.out] at this
          have hlen : (outs ++ [r]).length = tgt.length := by rw [← hfin.out, List.length_reverse]
          rwa [hlen] at this⟩
        go_wp2_with (first
          | (go_at_call 19; go_must (refine (ROOT.out _ S.out).mono ?_); rintro e w1 ⟨rfl, hd⟩; have S3 := Aside0.mk hd; clear hd)
          | (at_builtin; go_must (refine wpList_append_lies _ rfl _ _ 22 rfl w.heap.size 9 i9 (.string ⟨#[]⟩) 1 16 Tryd.underlying22 hi9 hz9 hs9 hb9 rfl (by decide) _ _ _ rfl (S3.out.alloc _).own _ 1 1 [.string r] rfl rfl (cell_one_new _ _ _) (by simp [Value.oneCell']) (by decide) (by unfold maxLen; omega) (by omega) (S3.out.alloc _).below.size _ rfl ?_); intro ga ca w2 ho hg hat hlt2; have BL := Aside0.mk ((S3.out.alloc _).below.grown hg (S3.out.alloc _).below.size (fun k hk => own_base S3.out.own k hk)); have OW := Aside0.mk ho; clear ho hg hat)
          | (go_at_call 41; go_must (refine (REV.out _ _ OW.out BL.out).mono ?_); rintro e w' ⟨rfl, ho, hb⟩))
        go_ret2
        exact ⟨_, rfl, ho, hb⟩
end Go.Proofs.YtabjfogmcehemaaDoor
end

section
namespace Go.Proofs.YtabjfogmcehemaaDoor
open Go.RowKit Go.Shelf Go.Proofs.YtabjfogmcehemaaDoorW.PrintWords Go.Proofs.YtabjfogmcehemaaDoorW.PrintLast Go.Proofs.YtabjfogmcehemaaDoorW.PrintMore
set_option linter.unusedVariables false
set_option linter.unusedSimpArgs false
def fits (l : List ByteArray) : Bool := decide (l.length ≤ 1000000) && l.all fun x => decide (x.size ≤ 35184372088832)
theorem fits_iff (l : List ByteArray) : fits l = true ↔ l.length ≤ 1000000 ∧ ∀ x ∈ l, x.size ≤ 35184372088832 := by
  unfold fits
  simp [List.all_eq_true]
def digest_Root.f (l0 : List ByteArray) : Option ByteArray := if fits l0 then some (rootS l0) else none
theorem digest_Root.calls (A0 : Option Addr) (c0 : Nat) (l0 : List ByteArray) (r : ByteArray) (w : World) (HG : Aside0 (Laid w)) (hr0 : Kd.C Kd.string w A0 l0.length l0) (hc0 : l0.length ≤ c0) (h : digest_Root.f l0 = some r) :
    Calls Tryd.prog 19 #[.slice A0 l0.length c0] w fun e w' => e = .returned (.string r) ∧ Below w.heap.size w w' := by
  unfold digest_Root.f at h
  split at h
  · rename_i hf
    cases h
    obtain ⟨h1, h2⟩ := (fits_iff l0).1 hf
    exact root_any A0 c0 l0 w HG hr0 hc0 h1 h2
  · cases h
theorem strs_R {w : World} {base : Nat} {v : Value} {xs : List ByteArray} (h : w.ownsRow base 9 1 v xs.length (strsV xs)) : Kd.R Kd.string 9 w base (fun _ => True) v xs :=
  Kd.R_of_own h (fun _ _ => trivial)
def digest_Proof.f (l0 : List ByteArray) (a1 : Int) : Option (List ByteArray × Int) :=
  if fits l0 then some (if 0 ≤ a1 ∧ a1 < l0.length then (proofR l0.length l0 a1.toNat, 0) else ([], 2)) else none
theorem digest_Proof.calls (A0 : Option Addr) (c0 : Nat) (l0 : List ByteArray) (a1 : Int) (r1 : List ByteArray) (r2 : Int) (w : World) (HG : Aside0 (Laid w)) (hr0 : Kd.C Kd.string w A0 l0.length l0) (hc0 : l0.length ≤ c0) (h : digest_Proof.f l0 a1 = some (r1, r2)) :
    Calls Tryd.prog 14 #[.slice A0 l0.length c0, .int .i64 a1] w fun e w' => ∃ v0_ : Value, e = .returned (.tuple #[v0_, .int .i64 r2]) ∧ Kd.R Kd.string 9 w' w.heap.size (fun _ => True) v0_ r1 ∧ Below w.heap.size w w' := by
  unfold digest_Proof.f at h
  split at h
  · rename_i hf
    obtain ⟨h1, h2⟩ := (fits_iff l0).1 hf
    split at h
    · rename_i hi
      obtain ⟨i0, i1⟩ := hi
      cases h
      obtain ⟨i, rfl⟩ := Int.eq_ofNat_of_zero_le i0
      obtain ⟨ad, rfl, _⟩ := hr0.2.2 (by omega)
      refine (proof_good ad c0 l0 i w HG hr0 hc0 h1 (by omega) h2).mono ?_
      rintro e w' ⟨v, rfl, ho, hb⟩
      exact ⟨v, rfl, strs_R ho, hb⟩
    · rename_i hi
      cases h
      refine (proof_bad A0 c0 l0.length a1 w (by omega)).mono ?_
      rintro e w' ⟨rfl, hb⟩
      exact ⟨_, rfl, Kd.R_nil _ _ _ _ _, hb⟩
  · cases h
def digest_Extension.f (l0 : List ByteArray) (a1 : Int) : Option (List ByteArray × Int) :=
  if fits l0 then some (if 0 ≤ a1 ∧ a1 ≤ l0.length then (if a1 = 0 then ([], 0) else (extR l0.length l0 a1.toNat true, 0)) else ([], 2)) else none
theorem digest_Extension.calls (A0 : Option Addr) (c0 : Nat) (l0 : List ByteArray) (a1 : Int) (r1 : List ByteArray) (r2 : Int) (w : World) (HG : Aside0 (Laid w)) (hr0 : Kd.C Kd.string w A0 l0.length l0) (hc0 : l0.length ≤ c0) (h : digest_Extension.f l0 a1 = some (r1, r2)) :
    Calls Tryd.prog 16 #[.slice A0 l0.length c0, .int .i64 a1] w fun e w' => ∃ v0_ : Value, e = .returned (.tuple #[v0_, .int .i64 r2]) ∧ Kd.R Kd.string 9 w' w.heap.size (fun _ => True) v0_ r1 ∧ Below w.heap.size w w' := by
  unfold digest_Extension.f at h
  split at h
  · rename_i hf
    obtain ⟨h1, h2⟩ := (fits_iff l0).1 hf
    split at h
    · rename_i hi
      obtain ⟨i0, i1⟩ := hi
      split at h
      · rename_i hz
        cases h
        subst hz
        refine (ext_zero A0 c0 l0.length w).mono ?_
        rintro e w' ⟨rfl, hb⟩
        exact ⟨_, rfl, Kd.R_nil _ _ _ _ _, hb⟩
      · rename_i hz
        cases h
        obtain ⟨i, rfl⟩ := Int.eq_ofNat_of_zero_le i0
        obtain ⟨ad, rfl, _⟩ := hr0.2.2 (by omega)
        refine (ext_good ad c0 l0 i w HG hr0 hc0 h1 (by omega) (by omega) h2).mono ?_
        rintro e w' ⟨v, rfl, ho, hb⟩
        exact ⟨v, rfl, strs_R ho, hb⟩
    · rename_i hi
      cases h
      refine (ext_bad A0 c0 l0.length a1 w (by omega)).mono ?_
      rintro e w' ⟨rfl, hb⟩
      exact ⟨_, rfl, Kd.R_nil _ _ _ _ _, hb⟩
  · cases h
set_option maxRecDepth 100000 in
theorem ver_early (root s : ByteArray) (n i : Int) (A : Option Addr) (c p : Nat) (w : World) (h : i < 0 ∨ n ≤ i) :
    Calls Tryd.prog 21 #[.string root, .int .i64 n, .int .i64 i, .string s, .slice A p c] w fun e w' => e = .returned (.bool false) ∧ Below w.heap.size w w' := by
  by_cases h1 : i < 0
  · have d1 : decide (i < 0) = true := decide_eq_true h1
    go_enter Tryd.func21, Tryd.ntmps21
    go_wp2
    go_ret
    exact ⟨rfl, Below.refl _ _⟩
  · have d1 : decide (i < 0) = false := decide_eq_false h1
    have d2 : decide (n ≤ i) = true := decide_eq_true (by omega)
    go_enter Tryd.func21, Tryd.ntmps21
    go_wp2
    go_ret
    exact ⟨rfl, Below.refl _ _⟩
set_option maxRecDepth 100000 in
theorem ver_odd (root s : ByteArray) (n i : Int) (A : Option Addr) (c : Nat) (proof : List ByteArray) (w : World) (hr : Kd.C Kd.string w A proof.length proof) (hl : proof.length ≤ 1000000) (h0 : 0 ≤ i) (h1 : i < n) (h : proof.all isDig = false) :
    Calls Tryd.prog 21 #[.string root, .int .i64 n, .int .i64 i, .string s, .slice A proof.length c] w fun e w' => e = .returned (.bool false) ∧ Below w.heap.size w w' := by
  have d1 : decide (i < 0) = false := decide_eq_false (by omega)
  have d2 : decide (n ≤ i) = false := decide_eq_false (by omega)
  have ALL := Aside0.mk (all_any A c proof w hr hl)
  rw [h] at ALL
  clear hr h
  generalize proof.length = p at *
  go_enter Tryd.func21, Tryd.ntmps21
  go_wp2_with (go_at_call 45; go_must (refine ALL.out.mono ?_); rintro e w' ⟨rfl, rfl⟩)
  go_ret
  exact ⟨rfl, Below.refl _ _⟩
def digest_Verify.f (a0 : ByteArray) (a1 a2 : Int) (a3 : ByteArray) (l4 : List ByteArray) : Option Bool :=
  if a1 ≤ 9223372036854775807 ∧ a3.size ≤ 35184372088832 ∧ l4.length ≤ 1000000 then some (verR a0 a1 a2 a3 l4) else none
theorem digest_Verify.calls (a0 : ByteArray) (a1 : Int) (a2 : Int) (a3 : ByteArray) (A4 : Option Addr) (c4 : Nat) (l4 : List ByteArray) (r : Bool) (w : World) (HG : Aside0 (Laid w)) (hr4 : Kd.C Kd.string w A4 l4.length l4) (hc4 : l4.length ≤ c4) (h : digest_Verify.f a0 a1 a2 a3 l4 = some r) :
    Calls Tryd.prog 21 #[.string a0, .int .i64 a1, .int .i64 a2, .string a3, .slice A4 l4.length c4] w fun e w' => e = .returned (.bool r) ∧ Below w.heap.size w w' := by
  unfold digest_Verify.f at h
  split at h
  · rename_i hf
    obtain ⟨f1, f2, f3⟩ := hf
    cases h
    by_cases h0 : 0 ≤ a2 ∧ a2 < a1
    · obtain ⟨h0, h1⟩ := h0
      cases hall : l4.all isDig with
      | false =>
        have e : verR a0 a1 a2 a3 l4 = false := by unfold verR; rw [hall]; simp
        rw [e]
        exact ver_odd a0 a3 a1 a2 A4 c4 l4 w hr4 f3 h0 h1 hall
      | true =>
        obtain ⟨i, rfl⟩ := Int.eq_ofNat_of_zero_le h0
        obtain ⟨n, rfl⟩ := Int.eq_ofNat_of_zero_le (show 0 ≤ a1 by omega)
        have e : verR a0 (n : Int) (i : Int) a3 l4 = okB (valR l4.reverse n i (leafB a3)) a0 := by
          unfold verR
          rw [hall, decide_eq_true h0, decide_eq_true h1]
          rfl
        rw [e]
        exact ver_good a0 a3 n i A4 c4 l4 w HG hr4 hc4 f3 (by omega) (by omega) f2 hall
    · have e : verR a0 a1 a2 a3 l4 = false := by
        unfold verR
        by_cases h2 : 0 ≤ a2
        · have : ¬ a2 < a1 := fun h => h0 ⟨h2, h⟩
          rw [decide_eq_false this]; simp
        · rw [decide_eq_false h2]; rfl
      rw [e]
      exact ver_early a0 a3 a1 a2 A4 c4 l4.length w (by omega)
  · cases h
def digest_VerifyExtension.f (a0 : ByteArray) (a1 : Int) (a2 : ByteArray) (a3 : Int) (l4 : List ByteArray) : Option Bool :=
  if a3 ≤ 9223372036854775807 ∧ l4.length ≤ 1000000 then some (vexR a0 a1 a2 a3 l4) else none
theorem digest_VerifyExtension.calls (a0 : ByteArray) (a1 : Int) (a2 : ByteArray) (a3 : Int) (A4 : Option Addr) (c4 : Nat) (l4 : List ByteArray) (r : Bool) (w : World) (HG : Aside0 (Laid w)) (hr4 : Kd.C Kd.string w A4 l4.length l4) (hc4 : l4.length ≤ c4) (h : digest_VerifyExtension.f a0 a1 a2 a3 l4 = some r) :
    Calls Tryd.prog 23 #[.string a0, .int .i64 a1, .string a2, .int .i64 a3, .slice A4 l4.length c4] w fun e w' => e = .returned (.bool r) ∧ Below w.heap.size w w' := by
  unfold digest_VerifyExtension.f at h
  split at h
  · rename_i hf
    obtain ⟨f1, f3⟩ := hf
    cases h
    by_cases h0 : 0 ≤ a1 ∧ a1 ≤ a3
    · obtain ⟨h0, h1⟩ := h0
      cases hall : (l4.all isDig && (isDig a0 && isDig a2)) with
      | false =>
        have e : vexR a0 a1 a2 a3 l4 = false := by
          unfold vexR
          rw [decide_eq_true h0, decide_eq_true h1]
          cases h5 : l4.all isDig
          · rfl
          · cases h6 : isDig a0
            · rfl
            · cases h7 : isDig a2
              · rfl
              · rw [h5, h6, h7] at hall; cases hall
        rw [e]
        exact vex_odd a0 a2 a1 a3 A4 c4 l4 w hr4 f3 h0 h1 hall
      | true =>
        simp only [Bool.and_eq_true] at hall
        obtain ⟨g1, g2, g3⟩ := hall
        by_cases hz : a1 = 0
        · subst hz
          have e : vexR a0 0 a2 a3 l4 = (l4.isEmpty && eqB a0 (sumF ⟨#[]⟩)) := by
            unfold vexR
            rw [decide_eq_true h0, decide_eq_true h1, g1, g2, g3, if_pos rfl]
            rfl
          rw [e]
          exact vex_zero a0 a2 a3 A4 c4 l4 w HG hr4 f3 h1 g1 g2 g3
        · by_cases hq : a1 = a3
          · subst hq
            have e : vexR a0 a1 a2 a1 l4 = (l4.isEmpty && eqB a0 a2) := by
              unfold vexR
              rw [decide_eq_true h0, decide_eq_true h1, g1, g2, g3, if_neg hz, if_pos rfl]
              rfl
            rw [e]
            exact vex_eq a0 a2 a1 A4 c4 l4 w hr4 f3 (by omega) g1 g2 g3
          · obtain ⟨m, rfl⟩ := Int.eq_ofNat_of_zero_le h0
            obtain ⟨n, rfl⟩ := Int.eq_ofNat_of_zero_le (show 0 ≤ a3 by omega)
            have e : vexR a0 (m : Int) a2 (n : Int) l4 = okJ (bothR a0 l4.reverse m n true) a0 a2 := by
              unfold vexR
              rw [decide_eq_true h0, decide_eq_true h1, g1, g2, g3, if_neg hz, if_neg hq]
              rfl
            rw [e]
            exact vex_main a0 a2 m n A4 c4 l4 w HG hr4 hc4 f3 (by omega) (by omega) (by omega) g1 g2 g3
    · have e : vexR a0 a1 a2 a3 l4 = false := by
        unfold vexR
        by_cases h2 : 0 ≤ a1
        · have : ¬ a1 ≤ a3 := fun h => h0 ⟨h2, h⟩
          rw [decide_eq_false this]; simp
        · rw [decide_eq_false h2]; rfl
      rw [e]
      exact vex_bad a0 a2 a1 a3 A4 c4 l4.length w (by omega)
  · cases h
end Go.Proofs.YtabjfogmcehemaaDoor
end

section
namespace Go.Proofs.YtabjfogmcehemaaDoor.Pa
open Go.RowKit Go.Proofs.YtabjfogmcehemaaDoorW.PrintWords Go.Proofs.YtabjfogmcehemaaDoorW.PrintLast Go.Proofs.YtabjfogmcehemaaDoorW.PrintMore
attribute [local go_sem] max2_int min2_int max_two min_two max_three min_three max_four min_four
set_option linter.unusedVariables false
set_option linter.unusedSimpArgs false
def w_few.l0 : Nat → List ByteArray → Int → List ByteArray → Int → Option (List ByteArray)
  | 0, _, _, _, _ => none
  | k + 1, x0, x1, x5, x6 => if x6 < (x0.length : Int) then (if x6 < x1 then (if 0 ≤ x6 then (if 0 ≤ (mn ((rdOf ByteArray.empty x0 x6).size : Int) 60) then (if (mn ((rdOf ByteArray.empty x0 x6).size : Int) 60) ≤ ((rdOf ByteArray.empty x0 x6).size : Int) then (if x5.length < 8796093022208 then (w_few.l0 k x0 x1 (x5 ++ [(rdOf ByteArray.empty x0 x6).extract 0 ((mn ((rdOf ByteArray.empty x0 x6).size : Int) 60) : Int).toNat]) (wrap64 (x6 + 1))) else (none)) else (none)) else (none)) else (none)) else (some x5)) else (some x5)
def w_few.f (k : Nat) (l0 : List ByteArray) (a1 : Int) : Option (List ByteArray) := w_few.l0 k l0 a1 ([] : List ByteArray) 0
def w_few.T5 : Bool × List (List Nat × List Nat) := (true, [([], []), ([], []), ([], []), ([1, 2], [1, 2]), ([3], [3]), ([], []), ([], []), ([5, 6], [5, 6]), ([7], [7]), ([8], [8]), ([9], [9]), ([4, 10], [4, 10]), ([11], [11]), ([0, 12], [0, 12]), ([13, 13, 0, 1, 2, 3, 4, 5, 6, 7, 8, 9, 10, 11, 12, 13], [0, 13])])
def w_few.B5 : List Nat := [0, 0, 0, 6, 14, 0, 0, 96, 224, 480, 992, 2046, 4094, 8191, 16383]
theorem w_few.tab5 : rtab .any (opsOf Tryd.f13 5) = w_few.T5 := by kernel_rfl
theorem w_few.bits5 : waitsOk w_few.T5.2 w_few.B5 = true := by kernel_rfl
set_option maxHeartbeats 8000000 in
set_option maxRecDepth 100000 in
theorem w_few.calls (k : Nat) (A0 : Option Addr) (c0 : Nat) (l0 : List ByteArray) (a1 : Int) (r : List ByteArray) (w : World) (hr0 : Kd.C Kd.string w A0 l0.length l0) (hc0 : l0.length ≤ c0) (h : w_few.f k l0 a1 = some r) :
    Calls Tryd.prog 13 #[.slice A0 l0.length c0, .int .i64 a1] w fun e w' => ∃ v0_ : Value, e = .returned (v0_) ∧ Kd.R Kd.string 9 w' w.heap.size (fun _ => True) v0_ r ∧ Below w.heap.size w w' := by
  have HR0 := Aside0.mk hr0
  have HC0 := Aside0.mk hc0
  clear hr0 hc0
  have HB := Aside0.mk (Below.refl w.heap.size w)
  have H : (w_few.l0 k l0 a1 ([] : List ByteArray) 0) = some r := h
  clear h
  have H' := Aside0.mk H
  clear H
  go_enter Tryd.func13, Tryd.ntmps13
  go_wp2
  go_loopg [5, 6] k (fun kq v5 v6 w' => ∃ (x5_1 : List ByteArray) (x6_1 : Int), v6 = .int .i64 x6_1 ∧ Aside0 (w_few.l0 kq l0 a1 x5_1 x6_1 = some r) ∧ Aside0 (kq ≤ k) ∧ Aside0 (Kd.R Kd.string 9 w' w.heap.size (fun _ => True) v5 x5_1) ∧ Aside0 (Below w.heap.size w w'))
  case atStart => exact ⟨(([] : List ByteArray)), (0), (by first | rfl | (simp; done) | (simp [*]; done)), H', ⟨Nat.le_refl _⟩, ⟨by first | exact Kd.R_nil _ _ _ _ _ | exact Kd.N_nil _ _ _ _ _ | exact Kd.V_nil _ _ _ _ _ | exact Kd.Q_nil _ _ _ _ _ | exact Kd.S_nil _ _ _ _ _⟩, ⟨by repeat (first | (with_reducible first | exact HB.out | apply below_alloc | apply pw_below_drewN | apply below_drew1) | exact HB.out)⟩⟩
  case round =>
    clear H'
    try clear c1
    try clear p2
    obtain ⟨x5_1, x6_1, rfl, HA, HK1, HO_5, HB⟩ := hrel
    cases gk with
    | zero => exact absurd HA.out (by simp [w_few.l0])
    | succ k1 =>
      have H := HA.out
      clear HA
      simp only [w_few.l0] at H
      by_cases c3 : x6_1 < (l0.length : Int)
      · rw [if_pos c3] at H
        have c3b0 : decide (x6_1 < (l0.length : Int)) = true := decide_eq_true c3
        clear c3
        by_cases c4 : x6_1 < a1
        · rw [if_pos c4] at H
          have c4b0 : decide (x6_1 < a1) = true := decide_eq_true c4
          clear c4
          by_cases c5 : 0 ≤ x6_1
          · rw [if_pos c5] at H
            have c5b0 : decide (0 ≤ x6_1) = true := decide_eq_true c5
            clear c5
            obtain ⟨ji6, hji6⟩ : ∃ j_ : Int, (mn ((rdOf ByteArray.empty l0 x6_1).size : Int) 60) = j_ := ⟨_, rfl⟩
            replace H : (if 0 ≤ (ji6) then (if (ji6) ≤ ((rdOf ByteArray.empty l0 x6_1).size : Int) then (if x5_1.length < 8796093022208 then (w_few.l0 k1 l0 a1 (x5_1 ++ [(rdOf ByteArray.empty l0 x6_1).extract 0 ((ji6) : Int).toNat]) (wrap64 (x6_1 + 1))) else (none)) else (none)) else (none)) = some r := by first | (rw [hji6] at H; exact H) | (simp only [hji6] at H ⊢; exact H)
            have hji6_ : (if 60 < ((rdOf ByteArray.empty l0 x6_1).size : Int) then 60 else ((rdOf ByteArray.empty l0 x6_1).size : Int)) = ji6 := hji6
            (try (have hji6n := hji6_; simp only [Int.ofNat_lt] at hji6n))
            by_cases c7 : 0 ≤ (ji6)
            · rw [if_pos c7] at H
              have c7b0 := eq_true c7
              have c7b1 : decide (0 ≤ (ji6)) = true := decide_eq_true c7
              clear c7
              by_cases c8 : (ji6) ≤ ((rdOf ByteArray.empty l0 x6_1).size : Int)
              · rw [if_pos c8] at H
                have c8b0 := eq_true c8
                have c8b1 : decide ((ji6) ≤ ((rdOf ByteArray.empty l0 x6_1).size : Int)) = true := decide_eq_true c8
                clear c8
                by_cases c9 : x5_1.length < 8796093022208
                · rw [if_pos c9] at H
                  have LMc9 := Aside0.mk c9
                  clear c9
                  obtain ⟨y123, hy123⟩ : ∃ y_ : List ByteArray, y_ = (x5_1 ++ [(rdOf ByteArray.empty l0 x6_1).extract 0 ((ji6) : Int).toNat]) := ⟨_, rfl⟩
                  replace H : (w_few.l0 k1 l0 a1 y123 (wrap64 (x6_1 + 1))) = some r := by first | (rw [hy123]; with_reducible exact H) | (have H2_ := (Option.bind_some _ _).symm.trans H; rw [hy123]; with_reducible exact H2_) | (have H2_ := (Option.bind_some _ _).symm.trans H; with_reducible exact H2_) | with_reducible exact H | (rw [hy123]; exact H) | exact H
                  have Ny123 := Aside0.mk hy123
                  clear hy123
                  have H' := Aside0.mk H
                  clear H
                  try go_wp2
                  have n0_ := Aside0.mk (Kd.R_drew HO_5.out)
                  have n1_ := Aside0.mk (below_drew1 HB.out)
                  clear HO_5
                  clear HB
                  have HO_5 := n0_
                  have HB := n1_
                  clear n0_ n1_
                  have p121 : 0 ≤ (x6_1 : Int) := of_decide_eq_true (by first | (with_reducible assumption) | assumption)
                  have q121 : x6_1 < (l0.length : Int) := of_decide_eq_true (by first | (with_reducible assumption) | assumption)
                  obtain ⟨ad121, e121, hx121_0⟩ := Kd.at_string HR0.out x6_1 p121 q121
                  have hw121_0 := hx121_0
                  cases e121
                  replace hx121_0 := (HB.out.cell (World.block_lt_of_cell? w _ hx121_0)).trans hx121_0
                  replace p121 := eq_true p121
                  replace q121 := eq_true q121
                  have p122 : 0 ≤ (x6_1 : Int) := of_decide_eq_true (by first | (with_reducible assumption) | assumption)
                  have q122 : x6_1 < (l0.length : Int) := of_decide_eq_true (by first | (with_reducible assumption) | assumption)
                  obtain ⟨ad122, e122, hx122_0⟩ := Kd.at_string HR0.out x6_1 p122 q122
                  have hw122_0 := hx122_0
                  obtain rfl : ad121 = ad122 := (by injection e122)
                  replace hx122_0 := (HB.out.cell (World.block_lt_of_cell? w _ hx122_0)).trans hx122_0
                  replace p122 := eq_true p122
                  replace q122 := eq_true q122
                  refine start_ (n := 15) (S := fun w' => w'.cell? (ad121.add (x6_1).toNat) = some (.string (rdOf ByteArray.empty l0 x6_1)) ∧ w'.cell? (ad121.add (x6_1).toNat) = some (.string (rdOf ByteArray.empty l0 x6_1))) (ds := []) #[false, false, false, false, false, false, false, false, false, false, false, false, false, false, false] (by kernel_rfl) rfl rfl ⟨((HB.out.cell (World.block_lt_of_cell? w _ hw121_0)).trans hw121_0), ((HB.out.cell (World.block_lt_of_cell? w _ hw122_0)).trans hw122_0)⟩ (fun hHeld => ?_); refine with_tabW w_few.tab5 w_few.bits5 (fun HT_ HW_ => ?_)
                  generalize wr.drew = w10 at HO_5 HB hx121_0 hx122_0 hHeld ⊢
                  refine pure_ (i := 0) (N := some 18) (v := ?_) (a' := ?_) #[true, false, false, false, false, false, false, false, false, false, false, false, false, false, false] rfl rfl (any_of HT_.out (by kernel_rfl)) (fun _ _ _ h => h) (Or.inl ⟨by rfl, ?_⟩) ?_ ?_
                  rotate_left
                  · intro w'
                    go_simp
                    with_reducible rfl
                  rotate_left
                  · simp only [Act.put, List.setIfInBounds_toArray, List.set_cons_zero, List.set_cons_succ, i64_w, i32_w]
                    rfl
                  refine pure_ (i := 1) (N := some 19) (v := ?_) (a' := ?_) #[true, true, false, false, false, false, false, false, false, false, false, false, false, false, false] rfl rfl (any_of HT_.out (by kernel_rfl)) (fun _ _ _ h => h) (Or.inl ⟨by rfl, ?_⟩) ?_ ?_
                  rotate_left
                  · intro w'
                    go_simp
                    with_reducible rfl
                  rotate_left
                  · simp only [Act.put, List.setIfInBounds_toArray, List.set_cons_zero, List.set_cons_succ, i64_w, i32_w]
                    rfl
                  refine pure_ (i := 2) (N := some 20) (v := ?_) (a' := ?_) #[true, true, true, false, false, false, false, false, false, false, false, false, false, false, false] rfl rfl (any_of HT_.out (by kernel_rfl)) (fun _ _ _ h => h) (Or.inl ⟨by rfl, ?_⟩) ?_ ?_
                  rotate_left
                  · intro w'
                    go_simp
                    with_reducible rfl
                  rotate_left
                  · simp only [Act.put, List.setIfInBounds_toArray, List.set_cons_zero, List.set_cons_succ, i64_w, i32_w]
                    rfl
                  refine pure_ (i := 3) (N := some 21) (v := ?_) (a' := ?_) #[true, true, true, true, false, false, false, false, false, false, false, false, false, false, false] rfl rfl (any_of HT_.out (by kernel_rfl)) (fun _ _ _ h => h) (Or.inl ⟨by rfl, ?_⟩) ?_ ?_
                  rotate_left
                  · intro w'
                    go_simp
                    with_reducible rfl
                  rotate_left
                  · simp only [Act.put, List.setIfInBounds_toArray, List.set_cons_zero, List.set_cons_succ, i64_w, i32_w]
                    rfl
                  refine pure_ (i := 5) (N := some 23) (v := ?_) (a' := ?_) #[true, true, true, true, false, true, false, false, false, false, false, false, false, false, false] rfl rfl (any_of HT_.out (by kernel_rfl)) (fun _ _ _ h => h) (Or.inl ⟨by rfl, ?_⟩) ?_ ?_
                  rotate_left
                  · intro w'
                    go_simp
                    with_reducible rfl
                  rotate_left
                  · simp only [Act.put, List.setIfInBounds_toArray, List.set_cons_zero, List.set_cons_succ, i64_w, i32_w]
                    rfl
                  refine pure_ (i := 6) (N := some 24) (v := ?_) (a' := ?_) #[true, true, true, true, false, true, true, false, false, false, false, false, false, false, false] rfl rfl (any_of HT_.out (by kernel_rfl)) (fun _ _ _ h => h) (Or.inl ⟨by rfl, ?_⟩) ?_ ?_
                  rotate_left
                  · intro w'
                    go_simp
                    with_reducible rfl
                  rotate_left
                  · simp only [Act.put, List.setIfInBounds_toArray, List.set_cons_zero, List.set_cons_succ, i64_w, i32_w]
                    rfl
                  refine pure_ (i := 7) (N := some 25) (v := ?_) (a' := ?_) #[true, true, true, true, false, true, true, true, false, false, false, false, false, false, false] rfl rfl (any_of HT_.out (by kernel_rfl)) (fun _ _ _ h => h) (Or.inl ⟨by rfl, ?_⟩) ?_ ?_
                  rotate_left
                  · intro w'
                    go_simp
                    with_reducible rfl
                  rotate_left
                  · simp only [Act.put, List.setIfInBounds_toArray, List.set_cons_zero, List.set_cons_succ, i64_w, i32_w]
                    rfl
                  refine take_ (i := 4) (N := some 22) (v := ?_) (a' := ?_) #[true, true, true, true, true, true, true, true, false, false, false, false, false, false, false] rfl rfl (take_ofW HT_.out HW_.out (by kernel_rfl)) (fun _ _ _ h => h) (Or.inl ⟨by rfl, ?_⟩) hHeld ?_ ?_
                  rotate_left
                  · rintro w' ⟨s0, s1⟩
                    go_simp
                    with_reducible rfl
                  rotate_left
                  · simp only [Act.put, List.setIfInBounds_toArray, List.set_cons_zero, List.set_cons_succ, i64_w, i32_w]
                    rfl
                  refine take_ (i := 8) (N := some 26) (v := ?_) (a' := ?_) #[true, true, true, true, true, true, true, true, true, false, false, false, false, false, false] rfl rfl (take_ofW HT_.out HW_.out (by kernel_rfl)) (fun _ _ _ h => h) (Or.inl ⟨by rfl, ?_⟩) hHeld ?_ ?_
                  rotate_left
                  · rintro w' ⟨s0, s1⟩
                    go_simp
                    with_reducible rfl
                  rotate_left
                  · simp only [Act.put, List.setIfInBounds_toArray, List.set_cons_zero, List.set_cons_succ, i64_w, i32_w]
                    rfl
                  refine pure_ (i := 9) (N := some 27) (v := ?_) (a' := ?_) #[true, true, true, true, true, true, true, true, true, true, false, false, false, false, false] rfl rfl (any_of HT_.out (by kernel_rfl)) (fun _ _ _ h => h) (Or.inl ⟨by rfl, ?_⟩) ?_ ?_
                  rotate_left
                  · intro w'
                    go_simp
                    with_reducible rfl
                  rotate_left
                  · simp only [Act.put, List.setIfInBounds_toArray, List.set_cons_zero, List.set_cons_succ, i64_w, i32_w]
                    rfl
                  refine pure_ (i := 10) (N := some 28) (v := ?_) (a' := ?_) #[true, true, true, true, true, true, true, true, true, true, true, false, false, false, false] rfl rfl (any_of HT_.out (by kernel_rfl)) (fun _ _ _ h => h) (Or.inl ⟨by rfl, ?_⟩) ?_ ?_
                  rotate_left
                  · intro w'
                    go_simp
                    with_reducible rfl
                  rotate_left
                  · simp only [Act.put, List.setIfInBounds_toArray, List.set_cons_zero, List.set_cons_succ, i64_w, i32_w]
                    rfl
                  refine pure_ (i := 11) (N := some 29) (v := ?_) (a' := ?_) #[true, true, true, true, true, true, true, true, true, true, true, true, false, false, false] rfl rfl (any_of HT_.out (by kernel_rfl)) (fun _ _ _ h => h) (Or.inl ⟨by rfl, ?_⟩) ?_ ?_
                  rotate_left
                  · intro w'
                    go_simp
                    with_reducible rfl
                  rotate_left
                  · simp only [Act.put, List.setIfInBounds_toArray, List.set_cons_zero, List.set_cons_succ, i64_w, i32_w]
                    rfl
                  refine one_ (i := 12) (N := some 30) #[true, true, true, true, true, true, true, true, true, true, true, true, true, false, false] rfl rfl (one_of HT_.out (by kernel_rfl)) (by decide) (fun K hK => ?_)
                  refine value_ (w1 := ?_) (v := ?_) (by rfl) rfl ?_ ?_
                  rotate_left 2
                  · go_simp
                    constructor
                    · rfl
                    · rfl
                  refine hK.out _ _ ⟨(World.cell?_alloc_lt _ _ _ (World.block_lt_of_cell? _ _ (((HB.out.cell (World.block_lt_of_cell? w _ hw121_0)).trans hw121_0)))).trans (((HB.out.cell (World.block_lt_of_cell? w _ hw121_0)).trans hw121_0)), (World.cell?_alloc_lt _ _ _ (World.block_lt_of_cell? _ _ (((HB.out.cell (World.block_lt_of_cell? w _ hw122_0)).trans hw122_0)))).trans (((HB.out.cell (World.block_lt_of_cell? w _ hw122_0)).trans hw122_0))⟩ (fun hHeld => ?_)
                  clear hK K
                  refine norm_ (a' := ?_) ?_ ?_
                  rotate_left
                  · show Act.put _ (some 30) _ = _
                    simp only [Act.put, List.setIfInBounds_toArray, List.set_cons_zero, List.set_cons_succ, i64_w, i32_w]
                    rfl
                  refine one_ (i := 13) (N := some 31) #[true, true, true, true, true, true, true, true, true, true, true, true, true, true, false] rfl rfl (one_of HT_.out (by kernel_rfl)) (by decide) (fun K hK => ?_)
                  refine Kd.R_append_step Kd.string (w0 := w) w.heap.size (by rfl) (.tmp 18) (.tmp 30) 22 9 (.string ⟨#[]⟩) 16 rfl Tryd.underlying22 info9 rfl (by decide) (by omega) u5 x5_1 ((rdOf ByteArray.empty l0 x6_1).extract 0 ((ji6) : Int).toNat) [.string ((rdOf ByteArray.empty l0 x6_1).extract 0 ((ji6) : Int).toNat)] (fun _ => True) (fun _ => False) rfl rfl ?aP (fun _ hk => hk.elim) ?aF ?aO ?aB ?aS ?aL ?_
                  (case aP => exact rfl)
                  (case aB => exact (by repeat (first | (with_reducible first | exact HB.out | apply below_alloc | apply pw_below_drewN | apply below_drew1) | exact HB.out)))
                  (case aF => exact (fun _ _ => trivial))
                  (case aO => exact (by (with_reducible repeat (first | apply Kd.R_alloc | apply Kd.R_drewN | apply Kd.R_drew)); exact HO_5.out))
                  (case aS => exact (below_size (by repeat (first | (with_reducible first | exact HB.out | apply below_alloc | apply pw_below_drewN | apply below_drew1) | exact HB.out))))
                  (case aL => have := LMc9.out; omega)
                  intro v124 w11 ho hb hg hat
                  rw [← Ny123.out] at ho
                  have n0_ := Aside0.mk (hb)
                  have n1_ := Aside0.mk (ho)
                  clear HB
                  clear HO_5
                  have HB := n0_
                  have HO125 := n1_
                  clear n0_ n1_
                  clear ho hb hg hat
                  refine hK.out _ _ ⟨((HB.out.cell (World.block_lt_of_cell? w _ hw121_0)).trans hw121_0), ((HB.out.cell (World.block_lt_of_cell? w _ hw122_0)).trans hw122_0)⟩ (fun hHeld => ?_)
                  clear hK K
                  refine norm_ (a' := ?_) ?_ ?_
                  rotate_left
                  · show Act.put _ (some 31) _ = _
                    simp only [Act.put, List.setIfInBounds_toArray, List.set_cons_zero, List.set_cons_succ, i64_w, i32_w]
                    rfl
                  refine pure_ (i := 14) (N := some 5) (v := ?_) (a' := ?_) #[true, true, true, true, true, true, true, true, true, true, true, true, true, true, true] rfl rfl (any_of HT_.out (by kernel_rfl)) (fun _ _ _ h => h) (Or.inl ⟨by rfl, ?_⟩) ?_ ?_
                  rotate_left
                  · intro w'
                    go_simp
                    with_reducible rfl
                  rotate_left
                  · simp only [Act.put, List.setIfInBounds_toArray, List.set_cons_zero, List.set_cons_succ, i64_w, i32_w]
                    rfl
                  refine done_ (done_of HT_.out (by kernel_rfl)) ?_
                  try go_wp2
                  go_roundg k1
                  case measure => have := HK1.out; omega
                  case rel => exact ⟨(y123), (wrap64 (x6_1 + 1)), (by first | rfl | (simp; done) | (simp [*]; done)), H', ⟨by have := HK1.out; omega⟩, ⟨by (with_reducible repeat (first | apply Kd.R_alloc | apply Kd.R_drewN | apply Kd.R_drew)); exact HO125.out⟩, ⟨by repeat (first | (with_reducible first | exact HB.out | apply below_alloc | apply pw_below_drewN | apply below_drew1) | exact HB.out)⟩⟩
                · rw [if_neg c9] at H
                  exact absurd H (by simp)
              · rw [if_neg c8] at H
                exact absurd H (by simp)
            · rw [if_neg c7] at H
              exact absurd H (by simp)
          · rw [if_neg c5] at H
            exact absurd H (by simp)
        · rw [if_neg c4] at H
          have c4b0 : decide (x6_1 < a1) = false := decide_eq_false c4
          clear c4
          obtain rfl := Option.some.inj H
          go_wp2
          go_ret
          exact ⟨_, by first | rfl | (simp [errW_none, errW_some] <;> rfl) | (simp [*, errW_none, errW_some] <;> rfl), by (with_reducible repeat (first | apply Kd.R_alloc | apply Kd.R_drewN | apply Kd.R_drew)); exact HO_5.out, by repeat (first | (with_reducible first | exact HB.out | apply below_alloc | apply pw_below_drewN | apply below_drew1) | exact HB.out)⟩
      · rw [if_neg c3] at H
        have c3b0 : decide (x6_1 < (l0.length : Int)) = false := decide_eq_false c3
        clear c3
        obtain rfl := Option.some.inj H
        go_wp2
        go_ret
        exact ⟨_, by first | rfl | (simp [errW_none, errW_some] <;> rfl) | (simp [*, errW_none, errW_some] <;> rfl), by (with_reducible repeat (first | apply Kd.R_alloc | apply Kd.R_drewN | apply Kd.R_drew)); exact HO_5.out, by repeat (first | (with_reducible first | exact HB.out | apply below_alloc | apply pw_below_drewN | apply below_drew1) | exact HB.out)⟩
def w_binary.l0 : Nat → Int → Int → Option (Int)
  | 0, _, _ => none
  | k + 1, x0, x3 => if x0 > 0 then (w_binary.l0 k (wrap64 (Int.tdiv x0 2)) (wrap64 (x3 + 1))) else (some x3)
def w_binary.f (k : Nat) (a0 : Int) : Option (Int) := w_binary.l0 k a0 0
set_option maxHeartbeats 8000000 in
set_option maxRecDepth 100000 in
theorem w_binary.calls (k : Nat) (a0 : Int) (r : Int) (w : World) (h : w_binary.f k a0 = some r) :
    Calls Tryd.prog 25 #[.int .i64 a0] w fun e w' => e = .returned (.int .i64 r) ∧ Drawn0 w w' := by
  have H : (w_binary.l0 k a0 0) = some r := h
  clear h
  have H' := Aside0.mk H
  clear H
  go_enter Tryd.func25, Tryd.ntmps25
  go_wp2
  go_loopg [0, 3] k (fun kq v0 v3 w' => ∃ (x0_1 : Int) (x3_1 : Int), v0 = .int .i64 x0_1 ∧ v3 = .int .i64 x3_1 ∧ Aside0 (w_binary.l0 kq x0_1 x3_1 = some r) ∧ Aside0 (kq ≤ k) ∧ Drawn0 w w')
  case atStart => exact ⟨(a0), (0), (by first | rfl | (simp; done) | (simp [*]; done)), (by first | rfl | (simp; done) | (simp [*]; done)), H', ⟨Nat.le_refl _⟩, by repeat (first | exact Drawn0.refl _ | apply Drawn0.step)⟩
  case round =>
    clear H'
    obtain ⟨x0_1, x3_1, rfl, rfl, HA, HK1, ⟨m1, rfl⟩⟩ := hrel
    cases gk with
    | zero => exact absurd HA.out (by simp [w_binary.l0])
    | succ k1 =>
      have H := HA.out
      clear HA
      simp only [w_binary.l0] at H
      by_cases c2 : x0_1 > 0
      · rw [if_pos c2] at H
        have c2b0 : decide (0 < x0_1) = true := decide_eq_true c2
        clear c2
        have H' := Aside0.mk H
        clear H
        go_wp2
        go_roundg k1
        case measure => have := HK1.out; omega
        case rel => exact ⟨(wrap64 (Int.tdiv x0_1 2)), (wrap64 (x3_1 + 1)), (by first | rfl | (simp; done) | (simp [*]; done)), (by first | rfl | (simp; done) | (simp [*]; done)), H', ⟨by have := HK1.out; omega⟩, by repeat (first | exact Drawn0.refl _ | apply Drawn0.step)⟩
      · rw [if_neg c2] at H
        have c2b0 : decide (0 < x0_1) = false := decide_eq_false c2
        clear c2
        obtain rfl := Option.some.inj H
        go_wp2
        go_ret
        exact ⟨by first | rfl | (simp; done) | (simp [*]; done), by repeat (first | exact Drawn0.refl _ | apply Drawn0.step)⟩
end Go.Proofs.YtabjfogmcehemaaDoor.Pa
end

section
namespace Go.Proofs.YtabjfogmcehemaaDoor.Pure
open Go.RowKit Tree Go.Proofs.YtabjfogmcehemaaDoorW.PrintWords Go.Proofs.YtabjfogmcehemaaDoorW.PrintLast Go.Proofs.YtabjfogmcehemaaDoorW.PrintMore
set_option linter.unusedVariables false
set_option linter.unusedSimpArgs false
theorem min_nat (s : ByteArray) (n : Nat) : mn (s.size : Int) (n : Int) = ((min s.size n : Nat) : Int) := by
  unfold mn
  split <;> omega
theorem wsm (x : Int) (h0 : -9223372036854775808 ≤ x) (h1 : x ≤ 9223372036854775807) : wrap64 x = x := by unfold wrap64; omega
def cut (n : Nat) (s : ByteArray) : ByteArray := s.extract 0 (min s.size n)
theorem cut_size (n : Nat) (s : ByteArray) : (cut n s).size ≤ n := by unfold cut; rw [ByteArray.size_extract]; omega
def fewL (n : Nat) (l : List ByteArray) : List ByteArray := (l.take n).map (cut 60)
theorem fewL_len (n : Nat) (l : List ByteArray) : (fewL n l).length ≤ n := by unfold fewL; rw [List.length_map, List.length_take]; omega
theorem fewL_size (n : Nat) (l : List ByteArray) : ∀ x ∈ fewL n l, x.size ≤ 60 := by
  intro x hx
  obtain ⟨y, _, rfl⟩ := List.mem_map.1 hx
  exact cut_size _ _
theorem few_l0 (l : List ByteArray) (hl : l.length ≤ 9223372036854775807) (n : Nat) (hn : n ≤ 1000) : ∀ (d f i : Nat), i + d = min l.length n → d < f → Pa.w_few.l0 f l (n : Int) (fewL i l) (i : Int) = some (fewL n l) := by
  intro d
  induction d with
  | zero =>
    intro f i hi hf
    obtain ⟨f, rfl⟩ : ∃ g, f = g + 1 := ⟨f - 1, by omega⟩
    simp only [Pa.w_few.l0]
    by_cases h : i < l.length
    · rw [if_pos (by omega), if_neg (by omega), show i = n by omega]
    · rw [if_neg (by omega)]
      unfold fewL
      rw [List.take_of_length_le (by omega), List.take_of_length_le (by omega)]
  | succ d ih =>
    intro f i hi hf
    obtain ⟨f, rfl⟩ : ∃ g, f = g + 1 := ⟨f - 1, by omega⟩
    simp only [Pa.w_few.l0]
    have hm := min_nat (rdOf ByteArray.empty l (i : Int)) 60
    rw [show ((60 : Nat) : Int) = 60 from rfl] at hm
    rw [if_pos (by omega), if_pos (by omega), if_pos (by omega), hm, if_pos (by omega), if_pos (by omega), if_pos (by have := fewL_len i l; omega), wsm _ (by omega) (by omega)]
    have e : fewL i l ++ [(rdOf ByteArray.empty l (i : Int)).extract 0 ((min (rdOf ByteArray.empty l (i : Int)).size 60 : Nat) : Int).toNat] = fewL (i + 1) l := by
      unfold fewL rdOf cut
      have hx : l[i]? = some l[i] := List.getElem?_eq_getElem (by omega)
      rw [List.take_add_one, hx, List.map_append]
      simp only [List.getD_eq_getElem?_getD, Int.toNat_natCast, hx, Option.getD_some, Option.toList_some, List.map_cons, List.map_nil]
    rw [e]
    exact ih f (i + 1) (by omega) (by omega)
theorem few_f (l : List ByteArray) (hl : l.length ≤ 9223372036854775807) (n : Nat) (hn : n ≤ 1000) (f : Nat) (hf : n < f) : Pa.w_few.f f l (n : Int) = some (fewL n l) :=
  few_l0 l hl n hn (min l.length n) f 0 (by omega) (by omega)
theorem fits_of (l : List ByteArray) (h : l.length ≤ 1000000) (hs : ∀ x ∈ l, x.size ≤ 1000) : fits l = true := (fits_iff l).2 ⟨h, fun x hx => by have := hs x hx; omega⟩
theorem Root_f (l : List ByteArray) (h : l.length ≤ 1000) (hs : ∀ x ∈ l, x.size ≤ 1000) : digest_Root.f l = some (rootS l) := by
  unfold digest_Root.f; rw [if_pos (fits_of l (by omega) hs)]
theorem eqB_refl (a : ByteArray) : eqB a a = true := (eqB_iff a a).2 rfl
end Go.Proofs.YtabjfogmcehemaaDoor.Pure
end

section
namespace Go.Proofs.YtabjfogmcehemaaDoor.Ps
open Go.RowKit Go.Proofs.YtabjfogmcehemaaDoorW.PrintWords Go.Proofs.YtabjfogmcehemaaDoorW.PrintLast Go.Proofs.YtabjfogmcehemaaDoorW.PrintMore
attribute [local go_sem] max2_int min2_int max_two min_two max_three min_three max_four min_four
set_option linter.unusedVariables false
set_option linter.unusedSimpArgs false
def errW : Option Int → Value
  | none => .nilIface
  | some c => .iface 0 (.int .i64 c)
theorem errW_none : errW none = .nilIface := rfl
theorem errW_some (c : Int) : errW (some c) = .iface 0 (.int .i64 c) := rfl
theorem info9 : (Tryd.prog.info? 9).map (fun i => (i.zero, i.size, i.bytes)) = some (some (.string ⟨#[]⟩), 1, 16) := by kernel_rfl
end Go.Proofs.YtabjfogmcehemaaDoor.Ps
end
