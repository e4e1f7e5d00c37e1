/- DigestProofAccepted answers true: parts of the proof, merged. -/
import Derived.Test.YtabjfogmcehemaaDoorProofLaw1

section
namespace Go.Proofs.YtabjfogmcehemaaDoor
open Go.RowKit Go.Proofs.YtabjfogmcehemaaDoorW.PrintWords Go.Proofs.YtabjfogmcehemaaDoorW.PrintLast Go.Proofs.YtabjfogmcehemaaDoorW.PrintMore
attribute [local go_sem] max2_int min2_int max_two min_two max_three min_three max_four min_four
attribute [local go_sem ↓] Go.wp_at_zero Go.wp_at_succ
set_option linter.unusedVariables false
set_option linter.unusedSimpArgs false
def rounds : List Nat := [0x428a2f98, 0x71374491, 0xb5c0fbcf, 0xe9b5dba5, 0x3956c25b, 0x59f111f1, 0x923f82a4, 0xab1c5ed5,
  0xd807aa98, 0x12835b01, 0x243185be, 0x550c7dc3, 0x72be5d74, 0x80deb1fe, 0x9bdc06a7, 0xc19bf174,
  0xe49b69c1, 0xefbe4786, 0x0fc19dc6, 0x240ca1cc, 0x2de92c6f, 0x4a7484aa, 0x5cb0a9dc, 0x76f988da,
  0x983e5152, 0xa831c66d, 0xb00327c8, 0xbf597fc7, 0xc6e00bf3, 0xd5a79147, 0x06ca6351, 0x14292967,
  0x27b70a85, 0x2e1b2138, 0x4d2c6dfc, 0x53380d13, 0x650a7354, 0x766a0abb, 0x81c2c92e, 0x92722c85,
  0xa2bfe8a1, 0xa81a664b, 0xc24b8b70, 0xc76c51a3, 0xd192e819, 0xd6990624, 0xf40e3585, 0x106aa070,
  0x19a4c116, 0x1e376c08, 0x2748774c, 0x34b0bcb5, 0x391c0cb3, 0x4ed8aa4a, 0x5b9cca4f, 0x682e6ff3,
  0x748f82ee, 0x78a5636f, 0x84c87814, 0x8cc70208, 0x90befffa, 0xa4506ceb, 0xbef9a3f7, 0xc67178f2]
theorem rounds_lt : ∀ x ∈ rounds, x < 4294967296 := by decide
theorem rounds_len : rounds.length = 64 := rfl
def cells (K : IntKind) (xs : List Nat) : List Value := xs.map fun x : Nat => Value.int K (x : Int)
def Laid (w : World) : Prop := w.rangeAt 0 0 (cells .u32 rounds)
theorem Laid.below {w w' : World} (h : Laid w) (hb : Below w.heap.size w w') : Laid w' := fun j v hj => pw_cell_below hb (h j v hj)
structure Eight where
  (a b c d e f g h : Nat)
def Eight.list (v : Eight) : List Nat := [v.a, v.b, v.c, v.d, v.e, v.f, v.g, v.h]
def Eight.Fit (v : Eight) : Prop := v.a < 4294967296 ∧ v.b < 4294967296 ∧ v.c < 4294967296 ∧ v.d < 4294967296 ∧ v.e < 4294967296 ∧ v.f < 4294967296 ∧ v.g < 4294967296 ∧ v.h < 4294967296
def big1 (x : Nat) : Nat := mixOf x [6, 11, 25]
def big0 (x : Nat) : Nat := mixOf x [2, 13, 22]
def chf (e f g : Nat) : Nat := (e &&& f) ^^^ ((4294967295 ^^^ e) &&& g)
def maj (a b c : Nat) : Nat := (a &&& b ^^^ a &&& c) ^^^ b &&& c
def tOf (v : Eight) (k w : Nat) : Nat := ((((v.h + big1 v.e) % 4294967296 + chf v.e v.f v.g) % 4294967296 + k) % 4294967296 + w) % 4294967296
def uOf (v : Eight) : Nat := (big0 v.a + maj v.a v.b v.c) % 4294967296
def stepW (v : Eight) (k w : Nat) : Eight := ⟨(tOf v k w + uOf v) % 4294967296, v.a, v.b, v.c, (v.d + tOf v k w) % 4294967296, v.e, v.f, v.g⟩
def runW (v : Eight) (ws : List Nat) : Nat → Eight
  | 0 => v
  | k + 1 => stepW (runW v ws k) (rounds.getD k 0) (ws.getD k 0)
def addE (x y : Eight) : Eight := ⟨(x.a + y.a) % 4294967296, (x.b + y.b) % 4294967296, (x.c + y.c) % 4294967296, (x.d + y.d) % 4294967296, (x.e + y.e) % 4294967296, (x.f + y.f) % 4294967296, (x.g + y.g) % 4294967296, (x.h + y.h) % 4294967296⟩
def blockF (h : Eight) (l : List Nat) : Eight := addE h (runW h (sched l 64) 64)
theorem stepW_fit (v : Eight) (k w : Nat) (h : v.Fit) : (stepW v k w).Fit :=
  ⟨Nat.mod_lt _ (by decide), h.1, h.2.1, h.2.2.1, Nat.mod_lt _ (by decide), h.2.2.2.2.1, h.2.2.2.2.2.1, h.2.2.2.2.2.2.1⟩
theorem runW_fit (v : Eight) (ws : List Nat) (h : v.Fit) (k : Nat) : (runW v ws k).Fit := by
  induction k with
  | zero => exact h
  | succ k ih => exact stepW_fit _ _ _ ih
theorem addE_fit (x y : Eight) : (addE x y).Fit :=
  ⟨Nat.mod_lt _ (by decide), Nat.mod_lt _ (by decide), Nat.mod_lt _ (by decide), Nat.mod_lt _ (by decide), Nat.mod_lt _ (by decide), Nat.mod_lt _ (by decide), Nat.mod_lt _ (by decide), Nat.mod_lt _ (by decide)⟩
theorem Arr.far {K : IntKind} {w W : World} {B : Nat} {xs : List Nat} (h : Arr K w B xs W) {p : Addr} (hp : w.heap.size ≤ p.block) (hne : p.block ≠ B) (v : Value) : Arr K w B xs (W.setCell p v) where
  below := h.below.setCell hp _
  ge := h.ge
  lt := by rw [World.size_setCell]; exact h.lt
  cell := fun j x hx => (World.cell?_setCell_far W p ⟨B, j, none⟩ v hne).trans (h.cell j x hx)
  free := fun j hj => by rw [World.frozen?_setCell]; exact h.free j hj
structure Add (w : World) (V S : Nat) (v : Eight) (ws : List Nat) (W : World) : Prop where
  v : Arr .u32 w V v.list W
  s : Arr .u32 w S ws W
  ne : V ≠ S
section
variable {w W : World} {V S : Nat} {v : Eight} {ws : List Nat}
theorem Add.alloc (h : Add w V S v ws W) (o : Obj) : Add w V S v ws (W.alloc o) := ⟨h.v.alloc o, h.s.alloc o, h.ne⟩
theorem Add.drewN (h : Add w V S v ws W) (n : Nat) : Add w V S v ws (W.drewN n) := ⟨h.v.drewN n, h.s.drewN n, h.ne⟩
theorem Add.drew (h : Add w V S v ws W) : Add w V S v ws W.drew := ⟨h.v.drew, h.s.drew, h.ne⟩
theorem Add.all (h : Add w V S v ws W) {k x : Nat} (hk : ws[k]? = some x) :
    Add w V S v ws W ∧ W.cell? ⟨V, 0, none⟩ = some (.int .u32 (v.a : Int)) ∧ W.cell? ⟨V, 1, none⟩ = some (.int .u32 (v.b : Int)) ∧ W.cell? ⟨V, 2, none⟩ = some (.int .u32 (v.c : Int)) ∧
      W.cell? ⟨V, 4, none⟩ = some (.int .u32 (v.e : Int)) ∧ W.cell? ⟨V, 5, none⟩ = some (.int .u32 (v.f : Int)) ∧ W.cell? ⟨V, 6, none⟩ = some (.int .u32 (v.g : Int)) ∧ W.cell? ⟨V, 7, none⟩ = some (.int .u32 (v.h : Int)) ∧
      W.cell? ⟨S, k, none⟩ = some (.int .u32 (x : Int)) :=
  ⟨h, h.v.cell 0 _ rfl, h.v.cell 1 _ rfl, h.v.cell 2 _ rfl, h.v.cell 4 _ rfl, h.v.cell 5 _ rfl, h.v.cell 6 _ rfl, h.v.cell 7 _ rfl, h.s.cell k x hk⟩
end
theorem size69 : (Tryd.prog.info? 69).map (·.size) = some 1 := by kernel_rfl
theorem copy_run {w W : World} {V S : Nat} {a b c d e f g h : Nat} {ws : List Nat} (hX : Add w V S ⟨a, b, c, d, e, f, g, h⟩ ws W) (ty : TypeId) :
    (Builtin.copy_ #[77, 77] ty #[.slice (some ⟨V, 1, none⟩) 7 7, .slice (some ⟨V, 0, none⟩) 7 8]).run Tryd.prog W = .ok (goInt 7) (W.setCells V 1 (cells .u32 [a, b, c, d, e, f, g])) := by
  refine run_copy_cells W 77 77 ty 69 V 1 7 7 ⟨V, 0, none⟩ 7 8 (cells .u32 [a, b, c, d, e, f, g]) Tryd.underlying77 size69 rfl ?_ ?_ ?_ ?_
  · intro j v hv
    rw [Addr.add_mid, Nat.zero_add]
    have hj : j < 7 := (List.getElem?_eq_some_iff.1 hv).1
    refine hX.v.range j v ?_ |> fun h => by rwa [Nat.zero_add] at h
    rw [← hv]
    have : ∀ j : Fin 7, True := fun _ => trivial
    match j, hj with
    | 0, _ => rfl
    | 1, _ => rfl
    | 2, _ => rfl
    | 3, _ => rfl
    | 4, _ => rfl
    | 5, _ => rfl
    | 6, _ => rfl
  · intro j hj
    have hj' : j < 7 := hj
    have := hX.v.there (j := 1 + j) (by show 1 + j < 8; omega)
    rw [Nat.zero_add] at this
    exact this.1
  · intro j hj
    have hj' : j < 7 := hj
    have := hX.v.there (j := 1 + j) (by show 1 + j < 8; omega)
    rw [Nat.zero_add] at this
    exact this.2
  · intro v hv
    obtain ⟨x, _, rfl⟩ := List.mem_map.1 hv
    rfl
theorem copy_arr {w W : World} {V : Nat} {a b c d e f g h : Nat} (hX : Arr .u32 w V [a, b, c, d, e, f, g, h] W) : Arr .u32 w V [a, a, b, c, d, e, f, g] (W.setCells V 1 (cells .u32 [a, b, c, d, e, f, g])) :=
  ((((((hX.set 1 a (by simp)).set 2 b (by simp)).set 3 c (by simp)).set 4 d (by simp)).set 5 e (by simp)).set 6 f (by simp)).set 7 g (by simp)
theorem far_cells {K : IntKind} {w : World} {S V : Nat} {xs : List Nat} (hV : w.heap.size ≤ V) (hne : V ≠ S) : ∀ (vs : List Value) (o : Nat) (W : World), Arr K w S xs W → Arr K w S xs (W.setCells V o vs) := by
  intro vs
  induction vs with
  | nil => exact fun _ _ h => h
  | cons v vs ih => exact fun o W hW => ih _ _ (hW.far (p := ⟨V, o, none⟩) hV hne v)
theorem Below.grownBy_ {w W : World} (h : Below w.heap.size w W) (row : Option Nat) : w.grownBy W row := ⟨h.os, h.tape, h.output, h.size, fun k hk _ => h.block k hk⟩
theorem grownBy_at (W : World) (b j : Nat) (v : Value) : W.grownBy (W.setCell ⟨b, j, none⟩ v) (some b) :=
  ⟨rfl, rfl, rfl, by rw [World.size_setCell]; exact Nat.le_refl _, fun k hk hne => Below.heap_setCell W ⟨b, j, none⟩ v k (fun e => hne (congrArg some e))⟩
theorem index_agg {P : Program} (t n e : Nat) (hu : P.underlying t = some (.array n e)) (d : TypeDesc) (he : P.underlying e = some d) (hd : d.isRow = false) (hi : (P.info? e).map (·.size) = some 1) (cs : List Value) (k : Nat) (v : Value) (hk : cs[k]? = some v) (hn : k < n) (w : World) :
    (Instr.index t (.agg cs.toArray) (.int .i64 (k : Int))).run P w = .ok v w := by
  cases hq : P.info? e with
  | none => simp [hq] at hi
  | some i =>
    have hs : i.size = 1 := by simpa [hq] using hi
    have hagg : (isAgg e).run P w = .ok false w := by
      unfold isAgg
      rw [Sem.run_bind, run_underlying he w]
      cases d <;> simp_all
    simp [Instr.index, run_underlying hu, asIntOf, hn, sizeOf, typeInfo, hq, hs, part, hagg]
    rw [hk]
    rfl
set_option maxRecDepth 100000 in
set_option maxHeartbeats 8000000 in
theorem add_any (w0 : World) (H B o c : Nat) (h : Eight) (l : List Nat) (w : World) (hG : Aside0 (Laid w)) (hl : l.length = 64) (hb : ∀ x ∈ l, x < 256) (hc : ∀ j x, l[j]? = some x → w.cell? ⟨B, o + j, none⟩ = some (.int .u8 (x : Nat)))
    (hB : B < w.heap.size) (hH : Arr .u32 w0 H h.list w) (hf : h.Fit) :
    Calls Tryd.prog 55 #[.pointer (some ⟨H, 0, none⟩), .slice (some ⟨B, o, none⟩) 64 c] w fun e w' => e = .returned (.tuple #[]) ∧ Arr .u32 w0 H (blockF h l).list w' ∧ w.grownBy w' (some H) := by
  have HSched := Aside0.mk (schedule_any B o c l w hl hb hc hB)
  have HH := Aside0.mk hH
  have hb2 := Aside0.mk hb
  clear hb hc hH
  go_enter Tryd.func55, Tryd.ntmps55
  iterate 12 (try go_step)
  refine HSched.out.mono ?_
  rintro e w1 ⟨rfl, hb1⟩
  have hsl := sched_len l 64
  obtain ⟨ws, hws⟩ : ∃ ws, sched l 64 = ws := ⟨_, rfl⟩
  rw [hws] at hsl ⊢
  have HWS := Aside0.mk hws
  clear hws
  have hz := Arr.new (K := .u32) (xs := List.replicate 64 0) hb1 88
  simp only [List.replicate_succ, List.replicate_zero, List.map_cons, List.map_nil, Int.cast_ofNat_Int] at hz
  have hS := hz.setCells ws (by rw [hsl]; rfl)
  have HZ := Aside0.mk hz
  have HS0 := Aside0.mk hS
  have HB1 := Aside0.mk hb1
  clear hz hS hb1
  have HI : Aside0 ((Tryd.prog.info? 88).map (·.size) = some (ws.map fun x : Nat => Value.int .u32 (x : Int)).toArray.size) := ⟨by rw [info88]; simp [hsl]⟩
  have HT : Aside0 ((w1.alloc (.cells (List.replicate 64 (Value.int .u32 0)).toArray 88)).there w1.heap.size 0 (ws.map fun x : Nat => Value.int .u32 (x : Int)).toArray.size) := ⟨by have := HZ.out.there; simpa [hsl] using this⟩
  simp only [List.replicate_succ, List.replicate_zero] at HT
  have H1 := Aside0.mk (one_cells .u32 ws)
  dsimp only; iterate 4 (try go_step)
  refine wpList_store_mid rfl 88 _ _ rfl w1.heap.size 0 _ rfl rfl HT.out HI.out H1.out ?_
  clear HT HI HZ H1
  obtain ⟨WS, hWS⟩ : ∃ WS, (w1.alloc (.cells #[Value.int .u32 0, Value.int .u32 0, Value.int .u32 0, Value.int .u32 0, Value.int .u32 0, Value.int .u32 0, Value.int .u32 0, Value.int .u32 0, Value.int .u32 0, Value.int .u32 0, Value.int .u32 0, Value.int .u32 0, Value.int .u32 0, Value.int .u32 0, Value.int .u32 0, Value.int .u32 0, Value.int .u32 0, Value.int .u32 0, Value.int .u32 0, Value.int .u32 0, Value.int .u32 0, Value.int .u32 0, Value.int .u32 0, Value.int .u32 0, Value.int .u32 0, Value.int .u32 0, Value.int .u32 0, Value.int .u32 0, Value.int .u32 0, Value.int .u32 0, Value.int .u32 0, Value.int .u32 0, Value.int .u32 0, Value.int .u32 0, Value.int .u32 0, Value.int .u32 0, Value.int .u32 0, Value.int .u32 0, Value.int .u32 0, Value.int .u32 0, Value.int .u32 0, Value.int .u32 0, Value.int .u32 0, Value.int .u32 0, Value.int .u32 0, Value.int .u32 0, Value.int .u32 0, Value.int .u32 0, Value.int .u32 0, Value.int .u32 0, Value.int .u32 0, Value.int .u32 0, Value.int .u32 0, Value.int .u32 0, Value.int .u32 0, Value.int .u32 0, Value.int .u32 0, Value.int .u32 0, Value.int .u32 0, Value.int .u32 0, Value.int .u32 0, Value.int .u32 0, Value.int .u32 0, Value.int .u32 0] 88)).setCells w1.heap.size 0 (ws.map fun x : Nat => Value.int .u32 (x : Int)) = WS := ⟨_, rfl⟩
  rw [hWS] at HS0
  simp only [List.toList_toArray, hWS]
  clear hWS
  generalize w1.heap.size = S at *
  have HHS := Aside0.mk (HH.out.grown HS0.out.below)
  have HGS := Aside0.mk (hG.out.below HS0.out.below)
  iterate 11 (try go_step)
  have hI8 : Aside0 ((Tryd.prog.info? 71).map (·.size) = some (h.list.map fun x : Nat => Value.int .u32 (x : Int)).length) := ⟨by rw [info71]; rfl⟩
  refine wpList_load_mid rfl 71 _ rfl H 0 rfl _ _ HHS.out.range Tryd.underlying71 rfl hI8.out ?_
  have hzv := Arr.new (K := .u32) (xs := List.replicate 8 0) HS0.out.below 71
  simp only [List.replicate_succ, List.replicate_zero, List.map_cons, List.map_nil, Int.cast_ofNat_Int] at hzv
  have HV0 := Aside0.mk (hzv.setCells h.list rfl)
  have HSV := Aside0.mk (HS0.out.alloc (.cells #[Value.int .u32 0, Value.int .u32 0, Value.int .u32 0, Value.int .u32 0, Value.int .u32 0, Value.int .u32 0, Value.int .u32 0, Value.int .u32 0] 71))
  have hTV : Aside0 ((WS.alloc (.cells #[Value.int .u32 0, Value.int .u32 0, Value.int .u32 0, Value.int .u32 0, Value.int .u32 0, Value.int .u32 0, Value.int .u32 0, Value.int .u32 0] 71)).there WS.heap.size 0 (h.list.map fun x : Nat => Value.int .u32 (x : Int)).toArray.size) := ⟨hzv.there⟩
  have hO8 := Aside0.mk (one_cells .u32 h.list)
  have hI8' : Aside0 ((Tryd.prog.info? 71).map (·.size) = some (h.list.map fun x : Nat => Value.int .u32 (x : Int)).toArray.size) := ⟨by rw [info71]; rfl⟩
  clear hzv
  obtain ⟨vh, hvh⟩ : ∃ vh, (h.list.map fun x : Nat => Value.int .u32 (x : Int)) = vh := ⟨_, rfl⟩
  rw [hvh] at hTV hO8 hI8' HV0 ⊢
  iterate 3 (try go_step)
  refine wpList_store_mid rfl 71 _ _ rfl WS.heap.size 0 _ rfl rfl hTV.out hI8'.out hO8.out ?_
  have hVS : WS.heap.size ≠ S := by have := HS0.out.lt; omega
  obtain ⟨WV, hWV⟩ : ∃ WV, (WS.alloc (.cells #[Value.int .u32 0, Value.int .u32 0, Value.int .u32 0, Value.int .u32 0, Value.int .u32 0, Value.int .u32 0, Value.int .u32 0, Value.int .u32 0] 71)).setCells WS.heap.size 0 vh = WV := ⟨_, rfl⟩
  have far8 : ∀ (vs : List Value) (o : Nat) (W : World), Arr .u32 w S ws W → Arr .u32 w S ws (W.setCells WS.heap.size o vs) := by
    intro vs
    induction vs with
    | nil => exact fun _ _ h => h
    | cons v vs ih => exact fun o W hW => ih _ _ (hW.far (p := ⟨WS.heap.size, o, none⟩) HS0.out.below.size hVS v)
  have HA : Aside0 (Add w WS.heap.size S h ws WV) := ⟨⟨by rw [← hWV]; exact HV0.out, by rw [← hWV]; exact far8 _ _ _ HSV.out, hVS⟩⟩
  simp only [List.toList_toArray, hWV]
  clear hWV far8 HV0 HSV hTV hO8 hI8' hI8 HHS
  generalize WS.heap.size = V at *
  have HGV := Aside0.mk (hG.out.below HA.out.v.below)
  have hIR : Aside0 ((Tryd.prog.info? 88).map (·.size) = some (cells .u32 rounds).length) := ⟨by rw [info88]; rfl⟩
  iterate 6 (try go_step)
  refine wpList_load_mid rfl 88 _ rfl 0 0 rfl _ _ HGV.out Tryd.underlying88 rfl hIR.out ?_
  clear HGV hIR
  have hIX := Aside0.mk (fun (k x : Nat) (hk : rounds[k]? = some x) => index_agg (P := Tryd.prog) 88 64 69 Tryd.underlying88 _ Tryd.underlying69 rfl size69 (cells .u32 rounds) k (.int .u32 (x : Int)) (by unfold cells; rw [List.getElem?_map, hk]; rfl) (by have := (List.getElem?_eq_some_iff.1 hk).1; rwa [rounds_len] at this))
  generalize (cells .u32 rounds).toArray = RV at *
  go_wp2
  go_loopw [19] (fun i wr => ∃ k : Nat, k ≤ 64 ∧ i = .int .i64 k ∧ Aside0 (Add w V S (runW h ws k) ws wr)) (fun i _ => 64 - (intOf i).toNat)
  case atStart => exact ⟨0, Nat.zero_le _, rfl, HA⟩
  case round =>
    clear HA HS0 HGS
    obtain ⟨k, hk, rfl, HA⟩ := hrel
    by_cases hlt : k < 64
    · obtain ⟨kk, hkk⟩ : ∃ kk, rounds[k]? = some kk := ⟨_, List.getElem?_eq_getElem (by rw [rounds_len]; exact hlt)⟩
      obtain ⟨x, hx⟩ : ∃ x, ws[k]? = some x := ⟨_, List.getElem?_eq_getElem (by omega)⟩
      have hwk := Aside0.mk hx
      have hix := hIX.out k kk hkk
      have lk : kk < 4294967296 := rounds_lt kk (List.mem_of_getElem? hkk)
      have lx : x < 4294967296 := by rw [← HWS.out] at hx; exact sched_lt l hb2.out 64 x (List.mem_of_getElem? hx)
      have hnext : Aside0 (runW h ws (k + 1) = stepW (runW h ws k) kk x) := ⟨by rw [runW, List.getD_eq_getElem?_getD, List.getD_eq_getElem?_getD, hkk, hx]; rfl⟩
      obtain ⟨la, lb, lc, ld, le, lf, lg, lh⟩ := runW_fit h ws hf k
      generalize runW h ws k = v at *
      have hkI : (k : Int) < 64 := by omega
      have ok : (0 : Int) ≤ (k : Int) := by omega
      clear hkk hx
      obtain ⟨va, vb, vc, vd, ve, vf, vg, vh2⟩ := v
      dsimp only at la lb lc ld le lf lg lh
      have M1 : Aside0 (∀ (A : Addr) (W : World), Kd.C (Kd.int .i64) W (some A) 3 [6, 11, 25] → Calls Tryd.prog 68 #[.int .u32 (ve : Nat), .slice (some A) 3 3] W fun e w' => e = .returned (.int .u32 ((mixOf ve [6, 11, 25] : Nat) : Int)) ∧ Drawn0 W w') := ⟨mixed_lit ve le [6, 11, 25] (by decide) (by decide)⟩
      have M2 : Aside0 (∀ (A : Addr) (W : World), Kd.C (Kd.int .i64) W (some A) 3 [2, 13, 22] → Calls Tryd.prog 68 #[.int .u32 (va : Nat), .slice (some A) 3 3] W fun e w' => e = .returned (.int .u32 ((mixOf va [2, 13, 22] : Nat) : Int)) ∧ Drawn0 W w') := ⟨mixed_lit va la [2, 13, 22] (by decide) (by decide)⟩
      have m1 := mixOf_lt ve le [6, 11, 25]
      have m2 := mixOf_lt va la [2, 13, 22]
      have hst : Aside0 (stepW ⟨va, vb, vc, vd, ve, vf, vg, vh2⟩ kk x = ⟨((((((vh2 + mixOf ve [6, 11, 25]) % 4294967296 + ((ve &&& vf) ^^^ ((4294967295 ^^^ ve) &&& vg))) % 4294967296 + kk) % 4294967296 + x) % 4294967296) + ((mixOf va [2, 13, 22] + ((va &&& vb ^^^ va &&& vc) ^^^ vb &&& vc)) % 4294967296)) % 4294967296, va, vb, vc, (vd + ((((vh2 + mixOf ve [6, 11, 25]) % 4294967296 + ((ve &&& vf) ^^^ ((4294967295 ^^^ ve) &&& vg))) % 4294967296 + kk) % 4294967296 + x) % 4294967296) % 4294967296, ve, vf, vg⟩) := ⟨rfl⟩
      generalize mixOf ve [6, 11, 25] = mx at *
      generalize mixOf va [2, 13, 22] = my at *
      have c1 := (bits_u32 ve vf le lf).2.2
      have c2 := (bits_u32 4294967295 ve (by decide) le).1
      have c2' : bits .xor .u32 IntKind.u32.max (ve : Int) = ((4294967295 ^^^ ve : Nat) : Int) := c2
      have l2 := xor_lt32 (show 4294967295 < 4294967296 by decide) le
      have l1 := @and_lt32 ve vf le
      generalize ve &&& vf = a1 at *
      generalize 4294967295 ^^^ ve = n1 at *
      have c3 := (bits_u32 n1 vg l2 lg).2.2
      have l3 := @and_lt32 n1 vg l2
      generalize n1 &&& vg = a2 at *
      have c4 := (bits_u32 a1 a2 l1 l3).1
      have l4 := xor_lt32 l1 l3
      generalize a1 ^^^ a2 = ch at *
      have d1 := (bits_u32 va vb la lb).2.2
      have d2 := (bits_u32 va vc la lc).2.2
      have d3 := (bits_u32 vb vc lb lc).2.2
      have k1 := @and_lt32 va vb la
      have k2 := @and_lt32 va vc la
      have k3 := @and_lt32 vb vc lb
      generalize va &&& vb = b1 at *
      generalize va &&& vc = b2 at *
      generalize vb &&& vc = b3 at *
      have d4 := (bits_u32 b1 b2 k1 k2).1
      have k4 := xor_lt32 k1 k2
      generalize b1 ^^^ b2 = b4 at *
      have d5 := (bits_u32 b4 b3 k4 k3).1
      have k5 := xor_lt32 k4 k3
      generalize b4 ^^^ b3 = mj at *
      obtain ⟨s1, p1, q1⟩ : ∃ t : Nat, IntKind.u32.wrap ((vh2 : Int) + (mx : Int)) = (t : Int) ∧ t = (vh2 + mx) % 4294967296 := ⟨_, by rw [IntKind.wrap_u32]; omega, rfl⟩
      rw [← q1] at hst
      obtain ⟨s2, p2, q2⟩ : ∃ t : Nat, IntKind.u32.wrap ((s1 : Int) + (ch : Int)) = (t : Int) ∧ t = (s1 + ch) % 4294967296 := ⟨_, by rw [IntKind.wrap_u32]; omega, rfl⟩
      rw [← q2] at hst
      obtain ⟨s3, p3, q3⟩ : ∃ t : Nat, IntKind.u32.wrap ((s2 : Int) + (kk : Int)) = (t : Int) ∧ t = (s2 + kk) % 4294967296 := ⟨_, by rw [IntKind.wrap_u32]; omega, rfl⟩
      rw [← q3] at hst
      obtain ⟨s4, p4, q4⟩ : ∃ t : Nat, IntKind.u32.wrap ((s3 : Int) + (x : Int)) = (t : Int) ∧ t = (s3 + x) % 4294967296 := ⟨_, by rw [IntKind.wrap_u32]; omega, rfl⟩
      rw [← q4] at hst
      obtain ⟨s5, p5, q5⟩ : ∃ t : Nat, IntKind.u32.wrap ((my : Int) + (mj : Int)) = (t : Int) ∧ t = (my + mj) % 4294967296 := ⟨_, by rw [IntKind.wrap_u32]; omega, rfl⟩
      rw [← q5] at hst
      obtain ⟨s6, p6, q6⟩ : ∃ t : Nat, IntKind.u32.wrap ((s4 : Int) + (s5 : Int)) = (t : Int) ∧ t = (s4 + s5) % 4294967296 := ⟨_, by rw [IntKind.wrap_u32]; omega, rfl⟩
      rw [← q6] at hst
      obtain ⟨s7, p7, q7⟩ : ∃ t : Nat, IntKind.u32.wrap ((vd : Int) + (s4 : Int)) = (t : Int) ∧ t = (vd + s4) % 4294967296 := ⟨_, by rw [IntKind.wrap_u32]; omega, rfl⟩
      rw [← q7] at hst
      clear q1 q2 q3 q4 q5 q6 q7 l1 l2 l3 l4 k1 k2 k3 k4 k5
      have hN : Aside0 (runW h ws (k + 1) = ⟨s6, va, vb, vc, s7, ve, vf, vg⟩) := ⟨hnext.out.trans hst.out⟩
      clear hnext hst
      have hall := Add.all HA.out hwk.out
      dsimp only at hall
      obtain ⟨hA0, _, _, _, _, _, _, _, _⟩ := hall
      go_wp2
      go_region_held3 (fun w' => Add w V S ⟨va, vb, vc, vd, ve, vf, vg, vh2⟩ ws w' ∧ w'.cell? ⟨V, 0, none⟩ = some (.int .u32 (va : Int)) ∧ w'.cell? ⟨V, 1, none⟩ = some (.int .u32 (vb : Int)) ∧ w'.cell? ⟨V, 2, none⟩ = some (.int .u32 (vc : Int)) ∧ w'.cell? ⟨V, 4, none⟩ = some (.int .u32 (ve : Int)) ∧ w'.cell? ⟨V, 5, none⟩ = some (.int .u32 (vf : Int)) ∧ w'.cell? ⟨V, 6, none⟩ = some (.int .u32 (vg : Int)) ∧ w'.cell? ⟨V, 7, none⟩ = some (.int .u32 (vh2 : Int)) ∧ w'.cell? ⟨S, k, none⟩ = some (.int .u32 (x : Int))) ((refine Add.all (v := ⟨va, vb, vc, vd, ve, vf, vg, vh2⟩) ?_ hwk.out; repeat (first | with_reducible assumption | with_reducible apply Add.drew | with_reducible apply Add.drewN | with_reducible apply Add.alloc))) (fail)
      go_wp2
      go_region_held3 (fun w' => Add w V S ⟨va, vb, vc, vd, ve, vf, vg, vh2⟩ ws w' ∧ w'.cell? ⟨V, 0, none⟩ = some (.int .u32 (va : Int)) ∧ w'.cell? ⟨V, 1, none⟩ = some (.int .u32 (vb : Int)) ∧ w'.cell? ⟨V, 2, none⟩ = some (.int .u32 (vc : Int)) ∧ w'.cell? ⟨V, 4, none⟩ = some (.int .u32 (ve : Int)) ∧ w'.cell? ⟨V, 5, none⟩ = some (.int .u32 (vf : Int)) ∧ w'.cell? ⟨V, 6, none⟩ = some (.int .u32 (vg : Int)) ∧ w'.cell? ⟨V, 7, none⟩ = some (.int .u32 (vh2 : Int)) ∧ w'.cell? ⟨S, k, none⟩ = some (.int .u32 (x : Int))) ((refine Add.all (v := ⟨va, vb, vc, vd, ve, vf, vg, vh2⟩) ?_ hwk.out; repeat (first | with_reducible assumption | with_reducible apply Add.drew | with_reducible apply Add.drewN | with_reducible apply Add.alloc))) ((go_at_call 68; with_reducible refine (M1.out _ _ ?_).mono ?_; (focus (refine kdc3 ?_ ?_ ?_ <;> (repeat (first | exact cellN_new (by simp) rfl | refine cellN_drewN ?_ | refine cellN_drew ?_ | refine cellN_old (by simp <;> omega) ?_)))); rintro e w' ⟨rfl, ⟨nn, rfl⟩⟩))
      go_wp2
      go_region_held3 (fun w' => Add w V S ⟨va, vb, vc, vd, ve, vf, vg, vh2⟩ ws w' ∧ w'.cell? ⟨V, 0, none⟩ = some (.int .u32 (va : Int)) ∧ w'.cell? ⟨V, 1, none⟩ = some (.int .u32 (vb : Int)) ∧ w'.cell? ⟨V, 2, none⟩ = some (.int .u32 (vc : Int)) ∧ w'.cell? ⟨V, 4, none⟩ = some (.int .u32 (ve : Int)) ∧ w'.cell? ⟨V, 5, none⟩ = some (.int .u32 (vf : Int)) ∧ w'.cell? ⟨V, 6, none⟩ = some (.int .u32 (vg : Int)) ∧ w'.cell? ⟨V, 7, none⟩ = some (.int .u32 (vh2 : Int)) ∧ w'.cell? ⟨S, k, none⟩ = some (.int .u32 (x : Int))) ((refine Add.all (v := ⟨va, vb, vc, vd, ve, vf, vg, vh2⟩) ?_ hwk.out; repeat (first | with_reducible assumption | with_reducible apply Add.drew | with_reducible apply Add.drewN | with_reducible apply Add.alloc))) ((go_at_call 68; with_reducible refine (M2.out _ _ ?_).mono ?_; (focus (refine kdc3 ?_ ?_ ?_ <;> (repeat (first | exact cellN_new (by simp) rfl | refine cellN_drewN ?_ | refine cellN_drew ?_ | refine cellN_old (by simp <;> omega) ?_)))); rintro e w' ⟨rfl, ⟨nn, rfl⟩⟩))
      refine (?key : ∀ WX, Add w V S ⟨va, vb, vc, vd, ve, vf, vg, vh2⟩ ws WX → _) _ ?inv
      case inv => repeat (first | with_reducible assumption | with_reducible apply Add.drew | with_reducible apply Add.drewN | with_reducible apply Add.alloc)
      case key =>
        intro WX hX
        have hr0 := copy_run hX
        have hr1 := copy_run hX.drew
        have hr2 := copy_run hX.drew.drew
        have hr3 := copy_run hX.drew.drew.drew
        clear hA0
        go_wp2
        go_region
        have hY := copy_arr hX.drew.v
        have hYS := far_cells (K := .u32) (S := S) (V := V) (xs := ws) hX.v.ge hX.ne (cells .u32 [va, vb, vc, vd, ve, vf, vg]) 1 _ hX.drew.s
        have hne := hX.ne
        have hge := hX.v.ge
        clear hr0 hr1 hr2 hr3 hX
        generalize WX.drew.setCells V 1 (cells .u32 [va, vb, vc, vd, ve, vf, vg]) = WY at *
        have y0 := hY.cell 0 _ rfl
        have y4 := hY.cell 4 _ rfl
        have f0 := hY.free 0 (by simp)
        have f4 := hY.free 4 (by simp)
        have hZ : Aside0 (Add w V S ⟨s6, va, vb, vc, s7, ve, vf, vg⟩ ws ((WY.setCell ⟨V, 0, none⟩ (.int .u32 (s6 : Nat))).setCell ⟨V, 4, none⟩ (.int .u32 (s7 : Nat)))) :=
          ⟨⟨(hY.set 0 s6 (by simp)).set 4 s7 (by simp), (hYS.far (p := ⟨V, 0, none⟩) hge hne _).far (p := ⟨V, 4, none⟩) hge hne _, hne⟩⟩
        clear hY hYS
        go_wp2
        refine ⟨⟨k + 1, by omega, by go_num, ⟨by rw [hN.out]; exact hZ.out⟩⟩, ?_⟩
        simp [intOf]
        omega
    · obtain rfl : k = 64 := by omega
      have hrun : Aside0 (blockF h l = addE h (runW h ws 64)) := ⟨by unfold blockF; rw [HWS.out]⟩
      have hHr := Aside0.mk (HH.out.grown HA.out.v.below)
      have hRV := Aside0.mk HA.out.v.range
      have hGB := Aside0.mk (Below.grownBy_ HA.out.v.below (some H))
      have hVH : V ≠ H := by have := HA.out.v.ge; have := HH.out.lt; omega
      generalize runW h ws 64 = v at *
      go_wp2
      go_loopw [82] (fun i wr => ∃ k : Nat, k ≤ 8 ∧ i = .int .i64 k ∧ Aside0 (Arr .u32 w0 H ((addE h v).list.take k ++ h.list.drop k) wr) ∧ Aside0 (wr.rangeAt V 0 (v.list.map fun x : Nat => Value.int .u32 (x : Int))) ∧ Aside0 (w.grownBy wr (some H))) (fun i _ => 8 - (intOf i).toNat)
      case atStart => exact ⟨0, Nat.zero_le _, rfl, hHr, hRV, hGB⟩
      case round =>
        clear HA hHr hRV hGB
        obtain ⟨k, hk, rfl, hHr, hRV, hGB⟩ := hrel
        by_cases hlt : k < 8
        · have hla : (addE h v).list.length = 8 := rfl
          have hlb : h.list.length = 8 := rfl
          have hlen : ((addE h v).list.take k ++ h.list.drop k).length = 8 := by rw [List.length_append, List.length_take, List.length_drop, hla, hlb]; omega
          obtain ⟨x, hx⟩ : ∃ x, h.list[k]? = some x := ⟨_, List.getElem?_eq_getElem (by omega)⟩
          obtain ⟨y, hy⟩ : ∃ y, v.list[k]? = some y := ⟨_, List.getElem?_eq_getElem (by show k < 8; omega)⟩
          have hxy : (addE h v).list[k]? = some ((x + y) % 4294967296) := by
            have e : (addE h v).list = List.zipWith (fun a b => (a + b) % 4294967296) h.list v.list := rfl
            rw [e, List.getElem?_zipWith, hx, hy]
          have hcx := hHr.out.cell k x (by rw [List.getElem?_append_right (by rw [List.length_take, hla]; omega), List.length_take, hla, List.getElem?_drop]; rw [show k + (k - min k 8) = k by omega]; exact hx)
          have hcy : wr.cell? ⟨V, k, none⟩ = some (.int .u32 (y : Int)) := by
            have := hRV.out k (.int .u32 (y : Int)) (by rw [List.getElem?_map, hy]; rfl)
            rwa [Nat.zero_add] at this
          have hfx := hHr.out.free k (by omega)
          obtain ⟨s, p1, q1⟩ : ∃ t : Nat, IntKind.u32.wrap ((x : Int) + (y : Int)) = (t : Int) ∧ t = (x + y) % 4294967296 := ⟨_, by rw [IntKind.wrap_u32]; omega, rfl⟩
          rw [← q1] at hxy
          have hnx : Aside0 (((addE h v).list.take k ++ h.list.drop k).set k s = (addE h v).list.take (k + 1) ++ h.list.drop (k + 1)) := ⟨by
            rw [List.set_append_right _ _ (by rw [List.length_take, hla]; omega), List.length_take, hla, show k - min k 8 = 0 by omega, List.drop_eq_getElem_cons (show k < h.list.length by omega), List.set_cons_zero,
              List.take_add_one, hxy]
            simp⟩
          have hst := Aside0.mk ((hHr.out.set k s (by omega)).drew)
          have hrv : Aside0 ((wr.setCell ⟨H, k, none⟩ (.int .u32 (s : Nat))).rangeAt V 0 (v.list.map fun x : Nat => Value.int .u32 (x : Int))) := ⟨fun j u hu => (World.cell?_setCell_far wr ⟨H, k, none⟩ ⟨V, 0 + j, none⟩ _ (Ne.symm hVH)).trans (hRV.out j u hu)⟩
          have hgb : Aside0 (w.grownBy (wr.setCell ⟨H, k, none⟩ (.int .u32 (s : Nat))) (some H)) := ⟨hGB.out.trans (grownBy_at wr H k _)⟩
          have hkI : (k : Int) < 8 := by omega
          have ok : (0 : Int) ≤ (k : Int) := by omega
          have hne1 : H ≠ V := Ne.symm hVH
          clear hx hy hxy q1 hla hlb hlen
          go_wp2
          go_region
          go_wp2
          refine ⟨⟨k + 1, by omega, by go_num, ⟨by rw [← hnx.out]; exact hst.out⟩, ⟨hrv.out⟩, ⟨⟨hgb.out.os, hgb.out.tape, hgb.out.output, hgb.out.size, hgb.out.block⟩⟩⟩, ?_⟩
          simp [intOf]
          omega
        · obtain rfl : k = 8 := by omega
          go_wp2
          go_end0
          refine ⟨rfl, ?_⟩
          rw [hrun.out]
          exact ⟨hHr.out, hGB.out⟩
end Go.Proofs.YtabjfogmcehemaaDoor
end

section
namespace Go.Proofs.YtabjfogmcehemaaDoor
open Go Go.ChangeShapes Go.WideShapes Go.ChangeAt Go.RowKit Go.Proofs.YtabjfogmcehemaaDoorW.PrintWords
set_option linter.unusedVariables false
set_option linter.unusedSimpArgs false
theorem own : ownKnob Tryd.prog.godebug = none := by kernel_rfl
def laidL : List (String × DataW Unit) := [("yardstick/digest.round", Rows.laid_yardstick_digest_round)]
abbrev doorSteps : Nat := 14
theorem laidOut : laidOutB Tryd.prog = true := by kernel_rfl
theorem gRound : Tryd.prog.globalNamed "yardstick/digest.round" = some 0 := by kernel_rfl
theorem tRound : (Tryd.prog.globals[0]?).map (·.type) = some 88 := by kernel_rfl
theorem door_met (os : Os) (args : Array Value) : laidMetH Tryd.prog laidL ((World.doorLaid Tryd.prog doorSteps os).forCall (fun _ _ => 0) ⟨#[], args, []⟩).memory :=
  laidMetH_of_parts3 (fuel := 8) (laidMet_of_run' 8 (by kernel_rfl) (by kernel_rfl)) (by kernel_rfl) (by kernel_rfl)
set_option maxRecDepth 100000 in
theorem of_laid {W : World} (h : laidMetH Tryd.prog laidL W) : Aside0 (Laid W) := by
  rw [MakeChecks.laidMetH_plain _ _ _ (by kernel_rfl)] at h
  have ht : Lib.TabIs Tryd.prog W "yardstick/digest.round" .u32 (rounds.map fun n : Nat => (n : Int)) :=
    Lib.tabIs_of_head gRound tRound Tryd.underlying88 Tryd.underlying69 (by kernel_rfl) (by kernel_rfl) (rest := []) h
  refine ⟨fun j v hj => ?_⟩
  have hlt : j < (rounds.map fun n : Nat => (n : Int)).length := by
    have := (List.getElem?_eq_some_iff.1 hj).1
    unfold cells at this
    rw [List.length_map] at this ⊢
    exact this
  have := ht.cell gRound j hlt
  rw [Nat.zero_add, this]
  unfold cells at hj
  rw [List.getElem?_map] at hj
  rw [List.length_map] at hlt
  have hx : rounds[j]? = some rounds[j] := List.getElem?_eq_getElem hlt
  rw [hx] at hj
  rw [← Option.some.inj hj, List.getD_eq_getElem?_getD, List.getElem?_map, hx]
  rfl
end Go.Proofs.YtabjfogmcehemaaDoor
end

section
namespace Go.Proofs.YtabjfogmcehemaaDoor
open Go.RowKit Go.Proofs.YtabjfogmcehemaaDoorW.PrintWords Go.Proofs.YtabjfogmcehemaaDoorW.PrintLast Go.Proofs.YtabjfogmcehemaaDoorW.PrintMore
attribute [local go_sem] max2_int min2_int max_two min_two max_three min_three max_four min_four
attribute [local go_sem ↓] Go.wp_at_zero Go.wp_at_succ
set_option linter.unusedVariables false
set_option linter.unusedSimpArgs false
def outB (v : Eight) : List Nat := v.list.flatMap fun x => [x / 16777216 % 256, x / 65536 % 256, x / 256 % 256, x % 256]
theorem outB_len (v : Eight) : (outB v).length = 32 := rfl
theorem outB_at (v : Eight) (i k x : Nat) (hi : i < 8) (hk : k < 4) (hx : v.list[i]? = some x) : (outB v)[4 * i + k]? = some (x / 2 ^ (24 - 8 * k) % 256) := by
  have h8 : i = 0 ∨ i = 1 ∨ i = 2 ∨ i = 3 ∨ i = 4 ∨ i = 5 ∨ i = 6 ∨ i = 7 := by omega
  have h4 : k = 0 ∨ k = 1 ∨ k = 2 ∨ k = 3 := by omega
  rcases h8 with rfl | rfl | rfl | rfl | rfl | rfl | rfl | rfl <;> rcases h4 with rfl | rfl | rfl | rfl <;> (cases hx; simp [outB, Eight.list])
def part32 (l : List Nat) (m : Nat) : List Nat := l.take m ++ List.replicate (32 - m) 0
theorem part32_len (l : List Nat) (hl : l.length = 32) (m : Nat) (h : m ≤ 32) : (part32 l m).length = 32 := by
  unfold part32; rw [List.length_append, List.length_take, List.length_replicate]; omega
theorem part32_set (l : List Nat) (hl : l.length = 32) (m v : Nat) (h : m < 32) (hv : l[m]? = some v) : (part32 l m).set m v = part32 l (m + 1) := by
  unfold part32
  rw [show 32 - m = (32 - (m + 1)) + 1 by omega, List.replicate_succ, List.set_append_right _ _ (by rw [List.length_take]; omega), List.length_take, show m - min m l.length = 0 by omega, List.set_cons_zero, List.take_add_one, hv]
  simp
set_option maxRecDepth 100000 in
set_option maxHeartbeats 8000000 in
theorem digest_any (v : Eight) (hf : v.Fit) (w : World) :
    Calls Tryd.prog 56 #[.agg (cells .u32 v.list).toArray] w fun e w' => e = .returned (.string (strOfNums ((outB v).map fun x : Nat => (x : Int)))) ∧ Below w.heap.size w w' := by
  have hI8 : Aside0 ((Tryd.prog.info? 71).map (·.size) = some (cells .u32 v.list).length) := ⟨by rw [info71]; rfl⟩
  have hR := Aside0.mk (Arr.new (K := .u32) (xs := v.list) (Below.refl _ w) 71)
  have hIX := Aside0.mk (fun (k x : Nat) (hk : v.list[k]? = some x) => index_agg (P := Tryd.prog) 71 8 69 Tryd.underlying71 _ Tryd.underlying69 rfl size69 (cells .u32 v.list) k (.int .u32 (x : Int)) (by unfold cells; rw [List.getElem?_map, hk]; rfl) (by exact (List.getElem?_eq_some_iff.1 hk).1))
  have hlist : ∀ k, k < 8 → ∃ x, v.list[k]? = some x ∧ x < 4294967296 := by
    intro k hk
    obtain ⟨h1, h2, h3, h4, h5, h6, h7, h8⟩ := hf
    have h8' : k = 0 ∨ k = 1 ∨ k = 2 ∨ k = 3 ∨ k = 4 ∨ k = 5 ∨ k = 6 ∨ k = 7 := by omega
    rcases h8' with rfl | rfl | rfl | rfl | rfl | rfl | rfl | rfl <;> exact ⟨_, rfl, by assumption⟩
  have HL := Aside0.mk hlist
  clear hlist hf
  have hcl : (cells .u32 v.list).toArray.size = 8 := rfl
  obtain ⟨RV, hRV⟩ : ∃ RV, (cells .u32 v.list).toArray = RV := ⟨_, rfl⟩
  have hR' := hR.out.range
  have hRb := hR.out.below
  change (w.alloc (.cells (cells .u32 v.list).toArray 71)).rangeAt w.heap.size 0 (cells .u32 v.list) at hR'
  change Below w.heap.size w (w.alloc (.cells (cells .u32 v.list).toArray 71)) at hRb
  rw [hRV] at hcl hR' hIX hRb ⊢
  have HRV := Aside0.mk hRV
  have HR' := Aside0.mk hR'
  have HRb := Aside0.mk hRb
  clear hRV hR' hR hRb
  go_enter Tryd.func56, Tryd.ntmps56
  go_upto_region 2 with (fail)
  have hO := Arr.new (K := .u8) (xs := List.replicate 32 0) HRb.out 91
  rw [World.size_alloc] at hO
  have hA : Aside0 (Arr .u8 w (w.heap.size + 1) (part32 (outB v) 0) ((w.alloc (Obj.cells RV 71)).alloc (Obj.cells ((List.replicate 32 0).map fun x : Nat => Value.int .u8 (x : Int)).toArray 91))) := ⟨hO⟩
  simp only [List.replicate_succ, List.replicate_zero, List.map_cons, List.map_nil, Int.cast_ofNat_Int] at hA
  clear hO
  apply wp_region_lit
  refine wpList_load_mid rfl 71 _ rfl w.heap.size 0 rfl (cells .u32 v.list) _ (fun j u hu => cellN_old (by simp) (HR'.out j u hu)) Tryd.underlying71 rfl hI8.out ?_
  rw [HRV.out]
  go_wp2
  go_loopw [8] (fun i wr => ∃ k : Nat, k ≤ 8 ∧ i = .int .i64 k ∧ Aside0 (Arr .u8 w (w.heap.size + 1) (part32 (outB v) (4 * k)) wr)) (fun i _ => 8 - (intOf i).toNat)
  case atStart => exact ⟨0, Nat.zero_le _, rfl, hA⟩
  case round =>
    clear hA
    obtain ⟨i, hi, rfl, hA⟩ := hrel
    by_cases hlt : i < 8
    · obtain ⟨x, hx, lx⟩ := HL.out i hlt
      have hix := hIX.out i x hx
      have hX := Aside0.mk hx
      clear hx
      have hiI : (i : Int) < 8 := by omega
      have oi : (0 : Int) ≤ (i : Int) := by omega
      go_wp2
      go_loopw [12] (fun i' wr => ∃ k : Nat, k ≤ 4 ∧ i' = .int .i64 k ∧ Aside0 (Arr .u8 w (w.heap.size + 1) (part32 (outB v) (4 * i + k)) wr)) (fun i' _ => 4 - (intOf i').toNat)
      case atStart => exact ⟨0, Nat.zero_le _, rfl, hA⟩
      case round =>
        rename_i wr0
        clear hA
        obtain ⟨k, hk, rfl, hA⟩ := hrel
        by_cases hlk : k < 4
        · have hset := part32_set (outB v) (outB_len v) (4 * i + k) _ (by omega) (outB_at v i k x hlt hlk hX.out)
          have hn := Aside0.mk (hA.out.set (4 * i + k) (x / 2 ^ (24 - 8 * k) % 256) (by rw [part32_len _ (outB_len v) _ (by omega)]; omega))
          rw [hset] at hn
          obtain ⟨u, hu⟩ : ∃ u, wr.cell? ⟨w.heap.size + 1, 4 * i + k, none⟩ = some u := ⟨_, hA.out.cell _ _ (List.getElem?_eq_getElem (by rw [part32_len _ (outB_len v) _ (by omega)]; omega))⟩
          have hf := hA.out.free (4 * i + k) (by rw [part32_len _ (outB_len v) _ (by omega)]; omega)
          clear hset
          obtain ⟨j, ej, fj⟩ : ∃ j : Nat, 4 * (i : Int) + (k : Int) = (j : Int) ∧ j = 4 * i + k := ⟨_, by omega, rfl⟩
          obtain ⟨j0, e0, f0⟩ : ∃ j : Nat, 4 * (i : Int) = (j : Int) ∧ j = 4 * i := ⟨_, by omega, rfl⟩
          rw [← fj] at hu hf
          have ej' : (j0 : Int) + (k : Int) = (j : Int) := by omega
          have lj : j < 32 := by omega
          have ljI : (j : Int) < 32 := by omega
          have oj : (0 : Int) ≤ (j : Int) := by omega
          have hk4 : k = 0 ∨ k = 1 ∨ k = 2 ∨ k = 3 := by omega
          clear ej f0
          rw [← fj] at hn
          have FJ : Aside0 (j + 1 = 4 * i + k + 1) := ⟨by omega⟩
          clear fj
          have lx16 : x / 16777216 < 256 := by omega
          rcases hk4 with rfl | rfl | rfl | rfl
          · obtain ⟨b, hb, hb'⟩ : ∃ b : Nat, (x : Int) / 16777216 = (b : Int) ∧ b = x / 16777216 % 256 := ⟨x / 16777216, by simp, by omega⟩
            have e2 : x / 2 ^ (24 - 8 * 0) % 256 = b := by rw [hb']
            rw [e2] at hn
            clear e2 hb'
            obtain rfl : j = j0 := by omega
            have hbw : IntKind.u8.wrap (b : Int) = (b : Int) := by rw [← hb]; simp only [IntKind.wrap, IntKind.bits, IntKind.signed]; simp; omega
            clear ej'
            go_wp2
            refine ⟨⟨1, by omega, by go_num, ⟨by have h' := hn.out; rw [FJ.out] at h'; exact h'⟩⟩, ?_⟩
            simp [intOf]
          · obtain ⟨b, hb, hb'⟩ : ∃ b : Nat, IntKind.u8.wrap ((x : Int) / 65536) = (b : Int) ∧ b = x / 65536 % 256 := ⟨_, by simp only [IntKind.wrap, IntKind.bits, IntKind.signed]; simp, rfl⟩
            have e2 : x / 2 ^ (24 - 8 * 1) % 256 = b := by rw [hb']
            rw [e2] at hn
            clear e2 hb'
            have ej2 : (j0 : Int) + 1 = (j : Int) := by omega
            clear ej'
            go_wp2
            refine ⟨⟨2, by omega, by go_num, ⟨by have h' := hn.out; rw [FJ.out] at h'; exact h'⟩⟩, ?_⟩
            simp [intOf]
          · obtain ⟨b, hb, hb'⟩ : ∃ b : Nat, IntKind.u8.wrap ((x : Int) / 256) = (b : Int) ∧ b = x / 256 % 256 := ⟨_, by simp only [IntKind.wrap, IntKind.bits, IntKind.signed]; simp, rfl⟩
            have e2 : x / 2 ^ (24 - 8 * 2) % 256 = b := by rw [hb']
            rw [e2] at hn
            clear e2 hb'
            have ej2 : (j0 : Int) + 2 = (j : Int) := by omega
            clear ej'
            go_wp2
            refine ⟨⟨3, by omega, by go_num, ⟨by have h' := hn.out; rw [FJ.out] at h'; exact h'⟩⟩, ?_⟩
            simp [intOf]
          · obtain ⟨b, hb, hb'⟩ : ∃ b : Nat, IntKind.u8.wrap (x : Int) = (b : Int) ∧ b = x % 256 := ⟨_, by simp only [IntKind.wrap, IntKind.bits, IntKind.signed]; simp, rfl⟩
            have e2 : x / 2 ^ (24 - 8 * 3) % 256 = b := by rw [hb']; simp
            rw [e2] at hn
            clear e2 hb'
            have ej2 : (j0 : Int) + 3 = (j : Int) := by omega
            clear ej'
            go_wp2
            refine ⟨⟨4, by omega, by go_num, ⟨by have h' := hn.out; rw [FJ.out] at h'; exact h'⟩⟩, ?_⟩
            simp [intOf]
        · obtain rfl : k = 4 := by omega
          go_wp2
          first
            | (refine ⟨⟨i + 1, by omega, by go_num, ⟨hA.out⟩⟩, ?_⟩; simp [intOf]; omega)
            | (refine ⟨?_, ?_⟩; focus ((repeat apply Exists.intro); refine ⟨?_, rfl⟩; exact ⟨i + 1, by omega, by go_num, ⟨hA.out⟩⟩); (simp [intOf]; omega))
    · obtain rfl : i = 8 := by omega
      have hfull : part32 (outB v) (4 * 8) = outB v := by unfold part32; rw [List.take_of_length_le (by rw [outB_len]; decide)]; simp
      rw [hfull] at hA
      have hcv : (convert 46 9 (.slice (some ⟨w.heap.size + 1, 0, none⟩) 32 32)).run Tryd.prog wr = .ok (.string (strOfNums ((outB v).map fun x : Nat => (x : Int)))) wr := by
        refine run_convert_bytes_arg (P := Tryd.prog) (w := wr) 46 5 Tryd.underlying46 Tryd.underlying5 (w.heap.size + 1) 0 32 32 ((outB v).map fun x : Nat => (x : Int)) (by rw [List.length_map, outB_len]) (fun j hj => ?_) 9 Tryd.underlying9
        have hj' : j < (outB v).length := hj
        have := hA.out.cell j (outB v)[j] (List.getElem?_eq_getElem hj')
        rw [Nat.zero_add, List.getD_eq_getElem?_getD, List.getElem?_map, List.getElem?_eq_getElem hj']
        exact this
      generalize hstr : strOfNums ((outB v).map fun x : Nat => (x : Int)) = r at hcv
      have HSTR := Aside0.mk hstr
      clear hstr hfull
      go_wp2
      go_ret
      exact ⟨by rw [HSTR.out]; rfl, hA.out.below⟩
end Go.Proofs.YtabjfogmcehemaaDoor
end

section
namespace Go.Proofs.YtabjfogmcehemaaDoor
open Go Go.RowKit
set_option linter.unusedVariables false
set_option linter.unusedSimpArgs false
variable {F : Fence} {n : Nat} {P : Program}
def AbidesW {β : Type} (Wr : Nat → Prop) (J : β → World → Prop) : Prop :=
  ∀ s A B row, J s A → A.grownBy B row → (∀ r, row = some r → Wr r) → J s B
def GivesFix {α : Type} (F : Fence) (n : Nat) (P : Program) (g : Nat) (lb : Array Value) (encs : α → Array Value) (xs : List α) (Wr : Nat → Prop) (Kp : World → World → Prop) (w : World) : Prop :=
  ∀ (l : Nat) (J : List α → World → Prop) (W : World), Below w.heap.size w W → AbidesW Wr J →
    (∀ pre x W1, J pre W1 → pre ++ [x] <+: xs → YieldAt F (n - 1) P l (encs x) W1 fun e W' => e = .returned (.bool true) ∧ J (pre ++ [x]) W' ∧ Kp W1 W') →
    J [] W →
    CallsIn F n P g (#[.func (.yield l) #[] #[]] ++ lb) W fun e W' => (∃ v, e = .returned v) ∧ J xs W'
def fixPost {α : Type} (B : Nat) (Kp : World → World → Prop) (I : List α → World → Prop) (xs : List α) (W : World) : Exit → Act → World → Prop
  | .normal, _, W' => KeepsFrom B W W' ∧ Kp W W' ∧ I xs W'
  | _, _, _ => False
def OwnW {β : Type} (B : Nat) (Wr : Nat → Prop) (I : β → World → Prop) : Prop :=
  ∀ s A W' row, I s A → A.grownBy W' row → (∀ r, row = some r → (B ≤ r ∧ ∃ o : Obj, A.heap[r]? = some o ∧ o.isCells = false) ∨ Wr r) → I s W'
theorem OwnW.putObj {β : Type} {B : Nat} {Wr : Nat → Prop} {I : β → World → Prop} (h : OwnW B Wr I) {s : β} {W : World} {l : Nat} {o : Obj} (o' : Obj) (hs : I s W) (hB : B ≤ l) (hl : W.heap[l]? = some o) (ho : o.isCells = false) : I s (W.putObj l o') :=
  h s W _ (some l) hs (grownBy_putObj' W l o') (fun r e => by cases e; exact .inl ⟨hB, o, hl, ho⟩)
theorem OwnW.alloc {β : Type} {B : Nat} {Wr : Nat → Prop} {I : β → World → Prop} (h : OwnW B Wr I) {s : β} {W : World} (o : Obj) (hs : I s W) : I s (W.alloc o) :=
  h s W _ none hs (World.grownBy_alloc W o none) (fun r e => by cases e)
theorem wpIn_rangeFunc_fix {α : Type} {g : Operand} {ps : Array Tmp} {assign body : Code} {Q : Exit → Act → World → Prop} {a : Act} {w : World}
    (hro : F.round = none) (h1 : 1 ≤ n) {gf : Nat} {lb : Array Value} (hg : a.eval g = .func (.func gf) #[] lb) (hFg : F.fn gf) (eg : ∀ args w, (callFunc gf args).run P w = .ok (.enter gf args) w)
    {encs : α → Array Value} {Kp : World → World → Prop} {xs : List α} {Wr : Nat → Prop} {w0 : World} (hseq : GivesFix F (n - 1) P gf lb encs xs Wr Kp w0)
    (hWr : ∀ r, Wr r → r < w.heap.size)
    (hKt : ∀ {A B C : World}, Kp A B → Kp B C → Kp A C) (hKb : ∀ (W : World) (l : Nat) (o' : Obj), w.heap.size ≤ l → Kp W (W.putObj l o')) (hb0 : Below w0.heap.size w0 w) (hps : ∀ x, (encs x).size = ps.size)
    (I : List α → World → Prop) (hI : OwnW w.heap.size Wr I) (h0 : I [] w) (a₁ : α → Act)
    (hassign : ∀ (l : Nat) (x : α) (W : World) (K : Act → World → Prop), K (a₁ x) W →
      assign.wpIn (F.inRound l) (n - 1 - 1) P (Exit.then K (fun _ _ _ => False)) { tmps := (ps.zip (encs x)).foldl (fun t (p, v) => t.setIfInBounds p v) a.tmps, defers := [] } W)
    (hbody : ∀ (l : Nat) (pre : List α) (x : α) (W : World), I pre W → pre ++ [x] <+: xs → body.wpIn (F.inRound l) (n - 1 - 1) P (fixPost w.heap.size Kp I (pre ++ [x]) W) (a₁ x) W)
    (hdone : ∀ (D : Nat) (W : World), w.heap.size ≤ D → I xs W → W.heap[D]? = some (.deferred (some [])) → Q .normal { a with defers := { target := .collected D, args := #[] } :: a.defers } W) :
    (Code.rangeFunc g ps assign body).wpIn F n P Q a w := by
  refine wpIn_rangeFunc ?_
  intro fn hfn
  rw [hro]
  obtain ⟨rec, hrec⟩ : ∃ rec : LoopState → Option Code → Loop, rec = fun st pe => { state := st, pending := pe, fn, tmps := a.tmps, params := ps, assign, body, defers := w.heap.size } := ⟨_, rfl⟩
  obtain ⟨W1, hW1⟩ : ∃ W1, (w.alloc (.deferred (some []))).alloc (.loop (rec .ready none)) = W1 := ⟨_, rfl⟩
  have hL1 : W1.heap[w.heap.size + 1]? = some (.loop (rec .ready none)) := by
    rw [← hW1]; have := World.alloc_heap_new (w.alloc (.deferred (some []))) (.loop (rec .ready none)); rwa [World.size_alloc] at this
  have hK1 : W1.heap[w.heap.size]? = some (.deferred (some [])) := by
    rw [← hW1]; exact (Below.heap_alloc _ _ _ (by simp)).trans (World.alloc_heap_new w _)
  have hI1 : I [] W1 := by rw [← hW1]; exact hI.alloc _ (hI.alloc _ h0)
  have hb1 : Below w0.heap.size w0 W1 := by
    rw [← hW1]; exact hb0.trans ((((Below.refl _ w).alloc (Nat.le_refl _) _).alloc (by simp) _).mono hb0.size)
  refine ⟨w.heap.size + 1, [{ target := .collected w.heap.size, args := #[] }], W1, { target := .fn (.func gf) lb, args := #[.func (.yield (w.heap.size + 1)) #[] #[]] }, W1, gf,
    #[.func (.yield (w.heap.size + 1)) #[] #[]] ++ lb, W1, ?_, ?_, ?_, ?_, fun _ => h1, ?_⟩
  · rw [← hW1, hrec]; exact run_enterLoop_outer _ _ _ _ _
  · simp only [resolve, hg]
    simp [go_sem]
  · intro f' hf'; simp [Target.leads] at hf'; subst hf'; exact hFg
  · simp [invoke, go_sem, eg]
  · have keep : ∀ {A B : World} {row : Option Nat}, A.grownBy B row → (∀ r, row = some r → Wr r) → ∀ {k : Nat} {o : Obj}, w.heap.size ≤ k → A.heap[k]? = some o → B.heap[k]? = some o := by
      intro A B row hg' hr k o hk ho
      exact (hg'.block k (Array.getElem?_eq_some_iff.1 ho).1 (fun e => by have := hWr k (hr k e.symm); omega)).trans ho
    refine (hseq (w.heap.size + 1)
      (fun pre W => I pre W ∧ W.heap[w.heap.size + 1]? = some (.loop (rec .ready none)) ∧ W.heap[w.heap.size]? = some (.deferred (some [])))
      W1 hb1
      (fun s A B row hs hg' hr => ⟨hI s A B row hs.1 hg' (fun r e => .inr (hr r e)), keep hg' hr (by omega) hs.2.1, keep hg' hr (Nat.le_refl _) hs.2.2⟩)
      ?_ ⟨hI1, hL1, hK1⟩).mono ?_
    · rintro pre x W ⟨hi, hl, hk⟩ hlen
      have hlt : w.heap.size + 1 < W.heap.size := (Array.getElem?_eq_some_iff.1 hl).1
      have hy := run_yield (P := P) (args := encs x) hl (by rw [hrec]; exact hps x)
      rw [hrec] at hy
      refine ⟨fn, _, assign, body, hy, roundIn_of_wpIn hfn (hassign _ x W _ ⟨_, run_beginRound hl (by rw [hrec]), ?_⟩)⟩
      have hl2 : (W.putObj (w.heap.size + 1) (.loop { rec .ready none with state := .busy })).heap[w.heap.size + 1]? = some (.loop { rec .ready none with state := .busy }) := World.putObj_heap_same hlt
      have hk2 : (W.putObj (w.heap.size + 1) (.loop { rec .ready none with state := .busy })).heap[w.heap.size]? = some (.deferred (some [])) := (World.putObj_heap_other (by omega)).trans hk
      have hw2 : Kp W (W.putObj (w.heap.size + 1) (.loop { rec .ready none with state := .busy })) := hKb _ _ _ (by omega)
      refine wpIn_mono (hbody _ pre x _ (hI.putObj _ hi (by omega) hl rfl) hlen) ?_
      rintro e a3 W3 hp
      cases e with
      | normal =>
        obtain ⟨hk3, hkp3, hi3⟩ := hp
        have hl3 := hk3.same _ _ (by omega) hl2 rfl
        have hr := run_endRound (P := P) none hl3
        rw [hrec] at hr
        have hl4 : (W3.putObj (w.heap.size + 1) (.loop (rec .ready none))).heap[w.heap.size + 1]? = some (.loop (rec .ready none)) := World.putObj_heap_same (Array.getElem?_eq_some_iff.1 hl3).1
        have hk4 : (W3.putObj (w.heap.size + 1) (.loop (rec .ready none))).heap[w.heap.size]? = some (.deferred (some [])) := (World.putObj_heap_other (by omega)).trans (hk3.same _ _ (Nat.le_refl _) hk2 rfl)
        refine ⟨_, _, hr, rfl, ⟨?_, ?_, ?_⟩, hKt (hKt hw2 hkp3) (hKb _ _ _ (by omega))⟩
        · exact hI.putObj _ hi3 (by omega) hl3 rfl
        · rw [hrec] at hl4 ⊢; exact hl4
        · rw [hrec] at hk4; exact hk4
      | _ => exact hp.elim
    · rintro e W2 ⟨⟨v, rfl⟩, hi, hl, hk⟩
      exact ⟨none, _, by have := run_endLoop (P := P) hl (by rw [hrec]; simp); rw [hrec] at this; exact this, hdone _ _ (Nat.le_refl _) (hI.putObj _ hi (by omega) hl rfl) ((World.putObj_heap_other (by omega)).trans hk)⟩
end Go.Proofs.YtabjfogmcehemaaDoor
end

section
namespace Go.Proofs.YtabjfogmcehemaaDoor
open Go.RowKit Go.Proofs.YtabjfogmcehemaaDoorW.PrintWords Go.Proofs.YtabjfogmcehemaaDoorW.PrintLast Go.Proofs.YtabjfogmcehemaaDoorW.PrintMore
set_option linter.unusedVariables false
set_option linter.unusedSimpArgs false
attribute [local go_sem] Oper.semAt_some
attribute [local go_sem] max2_int min2_int max_two min_two
theorem cell_box {B : Nat} {w : World} {v : Value} {t : TypeId} (h : w.heap[B]? = some (.cells #[v] t (0, 0))) : w.cell? ⟨B, 0, none⟩ = some v ∧ w.frozen? ⟨B, 0, none⟩ = false := by
  unfold World.cell? World.frozen?
  simp [h]
set_option maxRecDepth 100000 in
set_option maxHeartbeats 4000000 in
theorem chunk_gives (F : Fence) (n : Nat) (h66 : F.fn 66) (hro : F.round = none) (hn : 1 ≤ n) (S1 S2 R m c : Nat) (hm : 64 * m ≤ 140737488355328) (hc : 64 * m ≤ c) (w : World)
    (hS1 : w.heap[S1]? = some (.cells #[.slice (some ⟨R, 0, none⟩) (64 * m) c] 46 (0, 0))) (hS2 : w.heap[S2]? = some (.cells #[.int .i64 64] 3 (0, 0))) :
    GivesFix F n Tryd.prog 66 #[.pointer (some ⟨S1, 0, none⟩), .pointer (some ⟨S2, 0, none⟩)] (fun k : Nat => #[.slice (some ⟨R, 64 * k, none⟩) 64 64]) (List.range m) (fun _ => False)
      (fun W W' => W'.heap[S1]? = W.heap[S1]? ∧ W'.heap[S2]? = W.heap[S2]?) w := by
  intro l J W hW hJ hY h0
  have h1 := (hW.block S1 (Array.getElem?_eq_some_iff.1 hS1).1).trans hS1
  have h2 := (hW.block S2 (Array.getElem?_eq_some_iff.1 hS2).1).trans hS2
  clear hS1 hS2 hW
  refine callsIn_of_wp Tryd.func66 rfl h66 ?_ hro
  simp only [Tryd.ntmps66, List.size_toArray, List.length_cons, List.length_nil, Nat.reduceAdd, Nat.reduceSub, Array.replicate_succ, Array.replicate_zero, List.push_toArray, List.append_toArray, List.nil_append, List.cons_append]
  gi_wp2
  gi_loopw [4] (fun i wr => ∃ k : Nat, k ≤ m ∧ i = .int .i64 ((64 * k : Nat) : Int) ∧ J (List.range k) wr ∧ wr.heap[S1]? = some (.cells #[.slice (some ⟨R, 0, none⟩) (64 * m) c] 46 (0, 0)) ∧ wr.heap[S2]? = some (.cells #[.int .i64 64] 3 (0, 0)))
    (fun i _ => 64 * m - (intOf i).toNat)
  case atStart => exact ⟨0, Nat.zero_le _, rfl, h0, h1, h2⟩
  case round =>
    obtain ⟨k, hk, rfl, hJs, hb1, hb2⟩ := hrel
    obtain ⟨c1, f1⟩ := cell_box hb1
    obtain ⟨c2, f2⟩ := cell_box hb2
    by_cases hlt : k < m
    · obtain ⟨p, hp⟩ : ∃ p : Nat, 64 * k = p := ⟨_, rfl⟩
      obtain ⟨q, hq⟩ : ∃ q : Nat, 64 * m = q := ⟨_, rfl⟩
      have hpq : p + 64 ≤ q := by omega
      rw [hq] at c1 hm hc hb1
      have HP := Aside0.mk (And.intro hp hq)
      rw [hp]
      clear hp hq
      have hpi : (p : Int) + 64 ≤ (q : Int) := by omega
      have hpq0 : p ≤ q := by omega
      have hpc : p ≤ c := by omega
      have hx : ¬ (((q - p : Nat) : Int) < 64) := by omega
      have hcp : c ≠ p := by omega
      have hpi64 : (p : Int) + 64 ≤ (c : Int) := by omega
      have hJd : J (List.range k) wr.drew := hJ _ wr wr.drew none hJs ⟨rfl, rfl, rfl, Nat.le_refl _, fun _ _ _ => rfl⟩ (fun r e => by cases e)
      have hpre : List.range k ++ [k] <+: List.range m := by
        rw [← List.range_succ, List.prefix_iff_eq_take, List.length_range, List.take_range, Nat.min_eq_left (by omega)]
      obtain ⟨fn, tmps, assign, body, hy, hR⟩ := hY (List.range k) k wr.drew hJd hpre
      rw [HP.out.1] at hy
      have HJ := Aside0.mk hJ
      clear hY hJ hJs hJd h0 hpre
      gi_wp2
      gi_region
      all_goals
        gi_wp2
        refine hR.mono ?_
        rintro e W' ⟨rfl, hJ', hk1, hk2⟩
        have g1 : W'.heap[S1]? = some (.cells #[.slice (some ⟨R, 0, none⟩) (64 * m) c] 46 (0, 0)) := by rw [HP.out.2]; exact hk1.trans hb1
        have g2 : W'.heap[S2]? = some (.cells #[.int .i64 64] 3 (0, 0)) := hk2.trans hb2
        obtain ⟨c1', f1'⟩ := cell_box g1
        obtain ⟨c2', f2'⟩ := cell_box g2
        have GG := Aside0.mk (And.intro hJ' (And.intro g1 g2))
        clear g1 g2 hJ' hk1 hk2 c1 f1 c2 f2 c1' f1' hb1 hb2 hR hy
        gi_wp2
        have hp64 : p + 64 = 64 * (k + 1) := by have := HP.out.1; omega
        refine ⟨?_, ?_⟩
        · first
            | exact ⟨k + 1, by omega, by rw [← hp64]; rfl, by rw [List.range_succ]; exact GG.out.1, GG.out.2.1, GG.out.2.2⟩
            | ((repeat apply Exists.intro); refine ⟨?_, rfl⟩; exact ⟨k + 1, by omega, by rw [← hp64]; rfl, by rw [List.range_succ]; exact GG.out.1, GG.out.2.1, GG.out.2.2⟩)
        · simp [intOf]
          have := HP.out
          omega
    · obtain rfl : k = m := by omega
      gi_wp2
      refine ⟨rfl, .tuple #[], by simp [results, Tryd.results66, go_sem], ⟨_, rfl⟩, hJs⟩
end Go.Proofs.YtabjfogmcehemaaDoor
end

section
namespace Go.Proofs.YtabjfogmcehemaaDoor
open Go.RowKit Go.Proofs.YtabjfogmcehemaaDoorW.PrintWords Go.Proofs.YtabjfogmcehemaaDoorW.PrintLast Go.Proofs.YtabjfogmcehemaaDoorW.PrintMore
set_option linter.unusedVariables false
set_option linter.unusedSimpArgs false
structure BRow (w : World) (B c : Nat) (xs : List Nat) (W : World) : Prop where
  below : Below w.heap.size w W
  ge : w.heap.size ≤ B
  lt : B < W.heap.size
  le : xs.length ≤ c
  max : c ≤ maxLen
  cell : ∀ j x, xs[j]? = some x → W.cell? ⟨B, j, none⟩ = some (.int .u8 (x : Nat))
  there : ∀ j, j < c → (W.cell? ⟨B, j, none⟩).isSome = true ∧ W.frozen? ⟨B, j, none⟩ = false
variable {w W : World} {B c : Nat} {xs : List Nat}
theorem BRow.drewN (h : BRow w B c xs W) (n : Nat) : BRow w B c xs (W.drewN n) := ⟨pw_below_drewN h.below n, h.ge, h.lt, h.le, h.max, h.cell, h.there⟩
theorem BRow.drew (h : BRow w B c xs W) : BRow w B c xs W.drew := h.drewN 1
theorem BRow.alloc (h : BRow w B c xs W) (o : Obj) : BRow w B c xs (W.alloc o) where
  below := h.below.alloc h.below.size o
  ge := h.ge
  lt := by rw [World.size_alloc]; exact Nat.lt_succ_of_lt h.lt
  le := h.le
  max := h.max
  cell := fun j x hx => (World.cell?_of_block (a := ⟨B, j, none⟩) (Below.heap_alloc W o B h.lt)).trans (h.cell j x hx)
  there := fun j hj => by
    rw [World.cell?_of_block (a := ⟨B, j, none⟩) (Below.heap_alloc W o B h.lt), World.frozen?_of_block (a := ⟨B, j, none⟩) (Below.heap_alloc W o B h.lt)]
    exact h.there j hj
theorem BRow.new {w1 : World} (hb : Below w.heap.size w w1) (e : TypeId) (s : ByteArray) (hs : s.size ≤ maxLen) : BRow w w1.heap.size (grownCap w1 s.size 0 e) (s.data.toList.map UInt8.toNat) (Lib.bytesWorld w1 e s) where
  below := below_step hb ⟨rfl, rfl, rfl, by rw [Lib.bytesWorld_size]; omega, fun k hk => Lib.bytesWorld_at_old w1 e s k hk⟩
  ge := hb.size
  lt := by rw [Lib.bytesWorld_size]; omega
  le := by rw [List.length_map]; exact grownCap_ge _ _ _ _
  max := grownCap_le_maxLen _ _ _ _ hs
  cell := by
    intro j x hx
    have hj : j < s.size := by
      have := (List.getElem?_eq_some_iff.1 hx).1
      simpa using this
    rw [Lib.bytesWorld_cell w1 e s j hj]
    congr 2
    rw [List.getElem?_map, List.getElem?_eq_getElem (by simpa using hj)] at hx
    rw [List.getD_eq_getElem?_getD, List.getElem?_eq_getElem (by simpa using hj)]
    simp only [Option.map_some, Option.some.injEq] at hx
    rw [← hx]
    rfl
  there := by
    intro j hj
    have hsz : (Lib.bytesCells w1 e s).size = grownCap w1 s.size 0 e := by
      have := grownCap_ge w1 s.size 0 e
      simp only [Lib.bytesCells, Array.size_append, Array.size_map, Array.size_replicate]
      rw [show s.data.size = s.size from rfl]
      omega
    constructor
    · unfold World.cell?
      rw [Lib.bytesWorld_at_new]
      simp only [Option.bind_some]
      rw [Array.getElem?_eq_getElem (by rw [hsz]; exact hj)]
      rfl
    · unfold World.frozen?
      rw [Lib.bytesWorld_at_new]
      simp [hsz]
      omega
theorem BRow.set (h : BRow w B c xs W) (x : Nat) (hc : xs.length < c) : BRow w B c (xs ++ [x]) (W.setCell ⟨B, xs.length, none⟩ (.int .u8 (x : Nat))) where
  below := h.below.setCell (p := ⟨B, xs.length, none⟩) h.ge _
  ge := h.ge
  lt := by rw [World.size_setCell]; exact h.lt
  le := by rw [List.length_append, List.length_singleton]; exact hc
  max := h.max
  cell := by
    intro j y hy
    by_cases e : j = xs.length
    · subst e
      rw [List.getElem?_append_right (Nat.le_refl _), Nat.sub_self] at hy
      cases hy
      exact World.cell?_setCell_same' _ _ _ (h.there _ hc).1
    · have hj : j < xs.length := by
        have := (List.getElem?_eq_some_iff.1 hy).1
        rw [List.length_append, List.length_singleton] at this
        omega
      rw [List.getElem?_append_left hj] at hy
      exact (World.cell?_setCell_other W ⟨B, xs.length, none⟩ ⟨B, j, none⟩ _ (by intro e2; injection e2 with _ e3; exact e e3.symm)).trans (h.cell j y hy)
  there := by
    intro j hj
    rw [World.frozen?_setCell]
    refine ⟨?_, (h.there j hj).2⟩
    by_cases e : j = xs.length
    · subst e
      rw [World.cell?_setCell_same' _ _ _ (h.there _ hc).1]
      rfl
    · rw [World.cell?_setCell_other W ⟨B, xs.length, none⟩ ⟨B, j, none⟩ _ (by intro e2; injection e2 with _ e3; exact e e3.symm)]
      exact (h.there j hj).1
section
variable {P : Program}
theorem BRow.run_append (h : BRow w B c xs W) (t ty e : TypeId) (i : TypeInfo) (ht : P.underlying t = some (.slice e)) (hi : P.info? e = some i) (hz : i.zero = some (.int .u8 0)) (hs : i.size = 1) (hby : i.bytes = 1)
    (hl : xs.length < 140737488355328) (a : Addr) (x m : Nat) (hx : W.cell? a = some (.int .u8 (x : Nat))) :
    ∃ B' c' w', (Builtin.append_ #[t, t] ty #[.slice (some ⟨B, 0, none⟩) xs.length c, .slice (some a) 1 m]).run P W = .ok (.slice (some ⟨B', 0, none⟩) (xs.length + 1) c') w' ∧ BRow w B' c' (xs ++ [x]) w' ∧ W.grownBy w' (some B) ∧ (B' = B ∨ W.heap.size ≤ B') := by
  have src : Src P i.size t (.slice (some a) 1 m) 1 [.int .u8 (x : Nat)] W := by
    rw [hs]
    refine Src.ofSlice W ht a 1 m _ rfl ?_ (by simp [Value.oneCell'])
    intro j u hu
    have hj : j < 1 := (List.getElem?_eq_some_iff.1 hu).1
    obtain rfl : j = 0 := by omega
    cases hu
    have e0 : a.add 0 = a := by cases a; rename_i b o m; cases m <;> simp [Addr.add]
    rw [e0]
    exact hx
  by_cases hr : xs.length + 1 ≤ c
  · have hrun := run_append_room_src W t t ty e i ht hi B 0 xs.length c (.slice (some a) 1 m) 1 [.int .u8 (x : Nat)] src hr
      (by intro j hj; obtain rfl : j = 0 := by have h' : j < 1 := hj; omega
          rw [hs]; simpa using (h.there xs.length (by omega)).1)
      (by intro j hj; obtain rfl : j = 0 := by have h' : j < 1 := hj; omega
          rw [hs]; simpa using (h.there xs.length (by omega)).2)
    refine ⟨B, c, _, hrun, ?_⟩
    rw [hs, Nat.zero_add, Nat.mul_one]
    exact ⟨h.set x (by omega), ⟨rfl, rfl, rfl, by rw [World.setCells, World.setCells, World.size_setCell]; exact Nat.le_refl _, fun k hk hne => Below.heap_setCell W ⟨B, xs.length, none⟩ _ k (fun e => hne (congrArg some e))⟩, .inl rfl⟩
  · have hc : c = xs.length := by have := h.le; omega
    have hmax : xs.length + 1 ≤ maxLen := by unfold maxLen; omega
    have hold : (Builtin.firstCells i.size xs.length (.slice (some ⟨B, 0, none⟩) xs.length c)).run P W.drew = .ok ((xs.map fun x : Nat => Value.int .u8 (x : Int)).toArray) W.drew := by
      rw [hs]
      refine run_firstCells_some W.drew 1 xs.length ⟨B, 0, none⟩ xs.length c _ (by simp) ?_
      intro j u hu
      rw [List.getElem?_map] at hu
      obtain ⟨y, hy, rfl⟩ := Option.map_eq_some_iff.1 hu
      rw [Addr.add_mid, Nat.zero_add]
      exact h.cell j y hy
    have hrun := run_append_grow_src W t t ty e i (.int .u8 0) ht hi hz (some ⟨B, 0, none⟩) xs.length c _ hold (.slice (some a) 1 m) 1 [.int .u8 (x : Nat)] src (by omega) (by omega) (growslice_fits (by omega) (by rw [hby]; omega))
    have hge := grownCap_ge W (xs.length + 1) c e
    have hcm := grownCap_le_maxLen W (xs.length + 1) c e hmax
    refine ⟨_, _, _, hrun, ?_⟩
    generalize grownCap W (xs.length + 1) c e = C at *
    have hL : ((xs.map fun x : Nat => Value.int .u8 (x : Int)) ++ [Value.int .u8 (x : Nat)]).length = xs.length + 1 := by simp
    have hsz : ((((xs.map fun x : Nat => Value.int .u8 (x : Int)) ++ [Value.int .u8 (x : Nat)]).toArray) ++ Builtin.zeroCells (Value.int .u8 0).cells (C - (xs.length + 1))).size = C := by
      rw [Array.size_append, List.size_toArray, hL, size_zeroCells]
      simp [Value.cells]
      omega
    have hcell : ∀ j, (W.drew.alloc (.cells ((((xs.map fun x : Nat => Value.int .u8 (x : Int)) ++ [Value.int .u8 (x : Nat)]).toArray) ++ Builtin.zeroCells (Value.int .u8 0).cells (C - (xs.length + 1))) e)).cell? ⟨W.heap.size, j, none⟩ = _ := fun j => World.cell?_alloc_new W.drew _ _ j
    refine ⟨?_, ⟨rfl, rfl, rfl, by rw [World.size_alloc]; exact Nat.le_succ _, fun k hk _ => Below.heap_alloc W.drew _ k hk⟩, .inr (Nat.le_refl _)⟩
    refine ⟨(pw_below_drewN h.below 1).alloc h.below.size _, h.below.size, by rw [World.size_alloc]; exact Nat.lt_succ_self _, by rw [List.length_append, List.length_singleton]; exact hge, hcm, ?_, ?_⟩
    · intro j y hy
      rw [hcell, Array.getElem?_append_left (by rw [List.size_toArray, hL]; have := (List.getElem?_eq_some_iff.1 hy).1; simpa using this), List.getElem?_toArray]
      have : ((xs.map fun x : Nat => Value.int .u8 (x : Int)) ++ [Value.int .u8 (x : Nat)]) = (xs ++ [x]).map fun x : Nat => Value.int .u8 (x : Int) := by simp
      rw [this, List.getElem?_map, hy]
      rfl
    · intro j hj
      refine ⟨?_, World.frozen?_alloc_new W.drew _ _ j⟩
      rw [hcell, Array.getElem?_eq_getElem (by rw [hsz]; exact hj)]
      rfl
theorem wpList_append_brow {ops : Array Oper} {rest : List Oper} {o : Oper} {a : Act} {Q : Exit → Act → World → Prop}
    (hg : o.guard = none) (s x : Operand) (t : TypeId) (hop : o.op = Op.call { callee := Callee.builtin Builtin.append, args := #[s, x], argTypes := #[t, t] })
    (h : BRow w B c xs W) (e : TypeId) (i : TypeInfo) (ht : P.underlying t = some (.slice e)) (hi : P.info? e = some i) (hz : i.zero = some (.int .u8 0)) (hs : i.size = 1) (hby : i.bytes = 1)
    (hl : xs.length < 140737488355328) (k : Nat) (hk : k = xs.length) (hv : a.eval s = .slice (some ⟨B, 0, none⟩) k c) (ad : Addr) (y m : Nat) (hxv : a.eval x = .slice (some ad) 1 m) (hx : W.cell? ad = some (.int .u8 (y : Nat)))
    (hK : ∀ B' c' w', BRow w B' c' (xs ++ [y]) w' → W.grownBy w' (some B) → (B' = B ∨ W.heap.size ≤ B') → wpList P ops Q rest (a.put o.dst (.slice (some ⟨B', 0, none⟩) (k + 1) c')) w') :
    wpList P ops Q (o :: rest) a W := by
  subst hk
  refine wpList_plain hg fun K hK' => ?_
  obtain ⟨B', c', w', hrun, r1, r2, r3⟩ := h.run_append (P := P) t o.type e i ht hi hz hs hby hl ad y m hx
  unfold Oper.wp
  simp [execOp, hop, resolve, invoke, builtin, hv, hxv, hrun, Result.andThen]
  exact hK' _ _ (hK B' c' w' r1 r2 r3)
end
end Go.Proofs.YtabjfogmcehemaaDoor
end

section
namespace Go.Proofs.YtabjfogmcehemaaDoor
open Go.RowKit Go.Shelf Go.Proofs.YtabjfogmcehemaaDoorW.PrintWords Go.Proofs.YtabjfogmcehemaaDoorW.PrintLast Go.Proofs.YtabjfogmcehemaaDoorW.PrintMore
set_option linter.unusedVariables false
set_option linter.unusedSimpArgs false
attribute [local go_sem] Oper.semAt_some
attribute [local go_sem] max2_int min2_int max_two min_two max_three min_three max_four min_four
attribute [local go_sem ↓] Go.wp_at_zero Go.wp_at_succ
def zerosOf (n : Nat) : Nat := (119 - n % 64) % 64
def lenByte (n i : Nat) : Nat := 8 * n / 2 ^ (8 * i) % 256
def lenL (n : Nat) : List Nat := [lenByte n 7, lenByte n 6, lenByte n 5, lenByte n 4, lenByte n 3, lenByte n 2, lenByte n 1, lenByte n 0]
def padL (l : List Nat) : List Nat := l ++ [128] ++ List.replicate (zerosOf l.length) 0 ++ lenL l.length
theorem zerosOf_mod (n : Nat) : (n + 1 + zerosOf n) % 64 = 56 := by unfold zerosOf; omega
theorem zerosOf_min (n k : Nat) (h : k < zerosOf n) : (n + 1 + k) % 64 ≠ 56 := by unfold zerosOf at h; omega
theorem padL_len (l : List Nat) : (padL l).length = l.length + 9 + zerosOf l.length := by
  simp [padL, lenL]; omega
theorem padL_mod (l : List Nat) : (padL l).length % 64 = 0 := by
  rw [padL_len]; have := zerosOf_mod l.length; omega
theorem padL_lt (l : List Nat) (h : ∀ x ∈ l, x < 256) : ∀ x ∈ padL l, x < 256 := by
  intro x hx
  simp only [padL, List.mem_append, List.mem_singleton, List.mem_replicate] at hx
  rcases hx with ((hx | rfl) | ⟨_, rfl⟩) | hx
  · exact h x hx
  · decide
  · decide
  · simp only [lenL, List.mem_cons, List.not_mem_nil, or_false] at hx
    rcases hx with rfl | rfl | rfl | rfl | rfl | rfl | rfl | rfl <;> exact Nat.mod_lt _ (by decide)
def init8 : Eight := ⟨0x6a09e667, 0xbb67ae85, 0x3c6ef372, 0xa54ff53a, 0x510e527f, 0x9b05688c, 0x1f83d9ab, 0x5be0cd19⟩
theorem init8_fit : init8.Fit := ⟨by decide, by decide, by decide, by decide, by decide, by decide, by decide, by decide⟩
def foldW (b : List Nat) : Nat → Eight
  | 0 => init8
  | k + 1 => blockF (foldW b k) ((b.drop (64 * k)).take 64)
theorem foldW_fit (b : List Nat) (k : Nat) : (foldW b k).Fit := by
  cases k with
  | zero => exact init8_fit
  | succ k => exact addE_fit _ _
def sumF (s : ByteArray) : ByteArray := strOfNums ((outB (foldW (padL (s.data.toList.map UInt8.toNat)) ((padL (s.data.toList.map UInt8.toNat)).length / 64))).map fun x : Nat => (x : Int))
theorem sumF_size (s : ByteArray) : (sumF s).size = 32 := by
  unfold sumF; rw [strOfNums_size, List.length_map, outB_len]
theorem zero_part (l : List Nat) (k : Nat) : l ++ [128] ++ List.replicate k 0 ++ [0] = l ++ [128] ++ List.replicate (k + 1) 0 := by
  rw [List.append_assoc _ _ [0], ← List.replicate_succ']
def lenUp (n : Nat) (k : Nat) : List Nat := (lenL n).take k
theorem lenUp_next (n k : Nat) (h : k < 8) : lenUp n k ++ [lenByte n (7 - k)] = lenUp n (k + 1) := by
  unfold lenUp
  rw [List.take_add_one]
  have h8 : k = 0 ∨ k = 1 ∨ k = 2 ∨ k = 3 ∨ k = 4 ∨ k = 5 ∨ k = 6 ∨ k = 7 := by omega
  rcases h8 with rfl | rfl | rfl | rfl | rfl | rfl | rfl | rfl <;> rfl
theorem lenUp_8 (n : Nat) : lenUp n 8 = lenL n := rfl
theorem lenUp_len (n k : Nat) (h : k ≤ 8) : (lenUp n k).length = k := by
  unfold lenUp; rw [List.length_take]; exact Nat.min_eq_left h
theorem chunk_any (a : Option Addr) (l c : Nat) (w : World) :
    Calls Tryd.prog 54 #[.slice a l c, .int .i64 64] w fun e w' => e = .returned (.func (.func 66) #[] #[.pointer (some ⟨w.heap.size, 0, none⟩), .pointer (some ⟨w.heap.size + 1, 0, none⟩)]) ∧ (w.alloc (.cells #[.slice a l c] 46)).alloc (.cells #[.int .i64 64] 3) = w' := by
  go_enter Tryd.func54, Tryd.ntmps54
  go_wp2
  go_ret
  exact ⟨rfl, rfl⟩
theorem Arr.grownBy {K : IntKind} {w W w1 : World} {B R : Nat} {xs : List Nat} (h : Arr K w B xs W) (hg : W.grownBy w1 (some R)) (hR : w.heap.size ≤ R) (hne : B ≠ R) : Arr K w B xs w1 where
  below := ⟨hg.os.trans h.below.os, hg.tape.trans h.below.tape, hg.output.trans h.below.output, Nat.le_trans h.below.size hg.size, fun k hk => (hg.block k (Nat.lt_of_lt_of_le hk h.below.size) (fun e => by cases e; omega)).trans (h.below.block k hk)⟩
  ge := h.ge
  lt := Nat.lt_of_lt_of_le h.lt hg.size
  cell := fun j x hx => (World.cell?_of_block (a := ⟨B, j, none⟩) (hg.block B h.lt (fun e => hne (Option.some.inj e)))).trans (h.cell j x hx)
  free := fun j hj => (World.frozen?_of_block (a := ⟨B, j, none⟩) (hg.block B h.lt (fun e => hne (Option.some.inj e)))).trans (h.free j hj)
structure SumSt (w : World) (H B c : Nat) (xs : List Nat) (W : World) : Prop where
  h : Arr .u32 w H init8.list W
  b : BRow w B c xs W
  ne : H ≠ B
theorem SumSt.alloc {w W : World} {H B c : Nat} {xs : List Nat} (s : SumSt w H B c xs W) (o : Obj) : SumSt w H B c xs (W.alloc o) := ⟨s.h.alloc o, s.b.alloc o, s.ne⟩
theorem SumSt.next {w W w' : World} {H B c B' c' : Nat} {xs ys : List Nat} (s : SumSt w H B c xs W) (h : BRow w B' c' ys w') (hg : W.grownBy w' (some B)) (hb : B' = B ∨ W.heap.size ≤ B') : SumSt w H B' c' ys w' :=
  ⟨s.h.grownBy hg s.b.ge s.ne, h, by
    rcases hb with rfl | hb
    · exact s.ne
    · have := s.h.lt; omega⟩
theorem Arr.grownO {K : IntKind} {w W w1 : World} {B : Nat} {row : Option Nat} {xs : List Nat} (h : Arr K w B xs W) (hg : W.grownBy w1 row) (hr : ∀ r, row = some r → w.heap.size ≤ r ∧ B ≠ r) : Arr K w B xs w1 where
  below := ⟨hg.os.trans h.below.os, hg.tape.trans h.below.tape, hg.output.trans h.below.output, Nat.le_trans h.below.size hg.size, fun k hk => (hg.block k (Nat.lt_of_lt_of_le hk h.below.size) (fun e => by have := (hr k e.symm).1; omega)).trans (h.below.block k hk)⟩
  ge := h.ge
  lt := Nat.lt_of_lt_of_le h.lt hg.size
  cell := fun j x hx => (World.cell?_of_block (a := ⟨B, j, none⟩) (hg.block B h.lt (fun e => (hr B e.symm).2 rfl))).trans (h.cell j x hx)
  free := fun j hj => (World.frozen?_of_block (a := ⟨B, j, none⟩) (hg.block B h.lt (fun e => (hr B e.symm).2 rfl))).trans (h.free j hj)
structure ChSt (w : World) (H R : Nat) (xs : List Nat) (v : Eight) (W : World) : Prop where
  h : Arr .u32 w H v.list W
  cell : ∀ j x, xs[j]? = some x → W.cell? ⟨R, j, none⟩ = some (.int .u8 (x : Nat))
  lt : R < W.heap.size
  ne : H ≠ R
theorem ChSt.grownO {w W w1 : World} {H R : Nat} {xs : List Nat} {v : Eight} {row : Option Nat} (s : ChSt w H R xs v W) (hg : W.grownBy w1 row) (hr : ∀ r, row = some r → w.heap.size ≤ r ∧ H ≠ r ∧ R ≠ r) : ChSt w H R xs v w1 where
  h := s.h.grownO hg (fun r e => ⟨(hr r e).1, (hr r e).2.1⟩)
  cell := fun j x hx => (World.cell?_of_block (a := ⟨R, j, none⟩) (hg.block R s.lt (fun e => (hr R e.symm).2.2 rfl))).trans (s.cell j x hx)
  lt := Nat.lt_of_lt_of_le s.lt hg.size
  ne := s.ne
theorem ChSt.add {w W w1 : World} {H R : Nat} {xs : List Nat} {v v' : Eight} (s : ChSt w H R xs v W) (ha : Arr .u32 w H v'.list w1) (hg : W.grownBy w1 (some H)) : ChSt w H R xs v' w1 where
  h := ha
  cell := fun j x hx => (World.cell?_of_block (a := ⟨R, j, none⟩) (hg.block R s.lt (fun e => s.ne (Option.some.inj e).symm))).trans (s.cell j x hx)
  lt := Nat.lt_of_lt_of_le s.lt hg.size
  ne := s.ne
theorem next_of_prefix {pre : List Nat} {x M : Nat} (h : pre ++ [x] <+: List.range M) : x = pre.length ∧ x < M := by
  obtain ⟨t, ht⟩ := h
  have h1 : (List.range M)[pre.length]? = some x := by rw [← ht]; simp
  have h2 := List.getElem?_eq_some_iff.1 h1
  obtain ⟨a, b⟩ := h2
  rw [List.getElem_range] at b
  rw [List.length_range] at a
  omega
def lenV : Value → Nat
  | .slice _ n _ => n
  | _ => 0
theorem info5 : (Tryd.prog.info? 5).map (fun i => (i.zero, i.size, i.bytes)) = some (some (.int .u8 0), 1, 1) := by kernel_rfl
set_option maxRecDepth 100000 in
set_option maxHeartbeats 8000000 in
theorem sum_any (s : ByteArray) (w : World) (HG : Aside0 (Laid w)) (hs : s.size ≤ 70368744177664) :
    Calls Tryd.prog 30 #[.string s] w fun e w' => e = .returned (.string (sumF s)) ∧ Below w.heap.size w w' := by
  refine (callsIn_wide (n := 5)).1 ?_
  refine callsIn_of_wp_marks Tryd.func30 rfl trivial ?_ rfl
  simp only [Tryd.ntmps30, List.size_toArray, List.length_cons, List.length_nil, Nat.reduceAdd, Nat.reduceSub, Array.replicate_succ, Array.replicate_zero, List.push_toArray, List.append_toArray, List.nil_append, List.cons_append]
  refine wpIn_wide.2 ?_
  have kb := fun W => print_bytes (P := Tryd.prog) 9 46 5 Tryd.underlying9 Tryd.underlying46 Tryd.underlying5 s W
  obtain ⟨i0, hi, hz0, hz1, hz2⟩ := info_parts info5
  have hS0 : SumSt w w.heap.size (w.heap.size + 1) (grownCap (w.alloc (.cells (init8.list.map fun x : Nat => Value.int .u32 (x : Int)).toArray 71)) s.size 0 5) (s.data.toList.map UInt8.toNat) (Lib.bytesWorld (w.alloc (.cells (init8.list.map fun x : Nat => Value.int .u32 (x : Int)).toArray 71)) 5 s) := by
    have h1 := Arr.new (K := .u32) (xs := init8.list) (Below.refl _ w) 71
    have h2 := BRow.new (w := w) ((Below.refl _ w).alloc (Nat.le_refl _) (.cells (init8.list.map fun x : Nat => Value.int .u32 (x : Int)).toArray 71)) 5 s (by unfold maxLen; omega)
    rw [World.size_alloc] at h2
    refine ⟨h1.grown ?_, h2, by omega⟩
    exact ⟨rfl, rfl, rfl, by rw [Lib.bytesWorld_size]; omega, fun k hk => Lib.bytesWorld_at_old _ 5 s k hk⟩
  obtain ⟨l, hl⟩ : ∃ l, s.data.toList.map UInt8.toNat = l := ⟨_, rfl⟩
  have hll : l.length = s.size := by rw [← hl]; simp
  rw [hl] at hS0
  simp only [init8, Eight.list, List.map_cons, List.map_nil, Int.cast_ofNat_Int] at hS0
  have HL := Aside0.mk hl
  have HLL := Aside0.mk hll
  have HS := Aside0.mk hS0
  clear hl hll hS0
  go_wp2_with (at_builtin; go_must (refine wpList_append_brow rfl _ _ 46 rfl (HS.out.alloc _).b 5 i0 Tryd.underlying46 hi hz0 hz1 hz2 (by rw [HLL.out]; omega) s.size HLL.out.symm rfl _ 128 1 rfl (cellN_new rfl rfl) ?_); intro B1 c1 w1 hb1 hg1 hn1; have S1 := Aside0.mk ((HS.out.alloc _).next hb1 hg1 hn1); clear hb1 hg1 hn1 HS kb)
  obtain ⟨n, hn⟩ : ∃ n, s.size = n := ⟨_, rfl⟩
  have HN := Aside0.mk hn
  rw [hn] at hs
  have HLN : Aside0 (l.length = n) := ⟨HLL.out.trans hn⟩
  obtain ⟨H, hH⟩ : ∃ H, w.heap.size = H := ⟨_, rfl⟩
  have HH := Aside0.mk hH
  rw [hH] at S1
  rw [hn, hH]
  clear hn hH HLL
  go_loopw [4] (fun b wr => ∃ k m B c, k ≤ zerosOf n ∧ Aside0 (m = n + 1 + k) ∧ b = .slice (some ⟨B, 0, none⟩) m c ∧ Aside0 (SumSt w H B c (l ++ [128] ++ List.replicate k 0) wr)) (fun b _ => n + 1 + zerosOf n - lenV b)
  case atStart => exact ⟨0, n + 1, B1, c1, Nat.zero_le _, ⟨rfl⟩, rfl, by simpa using S1⟩
  case round =>
    clear S1
    obtain ⟨k, m, B, c, hk, hm, rfl, S⟩ := hrel
    by_cases hlt : m % 64 = 56
    · have t1 : (((m : Int) % 64) == 56) = true := by rw [beq_iff_eq]; omega
      obtain rfl : k = zerosOf n := by
        have := hm.out
        rcases Nat.lt_or_ge k (zerosOf n) with h | h
        · exact absurd (by rw [← this]; exact hlt) (zerosOf_min n k h)
        · omega
      have hmm := Aside0.mk (show m = n + 1 + zerosOf n from hm.out)
      clear hlt hm hk
      obtain ⟨L0, hL0⟩ : ∃ L0, l ++ [128] ++ List.replicate (zerosOf n) 0 = L0 := ⟨_, rfl⟩
      rw [hL0] at S
      have hLm : Aside0 (L0.length = m) := ⟨by rw [← hL0, hmm.out]; simp [HLN.out]; omega⟩
      have HL0 := Aside0.mk hL0
      have hmb : m ≤ 70368744177800 := by have := hmm.out; have : zerosOf n < 64 := Nat.mod_lt _ (by decide); omega
      clear hL0
      go_wp2
      rw [show (((m : Int) % 64) != 56) = false by rw [bne_eq_false_iff_eq]; exact beq_iff_eq.1 t1]
      clear t1
      go_loopw [4, 5] (fun b i wr => ∃ k q B c : Nat, k ≤ 8 ∧ i = .int .i64 (7 - (k : Int)) ∧ Aside0 (q = m + k) ∧ b = .slice (some ⟨B, 0, none⟩) q c ∧ Aside0 (SumSt w H B c (L0 ++ lenUp n k) wr)) (fun _ i _ => (intOf i + 1).toNat)
      case atStart => exact ⟨0, m, B, c, by decide, rfl, ⟨rfl⟩, rfl, ⟨by have := S.out; simpa [lenUp] using this⟩⟩
      case round =>
        clear S
        obtain ⟨k, q, B3, c3, hk, rfl, hq, rfl, S⟩ := hrel
        by_cases hlt : k < 8
        · have hlen : Aside0 (q = (L0 ++ lenUp n k).length ∧ (L0 ++ lenUp n k).length < 140737488355328) := ⟨by rw [List.length_append, lenUp_len n k (by omega), hLm.out]; exact ⟨hq.out, by omega⟩⟩
          have hnext := Aside0.mk (lenUp_next n k hlt)
          have hq8 := Aside0.mk hq
          have hqb : q ≤ 70368744177900 := by have := hq.out; omega
          obtain ⟨y, hy⟩ : ∃ y, lenByte n (7 - k) = y := ⟨_, rfl⟩
          rw [hy] at hnext
          have h8 : k = 0 ∨ k = 1 ∨ k = 2 ∨ k = 3 ∨ k = 4 ∨ k = 5 ∨ k = 6 ∨ k = 7 := by omega
          have hnn : Aside0 (8 * (s.size : Int) = ((8 * n : Nat) : Int)) := ⟨by rw [HN.out]; omega⟩
          have hsn : s.size ≤ 70368744177664 := by have := HN.out; omega
          rcases h8 with rfl | rfl | rfl | rfl | rfl | rfl | rfl | rfl
          · have e1 : IntKind.u8.wrap (8 * (s.size : Int) / 72057594037927936) = (y : Int) := by rw [hnn.out, ← hy]; simp only [IntKind.wrap, IntKind.bits, IntKind.signed]; simp [lenByte]
            clear hy hlt
            go_wp2_with (at_builtin; go_must (refine wpList_append_brow rfl _ _ 46 rfl (S.out.alloc _).b 5 i0 Tryd.underlying46 hi hz0 hz1 hz2 hlen.out.2 q hlen.out.1 rfl _ y 1 rfl (cellN_new rfl rfl) ?_); intro B2 c2 w2 hb2 hg2 hn2; have S2 := Aside0.mk ((S.out.alloc _).next hb2 hg2 hn2); clear hb2 hg2 hn2 S)
            go_roundw
            case rel => exact ⟨1, q + 1, B2, c2, by decide, rfl, ⟨by rw [hq.out]⟩, rfl, ⟨by rw [← hnext.out, ← List.append_assoc]; exact S2.out⟩⟩
            case measure => simp [intOf]
          · have e1 : IntKind.u8.wrap (8 * (s.size : Int) / 281474976710656) = (y : Int) := by rw [hnn.out, ← hy]; simp only [IntKind.wrap, IntKind.bits, IntKind.signed]; simp [lenByte]
            clear hy hlt
            go_wp2_with (at_builtin; go_must (refine wpList_append_brow rfl _ _ 46 rfl (S.out.alloc _).b 5 i0 Tryd.underlying46 hi hz0 hz1 hz2 hlen.out.2 q hlen.out.1 rfl _ y 1 rfl (cellN_new rfl rfl) ?_); intro B2 c2 w2 hb2 hg2 hn2; have S2 := Aside0.mk ((S.out.alloc _).next hb2 hg2 hn2); clear hb2 hg2 hn2 S)
            go_roundw
            case rel => exact ⟨2, q + 1, B2, c2, by decide, rfl, ⟨by rw [hq.out]⟩, rfl, ⟨by rw [← hnext.out, ← List.append_assoc]; exact S2.out⟩⟩
            case measure => simp [intOf]
          · have e1 : IntKind.u8.wrap (8 * (s.size : Int) / 1099511627776) = (y : Int) := by rw [hnn.out, ← hy]; simp only [IntKind.wrap, IntKind.bits, IntKind.signed]; simp [lenByte]
            clear hy hlt
            go_wp2_with (at_builtin; go_must (refine wpList_append_brow rfl _ _ 46 rfl (S.out.alloc _).b 5 i0 Tryd.underlying46 hi hz0 hz1 hz2 hlen.out.2 q hlen.out.1 rfl _ y 1 rfl (cellN_new rfl rfl) ?_); intro B2 c2 w2 hb2 hg2 hn2; have S2 := Aside0.mk ((S.out.alloc _).next hb2 hg2 hn2); clear hb2 hg2 hn2 S)
            go_roundw
            case rel => exact ⟨3, q + 1, B2, c2, by decide, rfl, ⟨by rw [hq.out]⟩, rfl, ⟨by rw [← hnext.out, ← List.append_assoc]; exact S2.out⟩⟩
            case measure => simp [intOf]
          · have e1 : IntKind.u8.wrap (8 * (s.size : Int) / 4294967296) = (y : Int) := by rw [hnn.out, ← hy]; simp only [IntKind.wrap, IntKind.bits, IntKind.signed]; simp [lenByte]
            clear hy hlt
            go_wp2_with (at_builtin; go_must (refine wpList_append_brow rfl _ _ 46 rfl (S.out.alloc _).b 5 i0 Tryd.underlying46 hi hz0 hz1 hz2 hlen.out.2 q hlen.out.1 rfl _ y 1 rfl (cellN_new rfl rfl) ?_); intro B2 c2 w2 hb2 hg2 hn2; have S2 := Aside0.mk ((S.out.alloc _).next hb2 hg2 hn2); clear hb2 hg2 hn2 S)
            go_roundw
            case rel => exact ⟨4, q + 1, B2, c2, by decide, rfl, ⟨by rw [hq.out]⟩, rfl, ⟨by rw [← hnext.out, ← List.append_assoc]; exact S2.out⟩⟩
            case measure => simp [intOf]
          · have e1 : IntKind.u8.wrap (8 * (s.size : Int) / 16777216) = (y : Int) := by rw [hnn.out, ← hy]; simp only [IntKind.wrap, IntKind.bits, IntKind.signed]; simp [lenByte]
            clear hy hlt
            go_wp2_with (at_builtin; go_must (refine wpList_append_brow rfl _ _ 46 rfl (S.out.alloc _).b 5 i0 Tryd.underlying46 hi hz0 hz1 hz2 hlen.out.2 q hlen.out.1 rfl _ y 1 rfl (cellN_new rfl rfl) ?_); intro B2 c2 w2 hb2 hg2 hn2; have S2 := Aside0.mk ((S.out.alloc _).next hb2 hg2 hn2); clear hb2 hg2 hn2 S)
            go_roundw
            case rel => exact ⟨5, q + 1, B2, c2, by decide, rfl, ⟨by rw [hq.out]⟩, rfl, ⟨by rw [← hnext.out, ← List.append_assoc]; exact S2.out⟩⟩
            case measure => simp [intOf]
          · have e1 : IntKind.u8.wrap (8 * (s.size : Int) / 65536) = (y : Int) := by rw [hnn.out, ← hy]; simp only [IntKind.wrap, IntKind.bits, IntKind.signed]; simp [lenByte]
            clear hy hlt
            go_wp2_with (at_builtin; go_must (refine wpList_append_brow rfl _ _ 46 rfl (S.out.alloc _).b 5 i0 Tryd.underlying46 hi hz0 hz1 hz2 hlen.out.2 q hlen.out.1 rfl _ y 1 rfl (cellN_new rfl rfl) ?_); intro B2 c2 w2 hb2 hg2 hn2; have S2 := Aside0.mk ((S.out.alloc _).next hb2 hg2 hn2); clear hb2 hg2 hn2 S)
            go_roundw
            case rel => exact ⟨6, q + 1, B2, c2, by decide, rfl, ⟨by rw [hq.out]⟩, rfl, ⟨by rw [← hnext.out, ← List.append_assoc]; exact S2.out⟩⟩
            case measure => simp [intOf]
          · have e1 : IntKind.u8.wrap (8 * (s.size : Int) / 256) = (y : Int) := by rw [hnn.out, ← hy]; simp only [IntKind.wrap, IntKind.bits, IntKind.signed]; simp [lenByte]
            clear hy hlt
            go_wp2_with (at_builtin; go_must (refine wpList_append_brow rfl _ _ 46 rfl (S.out.alloc _).b 5 i0 Tryd.underlying46 hi hz0 hz1 hz2 hlen.out.2 q hlen.out.1 rfl _ y 1 rfl (cellN_new rfl rfl) ?_); intro B2 c2 w2 hb2 hg2 hn2; have S2 := Aside0.mk ((S.out.alloc _).next hb2 hg2 hn2); clear hb2 hg2 hn2 S)
            go_roundw
            case rel => exact ⟨7, q + 1, B2, c2, by decide, rfl, ⟨by rw [hq.out]⟩, rfl, ⟨by rw [← hnext.out, ← List.append_assoc]; exact S2.out⟩⟩
            case measure => simp [intOf]
          · have e1 : IntKind.u8.wrap (8 * (s.size : Int)) = (y : Int) := by rw [hnn.out, ← hy]; simp only [IntKind.wrap, IntKind.bits, IntKind.signed]; simp [lenByte]
            clear hy hlt
            go_wp2_with (at_builtin; go_must (refine wpList_append_brow rfl _ _ 46 rfl (S.out.alloc _).b 5 i0 Tryd.underlying46 hi hz0 hz1 hz2 hlen.out.2 q hlen.out.1 rfl _ y 1 rfl (cellN_new rfl rfl) ?_); intro B2 c2 w2 hb2 hg2 hn2; have S2 := Aside0.mk ((S.out.alloc _).next hb2 hg2 hn2); clear hb2 hg2 hn2 S)
            go_roundw
            case rel => exact ⟨8, q + 1, B2, c2, by decide, rfl, ⟨by rw [hq.out]⟩, rfl, ⟨by rw [← hnext.out, ← List.append_assoc]; exact S2.out⟩⟩
            case measure => simp [intOf]
        · obtain rfl : k = 8 := by omega
          have hpad : Aside0 (L0 ++ lenUp n 8 = padL l) := ⟨by rw [← HL0.out, lenUp_8]; unfold padL; rw [HLN.out]⟩
          have hqm : Aside0 (q = 64 * ((padL l).length / 64)) := ⟨by have h1 := padL_mod l; have h2 := padL_len l; have h3 := hq.out; have h4 := hmm.out; rw [HLN.out] at h2; omega⟩
          rw [hpad.out] at S
          clear hlt
          go_wp2_with (go_at_call 54; with_reducible refine (chunk_any _ _ _ _).mono ?_; rintro e w' ⟨rfl, rfl⟩)
          rw [hqm.out]
          have hM : (padL l).length / 64 ≤ 2199023255552 := by have h2 := padL_len l; have h3 : zerosOf l.length < 64 := Nat.mod_lt _ (by decide); rw [HLN.out] at h2 h3; omega
          have hmod := padL_mod l
          have hlt256 := padL_lt l (by rw [← HL.out]; intro x hx; obtain ⟨b, _, rfl⟩ := List.mem_map.1 hx; exact b.toNat_lt)
          have hC : ChSt w H B3 (padL l) init8 ((wr.alloc (.cells #[.slice (some ⟨B3, 0, none⟩) (64 * ((padL l).length / 64)) c3] 46)).alloc (.cells #[.int .i64 64] 3)) := by
            have s2 := (S.out.alloc (.cells #[.slice (some ⟨B3, 0, none⟩) (64 * ((padL l).length / 64)) c3] 46)).alloc (.cells #[.int .i64 64] 3)
            exact ⟨s2.h, s2.b.cell, s2.b.lt, s2.ne⟩
          have hcap : 64 * ((padL l).length / 64) ≤ c3 := by have := S.out.b.le; omega
          have hb1 : ((wr.alloc (.cells #[.slice (some ⟨B3, 0, none⟩) (64 * ((padL l).length / 64)) c3] 46)).alloc (.cells #[.int .i64 64] 3)).heap[wr.heap.size]? = some (.cells #[.slice (some ⟨B3, 0, none⟩) (64 * ((padL l).length / 64)) c3] 46 (0, 0)) := by
            rw [Below.heap_alloc _ _ _ (by simp)]; exact World.alloc_heap_new _ _
          have hb2 : ((wr.alloc (.cells #[.slice (some ⟨B3, 0, none⟩) (64 * ((padL l).length / 64)) c3] 46)).alloc (.cells #[.int .i64 64] 3)).heap[wr.heap.size + 1]? = some (.cells #[.int .i64 64] 3 (0, 0)) := by
            have := World.alloc_heap_new (wr.alloc (.cells #[.slice (some ⟨B3, 0, none⟩) (64 * ((padL l).length / 64)) c3] 46)) (.cells #[.int .i64 64] 3)
            rwa [World.size_alloc] at this
          have hge := S.out.h.ge
          have hge3 := S.out.b.ge
          have hsz : ((wr.alloc (.cells #[.slice (some ⟨B3, 0, none⟩) (64 * ((padL l).length / 64)) c3] 46)).alloc (.cells #[.int .i64 64] 3)).heap.size = wr.heap.size + 2 := by simp
          have hH2 : H < wr.heap.size := S.out.h.lt
          have hB2 : B3 < wr.heap.size := S.out.b.lt
          have hwz := S.out.h.below.size
          clear S hpad hqm hq hk hmb hmm HL0 hLm
          have HSUM : Aside0 (sumF s = strOfNums ((outB (foldW (padL l) ((padL l).length / 64))).map fun x : Nat => (x : Int))) := ⟨by unfold sumF; rw [HL.out]⟩
          have HLT := Aside0.mk hlt256
          clear hlt256 HLN HN
          generalize padL l = P at *
          obtain ⟨M, hMM⟩ : ∃ M, P.length / 64 = M := ⟨_, rfl⟩
          rw [hMM] at hM hC hb1 hb2 hsz hcap HSUM ⊢
          have hPM : P.length = 64 * M := by omega
          have HPM := Aside0.mk hPM
          clear hPM hmod hMM
          generalize (wr.alloc (.cells #[.slice (some ⟨B3, 0, none⟩) (64 * M) c3] 46)).alloc (.cells #[.int .i64 64] 3) = W0 at *
          refine (wpIn_wide (n := 5)).1 ?_
          have hin0 : ∀ {f : FuncId} {args : Array Value} {w : World} {R : Ending → World → Prop} (n : Nat), Calls Tryd.prog f args w R → CallsIn Fence.wide n Tryd.prog f args w R := fun n h => callsIn_wide.2 h
          have hF66 : Fence.wide.fn 66 := trivial
          have hF55 : Fence.wide.fn 55 := trivial
          have hFr : Fence.wide.round = none := rfl
          generalize Fence.wide = F at *
          refine wpIn_rangeFunc_fix (F := F) (n := 5) hFr (by decide) (gf := 66) (lb := #[.pointer (some ⟨wr.heap.size, 0, none⟩), .pointer (some ⟨wr.heap.size + 1, 0, none⟩)]) rfl hF66 (enters_of Tryd.func66 (by kernel_rfl) rfl)
            (chunk_gives F 4 hF66 hFr (by decide) wr.heap.size (wr.heap.size + 1) B3 M c3 (by omega) hcap W0 hb1 hb2) (fun r e => e.elim) (fun h k => ⟨k.1.trans h.1, k.2.trans h.2⟩) ?hkb (Below.refl _ _) (fun _ => rfl)
            (fun pre W => ChSt w H B3 P (foldW P pre.length) W ∧ W0.heap.size ≤ W.heap.size) ?own ⟨hC, Nat.le_refl _⟩ ?a1 ?assign ?body ?done
          case hkb =>
            intro W l o' hl
            exact ⟨World.putObj_heap_other (by omega), World.putObj_heap_other (by omega)⟩
          case own =>
            rintro pre A B row ⟨hc, hs⟩ hg hrow
            have hr : ∀ r, row = some r → W0.heap.size ≤ r := fun r e => by
              rcases hrow r e with ⟨h, _⟩ | h
              · exact h
              · exact h.elim
            exact ⟨hc.grownO hg (fun r e => by have := hr r e; omega), Nat.le_trans hs hg.size⟩
          case assign =>
            intro l y W K hK
            gi_wp2
            exact hK
          case body =>
            rintro l pre y W ⟨hc, hs⟩ hpre
            obtain ⟨rfl, hy⟩ := next_of_prefix hpre
            have hG : Aside0 (Laid W) := ⟨HG.out.below hc.h.below⟩
            have hadd := add_any w H B3 (64 * pre.length) 64 (foldW P pre.length) ((P.drop (64 * pre.length)).take 64) W hG (by rw [List.length_take, List.length_drop, HPM.out]; omega)
              (fun x hx => HLT.out x (List.mem_of_mem_drop (List.mem_of_mem_take hx)))
              (fun j x hx => by
                rw [List.getElem?_take] at hx
                split at hx
                · rw [List.getElem?_drop] at hx; exact hc.cell _ _ hx
                · cases hx) hc.lt hc.h (foldW_fit _ _)
            have hin : CallsIn (F.inRound l) 2 Tryd.prog 55 #[.pointer (some ⟨H, 0, none⟩), .slice (some ⟨B3, 64 * pre.length, none⟩) 64 64] W _ := CallsIn.inRound l (hin0 _ hadd)
            have HIN := Aside0.mk hin
            clear hin hadd
            have hW0 : H < W0.heap.size := by omega
            have HC := Aside0.mk hc
            have HS := Aside0.mk hs
            clear hc hs
            gi_wp2_with (gi_at_call 55; go_must (refine HIN.out.mono ?_); rintro e w' ⟨rfl, ha, hg⟩)
            refine ⟨KeepsFrom.of_grownBy hg (fun j e => by cases e; exact hW0), ⟨hg.block _ ?_ ?_, hg.block _ ?_ ?_⟩, ?_, ?_⟩
            · have := HS.out; omega
            · intro e; cases e; omega
            · have := HS.out; omega
            · intro e; cases e; omega
            · have e : foldW P (pre ++ [pre.length]).length = blockF (foldW P pre.length) ((P.drop (64 * pre.length)).take 64) := by rw [List.length_append, List.length_singleton]; rfl
              rw [e]
              exact HC.out.add ha hg
            · exact Nat.le_trans HS.out hg.size
          case done =>
            rintro D W hD ⟨hc, hs⟩ hK
            rw [List.length_range] at hc
            have hfit := foldW_fit P M
            generalize foldW P M = v at *
            have hR : Aside0 (W.rangeAt H 0 (cells .u32 v.list)) := ⟨hc.h.range⟩
            have hI8 : Aside0 ((Tryd.prog.info? 71).map (·.size) = some (cells .u32 v.list).length) := ⟨by rw [info71]; rfl⟩
            have HDIG := Aside0.mk (digest_any v hfit W)
            rw [← HSUM.out] at HDIG
            have HBW := Aside0.mk hc.h.below
            have HKD := Aside0.mk hK
            have HD := Aside0.mk hD
            clear hc hs hK hD hfit HSUM
            go_upto_region 12 with (fail)
            apply wp_region_lit
            refine wpList_load_mid rfl 71 _ rfl H 0 rfl (cells .u32 v.list) _ hR.out Tryd.underlying71 rfl hI8.out ?_
            go_wp2_with (go_at_call 56; go_must (refine HDIG.out.mono ?_); rintro e w' ⟨rfl, hb⟩)
            have hK' : w'.heap[D]? = some (.deferred (some [])) := (hb.block D (Array.getElem?_eq_some_iff.1 HKD.out).1).trans HKD.out
            refine ⟨by simp, .inl ⟨_, _, rfl, run_takeDeferred hK', ?_⟩⟩
            refine ⟨.string (sumF s), by simp [results, Tryd.results30, go_sem], rfl, ?_⟩
            have hwD : w.heap.size ≤ D := by have := HD.out; omega
            exact (below_step HBW.out hb).trans (belowK_b (w := w) (Nat.le_refl _) w' D _ _ hwD hK' rfl rfl)
    · have t1 : (((m : Int) % 64) == 56) = false := by rw [beq_eq_false_iff_ne]; omega
      have hkz : k < zerosOf n := by
        rcases Nat.lt_or_ge k (zerosOf n) with h | h
        · exact h
        · have := hm.out; have := zerosOf_mod n; have : k = zerosOf n := by omega
          subst this; omega
      have hlen : Aside0 (m = (l ++ [128] ++ List.replicate k 0).length ∧ (l ++ [128] ++ List.replicate k 0).length < 140737488355328) := ⟨by have := hm.out; have := HLN.out; have := Nat.mod_lt (119 - n % 64) (show 0 < 64 by decide); unfold zerosOf at hk; simp; omega⟩
      go_wp2_with (at_builtin; go_must (refine wpList_append_brow rfl _ _ 46 rfl (S.out.alloc _).b 5 i0 Tryd.underlying46 hi hz0 hz1 hz2 hlen.out.2 m hlen.out.1 rfl _ 0 1 rfl (cellN_new rfl rfl) ?_); intro B2 c2 w2 hb2 hg2 hn2; have S2 := Aside0.mk ((S.out.alloc _).next hb2 hg2 hn2); clear hb2 hg2 hn2 S)
      go_roundw
      case rel => exact ⟨k + 1, m + 1, B2, c2, hkz, ⟨by rw [hm.out]; omega⟩, rfl, ⟨by rw [← zero_part]; exact S2.out⟩⟩
      case measure => have := hm.out; simp [lenV]; omega
end Go.Proofs.YtabjfogmcehemaaDoor
end

section
namespace Go.Proofs.YtabjfogmcehemaaDoor
open Go.Shelf
def Tryd.lays156_ren : Go.Shelf.Ren := ⟨fun | 156 => 65 | 165 => 74 | 166 => 75 | 169 => 76 | 240 => 78 | 241 => 79 | 276 => 80 | 277 => 81 | n => n, fun | 31 => 22 | 9 => 9 | 3 => 3 | 4 => 4 | 0 => 0 | 20 => 20 | 72 => 100 | 76 => 104 | 70 => 98 | 37 => 46 | 75 => 103 | 127 => 106 | 164 => 107 | 5 => 5 | 80 => 76 | n => n, fun | n => n⟩
theorem Tryd.lays156 : Go.Proofs.Lays.n156 Tryd.prog Tryd.lays156_ren := {
  mixed := by kernel_rfl
  f156 := Tryd.func65.trans (congrArg some (by kernel_rfl))
  f165 := Tryd.func74.trans (congrArg some (by kernel_rfl))
  f166 := Tryd.func75.trans (congrArg some (by kernel_rfl))
  f169 := Tryd.func76.trans (congrArg some (by kernel_rfl))
  f240 := Tryd.func78.trans (congrArg some (by kernel_rfl))
  f241 := Tryd.func79.trans (congrArg some (by kernel_rfl))
  f276 := Tryd.func80.trans (congrArg some (by kernel_rfl))
  f277 := Tryd.func81.trans (congrArg some (by kernel_rfl))
  t0 := Tryd.underlying0
  a0 := Tryd.isAgg0
  z0 := Tryd.sizeOf0
  v0 := Tryd.zeroValue0
  t3 := Tryd.underlying3
  a3 := Tryd.isAgg3
  z3 := Tryd.sizeOf3
  v3 := Tryd.zeroValue3
  t4 := Tryd.underlying4
  a4 := Tryd.isAgg4
  z4 := Tryd.sizeOf4
  v4 := Tryd.zeroValue4
  t9 := Tryd.underlying9
  a9 := Tryd.isAgg9
  z9 := Tryd.sizeOf9
  v9 := Tryd.zeroValue9
  t20 := Tryd.underlying20
  a20 := Tryd.isAgg20
  z20 := Tryd.sizeOf20
  v20 := Tryd.zeroValue20
  t31 := Tryd.underlying22
  a31 := Tryd.isAgg22
  z31 := Tryd.sizeOf22
  v31 := Tryd.zeroValue22
  t37 := Tryd.underlying46
  a37 := Tryd.isAgg46
  z37 := Tryd.sizeOf46
  v37 := Tryd.zeroValue46
  t70 := Tryd.underlying98
  a70 := Tryd.isAgg98
  z70 := Tryd.sizeOf98
  v70 := Tryd.zeroValue98
  t72 := Tryd.underlying100
  a72 := Tryd.isAgg100
  z72 := Tryd.sizeOf100
  v72 := Tryd.zeroValue100
  t75 := Tryd.underlying103
  a75 := Tryd.isAgg103
  z75 := Tryd.sizeOf103
  v75 := Tryd.zeroValue103
  t76 := Tryd.underlying104
  a76 := Tryd.isAgg104
  z76 := Tryd.sizeOf104
  v76 := Tryd.zeroValue104
  t127 := Tryd.underlying106
  a127 := Tryd.isAgg106
  z127 := Tryd.sizeOf106
  v127 := Tryd.zeroValue106
  t164 := Tryd.underlying107
  a164 := Tryd.isAgg107
  z164 := Tryd.sizeOf107
  v164 := Tryd.zeroValue107 }
theorem Tryd.Builder_Extra_156 : Builder.Extra Tryd.prog Tryd.lays156_ren := {
  sizeBuilder := by kernel_rfl
  liesBuilder := by kernel_rfl
  t5 := Tryd.underlying5
  a5 := Tryd.isAgg5
  z5 := Tryd.sizeOf5
  v5 := Tryd.zeroValue5
  infoByte := by kernel_rfl
  cellsByte := by kernel_rfl
  sizeByte := by kernel_rfl
  neB5 := by decide }
open Go.RowKit in
theorem Tryd.strings_Join (bk o c : Nat) (xs : List ByteArray) (sep : ByteArray) (w : World) (hcells : ∀ (j : Nat) x, xs[j]? = some x → w.cell? ⟨bk, o + j, none⟩ = some (.string x)) (hbk : bk < w.heap.size) (hN : xs.length ≤ 140737488355328) (hcap : xs.length ≤ c) (hlen : (Lib.join (xs.map (·.data.toList)) sep.data.toList).length ≤ 140737488355328) :
    Calls Tryd.prog 65 #[.slice (some ⟨bk, o, none⟩) xs.length c, .string sep] w fun e w' => e = .returned (.string ⟨(Lib.join (xs.map (·.data.toList)) sep.data.toList).toArray⟩) ∧ Below w.heap.size w w' := Any.strings_Join Tryd.lays156 Tryd.Builder_Extra_156 bk o c xs sep w hcells hbk hN hcap hlen
def Tryd.laysNm217_ren : Go.Shelf.Ren := ⟨fun | 17 => 41 | n => n, fun | 24 => 22 | 9 => 9 | 3 => 3 | 4 => 4 | 0 => 0 | n => n, fun | n => n⟩
theorem Tryd.laysNm217 : Go.Proofs.Lays2.n17 Tryd.prog Tryd.laysNm217_ren := {
  mixed := by kernel_rfl
  f17 := Tryd.func41.trans (congrArg some (by kernel_rfl))
  t0 := Tryd.underlying0
  a0 := Tryd.isAgg0
  z0 := Tryd.sizeOf0
  v0 := Tryd.zeroValue0
  t3 := Tryd.underlying3
  a3 := Tryd.isAgg3
  z3 := Tryd.sizeOf3
  v3 := Tryd.zeroValue3
  t4 := Tryd.underlying4
  a4 := Tryd.isAgg4
  z4 := Tryd.sizeOf4
  v4 := Tryd.zeroValue4
  t9 := Tryd.underlying9
  a9 := Tryd.isAgg9
  z9 := Tryd.sizeOf9
  v9 := Tryd.zeroValue9
  t24 := Tryd.underlying22
  a24 := Tryd.isAgg22
  z24 := Tryd.sizeOf22
  v24 := Tryd.zeroValue22 }
open Go.RowKit Go.Lib Go.Sort in
theorem Tryd.slices_Reverse_string_empty (a : Option Addr) (cap : Nat) (w : World) :
    Calls Tryd.prog 41 #[.slice a 0 cap] w fun e w' => e = .returned (.tuple #[]) ∧ w' = w := Any.slices_Reverse_string_empty Tryd.laysNm217 a cap w
open Go.RowKit Go.Lib Go.Sort in
theorem Tryd.slices_Reverse_string_cells (b off n c : Nat) (Sx : Nat → ByteArray) (w : World) (hbig : n ≤ 9223372036854775807) (hc : ∀ i, i < n → w.cell? ⟨b, off + i, none⟩ = some (.string (Sx i))) (hf : ∀ j, j < n → w.frozen? ⟨b, off + j, none⟩ = false) :
    Calls Tryd.prog 41 #[.slice (some ⟨b, off, none⟩) n c] w fun e w' => e = .returned (.tuple #[]) ∧ ∃ q, w' = (w.drewN q).setCells b off ((Lib.strsOf Sx n).reverse.map encStr) := Any.slices_Reverse_string_cells Tryd.laysNm217 b off n c Sx w hbig hc hf
end Go.Proofs.YtabjfogmcehemaaDoor
end

section
namespace Go.Proofs.YtabjfogmcehemaaDoor
open Go.RowKit Go.Shelf Go.Proofs.YtabjfogmcehemaaDoorW.PrintWords Go.Proofs.YtabjfogmcehemaaDoorW.PrintLast Go.Proofs.YtabjfogmcehemaaDoorW.PrintMore
set_option linter.unusedVariables false
set_option linter.unusedSimpArgs false
theorem marked_any (mark : ByteArray) (w : World) :
    Calls Tryd.prog 53 #[.string mark] w fun e w' => e = .returned (.func (.func 64) #[] #[.pointer (some ⟨w.heap.size, 0, none⟩)]) ∧ w.alloc (.cells #[.string mark] 9) = w' := by
  go_enter Tryd.func53, Tryd.ntmps53
  go_wp2
  go_ret
  exact ⟨rfl, rfl⟩
def catB : List ByteArray → ByteArray
  | [] => ⟨#[]⟩
  | x :: xs => x ++ catB xs
theorem catB_join (xs : List ByteArray) : (⟨(Lib.join (xs.map (·.data.toList)) (ByteArray.mk #[]).data.toList).toArray⟩ : ByteArray) = catB xs := by
  have e : Lib.join (xs.map (·.data.toList)) (ByteArray.mk #[]).data.toList = (catB xs).data.toList := by
    show List.intercalate [] _ = _
    induction xs with
    | nil => rfl
    | cons x xs ih =>
      cases xs with
      | nil => simp [catB, List.intercalate]
      | cons y ys =>
        simp only [List.map_cons, catB, ByteArray.data_append, Array.toList_append] at ih ⊢
        rw [← ih]
        simp [List.intercalate, List.intersperse]
  rw [e]
structure MkSt (w : World) (M : Nat) (mark : ByteArray) (K o : Nat) (xs : List ByteArray) (W : World) : Prop where
  below : Below w.heap.size w W
  cell : W.cell? ⟨M, 0, none⟩ = some (.string mark)
  cells : ∀ (j : Nat) x, xs[j]? = some x → W.cell? ⟨K, o + j, none⟩ = some (.string x)
  lt : K < W.heap.size
variable {w W : World} {M K o : Nat} {mark : ByteArray} {xs : List ByteArray}
theorem MkSt.drewN (h : MkSt w M mark K o xs W) (n : Nat) : MkSt w M mark K o xs (W.drewN n) := ⟨pw_below_drewN h.below n, h.cell, h.cells, h.lt⟩
theorem MkSt.drew (h : MkSt w M mark K o xs W) : MkSt w M mark K o xs W.drew := h.drewN 1
theorem MkSt.grown {w1 : World} (h : MkSt w M mark K o xs W) (hb : Below W.heap.size W w1) : MkSt w M mark K o xs w1 :=
  ⟨below_step h.below hb, pw_cell_below hb h.cell, fun j x hx => pw_cell_below hb (h.cells j x hx), Nat.lt_of_lt_of_le h.lt hb.size⟩
theorem MkSt.all (h : MkSt w M mark K o xs W) : MkSt w M mark K o xs W ∧ W.cell? ⟨M, 0, none⟩ = some (.string mark) := ⟨h, h.cell⟩
theorem marked1_any (mark : ByteArray) (xs : List ByteArray) (M K o c : Nat) (w : World) (HG : Aside0 (Laid w)) (hM : w.cell? ⟨M, 0, none⟩ = some (.string mark)) (hcells : ∀ (j : Nat) x, xs[j]? = some x → w.cell? ⟨K, o + j, none⟩ = some (.string x))
    (hK : K < w.heap.size) (hN : xs.length ≤ 1000) (hcap : xs.length ≤ c) (hlen : mark.size + (catB xs).size ≤ 70368744177664) :
    Calls Tryd.prog 64 #[.slice (some ⟨K, o, none⟩) xs.length c, .pointer (some ⟨M, 0, none⟩)] w fun e w' => e = .returned (.string (sumF (mark ++ catB xs))) ∧ Below w.heap.size w w' := by
  have h0 : MkSt w M mark K o xs w := ⟨Below.refl _ _, hM, hcells, hK⟩
  have J : Aside0 (∀ W, MkSt w M mark K o xs W → Calls Tryd.prog 65 #[.slice (some ⟨K, o, none⟩) xs.length c, .string ⟨#[]⟩] W fun e w' => e = .returned (.string (catB xs)) ∧ MkSt w M mark K o xs w') := ⟨fun W h => by
    have hj := Tryd.strings_Join K o c xs ⟨#[]⟩ W h.cells h.lt (by omega) hcap (by
      have e := congrArg ByteArray.size (catB_join xs)
      simp only [ByteArray.size, List.size_toArray] at e
      rw [e]
      simp only [ByteArray.size] at hlen
      omega)
    rw [catB_join] at hj
    exact hj.mono fun e w' ⟨he, hb⟩ => ⟨he, h.grown hb⟩⟩
  have S : Aside0 (∀ W, MkSt w M mark K o xs W → Calls Tryd.prog 30 #[.string (mark ++ catB xs)] W fun e w' => e = .returned (.string (sumF (mark ++ catB xs))) ∧ MkSt w M mark K o xs w') := ⟨fun W h => by
    exact (sum_any (mark ++ catB xs) W ⟨HG.out.below h.below⟩ (by rw [ByteArray.size_append]; exact hlen)).mono fun e w' ⟨he, hb⟩ => ⟨he, h.grown hb⟩⟩
  have hz := hlen
  generalize catB xs = cx at *
  generalize sumF (mark ++ cx) = r at *
  clear hcells
  have hz2 : (9223372036854775807 < mark.size + cx.size) = False := eq_false (by omega)
  have hz3 : (mark.size + cx.size ≤ 9223372036854775807) = True := eq_true (by omega)
  go_enter Tryd.func64, Tryd.ntmps64
  go_wp2
  go_region_held3 (fun w' => MkSt w M mark K o xs w' ∧ w'.cell? ⟨M, 0, none⟩ = some (.string mark)) ((refine MkSt.all ?_; repeat (first | with_reducible assumption | with_reducible apply MkSt.drew | with_reducible apply MkSt.drewN))) ((first | (go_at_call 65; with_reducible refine (J.out _ ?_).mono ?_; (focus (repeat (first | with_reducible assumption | with_reducible apply MkSt.drew | with_reducible apply MkSt.drewN))); rintro e w' ⟨rfl, hs⟩) | (go_at_call 30; with_reducible refine (S.out _ ?_).mono ?_; (focus (repeat (first | with_reducible assumption | with_reducible apply MkSt.drew | with_reducible apply MkSt.drewN))); rintro e w' ⟨rfl, hs⟩)))
  go_wp2
  go_ret
  exact ⟨rfl, by first | exact hs.below | (rename_i h; exact h.below)⟩
def leafB (s : ByteArray) : ByteArray := sumF (⟨#[0]⟩ ++ s)
def nodeB (a b : ByteArray) : ByteArray := sumF (⟨#[1]⟩ ++ a ++ b)
theorem app_nil (a : ByteArray) : a ++ (⟨#[]⟩ : ByteArray) = a := ByteArray.append_empty
theorem cat1 (m a : ByteArray) : m ++ catB [a] = m ++ a := by
  simp only [catB, app_nil]
theorem cat2 (m a b : ByteArray) : m ++ catB [a, b] = m ++ a ++ b := by
  simp only [catB, app_nil, ByteArray.append_assoc]
theorem leafB_size (s : ByteArray) : (leafB s).size = 32 := sumF_size _
theorem nodeB_size (a b : ByteArray) : (nodeB a b).size = 32 := sumF_size _
theorem one_size (x : UInt8) : (ByteArray.mk #[x]).size = 1 := rfl
theorem leaf_any (s : ByteArray) (w : World) (HG : Aside0 (Laid w)) (hs : s.size ≤ 35184372088832) :
    Calls Tryd.prog 29 #[.string s] w fun e w' => e = .returned (.string (leafB s)) ∧ Below w.heap.size w w' := by
  have H : Aside0 (∀ W : World, Below w.heap.size w W → ∀ M K, W.cell? ⟨M, 0, none⟩ = some (.string ⟨#[0]⟩) → W.cell? ⟨K, 0, none⟩ = some (.string s) → K < W.heap.size →
      Calls Tryd.prog 64 #[.slice (some ⟨K, 0, none⟩) 1 1, .pointer (some ⟨M, 0, none⟩)] W fun e w' => e = .returned (.string (leafB s)) ∧ Below w.heap.size w w') := ⟨fun W hb M K h1 h2 h3 => by
    have := marked1_any ⟨#[0]⟩ [s] M K 0 1 W ⟨HG.out.below hb⟩ h1 (fun j x hx => by
      have hj : j < 1 := (List.getElem?_eq_some_iff.1 hx).1
      obtain rfl : j = 0 := by omega
      cases hx
      exact h2) h3 (by show _ ≤ 1000; simp) (Nat.le_refl _) (by simp [catB, ByteArray.size_append, one_size]; show 1 + (s.size + 0) ≤ _; omega)
    rw [cat1] at this
    exact this.mono fun e w' ⟨he, hb'⟩ => ⟨he, below_step hb hb'⟩⟩
  go_enter Tryd.func29, Tryd.ntmps29
  go_wp2_with (first
    | (go_at_call 53; with_reducible refine (marked_any _ _).mono ?_; rintro e w' ⟨rfl, rfl⟩)
    | (go_at_call 64; go_must (refine (H.out _ (((Below.refl _ _).alloc (Nat.le_refl _) _).alloc (by simp) _) _ _ (cellN_old (by simp) (cellN_new rfl rfl)) (cellN_new (by simp) rfl) (by simp)).mono ?_); rintro e w' ⟨rfl, hb⟩))
  go_ret
  exact ⟨rfl, hb⟩
theorem node_any (a b : ByteArray) (w : World) (HG : Aside0 (Laid w)) (hs : a.size + b.size ≤ 35184372088832) :
    Calls Tryd.prog 32 #[.string a, .string b] w fun e w' => e = .returned (.string (nodeB a b)) ∧ Below w.heap.size w w' := by
  have H : Aside0 (∀ W : World, Below w.heap.size w W → ∀ M K, W.cell? ⟨M, 0, none⟩ = some (.string ⟨#[1]⟩) → W.cell? ⟨K, 0, none⟩ = some (.string a) → W.cell? ⟨K, 1, none⟩ = some (.string b) → K < W.heap.size →
      Calls Tryd.prog 64 #[.slice (some ⟨K, 0, none⟩) 2 2, .pointer (some ⟨M, 0, none⟩)] W fun e w' => e = .returned (.string (nodeB a b)) ∧ Below w.heap.size w w') := ⟨fun W hb M K h1 h2 h2' h3 => by
    have := marked1_any ⟨#[1]⟩ [a, b] M K 0 2 W ⟨HG.out.below hb⟩ h1 (fun j x hx => by
      have hj : j < 2 := (List.getElem?_eq_some_iff.1 hx).1
      obtain rfl | rfl : j = 0 ∨ j = 1 := by omega
      · cases hx; exact h2
      · cases hx; exact h2') h3 (by show _ ≤ 1000; simp) (Nat.le_refl _) (by simp [catB, ByteArray.size_append, one_size]; show 1 + (a.size + (b.size + 0)) ≤ _; omega)
    rw [cat2] at this
    exact this.mono fun e w' ⟨he, hb'⟩ => ⟨he, below_step hb hb'⟩⟩
  go_enter Tryd.func32, Tryd.ntmps32
  go_wp2_with (first
    | (go_at_call 53; with_reducible refine (marked_any _ _).mono ?_; rintro e w' ⟨rfl, rfl⟩)
    | (go_at_call 64; go_must (refine (H.out _ (((Below.refl _ _).alloc (Nat.le_refl _) _).alloc (by simp) _) _ _ (cellN_old (by simp) (cellN_new rfl rfl)) (cellN_new (by simp) rfl) (cellN_new (by simp) rfl) (by simp)).mono ?_); rintro e w' ⟨rfl, hb⟩))
  go_ret
  exact ⟨rfl, hb⟩
def digest_Sum.f (a0 : ByteArray) : Option ByteArray := if a0.size ≤ 70368744177664 then some (sumF a0) else none
theorem digest_Sum.calls (a0 : ByteArray) (r : ByteArray) (w : World) (HG : Aside0 (Laid w)) (h : digest_Sum.f a0 = some r) :
    Calls Tryd.prog 30 #[.string a0] w fun e w' => e = .returned (.string r) ∧ Below w.heap.size w w' := by
  unfold digest_Sum.f at h
  split at h
  · rename_i hc
    cases h
    exact sum_any a0 w HG hc
  · cases h
end Go.Proofs.YtabjfogmcehemaaDoor
end

section
namespace Go.Proofs.YtabjfogmcehemaaDoor
set_option linter.unusedVariables false
set_option linter.unusedSimpArgs false
abbrev Stk := List (ByteArray × Nat)
def collapse : Nat → Stk → Stk
  | 0, st => st
  | _ + 1, [] => []
  | _ + 1, [x] => [x]
  | k + 1, x :: y :: t => if y.2 = x.2 then collapse k ((nodeB y.1 x.1, 2 * x.2) :: t) else x :: y :: t
def pushS (st : Stk) (s : ByteArray) : Stk := collapse (st.length + 1) ((leafB s, 1) :: st)
def stackS (l : List ByteArray) : Stk := l.foldl pushS []
def finishS : Stk → ByteArray
  | [] => sumF ⟨#[]⟩
  | x :: t => t.foldl (fun out p => nodeB p.1 out) x.1
def rootS (l : List ByteArray) : ByteArray := finishS (stackS l)
theorem stackS_take (l : List ByteArray) (k : Nat) (s : ByteArray) (h : l[k]? = some s) : stackS (l.take (k + 1)) = pushS (stackS (l.take k)) s := by
  unfold stackS
  rw [List.take_add_one, h]
  simp
structure Good (st : Stk) (n : Nat) : Prop where
  sum : (st.map (·.2)).sum = n
  size : ∀ x ∈ st, x.1.size = 32
  pos : ∀ x ∈ st, 1 ≤ x.2
theorem good_nil : Good [] 0 := ⟨rfl, by simp, by simp⟩
theorem Good.join {x y : ByteArray × Nat} {t : Stk} {n : Nat} (h : Good (x :: y :: t) n) (he : y.2 = x.2) : Good ((nodeB y.1 x.1, 2 * x.2) :: t) n := by
  refine ⟨?_, ?_, ?_⟩
  · have := h.sum
    simp only [List.map_cons, List.sum_cons] at this ⊢
    omega
  · intro z hz
    rcases List.mem_cons.1 hz with rfl | hz
    · exact nodeB_size _ _
    · exact h.size z (List.mem_cons_of_mem _ (List.mem_cons_of_mem _ hz))
  · intro z hz
    rcases List.mem_cons.1 hz with rfl | hz
    · have := h.pos x (by simp); show 1 ≤ 2 * x.2; omega
    · exact h.pos z (List.mem_cons_of_mem _ (List.mem_cons_of_mem _ hz))
theorem Good.le {st : Stk} {n : Nat} (h : Good st n) (x : ByteArray × Nat) (hx : x ∈ st) : x.2 ≤ n := by
  rw [← h.sum]
  have : ∀ st : Stk, x ∈ st → x.2 ≤ (st.map (·.2)).sum := by
    intro st
    induction st with
    | nil => intro h; cases h
    | cons y t ih =>
      intro h
      simp only [List.map_cons, List.sum_cons]
      rcases List.mem_cons.1 h with rfl | h
      · omega
      · have := ih h; omega
  exact this st hx
theorem Good.len {st : Stk} {n : Nat} (h : Good st n) : st.length ≤ n := by
  rw [← h.sum]
  have : ∀ st : Stk, (∀ x ∈ st, 1 ≤ x.2) → st.length ≤ (st.map (·.2)).sum := by
    intro st
    induction st with
    | nil => intro _; simp
    | cons y t ih =>
      intro h
      simp only [List.map_cons, List.sum_cons, List.length_cons]
      have h1 := h y (by simp)
      have := ih (fun x hx => h x (List.mem_cons_of_mem _ hx))
      omega
  exact this st h.pos
theorem Good.push {st : Stk} {n : Nat} (h : Good st n) (s : ByteArray) : Good ((leafB s, 1) :: st) (n + 1) := by
  refine ⟨?_, ?_, ?_⟩
  · simp only [List.map_cons, List.sum_cons, h.sum]; omega
  · intro z hz
    rcases List.mem_cons.1 hz with rfl | hz
    · exact leafB_size _
    · exact h.size z hz
  · intro z hz
    rcases List.mem_cons.1 hz with rfl | hz
    · exact Nat.le_refl _
    · exact h.pos z hz
theorem Good.collapse {n : Nat} : ∀ (k : Nat) (st : Stk), Good st n → Good (collapse k st) n := by
  intro k
  induction k with
  | zero => exact fun _ h => h
  | succ k ih =>
    intro st h
    match st, h with
    | [], h => exact h
    | [x], h => exact h
    | x :: y :: t, h =>
      simp only [YtabjfogmcehemaaDoor.collapse]
      split
      · rename_i he; exact ih _ (h.join he)
      · exact h
theorem good_stack (l : List ByteArray) : Good (stackS l) l.length := by
  have : ∀ (l : List ByteArray) (st : Stk) (n : Nat), Good st n → Good (l.foldl pushS st) (n + l.length) := by
    intro l
    induction l with
    | nil => exact fun st n h => h
    | cons s l ih =>
      intro st n h
      simp only [List.foldl_cons, List.length_cons]
      rw [show n + (l.length + 1) = (n + 1) + l.length by omega]
      exact ih _ _ (Good.collapse _ _ (h.push s))
  have := this l [] 0 good_nil
  rwa [Nat.zero_add] at this
theorem collapse_pos : ∀ (k : Nat) (st : Stk), st ≠ [] → collapse k st ≠ [] := by
  intro k
  induction k with
  | zero => exact fun _ h => h
  | succ k ih =>
    intro st h
    match st, h with
    | [], h => exact h
    | [x], h => exact h
    | x :: y :: t, h =>
      simp only [collapse]
      split
      · exact ih _ (by simp)
      · exact h
theorem stack_pos (l : List ByteArray) (h : l ≠ []) : stackS l ≠ [] := by
  have : ∀ (l : List ByteArray) (st : Stk), l ≠ [] ∨ st ≠ [] → l.foldl pushS st ≠ [] := by
    intro l
    induction l with
    | nil => intro st h; rcases h with h | h; exact absurd rfl h; exact h
    | cons s l ih =>
      intro st _
      exact ih _ (.inr (collapse_pos _ _ (by simp)))
  exact this l [] (.inl h)
end Go.Proofs.YtabjfogmcehemaaDoor
end

section
namespace Go.Proofs.YtabjfogmcehemaaDoor
open Go.RowKit Go.Shelf Go.Proofs.YtabjfogmcehemaaDoorW.PrintWords Go.Proofs.YtabjfogmcehemaaDoorW.PrintLast Go.Proofs.YtabjfogmcehemaaDoorW.PrintMore
set_option linter.unusedVariables false
set_option linter.unusedSimpArgs false
attribute [local go_sem] Oper.semAt_some
attribute [local go_sem] max2_int min2_int max_two min_two
def backL {α : Type} (d : α) (xs : List α) : Nat → List (Nat × α)
  | 0 => []
  | k + 1 => (k, xs.getD k d) :: backL d xs k
def encB (p : Nat × ByteArray) : Array Value := #[.int .i64 (p.1 : Nat), .string p.2]
theorem backward_any (a : Option Addr) (l c : Nat) (w : World) :
    Calls Tryd.prog 44 #[.slice a l c] w fun e w' => e = .returned (.func (.func 60) #[] #[.pointer (some ⟨w.heap.size, 0, none⟩)]) ∧ w.alloc (.cells #[.slice a l c] 22) = w' := by
  go_enter Tryd.func44, Tryd.ntmps44
  go_wp2
  go_ret
  exact ⟨rfl, rfl⟩
set_option maxRecDepth 100000 in
set_option maxHeartbeats 4000000 in
theorem back_gives (F : Fence) (n : Nat) (h60 : F.fn 60) (hro : F.round = none) (hn : 1 ≤ n) (S R c : Nat) (xs : List ByteArray) (hxl : xs.length ≤ 140737488355328) (w : World)
    (hS : w.heap[S]? = some (.cells #[.slice (some ⟨R, 0, none⟩) xs.length c] 22 (0, 0))) (hcell : ∀ j x, xs[j]? = some x → w.cell? ⟨R, j, none⟩ = some (.string x)) (hR : R < w.heap.size) :
    GivesFix F n Tryd.prog 60 #[.pointer (some ⟨S, 0, none⟩)] encB (backL ⟨#[]⟩ xs xs.length) (fun _ => False) (fun W W' => W'.heap[S]? = W.heap[S]? ∧ W'.heap[R]? = W.heap[R]?) w := by
  intro l J W hW hJ hY h0
  have h1 := (hW.block S (Array.getElem?_eq_some_iff.1 hS).1).trans hS
  have h2 := hW.block R hR
  clear hS hW
  refine callsIn_of_wp Tryd.func60 rfl h60 ?_ hro
  simp only [Tryd.ntmps60, List.size_toArray, List.length_cons, List.length_nil, Nat.reduceAdd, Nat.reduceSub, Array.replicate_succ, Array.replicate_zero, List.push_toArray, List.append_toArray, List.nil_append, List.cons_append]
  obtain ⟨c0, f0⟩ := cell_box h1
  have HX := Aside0.mk hcell
  clear hcell
  obtain ⟨m, hm⟩ : ∃ m, xs.length = m := ⟨_, rfl⟩
  have HM := Aside0.mk hm
  rw [hm] at hxl h1 c0
  have HB0 := Aside0.mk (show backL ⟨#[]⟩ xs xs.length = [] ++ backL ⟨#[]⟩ xs m by rw [hm]; rfl)
  clear hm
  gi_wp2
  clear c0 f0
  gi_loopw [3] (fun i wr => ∃ (pre : List (Nat × ByteArray)) (k : Nat), k ≤ m ∧ i = .int .i64 ((k : Int) - 1) ∧ Aside0 (backL ⟨#[]⟩ xs xs.length = pre ++ backL ⟨#[]⟩ xs k) ∧ J pre wr ∧ wr.heap[S]? = some (.cells #[.slice (some ⟨R, 0, none⟩) m c] 22 (0, 0)) ∧ Aside0 (wr.heap[R]? = w.heap[R]?))
    (fun i _ => (intOf i + 1).toNat)
  case atStart => exact ⟨[], m, Nat.le_refl _, rfl, HB0, h0, h1, ⟨h2⟩⟩
  case round =>
    obtain ⟨pre, k, hk, rfl, HB, hJs, hb1, hb2⟩ := hrel
    obtain ⟨c1, f1⟩ := cell_box hb1
    clear h0 h1 h2 HB0
    by_cases hlt : 0 < k
    · obtain ⟨j, rfl⟩ : ∃ j, k = j + 1 := ⟨k - 1, by omega⟩
      have hjm : j < m := by omega
      obtain ⟨x, hx⟩ : ∃ x, xs[j]? = some x := ⟨_, List.getElem?_eq_getElem (by rw [HM.out]; omega)⟩
      have hB : backL ⟨#[]⟩ xs (j + 1) = (j, x) :: backL ⟨#[]⟩ xs j := by
        show (j, xs.getD j ⟨#[]⟩) :: _ = _
        rw [List.getD_eq_getElem?_getD, hx]; rfl
      have hcx : wr.cell? ⟨R, j, none⟩ = some (.string x) := (World.cell?_of_block (a := ⟨R, j, none⟩) hb2.out).trans (HX.out j x hx)
      have HBn : Aside0 (backL ⟨#[]⟩ xs xs.length = (pre ++ [(j, x)]) ++ backL ⟨#[]⟩ xs j) := ⟨by rw [HB.out, hB]; simp⟩
      obtain ⟨fn, tmps, assign, body, hy, hRr⟩ := hY pre (j, x) wr hJs (by rw [HBn.out]; exact List.prefix_append _ _)
      dsimp only [encB] at hy
      have HJ := Aside0.mk hJ
      clear hY hJ hJs hx hB HB hlt
      have e1 : ((j + 1 : Nat) : Int) - 1 = (j : Int) := by omega
      have e2 : (0 : Int) ≤ (j : Int) := by omega
      have e3 : (j : Int) < (m : Int) := by omega
      rw [e1]
      clear e1
      gi_wp2
      refine hRr.mono ?_
      rintro e W' ⟨rfl, hJ', hk1, hk2⟩
      have g1 : W'.heap[S]? = some (.cells #[.slice (some ⟨R, 0, none⟩) m c] 22 (0, 0)) := hk1.trans hb1
      have g2 : Aside0 (W'.heap[R]? = w.heap[R]?) := ⟨hk2.trans hb2.out⟩
      have GG := Aside0.mk (And.intro hJ' g1)
      clear g1 hJ' hk1 hk2 c1 f1 hcx hb1 hb2 hRr hy
      gi_wp2
      refine ⟨⟨pre ++ [(j, x)], j, by omega, by go_num, HBn, GG.out.1, GG.out.2, g2⟩, ?_⟩
      simp [intOf]
    · obtain rfl : k = 0 := by omega
      have hB0 : backL ⟨#[]⟩ xs xs.length = pre := by rw [HB.out]; simp [backL]
      have HQ := Aside0.mk (show J (backL ⟨#[]⟩ xs xs.length) wr by rw [hB0]; exact hJs)
      clear hJs hJ hY HB hB0
      gi_wp2
      refine ⟨rfl, .tuple #[], by simp [results, Tryd.results60, go_sem], ⟨_, rfl⟩, HQ.out⟩
end Go.Proofs.YtabjfogmcehemaaDoor
end

section
namespace Go.Proofs.YtabjfogmcehemaaDoor
open Go.RowKit Go.Shelf Go.Proofs.YtabjfogmcehemaaDoorW.PrintWords Go.Proofs.YtabjfogmcehemaaDoorW.PrintLast Go.Proofs.YtabjfogmcehemaaDoorW.PrintMore
set_option linter.unusedVariables false
set_option linter.unusedSimpArgs false
attribute [local go_sem] Oper.semAt_some
attribute [local go_sem] max2_int min2_int max_two min_two max_three min_three max_four min_four
attribute [local go_sem ↓] Go.wp_at_zero Go.wp_at_succ
def strsV (rs : List ByteArray) : List Value := rs.map Value.string
def natsV (ns : List Nat) : List Value := ns.map fun n : Nat => Value.int .i64 (n : Int)
structure RSt (w : World) (rs : List ByteArray) (ns : List Nat) (vw vs : Value) (W : World) : Prop where
  below : Below w.heap.size w W
  who : W.ownsRow w.heap.size 9 1 vw rs.length (strsV rs)
  siz : W.ownsRow w.heap.size 3 1 vs ns.length (natsV ns)
section
variable {w W w1 : World} {rs : List ByteArray} {ns : List Nat} {vw vs : Value}
theorem RSt.grown (h : RSt w rs ns vw vs W) (hb : Below W.heap.size W w1) : RSt w rs ns vw vs w1 :=
  ⟨below_step h.below hb, own_move h.who (fun k hk => hb.block k (own_lt h.who k hk)), own_move h.siz (fun k hk => hb.block k (own_lt h.siz k hk))⟩
theorem RSt.alloc (h : RSt w rs ns vw vs W) (o : Obj) : RSt w rs ns vw vs (W.alloc o) := h.grown ((Below.refl _ _).alloc (Nat.le_refl _) o)
theorem RSt.drewN (h : RSt w rs ns vw vs W) (n : Nat) : RSt w rs ns vw vs (W.drewN n) := h.grown (pw_below_drewN (Below.refl _ _) n)
theorem RSt.drew (h : RSt w rs ns vw vs W) : RSt w rs ns vw vs W.drew := h.drewN 1
theorem RSt.pushW (h : RSt w rs ns vw vs W) {v' : Value} {r : ByteArray} (ho : w1.ownsRow w.heap.size 9 1 v' (rs.length + 1) (strsV rs ++ [.string r])) (hg : W.grownBy w1 vw.ownBlock) : RSt w (rs ++ [r]) ns v' vs w1 where
  below := h.below.grown hg h.below.size (fun k hk => own_base h.who k hk)
  who := by rw [List.length_append, List.length_singleton]; simpa [strsV] using ho
  siz := own_other h.siz hg (own_type_ne h.siz h.who (by decide))
theorem RSt.pushS (h : RSt w rs ns vw vs W) {v' : Value} {m : Nat} (ho : w1.ownsRow w.heap.size 3 1 v' (ns.length + 1) (natsV ns ++ [.int .i64 (m : Nat)])) (hg : W.grownBy w1 vs.ownBlock) : RSt w rs (ns ++ [m]) vw v' w1 where
  below := h.below.grown hg h.below.size (fun k hk => own_base h.siz k hk)
  who := own_other h.who hg (own_type_ne h.who h.siz (by decide))
  siz := by rw [List.length_append, List.length_singleton]; simpa [natsV] using ho
theorem own_take {base g n cap m : Nat} {e : TypeId} {xs : List Value} (h : W.ownsRow base e 1 (.slice (some ⟨g, 0, none⟩) n cap) n xs) (hm : m ≤ n) : W.ownsRow base e 1 (.slice (some ⟨g, 0, none⟩) m cap) m (xs.take m) := by
  obtain ⟨h1, h2⟩ := h
  rcases h2 with ⟨h2, _⟩ | ⟨g', cap', cur, he, hg, hh, hn, hc, hs, ht⟩
  · cases h2
  · cases he
    refine ⟨by rw [List.length_take]; omega, .inr ⟨g, cap, cur, rfl, hg, hh, by omega, hc, hs, ?_⟩⟩
    rw [← ht, List.take_take, Nat.mul_one, Nat.mul_one, Nat.min_eq_left hm]
theorem RSt.popW {g n cap m : Nat} (h : RSt w rs ns (.slice (some ⟨g, 0, none⟩) n cap) vs W) (hn : n = rs.length) (hm : m ≤ n) : RSt w (rs.take m) ns (.slice (some ⟨g, 0, none⟩) m cap) vs W := by
  subst hn
  refine ⟨h.below, ?_, h.siz⟩
  have := own_take h.who hm
  rw [List.length_take, Nat.min_eq_left hm]
  simpa [strsV, List.map_take] using this
theorem RSt.popS {g n cap m : Nat} (h : RSt w rs ns vw (.slice (some ⟨g, 0, none⟩) n cap) W) (hn : n = ns.length) (hm : m ≤ n) : RSt w rs (ns.take m) vw (.slice (some ⟨g, 0, none⟩) m cap) W := by
  subst hn
  refine ⟨h.below, h.who, ?_⟩
  have := own_take h.siz hm
  rw [List.length_take, Nat.min_eq_left hm]
  simpa [natsV, List.map_take] using this
theorem own_cell {base g n cap j : Nat} {e : TypeId} {xs : List Value} {v : Value} (h : W.ownsRow base e 1 (.slice (some ⟨g, 0, none⟩) n cap) n xs) (hv : xs[j]? = some v) : W.cell? ⟨g, j, none⟩ = some v := by
  obtain ⟨h1, h2⟩ := h
  rcases h2 with ⟨h2, _⟩ | ⟨g', cap', cur, he, hg, hh, hn, hc, hs, ht⟩
  · cases h2
  · cases he
    unfold World.cell?
    rw [hh]
    simp only [Option.bind_some]
    rw [← ht, List.getElem?_take] at hv
    split at hv
    · rw [Array.getElem?_toList] at hv; exact hv
    · cases hv
theorem own_cap {base g n cap : Nat} {e : TypeId} {xs : List Value} (h : W.ownsRow base e 1 (.slice (some ⟨g, 0, none⟩) n cap) n xs) : n ≤ cap ∧ cap ≤ maxLen := by
  rcases h.2 with ⟨h2, _⟩ | ⟨g', cap', cur, he, hg, hh, hn, hc, hs, ht⟩
  · cases h2
  · cases he; exact ⟨hn, hc⟩
end
theorem own_form {w : World} {base n : Nat} {e : TypeId} {v : Value} {xs : List Value} (h : w.ownsRow base e 1 v n xs) (hn : 0 < n) : ∃ g cap, v = .slice (some ⟨g, 0, none⟩) n cap := by
  rcases h.2 with ⟨_, h2⟩ | ⟨g, cap, cur, rfl, _⟩
  · omega
  · exact ⟨g, cap, rfl⟩
theorem own_gt {w : World} {base g n cap : Nat} {e : TypeId} {xs : List Value} (h : w.ownsRow base e 1 (.slice (some ⟨g, 0, none⟩) n cap) n xs) : base ≤ g ∧ g < w.heap.size := ⟨own_base h g rfl, own_lt h g rfl⟩
theorem collapse_nil (f : Nat) : collapse f [] = [] := by cases f <;> rfl
theorem collapse_one (f : Nat) (x : ByteArray × Nat) : collapse f [x] = [x] := by cases f <;> rfl
theorem collapse_ne (f : Nat) (x y : ByteArray × Nat) (t : Stk) (h : y.2 ≠ x.2) : collapse f (x :: y :: t) = x :: y :: t := by
  cases f with
  | zero => rfl
  | succ f => simp only [collapse]; rw [if_neg h]
theorem collapse_eq (f : Nat) (x y : ByteArray × Nat) (t : Stk) (h : y.2 = x.2) : collapse (f + 1) (x :: y :: t) = collapse f ((nodeB y.1 x.1, 2 * x.2) :: t) := by
  simp only [collapse]; rw [if_pos h]
structure InSt (w : World) (k : Nat) (tgt : Stk) (st : Stk) (a b : Value) (W : World) : Prop where
  r : RSt w (st.map (·.1)).reverse (st.map (·.2)).reverse a b W
  good : Good st k
  tgt : ∃ f, st.length ≤ f ∧ collapse f st = tgt
section
variable {α β : Type} (f : α → β) (p q : α) (t : List α)
theorem rev_len : ((p :: q :: t).map f).reverse.length = t.length + 2 := by simp
theorem rev_at0 : ((p :: q :: t).map f).reverse[t.length]? = some (f q) := by
  rw [List.getElem?_reverse (by simp; omega)]
  simp
theorem rev_at1 : ((p :: q :: t).map f).reverse[t.length + 1]? = some (f p) := by
  rw [List.getElem?_reverse (by simp)]
  simp
theorem rev_take : ((p :: q :: t).map f).reverse.take t.length = (t.map f).reverse := by
  simp
end
theorem info9 : (Tryd.prog.info? 9).map (fun i => (i.zero, i.size, i.bytes)) = some (some (.string ⟨#[]⟩), 1, 16) := by kernel_rfl
theorem info3 : (Tryd.prog.info? 3).map (fun i => (i.zero, i.size, i.bytes)) = some (some (.int .i64 0), 1, 8) := by kernel_rfl
theorem InSt.next {w W : World} {k : Nat} {tgt : Stk} {p q : ByteArray × Nat} {t : Stk} {a b a0 b0 : Value} {W0 : World} (h : InSt w k tgt (p :: q :: t) a0 b0 W0) (he : q.2 = p.2) {rs : List ByteArray} {ns : List Nat} {r : ByteArray} (hr : nodeB q.1 p.1 = r)
    (h1 : rs = (t.map (·.1)).reverse) (h2 : ns = (t.map (·.2)).reverse) (hR : RSt w (rs ++ [r]) (ns ++ [2 * p.2]) a b W) : InSt w k tgt ((r, 2 * p.2) :: t) a b W := by
  subst hr h1 h2
  refine ⟨by simpa using hR, h.good.join he, ?_⟩
  obtain ⟨f, hf, hc⟩ := h.tgt
  obtain ⟨f, rfl⟩ : ∃ g, f = g + 1 := ⟨f - 1, by simp only [List.length_cons] at hf; omega⟩
  rw [collapse_eq f p q t he] at hc
  exact ⟨f, by simp only [List.length_cons] at hf ⊢; omega, hc⟩
theorem InSt.stop {w W : World} {k : Nat} {tgt st : Stk} {a b : Value} (h : InSt w k tgt st a b W) (hs : ∀ f, collapse f st = st) : tgt = st := by
  obtain ⟨f, hf, hc⟩ := h.tgt
  rw [← hc, hs]
theorem add0 (a : Addr) : a.add 0 = a := by cases a; rename_i b o m; cases m <;> simp [Addr.add]
section
variable {w W : World} {rs : List ByteArray} {ns : List Nat} {ops : Array Oper} {o : Oper} {a : Act} {K : Act → World → Prop} {Q : Exit → Act → World → Prop} {E : Prop}
theorem RSt.stepW (hgd : o.guard = none) (s x : Operand) (ho : o.op = .call { callee := .builtin .append, args := #[s, x], argTypes := #[22, 22] }) {vs : Value} {ga N ca : Nat}
    (h : RSt w rs ns (.slice (some ⟨ga, 0, none⟩) N ca) vs W) (hN : rs.length = N) (m : Nat) (hm : m ≤ N) (hN2 : N ≤ 1000001) (hs : a.eval s = .slice (some ⟨ga, 0, none⟩) m ca) (ad : Addr) (mm : Nat) (r : ByteArray)
    (hx : a.eval x = .slice (some ad) 1 mm) (hc : W.cell? ad = some (.string r))
    (hK : ∀ g cap w', RSt w (rs.take m ++ [r]) ns (.slice (some ⟨g, 0, none⟩) (m + 1) cap) vs w' → K (a.put o.dst (.slice (some ⟨g, 0, none⟩) (m + 1) cap)) w') :
    if Region.wanted o (yielded ops a.tmps) = true then Oper.wp Tryd.prog o a W K Q else E := by
  obtain ⟨i9, hi9, hz9, hs9, hb9⟩ := info_parts info9
  have hp := h.popW hN.symm hm
  have hw := hp.who
  rw [List.length_take, hN, Nat.min_eq_left hm] at hw
  refine step_append_lies _ hgd s x 22 ho w.heap.size 9 i9 _ 1 16 Tryd.underlying22 hi9 hz9 hs9 hb9 rfl (by decide) _ m (strsV (rs.take m)) hs hw ad 1 mm [.string r] hx rfl (fun j u hu => ?_) (by simp [Value.oneCell']) (by decide) (by unfold maxLen; omega) (by omega) h.below.size _ rfl ?_
  · have hj : j < 1 := (List.getElem?_eq_some_iff.1 hu).1
    obtain rfl : j = 0 := by omega
    cases hu
    rw [add0]; exact hc
  · intro g cap w' ho' hg _ _
    refine hK g cap w' (hp.pushW ?_ hg)
    rw [List.length_take, hN, Nat.min_eq_left hm]
    exact ho'
theorem RSt.stepS (hgd : o.guard = none) (s x : Operand) (ho : o.op = .call { callee := .builtin .append, args := #[s, x], argTypes := #[49, 49] }) {vw : Value} {gb N cb : Nat}
    (h : RSt w rs ns vw (.slice (some ⟨gb, 0, none⟩) N cb) W) (hN : ns.length = N) (m : Nat) (hm : m ≤ N) (hN2 : N ≤ 1000001) (hs : a.eval s = .slice (some ⟨gb, 0, none⟩) m cb) (ad : Addr) (mm : Nat) (r : Nat)
    (hx : a.eval x = .slice (some ad) 1 mm) (hc : W.cell? ad = some (.int .i64 (r : Nat)))
    (hK : ∀ g cap w', RSt w rs (ns.take m ++ [r]) vw (.slice (some ⟨g, 0, none⟩) (m + 1) cap) w' → K (a.put o.dst (.slice (some ⟨g, 0, none⟩) (m + 1) cap)) w') :
    if Region.wanted o (yielded ops a.tmps) = true then Oper.wp Tryd.prog o a W K Q else E := by
  obtain ⟨i3, hi3, hz3, hs3, hb3⟩ := info_parts info3
  have hp := h.popS hN.symm hm
  have hw := hp.siz
  rw [List.length_take, hN, Nat.min_eq_left hm] at hw
  refine step_append_lies _ hgd s x 49 ho w.heap.size 3 i3 _ 1 8 Tryd.underlying49 hi3 hz3 hs3 hb3 rfl (by decide) _ m (natsV (ns.take m)) hs hw ad 1 mm [.int .i64 (r : Nat)] hx rfl (fun j u hu => ?_) (by simp [Value.oneCell']) (by decide) (by unfold maxLen; omega) (by omega) h.below.size _ rfl ?_
  · have hj : j < 1 := (List.getElem?_eq_some_iff.1 hu).1
    obtain rfl : j = 0 := by omega
    cases hu
    rw [add0]; exact hc
  · intro g cap w' ho' hg _ _
    refine hK g cap w' (hp.pushS ?_ hg)
    rw [List.length_take, hN, Nat.min_eq_left hm]
    exact ho'
end
theorem backL_snd {α : Type} (d : α) (xs : List α) : ∀ k, k ≤ xs.length → (backL d xs k).map (·.2) = (xs.take k).reverse := by
  intro k
  induction k with
  | zero => intro _; rfl
  | succ k ih =>
    intro h
    have hx : xs[k]? = some xs[k] := List.getElem?_eq_getElem (by omega)
    rw [List.take_add_one, hx]
    simp only [backL, List.map_cons, ih (by omega), Option.toList, List.reverse_append, List.reverse_cons, List.reverse_nil, List.nil_append, List.singleton_append]
    rw [List.getD_eq_getElem?_getD, hx]
    rfl
theorem backL_mem {α : Type} (d : α) (xs : List α) (k : Nat) (hk : k ≤ xs.length) (p : Nat × α) (h : p ∈ backL d xs k) : p.2 ∈ xs := by
  have : p.2 ∈ (backL d xs k).map (·.2) := List.mem_map.2 ⟨p, h, rfl⟩
  rw [backL_snd d xs k hk] at this
  exact List.mem_of_mem_take (List.mem_reverse.1 this)
def outAt (v : ByteArray) (pre : List (Nat × ByteArray)) : ByteArray := pre.foldl (fun out p => nodeB p.2 out) v
theorem outAt_next (v : ByteArray) (pre : List (Nat × ByteArray)) (p : Nat × ByteArray) : outAt v (pre ++ [p]) = nodeB p.2 (outAt v pre) := by
  unfold outAt; rw [List.foldl_append]; rfl
theorem outAt_size (v : ByteArray) (hv : v.size = 32) (pre : List (Nat × ByteArray)) : (outAt v pre).size = 32 := by
  have : ∀ (pre : List (Nat × ByteArray)) (v : ByteArray), v.size = 32 → (pre.foldl (fun out p => nodeB p.2 out) v).size = 32 := by
    intro pre
    induction pre with
    | nil => exact fun _ h => h
    | cons p pre ih => exact fun v h => ih _ (nodeB_size _ _)
  exact this pre v hv
theorem outAt_all (x0 : ByteArray × Nat) (t : Stk) : outAt x0.1 (backL ⟨#[]⟩ ((t.map (·.1)).reverse) ((t.map (·.1)).reverse).length) = finishS (x0 :: t) := by
  have h := backL_snd (⟨#[]⟩ : ByteArray) ((t.map (·.1)).reverse) _ (Nat.le_refl _)
  have e : ∀ (pre : List (Nat × ByteArray)) (v : ByteArray), outAt v pre = (pre.map (·.2)).foldl (fun out x => nodeB x out) v := by
    intro pre v
    unfold outAt
    rw [List.foldl_map]
  rw [e, h, List.take_length, List.reverse_reverse, List.foldl_map]
  rfl
theorem rootS_nil : rootS [] = sumF ⟨#[]⟩ := rfl
set_option maxRecDepth 100000 in
set_option maxHeartbeats 8000000 in
theorem root_cons (ad : Addr) (c : Nat) (l : List ByteArray) (w : World) (HG : Aside0 (Laid w)) (hcell : ∀ j x, l[j]? = some x → w.cell? (ad.add j) = some (.string x)) (had : ad.block < w.heap.size) (hc : l.length ≤ c) (h0 : 0 < l.length)
    (hl : l.length ≤ 1000000) (hsz : ∀ x ∈ l, x.size ≤ 35184372088832) :
    Calls Tryd.prog 19 #[.slice (some ad) l.length c] w fun e w' => e = .returned (.string (rootS l)) ∧ Below w.heap.size w w' := by
  refine (callsIn_wide (n := 5)).1 ?_
  refine callsIn_of_wp_marks Tryd.func19 rfl trivial ?_ rfl
  simp only [Tryd.ntmps19, List.size_toArray, List.length_cons, List.length_nil, Nat.reduceAdd, Nat.reduceSub, Array.replicate_succ, Array.replicate_zero, List.push_toArray, List.append_toArray, List.nil_append, List.cons_append]
  refine wpIn_wide.2 ?_
  obtain ⟨i9, hi9, hz9, hs9, hb9⟩ := info_parts info9
  obtain ⟨i3, hi3, hz3, hs3, hb3⟩ := info_parts info3
  have HCELL := Aside0.mk hcell
  have HSZ := Aside0.mk hsz
  clear hcell hsz
  obtain ⟨n, hn⟩ : ∃ n, l.length = n := ⟨_, rfl⟩
  have HN := Aside0.mk hn
  rw [hn] at hc h0 hl ⊢
  clear hn
  go_wp2
  go_loopw [3, 4, 13] (fun a b i wr => ∃ k : Nat, k ≤ n ∧ i = .int .i64 k ∧ Aside0 (RSt w ((stackS (l.take k)).map (·.1)).reverse ((stackS (l.take k)).map (·.2)).reverse a b wr)) (fun _ _ i _ => n - (intOf i).toNat)
  case atStart => exact ⟨0, Nat.zero_le _, rfl, ⟨⟨Below.refl _ _, World.ownsRow_nil _ _ _ _, World.ownsRow_nil _ _ _ _⟩⟩⟩
  case round =>
    obtain ⟨k, hk, rfl, S⟩ := hrel
    by_cases hlt : k < n
    · obtain ⟨x, hx⟩ : ∃ x, l[k]? = some x := ⟨_, List.getElem?_eq_getElem (by rw [HN.out]; exact hlt)⟩
      have hcx : wr.cell? (ad.add k) = some (.string x) := pw_cell_below S.out.below (HCELL.out k x hx)
      have LEAF := Aside0.mk (fun W (hb : Below w.heap.size w W) => leaf_any x W ⟨HG.out.below hb⟩ (HSZ.out x (List.mem_of_getElem? hx)))
      have HST := Aside0.mk (stackS_take l k x hx)
      have HGOOD := Aside0.mk (good_stack (l.take k))
      clear hx
      generalize stackS (l.take k) = st at *
      have hkI : (k : Int) < (n : Int) := by omega
      have ok : (0 : Int) ≤ (k : Int) := by omega
      have hlen : Aside0 (st.length ≤ k) := ⟨by
        have hx := HGOOD.out.len
        rw [List.length_take] at hx
        omega⟩
      have hk1 : (st.map (·.1)).reverse.length < 1000001 := by have := hlen.out; rw [List.length_reverse, List.length_map]; omega
      have hk2 : (st.map (·.2)).reverse.length < 1000001 := by have := hlen.out; rw [List.length_reverse, List.length_map]; omega
      go_wp2_with (first
        | (go_at_call 29; go_must (refine (LEAF.out _ S.out.below).mono ?_); rintro e w1 ⟨rfl, hb⟩; have S1 := Aside0.mk (S.out.grown hb); clear S; have S := S1; clear S1 hb)
        | (at_builtin; refine wpList_append_lies _ rfl _ _ 22 rfl w.heap.size 9 i9 (.string ⟨#[]⟩) 1 16 Tryd.underlying22 hi9 hz9 hs9 hb9 rfl (by decide) _ _ _ rfl (S.out.alloc _).who _ 1 1 [.string (leafB x)] rfl rfl (cell_one_new _ _ _) (by simp [Value.oneCell']) (by decide) (by unfold maxLen; omega) (by omega) (S.out.alloc _).below.size _ rfl ?_; intro ga ca w2 ho hg hat hlt2; have S1 := Aside0.mk ((S.out.alloc _).pushW ho hg); clear S; have S := S1; clear S1 ho hg hat)
        | (at_builtin; go_must (refine wpList_append_lies _ rfl _ _ 49 rfl w.heap.size 3 i3 (.int .i64 0) 1 8 Tryd.underlying49 hi3 hz3 hs3 hb3 rfl (by decide) _ _ _ rfl (S.out.alloc _).siz _ 1 1 [.int .i64 1] rfl rfl (cell_one_new _ _ _) (by simp [Value.oneCell']) (by decide) (by unfold maxLen; omega) (by omega) (S.out.alloc _).below.size _ rfl ?_); intro gb cb w3 ho hg hat hlt3; have S1 := Aside0.mk ((S.out.alloc _).pushS (m := 1) ho hg); clear S; have S := S1; clear S1 ho hg hat))
      have IN : Aside0 (InSt w (k + 1) (stackS (l.take (k + 1))) ((leafB x, 1) :: st) (.slice (some ⟨ga, 0, none⟩) ((st.map (·.1)).reverse.length + 1) ca) (.slice (some ⟨gb, 0, none⟩) ((st.map (·.2)).reverse.length + 1) cb) w3) := ⟨⟨by
        simpa using S.out, by
        have := HGOOD.out.push x
        rw [List.length_take, Nat.min_eq_left (by rw [HN.out]; omega)] at this
        exact this, st.length + 1, by simp, by rw [HST.out]; rfl⟩⟩
      have hk1 : (leafB x, 1) :: st ≠ [] := by simp
      go_loopw [3, 4, 7] (fun a b i wr => ∃ st' : Stk, i = .int .i64 (st'.length : Nat) ∧ Aside0 (InSt w (k + 1) (stackS (l.take (k + 1))) st' a b wr)) (fun _ _ i _ => (intOf i).toNat)
      case atStart => exact ⟨(leafB x, 1) :: st, by simp, ⟨by have := IN.out; simpa using this⟩⟩
      case round =>
        clear S IN HST HGOOD hlen
        obtain ⟨st', rfl, IN⟩ := hrel
        by_cases hst : ∃ p q t, st' = p :: q :: t
        · obtain ⟨p, q, t, rfl⟩ := hst
          obtain ⟨m, hm⟩ : ∃ m, t.length = m := ⟨_, rfl⟩
          have hw := IN.out.r.who
          have hs := IN.out.r.siz
          have ra0 := rev_at0 (fun x : ByteArray × Nat => x.1) p q t
          have ra1 := rev_at1 (fun x : ByteArray × Nat => x.1) p q t
          have rb0 := rev_at0 (fun x : ByteArray × Nat => x.2) p q t
          have rb1 := rev_at1 (fun x : ByteArray × Nat => x.2) p q t
          obtain ⟨N, hNm⟩ : ∃ N, m + 2 = N := ⟨_, rfl⟩
          have el : (((p :: q :: t).length : Nat) : Int) = (N : Int) := by simp [hm]; omega
          rw [rev_len, hm, hNm] at hw hs
          rw [hm] at ra0 ra1 rb0 rb1
          obtain ⟨ga, ca, rfl⟩ := own_form hw (by omega)
          obtain ⟨gb, cb, rfl⟩ := own_form hs (by omega)
          have hca := own_cap hw
          have hcb := own_cap hs
          have c1 := own_cell (j := m) (v := .string q.1) hw (by unfold strsV; rw [List.getElem?_map, ra0]; rfl)
          have c2 := own_cell (j := m + 1) (v := .string p.1) hw (by unfold strsV; rw [List.getElem?_map, ra1]; rfl)
          have d1 := own_cell (j := m) (v := .int .i64 (q.2 : Nat)) hs (by unfold natsV; rw [List.getElem?_map, rb0]; rfl)
          have d2 := own_cell (j := m + 1) (v := .int .i64 (p.2 : Nat)) hs (by unfold natsV; rw [List.getElem?_map, rb1]; rfl)
          have hmb : N ≤ 1000001 := by have := IN.out.good.len; simp only [List.length_cons, hm] at this; omega
          have hgood := IN.out.good
          have zq := hgood.size q (by simp)
          have zp := hgood.size p (by simp)
          have lp := hgood.le p (by simp)
          clear hw hs ra0 ra1 rb0 rb1
          rw [el]
          clear el
          obtain ⟨hca1, hca2⟩ := hca
          obtain ⟨hcb1, hcb2⟩ := hcb
          have HZ := Aside0.mk (And.intro hca2 hcb2)
          have HGOOD := Aside0.mk hgood
          have HM := Aside0.mk hm
          have b1 : (m : Int) ≤ (ca : Int) := by omega
          have b2 : (m : Int) ≤ (cb : Int) := by omega
          have b3 : (0 : Int) ≤ (m : Int) := by omega
          have b4 : (m : Int) < (N : Int) := by omega
          have b5 : (m : Int) + 1 < (N : Int) := by omega
          have b6 : (0 : Int) ≤ (m : Int) + 1 := by omega
          have b7 : ((m : Int) + 1).toNat = m + 1 := by omega
          have b8 : decide ((1 : Int) < (N : Int)) = true := decide_eq_true (by omega)
          have s1 : IntKind.i64.wrap ((N : Int) - 2) = (m : Int) := by rw [show (N : Int) - 2 = m by omega]; exact IntWalk.i64_in _ (by omega)
          have s2 : IntKind.i64.wrap ((N : Int) - 1) = (m : Int) + 1 := by rw [show (N : Int) - 1 = m + 1 by omega]; exact IntWalk.i64_in _ (by omega)
          have HNM := Aside0.mk hNm
          clear hca2 hcb2 hgood hm hNm
          by_cases he : q.2 = p.2
          · have t1 : (((q.2 : Nat) : Int) == ((p.2 : Nat) : Int)) = true := by rw [he]; simp
            have HE := Aside0.mk he
            clear he
            go_upto_region 8 with (fail)
            go_quiet ((fail))
            have NODE : Aside0 (∀ W, RSt w ((p :: q :: t).map (·.1)).reverse ((p :: q :: t).map (·.2)).reverse (.slice (some ⟨ga, 0, none⟩) N ca) (.slice (some ⟨gb, 0, none⟩) N cb) W →
                Calls Tryd.prog 32 #[.string q.1, .string p.1] W fun e w' => e = .returned (.string (nodeB q.1 p.1)) ∧ RSt w ((p :: q :: t).map (·.1)).reverse ((p :: q :: t).map (·.2)).reverse (.slice (some ⟨ga, 0, none⟩) N ca) (.slice (some ⟨gb, 0, none⟩) N cb) w') := ⟨fun W h =>
              (node_any q.1 p.1 W ⟨HG.out.below h.below⟩ (by rw [zq, zp]; decide)).mono fun e w' ⟨he, hb⟩ => ⟨he, h.grown hb⟩⟩
            have HR1 := Aside0.mk (rev_len (fun x : ByteArray × Nat => x.1) p q t)
            have HR2 := Aside0.mk (rev_at0 (fun x : ByteArray × Nat => x.1) p q t)
            have HR3 := Aside0.mk (rev_at1 (fun x : ByteArray × Nat => x.1) p q t)
            have HR4 := Aside0.mk (rev_take (fun x : ByteArray × Nat => x.1) p q t)
            have HS1 := Aside0.mk (rev_len (fun x : ByteArray × Nat => x.2) p q t)
            have HS3 := Aside0.mk (rev_at1 (fun x : ByteArray × Nat => x.2) p q t)
            have HS4 := Aside0.mk (rev_take (fun x : ByteArray × Nat => x.2) p q t)
            rw [HM.out] at HR1 HR2 HR3 HR4 HS1 HS3 HS4
            rw [HNM.out] at HR1 HS1
            have R := Aside0.mk IN.out.r
            generalize ((p :: q :: t).map (·.1)).reverse = rs at *
            generalize ((p :: q :: t).map (·.2)).reverse = ns at *
            obtain ⟨r, hr⟩ : ∃ r, nodeB q.1 p.1 = r := ⟨_, rfl⟩
            rw [hr] at NODE
            have HRN := Aside0.mk hr
            clear hr
            have R1 := R.out
            go_upto_block 3 with (fail)
            go_cut [3, 4] from 44 to 72 (fun a b wx => ∃ g3 cap3 g4 cap4, a = .slice (some ⟨g3, 0, none⟩) (m + 1) cap3 ∧ b = .slice (some ⟨g4, 0, none⟩) (m + 1) cap4 ∧ Aside0 (RSt w (rs.take m ++ [r]) (ns.take m ++ [2 * p.2]) (.slice (some ⟨g3, 0, none⟩) (m + 1) cap3) (.slice (some ⟨g4, 0, none⟩) (m + 1) cap4) wx))
            case first =>
              go_upto_region 10 with (fail)
              go_cut [3] from 44 to 60 (fun a wx => ∃ g cap, a = .slice (some ⟨g, 0, none⟩) (m + 1) cap ∧ Aside0 (RSt w (rs.take m ++ [r]) ns (.slice (some ⟨g, 0, none⟩) (m + 1) cap) (.slice (some ⟨gb, 0, none⟩) N cb) wx))
              case first =>
                refine wp_region_noPanic ?_
                go_region_law ((first | (go_simp; go_at_call 32; with_reducible refine (NODE.out _ ?_).mono ?_; (focus (repeat (first | with_reducible assumption | with_reducible apply RSt.drew | with_reducible apply RSt.drewN | with_reducible apply RSt.alloc))); rintro e w' ⟨rfl, hs⟩) | (refine RSt.stepW (w := w) (ns := ns) (vs := .slice (some ⟨gb, 0, none⟩) N cb) (ga := ga) (ca := ca) (by rfl) _ _ (by rfl) ?zhr HR1.out m (by omega) hmb (by rfl) _ 1 r (by rfl) ?zhc ?_; (case zhr => (repeat (first | with_reducible assumption | with_reducible apply RSt.drew | with_reducible apply RSt.drewN | with_reducible apply RSt.alloc))); (case zhc => (repeat (first | exact cellN_new rfl rfl | refine cellN_drewN ?_ | refine cellN_drew ?_))); intro gg cap w1 hR2; have HR2 := Aside0.mk hR2; clear hR2)))
                all_goals (refine NoPanic.normal ?_; go_wp2_with fail; go_meet; exact ⟨_, _, rfl, HR2⟩)
              case rest =>
                obtain ⟨g3, cap3, rfl, R3⟩ := hcut
                clear R R1 c1 c2 d1 d2
                have hwr := R3.out.who
                have hsr := R3.out.siz
                rw [HS1.out] at hsr
                have d2 := own_cell (j := m + 1) (v := .int .i64 (p.2 : Nat)) hsr (by unfold natsV; rw [List.getElem?_map, HS3.out]; rfl)
                have s5 : IntKind.i64.wrap (2 * (p.2 : Int)) = ((2 * p.2 : Nat) : Int) := by rw [IntWalk.i64_in _ (by omega)]; omega
                clear hwr hsr
                have R4 := R3.out
                go_upto_region 11 with (fail)
                refine wp_region_noPanic ?_
                go_region_law ((first | (refine RSt.stepS (w := w) (rs := rs.take m ++ [r]) (vw := .slice (some ⟨g3, 0, none⟩) (m + 1) cap3) (gb := gb) (cb := cb) (by rfl) _ _ (by rfl) ?zhr HS1.out m (by omega) hmb (by rfl) _ 1 (2 * p.2) (by rfl) ?zhc ?_; (case zhr => (repeat (first | with_reducible assumption | with_reducible apply RSt.drew | with_reducible apply RSt.drewN | with_reducible apply RSt.alloc))); (case zhc => (repeat (first | exact cellN_new rfl (by first | rfl | (rw [s5]; rfl)) | refine cellN_drewN ?_ | refine cellN_drew ?_))); intro gg cap w1 hR2; have HR2 := Aside0.mk hR2; clear hR2)))
                all_goals (refine NoPanic.normal ?_; go_wp2_with fail; go_meet; exact ⟨_, _, _, _, rfl, rfl, HR2⟩)
            case rest =>
              obtain ⟨g3, cap3, g4, cap4, rfl, rfl, R5⟩ := hcut
              clear R R1 c1 c2 d1 d2
              have s6 : (N : Int) - 1 = (((((r, 2 * p.2) :: t : Stk)).length : Nat) : Int) := by simp [HM.out]; have := HNM.out; omega
              have HIN := Aside0.mk (IN.out.next HE.out HRN.out HR4.out HS4.out R5.out)
              go_wp2
              have s7 : wrap64 ((t.length : Int) + 1) = (t.length : Int) + 1 := by have := HM.out; unfold wrap64; omega
              rw [s7]
              refine ⟨⟨(r, 2 * p.2) :: t, by simp, HIN⟩, ?_⟩
              have := HM.out
              have := HNM.out
              simp only [intOf]
              omega
          · have t1 : (((q.2 : Nat) : Int) == ((p.2 : Nat) : Int)) = false := by rw [beq_eq_false_iff_ne]; exact fun e => he (by exact Int.ofNat.inj e)
            have hstop := IN.out.stop (fun f => collapse_ne f p q t he)
            have HSTOP := Aside0.mk hstop
            clear he hstop
            go_upto_region 8 with (fail)
            go_quiet ((fail))
            go_wp2
            refine ⟨⟨k + 1, by omega, by go_num, ⟨by rw [HSTOP.out]; exact IN.out.r.drewN nq⟩⟩, ?_⟩
            simp [intOf]
            omega
        · have hstop : stackS (l.take (k + 1)) = st' ∧ st'.length ≤ 1 := by
            match st', hst, IN with
            | [], _, IN => exact ⟨IN.out.stop collapse_nil, by simp⟩
            | [x], _, IN => exact ⟨IN.out.stop (fun f => collapse_one f x), by simp⟩
            | p :: q :: t, hst, _ => exact absurd ⟨p, q, t, rfl⟩ hst
          obtain ⟨hst1, hst2⟩ := hstop
          have HSTOP := Aside0.mk hst1
          clear hst1 hst
          obtain ⟨N, hN⟩ : ∃ N, st'.length = N := ⟨_, rfl⟩
          rw [hN] at hst2 ⊢
          clear hN
          have b8 : decide ((1 : Int) < (N : Int)) = false := decide_eq_false (by omega)
          go_upto_region 8 with (fail)
          go_quiet ((fail))
          go_wp2
          refine ⟨⟨k + 1, by omega, by go_num, ⟨by rw [HSTOP.out]; exact IN.out.r.drewN nq⟩⟩, ?_⟩
          simp [intOf]
          omega
    · obtain rfl : k = n := by omega
      rw [List.take_of_length_le (by rw [HN.out]; exact Nat.le_refl _)] at S
      have hne := stack_pos l (by intro e; rw [e] at HN; have := HN.out; simp at this; omega)
      have hgood := good_stack l
      have HFIN : Aside0 (rootS l = finishS (stackS l)) := ⟨rfl⟩
      generalize stackS l = st at *
      obtain ⟨x0, t, rfl⟩ : ∃ x0 t, st = x0 :: t := by
        cases st with
        | nil => exact absurd rfl hne
        | cons x t => exact ⟨x, t, rfl⟩
      clear hne hlt
      obtain ⟨m, hm⟩ : ∃ m, t.length = m := ⟨_, rfl⟩
      have hw := S.out.who
      have hlen : (((x0 :: t).map (·.1)).reverse).length = m + 1 := by simp [hm]
      rw [hlen] at hw
      obtain ⟨ga, ca, rfl⟩ := own_form hw (by omega)
      have c0 := own_cell (j := m) (v := .string x0.1) hw (by unfold strsV; rw [List.getElem?_map, ← hm]; simp [List.getElem?_append_right])
      have hca := own_cap hw
      have hmb : m + 1 ≤ 1000000 := by have := hgood.len; rw [HN.out] at this; simp only [List.length_cons, hm] at this; omega
      have HCELLS : Aside0 (∀ j x, ((t.map (·.1)).reverse)[j]? = some x → wr.cell? ⟨ga, j, none⟩ = some (.string x)) := ⟨fun j x hx => own_cell hw (by
        unfold strsV
        rw [List.getElem?_map, List.map_cons, List.reverse_cons, List.getElem?_append_left (List.getElem?_eq_some_iff.1 hx).1, hx]; rfl)⟩
      have hgt := own_gt hw
      have HGOOD := Aside0.mk hgood
      have HM := Aside0.mk hm
      have HB := Aside0.mk S.out.below
      obtain ⟨hca1, hca2⟩ := hca
      obtain ⟨hgt1, hgt2⟩ := hgt
      have b1 : (m : Int) + 1 ≤ (ca : Int) := by omega
      have b2 : (0 : Int) ≤ (m : Int) := by omega
      clear hw hlen hgood hm S hca2
      go_wp2_with (go_at_call 44; go_must (refine (backward_any _ _ _ _).mono ?_); rintro e w' ⟨rfl, rfl⟩)
      have HFIN2 := outAt_all x0 t
      rw [← HFIN.out] at HFIN2
      have HFINAL := Aside0.mk HFIN2
      have hz0 : x0.1.size = 32 := HGOOD.out.size x0 (by simp)
      have hzx : ∀ x ∈ (t.map (·.1)).reverse, x.size = 32 := by
        intro x hx
        obtain ⟨y, hy, rfl⟩ := List.mem_map.1 (List.mem_reverse.1 hx)
        exact HGOOD.out.size y (List.mem_cons_of_mem _ hy)
      have hxl : ((t.map (·.1)).reverse).length = m := by simp [HM.out]
      clear HFIN HFIN2 HGOOD
      generalize (t.map (·.1)).reverse = xs at *
      have HZX := Aside0.mk hzx
      clear hzx
      have HXL := Aside0.mk hxl
      rw [← hxl]
      have hS1 : ((wr.alloc (.cells #[.string x0.1] 9)).alloc (.cells #[.slice (some ⟨ga, 0, none⟩) xs.length ca] 22)).heap[wr.heap.size + 1]? = some (.cells #[.slice (some ⟨ga, 0, none⟩) xs.length ca] 22 (0, 0)) := by
        have := World.alloc_heap_new (wr.alloc (.cells #[.string x0.1] 9)) (.cells #[.slice (some ⟨ga, 0, none⟩) xs.length ca] 22)
        rwa [World.size_alloc] at this
      have hO : ((wr.alloc (.cells #[.string x0.1] 9)).alloc (.cells #[.slice (some ⟨ga, 0, none⟩) xs.length ca] 22)).heap[wr.heap.size]? = some (.cells #[.string x0.1] 9 (0, 0)) := by
        rw [Below.heap_alloc _ _ _ (by simp)]; exact World.alloc_heap_new _ _
      have hsz : ((wr.alloc (.cells #[.string x0.1] 9)).alloc (.cells #[.slice (some ⟨ga, 0, none⟩) xs.length ca] 22)).heap.size = wr.heap.size + 2 := by simp
      have hBl : Below w.heap.size w ((wr.alloc (.cells #[.string x0.1] 9)).alloc (.cells #[.slice (some ⟨ga, 0, none⟩) xs.length ca] 22)) := (HB.out.alloc HB.out.size _).alloc (by simp; have := HB.out.size; omega) _
      have hCx : ∀ j x, xs[j]? = some x → ((wr.alloc (.cells #[.string x0.1] 9)).alloc (.cells #[.slice (some ⟨ga, 0, none⟩) xs.length ca] 22)).cell? ⟨ga, j, none⟩ = some (.string x) := fun j x hx => cellN_old (by simp; omega) (cellN_old (by simpa using hgt2) (HCELLS.out j x hx))
      have hwz := HB.out.size
      generalize (wr.alloc (.cells #[.string x0.1] 9)).alloc (.cells #[.slice (some ⟨ga, 0, none⟩) xs.length ca] 22) = W0 at *
      refine (wpIn_wide (n := 5)).1 ?_
      have hin0 : ∀ {f : FuncId} {args : Array Value} {w : World} {R : Ending → World → Prop} (n : Nat), Calls Tryd.prog f args w R → CallsIn Fence.wide n Tryd.prog f args w R := fun n h => callsIn_wide.2 h
      have hF60 : Fence.wide.fn 60 := trivial
      have hF32 : Fence.wide.fn 32 := trivial
      have hFr : Fence.wide.round = none := rfl
      generalize Fence.wide = F at *
      refine wpIn_rangeFunc_fix (F := F) (n := 5) hFr (by decide) (gf := 60) (lb := #[.pointer (some ⟨wr.heap.size + 1, 0, none⟩)]) rfl hF60 (enters_of Tryd.func60 (by kernel_rfl) rfl)
        (back_gives F 4 hF60 hFr (by decide) (wr.heap.size + 1) ga ca xs (by omega) W0 hS1 hCx (by omega)) (fun r e => e.elim) (fun h k => ⟨k.1.trans h.1, k.2.trans h.2⟩) ?hkb (Below.refl _ _) (fun _ => rfl)
        (fun pre W => Below w.heap.size w W ∧ W.heap[wr.heap.size]? = some (.cells #[.string (outAt x0.1 pre)] 9 (0, 0)) ∧ W0.heap.size ≤ W.heap.size) ?own ⟨hBl, hO, Nat.le_refl _⟩ ?a1 ?assign ?body ?done
      case hkb =>
        intro W l o' hl
        exact ⟨World.putObj_heap_other (by omega), World.putObj_heap_other (by omega)⟩
      case own =>
        rintro pre A B row ⟨h1, h2, h3⟩ hg hrow
        have hr : ∀ r, row = some r → W0.heap.size ≤ r := fun r e => by
          rcases hrow r e with ⟨h, _⟩ | h
          · exact h
          · exact h.elim
        exact ⟨h1.grown hg (by omega) (fun k e => by have := hr k e; omega), (hg.block _ (by omega) (fun e => by have := hr _ e.symm; omega)).trans h2, Nat.le_trans h3 hg.size⟩
      case assign =>
        intro l y W K hK
        simp only [encB]
        gi_wp2
        exact hK
      case body =>
        rintro l pre ⟨j, x⟩ W ⟨h1, h2, h3⟩ hpre
        have hx : x ∈ xs := backL_mem ⟨#[]⟩ xs _ (Nat.le_refl _) (j, x) (hpre.subset (by simp))
        have hzx := HZX.out x hx
        have hzo := outAt_size x0.1 hz0 pre
        obtain ⟨co, fo⟩ := cell_box h2
        have hnode := node_any x (outAt x0.1 pre) W ⟨HG.out.below h1⟩ (by rw [hzx, hzo]; decide)
        have hin : CallsIn (F.inRound l) 2 Tryd.prog 32 #[.string x, .string (outAt x0.1 pre)] W _ := CallsIn.inRound l (hin0 _ hnode)
        have HIN := Aside0.mk hin
        have HH := Aside0.mk (And.intro h1 (And.intro h2 h3))
        have HNX := Aside0.mk (outAt_next x0.1 pre (j, x))
        clear hin hnode hx hpre h1 h2 h3
        gi_wp2_with (gi_at_call 32; go_must (refine HIN.out.mono ?_); rintro e w1 ⟨rfl, hb⟩; have hb1 := (hb.block wr.heap.size (Array.getElem?_eq_some_iff.1 HH.out.2.1).1).trans HH.out.2.1; obtain ⟨co1, fo1⟩ := cell_box hb1; clear co fo)
        have hwb := below_step HH.out.1 hb
        have hsW := HH.out.2.2
        have hss := hb.size
        refine ⟨⟨by rw [World.size_setCell]; exact hss, fun i o hi ho _ => (Below.heap_setCell w1 _ _ i (by simp; omega)).trans ((hb.block i (Array.getElem?_eq_some_iff.1 ho).1).trans ho)⟩,
          ⟨(Below.heap_setCell w1 _ _ _ (by simp)).trans (hb.block _ (by omega)), (Below.heap_setCell w1 _ _ _ (by simp; omega)).trans (hb.block _ (by omega))⟩,
          hwb.setCell (p := ⟨wr.heap.size, 0, none⟩) hwz _, ?_, by rw [World.size_setCell]; omega⟩
        rw [HNX.out]
        exact one_setCell hb1
      case done =>
        rintro D W hD ⟨h1, h2, h3⟩ hK
        obtain ⟨co, fo⟩ := cell_box h2
        rw [HFINAL.out] at co
        have HBW := Aside0.mk h1
        have HKD := Aside0.mk hK
        have HD := Aside0.mk hD
        clear h1 h2 h3 hK hD hO hS1
        go_wp2
        refine ⟨by simp, .inl ⟨_, _, rfl, run_takeDeferred HKD.out, ?_⟩⟩
        refine ⟨.string (rootS l), by simp [results, Tryd.results19, go_sem], rfl, ?_⟩
        have hwD : w.heap.size ≤ D := by have := HD.out; omega
        exact HBW.out.trans (belowK_b (w := w) (Nat.le_refl _) W D _ _ hwD HKD.out rfl rfl)
set_option maxRecDepth 100000 in
set_option maxHeartbeats 4000000 in
theorem root_nil (a : Option Addr) (c : Nat) (w : World) (HG : Aside0 (Laid w)) :
    Calls Tryd.prog 19 #[.slice a 0 c] w fun e w' => e = .returned (.string (rootS [])) ∧ Below w.heap.size w w' := by
  refine (callsIn_wide (n := 5)).1 ?_
  refine callsIn_of_wp_marks Tryd.func19 rfl trivial ?_ rfl
  simp only [Tryd.ntmps19, List.size_toArray, List.length_cons, List.length_nil, Nat.reduceAdd, Nat.reduceSub, Array.replicate_succ, Array.replicate_zero, List.push_toArray, List.append_toArray, List.nil_append, List.cons_append]
  refine wpIn_wide.2 ?_
  have HSUM := Aside0.mk (sum_any ⟨#[]⟩ w HG (by decide))
  go_wp2
  go_loopw [3, 13] (fun a i wr => a = .slice none 0 0 ∧ i = .int .i64 0 ∧ wr = w) (fun _ _ _ => 0)
  case atStart => exact ⟨rfl, rfl, rfl⟩
  case round =>
    obtain ⟨rfl, rfl, rfl⟩ := hrel
    go_wp2_with (go_at_call 30; go_must (refine HSUM.out.mono ?_); rintro e w' ⟨rfl, hb⟩)
    refine ⟨.string (rootS []), by simp [results, Tryd.results19, go_sem, rootS_nil], rfl, hb⟩
theorem root_any (A : Option Addr) (c : Nat) (l : List ByteArray) (w : World) (HG : Aside0 (Laid w)) (hr : Kd.C Kd.string w A l.length l) (hc : l.length ≤ c) (hl : l.length ≤ 1000000) (hsz : ∀ x ∈ l, x.size ≤ 35184372088832) :
    Calls Tryd.prog 19 #[.slice A l.length c] w fun e w' => e = .returned (.string (rootS l)) ∧ Below w.heap.size w w' := by
  rcases Nat.eq_zero_or_pos l.length with h0 | h0
  · obtain rfl := List.eq_nil_of_length_eq_zero h0
    exact root_nil A c w HG
  · obtain ⟨ad, rfl, hcell⟩ := hr.2.2 h0
    have hcell' : ∀ j x, l[j]? = some x → w.cell? (ad.add j) = some (.string x) := fun j x hx => by
      obtain ⟨cs, h1, h2, h3⟩ := hcell j x hx
      have h2' : cs = [.string x] := h2
      subst h2'
      have := h3 0 (.string x) rfl
      have e : j * Kd.string.sz + 0 = j := by show j * 1 + 0 = j; omega
      rwa [e] at this
    refine root_cons ad c l w HG hcell' ?_ hc h0 hl hsz
    have := World.block_lt_of_cell? w _ (hcell' 0 l[0] (List.getElem?_eq_getElem h0))
    rwa [add0] at this
end Go.Proofs.YtabjfogmcehemaaDoor
end

section
namespace Go.Proofs.YtabjfogmcehemaaDoor
open Go.RowKit Go.Shelf Go.Proofs.YtabjfogmcehemaaDoorW.PrintWords Go.Proofs.YtabjfogmcehemaaDoorW.PrintLast Go.Proofs.YtabjfogmcehemaaDoorW.PrintMore
set_option linter.unusedVariables false
set_option linter.unusedSimpArgs false
attribute [local go_sem] max2_int min2_int max_two min_two
def isDig (s : ByteArray) : Bool := s.size == 32
theorem isDigest_any (s : ByteArray) (w : World) : Calls Tryd.prog 51 #[.string s] w fun e w' => e = .returned (.bool (isDig s)) ∧ w = w' := by
  by_cases h : s.size = 32
  · have t : ((s.size : Int) == 32) = true := by rw [beq_iff_eq]; omega
    have hd : isDig s = true := by unfold isDig; rw [beq_iff_eq]; exact h
    rw [hd]
    clear h hd
    go_enter Tryd.func51, Tryd.ntmps51
    go_wp2
    go_ret
    exact ⟨rfl, rfl⟩
  · have t : ((s.size : Int) == 32) = false := by rw [beq_eq_false_iff_ne]; omega
    have hd : isDig s = false := by unfold isDig; rw [beq_eq_false_iff_ne]; exact h
    rw [hd]
    clear h hd
    go_enter Tryd.func51, Tryd.ntmps51
    go_wp2
    go_ret
    exact ⟨rfl, rfl⟩
theorem odd_any (s : ByteArray) (w : World) : Calls Tryd.prog 61 #[.string s] w fun e w' => e = .returned (.bool (!isDig s)) ∧ w = w' := by
  have H := Aside0.mk (isDigest_any s w)
  generalize isDig s = b at *
  go_enter Tryd.func61, Tryd.ntmps61
  go_wp2_with (go_at_call 51; go_must (refine H.out.mono ?_); rintro e w' ⟨rfl, rfl⟩)
  go_ret
  exact ⟨rfl, rfl⟩
def oddIdx : List ByteArray → Nat → Int
  | [], _ => -1
  | x :: l, k => if isDig x then oddIdx l (k + 1) else (k : Int)
theorem oddIdx_ge (l : List ByteArray) (k : Nat) : -1 ≤ oddIdx l k := by
  induction l generalizing k with
  | nil => simp [oddIdx]
  | cons x l ih => simp only [oddIdx]; split; exact ih _; omega
theorem oddIdx_all (l : List ByteArray) (k : Nat) : (decide (0 ≤ oddIdx l k)) = !(l.all isDig) := by
  induction l generalizing k with
  | nil => rfl
  | cons x l ih =>
    simp only [oddIdx, List.all_cons]
    split
    · rename_i h; rw [ih, h]; simp
    · rename_i h; simp [h]
set_option maxRecDepth 100000 in
set_option maxHeartbeats 4000000 in
theorem indexFunc_any (A : Option Addr) (c : Nat) (l : List ByteArray) (w : World) (hr : Kd.C Kd.string w A l.length l) (hl : l.length ≤ 1000000) :
    Calls Tryd.prog 73 #[.slice A l.length c, .func (.func 61) #[] #[]] w fun e w' => e = .returned (.int .i64 (oddIdx l 0)) ∧ w = w' := by
  obtain ⟨tgt, htgt⟩ : ∃ t, oddIdx l 0 = t := ⟨_, rfl⟩
  have T0 : Aside0 (oddIdx (l.drop 0) 0 = tgt) := ⟨htgt⟩
  rw [htgt]
  clear htgt
  have HR := Aside0.mk hr
  obtain ⟨n, hn⟩ : ∃ n, l.length = n := ⟨_, rfl⟩
  have HN := Aside0.mk hn
  rw [hn] at hl ⊢
  clear hn hr
  go_enter Tryd.func73, Tryd.ntmps73
  go_wp2
  go_loop [8] (fun i => ∃ k : Nat, k ≤ n ∧ i = .int .i64 k ∧ Aside0 (oddIdx (l.drop k) k = tgt)) (fun i => n - (intOf i).toNat)
  case atStart => exact ⟨0, Nat.zero_le _, rfl, T0⟩
  case round =>
    clear T0
    obtain ⟨k, hk, rfl, T⟩ := hrel
    by_cases hlt : k < n
    · obtain ⟨ad, cs, rfl, h1, h2, h3⟩ := Kd.C_get HR.out ⟨#[]⟩ (k : Int) (by omega) (by rw [HN.out]; omega)
      have hx : l[k]? = some (l.getD k ⟨#[]⟩) := by rw [List.getD_eq_getElem?_getD, List.getElem?_eq_getElem (by rw [HN.out]; exact hlt)]; rfl
      have hd : l.drop k = l.getD k ⟨#[]⟩ :: l.drop (k + 1) := by
        rw [List.drop_eq_getElem_cons (by rw [HN.out]; exact hlt)]
        congr 1
        rw [List.getD_eq_getElem?_getD, List.getElem?_eq_getElem (by rw [HN.out]; exact hlt)]
        rfl
      have T' := T.out
      rw [hd] at T'
      simp only [oddIdx] at T'
      have h2' : cs = [.string (l.getD k ⟨#[]⟩)] := h2
      subst h2'
      have hc := h3 0 _ rfl
      have e : (k : Int).toNat * Kd.string.sz + 0 = k := by show (k : Int).toNat * 1 + 0 = k; omega
      rw [e] at hc
      clear h1 h2 h3 hx hd e T
      generalize l.getD k ⟨#[]⟩ = x at *
      have hkI : (k : Int) < (n : Int) := by omega
      have ok : (0 : Int) ≤ (k : Int) := by omega
      have ODD := Aside0.mk (odd_any x w)
      cases hb : isDig x with
      | true =>
        have T2 : Aside0 (oddIdx (l.drop (k + 1)) (k + 1) = tgt) := ⟨by rw [hb] at T'; simpa using T'⟩
        rw [hb] at ODD
        clear hb T'
        go_wp2_with (go_at_call 61; go_must (refine ODD.out.mono ?_); rintro e w' ⟨rfl, rfl⟩)
        go_round
        case rel => exact ⟨k + 1, by omega, by go_num, T2⟩
        case measure => simp [intOf]; omega
      | false =>
        have T2 : Aside0 ((k : Int) = tgt) := ⟨by rw [hb] at T'; simpa using T'⟩
        rw [hb] at ODD
        clear hb T'
        go_wp2_with (go_at_call 61; go_must (refine ODD.out.mono ?_); rintro e w' ⟨rfl, rfl⟩)
        go_ret
        exact ⟨congrArg (fun v => Ending.returned (.int .i64 v)) T2.out, rfl⟩
    · obtain rfl : k = n := by omega
      have T2 : Aside0 ((-1 : Int) = tgt) := ⟨by have := T.out; rw [List.drop_of_length_le (by rw [HN.out]; exact Nat.le_refl _)] at this; exact this⟩
      clear T
      go_wp2
      go_ret
      exact ⟨congrArg (fun v => Ending.returned (.int .i64 v)) T2.out, rfl⟩
theorem all_any (A : Option Addr) (c : Nat) (l : List ByteArray) (w : World) (hr : Kd.C Kd.string w A l.length l) (hl : l.length ≤ 1000000) :
    Calls Tryd.prog 45 #[.slice A l.length c] w fun e w' => e = .returned (.bool (l.all isDig)) ∧ w = w' := by
  have H := Aside0.mk (indexFunc_any A c l w hr hl)
  have hq := oddIdx_all l 0
  have hge := oddIdx_ge l 0
  obtain ⟨q, hqq⟩ : ∃ q, oddIdx l 0 = q := ⟨_, rfl⟩
  rw [hqq] at H hq hge
  clear hqq
  obtain ⟨b, hb⟩ : ∃ b, l.all isDig = b := ⟨_, rfl⟩
  rw [hb] at hq ⊢
  have hq2 : decide (0 ≤ q) = !b := hq
  clear hq hb hr
  generalize l.length = n at *
  have C : Aside0 (∀ W : World, W = w → Calls Tryd.prog 62 #[.slice A n c, .func (.func 61) #[] #[]] W fun e w' => e = .returned (.bool (!b)) ∧ w = w') := ⟨fun W hW => by
    subst hW
    go_enter Tryd.func62, Tryd.ntmps62
    go_wp2_with (go_at_call 73; go_must (refine H.out.mono ?_); rintro e w' ⟨rfl, rfl⟩)
    go_ret
    exact ⟨by first | rfl | rw [hq2], rfl⟩⟩
  clear hq2 hge
  go_enter Tryd.func45, Tryd.ntmps45
  go_wp2_with (go_at_call 62; go_must (refine (C.out _ rfl).mono ?_); rintro e w' ⟨rfl, rfl⟩)
  go_ret
  exact ⟨by simp, rfl⟩
end Go.Proofs.YtabjfogmcehemaaDoor
end

section
namespace Go.Proofs.YtabjfogmcehemaaDoor
open Go.RowKit Go.Shelf Go.Proofs.YtabjfogmcehemaaDoorW.PrintWords Go.Proofs.YtabjfogmcehemaaDoorW.PrintLast Go.Proofs.YtabjfogmcehemaaDoorW.PrintMore
set_option linter.unusedVariables false
set_option linter.unusedSimpArgs false
attribute [local go_sem] Oper.semAt_some
attribute [local go_sem] max2_int min2_int max_two min_two
def encS (p : Nat × (ByteArray × Bool)) : Array Value := #[.int .i64 (p.1 : Nat), .agg #[.string p.2.1, .bool p.2.2]]
theorem backwardS_any (a : Option Addr) (l c : Nat) (w : World) :
    Calls Tryd.prog 47 #[.slice a l c] w fun e w' => e = .returned (.func (.func 63) #[] #[.pointer (some ⟨w.heap.size, 0, none⟩)]) ∧ w.alloc (.cells #[.slice a l c] 54) = w' := by
  go_enter Tryd.func47, Tryd.ntmps47
  go_wp2
  go_ret
  exact ⟨rfl, rfl⟩
set_option maxRecDepth 100000 in
set_option maxHeartbeats 4000000 in
theorem backS_gives (F : Fence) (n : Nat) (h63 : F.fn 63) (hro : F.round = none) (hn : 1 ≤ n) (S R c : Nat) (xs : List (ByteArray × Bool)) (hxl : xs.length ≤ 140737488355328) (w : World)
    (hS : w.heap[S]? = some (.cells #[.slice (some ⟨R, 0, none⟩) xs.length c] 54 (0, 0))) (hcell : ∀ j x, xs[j]? = some x → w.cell? ⟨R, j * 2, none⟩ = some (.string x.1) ∧ w.cell? ⟨R, j * 2 + 1, none⟩ = some (.bool x.2)) (hR : R < w.heap.size) :
    GivesFix F n Tryd.prog 63 #[.pointer (some ⟨S, 0, none⟩)] encS (backL (⟨#[]⟩, false) xs xs.length) (fun _ => False) (fun W W' => W'.heap[S]? = W.heap[S]? ∧ W'.heap[R]? = W.heap[R]?) w := by
  intro l J W hW hJ hY h0
  have h1 := (hW.block S (Array.getElem?_eq_some_iff.1 hS).1).trans hS
  have h2 := hW.block R hR
  clear hS hW
  refine callsIn_of_wp Tryd.func63 rfl h63 ?_ hro
  simp only [Tryd.ntmps63, List.size_toArray, List.length_cons, List.length_nil, Nat.reduceAdd, Nat.reduceSub, Array.replicate_succ, Array.replicate_zero, List.push_toArray, List.append_toArray, List.nil_append, List.cons_append]
  obtain ⟨c0, f0⟩ := cell_box h1
  have HX := Aside0.mk hcell
  clear hcell
  obtain ⟨m, hm⟩ : ∃ m, xs.length = m := ⟨_, rfl⟩
  have HM := Aside0.mk hm
  rw [hm] at hxl h1 c0
  have HB0 := Aside0.mk (show backL (⟨#[]⟩, false) xs xs.length = [] ++ backL (⟨#[]⟩, false) xs m by rw [hm]; rfl)
  clear hm
  gi_wp2
  clear c0 f0
  gi_loopw [3] (fun i wr => ∃ (pre : List (Nat × (ByteArray × Bool))) (k : Nat), k ≤ m ∧ i = .int .i64 ((k : Int) - 1) ∧ Aside0 (backL (⟨#[]⟩, false) xs xs.length = pre ++ backL (⟨#[]⟩, false) xs k) ∧ J pre wr ∧ wr.heap[S]? = some (.cells #[.slice (some ⟨R, 0, none⟩) m c] 54 (0, 0)) ∧ Aside0 (wr.heap[R]? = w.heap[R]?))
    (fun i _ => (intOf i + 1).toNat)
  case atStart => exact ⟨[], m, Nat.le_refl _, rfl, HB0, h0, h1, ⟨h2⟩⟩
  case round =>
    obtain ⟨pre, k, hk, rfl, HB, hJs, hb1, hb2⟩ := hrel
    obtain ⟨c1, f1⟩ := cell_box hb1
    clear h0 h1 h2 HB0
    by_cases hlt : 0 < k
    · obtain ⟨j, rfl⟩ : ∃ j, k = j + 1 := ⟨k - 1, by omega⟩
      have hjm : j < m := by omega
      obtain ⟨x, hx⟩ : ∃ x, xs[j]? = some x := ⟨_, List.getElem?_eq_getElem (by rw [HM.out]; omega)⟩
      have hB : backL (⟨#[]⟩, false) xs (j + 1) = (j, x) :: backL (⟨#[]⟩, false) xs j := by
        show (j, xs.getD j (⟨#[]⟩, false)) :: _ = _
        rw [List.getD_eq_getElem?_getD, hx]; rfl
      have hcx : wr.cell? ⟨R, j * 2, none⟩ = some (.string x.1) := (World.cell?_of_block (a := ⟨R, j * 2, none⟩) hb2.out).trans (HX.out j x hx).1
      have hcy : wr.cell? ⟨R, j * 2 + 1, none⟩ = some (.bool x.2) := (World.cell?_of_block (a := ⟨R, j * 2 + 1, none⟩) hb2.out).trans (HX.out j x hx).2
      have HBn : Aside0 (backL (⟨#[]⟩, false) xs xs.length = (pre ++ [(j, x)]) ++ backL (⟨#[]⟩, false) xs j) := ⟨by rw [HB.out, hB]; simp⟩
      obtain ⟨fn, tmps, assign, body, hy, hRr⟩ := hY pre (j, x) wr hJs (by rw [HBn.out]; exact List.prefix_append _ _)
      dsimp only [encS] at hy
      have HJ := Aside0.mk hJ
      clear hY hJ hJs hx hB HB hlt
      have e1 : ((j + 1 : Nat) : Int) - 1 = (j : Int) := by omega
      have e2 : (0 : Int) ≤ (j : Int) := by omega
      have e3 : (j : Int) < (m : Int) := by omega
      rw [e1]
      clear e1
      gi_wp2
      refine hRr.mono ?_
      rintro e W' ⟨rfl, hJ', hk1, hk2⟩
      have g1 : W'.heap[S]? = some (.cells #[.slice (some ⟨R, 0, none⟩) m c] 54 (0, 0)) := hk1.trans hb1
      have g2 : Aside0 (W'.heap[R]? = w.heap[R]?) := ⟨hk2.trans hb2.out⟩
      have GG := Aside0.mk (And.intro hJ' g1)
      clear g1 hJ' hk1 hk2 c1 f1 hcx hcy hb1 hb2 hRr hy
      gi_wp2
      refine ⟨⟨pre ++ [(j, x)], j, by omega, by go_num, HBn, GG.out.1, GG.out.2, g2⟩, ?_⟩
      simp [intOf]
    · obtain rfl : k = 0 := by omega
      have hB0 : backL (⟨#[]⟩, false) xs xs.length = pre := by rw [HB.out]; simp [backL]
      have HQ := Aside0.mk (show J (backL (⟨#[]⟩, false) xs xs.length) wr by rw [hB0]; exact hJs)
      clear hJs hJ hY HB hB0
      gi_wp2
      refine ⟨rfl, .tuple #[], by simp [results, Tryd.results63, go_sem], ⟨_, rfl⟩, HQ.out⟩
end Go.Proofs.YtabjfogmcehemaaDoor
end

section
namespace Go.Proofs.YtabjfogmcehemaaDoor
open Go Go.RowKit
set_option linter.unusedVariables false
set_option linter.unusedSimpArgs false
variable {F : Fence} {n : Nat} {P : Program}
theorem wpIn_rangeFunc_fixA {α : Type} {g : Operand} {ps : Array Tmp} {assign body : Code} {Q : Exit → Act → World → Prop} {a : Act} {w : World}
    (hro : F.round = none) (h1 : 1 ≤ n) {gf : Nat} {lb : Array Value} (hg : a.eval g = .func (.func gf) #[] lb) (hFg : F.fn gf) (eg : ∀ args w, (callFunc gf args).run P w = .ok (.enter gf args) w)
    {encs : α → Array Value} {Kp : World → World → Prop} {xs : List α} {Wr : Nat → Prop} {w0 : World} (hseq : GivesFix F (n - 1) P gf lb encs xs Wr Kp w0)
    (hWr : ∀ r, Wr r → r < w.heap.size)
    (hKt : ∀ {A B C : World}, Kp A B → Kp B C → Kp A C) (hKb : ∀ (W : World) (l : Nat) (o' : Obj), w.heap.size ≤ l → Kp W (W.putObj l o')) (hb0 : Below w0.heap.size w0 w) (hps : ∀ x, (encs x).size = ps.size)
    (I : List α → World → Prop) (hI : OwnW w.heap.size Wr I) (h0 : I [] w)
    (Ax : α → Act → World → Prop) (hAx : ∀ (x : α) (a' : Act) (W : World) (l : Nat) (r : Loop) (o' : Obj), Ax x a' W → W.heap[l]? = some (.loop r) → Ax x a' (W.putObj l o'))
    (hassign : ∀ (l : Nat) (pre : List α) (x : α) (W : World) (K : Act → World → Prop), I pre W → (∀ a' W1, Below W.heap.size W W1 → Kp W W1 → Ax x a' W1 → K a' W1) →
      assign.wpIn (F.inRound l) (n - 1 - 1) P (Exit.then K (fun _ _ _ => False)) { tmps := (ps.zip (encs x)).foldl (fun t (p, v) => t.setIfInBounds p v) a.tmps, defers := [] } W)
    (hbody : ∀ (l : Nat) (pre : List α) (x : α) (a' : Act) (W : World), I pre W → Ax x a' W → pre ++ [x] <+: xs → body.wpIn (F.inRound l) (n - 1 - 1) P (fixPost w.heap.size Kp I (pre ++ [x]) W) a' W)
    (hdone : ∀ (D : Nat) (W : World), w.heap.size ≤ D → I xs W → W.heap[D]? = some (.deferred (some [])) → Q .normal { a with defers := { target := .collected D, args := #[] } :: a.defers } W) :
    (Code.rangeFunc g ps assign body).wpIn F n P Q a w := by
  refine wpIn_rangeFunc ?_
  intro fn hfn
  rw [hro]
  obtain ⟨rec, hrec⟩ : ∃ rec : LoopState → Option Code → Loop, rec = fun st pe => { state := st, pending := pe, fn, tmps := a.tmps, params := ps, assign, body, defers := w.heap.size } := ⟨_, rfl⟩
  obtain ⟨W1, hW1⟩ : ∃ W1, (w.alloc (.deferred (some []))).alloc (.loop (rec .ready none)) = W1 := ⟨_, rfl⟩
  have hL1 : W1.heap[w.heap.size + 1]? = some (.loop (rec .ready none)) := by
    rw [← hW1]; have := World.alloc_heap_new (w.alloc (.deferred (some []))) (.loop (rec .ready none)); rwa [World.size_alloc] at this
  have hK1 : W1.heap[w.heap.size]? = some (.deferred (some [])) := by
    rw [← hW1]; exact (Below.heap_alloc _ _ _ (by simp)).trans (World.alloc_heap_new w _)
  have hI1 : I [] W1 := by rw [← hW1]; exact hI.alloc _ (hI.alloc _ h0)
  have hb1 : Below w0.heap.size w0 W1 := by
    rw [← hW1]; exact hb0.trans ((((Below.refl _ w).alloc (Nat.le_refl _) _).alloc (by simp) _).mono hb0.size)
  refine ⟨w.heap.size + 1, [{ target := .collected w.heap.size, args := #[] }], W1, { target := .fn (.func gf) lb, args := #[.func (.yield (w.heap.size + 1)) #[] #[]] }, W1, gf,
    #[.func (.yield (w.heap.size + 1)) #[] #[]] ++ lb, W1, ?_, ?_, ?_, ?_, fun _ => h1, ?_⟩
  · rw [← hW1, hrec]; exact run_enterLoop_outer _ _ _ _ _
  · simp only [resolve, hg]
    simp [go_sem]
  · intro f' hf'; simp [Target.leads] at hf'; subst hf'; exact hFg
  · simp [invoke, go_sem, eg]
  · have keep : ∀ {A B : World} {row : Option Nat}, A.grownBy B row → (∀ r, row = some r → Wr r) → ∀ {k : Nat} {o : Obj}, w.heap.size ≤ k → A.heap[k]? = some o → B.heap[k]? = some o := by
      intro A B row hg' hr k o hk ho
      exact (hg'.block k (Array.getElem?_eq_some_iff.1 ho).1 (fun e => by have := hWr k (hr k e.symm); omega)).trans ho
    refine (hseq (w.heap.size + 1)
      (fun pre W => I pre W ∧ W.heap[w.heap.size + 1]? = some (.loop (rec .ready none)) ∧ W.heap[w.heap.size]? = some (.deferred (some [])))
      W1 hb1
      (fun s A B row hs hg' hr => ⟨hI s A B row hs.1 hg' (fun r e => .inr (hr r e)), keep hg' hr (by omega) hs.2.1, keep hg' hr (Nat.le_refl _) hs.2.2⟩)
      ?_ ⟨hI1, hL1, hK1⟩).mono ?_
    · rintro pre x W ⟨hi, hl, hk⟩ hlen
      have hlt : w.heap.size + 1 < W.heap.size := (Array.getElem?_eq_some_iff.1 hl).1
      have hy := run_yield (P := P) (args := encs x) hl (by rw [hrec]; exact hps x)
      rw [hrec] at hy
      refine ⟨fn, _, assign, body, hy, roundIn_of_wpIn hfn (hassign _ pre x W _ hi (fun a' Wa hba hka hax => ⟨_, run_beginRound ((hba.block _ hlt).trans hl) (by rw [hrec]), ?_⟩))⟩
      have hla : Wa.heap[w.heap.size + 1]? = some (.loop (rec .ready none)) := (hba.block _ hlt).trans hl
      have hkka : Wa.heap[w.heap.size]? = some (.deferred (some [])) := (hba.block _ (by omega)).trans hk
      have hia : I pre Wa := hI pre W Wa none hi ⟨hba.os, hba.tape, hba.output, hba.size, fun k hk' _ => hba.block k hk'⟩ (fun r e => by cases e)
      have hlta : w.heap.size + 1 < Wa.heap.size := Nat.lt_of_lt_of_le hlt hba.size
      have hl2 : (Wa.putObj (w.heap.size + 1) (.loop { rec .ready none with state := .busy })).heap[w.heap.size + 1]? = some (.loop { rec .ready none with state := .busy }) := World.putObj_heap_same hlta
      have hk2 : (Wa.putObj (w.heap.size + 1) (.loop { rec .ready none with state := .busy })).heap[w.heap.size]? = some (.deferred (some [])) := (World.putObj_heap_other (by omega)).trans hkka
      have hw2 : Kp Wa (Wa.putObj (w.heap.size + 1) (.loop { rec .ready none with state := .busy })) := hKb _ _ _ (by omega)
      refine wpIn_mono (hbody _ pre x a' _ (hI.putObj _ hia (by omega) hla rfl) (hAx _ _ _ _ _ _ hax hla) hlen) ?_
      rintro e a3 W3 hp
      cases e with
      | normal =>
        obtain ⟨hk3, hkp3, hi3⟩ := hp
        have hl3 := hk3.same _ _ (by omega) hl2 rfl
        have hr := run_endRound (P := P) none hl3
        rw [hrec] at hr
        have hl4 : (W3.putObj (w.heap.size + 1) (.loop (rec .ready none))).heap[w.heap.size + 1]? = some (.loop (rec .ready none)) := World.putObj_heap_same (Array.getElem?_eq_some_iff.1 hl3).1
        have hk4 : (W3.putObj (w.heap.size + 1) (.loop (rec .ready none))).heap[w.heap.size]? = some (.deferred (some [])) := (World.putObj_heap_other (by omega)).trans (hk3.same _ _ (Nat.le_refl _) hk2 rfl)
        refine ⟨_, _, hr, rfl, ⟨?_, ?_, ?_⟩, hKt (hKt (hKt hka hw2) hkp3) (hKb _ _ _ (by omega))⟩
        · exact hI.putObj _ hi3 (by omega) hl3 rfl
        · rw [hrec] at hl4 ⊢; exact hl4
        · rw [hrec] at hk4; exact hk4
      | _ => exact hp.elim
    · rintro e W2 ⟨⟨v, rfl⟩, hi, hl, hk⟩
      exact ⟨none, _, by have := run_endLoop (P := P) hl (by rw [hrec]; simp); rw [hrec] at this; exact this, hdone _ _ (Nat.le_refl _) (hI.putObj _ hi (by omega) hl rfl) ((World.putObj_heap_other (by omega)).trans hk)⟩
theorem wpIn_rangeFunc_fixB {α : Type} {g : Operand} {ps : Array Tmp} {assign body : Code} {Q : Exit → Act → World → Prop} {a : Act} {w : World}
    (hro : F.round = none) (h1 : 1 ≤ n) {gf : Nat} {lb : Array Value} (hg : a.eval g = .func (.func gf) #[] lb) (hFg : F.fn gf) (eg : ∀ args w, (callFunc gf args).run P w = .ok (.enter gf args) w)
    {encs : α → Array Value} {Kp : World → World → Prop} {xs : List α} {Wr : Nat → Prop} {w0 : World} (hseq : GivesFix F (n - 1) P gf lb encs xs Wr Kp w0)
    (hWr : ∀ r, Wr r → r < w.heap.size)
    (hKt : ∀ {A B C : World}, Kp A B → Kp B C → Kp A C) (hKb : ∀ (W : World) (l : Nat) (o' : Obj), w.heap.size ≤ l → Kp W (W.putObj l o')) (hb0 : Below w0.heap.size w0 w) (hps : ∀ x, (encs x).size = ps.size)
    (I : List α → World → Prop) (hI : OwnW w.heap.size Wr I) (h0 : I [] w) (hsz : ∀ pre W, I pre W → w.heap.size ≤ W.heap.size) (hKa : ∀ pre W o, I pre W → Kp W (W.alloc o))
    (cs : α → Array Value) (ty : TypeId) (af : α → Nat → Act)
    (hassign : ∀ (l : Nat) (pre : List α) (x : α) (W : World) (K : Act → World → Prop), I pre W → (∀ b, W.heap.size = b → K (af x b) (W.alloc (.cells (cs x) ty))) →
      assign.wpIn (F.inRound l) (n - 1 - 1) P (Exit.then K (fun _ _ _ => False)) { tmps := (ps.zip (encs x)).foldl (fun t (p, v) => t.setIfInBounds p v) a.tmps, defers := [] } W)
    (hbody : ∀ (l : Nat) (pre : List α) (x : α) (b : Nat) (W : World), I pre W → w.heap.size ≤ b → W.heap[b]? = some (.cells (cs x) ty (0, 0)) → pre ++ [x] <+: xs → body.wpIn (F.inRound l) (n - 1 - 1) P (fixPost w.heap.size Kp I (pre ++ [x]) W) (af x b) W)
    (hdone : ∀ (D : Nat) (W : World), w.heap.size ≤ D → I xs W → W.heap[D]? = some (.deferred (some [])) → Q .normal { a with defers := { target := .collected D, args := #[] } :: a.defers } W) :
    (Code.rangeFunc g ps assign body).wpIn F n P Q a w := by
  refine wpIn_rangeFunc_fixA hro h1 hg hFg eg hseq hWr hKt hKb hb0 hps I hI h0 (fun x a' W => ∃ b, w.heap.size ≤ b ∧ W.heap[b]? = some (.cells (cs x) ty (0, 0)) ∧ a' = af x b) ?_ ?_ ?_ hdone
  · rintro x a' W l r o' ⟨b, hb1, hb2, hb3⟩ hl
    refine ⟨b, hb1, (World.putObj_heap_other ?_).trans hb2, hb3⟩
    intro e
    rw [← e, hb2] at hl
    cases hl
  · intro l pre x W K hi hK
    exact hassign l pre x W K hi (fun b hb => hK _ _ ((Below.refl _ _).alloc (Nat.le_refl _) _) (hKa pre W _ hi) ⟨b, by have := hsz pre W hi; omega, by rw [← hb]; exact World.alloc_heap_new _ _, rfl⟩)
  · rintro l pre x a' W hi ⟨b, hb1, hb2, rfl⟩ hpre
    exact hbody l pre x b W hi hb1 hb2 hpre
end Go.Proofs.YtabjfogmcehemaaDoor
end

section
namespace Go.Proofs.YtabjfogmcehemaaDoor
open Go.RowKit Go.Shelf Go.Proofs.YtabjfogmcehemaaDoorW.PrintWords Go.Proofs.YtabjfogmcehemaaDoorW.PrintLast Go.Proofs.YtabjfogmcehemaaDoorW.PrintMore
set_option linter.unusedVariables false
set_option linter.unusedSimpArgs false
attribute [local go_sem] Oper.semAt_some
attribute [local go_sem] max2_int min2_int max_two min_two
def joinS (x : ByteArray × Bool) (p : ByteArray) : ByteArray := if x.2 then nodeB x.1 p else nodeB p x.1
theorem joinS_size (x : ByteArray × Bool) (p : ByteArray) : (joinS x p).size = 32 := by unfold joinS; split <;> exact nodeB_size _ _
set_option maxRecDepth 100000 in
theorem join_any (x : ByteArray × Bool) (p : ByteArray) (w : World) (HG : Aside0 (Laid w)) (hs : x.1.size + p.size ≤ 35184372088832) :
    Calls Tryd.prog 48 #[.agg #[.string x.1, .bool x.2], .string p] w fun e w' => e = .returned (.string (joinS x p)) ∧ Below w.heap.size w w' := by
  obtain ⟨r, f⟩ := x
  cases f with
  | true =>
    have H : Aside0 (∀ W : World, Below w.heap.size w W → Calls Tryd.prog 32 #[.string r, .string p] W fun e w' => e = .returned (.string (nodeB r p)) ∧ Below w.heap.size w w') := ⟨fun W hb => (node_any r p W ⟨HG.out.below hb⟩ hs).mono fun e w' ⟨he, h⟩ => ⟨he, below_step hb h⟩⟩
    dsimp only [joinS]
    go_enter Tryd.func48, Tryd.ntmps48
    go_wp2_with (go_at_call 32; go_must (refine (H.out _ ((Below.refl _ _).alloc (Nat.le_refl _) _)).mono ?_); rintro e w' ⟨rfl, hb⟩)
    go_ret
    exact ⟨rfl, hb⟩
  | false =>
    have H : Aside0 (∀ W : World, Below w.heap.size w W → Calls Tryd.prog 32 #[.string p, .string r] W fun e w' => e = .returned (.string (nodeB p r)) ∧ Below w.heap.size w w') := ⟨fun W hb => (node_any p r W ⟨HG.out.below hb⟩ (by simp only at hs; omega)).mono fun e w' ⟨he, h⟩ => ⟨he, below_step hb h⟩⟩
    dsimp only [joinS]
    go_enter Tryd.func48, Tryd.ntmps48
    go_wp2_with (go_at_call 32; go_must (refine (H.out _ ((Below.refl _ _).alloc (Nat.le_refl _) _)).mono ?_); rintro e w' ⟨rfl, hb⟩)
    go_ret
    exact ⟨rfl, hb⟩
theorem take_none (A : Option Addr) (c : Nat) (w : World) :
    Calls Tryd.prog 46 #[.slice A 0 c] w fun e w' => e = .returned (.tuple #[.string ⟨#[]⟩, .slice none 0 0, .bool false]) ∧ Drawn0 w w' := by
  go_enter Tryd.func46, Tryd.ntmps46
  go_wp2
  exact bodyPost_ret (v := .tuple #[.string ⟨#[]⟩, .slice none 0 0, .bool false]) (by simp [results, Tryd.results46, go_sem]) rfl ⟨rfl, Drawn0.refl _⟩
theorem take_some (ad : Addr) (m c : Nat) (x : ByteArray) (w : World) (hc : w.cell? (ad.add m) = some (.string x)) (hm : m + 1 ≤ c) (hl : m ≤ 1000000) :
    Calls Tryd.prog 46 #[.slice (some ad) (m + 1) c] w fun e w' => e = .returned (.tuple #[.string x, .slice (some ad) m c, .bool true]) ∧ Drawn0 w w' := by
  have b1 : (0 : Int) ≤ (m : Int) := by omega
  have b2 : (m : Int) ≤ (c : Int) := by omega
  go_enter Tryd.func46, Tryd.ntmps46
  go_upto_region 4 with (fail)
  go_quiet ((fail))
  go_wp2
  exact bodyPost_ret (v := .tuple #[.string x, .slice (some ad) m c, .bool true]) (by simp [results, Tryd.results46, go_sem]) rfl ⟨rfl, ⟨_, rfl⟩⟩
def sidesV (way : List (ByteArray × Bool)) : List Value := way.flatMap fun x => [Value.string x.1, Value.bool x.2]
theorem sidesV_app (way : List (ByteArray × Bool)) (x : ByteArray × Bool) : sidesV (way ++ [x]) = sidesV way ++ [.string x.1, .bool x.2] := by
  simp [sidesV]
theorem sidesV_at (way : List (ByteArray × Bool)) : ∀ (j : Nat) (x : ByteArray × Bool), way[j]? = some x → (sidesV way)[j * 2]? = some (.string x.1) ∧ (sidesV way)[j * 2 + 1]? = some (.bool x.2) := by
  induction way with
  | nil => intro j x h; simp at h
  | cons y way ih =>
    intro j x h
    cases j with
    | zero => cases h; exact ⟨rfl, rfl⟩
    | succ j =>
      rw [List.getElem?_cons_succ] at h
      obtain ⟨h1, h2⟩ := ih j x h
      have e : sidesV (y :: way) = .string y.1 :: .bool y.2 :: sidesV way := rfl
      rw [e]
      refine ⟨?_, ?_⟩
      · rw [show (j + 1) * 2 = j * 2 + 1 + 1 by omega, List.getElem?_cons_succ, List.getElem?_cons_succ]; exact h1
      · rw [show (j + 1) * 2 + 1 = j * 2 + 1 + 1 + 1 by omega, List.getElem?_cons_succ, List.getElem?_cons_succ]; exact h2
theorem own_cellN {W : World} {base g n cap j size : Nat} {e : TypeId} {xs : List Value} {v : Value} (h : W.ownsRow base e size (.slice (some ⟨g, 0, none⟩) n cap) n xs) (hv : xs[j]? = some v) : W.cell? ⟨g, j, none⟩ = some v := by
  obtain ⟨h1, h2⟩ := h
  rcases h2 with ⟨h2, _⟩ | ⟨g', cap', cur, he, hg, hh, hn, hc, hs, ht⟩
  · cases h2
  · cases he
    unfold World.cell?
    rw [hh]
    simp only [Option.bind_some]
    rw [← ht, List.getElem?_take] at hv
    split at hv
    · rw [Array.getElem?_toList] at hv; exact hv
    · cases hv
theorem own_formN {w : World} {base n size : Nat} {e : TypeId} {v : Value} {xs : List Value} (h : w.ownsRow base e size v n xs) : (v = .slice none 0 0 ∧ n = 0) ∨ ∃ g cap, v = .slice (some ⟨g, 0, none⟩) n cap ∧ base ≤ g ∧ g < w.heap.size ∧ n ≤ cap := by
  rcases h.2 with ⟨h1, h2⟩ | ⟨g, cap, cur, rfl, hg, hh, hn, _⟩
  · exact .inl ⟨h1, h2⟩
  · exact .inr ⟨g, cap, rfl, hg, own_lt h g rfl, hn⟩
theorem info58 : (Tryd.prog.info? 58).map (fun i => (i.zero, i.size, i.bytes)) = some (some (.agg #[.string ⟨#[]⟩, .bool false]), 2, 24) := by kernel_rfl
set_option maxRecDepth 100000 in
set_option maxHeartbeats 4000000 in
theorem backS_nil (F : Fence) (n : Nat) (h63 : F.fn 63) (hro : F.round = none) (hn : 1 ≤ n) (S R : Nat) (w : World)
    (hS : w.heap[S]? = some (.cells #[.slice none 0 0] 54 (0, 0))) :
    GivesFix F n Tryd.prog 63 #[.pointer (some ⟨S, 0, none⟩)] encS [] (fun _ => False) (fun W W' => W'.heap[S]? = W.heap[S]? ∧ W'.heap[R]? = W.heap[R]?) w := by
  intro l J W hW hJ hY h0
  have h1 := (hW.block S (Array.getElem?_eq_some_iff.1 hS).1).trans hS
  clear hS hW hY hJ
  refine callsIn_of_wp Tryd.func63 rfl h63 ?_ hro
  simp only [Tryd.ntmps63, List.size_toArray, List.length_cons, List.length_nil, Nat.reduceAdd, Nat.reduceSub, Array.replicate_succ, Array.replicate_zero, List.push_toArray, List.append_toArray, List.nil_append, List.cons_append]
  obtain ⟨c0, f0⟩ := cell_box h1
  gi_wp2
  gi_loopw [3] (fun i wr => i = .int .i64 (-1) ∧ wr = W) (fun _ _ => 0)
  case atStart => exact ⟨rfl, rfl⟩
  case round =>
    obtain ⟨rfl, rfl⟩ := hrel
    gi_wp2
    refine ⟨rfl, .tuple #[], by simp [results, Tryd.results63, go_sem], ⟨_, rfl⟩, h0⟩
end Go.Proofs.YtabjfogmcehemaaDoor
end

section
namespace Go.Proofs.YtabjfogmcehemaaDoor
set_option linter.unusedVariables false
set_option linter.unusedSimpArgs false
def valR : List ByteArray → Nat → Nat → ByteArray → Option ByteArray
  | [], n, _, v => if n ≤ 1 then some v else none
  | x :: rp, n, i, v => if n ≤ 1 then none else if leftOf n ≤ i then (valR rp (n - leftOf n) (i - leftOf n) v).map (joinS (x, true)) else (valR rp (leftOf n) i v).map (joinS (x, false))
def foldS (way : List (ByteArray × Bool)) (v : ByteArray) : ByteArray := way.foldr joinS v
theorem foldS_snoc (way : List (ByteArray × Bool)) (x : ByteArray × Bool) (v : ByteArray) : foldS (way ++ [x]) v = foldS way (joinS x v) := by
  unfold foldS; rw [List.foldr_append]; rfl
def eqB (a b : ByteArray) : Bool := a.toList == b.toList
theorem toList_inj {s t : ByteArray} (h : s.toList = t.toList) : s = t := by
  rw [ByteArray.toList_eq, ByteArray.toList_eq] at h
  exact ByteArray.ext (Array.toList_inj.1 h)
theorem eqB_iff (a b : ByteArray) : eqB a b = true ↔ a = b := by
  unfold eqB
  rw [beq_iff_eq]
  exact ⟨toList_inj, fun h => by rw [h]⟩
def okB (o : Option ByteArray) (root : ByteArray) : Bool := match o with
  | none => false
  | some v => eqB v root
def verR (root : ByteArray) (n i : Int) (s : ByteArray) (proof : List ByteArray) : Bool :=
  decide (0 ≤ i) && (decide (i < n) && (proof.all isDig && okB (valR proof.reverse n.toNat i.toNat (leafB s)) root))
theorem map_foldS (way : List (ByteArray × Bool)) (x : ByteArray × Bool) (o : Option ByteArray) : (o.map (joinS x)).map (foldS way) = o.map (foldS (way ++ [x])) := by
  cases o with
  | none => rfl
  | some v => simp only [Option.map_some, foldS_snoc]
theorem valR_end0 (n i : Nat) (v : ByteArray) (h : n ≤ 1) : valR [] n i v = some v := by simp only [valR]; rw [if_pos h]
theorem valR_none (n i : Nat) (v : ByteArray) (h : ¬ n ≤ 1) : valR [] n i v = none := by simp only [valR]; rw [if_neg h]
theorem valR_end1 (x : ByteArray) (rp : List ByteArray) (n i : Nat) (v : ByteArray) (h : n ≤ 1) : valR (x :: rp) n i v = none := by simp only [valR]; rw [if_pos h]
theorem valR_hi (x : ByteArray) (rp : List ByteArray) (n i : Nat) (v : ByteArray) (h : ¬ n ≤ 1) (hi : leftOf n ≤ i) : valR (x :: rp) n i v = (valR rp (n - leftOf n) (i - leftOf n) v).map (joinS (x, true)) := by
  simp only [valR]; rw [if_neg h, if_pos hi]
theorem valR_lo (x : ByteArray) (rp : List ByteArray) (n i : Nat) (v : ByteArray) (h : ¬ n ≤ 1) (hi : ¬ leftOf n ≤ i) : valR (x :: rp) n i v = (valR rp (leftOf n) i v).map (joinS (x, false)) := by
  simp only [valR]; rw [if_neg h, if_neg hi]
def sideAt (v : ByteArray) (pre : List (Nat × (ByteArray × Bool))) : ByteArray := pre.foldl (fun out p => joinS p.2 out) v
theorem sideAt_next (v : ByteArray) (pre : List (Nat × (ByteArray × Bool))) (p : Nat × (ByteArray × Bool)) : sideAt v (pre ++ [p]) = joinS p.2 (sideAt v pre) := by
  unfold sideAt; rw [List.foldl_append]; rfl
theorem sideAt_size (v : ByteArray) (hv : v.size = 32) (pre : List (Nat × (ByteArray × Bool))) : (sideAt v pre).size = 32 := by
  have : ∀ (pre : List (Nat × (ByteArray × Bool))) (v : ByteArray), v.size = 32 → (pre.foldl (fun out p => joinS p.2 out) v).size = 32 := by
    intro pre
    induction pre with
    | nil => exact fun _ h => h
    | cons p pre ih => exact fun v h => ih _ (joinS_size _ _)
  exact this pre v hv
theorem sideAt_all (v : ByteArray) (way : List (ByteArray × Bool)) : sideAt v (backL (⟨#[]⟩, false) way way.length) = foldS way v := by
  have h := backL_snd ((⟨#[]⟩, false) : ByteArray × Bool) way _ (Nat.le_refl _)
  have e : ∀ (pre : List (Nat × (ByteArray × Bool))) (v : ByteArray), sideAt v pre = (pre.map (·.2)).foldl (fun out x => joinS x out) v := by
    intro pre v
    unfold sideAt
    rw [List.foldl_map]
  rw [e, h, List.take_length, List.foldl_reverse]
  rfl
def jj (x : ByteArray × Bool) (p : ByteArray × ByteArray) : ByteArray × ByteArray := (if x.2 then joinS x p.1 else p.1, joinS x p.2)
def bothR (old : ByteArray) : List ByteArray → Nat → Nat → Bool → Option (ByteArray × ByteArray)
  | [], m, n, whole => if n ≤ m then (if whole then some (old, old) else none) else none
  | x :: rp, m, n, whole => if n ≤ m then (if whole then none else (match rp with | [] => some (x, x) | _ :: _ => none))
      else if leftOf n < m then (bothR old rp (m - leftOf n) (n - leftOf n) false).map (jj (x, true)) else (bothR old rp m (leftOf n) whole).map (jj (x, false))
def foldJ (way : List (ByteArray × Bool)) (p : ByteArray × ByteArray) : ByteArray × ByteArray := way.foldr jj p
theorem foldJ_snoc (way : List (ByteArray × Bool)) (x : ByteArray × Bool) (v : ByteArray × ByteArray) : foldJ (way ++ [x]) v = foldJ way (jj x v) := by
  unfold foldJ; rw [List.foldr_append]; rfl
theorem map_foldJ (way : List (ByteArray × Bool)) (x : ByteArray × Bool) (o : Option (ByteArray × ByteArray)) : (o.map (jj x)).map (foldJ way) = o.map (foldJ (way ++ [x])) := by
  cases o with
  | none => rfl
  | some v => simp only [Option.map_some, foldJ_snoc]
theorem jj_size (x : ByteArray × Bool) (p : ByteArray × ByteArray) (h : p.1.size = 32) : (jj x p).1.size = 32 ∧ (jj x p).2.size = 32 := by
  refine ⟨?_, joinS_size _ _⟩
  unfold jj
  dsimp only
  split
  · exact joinS_size _ _
  · exact h
theorem bothR_none (old : ByteArray) (m n : Nat) (b : Bool) (h : m < n) : bothR old [] m n b = none := by simp only [bothR]; rw [if_neg (by omega)]
theorem bothR_end0 (old : ByteArray) (m n : Nat) (b : Bool) (h : n ≤ m) : bothR old [] m n b = if b then some (old, old) else none := by simp only [bothR]; rw [if_pos h]
theorem bothR_end1 (old x : ByteArray) (rp : List ByteArray) (m n : Nat) (b : Bool) (h : n ≤ m) : bothR old (x :: rp) m n b = if b then none else (match rp with | [] => some (x, x) | _ :: _ => none) := by simp only [bothR]; rw [if_pos h]
theorem bothR_hi (old x : ByteArray) (rp : List ByteArray) (m n : Nat) (b : Bool) (h : m < n) (hk : leftOf n < m) : bothR old (x :: rp) m n b = (bothR old rp (m - leftOf n) (n - leftOf n) false).map (jj (x, true)) := by
  simp only [bothR]; rw [if_neg (by omega), if_pos hk]
theorem bothR_lo (old x : ByteArray) (rp : List ByteArray) (m n : Nat) (b : Bool) (h : m < n) (hk : m ≤ leftOf n) : bothR old (x :: rp) m n b = (bothR old rp m (leftOf n) b).map (jj (x, false)) := by
  simp only [bothR]; rw [if_neg (by omega), if_neg (by omega)]
def okJ (o : Option (ByteArray × ByteArray)) (old root : ByteArray) : Bool := match o with
  | none => false
  | some p => eqB p.1 old && eqB p.2 root
def vexR (old : ByteArray) (m : Int) (root : ByteArray) (n : Int) (proof : List ByteArray) : Bool :=
  decide (0 ≤ m) && (decide (m ≤ n) && (proof.all isDig && (isDig old && (isDig root &&
    (if m = 0 then proof.isEmpty && eqB old (sumF ⟨#[]⟩) else if m = n then proof.isEmpty && eqB old root else okJ (bothR old proof.reverse m.toNat n.toNat true) old root)))))
def bothAt (v : ByteArray) (pre : List (Nat × (ByteArray × Bool))) : ByteArray × ByteArray := pre.foldl (fun out p => jj p.2 out) (v, v)
theorem bothAt_next (v : ByteArray) (pre : List (Nat × (ByteArray × Bool))) (p : Nat × (ByteArray × Bool)) : bothAt v (pre ++ [p]) = jj p.2 (bothAt v pre) := by
  unfold bothAt; rw [List.foldl_append]; rfl
theorem bothAt_size (v : ByteArray) (hv : v.size = 32) (pre : List (Nat × (ByteArray × Bool))) : (bothAt v pre).1.size = 32 ∧ (bothAt v pre).2.size = 32 := by
  have : ∀ (pre : List (Nat × (ByteArray × Bool))) (v : ByteArray × ByteArray), v.1.size = 32 ∧ v.2.size = 32 → (pre.foldl (fun out p => jj p.2 out) v).1.size = 32 ∧ (pre.foldl (fun out p => jj p.2 out) v).2.size = 32 := by
    intro pre
    induction pre with
    | nil => exact fun _ h => h
    | cons p pre ih => exact fun v h => ih _ (jj_size _ _ h.1)
  exact this pre (v, v) ⟨hv, hv⟩
theorem bothAt_all (v : ByteArray) (way : List (ByteArray × Bool)) : bothAt v (backL (⟨#[]⟩, false) way way.length) = foldJ way (v, v) := by
  have h := backL_snd ((⟨#[]⟩, false) : ByteArray × Bool) way _ (Nat.le_refl _)
  have e : ∀ (pre : List (Nat × (ByteArray × Bool))) (v : ByteArray × ByteArray), pre.foldl (fun out p => jj p.2 out) v = (pre.map (·.2)).foldl (fun out x => jj x out) v := by
    intro pre v
    rw [List.foldl_map]
  unfold bothAt
  rw [e, h, List.take_length, List.foldl_reverse]
  rfl
end Go.Proofs.YtabjfogmcehemaaDoor
end

section
namespace Go.Proofs.YtabjfogmcehemaaDoor
set_option linter.unusedVariables false
set_option linter.unusedSimpArgs false
def proofR : Nat → List ByteArray → Nat → List ByteArray
  | 0, _, _ => []
  | f + 1, l, i => if l.length = 1 then [] else
      if i < leftOf l.length then proofR f (l.take (leftOf l.length)) i ++ [rootS (l.drop (leftOf l.length))]
      else proofR f (l.drop (leftOf l.length)) (i - leftOf l.length) ++ [rootS (l.take (leftOf l.length))]
def extR : Nat → List ByteArray → Nat → Bool → List ByteArray
  | 0, _, _, _ => []
  | f + 1, l, m, whole => if l.length ≤ m then (if whole then [] else [rootS l]) else
      if leftOf l.length < m then extR f (l.drop (leftOf l.length)) (m - leftOf l.length) false ++ [rootS (l.take (leftOf l.length))]
      else extR f (l.take (leftOf l.length)) m whole ++ [rootS (l.drop (leftOf l.length))]
theorem proofR_one (f : Nat) (l : List ByteArray) (i : Nat) (h : l.length = 1) : proofR f l i = [] := by
  cases f with
  | zero => rfl
  | succ f => simp only [proofR]; rw [if_pos h]
theorem proofR_lo (f : Nat) (l : List ByteArray) (i : Nat) (h : l.length ≠ 1) (hi : i < leftOf l.length) : proofR (f + 1) l i = proofR f (l.take (leftOf l.length)) i ++ [rootS (l.drop (leftOf l.length))] := by
  simp only [proofR]; rw [if_neg h, if_pos hi]
theorem proofR_hi (f : Nat) (l : List ByteArray) (i : Nat) (h : l.length ≠ 1) (hi : leftOf l.length ≤ i) : proofR (f + 1) l i = proofR f (l.drop (leftOf l.length)) (i - leftOf l.length) ++ [rootS (l.take (leftOf l.length))] := by
  simp only [proofR]; rw [if_neg h, if_neg (by omega)]
theorem extR_end (f : Nat) (l : List ByteArray) (m : Nat) (b : Bool) (hf : 1 ≤ f) (h : l.length ≤ m) : extR f l m b = if b then [] else [rootS l] := by
  obtain ⟨f, rfl⟩ : ∃ g, f = g + 1 := ⟨f - 1, by omega⟩
  simp only [extR]; rw [if_pos h]
theorem extR_hi (f : Nat) (l : List ByteArray) (m : Nat) (b : Bool) (h : m < l.length) (hm : leftOf l.length < m) : extR (f + 1) l m b = extR f (l.drop (leftOf l.length)) (m - leftOf l.length) false ++ [rootS (l.take (leftOf l.length))] := by
  simp only [extR]; rw [if_neg (by omega), if_pos hm]
theorem extR_lo (f : Nat) (l : List ByteArray) (m : Nat) (b : Bool) (h : m < l.length) (hm : m ≤ leftOf l.length) : extR (f + 1) l m b = extR f (l.take (leftOf l.length)) m b ++ [rootS (l.drop (leftOf l.length))] := by
  simp only [extR]; rw [if_neg (by omega), if_neg (by omega)]
end Go.Proofs.YtabjfogmcehemaaDoor
end
