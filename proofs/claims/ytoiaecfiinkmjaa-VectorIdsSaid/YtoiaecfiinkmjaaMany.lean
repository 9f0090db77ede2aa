/- vector.Lacks at what is no vector, vector.Many: their contracts. -/
import Derived.Test.YtoiaecfiinkmjaaEqual
namespace Go.Proofs.Ytoiaecfiinkmjaa
open Go.RowKit Go.Shelf
attribute [local go_sem] Oper.semAt_some

/-- what one lacks of another one; nothing, where one is no vector. -/
def lackR (f g : Nat → Int) : List Str := if okVec f = true ∧ okVec g = true then lackOf f g [1,2,3,4,5,6,7,8] else []

theorem Lacks_bad (f g : Nat → Int) (w : World) (hbad : ¬ (okVec f = true ∧ okVec g = true)) :
    Calls Try.prog 11 #[vec f, vec g] w (Ret (.slice none 0 0) w) := by
  have k0 := (Blk.new w 24 (vecC f)).alloc (.cells (vecC g) 24)
  have k1 := Blk.new (w.alloc (.cells (vecC f) 24)) 24 (vecC g)
  rw [World.size_alloc] at k1
  have K0 := Lib.hid k0
  have K1 := Lib.hid k1
  have HW : Hid (Below w.heap.size w ((w.alloc (.cells (vecC f) 24)).alloc (.cells (vecC g) 24))) := by show Below _ _ _; go_grown
  clear k0 k1
  by_cases hf : okVec f = true
  · have hg : okVec g = false := by
      cases h : okVec g with
      | false => rfl
      | true => exact absurd ⟨hf, h⟩ hbad
    have HC := Lib.hid (fun W => Check_ok f hf W)
    have HD := Lib.hid (fun W => Check_bad g hg W)
    clear hbad hf hg
    go_enter Try.func11, Try.ntmps11
    unfold vec
    go_wp2_with fail
    refine (HC.out _).mono ?_
    rintro e W1 ⟨rfl, hb1⟩
    have L1 := Lib.hid (K1.out.below hb1 (by simp))
    have HB1 : Hid (Below w.heap.size w W1) := Below.trans HW.out (hb1.mono (by simp; omega))
    clear hb1
    have c1 := fun k (hk : k < 9) => (L1.out.cell k).trans (vecC_get g hk)
    have d0 := c1 0 (by omega); have d1 := c1 1 (by omega); have d2 := c1 2 (by omega); have d3 := c1 3 (by omega); have d4 := c1 4 (by omega); have d5 := c1 5 (by omega); have d6 := c1 6 (by omega); have d7 := c1 7 (by omega); have d8 := c1 8 (by omega)
    clear c1
    go_wp2_with fail
    refine (HD.out _).mono ?_
    rintro e W2 ⟨rfl, hb2⟩
    have HB2 : Hid (Below w.heap.size w W2) := HB1.out.trans (hb2.mono HB1.out.size)
    clear hb2 d0 d1 d2 d3 d4 d5 d6 d7 d8
    go_wp2
    go_ret
    exact ⟨rfl, HB2.out⟩
  · have hf' : okVec f = false := by simpa using hf
    have HC := Lib.hid (fun W => Check_bad f hf' W)
    clear hbad hf hf'
    go_enter Try.func11, Try.ntmps11
    unfold vec
    go_wp2_with fail
    refine (HC.out _).mono ?_
    rintro e W1 ⟨rfl, hb1⟩
    have HB1 : Hid (Below w.heap.size w W1) := Below.trans HW.out (hb1.mono (by simp; omega))
    clear hb1
    go_wp2
    go_ret
    exact ⟨rfl, HB1.out⟩

theorem Lacks_any (f g : Nat → Int) (hpf : posV f) (w : World) :
    Calls Try.prog 11 #[vec f, vec g] w fun e w' => ∃ v, e = .returned v ∧ StrOwn w.heap.size w' v (lackR f g) ∧ Below w.heap.size w w' := by
  by_cases h : okVec f = true ∧ okVec g = true
  · rw [show lackR f g = lackOf f g [1,2,3,4,5,6,7,8] from if_pos h]
    exact Lacks_ok f g hpf w h.1 h.2
  · rw [show lackR f g = [] from if_neg h]
    exact (Lacks_bad f g w h).mono fun e w' he => ⟨_, he.1, ⟨by simpa [strCells] using World.ownsRow_nil w' w.heap.size 36 3, by simp⟩, he.2⟩

theorem flat_get {α : Type} {enc : α → List Value} {k : Nat} (hk : ∀ x, (enc x).length = k) : ∀ (L : List α) (j : Nat) (x : α), L[j]? = some x → ∀ i v, (enc x)[i]? = some v → (L.flatMap enc)[j * k + i]? = some v
  | [], j, x, h, _, _, _ => by simp at h
  | y :: L, 0, x, h, i, v, hv => by
    obtain rfl : y = x := by simpa using h
    have hi := (List.getElem?_eq_some_iff.1 hv).1
    rw [List.flatMap_cons, Nat.zero_mul, Nat.zero_add, List.getElem?_append_left hi]
    exact hv
  | y :: L, j + 1, x, h, i, v, hv => by
    have h' : L[j]? = some x := by simpa using h
    rw [List.flatMap_cons, List.getElem?_append_right (by rw [hk]; rw [Nat.succ_mul]; omega), hk, show (j + 1) * k + i - k = j * k + i from by rw [Nat.succ_mul]; omega]
    exact flat_get hk L j x h' i v hv
theorem flat_length {α : Type} {enc : α → List Value} {k : Nat} (hk : ∀ x, (enc x).length = k) : ∀ L : List α, (L.flatMap enc).length = L.length * k
  | [] => by simp
  | y :: L => by rw [List.flatMap_cons, List.length_append, hk, flat_length hk L, List.length_cons, Nat.succ_mul, Nat.add_comm]
/-- a row of the call's own, read. -/
theorem rowS_of_own {α : Type} {enc : α → List Value} {k : Nat} (hk : ∀ x, (enc x).length = k) {W : World} {B : Nat} {e : TypeId} {v : Value} {L : List α} (h : W.ownsRow B e k v L.length (L.flatMap enc)) :
    ∃ a c, v = .slice a L.length c ∧ RowS enc k W a L.length L := by
  rcases h.2 with ⟨rfl, h0⟩ | ⟨g, cap, cur, rfl, hg, hgg, h1, h2, h3, h4⟩
  · exact ⟨none, 0, by rw [h0], rfl, by omega, .inl (List.length_eq_zero_iff.1 h0)⟩
  · refine ⟨_, cap, rfl, rfl, by simp only [maxLen] at h2; omega, .inr ⟨g, 0, rfl, (Array.getElem?_eq_some_iff.1 hgg).1, fun j x hj i u hu => ?_⟩⟩
    have hf := flat_get hk L j x hj i u hu
    rw [← h4] at hf
    have hi : j * k + i < L.length * k := by
      have := (List.getElem?_eq_some_iff.1 hf).1
      rw [List.length_take] at this; omega
    rw [List.getElem?_take_of_lt hi] at hf
    rw [cell_of_row W g (0 + j * k + i) cur e (0, 0) hgg, Nat.zero_add]
    simpa using hf
theorem StrOwn.rowS {n0 : Nat} {W : World} {v : Value} {L : List Str} (h : StrOwn n0 W v L) : ∃ a c, v = .slice a L.length c ∧ RowS encStr 3 W a L.length L := rowS_of_own (enc := encStr) (k := 3) (fun _ => rfl) h.1

/-- how many ids stretches have. -/
def manyOf (L : List Str) : Int := L.foldl (fun s x => min (s + (x.b - x.a + 1)) maxT) 0
def goodStr (x : Str) : Prop := 0 ≤ x.a ∧ x.a ≤ x.b ∧ x.b ≤ maxT
theorem manyOf_snoc (L : List Str) (x : Str) : manyOf (L ++ [x]) = min (manyOf L + (x.b - x.a + 1)) maxT := by simp [manyOf, List.foldl_append]
theorem many_bound : ∀ (L : List Str) (s : Int), (∀ x ∈ L, goodStr x) → 0 ≤ s → s ≤ maxT → 0 ≤ L.foldl (fun s x => min (s + (x.b - x.a + 1)) maxT) s ∧ L.foldl (fun s x => min (s + (x.b - x.a + 1)) maxT) s ≤ maxT
  | [], s, _, h0, h1 => ⟨h0, h1⟩
  | x :: L, s, h, h0, h1 => by
    have hx := h x (by simp)
    unfold goodStr at hx
    exact many_bound L (min (s + (x.b - x.a + 1)) maxT) (fun y hy => h y (by simp [hy])) (by unfold maxT at *; omega) (by omega)
theorem lackR_good {f g : Nat → Int} (hpf : posV f) : ∀ x ∈ lackR f g, goodStr x := by
  intro x hx
  unfold lackR at hx
  split at hx
  · rename_i h
    simp only [lackOf, List.mem_map, List.mem_filter] at hx
    obtain ⟨k, ⟨hk, hlt⟩, rfl⟩ := hx
    have hk9 : k < 9 := by simp at hk; omega
    have := hpf k
    have := okVec_le h.2 hk9
    simp at hlt
    exact ⟨by simp; omega, by simp; omega, by simpa using this⟩
  · simp at hx

set_option maxRecDepth 100000 in
set_option maxHeartbeats 2000000 in
theorem Many_any (f g : Nat → Int) (hpf : posV f) (w : World) :
    Calls Try.prog 13 #[vec f, vec g] w (Ret (.int .u64 (manyOf (lackR f g))) w) := by
  have k0 := (Blk.new w 24 (vecC f)).alloc (.cells (vecC g) 24)
  have k1 := Blk.new (w.alloc (.cells (vecC f) 24)) 24 (vecC g)
  rw [World.size_alloc] at k1
  have K0 := Lib.hid k0
  have K1 := Lib.hid k1
  have HW : Hid (Below w.heap.size w ((w.alloc (.cells (vecC f) 24)).alloc (.cells (vecC g) 24))) := by show Below _ _ _; go_grown
  have HL := Lib.hid (fun W => Lacks_any f g hpf W)
  have HG := Lib.hid (lackR_good (f := f) (g := g) hpf)
  clear k0 k1
  go_enter Try.func13, Try.ntmps13
  unfold vec
  go_wp2_with fail
  refine (HL.out _).mono ?_
  rintro e W1 ⟨v, rfl, ho, hb1⟩
  obtain ⟨a, c, rfl, hr⟩ := ho.rowS
  have HB1 : Hid (Below w.heap.size w W1) := Below.trans HW.out (hb1.mono (by simp; omega))
  clear hb1 ho HL
  generalize hL : lackR f g = L at hr HG ⊢
  have HLL := Lib.hid hL
  clear hL
  obtain ⟨-, hlen, hr⟩ := hr
  have HR := Lib.hid hr
  clear hr
  go_wp2_with fail
  go_loopw [5, 12] (fun s i wr => ∃ k : Nat, k ≤ L.length ∧ i = .int .i64 k ∧ s = .int .u64 (manyOf (L.take k)) ∧ Below W1.heap.size W1 wr) (fun _ i _ => L.length - (intOf i).toNat)
  case atStart => exact ⟨0, by omega, rfl, rfl, Below.refl _ _⟩
  case round =>
    obtain ⟨k, hk, rfl, rfl, hBr⟩ := hrel
    by_cases hlt : k < L.length
    · obtain ⟨b, off, rfl, hbl, hc⟩ := HR.out.resolve_left (fun e => by rw [e] at hlt; simp at hlt)
      obtain ⟨x, hx⟩ : ∃ x, L[k]? = some x := ⟨_, List.getElem?_eq_getElem hlt⟩
      have hc0 : wr.cell? ⟨b, off + k * 3, none⟩ = some (.int .i64 x.s) := (hBr.cell (p := ⟨b, off + k * 3, none⟩) hbl).trans (hc k x hx 0 _ rfl)
      have hc1 : wr.cell? ⟨b, off + k * 3 + 1, none⟩ = some (.int .u64 x.a) := (hBr.cell (p := ⟨b, off + k * 3 + 1, none⟩) hbl).trans (hc k x hx 1 _ rfl)
      have hc2 : wr.cell? ⟨b, off + k * 3 + 2, none⟩ = some (.int .u64 x.b) := (hBr.cell (p := ⟨b, off + k * 3 + 2, none⟩) hbl).trans (hc k x hx 2 _ rfl)
      have hgx : goodStr x := HG.out x (List.mem_of_getElem? hx)
      obtain ⟨m0, m1⟩ := many_bound (L.take k) 0 (fun y hy => HG.out y (List.mem_of_mem_take hy)) (by omega) (by unfold maxT; omega)
      rw [show (L.take k).foldl (fun s x => min (s + (x.b - x.a + 1)) maxT) 0 = manyOf (L.take k) from rfl] at m0 m1
      have hsn : manyOf (L.take (k + 1)) = min (manyOf (L.take k) + (x.b - x.a + 1)) maxT := by rw [List.take_add_one, hx]; exact manyOf_snoc _ _
      unfold goodStr maxT at hgx
      unfold maxT at m1 hsn
      have w1 : IntKind.u64.wrap (x.b - x.a) = x.b - x.a := IntWalk.u64_in _ (by omega)
      have w2 : IntKind.u64.wrap (x.b - x.a + 1) = x.b - x.a + 1 := IntWalk.u64_in _ (by omega)
      have w3 : IntKind.u64.wrap (manyOf (L.take k) + (x.b - x.a + 1)) = manyOf (L.take k) + (x.b - x.a + 1) := IntWalk.u64_in _ (by omega)
      have HS := Lib.hid hsn
      have HM := Lib.hid (And.intro m0 m1)
      have HBr := Lib.hid hBr
      clear hc hx hsn m0 m1 hBr
      go_wp2
      all_goals
        go_roundw
        case rel => exact ⟨k + 1, by omega, by go_num, by rw [HS.out]; (try congr 1); (try omega), HBr.out.alloc HBr.out.size _⟩
        case measure => simp [intOf]; omega
    · obtain rfl : k = L.length := by omega
      rw [List.take_length]
      have HBr := Lib.hid hBr
      clear hBr
      go_wp2
      go_ret
      exact ⟨by rw [HLL.out]; rfl, HB1.out.trans (HBr.out.mono HB1.out.size)⟩
end Go.Proofs.Ytoiaecfiinkmjaa
