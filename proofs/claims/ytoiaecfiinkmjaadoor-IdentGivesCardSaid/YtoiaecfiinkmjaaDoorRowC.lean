/- Rows of clocks, and of times, that came in, opened. -/
import Derived.Test.YtoiaecfiinkmjaaDoorRowD
import Derived.Test.YtoiaecfiinkmjaaDoorClock3
namespace Go.Proofs.YtoiaecfiinkmjaaDoor
open Go.ChangeShapes Go.WideShapes Go.ChangeAt Go.RowKit Go.Shelf

/-- a clock. -/
structure Clk where
  s : Int
  t : Int
  q : Int
instance : Inhabited Clk := ⟨⟨0, 0, 0⟩⟩
structure Clk.In (x : Clk) : Prop where
  t0 : 0 ≤ x.t
  q0 : 0 ≤ x.q
def InU (x : Int) : Prop := 0 ≤ x
def encK (x : Clk) : List Value := [.int .i64 x.s, .int .u64 x.t, .int .u64 x.q]
theorem cellsClk : Tryd.prog.cellsOf 41 = 3 := by kernel_rfl
theorem cells_clk {H : Type} {enc : TypeId × Value → H} {W : World} {base fuel : Nat} {spare : Nat → Bool} {held : Bool} {cs : List Value} {x : DataW H × List MemPlace}
    (hf : DataW.trod enc Tryd.prog W base spare held fuel 41 cs = some x) : ∃ i : Clk, cs = encK i ∧ i.In := by
  obtain ⟨xs, m, rfl, rfl, hlen, hxl, hget⟩ := DataW.trod_struct Tryd.underlying41 hf
  rw [cellsClk] at hlen
  obtain ⟨c0, c1, c2, rfl⟩ := list3 cs hlen
  have hx : ∀ i, i < 3 → ∃ z, xs[i]? = some z := fun i hi => ⟨_, List.getElem?_eq_getElem (by simp at hxl; omega)⟩
  obtain ⟨z0, h0⟩ := hx 0 (by omega)
  obtain ⟨z1, h1⟩ := hx 1 (by omega)
  obtain ⟨z2, h2⟩ := hx 2 (by omega)
  have g0 := hget 0 _ rfl
  have g1 := hget 1 _ rfl
  have g2 := hget 2 _ rfl
  change DataW.trod enc Tryd.prog W base spare held m 3 (([c0, c1, c2].drop 0).take (Tryd.prog.cellsOf 3)) = _ at g0
  change DataW.trod enc Tryd.prog W base spare held m 25 (([c0, c1, c2].drop 1).take (Tryd.prog.cellsOf 25)) = _ at g1
  change DataW.trod enc Tryd.prog W base spare held m 25 (([c0, c1, c2].drop 2).take (Tryd.prog.cellsOf 25)) = _ at g2
  rw [cellsU64] at g1 g2
  rw [cellsInt] at g0
  rw [h0] at g0
  rw [h1] at g1
  rw [h2] at g2
  obtain ⟨y0, e0, _, w0⟩ := DataW.trod_int Tryd.underlying3 g0
  obtain ⟨y1, e1, _, w1⟩ := DataW.trod_int Tryd.underlying25 g1
  obtain ⟨y2, e2, _, w2⟩ := DataW.trod_int Tryd.underlying25 g2
  simp at e0 e1 e2
  subst e0 e1 e2
  exact ⟨⟨y0, y1, y2⟩, rfl, (bounds_u64 w1).1, (bounds_u64 w2).1⟩
theorem cells_u64 {H : Type} {enc : TypeId × Value → H} {W : World} {base fuel : Nat} {spare : Nat → Bool} {held : Bool} {cs : List Value} {x : DataW H × List MemPlace}
    (hf : DataW.trod enc Tryd.prog W base spare held fuel 25 cs = some x) : ∃ i : Int, cs = encU i ∧ InU i := by
  obtain ⟨y, e, _, w⟩ := DataW.trod_int Tryd.underlying25 hf
  exact ⟨y, e, (bounds_u64 w).1⟩
theorem open_clocks {H : Type} {enc : TypeId × Value → H} {W : World} {base : Nat} {spare : Nat → Bool} {d : DataW H} {p : List MemPlace} {a : Option Addr} {n c : Nat}
    (h : DataW.Trod enc Tryd.prog W base spare true 37 (.slice a n c) d p) : ∃ L, RowS encK 3 W a n L ∧ n ≤ c ∧ ∀ x ∈ L, x.In := by
  obtain ⟨fuel, hf⟩ := h
  rcases Go.Deep.open_slice Tryd.underlying37 hf with ⟨hcs, _⟩ | ⟨A, len, cap, m, n', D, Pl, hcs, hb, hl, hm, hmm, _, hall⟩
  · simp [Value.cells] at hcs
    obtain ⟨rfl, rfl, rfl⟩ := hcs
    exact ⟨[], ⟨rfl, by simp, .inl rfl⟩, Nat.le_refl _, by simp⟩
  · simp [Value.cells] at hcs
    obtain ⟨rfl, rfl, rfl⟩ := hcs
    have hle : n ≤ m := by rw [hmm]; split <;> omega
    rw [cellsClk] at hall
    obtain ⟨F, hF⟩ := Go.Deep.choose_lt (n := n) (p := fun i (x : Clk) => x.In ∧ ∀ j u, (encK x)[j]? = some u → W.cell? (A.add (i * 3 + j)) = some u) (fun i hi => by
      obtain ⟨cs', h1, h2⟩ := hall i (by omega)
      obtain ⟨x, hcsf, hin⟩ := cells_clk h2
      obtain ⟨_, hlen', hcell⟩ := World.cells?_some h1
      refine ⟨x, hin, fun j u hj => ?_⟩
      have hj3 : j < 3 := by have := (List.getElem?_eq_some_iff.1 hj).1; simpa [encK] using this
      have := hcell j (by omega)
      rw [hcsf] at this
      rw [← Go.Deep.add_add A (i * 3) j, this]
      exact hj)
    refine ⟨(List.range n).map F, ⟨by simp, by simp only [List.length_map, List.length_range]; simp only [maxLen] at hm; omega, ?_⟩, hl, ?_⟩
    · by_cases hn : n = 0
      · subst hn; exact .inl rfl
      · have h0 := (hF 0 (by omega)).2 0 _ rfl
        obtain ⟨b, off, spot⟩ := A
        have hspot : spot = none := by simpa [Addr.add] using World.cell?_spot h0
        subst hspot
        have hblk := World.block_lt_of_cell? _ _ h0
        refine .inr ⟨b, off, rfl, by simpa [Addr.add] using hblk, fun j x hj i v hi => ?_⟩
        have hjn : j < n := by have := (List.getElem?_eq_some_iff.1 hj).1; simpa using this
        have hx : x = F j := by simp [hjn] at hj; exact hj.symm
        subst hx
        have := (hF j hjn).2 i v hi
        rw [Addr.add_lit, ← Nat.add_assoc] at this
        exact this
    · intro x hx
      obtain ⟨i, hi, rfl⟩ := List.mem_map.1 hx
      exact (hF i (by simpa using hi)).1
theorem open_u64s {H : Type} {enc : TypeId × Value → H} {W : World} {base : Nat} {spare : Nat → Bool} {d : DataW H} {p : List MemPlace} {a : Option Addr} {n c : Nat}
    (h : DataW.Trod enc Tryd.prog W base spare true 38 (.slice a n c) d p) : ∃ L, RowS encU 1 W a n L ∧ n ≤ c ∧ ∀ x ∈ L, InU x := by
  obtain ⟨fuel, hf⟩ := h
  rcases Go.Deep.open_slice Tryd.underlying38 hf with ⟨hcs, _⟩ | ⟨A, len, cap, m, n', D, Pl, hcs, hb, hl, hm, hmm, _, hall⟩
  · simp [Value.cells] at hcs
    obtain ⟨rfl, rfl, rfl⟩ := hcs
    exact ⟨[], ⟨rfl, by simp, .inl rfl⟩, Nat.le_refl _, by simp⟩
  · simp [Value.cells] at hcs
    obtain ⟨rfl, rfl, rfl⟩ := hcs
    have hle : n ≤ m := by rw [hmm]; split <;> omega
    rw [cellsU64] at hall
    obtain ⟨F, hF⟩ := Go.Deep.choose_lt (n := n) (p := fun i (x : Int) => InU x ∧ ∀ j u, (encU x)[j]? = some u → W.cell? (A.add (i * 1 + j)) = some u) (fun i hi => by
      obtain ⟨cs', h1, h2⟩ := hall i (by omega)
      obtain ⟨x, hcsf, hin⟩ := cells_u64 h2
      obtain ⟨_, hlen', hcell⟩ := World.cells?_some h1
      refine ⟨x, hin, fun j u hj => ?_⟩
      have hj3 : j < 1 := by have := (List.getElem?_eq_some_iff.1 hj).1; simpa [encU] using this
      have := hcell j (by omega)
      rw [hcsf] at this
      rw [← Go.Deep.add_add A (i * 1) j, this]
      exact hj)
    refine ⟨(List.range n).map F, ⟨by simp, by simp only [List.length_map, List.length_range]; simp only [maxLen] at hm; omega, ?_⟩, hl, ?_⟩
    · by_cases hn : n = 0
      · subst hn; exact .inl rfl
      · have h0 := (hF 0 (by omega)).2 0 _ rfl
        obtain ⟨b, off, spot⟩ := A
        have hspot : spot = none := by simpa [Addr.add] using World.cell?_spot h0
        subst hspot
        have hblk := World.block_lt_of_cell? _ _ h0
        refine .inr ⟨b, off, rfl, by simpa [Addr.add] using hblk, fun j x hj i v hi => ?_⟩
        have hjn : j < n := by have := (List.getElem?_eq_some_iff.1 hj).1; simpa using this
        have hx : x = F j := by simp [hjn] at hj; exact hj.symm
        subst hx
        have := (hF j hjn).2 i v hi
        rw [Addr.add_lit, ← Nat.add_assoc] at this
        exact this
    · intro x hx
      obtain ⟨i, hi, rfl⟩ := List.mem_map.1 hx
      exact (hF i (by simpa using hi)).1
end Go.Proofs.YtoiaecfiinkmjaaDoor
