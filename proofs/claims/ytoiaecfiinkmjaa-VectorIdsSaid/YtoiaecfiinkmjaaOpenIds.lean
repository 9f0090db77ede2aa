/- A row of ids that came in, opened. -/
import Derived.Test.YtoiaecfiinkmjaaEqual
import Derived.Test.YtoiaecfiinkmjaaRow
import Derived.Deep.Slices
namespace Go.Proofs.Ytoiaecfiinkmjaa
open Go.ChangeShapes Go.WideShapes Go.ChangeAt Go.RowKit Go.Shelf

theorem cellsId : Try.prog.cellsOf 38 = 3 := by kernel_rfl
theorem cellsInt : Try.prog.cellsOf 3 = 1 := by kernel_rfl
theorem list3 {α : Type} (l : List α) (h : l.length = 3) : ∃ a b c, l = [a, b, c] := by
  match l, h with
  | [a, b, c], _ => exact ⟨a, b, c, rfl⟩

theorem cells_id {H : Type} {enc : TypeId × Value → H} {W : World} {base fuel : Nat} {spare : Nat → Bool} {held : Bool} {cs : List Value} {x : DataW H × List MemPlace}
    (hf : DataW.trod enc Try.prog W base spare held fuel 38 cs = some x) : ∃ i : Idn, cs = encId i := by
  obtain ⟨xs, m, rfl, rfl, hlen, hxl, hget⟩ := DataW.trod_struct Try.underlying38 hf
  rw [cellsId] at hlen
  obtain ⟨c0, c1, c2, rfl⟩ := list3 cs hlen
  have hx : ∀ i, i < 3 → ∃ z, xs[i]? = some z := fun i hi => ⟨_, List.getElem?_eq_getElem (by simp at hxl; omega)⟩
  obtain ⟨z0, h0⟩ := hx 0 (by omega)
  obtain ⟨z1, h1⟩ := hx 1 (by omega)
  obtain ⟨z2, h2⟩ := hx 2 (by omega)
  have g0 := hget 0 _ rfl
  have g1 := hget 1 _ rfl
  have g2 := hget 2 _ rfl
  change DataW.trod enc Try.prog W base spare held m 22 (([c0, c1, c2].drop 0).take (Try.prog.cellsOf 22)) = _ at g0
  change DataW.trod enc Try.prog W base spare held m 3 (([c0, c1, c2].drop 1).take (Try.prog.cellsOf 3)) = _ at g1
  change DataW.trod enc Try.prog W base spare held m 22 (([c0, c1, c2].drop 2).take (Try.prog.cellsOf 22)) = _ at g2
  rw [cellsU64] at g0 g2
  rw [cellsInt] at g1
  rw [h0] at g0
  rw [h1] at g1
  rw [h2] at g2
  obtain ⟨y0, e0, _, _⟩ := DataW.trod_int Try.underlying22 g0
  obtain ⟨y1, e1, _, _⟩ := DataW.trod_int Try.underlying3 g1
  obtain ⟨y2, e2, _, _⟩ := DataW.trod_int Try.underlying22 g2
  simp at e0 e1 e2
  subst e0 e1 e2
  exact ⟨⟨y0, y1, y2⟩, rfl⟩

/-- A ROW OF IDS THAT CAME IN. -/
theorem open_ids {H : Type} {enc : TypeId × Value → H} {W : World} {base : Nat} {spare : Nat → Bool} {d : DataW H} {p : List MemPlace} {a : Option Addr} {n c : Nat}
    (h : DataW.Trod enc Try.prog W base spare true 50 (.slice a n c) d p) : ∃ L, RowS encId 3 W a n L ∧ n ≤ c := by
  obtain ⟨fuel, hf⟩ := h
  rcases Go.Deep.open_slice Try.underlying50 hf with ⟨hcs, _⟩ | ⟨A, len, cap, m, n', D, Pl, hcs, hb, hl, hm, hmm, _, hall⟩
  · simp [Value.cells] at hcs
    obtain ⟨rfl, rfl, rfl⟩ := hcs
    exact ⟨[], ⟨rfl, by simp, .inl rfl⟩, Nat.le_refl _⟩
  · simp [Value.cells] at hcs
    obtain ⟨rfl, rfl, rfl⟩ := hcs
    have hle : n ≤ m := by rw [hmm]; split <;> omega
    rw [cellsId] at hall
    obtain ⟨F, hF⟩ := Go.Deep.choose_lt (n := n) (p := fun i (x : Idn) => ∀ j u, (encId x)[j]? = some u → W.cell? (A.add (i * 3 + j)) = some u) (fun i hi => by
      obtain ⟨cs', h1, h2⟩ := hall i (by omega)
      obtain ⟨x, hcsf⟩ := cells_id h2
      obtain ⟨_, hlen', hcell⟩ := World.cells?_some h1
      refine ⟨x, fun j u hj => ?_⟩
      have hj3 : j < 3 := by have := (List.getElem?_eq_some_iff.1 hj).1; simpa [encId] using this
      have := hcell j (by omega)
      rw [hcsf] at this
      rw [← Go.Deep.add_add A (i * 3) j, this]
      exact hj)
    refine ⟨(List.range n).map F, ⟨by simp, by simp only [List.length_map, List.length_range]; simp only [maxLen] at hm; omega, ?_⟩, hl⟩
    by_cases hn : n = 0
    · subst hn; exact .inl rfl
    · have h0 := hF 0 (by omega) 0 _ rfl
      obtain ⟨b, off, spot⟩ := A
      have hspot : spot = none := by simpa [Addr.add] using World.cell?_spot h0
      subst hspot
      have hblk := World.block_lt_of_cell? _ _ h0
      refine .inr ⟨b, off, rfl, by simpa [Addr.add] using hblk, fun j x hj i v hi => ?_⟩
      have hjn : j < n := by have := (List.getElem?_eq_some_iff.1 hj).1; simpa using this
      have hx : x = F j := by simp [hjn] at hj; exact hj.symm
      subst hx
      have := hF j hjn i v hi
      rw [Addr.add_lit, ← Nat.add_assoc] at this
      exact this
end Go.Proofs.Ytoiaecfiinkmjaa
