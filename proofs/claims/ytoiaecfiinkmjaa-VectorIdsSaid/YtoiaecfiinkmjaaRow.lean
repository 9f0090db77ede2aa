/- What the rows' proofs share: a vector that came in, opened. -/
import Derived.Test.YtoiaecfiinkmjaaRows
import Derived.Test.YtoiaecfiinkmjaaWith
import Derived.WalkKit
import Derived.ProofKit
import Derived.OpenShut
import Derived.ShutString
import Derived.ChangeOld
import Derived.Below
namespace Go.Proofs.Ytoiaecfiinkmjaa
open Go.ChangeShapes Go.WideShapes Go.ChangeAt Go.RowKit

theorem row_own : ownKnob Try.prog.godebug = none := by kernel_rfl
theorem row_laidOut : laidOutB Try.prog = true := by kernel_rfl
theorem cellsVec : Try.prog.cellsOf 24 = 9 := by kernel_rfl
theorem cellsU64 : Try.prog.cellsOf 22 = 1 := by kernel_rfl
theorem list9 {α : Type} (l : List α) (h : l.length = 9) : ∃ a b c d e f g i j, l = [a, b, c, d, e, f, g, i, j] := by
  match l, h with
  | [a, b, c, d, e, f, g, i, j], _ => exact ⟨a, b, c, d, e, f, g, i, j, rfl⟩

/-- the numbers of a vector that came in: none is below 0. -/
theorem posV_of {x0 x1 x2 x3 x4 x5 x6 x7 x8 : Int} (h0 : 0 ≤ x0) (h1 : 0 ≤ x1) (h2 : 0 ≤ x2) (h3 : 0 ≤ x3) (h4 : 0 ≤ x4) (h5 : 0 ≤ x5) (h6 : 0 ≤ x6) (h7 : 0 ≤ x7) (h8 : 0 ≤ x8) :
    ∃ f : Nat → Int, (f 0 = x0 ∧ f 1 = x1 ∧ f 2 = x2 ∧ f 3 = x3 ∧ f 4 = x4 ∧ f 5 = x5 ∧ f 6 = x6 ∧ f 7 = x7 ∧ f 8 = x8) ∧ posV f := by
  refine ⟨fun k => match k with | 0 => x0 | 1 => x1 | 2 => x2 | 3 => x3 | 4 => x4 | 5 => x5 | 6 => x6 | 7 => x7 | _ => x8, ⟨rfl, rfl, rfl, rfl, rfl, rfl, rfl, rfl, rfl⟩, ?_⟩
  intro k
  dsimp only
  split <;> assumption

theorem u64_nonneg {x : Int} (h : (Lit.int .u64 x).wf = true) : 0 ≤ x := (bounds_u64 h).1

theorem cells_vec {H : Type} {enc : TypeId × Value → H} {W : World} {base fuel : Nat} {spare : Nat → Bool} {held : Bool} {cs : List Value} {x : DataW H × List MemPlace}
    (hf : DataW.trod enc Try.prog W base spare held fuel 24 cs = some x) : ∃ f : Nat → Int, cs = (vecC f).toList ∧ posV f := by
  obtain ⟨xs, m, rfl, rfl, hlen, hxl, hget⟩ := DataW.trod_array Try.underlying24 hf
  rw [cellsVec] at hlen
  obtain ⟨c0, c1, c2, c3, c4, c5, c6, c7, c8, rfl⟩ := list9 cs hlen
  have one : ∀ i, i < 9 → ∃ y : Int, ([c0, c1, c2, c3, c4, c5, c6, c7, c8].drop i).take 1 = [.int .u64 y] ∧ 0 ≤ y := by
    intro i hi
    have h := hget i hi
    rw [cellsU64, Nat.mul_one] at h
    obtain ⟨z, hz⟩ : ∃ z, xs[i]? = some z := ⟨_, List.getElem?_eq_getElem (by omega)⟩
    rw [hz] at h
    obtain ⟨y, e, _, wy⟩ := DataW.trod_int Try.underlying22 h
    exact ⟨y, e, u64_nonneg wy⟩
  obtain ⟨y0, e0, p0⟩ := one 0 (by omega)
  obtain ⟨y1, e1, p1⟩ := one 1 (by omega)
  obtain ⟨y2, e2, p2⟩ := one 2 (by omega)
  obtain ⟨y3, e3, p3⟩ := one 3 (by omega)
  obtain ⟨y4, e4, p4⟩ := one 4 (by omega)
  obtain ⟨y5, e5, p5⟩ := one 5 (by omega)
  obtain ⟨y6, e6, p6⟩ := one 6 (by omega)
  obtain ⟨y7, e7, p7⟩ := one 7 (by omega)
  obtain ⟨y8, e8, p8⟩ := one 8 (by omega)
  simp at e0 e1 e2 e3 e4 e5 e6 e7 e8
  subst e0 e1 e2 e3 e4 e5 e6 e7 e8
  obtain ⟨f, ⟨rfl, rfl, rfl, rfl, rfl, rfl, rfl, rfl, rfl⟩, hp⟩ := posV_of p0 p1 p2 p3 p4 p5 p6 p7 p8
  exact ⟨f, rfl, hp⟩

set_option maxRecDepth 100000 in
/-- A VECTOR THAT CAME IN. -/
theorem open_vec {H : Type} {enc : TypeId × Value → H} {W : World} {base : Nat} {spare : Nat → Bool} {v : Value} {d : DataW H} {p : List MemPlace} {base' : Nat}
    (hok : Value.okWide Try.prog W .any base' 24 v) (h : DataW.Trod enc Try.prog W base spare true 24 v d p) : ∃ f : Nat → Int, v = vec f ∧ posV f := by
  obtain ⟨cs, rfl, _, _⟩ : ∃ cs, v = .agg cs ∧ cs.size = Try.prog.cellsOf 24 ∧ Row.okWide Try.prog W .any base' 24 cs := by
    simpa [Value.okWide, Try.underlying24] using hok
  obtain ⟨fuel, hf⟩ := h
  obtain ⟨f, e, hp⟩ := cells_vec hf
  obtain ⟨l⟩ := cs
  simp [Value.cells] at e
  subst e
  exact ⟨f, rfl, hp⟩
end Go.Proofs.Ytoiaecfiinkmjaa
