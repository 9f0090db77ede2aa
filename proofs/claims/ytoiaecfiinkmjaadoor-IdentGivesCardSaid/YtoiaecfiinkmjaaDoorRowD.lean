/- What the rows' proofs of seat D share: an id, and a row of ids, that came in, opened; the table of powers of ten. -/
import Derived.Test.YtoiaecfiinkmjaaDoorRows
import Derived.Test.YtoiaecfiinkmjaaDoorTie
import Derived.Test.YtoiaecfiinkmjaaDoorCards
import Derived.Test.YtoiaecfiinkmjaaDoorFmt
import Derived.Test.YtoiaecfiinkmjaaDoorIdBase
import Derived.WalkKit
import Derived.ProofKit
import Derived.OpenShut
import Derived.ShutString
import Derived.ChangeOld
import Derived.Below
import Derived.Deep.Slices
import Derived.Lib.LaidU8
import Derived.LaidMore
import Derived.Lay
import Derived.SevenTiedAt
import Derived.Stop.Joined
namespace Go.Proofs.YtoiaecfiinkmjaaDoor
open Go.ChangeShapes Go.WideShapes Go.ChangeAt Go.RowKit Go.Shelf

theorem row_own : ownKnob Tryd.prog.godebug = none := by kernel_rfl
theorem row_laidOut : laidOutB Tryd.prog = true := by kernel_rfl
theorem cellsU64 : Tryd.prog.cellsOf 25 = 1 := by kernel_rfl
theorem cellsId : Tryd.prog.cellsOf 27 = 3 := by kernel_rfl
theorem cellsInt : Tryd.prog.cellsOf 3 = 1 := by kernel_rfl
theorem list3 {α : Type} (l : List α) (h : l.length = 3) : ∃ a b c, l = [a, b, c] := by
  match l, h with
  | [a, b, c], _ => exact ⟨a, b, c, rfl⟩

theorem tab_of_laid {W : World} {l : List (String × DataW Unit)} (hl : ("internal/strconv.uint64pow10", Rows.laid_internal_strconv_uint64pow10) ∈ l) (h : laidMet Tryd.prog l W) : Tab W := by
  obtain ⟨g, t, cs, fuel, p, hg, ht, hv, hd⟩ := Lib.laidMet.reads h hl
  obtain rfl := Option.some.inj ((show Tryd.prog.globalNamed "internal/strconv.uint64pow10" = some 0 by kernel_rfl).symm.trans hg)
  obtain rfl := Option.some.inj ((show (Tryd.prog.globals[0]?).map (·.type) = some 124 by kernel_rfl).symm.trans ht)
  unfold Tab Lib.TabIs
  rw [hv, ← Lib.cells_of_tab (k := .u64) (zs := Lib.pow10Tab) Tryd.underlying124 Tryd.underlying25 cellsU64 (by kernel_rfl) hd]

/-- what can be said of an id that came in. -/
structure Idn.In (i : Idn) : Prop where
  t0 : 0 ≤ i.t
  t1 : i.t ≤ 18446744073709551615
  s0 : -9223372036854775808 ≤ i.s
  s1 : i.s ≤ 9223372036854775807
  q0 : 0 ≤ i.q
  q1 : i.q ≤ 18446744073709551615
theorem cells_id {H : Type} {enc : TypeId × Value → H} {W : World} {base fuel : Nat} {spare : Nat → Bool} {held : Bool} {cs : List Value} {x : DataW H × List MemPlace}
    (hf : DataW.trod enc Tryd.prog W base spare held fuel 27 cs = some x) : ∃ i : Idn, cs = encId i ∧ i.In := by
  obtain ⟨xs, m, rfl, rfl, hlen, hxl, hget⟩ := DataW.trod_struct Tryd.underlying27 hf
  rw [cellsId] at hlen
  obtain ⟨c0, c1, c2, rfl⟩ := list3 cs hlen
  have hx : ∀ i, i < 3 → ∃ z, xs[i]? = some z := fun i hi => ⟨_, List.getElem?_eq_getElem (by simp at hxl; omega)⟩
  obtain ⟨z0, h0⟩ := hx 0 (by omega)
  obtain ⟨z1, h1⟩ := hx 1 (by omega)
  obtain ⟨z2, h2⟩ := hx 2 (by omega)
  have g0 := hget 0 _ rfl
  have g1 := hget 1 _ rfl
  have g2 := hget 2 _ rfl
  change DataW.trod enc Tryd.prog W base spare held m 25 (([c0, c1, c2].drop 0).take (Tryd.prog.cellsOf 25)) = _ at g0
  change DataW.trod enc Tryd.prog W base spare held m 3 (([c0, c1, c2].drop 1).take (Tryd.prog.cellsOf 3)) = _ at g1
  change DataW.trod enc Tryd.prog W base spare held m 25 (([c0, c1, c2].drop 2).take (Tryd.prog.cellsOf 25)) = _ at g2
  rw [cellsU64] at g0 g2
  rw [cellsInt] at g1
  rw [h0] at g0
  rw [h1] at g1
  rw [h2] at g2
  obtain ⟨y0, e0, _, w0⟩ := DataW.trod_int Tryd.underlying25 g0
  obtain ⟨y1, e1, _, w1⟩ := DataW.trod_int Tryd.underlying3 g1
  obtain ⟨y2, e2, _, w2⟩ := DataW.trod_int Tryd.underlying25 g2
  simp at e0 e1 e2
  subst e0 e1 e2
  exact ⟨⟨y0, y1, y2⟩, rfl, (bounds_u64 w0).1, (bounds_u64 w0).2, (bounds_i64 w1).1, (bounds_i64 w1).2, (bounds_u64 w2).1, (bounds_u64 w2).2⟩

set_option maxRecDepth 100000 in
/-- AN ID THAT CAME IN. -/
theorem open_id {H : Type} {enc : TypeId × Value → H} {W : World} {base : Nat} {spare : Nat → Bool} {v : Value} {d : DataW H} {p : List MemPlace} {base' : Nat}
    (hok : Value.okWide Tryd.prog W .any base' 27 v) (h : DataW.Trod enc Tryd.prog W base spare true 27 v d p) : ∃ i : Idn, v = i.val ∧ i.In := by
  obtain ⟨cs, rfl, _, _⟩ : ∃ cs, v = .agg cs ∧ cs.size = Tryd.prog.cellsOf 27 ∧ Row.okWide Tryd.prog W .any base' 27 cs := by
    simpa [Value.okWide, Tryd.underlying27] using hok
  obtain ⟨fuel, hf⟩ := h
  obtain ⟨f, e, hp⟩ := cells_id hf
  obtain ⟨l⟩ := cs
  simp [Value.cells] at e
  subst e
  exact ⟨f, rfl, hp⟩

/-- A ROW OF IDS THAT CAME IN. -/
theorem open_ids {H : Type} {enc : TypeId × Value → H} {W : World} {base : Nat} {spare : Nat → Bool} {d : DataW H} {p : List MemPlace} {a : Option Addr} {n c : Nat}
    (h : DataW.Trod enc Tryd.prog W base spare true 22 (.slice a n c) d p) : ∃ L, RowS encId 3 W a n L ∧ n ≤ c ∧ ∀ x ∈ L, x.In := by
  obtain ⟨fuel, hf⟩ := h
  rcases Go.Deep.open_slice Tryd.underlying22 hf with ⟨hcs, _⟩ | ⟨A, len, cap, m, n', D, Pl, hcs, hb, hl, hm, hmm, _, hall⟩
  · simp [Value.cells] at hcs
    obtain ⟨rfl, rfl, rfl⟩ := hcs
    exact ⟨[], ⟨rfl, by simp, .inl rfl⟩, Nat.le_refl _, by simp⟩
  · simp [Value.cells] at hcs
    obtain ⟨rfl, rfl, rfl⟩ := hcs
    have hle : n ≤ m := by rw [hmm]; split <;> omega
    rw [cellsId] at hall
    obtain ⟨F, hF⟩ := Go.Deep.choose_lt (n := n) (p := fun i (x : Idn) => x.In ∧ ∀ j u, (encId x)[j]? = some u → W.cell? (A.add (i * 3 + j)) = some u) (fun i hi => by
      obtain ⟨cs', h1, h2⟩ := hall i (by omega)
      obtain ⟨x, hcsf, hin⟩ := cells_id h2
      obtain ⟨_, hlen', hcell⟩ := World.cells?_some h1
      refine ⟨x, hin, fun j u hj => ?_⟩
      have hj3 : j < 3 := by have := (List.getElem?_eq_some_iff.1 hj).1; simpa [encId] using this
      have := hcell j (by omega)
      rw [hcsf] at this
      rw [← Go.Deep.add_add A (i * 3) j, this]
      exact hj)
    refine ⟨(List.range n).map F, ⟨by simp, by simp only [List.length_map, List.length_range]; simp only [maxLen] at hm; omega, ?_⟩, hl, ?_⟩
    · by_cases hn : n = 0
      · subst hn; exact .inl rfl
      · have h0 := (hF 0 (by omega)).2 0 _ rfl
        obtain ⟨b, off, spot⟩ := A
        have hspot : spot = none := by simpa [Addr.add] using World.cell?_spot h0
        subst hspot
        have hblk := World.block_lt_of_cell? _ _ h0
        refine .inr ⟨b, off, rfl, by simpa [Addr.add] using hblk, fun j x hj i v hi => ?_⟩
        have hjn : j < n := by have := (List.getElem?_eq_some_iff.1 hj).1; simpa using this
        have hx : x = F j := by simp [hjn] at hj; exact hj.symm
        subst hx
        have := (hF j hjn).2 i v hi
        rw [Addr.add_lit, ← Nat.add_assoc] at this
        exact this
    · intro x hx
      obtain ⟨i, hi, rfl⟩ := List.mem_map.1 hx
      exact (hF i (by simpa using hi)).1
end Go.Proofs.YtoiaecfiinkmjaaDoor
