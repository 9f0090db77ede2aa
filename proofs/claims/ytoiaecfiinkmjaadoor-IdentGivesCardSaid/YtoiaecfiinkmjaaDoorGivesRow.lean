/- gessolaw11.IdentGives: what its rows are; what is known between its rounds; the last region of a round. -/
import Derived.Test.YtoiaecfiinkmjaaDoorGivesLaw
namespace Go.Proofs.YtoiaecfiinkmjaaDoor
open Go.ChangeShapes Go.WideShapes Go.ChangeAt Go.RowKit Go.Shelf

structure Trn where
  s : Int
  b : Bool
  t : Int
instance : Inhabited Trn := ⟨⟨0, false, 0⟩⟩
structure Trn.In (x : Trn) : Prop where
  s0 : -9223372036854775808 ≤ x.s
  s1 : x.s ≤ 9223372036854775807
  t0 : 0 ≤ x.t
  t1 : x.t ≤ 18446744073709551615
def encT (x : Trn) : List Value := [.int .i64 x.s, .bool x.b, .int .u64 x.t]
theorem cellsBool : Tryd.prog.cellsOf 4 = 1 := by kernel_rfl
theorem cellsTrn : Tryd.prog.cellsOf 61 = 3 := by kernel_rfl
theorem cells_trn {H : Type} {enc : TypeId × Value → H} {W : World} {base fuel : Nat} {spare : Nat → Bool} {held : Bool} {cs : List Value} {x : DataW H × List MemPlace}
    (hf : DataW.trod enc Tryd.prog W base spare held fuel 61 cs = some x) : ∃ i : Trn, cs = encT i ∧ i.In := by
  obtain ⟨xs, m, rfl, rfl, hlen, hxl, hget⟩ := DataW.trod_struct Tryd.underlying61 hf
  rw [cellsTrn] at hlen
  obtain ⟨c0, c1, c2, rfl⟩ := list3 cs hlen
  have hx : ∀ i, i < 3 → ∃ z, xs[i]? = some z := fun i hi => ⟨_, List.getElem?_eq_getElem (by simp at hxl; omega)⟩
  obtain ⟨z0, h0⟩ := hx 0 (by omega)
  obtain ⟨z1, h1⟩ := hx 1 (by omega)
  obtain ⟨z2, h2⟩ := hx 2 (by omega)
  have g0 := hget 0 _ rfl
  have g1 := hget 1 _ rfl
  have g2 := hget 2 _ rfl
  change DataW.trod enc Tryd.prog W base spare held m 3 (([c0, c1, c2].drop 0).take (Tryd.prog.cellsOf 3)) = _ at g0
  change DataW.trod enc Tryd.prog W base spare held m 4 (([c0, c1, c2].drop 1).take (Tryd.prog.cellsOf 4)) = _ at g1
  change DataW.trod enc Tryd.prog W base spare held m 25 (([c0, c1, c2].drop 2).take (Tryd.prog.cellsOf 25)) = _ at g2
  rw [cellsU64] at g2
  rw [cellsInt] at g0
  rw [cellsBool] at g1
  rw [h0] at g0
  rw [h1] at g1
  rw [h2] at g2
  obtain ⟨y0, e0, _, w0⟩ := DataW.trod_int Tryd.underlying3 g0
  obtain ⟨y1, e1, _⟩ := DataW.trod_bool Tryd.underlying4 g1
  obtain ⟨y2, e2, _, w2⟩ := DataW.trod_int Tryd.underlying25 g2
  simp at e0 e1 e2
  subst e0 e1 e2
  exact ⟨⟨y0, y1, y2⟩, rfl, (bounds_i64 w0).1, (bounds_i64 w0).2, (bounds_u64 w2).1, (bounds_u64 w2).2⟩
theorem open_turns {H : Type} {enc : TypeId × Value → H} {W : World} {base : Nat} {spare : Nat → Bool} {d : DataW H} {p : List MemPlace} {a : Option Addr} {n c : Nat}
    (h : DataW.Trod enc Tryd.prog W base spare true 56 (.slice a n c) d p) : ∃ L, RowS encT 3 W a n L ∧ n ≤ c ∧ ∀ x ∈ L, x.In :=
  open_rows encT Trn.In Tryd.underlying56 cellsTrn (fun _ => rfl) (fun _ => ⟨_, rfl⟩) cells_trn h

theorem rowElem {α : Type} {enc : α → List Value} {k : Nat} {W : World} {a : Option Addr} {n : Nat} {L : List α} (h : RowS enc k W a n L) {j : Nat} (hj : j < n) :
    ∃ b off x, a = some ⟨b, off, none⟩ ∧ L[j]? = some x ∧ b < W.heap.size ∧ ∀ i v, (enc x)[i]? = some v → W.cell? ⟨b, off + j * k + i, none⟩ = some v := by
  have hL : j < L.length := by have := h.1; omega
  obtain ⟨b, off, ha, hb, hv⟩ := h.2.2.resolve_left (fun e => by rw [e] at hL; simp at hL)
  exact ⟨b, off, L[j], ha, List.getElem?_eq_getElem hL, hb, fun i v hi => hv j _ (List.getElem?_eq_getElem hL) i v hi⟩
/-- what is known between rounds. -/
structure FrG (w : World) (a : Option Addr) (n : Nat) (L : List Trn) (b3 b7 b8 : Nat) (C : Nat → Clk) (I : Nat → Idn) (G : List Idn) (X : World) : Prop where
  row : RowS encT 3 X a n L
  hb : Below w.heap.size w X
  ck : Blk X b3 57 (clkArr C)
  ls : Blk X b8 59 (idArr I)
  mp : Given b7 G X
  o3 : w.heap.size ≤ b3
  o7 : b3 < b7
  o8 : b7 < b8
theorem FrG.below {w W W' : World} {a : Option Addr} {n : Nat} {L : List Trn} {b3 b7 b8 : Nat} {C : Nat → Clk} {I : Nat → Idn} {G : List Idn} (h : FrG w a n L b3 b7 b8 C I G W) (hb : Below W.heap.size W W') : FrG w a n L b3 b7 b8 C I G W' :=
  ⟨h.row.below hb, h.hb.trans (hb.mono h.hb.size), h.ck.below hb h.ck.lt, h.ls.below hb h.ls.lt, h.mp.below hb, h.o3, h.o7, h.o8⟩
/-- a clock is put into its place. -/
theorem FrG.setC {w W : World} {a : Option Addr} {n : Nat} {L : List Trn} {b3 b7 b8 : Nat} {C : Nat → Clk} {I : Nat → Idn} {G : List Idn} (h : FrG w a n L b3 b7 b8 C I G W) (hrow : RowS encT 3 w a n L) {k : Nat} (hk : k < 9) (x : Clk) :
    FrG w a n L b3 b7 b8 (fun j => if j = k then x else C j) I G (W.setCells b3 (k * 3) [.int .i64 x.s, .int .u64 x.t, .int .u64 x.q]) := by
  have o7 := h.o7
  have o8 := h.o8
  have hb := below_set3 h.hb h.o3 (k * 3) (.int .i64 x.s) (.int .u64 x.t) (.int .u64 x.q)
  have hc := h.ck.set3 (k * 3) (.int .i64 x.s) (.int .u64 x.t) (.int .u64 x.q)
  rw [clkArr_set C hk] at hc
  refine ⟨hrow.below hb, hb, hc, h.ls.set3_other (by omega) _ _ _ _, ?_, h.o3, h.o7, h.o8⟩
  obtain ⟨m, hm, es, clock, h1, h2⟩ := h.mp
  refine ⟨m, hm, es, clock, ?_, h2⟩
  rw [← h1]
  show ((((W.setCell _ _).setCell _ _).setCell _ _)).heap[b7]? = _
  rw [heap_setCell_other _ _ _ _ (by simp; omega), heap_setCell_other _ _ _ _ (by simp; omega), heap_setCell_other _ _ _ _ (by simp; omega)]

/-! The last region: the map, the last ids. -/
def gvS (w : World) (b3 b7 b8 b14 b15 : Nat) (C : Nat → Clk) (I I' : Nat → Idn) (G : List Idn) (x : Idn) (c : Clk) (Y : World) : Prop :=
  Blk Y b15 27 #[.int .u64 x.t, .int .i64 x.s, .int .u64 x.q] ∧ Blk Y b14 41 (clkC c.s c.t c.q) ∧ (Given b7 G Y ∨ Given b7 (G ++ [x]) Y) ∧ (Blk Y b8 59 (idArr I) ∨ Blk Y b8 59 (idArr I')) ∧ Blk Y b3 57 (clkArr C) ∧ Below w.heap.size w Y
def gvF (b7 b8 : Nat) (G : List Idn) (x : Idn) (I' : Nat → Idn) : Nat → Value → World → Prop := fun k _ Y => match k with
  | 6 => Given b7 (G ++ [x]) Y
  | 8 => Blk Y b8 59 (idArr I')
  | _ => True
def gvR (b8 : Nat) : Nat → World → World → Prop := fun k Y Y' => match k with
  | 6 => True
  | 8 => ∀ j, j ≠ b8 → Y'.heap[j]? = Y.heap[j]?
  | _ => Y' = Y
theorem gv_no {b7 b8 : Nat} {G : List Idn} {x : Idn} {I' : Nat → Idn} : ∀ j ∈ [6, 8, 10], ∀ v w, gvF b7 b8 G x I' j v w → gvF b7 b8 G x I' j undef w := by
  intro j hj v w h
  simp at hj
  rcases hj with rfl | rfl | rfl <;> exact h
theorem gv_stab {late : Nat → Nat → Bool} {b7 b8 : Nat} {G : List Idn} {x : Idn} {I' : Nat → Idn} (h68 : late 6 8 = true) (h78 : b7 < b8) : Rely.Outlasts (gvF b7 b8 G x I') (gvR b8) late := by
  intro j k v w w' hl hne hR hF
  unfold gvR at hR
  split at hR
  · unfold gvF at hF ⊢
    split
    · exact absurd rfl hne
    · rw [h68] at hl; cases hl
    · trivial
  · unfold gvF at hF ⊢
    split
    · obtain ⟨m, hm, es, clock, h1, h2⟩ := hF
      exact ⟨m, hm, es, clock, (hR b7 (by omega)).trans h1, h2⟩
    · exact absurd rfl hne
    · trivial
  · subst hR; exact hF
/-- an update of a map, as one operation. -/
theorem Rely.step_mapUpdate {P : Program} {S : World → Prop} {F : Nat → Value → World → Prop} {R : Nat → World → World → Prop} {k : Nat} {o : Oper} {a : Act} {w : World} {K : Act → Prop} (t : TypeId) (m x y : Operand)
    (ho : o.op = .mapUpdate t m x y) (vm vx vy : Value) (hm : a.eval m = vm) (hx : a.eval x = vx) (hy : a.eval y = vy) {w' : World}
    (hr : (Instr.mapUpdate t vm vx vy).run P w = .ok () w') (hF : Rely.Fine S F R k undef w w') (hK : K (a.put o.dst undef)) : Rely.stepUpon P S F R k o a w K ((execOp a.eval o).run P w) := by
  unfold execOp
  simp only [ho, hm, hx, hy, Sem.run_bind, Sem.run_pure, Result.andThen_ok, hr]
  exact ⟨hF, hK⟩
end Go.Proofs.YtoiaecfiinkmjaaDoor
