/- Small general words for the walks of this seat: a scope walked inside the wide fence; nine numbers as a vector's value; reading one of nine. -/
import Derived.RangeFuncNested
import Derived.RangeFuncBound
import Derived.RangeFuncCalls
import Derived.RangeFuncLeaves
import Derived.Shelf.Abstract
import Derived.Shelf.RegionOpen
import Derived.WalkKit
import Derived.OwnWalkIn
import Derived.TacticsInMore
import Derived.LoopNIn
import Derived.LoopIn
import Derived.WalkSpells
import Derived.WalkLawsBesides
import Derived.Recover
import Derived.Defers
import Derived.Lib.Hide
import Derived.BigQuiet
import Derived.Deep.QuietTactic
import Derived.Deep.LoopGhost
import Derived.Handy
import Derived.Laws.CopyOwn
import Derived.Laws.Rows
import Derived.Deep.MidRow
import Derived.Deep.WholeRow
import Derived.Outline
import Derived.Test.YtoiaecfiinkmjaaDoorRows
namespace Go.Proofs.YtoiaecfiinkmjaaDoor
open Go.RowKit Go.Shelf

theorem wpIn_scope_wide {n : Nat} {P : Program} {c : Code} {Q : Exit → Act → World → Prop} {a : Act} {w : World} (h : c.wpIn Fence.wide n P (Exit.noGoto Q) a w) : (Code.scope c).wpIn Fence.wide n P Q a w :=
  wpIn_wide.2 (wp_scope_straight (wpIn_wide.1 h))

theorem range'_snoc {k : Nat} (h : 0 < k) : List.range' 1 (k - 1) ++ [k] = List.range' 1 k := by
  obtain ⟨m, rfl⟩ : ∃ m, k = m + 1 := ⟨k - 1, by omega⟩
  rw [List.range'_concat]; simp; omega
theorem lt9 {k : Nat} (h : k < 9) : k = 0 ∨ k = 1 ∨ k = 2 ∨ k = 3 ∨ k = 4 ∨ k = 5 ∨ k = 6 ∨ k = 7 ∨ k = 8 := by omega
/-- it returns v, and nothing that was there has turned. -/
def Ret (v : Value) (w : World) (e : Ending) (w' : World) : Prop := e = .returned v ∧ Below w.heap.size w w'
/-- it panics with the error n, and nothing that was there has turned. -/
def Panics (n : Int) (w : World) (e : Ending) (w' : World) : Prop := e = .panicked [{ v := .iface 29 (.int .i64 n), recovered := false }] ∧ Below w.heap.size w w'
theorem leavesM_nil {F : Fence} {n : Nat} {P : Program} {fn : Func} {tmps : Array Value} {R : Ending → World → Prop} {w : World} {v : Value} (h : (results fn tmps).run P w = .ok v w) (hR : R (.returned v) w) : LeavesInM F n P fn tmps R [] .returning w := ⟨v, h, hR⟩
theorem leavesM_col {F : Fence} {n : Nat} {P : Program} {fn : Func} {tmps : Array Value} {R : Ending → World → Prop} {W : World} {D : Nat} {v : Value} (hK : W.heap[D]? = some (.deferred (some [])))
    (h : (results fn tmps).run P (W.putObj D (.deferred none)) = .ok v (W.putObj D (.deferred none))) (hR : R (.returned v) (W.putObj D (.deferred none))) :
    LeavesInM F n P fn tmps R [{ target := .collected D, args := #[] }] .returning W := ⟨by simp, .inl ⟨_, _, rfl, run_takeDeferred hK, v, h, hR⟩⟩
theorem put_cell {W : World} {D : Nat} {p : Addr} {v : Value} (hK : W.heap[D]? = some (.deferred (some []))) (h : W.cell? p = some v) : (W.putObj D (.deferred none)).cell? p = some v :=
  cell_kept h (grownBy_putObj' _ D (.deferred none)) (fun r e => by cases e; exact ⟨_, hK, rfl⟩)
theorem put_below {w W : World} {D B : Nat} (hB : Below B w W) (hD : B ≤ D) (hK : W.heap[D]? = some (.deferred (some []))) : Below B w (W.putObj D (.deferred none)) :=
  hB.grown (grownBy_putObj' W D _) (Nat.le_trans hD (Nat.le_of_lt (Array.getElem?_eq_some_iff.1 hK).1)) (fun k e => by cases e; exact hD)
theorem keepsF {B : Nat} {W : World} (p : Addr) (v : Value) : KeepsFrom B W (W.setCell p v) := (KeepsOthers.setCell _ _ _).from _

/-- block g holds just these cells, and may be written. -/
def Blk (W : World) (g : Nat) (T : TypeId) (cs : Array Value) : Prop := W.heap[g]? = some (.cells cs T (0, 0))
section
variable {W W' : World} {g k : Nat} {T : TypeId} {cs cs' : Array Value}
theorem Blk.lt (h : Blk W g T cs) : g < W.heap.size := (Array.getElem?_eq_some_iff.1 h).1
theorem Blk.cell (h : Blk W g T cs) (j : Nat) : W.cell? ⟨g, j, none⟩ = cs[j]? := cell_of_row W g j cs T (0, 0) h
theorem Blk.frozen (h : Blk W g T cs) (j : Nat) : W.frozen? ⟨g, j, none⟩ = false := frozen_of_row W g j cs T h
theorem Blk.new (W : World) (T : TypeId) (cs : Array Value) : Blk (W.alloc (.cells cs T)) W.heap.size T cs := World.alloc_heap_new W _
theorem Blk.alloc (h : Blk W g T cs) (o : Obj) : Blk (W.alloc o) g T cs := (heap_alloc_old W o g h.lt).trans h
theorem Blk.drew (h : Blk W g T cs) : Blk W.drew g T cs := h
theorem Blk.row (h : Blk W g T cs) (cs' : Array Value) : Blk (W.setRow g cs') g T cs' := setRow_heap W g cs cs' T (0, 0) h
theorem Blk.row_other (h : Blk W g T cs) (hk : g ≠ k) (cs' : Array Value) : Blk (W.setRow k cs') g T cs := (setRow_other W k g cs' hk).trans h
theorem Blk.set_other (h : Blk W g T cs) {p : Addr} (hk : g ≠ p.block) (v : Value) : Blk (W.setCell p v) g T cs := (heap_setCell_other W p g v hk).trans h
theorem Blk.set (h : Blk W g T cs) (j : Nat) (v : Value) : Blk (W.setCell ⟨g, j, none⟩ v) g T (cs.setIfInBounds j v) := by
  rw [setCell_eq_setRow W g j cs T (0, 0) v h]; exact h.row _
theorem Blk.below {B : Nat} (h : Blk W g T cs) (hb : Below B W W') (hg : g < B) : Blk W' g T cs := (hb.block g hg).trans h
theorem Blk.put {D : Nat} (h : Blk W g T cs) (hK : W.heap[D]? = some (.deferred (some []))) : Blk (W.putObj D (.deferred none)) g T cs :=
  (World.putObj_heap_other (fun e => by subst e; rw [show W.heap[g]? = _ from h] at hK; cases hK)).trans h
theorem Blk.kept {r : Option Nat} (h : Blk W g T cs) (hg : W.grownBy W' r) (hne : some g ≠ r) : Blk W' g T cs := (hg.block g h.lt hne).trans h
theorem Blk.own {β : Type} (g : Nat) (T : TypeId) (f : β → Array Value) : Own (fun s W => Blk W g T (f s)) := fun s X Y row hs hg hrow =>
  Blk.kept hs hg (fun e' => by obtain ⟨o, ho, hc⟩ := hrow g e'.symm; rw [show X.heap[g]? = _ from hs] at ho; cases ho; cases hc)
theorem Blk.load {P : Program} {ty : TypeId} {d : TypeDesc} (h : Blk W g T cs) (hu : P.underlying ty = some d) (hd : (match d with | .struct _ | .array _ _ => true | _ => false) = true) (hi : (P.info? ty).map (·.size) = some cs.size) :
    (loadVar ty ⟨g, 0, none⟩).run P W = .ok (.agg cs) W := run_loadVar_row W g T ty cs (0, 0) d h hu hd hi
theorem Blk.store {P : Program} {ty : TypeId} (h : Blk W g T cs) (hi : (P.info? ty).map (·.size) = some cs'.size) (ho : cs.size = cs'.size) (h1 : cs'.all (·.oneCell') = true) :
    (storeVar ty ⟨g, 0, none⟩ (.agg cs')).run P W = .ok () (W.setRow g cs') := run_storeVar_row W g T ty cs cs' h hi ho h1
end
theorem results_cell1 {P : Program} {fn : Func} {p : Tmp} {ty : TypeId} (h : fn.results = #[.cell p ty]) (tmps : Array Value) (w : World) {a : Addr} {v : Value}
    (hp : tmps.getD p undef = .pointer (some a)) (hv : (loadVar ty a).run P w = .ok v w) : (results fn tmps).run P w = .ok v w := by
  have hp' : tmps[p]?.getD undef = .pointer (some a) := by simpa using hp
  simp [results, h, hp', asAddr, hv]

theorem results_cell2 {P : Program} {fn : Func} {p q : Tmp} {ty uy : TypeId} (h : fn.results = #[.cell p ty, .cell q uy]) (tmps : Array Value) (w : World) {a b : Addr} {v u : Value}
    (hp : tmps.getD p undef = .pointer (some a)) (hq : tmps.getD q undef = .pointer (some b)) (hv : (loadVar ty a).run P w = .ok v w) (hu : (loadVar uy b).run P w = .ok u w) :
    (results fn tmps).run P w = .ok (.tuple #[v, u]) w := by
  have hp' : tmps[p]?.getD undef = .pointer (some a) := by simpa using hp
  have hq' : tmps[q]?.getD undef = .pointer (some b) := by simpa using hq
  simp [results, h, hp', hq', asAddr, hv, hu]

theorem Blk.eload {W : World} {g : Nat} {T : TypeId} {x : Int} (h : Blk W g T #[.int .i64 x]) : (loadVar 29 ⟨g, 0, none⟩).run Tryd.prog W = .ok (.int .i64 x) W := by
  have hc := h.cell 0
  simp at hc
  simp [go_sem, hc]

end Go.Proofs.YtoiaecfiinkmjaaDoor
