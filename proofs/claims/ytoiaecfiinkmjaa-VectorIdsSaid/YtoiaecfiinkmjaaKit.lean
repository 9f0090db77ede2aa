/- Small general words for the walks of this seat: a scope walked inside the wide fence; nine numbers as a vector's value; reading one of nine. -/
import Derived.RangeFuncNested
import Derived.RangeFuncBound
import Derived.RangeFuncCalls
import Derived.RangeFuncLeaves
import Derived.Shelf.Abstract
import Derived.Shelf.RegionOpen
import Derived.WalkKit
import Derived.OwnWalkIn
import Derived.TacticsInMore
import Derived.LoopNIn
import Derived.LoopIn
import Derived.WalkSpells
import Derived.WalkLawsBesides
import Derived.Recover
import Derived.Defers
import Derived.Lib.Hide
import Derived.BigQuiet
import Derived.Deep.QuietTactic
import Derived.Deep.LoopGhost
import Derived.Handy
import Derived.Laws.CopyOwn
import Derived.Laws.Rows
import Derived.Deep.MidRow
import Derived.Deep.WholeRow
import Derived.Outline
import Derived.Test.YtoiaecfiinkmjaaRows
namespace Go.Proofs.Ytoiaecfiinkmjaa
open Go.RowKit Go.Shelf

theorem wpIn_scope_wide {n : Nat} {P : Program} {c : Code} {Q : Exit → Act → World → Prop} {a : Act} {w : World} (h : c.wpIn Fence.wide n P (Exit.noGoto Q) a w) : (Code.scope c).wpIn Fence.wide n P Q a w :=
  wpIn_wide.2 (wp_scope_straight (wpIn_wide.1 h))

/-- nine numbers as a vector's value. -/
def vec (f : Nat → Int) : Value := .agg #[.int .u64 (f 0), .int .u64 (f 1), .int .u64 (f 2), .int .u64 (f 3), .int .u64 (f 4), .int .u64 (f 5), .int .u64 (f 6), .int .u64 (f 7), .int .u64 (f 8)]
/-- its cells. -/
def vecC (f : Nat → Int) : Array Value := #[.int .u64 (f 0), .int .u64 (f 1), .int .u64 (f 2), .int .u64 (f 3), .int .u64 (f 4), .int .u64 (f 5), .int .u64 (f 6), .int .u64 (f 7), .int .u64 (f 8)]

theorem range'_snoc {k : Nat} (h : 0 < k) : List.range' 1 (k - 1) ++ [k] = List.range' 1 k := by
  obtain ⟨m, rfl⟩ : ∃ m, k = m + 1 := ⟨k - 1, by omega⟩
  rw [List.range'_concat]; simp; omega
theorem lt9 {k : Nat} (h : k < 9) : k = 0 ∨ k = 1 ∨ k = 2 ∨ k = 3 ∨ k = 4 ∨ k = 5 ∨ k = 6 ∨ k = 7 ∨ k = 8 := by omega
theorem vec_ext {f g : Nat → Int} (h : ∀ k, k < 9 → f k = g k) : vec f = vec g := by
  unfold vec; rw [h 0 (by omega), h 1 (by omega), h 2 (by omega), h 3 (by omega), h 4 (by omega), h 5 (by omega), h 6 (by omega), h 7 (by omega), h 8 (by omega)]

theorem vecC_ext {f g : Nat → Int} (h : ∀ k, k < 9 → f k = g k) : vecC f = vecC g := by
  unfold vecC; rw [h 0 (by omega), h 1 (by omega), h 2 (by omega), h 3 (by omega), h 4 (by omega), h 5 (by omega), h 6 (by omega), h 7 (by omega), h 8 (by omega)]
theorem vecC_get (f : Nat → Int) {k : Nat} (h : k < 9) : (vecC f)[k]? = some (.int .u64 (f k)) := by
  rcases lt9 h with rfl | rfl | rfl | rfl | rfl | rfl | rfl | rfl | rfl <;> rfl
theorem vecC_set (f : Nat → Int) {k : Nat} (h : k < 9) (x : Int) : (vecC f).setIfInBounds k (.int .u64 x) = vecC fun j => if j = k then x else f j := by
  rcases lt9 h with rfl | rfl | rfl | rfl | rfl | rfl | rfl | rfl | rfl <;> rfl
/-- it returns v, and nothing that was there has turned. -/
def Ret (v : Value) (w : World) (e : Ending) (w' : World) : Prop := e = .returned v ∧ Below w.heap.size w w'
/-- it panics with the error n, and nothing that was there has turned. -/
def Panics (n : Int) (w : World) (e : Ending) (w' : World) : Prop := e = .panicked [{ v := .iface 26 (.int .i64 n), recovered := false }] ∧ Below w.heap.size w w'
theorem leavesM_nil {F : Fence} {n : Nat} {P : Program} {fn : Func} {tmps : Array Value} {R : Ending → World → Prop} {w : World} {v : Value} (h : (results fn tmps).run P w = .ok v w) (hR : R (.returned v) w) : LeavesInM F n P fn tmps R [] .returning w := ⟨v, h, hR⟩
theorem leavesM_col {F : Fence} {n : Nat} {P : Program} {fn : Func} {tmps : Array Value} {R : Ending → World → Prop} {W : World} {D : Nat} {v : Value} (hK : W.heap[D]? = some (.deferred (some [])))
    (h : (results fn tmps).run P (W.putObj D (.deferred none)) = .ok v (W.putObj D (.deferred none))) (hR : R (.returned v) (W.putObj D (.deferred none))) :
    LeavesInM F n P fn tmps R [{ target := .collected D, args := #[] }] .returning W := ⟨by simp, .inl ⟨_, _, rfl, run_takeDeferred hK, v, h, hR⟩⟩
theorem put_cell {W : World} {D : Nat} {p : Addr} {v : Value} (hK : W.heap[D]? = some (.deferred (some []))) (h : W.cell? p = some v) : (W.putObj D (.deferred none)).cell? p = some v :=
  cell_kept h (grownBy_putObj' _ D (.deferred none)) (fun r e => by cases e; exact ⟨_, hK, rfl⟩)
theorem put_below {w W : World} {D B : Nat} (hB : Below B w W) (hD : B ≤ D) (hK : W.heap[D]? = some (.deferred (some []))) : Below B w (W.putObj D (.deferred none)) :=
  hB.grown (grownBy_putObj' W D _) (Nat.le_trans hD (Nat.le_of_lt (Array.getElem?_eq_some_iff.1 hK).1)) (fun k e => by cases e; exact hD)
theorem keepsF {B : Nat} {W : World} (p : Addr) (v : Value) : KeepsFrom B W (W.setCell p v) := (KeepsOthers.setCell _ _ _).from _

/-- block g holds just these cells, and may be written. -/
def Blk (W : World) (g : Nat) (T : TypeId) (cs : Array Value) : Prop := W.heap[g]? = some (.cells cs T (0, 0))
section
variable {W W' : World} {g k : Nat} {T : TypeId} {cs cs' : Array Value}
theorem Blk.lt (h : Blk W g T cs) : g < W.heap.size := (Array.getElem?_eq_some_iff.1 h).1
theorem Blk.cell (h : Blk W g T cs) (j : Nat) : W.cell? ⟨g, j, none⟩ = cs[j]? := cell_of_row W g j cs T (0, 0) h
theorem Blk.frozen (h : Blk W g T cs) (j : Nat) : W.frozen? ⟨g, j, none⟩ = false := frozen_of_row W g j cs T h
theorem Blk.new (W : World) (T : TypeId) (cs : Array Value) : Blk (W.alloc (.cells cs T)) W.heap.size T cs := World.alloc_heap_new W _
theorem Blk.alloc (h : Blk W g T cs) (o : Obj) : Blk (W.alloc o) g T cs := (heap_alloc_old W o g h.lt).trans h
theorem Blk.drew (h : Blk W g T cs) : Blk W.drew g T cs := h
theorem Blk.row (h : Blk W g T cs) (cs' : Array Value) : Blk (W.setRow g cs') g T cs' := setRow_heap W g cs cs' T (0, 0) h
theorem Blk.row_other (h : Blk W g T cs) (hk : g ≠ k) (cs' : Array Value) : Blk (W.setRow k cs') g T cs := (setRow_other W k g cs' hk).trans h
theorem Blk.set_other (h : Blk W g T cs) {p : Addr} (hk : g ≠ p.block) (v : Value) : Blk (W.setCell p v) g T cs := (heap_setCell_other W p g v hk).trans h
theorem Blk.set (h : Blk W g T cs) (j : Nat) (v : Value) : Blk (W.setCell ⟨g, j, none⟩ v) g T (cs.setIfInBounds j v) := by
  rw [setCell_eq_setRow W g j cs T (0, 0) v h]; exact h.row _
theorem Blk.below {B : Nat} (h : Blk W g T cs) (hb : Below B W W') (hg : g < B) : Blk W' g T cs := (hb.block g hg).trans h
theorem Blk.put {D : Nat} (h : Blk W g T cs) (hK : W.heap[D]? = some (.deferred (some []))) : Blk (W.putObj D (.deferred none)) g T cs :=
  (World.putObj_heap_other (fun e => by subst e; rw [show W.heap[g]? = _ from h] at hK; cases hK)).trans h
theorem Blk.kept {r : Option Nat} (h : Blk W g T cs) (hg : W.grownBy W' r) (hne : some g ≠ r) : Blk W' g T cs := (hg.block g h.lt hne).trans h
theorem Blk.own {β : Type} (g : Nat) (T : TypeId) (f : β → Array Value) : Own (fun s W => Blk W g T (f s)) := fun s X Y row hs hg hrow =>
  Blk.kept hs hg (fun e' => by obtain ⟨o, ho, hc⟩ := hrow g e'.symm; rw [show X.heap[g]? = _ from hs] at ho; cases ho; cases hc)
theorem Blk.load {P : Program} {ty : TypeId} {d : TypeDesc} (h : Blk W g T cs) (hu : P.underlying ty = some d) (hd : (match d with | .struct _ | .array _ _ => true | _ => false) = true) (hi : (P.info? ty).map (·.size) = some cs.size) :
    (loadVar ty ⟨g, 0, none⟩).run P W = .ok (.agg cs) W := run_loadVar_row W g T ty cs (0, 0) d h hu hd hi
theorem Blk.store {P : Program} {ty : TypeId} (h : Blk W g T cs) (hi : (P.info? ty).map (·.size) = some cs'.size) (ho : cs.size = cs'.size) (h1 : cs'.all (·.oneCell') = true) :
    (storeVar ty ⟨g, 0, none⟩ (.agg cs')).run P W = .ok () (W.setRow g cs') := run_storeVar_row W g T ty cs cs' h hi ho h1
end
/-- a vector's variable: block g. -/
theorem Blk.vload {W : World} {g : Nat} {T : TypeId} {f : Nat → Int} (h : Blk W g T (vecC f)) : (loadVar 24 ⟨g, 0, none⟩).run Try.prog W = .ok (vec f) W :=
  h.load Try.underlying24 rfl (by kernel_rfl)
theorem Blk.vstore {W : World} {g : Nat} {T : TypeId} {f f' : Nat → Int} (h : Blk W g T (vecC f)) : (storeVar 24 ⟨g, 0, none⟩ (vec f')).run Try.prog W = .ok () (W.setRow g (vecC f')) :=
  h.store (by kernel_rfl) rfl (by simp [Value.oneCell'])

section
variable {ops : Array Oper} {rest : List Oper} {a : Act} {w : World} {Q : Exit → Act → World → Prop} {ty : TypeId} {pos : String} {after : Array Edge}
/-- a whole vector out of a variable, slot d. -/
theorem L_vload (d : Tmp) (x : Operand) {g : Nat} {T : TypeId} {f : Nat → Int} (hx : a.eval x = .pointer (some ⟨g, 0, none⟩)) (hb : Blk w g T (vecC f))
    (h : wpList Try.prog ops Q rest (a.put (some d) (vec f)) w) : wpList Try.prog ops Q (⟨some d, .load 24 x, ty, pos, after, none⟩ :: rest) a w :=
  wpList_load_row rfl _ x rfl g hx T (vecC f) (0, 0) _ hb Try.underlying24 rfl (by kernel_rfl) h
/-- a whole vector out of the middle of a block, slot d. -/
theorem L_vload_at (d : Tmp) (x : Operand) {b o : Nat} (f : Nat → Int) (hx : a.eval x = .pointer (some ⟨b, o, none⟩)) (hc : ∀ j, j < 9 → w.cell? ⟨b, o + j, none⟩ = some (.int .u64 (f j)))
    (h : wpList Try.prog ops Q rest (a.put (some d) (vec f)) w) : wpList Try.prog ops Q (⟨some d, .load 24 x, ty, pos, after, none⟩ :: rest) a w :=
  wpList_load_mid rfl _ x rfl b o hx (vecC f).toList _ (fun j v hv => by
    have hj : j < 9 := by have := (List.getElem?_eq_some_iff.1 hv).1; simpa [vecC] using this
    rw [hc j hj, ← hv]
    rcases lt9 hj with rfl | rfl | rfl | rfl | rfl | rfl | rfl | rfl | rfl <;> rfl) Try.underlying24 rfl (by kernel_rfl) h
/-- a whole vector into a variable that was made last. -/
theorem L_vstore_new (x y : Operand) (f' : Nat → Int) {T : TypeId} {f : Nat → Int} (hx : a.eval x = .pointer (some ⟨w.heap.size, 0, none⟩)) (hy : a.eval y = vec f')
    (h : wpList Try.prog ops Q rest a (w.alloc (.cells (vecC f') T))) : wpList Try.prog ops Q (⟨none, .store 24 x y, ty, pos, after, none⟩ :: rest) a (w.alloc (.cells (vecC f) T)) :=
  wpList_store_row rfl _ x y rfl w.heap.size (vecC f') hx hy T (vecC f) (Blk.new w T (vecC f)) (by kernel_rfl) rfl (by simp [vecC, Value.oneCell']) (by rw [World.setRow_alloc_new]; exact h)
/-- a whole vector into a variable. -/
theorem L_vstore (x y : Operand) (f' : Nat → Int) {g : Nat} {T : TypeId} {f : Nat → Int} (hx : a.eval x = .pointer (some ⟨g, 0, none⟩)) (hy : a.eval y = vec f') (hb : Blk w g T (vecC f))
    (h : wpList Try.prog ops Q rest a (w.setRow g (vecC f'))) : wpList Try.prog ops Q (⟨none, .store 24 x y, ty, pos, after, none⟩ :: rest) a w :=
  wpList_store_row rfl _ x y rfl g (vecC f') hx hy T (vecC f) hb (by kernel_rfl) rfl (by simp [vecC, Value.oneCell']) h
end

theorem results_cell1 {P : Program} {fn : Func} {p : Tmp} {ty : TypeId} (h : fn.results = #[.cell p ty]) (tmps : Array Value) (w : World) {a : Addr} {v : Value}
    (hp : tmps.getD p undef = .pointer (some a)) (hv : (loadVar ty a).run P w = .ok v w) : (results fn tmps).run P w = .ok v w := by
  have hp' : tmps[p]?.getD undef = .pointer (some a) := by simpa using hp
  simp [results, h, hp', asAddr, hv]

theorem results_cell2 {P : Program} {fn : Func} {p q : Tmp} {ty uy : TypeId} (h : fn.results = #[.cell p ty, .cell q uy]) (tmps : Array Value) (w : World) {a b : Addr} {v u : Value}
    (hp : tmps.getD p undef = .pointer (some a)) (hq : tmps.getD q undef = .pointer (some b)) (hv : (loadVar ty a).run P w = .ok v w) (hu : (loadVar uy b).run P w = .ok u w) :
    (results fn tmps).run P w = .ok (.tuple #[v, u]) w := by
  have hp' : tmps[p]?.getD undef = .pointer (some a) := by simpa using hp
  have hq' : tmps[q]?.getD undef = .pointer (some b) := by simpa using hq
  simp [results, h, hp', hq', asAddr, hv, hu]

theorem Blk.eload {W : World} {g : Nat} {T : TypeId} {x : Int} (h : Blk W g T #[.int .i64 x]) : (loadVar 26 ⟨g, 0, none⟩).run Try.prog W = .ok (.int .i64 x) W := by
  have hc := h.cell 0
  simp at hc
  simp [go_sem, hc]

end Go.Proofs.Ytoiaecfiinkmjaa
