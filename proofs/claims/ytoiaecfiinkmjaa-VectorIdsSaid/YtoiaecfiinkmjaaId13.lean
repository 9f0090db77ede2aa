/- gessolaw13.id, and vectors of numbers that are known: what wakes needs. -/
import Derived.Test.YtoiaecfiinkmjaaMany
namespace Go.Proofs.Ytoiaecfiinkmjaa
open Go.RowKit Go.Shelf

theorem lid_any (s q : Int) (w : World) : Calls Try.prog 14 #[.int .i64 s, .int .u64 q] w (Ret (idV 9 s q) w) := by
  go_enter Try.func14, Try.ntmps14
  go_wp2
  have hv : (loadVar 38 ⟨w.heap.size, 0, none⟩).run Try.prog (w.alloc (.cells #[.int .u64 9, .int .i64 s, .int .u64 q] 38)) = .ok (idV 9 s q) (w.alloc (.cells #[.int .u64 9, .int .i64 s, .int .u64 q] 38)) :=
    (Blk.new w 38 #[.int .u64 9, .int .i64 s, .int .u64 q]).load Try.underlying38 rfl (by kernel_rfl)
  refine bodyPost_ret (v := idV 9 s q) (results_cell1 rfl _ _ rfl ?_) rfl ⟨rfl, ?_⟩
  · exact hv
  · exact (Below.refl _ _).alloc (Nat.le_refl _) _

theorem Blk.c9 {W : World} {b : Nat} {T : TypeId} {x0 x1 x2 x3 x4 x5 x6 x7 x8 : Value} (h : Blk W b T #[x0, x1, x2, x3, x4, x5, x6, x7, x8]) :
    W.cell? ⟨b, 0, none⟩ = some x0 ∧ W.cell? ⟨b, 1, none⟩ = some x1 ∧ W.cell? ⟨b, 2, none⟩ = some x2 ∧ W.cell? ⟨b, 3, none⟩ = some x3 ∧ W.cell? ⟨b, 4, none⟩ = some x4 ∧ W.cell? ⟨b, 5, none⟩ = some x5 ∧ W.cell? ⟨b, 6, none⟩ = some x6 ∧ W.cell? ⟨b, 7, none⟩ = some x7 ∧ W.cell? ⟨b, 8, none⟩ = some x8 :=
  ⟨h.cell 0, h.cell 1, h.cell 2, h.cell 3, h.cell 4, h.cell 5, h.cell 6, h.cell 7, h.cell 8⟩
end Go.Proofs.Ytoiaecfiinkmjaa
