/- vector.tries and its deferred closure; small closures. -/
import Derived.Test.YtoiaecfiinkmjaaCheck
namespace Go.Proofs.Ytoiaecfiinkmjaa
open Go.RowKit Go.Shelf

set_option maxHeartbeats 400000 in
theorem same_any (n : Int) (w : World) : Calls Try.prog 37 #[.int .u64 n] w fun e w' => e = .returned (.int .u64 n) ∧ w = w' := by
  go_enter Try.func37, Try.ntmps37
  go_wp2
  go_ret
  exact ⟨rfl, rfl⟩

theorem ret_u64 {a b : Int} (h : a = b) : Ending.returned (.int .u64 a) = Ending.returned (.int .u64 b) := by rw [h]

set_option maxHeartbeats 400000 in
theorem max_any (m n : Int) (w : World) : Calls Try.prog 36 #[.int .u64 m, .int .u64 n] w fun e w' => e = .returned (.int .u64 (max m n)) ∧ w = w' := by
  go_enter Try.func36, Try.ntmps36
  go_wp2
  all_goals
    go_ret
    exact ⟨ret_u64 (by omega), rfl⟩

set_option maxHeartbeats 400000 in
theorem min_any (m n : Int) (w : World) : Calls Try.prog 39 #[.int .u64 m, .int .u64 n] w fun e w' => e = .returned (.int .u64 (min m n)) ∧ w = w' := by
  go_enter Try.func39, Try.ntmps39
  go_wp2
  all_goals
    go_ret
    exact ⟨ret_u64 (by omega), rfl⟩

set_option maxHeartbeats 400000 in
theorem need_true (e0 : Int) (w : World) : Calls Try.prog 43 #[.bool true, .int .i64 e0] w fun e w' => e = .returned (.tuple #[]) ∧ w = w' := by
  go_enter Try.func43, Try.ntmps43
  go_wp2
  go_end0
  exact ⟨rfl, rfl⟩

set_option maxHeartbeats 400000 in
theorem need_false (e0 : Int) (w : World) : Calls Try.prog 43 #[.bool false, .int .i64 e0] w fun e w' => e = .panicked [{ v := .iface 26 (.int .i64 e0), recovered := false }] ∧ w = w' := by
  go_enter Try.func43, Try.ntmps43
  go_wp2
  exact ⟨rfl, rfl, rfl⟩

set_option maxHeartbeats 400000 in
theorem catch_idle (p q : Addr) (w : World) :
    CallsD Try.prog 48 #[.pointer (some p), .pointer (some q)] .returning w fun e u' w' => e = .returned (.tuple #[]) ∧ u' = .returning ∧ w' = w := by
  refine callsD_of_wpS Try.func48 rfl fun c₀ cs hu => ?_
  simp only [Try.ntmps48, List.size_toArray, List.length_cons, List.length_nil, Nat.reduceAdd, Nat.reduceSub, Array.replicate_succ, Array.replicate_zero, List.push_toArray, List.append_toArray, List.nil_append, List.cons_append]
  apply wpS_seq
  apply wpS_region
  simp [wpOpsS, go_sem, recoverD, hu, Exit.thenS]
  refine wpS_of_wp ?_
  go_wp2
  cases c₀
  simp_all [bodyPostS, results, Try.results48]

theorem run_assert_errno (n : Int) (w : World) : (Instr.typeAssert (.iface 26 (.int .i64 n)) 20 26 true).run Try.prog w = .ok (.tuple #[.int .i64 n, .bool true]) w := by kernel_rfl

set_option maxRecDepth 100000 in
set_option maxHeartbeats 1000000 in
theorem catch_panicking (p q B : Nat) (n x : Int) (f : Nat → Int) (w : World) (T : TypeId) (hpq : p ≠ q) (hBp : B ≤ p) (hBq : B ≤ q)
    (hc : Blk w p T (vecC f)) (hq : Blk w q 26 #[.int .i64 x]) :
    CallsD Try.prog 48 #[.pointer (some ⟨p, 0, none⟩), .pointer (some ⟨q, 0, none⟩)] (.panicking [{ v := .iface 26 (.int .i64 n), recovered := false }]) w fun e u' w' =>
      e = .returned (.tuple #[]) ∧ u' = .panicking [{ v := .iface 26 (.int .i64 n), recovered := true }] ∧ Blk w' p T (vecC fun _ => 0) ∧ Blk w' q 26 #[.int .i64 n] ∧ Below B w w' := by
  have hlp := hc.lt
  have hb := hc.alloc (.cells (vecC fun _ => 0) 24)
  have hq1 := (hq.alloc (.cells (vecC fun _ => 0) 24)).row_other (Ne.symm hpq) (vecC fun _ => 0)
  have hq0 := hq1.cell 0
  have hqf0 := hq1.frozen 0
  have HB := Lib.hid hb
  have HQ := Lib.hid hq1
  clear hb hc hq hq1
  simp [vecC] at hq0 hqf0
  have hta := run_assert_errno n
  refine callsD_of_wpS Try.func48 rfl fun c₀ cs hu => ?_
  simp only [Try.ntmps48, List.size_toArray, List.length_cons, List.length_nil, Nat.reduceAdd, Nat.reduceSub, Array.replicate_succ, Array.replicate_zero, List.push_toArray, List.append_toArray, List.nil_append, List.cons_append]
  apply wpS_seq
  apply wpS_region
  simp [wpOpsS, go_sem, recoverD, hu, Exit.thenS]
  refine wpS_of_wp ?_
  go_wp2_with (refine L_vstore (.tmp 0) (.tmp 17) (fun _ => 0) rfl rfl HB.out ?_; unfold vecC)
  refine ⟨rfl, _, rfl, .tuple #[], by simp [results, Try.results48], rfl, rfl, (HB.out.row (vecC fun _ => 0)).set_other hpq _, HQ.out.set 0 _, ?_⟩
  exact (below_setRow ((Below.refl B w).alloc (by omega) _) hBp _).setCell (p := ⟨q, 0, none⟩) hBq _

set_option maxRecDepth 100000 in
set_option maxHeartbeats 1000000 in
theorem tries_ret (g : FuncId) (cap : Array Value) (hent : ∀ args w, (callFunc g args).run Try.prog w = .ok (.enter g args) w) (f : Nat → Int) (w : World)
    (h : ∀ W, Below w.heap.size w W → Calls Try.prog g cap W (Ret (vec f) W)) :
    Calls Try.prog 33 #[.func (.func g) #[] cap] w (Ret (.tuple #[vec f, .int .i64 0]) w) := by
  have H := Lib.hid h
  clear h
  have hmf : ∀ (fn : Fn) (first cap : Array Value) (w : World), (Instr.makeFunc fn first cap).run Try.prog w = .ok (.func fn first cap) w := fun _ _ _ _ => rfl
  go_enter_defers Try.func33, Try.ntmps33
  go_wp2_with fail
  refine (H.out _ ?_).mono ?_
  · go_grown
  rintro e W ⟨rfl, hb⟩
  have b0 := ((Blk.new w 24 (vecC fun _ => 0)).alloc (.cells #[.int .i64 0] 26)).below hb (by simp; omega)
  have b1 := (Blk.new (w.alloc (.cells (vecC fun _ => 0) 24)) 26 #[.int .i64 0]).below hb (by simp)
  rw [World.size_alloc] at b1
  have hB : Below w.heap.size w W := Below.trans (by go_grown) (hb.mono (by simp; omega))
  have c1 := (b1.row_other (k := w.heap.size) (by omega) (vecC f)).cell 0
  have f1 := (b1.row_other (k := w.heap.size) (by omega) (vecC f)).frozen 0
  simp [vecC] at c1 f1
  have HB0 := Lib.hid b0
  have HB1 := Lib.hid b1
  have HB := Lib.hid hB
  clear b0 b1 hB hb
  go_wp2_with (refine L_vstore (.tmp 2) (.tmp 6) f rfl rfl HB0.out ?_; unfold vecC)
  refine leaves_cons (f := 48) (args := #[.pointer (some ⟨w.heap.size, 0, none⟩), .pointer (some ⟨w.heap.size + 1, 0, none⟩)]) (by simp) (by simp [go_sem]) ?_
  refine (catch_idle _ _ _).mono ?_
  rintro e u' w'' ⟨rfl, rfl, rfl⟩
  refine ⟨_, results_cell2 (P := Try.prog) rfl _ _ rfl rfl (((HB0.out.row (vecC f)).set_other (p := ⟨w.heap.size + 1, 0, none⟩) (by simp) _).vload) (((HB1.out.row_other (k := w.heap.size) (by omega) (vecC f)).set 0 (.int .i64 0)).eload), rfl, ?_⟩
  exact (below_setRow HB.out (Nat.le_refl _) _).setCell (p := ⟨w.heap.size + 1, 0, none⟩) (by simp) _

set_option maxRecDepth 100000 in
set_option maxHeartbeats 1000000 in
theorem tries_panic (g : FuncId) (cap : Array Value) (hent : ∀ args w, (callFunc g args).run Try.prog w = .ok (.enter g args) w) (n : Int) (w : World)
    (h : ∀ W, Below w.heap.size w W → Calls Try.prog g cap W (Panics n W)) :
    Calls Try.prog 33 #[.func (.func g) #[] cap] w (Ret (.tuple #[vec fun _ => 0, .int .i64 n]) w) := by
  have H := Lib.hid h
  clear h
  have hmf : ∀ (fn : Fn) (first cap : Array Value) (w : World), (Instr.makeFunc fn first cap).run Try.prog w = .ok (.func fn first cap) w := fun _ _ _ _ => rfl
  go_enter_defers Try.func33, Try.ntmps33
  go_wp2_with fail
  refine (H.out _ ?_).mono ?_
  · go_grown
  rintro e W ⟨rfl, hb⟩
  have b0 := ((Blk.new w 24 (vecC fun _ => 0)).alloc (.cells #[.int .i64 0] 26)).below hb (by simp; omega)
  have b1 := (Blk.new (w.alloc (.cells (vecC fun _ => 0) 24)) 26 #[.int .i64 0]).below hb (by simp)
  rw [World.size_alloc] at b1
  have hB : Below w.heap.size w W := Below.trans (by go_grown) (hb.mono (by simp; omega))
  have HB0 := Lib.hid b0
  have HB1 := Lib.hid b1
  have HB := Lib.hid hB
  clear b0 b1 hB hb
  refine leaves_cons (f := 48) (args := #[.pointer (some ⟨w.heap.size, 0, none⟩), .pointer (some ⟨w.heap.size + 1, 0, none⟩)]) (by simp) (by simp [go_sem]) ?_
  refine (catch_panicking w.heap.size (w.heap.size + 1) w.heap.size n 0 _ W _ (by omega) (by omega) (by omega) HB0.out HB1.out).mono ?_
  rintro e u' w'' ⟨rfl, rfl, k0, k1, hk⟩
  exact ⟨_, results_cell2 (P := Try.prog) rfl _ _ rfl rfl k0.vload k1.eload, rfl, HB.out.trans hk⟩
end Go.Proofs.Ytoiaecfiinkmjaa
