/- cmp.Compare at uint64 and int, cmp.Or at three ints, ident.Compare: their contracts. -/
import Derived.Test.YtoiaecfiinkmjaaDoorIdBase
import Derived.Sort.Grow
import Derived.StillTailTactics
namespace Go.Proofs.YtoiaecfiinkmjaaDoor
open Go.RowKit Go.Shelf Go.Sort

theorem results_ctR {P : Program} {fn : Func} {p u : Tmp} {ty : TypeId} (h : fn.results = #[.cell p ty, .tmp u]) (tmps : Array Value) (w : World) {a : Addr} {v x : Value}
    (hp : tmps.getD p undef = .pointer (some a)) (hv : (loadVar ty a).run P w = .ok v w) (hu : tmps.getD u undef = x) : (results fn tmps).run P w = .ok (.tuple #[v, x]) w := by
  have hp' : tmps[p]?.getD undef = .pointer (some a) := by simpa using hp
  have hu' : tmps[u]?.getD undef = x := by simpa using hu
  simp [results, h, hp', hu', asAddr, hv]
def cmpI (x y : Int) : Int := if x < y then -1 else if y < x then 1 else 0
set_option maxHeartbeats 400000 in
theorem isNaN_u64 (x : Int) (w : World) : Calls Tryd.prog 55 #[.int .u64 x] w fun e w' => e = .returned (.bool false) ∧ w = w' := by
  go_enter Tryd.func55, Tryd.ntmps55
  go_wp2
  go_ret
  exact ⟨rfl, rfl⟩
set_option maxHeartbeats 400000 in
theorem cmp_u64 (x y : Int) (w : World) : Calls Tryd.prog 46 #[.int .u64 x, .int .u64 y] w fun e w' => e = .returned (.int .i64 (cmpI x y)) ∧ w = w' := by
  by_cases h1 : x < y
  · rw [show cmpI x y = -1 by simp [cmpI, h1]]
    have h1' : decide (x < y) = true := by simpa using h1
    go_enter Tryd.func46, Tryd.ntmps46
    go_wp2_with (go_at_call 55; refine (isNaN_u64 _ _).mono ?_; rintro e w' ⟨rfl, rfl⟩)
    go_ret
    exact ⟨rfl, rfl⟩
  · have h1' : decide (x < y) = false := by simpa using h1
    by_cases h2 : y < x
    · rw [show cmpI x y = 1 by simp [cmpI, h1, h2]]
      have h2' : decide (y < x) = true := by simpa using h2
      go_enter Tryd.func46, Tryd.ntmps46
      go_wp2_with (go_at_call 55; refine (isNaN_u64 _ _).mono ?_; rintro e w' ⟨rfl, rfl⟩)
      go_ret
      exact ⟨rfl, rfl⟩
    · rw [show cmpI x y = 0 by simp [cmpI, h1, h2]]
      have h2' : decide (y < x) = false := by simpa using h2
      go_enter Tryd.func46, Tryd.ntmps46
      go_wp2_with (go_at_call 55; refine (isNaN_u64 _ _).mono ?_; rintro e w' ⟨rfl, rfl⟩)
      go_ret
      exact ⟨rfl, rfl⟩
set_option maxHeartbeats 400000 in
theorem isNaN_i64 (x : Int) (w : World) : Calls Tryd.prog 56 #[.int .i64 x] w fun e w' => e = .returned (.bool false) ∧ w = w' := by
  go_enter Tryd.func56, Tryd.ntmps56
  go_wp2
  go_ret
  exact ⟨rfl, rfl⟩
set_option maxHeartbeats 400000 in
theorem cmp_i64 (x y : Int) (w : World) : Calls Tryd.prog 47 #[.int .i64 x, .int .i64 y] w fun e w' => e = .returned (.int .i64 (cmpI x y)) ∧ w = w' := by
  by_cases h1 : x < y
  · rw [show cmpI x y = -1 by simp [cmpI, h1]]
    have h1' : decide (x < y) = true := by simpa using h1
    go_enter Tryd.func47, Tryd.ntmps47
    go_wp2_with (go_at_call 56; refine (isNaN_i64 _ _).mono ?_; rintro e w' ⟨rfl, rfl⟩)
    go_ret
    exact ⟨rfl, rfl⟩
  · have h1' : decide (x < y) = false := by simpa using h1
    by_cases h2 : y < x
    · rw [show cmpI x y = 1 by simp [cmpI, h1, h2]]
      have h2' : decide (y < x) = true := by simpa using h2
      go_enter Tryd.func47, Tryd.ntmps47
      go_wp2_with (go_at_call 56; refine (isNaN_i64 _ _).mono ?_; rintro e w' ⟨rfl, rfl⟩)
      go_ret
      exact ⟨rfl, rfl⟩
    · rw [show cmpI x y = 0 by simp [cmpI, h1, h2]]
      have h2' : decide (y < x) = false := by simpa using h2
      go_enter Tryd.func47, Tryd.ntmps47
      go_wp2_with (go_at_call 56; refine (isNaN_i64 _ _).mono ?_; rintro e w' ⟨rfl, rfl⟩)
      go_ret
      exact ⟨rfl, rfl⟩

/-- the first one that is not 0. -/
def orI (x y z : Int) : Int := if x = 0 then (if y = 0 then z else y) else x
set_option maxHeartbeats 1000000 in
theorem or_any (b c : Nat) (x y z : Int) (w : World) (h0 : w.cell? ⟨b, 0, none⟩ = some (.int .i64 x)) (h1 : w.cell? ⟨b, 1, none⟩ = some (.int .i64 y)) (h2 : w.cell? ⟨b, 2, none⟩ = some (.int .i64 z)) :
    Calls Tryd.prog 45 #[.slice (some ⟨b, 0, none⟩) 3 c] w fun e w' => e = .returned (.int .i64 (orI x y z)) ∧ w = w' := by
  by_cases hx : x = 0
  · have hx' : (x != 0) = false := by simp [hx]
    by_cases hy : y = 0
    · have hy' : (y != 0) = false := by simp [hy]
      by_cases hz : z = 0
      · rw [show orI x y z = 0 by simp [orI, hx, hy, hz]]
        have hz' : (z != 0) = false := by simp [hz]
        clear hx hy hz
        go_enter Tryd.func45, Tryd.ntmps45
        go_wp2
        refine wp_loop_rounds 4 ?_
        repeat (rw [rounds_succ]; go_wp2)
        go_ret
        exact ⟨rfl, rfl⟩
      · rw [show orI x y z = z by simp [orI, hx, hy]]
        have hz' : (z != 0) = true := by simp [hz]
        clear hx hy hz
        go_enter Tryd.func45, Tryd.ntmps45
        go_wp2
        refine wp_loop_rounds 3 ?_
        repeat (rw [rounds_succ]; go_wp2)
        go_ret
        exact ⟨rfl, rfl⟩
    · rw [show orI x y z = y by simp [orI, hx, hy]]
      have hy' : (y != 0) = true := by simp [hy]
      clear hx hy
      go_enter Tryd.func45, Tryd.ntmps45
      go_wp2
      refine wp_loop_rounds 2 ?_
      repeat (rw [rounds_succ]; go_wp2)
      go_ret
      exact ⟨rfl, rfl⟩
  · rw [show orI x y z = x by simp [orI, hx]]
    have hx' : (x != 0) = true := by simp [hx]
    clear hx
    go_enter Tryd.func45, Tryd.ntmps45
    go_wp2
    refine wp_loop_rounds 1 ?_
    repeat (rw [rounds_succ]; go_wp2)
    go_ret
    exact ⟨rfl, rfl⟩

set_option maxRecDepth 100000 in
theorem eqlId (x y : Idn) (w : World) : (binOp .eql 27 (.agg (encId x).toArray) (.agg (encId y).toArray)).run Tryd.prog w = .ok (.bool (eqId x y)) w := by
  have u3 := Tryd.underlying25
  have a3 := Tryd.isAgg25
  have z3 := Tryd.sizeOf25
  have u4 := Tryd.underlying3
  have a4 := Tryd.isAgg3
  have z4 := Tryd.sizeOf3
  have hS : Tryd.prog.underlying 27 = some (.struct (Tryd.prog.fieldsOf 27)) := by kernel_rfl
  have hp : Tryd.prog.stoodInHeld 27 = false := by kernel_rfl
  simp only [encId, eqId]
  rw [run_eql_struct, show (10000 : Nat) = 9999 + 1 from rfl, run_equalIn_agg w 9999 27 _ _ hS hp]
  simp only [Program.fieldsOf, Tryd.underlying27]
  go_simp
  by_cases h1 : x.t = y.t <;> by_cases h2 : x.s = y.s <;> by_cases h3 : x.q = y.q <;> simp [h1, h2, h3]

/-- how ids stand. -/
def cmpId (x y : Idn) : Int := if eqId x y = true then 0 else orI (cmpI x.t y.t) (cmpI x.s y.s) (cmpI x.q y.q)
/-- it returns v; new blocks and draws are all that has come. -/
def Lays (v : Value) (w : World) (e : Ending) (w' : World) : Prop := e = .returned v ∧ ∃ q os', w' = grow (w.drewN q) os'

set_option maxRecDepth 100000 in
set_option maxHeartbeats 1000000 in
theorem Compare_lays (x y : Idn) (w : World) : Calls Tryd.prog 29 #[.agg #[.int .u64 x.t, .int .i64 x.s, .int .u64 x.q], .agg #[.int .u64 y.t, .int .i64 y.s, .int .u64 y.q]] w (Lays (.int .i64 (cmpId x y)) w) := by
  have he := fun w => eqlId x y w
  simp only [encId] at he
  cases h : eqId x y with
  | true =>
    rw [show cmpId x y = 0 by simp [cmpId, h]]
    rw [h] at he
    go_enter Tryd.func29, Tryd.ntmps29
    go_wp2
    go_ret
    exact ⟨rfl, 0, _, by rw [alloc_eq_grow, alloc_eq_grow, grow_grow]; rfl⟩
  | false =>
    rw [show cmpId x y = orI (cmpI x.t y.t) (cmpI x.s y.s) (cmpI x.q y.q) by simp [cmpId, h]]
    rw [h] at he
    have c1 := fun w => (cmp_u64 x.t y.t w).mono fun e w' h => And.intro h.1 h.2.symm
    have c2 := fun w => (cmp_i64 x.s y.s w).mono fun e w' h => And.intro h.1 h.2.symm
    have c3 := fun w => (cmp_u64 x.q y.q w).mono fun e w' h => And.intro h.1 h.2.symm
    generalize cmpI x.t y.t = r1 at c1 ⊢
    generalize cmpI x.s y.s = r2 at c2 ⊢
    generalize cmpI x.q y.q = r3 at c3 ⊢
    have C1 := Lib.hid c1
    have C2 := Lib.hid c2
    have C3 := Lib.hid c3
    clear c1 c2 c3 h
    go_enter Tryd.func29, Tryd.ntmps29
    go_wp2
    have a0 := (Blk.new w 27 #[.int .u64 x.t, .int .i64 x.s, .int .u64 x.q]).alloc (.cells #[.int .u64 y.t, .int .i64 y.s, .int .u64 y.q] 27)
    have b0 := Blk.new (w.alloc (.cells #[.int .u64 x.t, .int .i64 x.s, .int .u64 x.q] 27)) 27 #[.int .u64 y.t, .int .i64 y.s, .int .u64 y.q]
    rw [World.size_alloc] at b0
    have HG : Hid (∃ os, (w.alloc (.cells #[.int .u64 x.t, .int .i64 x.s, .int .u64 x.q] 27)).alloc (.cells #[.int .u64 y.t, .int .i64 y.s, .int .u64 y.q] 27) = grow w os) := ⟨_, by rw [alloc_eq_grow, alloc_eq_grow, grow_grow]⟩
    generalize (w.alloc (.cells #[.int .u64 x.t, .int .i64 x.s, .int .u64 x.q] 27)).alloc (.cells #[.int .u64 y.t, .int .i64 y.s, .int .u64 y.q] 27) = W at a0 b0 HG ⊢
    have x0 := a0.cell 0
    have x1 := a0.cell 1
    have x2 := a0.cell 2
    have y0 := b0.cell 0
    have y1 := b0.cell 1
    have y2 := b0.cell 2
    simp at x0 x1 x2 y0 y1 y2
    clear a0 b0
    refine wp_region_still_tail 15 (by kernel_rfl) (by kernel_rfl) ?_
    simp only [List.take_succ_cons, List.take_zero, List.drop_succ_cons, List.drop_zero]
    still_step
    still_step
    still_step
    still_step
    still_call (C1.out _)
    still_step
    still_step
    still_step
    still_step
    still_call (C2.out _)
    still_step
    still_step
    still_step
    still_step
    still_call (C3.out _)
    refine wpStill_nil ?_
    change wpList _ _ _ _ _ W.drew
    clear x0 x1 x2 y0 y1 y2
    go_wp2_with fail
    refine (or_any _ _ r1 r2 r3 _ (by simp [go_sem]) (by simp [go_sem]) (by simp [go_sem])).mono ?_
    rintro e w' ⟨rfl, rfl⟩
    go_wp2
    go_ret
    obtain ⟨os, hg⟩ := HG.out
    exact ⟨rfl, 1, _, by rw [hg, alloc_eq_grow, grow_grow]; rfl⟩
end Go.Proofs.YtoiaecfiinkmjaaDoor
