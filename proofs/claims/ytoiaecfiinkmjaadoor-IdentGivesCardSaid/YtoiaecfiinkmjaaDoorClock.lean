/- ident's clocks: CheckClock, New, need, next, see: their contracts. -/
import Derived.Test.YtoiaecfiinkmjaaDoorCmp
import Derived.Deep.DeepCutAuto
namespace Go.Proofs.YtoiaecfiinkmjaaDoor
open Go.RowKit Go.Shelf

/-- a clock's value, and its cells. -/
abbrev clkV (s t q : Int) : Value := .agg #[.int .i64 s, .int .u64 t, .int .u64 q]
abbrev clkC (s t q : Int) : Array Value := #[.int .i64 s, .int .u64 t, .int .u64 q]
def okClk (s t q : Int) : Bool := siteB s && decide (t ≤ maxT) && decide (q ≤ maxT)

theorem CheckClock_run (s t q : Int) (w : World) (n : Int)
    (h : (siteB s = false ∧ n = 211) ∨ (siteB s = true ∧ decide (4611686018427387904 < t) = true ∧ n = 211) ∨ (siteB s = true ∧ decide (4611686018427387904 < t) = false ∧ decide (4611686018427387904 < q) = true ∧ n = 211)
      ∨ (siteB s = true ∧ decide (4611686018427387904 < t) = false ∧ decide (4611686018427387904 < q) = false ∧ n = 0)) :
    Calls Tryd.prog 17 #[clkV s t q] w (Ret (.int .i64 n) w) := by
  rcases h with ⟨h1, rfl⟩ | ⟨h1, h2, rfl⟩ | ⟨h1, h2, h3, rfl⟩ | ⟨h1, h2, h3, rfl⟩
  all_goals
    go_enter Tryd.func17, Tryd.ntmps17
    go_wp2_with (go_at_call 39; refine (site_any _ _).mono ?_; rintro e w' ⟨rfl, rfl⟩)
    go_ret
    exact ⟨rfl, (Below.refl _ w).alloc (Nat.le_refl _) _⟩
theorem CheckClock_any (s t q : Int) (w : World) : Calls Tryd.prog 17 #[clkV s t q] w (Ret (.int .i64 (if okClk s t q = true then 0 else 211)) w) := by
  refine CheckClock_run s t q w _ ?_
  unfold okClk maxT
  cases h1 : siteB s with
  | false => exact .inl ⟨rfl, by simp⟩
  | true =>
    by_cases h2 : 4611686018427387904 < t
    · exact .inr (.inl ⟨rfl, by simpa using h2, by simp; omega⟩)
    · by_cases h3 : 4611686018427387904 < q
      · exact .inr (.inr (.inl ⟨rfl, by simpa using h2, by simpa using h3, by simp; omega⟩))
      · exact .inr (.inr (.inr ⟨rfl, by simpa using h2, by simpa using h3, by simp; omega⟩))

set_option maxHeartbeats 400000 in
theorem ineed_true (e0 : Int) (w : World) : Calls Tryd.prog 54 #[.bool true, .int .i64 e0] w fun e w' => e = .returned (.tuple #[]) ∧ w = w' := by
  go_enter Tryd.func54, Tryd.ntmps54
  go_wp2
  go_end0
  exact ⟨rfl, rfl⟩
set_option maxHeartbeats 400000 in
theorem ineed_false (e0 : Int) (w : World) : Calls Tryd.prog 54 #[.bool false, .int .i64 e0] w fun e w' => e = .panicked [{ v := .iface 29 (.int .i64 e0), recovered := false }] ∧ w = w' := by
  go_enter Tryd.func54, Tryd.ntmps54
  go_wp2
  exact ⟨rfl, rfl, rfl⟩

set_option maxRecDepth 100000 in
set_option maxHeartbeats 1000000 in
theorem next_late (h : Nat) (T : TypeId) (s t q : Int) (w : World) (hh : Blk w h T (clkC s t q)) (hl : ¬ (t < maxT ∧ q < maxT)) :
    Calls Tryd.prog 42 #[.pointer (some ⟨h, 0, none⟩)] w (Panics 212 w) := by
  have h1 := hh.lt
  unfold maxT at hl
  have c1 := (hh.alloc (.cells #[.int .u64 0, .int .i64 0, .int .u64 0] 27)).cell 1
  have c2 := (hh.alloc (.cells #[.int .u64 0, .int .i64 0, .int .u64 0] 27)).cell 2
  simp only [List.getElem?_toArray, List.getElem?_cons_succ, List.getElem?_cons_zero] at c1 c2
  clear hh
  by_cases ht : t < 4611686018427387904
  · have hd1 : decide (t < 4611686018427387904) = true := by simpa using ht
    have hd2 : decide (q < 4611686018427387904) = false := by simp; omega
    clear hl
    go_enter Tryd.func42, Tryd.ntmps42
    go_wp2_with fail
    refine (ineed_false _ _).mono ?_
    rintro e w' ⟨rfl, rfl⟩
    exact ⟨rfl, rfl, (Below.refl _ w).alloc (Nat.le_refl _) _⟩
  · have hd1 : decide (t < 4611686018427387904) = false := by simpa using ht
    clear hl
    go_enter Tryd.func42, Tryd.ntmps42
    go_wp2_with fail
    refine (ineed_false _ _).mono ?_
    rintro e w' ⟨rfl, rfl⟩
    exact ⟨rfl, rfl, (Below.refl _ w).alloc (Nat.le_refl _) _⟩

theorem Blk.iload {W : World} {g : Nat} {T : TypeId} {t s q : Int} (h : Blk W g T #[.int .u64 t, .int .i64 s, .int .u64 q]) : (loadVar 27 ⟨g, 0, none⟩).run Tryd.prog W = .ok (idV t s q) W :=
  h.load Tryd.underlying27 rfl (by kernel_rfl)
theorem Blk.kload {W : World} {g : Nat} {T : TypeId} {t s q : Int} (h : Blk W g T (clkC s t q)) : (loadVar 41 ⟨g, 0, none⟩).run Tryd.prog W = .ok (clkV s t q) W :=
  h.load Tryd.underlying41 rfl (by kernel_rfl)
section
variable {ops : Array Oper} {rest : List Oper} {a : Act} {w : World} {Q : Exit → Act → World → Prop} {ty : TypeId} {pos : String} {after : Array Edge}
/-- a whole id, a whole clock into a variable. -/
theorem L_istoreV (x y : Operand) (t s q : Int) {g : Nat} {T : TypeId} {t0 s0 q0 : Value} (hx : a.eval x = .pointer (some ⟨g, 0, none⟩)) (hy : a.eval y = idV t s q) (hb : Blk w g T #[t0, s0, q0])
    (h : wpList Tryd.prog ops Q rest a (w.setRow g #[.int .u64 t, .int .i64 s, .int .u64 q])) : wpList Tryd.prog ops Q (⟨none, .store 27 x y, ty, pos, after, none⟩ :: rest) a w :=
  wpList_store_row rfl _ x y rfl g _ hx hy T _ hb (by kernel_rfl) rfl (by simp [Value.oneCell']) h
theorem L_kstore (x y : Operand) (s t q : Int) {g : Nat} {T : TypeId} {t0 s0 q0 : Value} (hx : a.eval x = .pointer (some ⟨g, 0, none⟩)) (hy : a.eval y = clkV s t q) (hb : Blk w g T #[t0, s0, q0])
    (h : wpList Tryd.prog ops Q rest a (w.setRow g (clkC s t q))) : wpList Tryd.prog ops Q (⟨none, .store 41 x y, ty, pos, after, none⟩ :: rest) a w :=
  wpList_store_row rfl _ x y rfl g _ hx hy T _ hb (by kernel_rfl) rfl (by simp [Value.oneCell']) h
end
theorem below_setRowK {B : Nat} {w X : World} {g : Nat} (h : Below B w X) (hg : B ≤ g) (cs : Array Value) : Below B w (X.setRow g cs) :=
  h.trans ⟨rfl, rfl, rfl, by simp [World.setRow], fun k hk => setRow_other X g k cs (by omega)⟩

set_option maxRecDepth 100000 in
set_option maxHeartbeats 2000000 in
theorem next_ok (h : Nat) (T : TypeId) (s t q : Int) (w : World) (hh : Blk w h T (clkC s t q)) (ht0 : 0 ≤ t) (hq0 : 0 ≤ q) (ht : t < maxT) (hq : q < maxT) :
    Calls Tryd.prog 42 #[.pointer (some ⟨h, 0, none⟩)] w fun e w' => e = .returned (idV (t + 1) s (q + 1)) ∧ Blk w' h T (clkC s (t + 1) (q + 1)) ∧ Below h w w' := by
  have h1 := hh.lt
  unfold maxT at ht hq
  have hd1 : decide (t < 4611686018427387904) = true := by simpa using ht
  have hd2 : decide (q < 4611686018427387904) = true := by simpa using hq
  have hw1 : IntKind.u64.wrap (t + 1) = t + 1 := IntWalk.u64_in _ (by omega)
  have hw2 : IntKind.u64.wrap (q + 1) = q + 1 := IntWalk.u64_in _ (by omega)
  have hr := Blk.new w 27 #[.int .u64 0, .int .i64 0, .int .u64 0]
  have hk := hh.alloc (.cells #[.int .u64 0, .int .i64 0, .int .u64 0] 27)
  have HB : Hid (Below h w (w.alloc (.cells #[.int .u64 0, .int .i64 0, .int .u64 0] 27))) := (Below.refl _ _).alloc (by omega) _
  have hne : h ≠ w.heap.size := by omega
  have hle : h ≤ w.heap.size := by omega
  go_enter Tryd.func42, Tryd.ntmps42
  go_upto_region 1 with fail
  generalize w.alloc (.cells #[.int .u64 0, .int .i64 0, .int .u64 0] 27) = W at hr hk HB ⊢
  generalize w.heap.size = r at hr hne hle ⊢
  have HR := Lib.hid hr
  have HK := Lib.hid hk
  clear hr hk hh h1
  have c0 := HK.out.cell 0
  have c1 := HK.out.cell 1
  have c2 := HK.out.cell 2
  have f1 := HK.out.frozen 1
  have f2 := HK.out.frozen 2
  simp at c0 c1 c2
  go_upto_region 4 with (go_at_call 54; refine (ineed_true _ _).mono ?_; rintro e w' ⟨rfl, rfl⟩)
  have hk2 : Blk ((W.setCell ⟨h, 1, none⟩ (.int .u64 (t + 1))).setCell ⟨h, 2, none⟩ (.int .u64 (q + 1))) h T (clkC s (t + 1) (q + 1)) := (HK.out.set 1 _).set 2 _
  have hr2 : Blk ((W.setCell ⟨h, 1, none⟩ (.int .u64 (t + 1))).setCell ⟨h, 2, none⟩ (.int .u64 (q + 1))) r 27 #[.int .u64 0, .int .i64 0, .int .u64 0] := (HR.out.set_other (Ne.symm hne) _).set_other (Ne.symm hne) _
  have hb2 : Below h w ((W.setCell ⟨h, 1, none⟩ (.int .u64 (t + 1))).setCell ⟨h, 2, none⟩ (.int .u64 (q + 1))) := (HB.out.setCell (Nat.le_refl _) _).setCell (Nat.le_refl _) _
  have HK2 := Lib.hid hk2
  have HR2 := Lib.hid hr2
  have HB2 := Lib.hid hb2
  clear hk2 hr2 hb2 HK HR HB c0 c1 c2 f1 f2 hw1 hw2 hd1 hd2
  generalize (W.setCell ⟨h, 1, none⟩ (.int .u64 (t + 1))).setCell ⟨h, 2, none⟩ (.int .u64 (q + 1)) = W2 at HK2 HR2 HB2 ⊢
  have c0 := HK2.out.cell 0
  have c1 := HK2.out.cell 1
  have c2 := HK2.out.cell 2
  simp at c0 c1 c2
  refine wp_region_still_tail 16 (by kernel_rfl) (by kernel_rfl) ?_
  simp only [List.take_succ_cons, List.take_zero, List.drop_succ_cons, List.drop_zero]
  repeat still_step
  refine wpStill_nil ?_
  change wpList _ _ _ _ _ W2.drew
  go_wp2_with (refine L_istoreV (.tmp 2) (.tmp 51) (t + 1) s (q + 1) rfl rfl HR2.out.drew ?_)
  refine bodyPost_ret (v := idV (t + 1) s (q + 1)) (results_cell1 rfl _ _ rfl (HR2.out.drew.row _).iload) rfl ⟨rfl, HK2.out.drew.row_other hne _, below_setRowK HB2.out.drew (by omega) _⟩

set_option maxRecDepth 100000 in
set_option maxHeartbeats 1000000 in
theorem see_bad (h : Nat) (x : Int) (w : World) (hx : ¬ x ≤ maxT) : Calls Tryd.prog 44 #[.pointer (some ⟨h, 0, none⟩), .int .u64 x] w (Panics 2 w) := by
  unfold maxT at hx
  have hd : decide (x ≤ 4611686018427387904) = false := by simpa using hx
  clear hx
  go_enter Tryd.func44, Tryd.ntmps44
  go_wp2_with fail
  refine (ineed_false _ _).mono ?_
  rintro e w' ⟨rfl, rfl⟩
  exact ⟨rfl, rfl, Below.refl _ _⟩
set_option maxRecDepth 100000 in
set_option maxHeartbeats 1000000 in
theorem see_ok (h : Nat) (T : TypeId) (s t q x : Int) (w : World) (hh : Blk w h T (clkC s t q)) (hx : x ≤ maxT) :
    Calls Tryd.prog 44 #[.pointer (some ⟨h, 0, none⟩), .int .u64 x] w fun e w' => e = .returned (.tuple #[]) ∧ Blk w' h T (clkC s (max t x) q) ∧ Below h w w' := by
  unfold maxT at hx
  have hd : decide (x ≤ 4611686018427387904) = true := by simpa using hx
  have HH := Lib.hid hh
  have c1 := HH.out.cell 1
  have f1 := HH.out.frozen 1
  simp at c1
  clear hx hh
  go_enter Tryd.func44, Tryd.ntmps44
  go_wp2_with fail
  refine (ineed_true _ _).mono ?_
  rintro e w' ⟨rfl, rfl⟩
  go_wp2
  go_end0
  exact ⟨rfl, HH.out.set 1 _, Below.setCell (p := ⟨h, 1, none⟩) (Below.refl h w) (Nat.le_refl _) _⟩

set_option maxRecDepth 100000 in
set_option maxHeartbeats 1000000 in
theorem New_any (n : Int) (w : World) : Calls Tryd.prog 18 #[.int .i64 n] w (Ret (.tuple #[if siteB n = true then clkV n 0 0 else clkV 0 0 0, .int .i64 (if siteB n = true then 0 else 2)]) w) := by
  have HR := Lib.hid (Blk.new w 41 (clkC 0 0 0))
  have HB : Hid (Below w.heap.size w (w.alloc (.cells (clkC 0 0 0) 41))) := (Below.refl _ _).alloc (Nat.le_refl _) _
  have HS := Lib.hid (fun W => site_any n W)
  cases hs : siteB n with
  | true =>
    rw [hs] at HS
    have e1 : (if true = true then clkV n 0 0 else clkV 0 0 0) = clkV n 0 0 := rfl
    have e2 : (if true = true then (0 : Int) else 2) = 0 := rfl
    rw [e1, e2]
    clear e1 e2 hs
    go_enter Tryd.func18, Tryd.ntmps18
    go_wp2_with (first | (go_at_call 39; refine (HS.out _).mono ?_; rintro e w' ⟨rfl, rfl⟩) | (refine L_kstore (.tmp 2) (.tmp 9) n 0 0 rfl rfl HR.out ?_))
    exact bodyPost_ret (v := .tuple #[clkV n 0 0, .int .i64 0]) (results_ctR rfl _ _ rfl (HR.out.row (clkC n 0 0)).kload rfl) rfl ⟨rfl, below_setRowK HB.out (Nat.le_refl _) _⟩
  | false =>
    rw [hs] at HS
    have e1 : (if false = true then clkV n 0 0 else clkV 0 0 0) = clkV 0 0 0 := rfl
    have e2 : (if false = true then (0 : Int) else 2) = 2 := rfl
    rw [e1, e2]
    clear e1 e2 hs
    go_enter Tryd.func18, Tryd.ntmps18
    go_wp2_with (first | (go_at_call 39; refine (HS.out _).mono ?_; rintro e w' ⟨rfl, rfl⟩) | (refine L_kstore (.tmp 2) (.tmp 7) 0 0 0 rfl rfl HR.out ?_))
    exact bodyPost_ret (v := .tuple #[clkV 0 0 0, .int .i64 2]) (results_ctR rfl _ _ rfl (HR.out.row (clkC 0 0 0)).kload rfl) rfl ⟨rfl, below_setRowK HB.out (Nat.le_refl _) _⟩
end Go.Proofs.YtoiaecfiinkmjaaDoor
