/- gessolaw11.wakes returns true. -/
import Derived.Test.YtoiaecfiinkmjaaDoorClock3
import Derived.Test.YtoiaecfiinkmjaaDoorRead
import Derived.Test.YtoiaecfiinkmjaaDoorTextId
import Derived.Test.YtoiaecfiinkmjaaDoorInsLaw
import Derived.Test.YtoiaecfiinkmjaaDoorHeld
namespace Go.Proofs.YtoiaecfiinkmjaaDoor
open Go.RowKit Go.Shelf Go.Sort

theorem below_drewW {B : Nat} (w : World) (q : Nat) : Below B w (w.drewN q) := ⟨rfl, rfl, rfl, Nat.le_refl _, fun _ _ => rfl⟩
theorem lays_ret {v : Value} {w : World} {e : Ending} {w' : World} (h : Lays v w e w') : e = .returned v ∧ Below w.heap.size w w' := by
  obtain ⟨h1, q, os, rfl⟩ := h
  exact ⟨h1, (below_drewW w q).trans (below_grow _ os (Nat.le_refl _))⟩
theorem Compare_any (x y : Idn) (w : World) : Calls Tryd.prog 29 #[x.val, y.val] w (Ret (.int .i64 (cmpId x y)) w) := (Compare_lays x y w).mono fun _ _ => lays_ret

theorem rowU_two {W : World} {b : Nat} {T : TypeId} {x y : Int} (h : Blk W b T #[.int .u64 x, .int .u64 y]) : RowS encU 1 W (some ⟨b, 0, none⟩) 2 [x, y] :=
  ⟨rfl, by simp, .inr ⟨b, 0, rfl, h.lt, fun j z hj i v hv => by
    have hj2 : j < 2 := by have := (List.getElem?_eq_some_iff.1 hj).1; simpa using this
    have hi3 : i < 1 := by have := (List.getElem?_eq_some_iff.1 hv).1; simpa [encU] using this
    rw [h.cell]
    obtain rfl : i = 0 := by omega
    rcases (show j = 0 ∨ j = 1 by omega) with rfl | rfl <;> obtain rfl := Option.some.inj hj <;> exact hv⟩⟩
theorem rowI_three {W : World} {b : Nat} {T : TypeId} {x y z : Idn} (h : Blk W b T #[.int .u64 x.t, .int .i64 x.s, .int .u64 x.q, .int .u64 y.t, .int .i64 y.s, .int .u64 y.q, .int .u64 z.t, .int .i64 z.s, .int .u64 z.q]) : RowS encId 3 W (some ⟨b, 0, none⟩) 3 [x, y, z] :=
  ⟨rfl, by simp, .inr ⟨b, 0, rfl, h.lt, fun j u hj i v hv => by
    have hj2 : j < 3 := by have := (List.getElem?_eq_some_iff.1 hj).1; simpa using this
    have hi3 : i < 3 := by have := (List.getElem?_eq_some_iff.1 hv).1; simpa [encId] using this
    rw [h.cell]
    rcases (show j = 0 ∨ j = 1 ∨ j = 2 by omega) with rfl | rfl | rfl <;> obtain rfl := Option.some.inj hj <;>
      rcases (show i = 0 ∨ i = 1 ∨ i = 2 by omega) with rfl | rfl | rfl <;> exact hv⟩⟩

theorem next_w1 (W : World) : Calls Tryd.prog 20 #[clkV 2 7 3] W (Ret (.tuple #[clkV 2 8 4, idV 8 2 4, .int .i64 0]) W) := Next_ok 2 7 3 (by decide) (by decide) (by decide) W
theorem next_w2 (W : World) : Calls Tryd.prog 20 #[clkV 2 20 4] W (Ret (.tuple #[clkV 2 21 5, idV 21 2 5, .int .i64 0]) W) := Next_ok 2 20 4 (by decide) (by decide) (by decide) W
theorem next_w3 (W : World) : Calls Tryd.prog 20 #[clkV 1 4611686018427387904 0] W (Ret (.tuple #[clkV 0 0 0, idV 0 0 0, .int .i64 212]) W) := Next_bad 1 4611686018427387904 0 (by decide) W
theorem see_w (a : Option Addr) (c : Nat) (W : World) (h : RowS encU 1 W a 2 [5, 20]) : Calls Tryd.prog 21 #[clkV 2 8 4, .slice a 2 c] W (Ret (.tuple #[clkV 2 20 4, .int .i64 0]) W) := See_ok 2 8 4 a 2 c [5, 20] W h (by decide)
theorem text_824 : textOf 8 2 4 = [56, 46, 50, 46, 52] := by kernel_rfl
theorem read_w (W : World) (hT : Tab W) : Calls Tryd.prog 12 #[.string ⟨#[56, 46, 50, 46, 52]⟩] W (Ret (.tuple #[idV 8 2 4, .int .i64 0]) W) := by
  have := Read_any ⟨#[56, 46, 50, 46, 52]⟩ W hT
  rwa [show readB (⟨#[56, 46, 50, 46, 52]⟩ : ByteArray).data.toList = some ⟨8, 2, 4⟩ from readB_some.2 ⟨by decide, text_824.symm⟩] at this
theorem text_w (W : World) (hT : Tab W) : Calls Tryd.prog 10 #[idV 8 2 4] W (Ret (.string ⟨#[56, 46, 50, 46, 52]⟩) W) := by
  have := TextId_any 8 2 4 (by decide) (by decide) (by decide) (by decide) W hT
  rwa [show textOf 8 2 4 = [56, 46, 50, 46, 52] from text_824] at this
theorem comp_w (W : World) : Calls Tryd.prog 29 #[idV 2 1 9, idV 2 2 1] W (Ret (.int .i64 (-1)) W) := Compare_any ⟨2, 1, 9⟩ ⟨2, 2, 1⟩ W
theorem check_w (W : World) : Calls Tryd.prog 14 #[idV 0 1 1] W (Ret (.int .i64 210) W) := Check_id_bad 0 1 1 (by decide) W
def l3 : List Idn := [⟨2, 1, 9⟩, ⟨2, 2, 1⟩, ⟨3, 1, 2⟩]
theorem sort_l3 : sortIds [⟨3, 1, 2⟩, ⟨2, 2, 1⟩, ⟨2, 1, 9⟩] = l3 := by rw [← rsort_eq]; kernel_rfl
def P23 (u : Value) (X : World) : Prop := ∃ a c, u = .slice a 3 c ∧ RowS encId 3 X a 3 l3
theorem sorted_w (b : Nat) (T : TypeId) (W : World) (h : Blk W b T #[.int .u64 3, .int .i64 1, .int .u64 2, .int .u64 2, .int .i64 2, .int .u64 1, .int .u64 2, .int .i64 1, .int .u64 9]) :
    Calls Tryd.prog 30 #[.slice (some ⟨b, 0, none⟩) 3 3] W fun e W' => ∃ v, e = .returned v ∧ (∃ a c, v = .slice a 3 c ∧ RowS encId 3 W' a 3 l3) ∧ Below W.heap.size W W' := by
  have := Sorted_any _ 3 3 _ W (rowI_three (x := ⟨3, 1, 2⟩) (y := ⟨2, 2, 1⟩) (z := ⟨2, 1, 9⟩) h) (by decide)
  rw [sort_l3] at this
  exact this.mono fun e W' ⟨a, c, h1, h2, h3⟩ => ⟨_, h1, ⟨a, c, rfl, h2⟩, h3⟩
theorem equal_w (a : Option Addr) (c b : Nat) (T : TypeId) (W : World) (h1 : RowS encId 3 W a 3 l3) (h2 : Blk W b T #[.int .u64 2, .int .i64 1, .int .u64 9, .int .u64 2, .int .i64 2, .int .u64 1, .int .u64 3, .int .i64 1, .int .u64 2]) :
    Calls Tryd.prog 31 #[.slice a 3 c, .slice (some ⟨b, 0, none⟩) 3 3] W (Ret (.bool true) W) :=
  (EqualId a _ 3 c 3 3 l3 l3 W h1 (rowI_three (x := ⟨2, 1, 9⟩) (y := ⟨2, 2, 1⟩) (z := ⟨3, 1, 2⟩) h2)).mono fun e W' ⟨h3, q, h4⟩ => ⟨h3, by rw [h4]; exact below_drewW _ _⟩

/-- what is known ahead of the last region. -/
structure WF (w W : World) (q1 q2 q3 q5 q9 q14 : Nat) : Prop where
  i1 : Blk W q1 27 #[.int .u64 3, .int .i64 1, .int .u64 2]
  i2 : Blk W q2 27 #[.int .u64 2, .int .i64 2, .int .u64 1]
  i3 : Blk W q3 27 #[.int .u64 2, .int .i64 1, .int .u64 9]
  i5 : Blk W q5 27 #[.int .u64 8, .int .i64 2, .int .u64 4]
  i9 : Blk W q9 27 #[.int .u64 21, .int .i64 2, .int .u64 5]
  i14 : Blk W q14 27 #[.int .u64 8, .int .i64 2, .int .u64 4]
  hb : Below w.heap.size w W
  tab : Tab W
theorem WF.below {w W W' : World} {q1 q2 q3 q5 q9 q14 : Nat} (h : WF w W q1 q2 q3 q5 q9 q14) (hb : Below W.heap.size W W') : WF w W' q1 q2 q3 q5 q9 q14 :=
  ⟨h.i1.below hb h.i1.lt, h.i2.below hb h.i2.lt, h.i3.below hb h.i3.lt, h.i5.below hb h.i5.lt, h.i9.below hb h.i9.lt, h.i14.below hb h.i14.lt, h.hb.trans (hb.mono h.hb.size), tab_below h.tab hb⟩

set_option maxRecDepth 100000 in
set_option maxHeartbeats 8000000 in
theorem wakes_any (w : World) (htab : Tab w) : Calls Tryd.prog 9 #[] w (Ret (.bool true) w) := by
  have hz := Nat.le_refl w.heap.size
  obtain ⟨X1, hX1⟩ : ∃ X, X = ((w.alloc (.cells #[.int .u64 0, .int .i64 0, .int .u64 0] 27)).alloc (.cells #[.int .u64 0, .int .i64 0, .int .u64 0] 27)).alloc (.cells #[.int .u64 0, .int .i64 0, .int .u64 0] 27) := ⟨_, rfl⟩
  have hb1 : Below w.heap.size w X1 := by rw [hX1]; go_grown
  have a1 := ((Blk.new w 27 #[.int .u64 0, .int .i64 0, .int .u64 0]).alloc (.cells #[.int .u64 0, .int .i64 0, .int .u64 0] 27)).alloc (.cells #[.int .u64 0, .int .i64 0, .int .u64 0] 27)
  have a2 := (Blk.new (w.alloc (.cells #[.int .u64 0, .int .i64 0, .int .u64 0] 27)) 27 #[.int .u64 0, .int .i64 0, .int .u64 0]).alloc (.cells #[.int .u64 0, .int .i64 0, .int .u64 0] 27)
  have a3 := Blk.new ((w.alloc (.cells #[.int .u64 0, .int .i64 0, .int .u64 0] 27)).alloc (.cells #[.int .u64 0, .int .i64 0, .int .u64 0] 27)) 27 #[.int .u64 0, .int .i64 0, .int .u64 0]
  rw [← hX1] at a1 a2 a3
  simp only [World.size_alloc] at a2 a3
  have A1 := Lib.hid a1
  have A2 := Lib.hid (a2.row_other (k := w.heap.size) (by omega) #[.int .u64 3, .int .i64 1, .int .u64 2])
  have A3 := Lib.hid ((a3.row_other (k := w.heap.size) (by omega) #[.int .u64 3, .int .i64 1, .int .u64 2]).row_other (k := w.heap.size + 1) (by omega) #[.int .u64 2, .int .i64 2, .int .u64 1])
  have HB1 := Lib.hid hb1
  have HT := Lib.hid htab
  clear a1 a2 a3 hb1 hz htab
  go_enter Tryd.func9, Tryd.ntmps9
  go_upto_region 2 with (first
    | (rw [← hX1]; refine L_istoreV (.tmp 1) (.tmp 16) 3 1 2 rfl rfl A1.out ?_)
    | (refine L_istoreV (.tmp 2) (.tmp 17) 2 2 1 rfl rfl A2.out ?_)
    | (refine L_istoreV (.tmp 3) (.tmp 18) 2 1 9 rfl rfl A3.out ?_))
  have b1 := ((A1.out.row #[.int .u64 3, .int .i64 1, .int .u64 2]).row_other (k := w.heap.size + 1) (by omega) #[.int .u64 2, .int .i64 2, .int .u64 1]).row_other (k := w.heap.size + 1 + 1) (by omega) #[.int .u64 2, .int .i64 1, .int .u64 9]
  have b2 := (A2.out.row #[.int .u64 2, .int .i64 2, .int .u64 1]).row_other (k := w.heap.size + 1 + 1) (by omega) #[.int .u64 2, .int .i64 1, .int .u64 9]
  have b3 := A3.out.row #[.int .u64 2, .int .i64 1, .int .u64 9]
  have hb := below_setRowK (below_setRowK (below_setRowK HB1.out (Nat.le_refl _) #[.int .u64 3, .int .i64 1, .int .u64 2]) (Nat.le_succ _) #[.int .u64 2, .int .i64 2, .int .u64 1]) (by omega : w.heap.size ≤ w.heap.size + 1 + 1) #[.int .u64 2, .int .i64 1, .int .u64 9]
  clear A1 A2 A3 HB1 hX1
  generalize ((X1.setRow w.heap.size #[.int .u64 3, .int .i64 1, .int .u64 2]).setRow (w.heap.size + 1) #[.int .u64 2, .int .i64 2, .int .u64 1]).setRow (w.heap.size + 1 + 1) #[.int .u64 2, .int .i64 1, .int .u64 9] = X at b1 b2 b3 hb ⊢
  have I1 := Lib.hid b1
  have I2 := Lib.hid b2
  have I3 := Lib.hid b3
  have HB := Lib.hid hb
  clear b1 b2 b3 hb
  generalize w.heap.size + 1 + 1 = q3 at I3 ⊢
  generalize w.heap.size + 1 = q2 at I2 ⊢
  have HW : Hid (∃ n, n = w.heap.size) := ⟨_, rfl⟩
  -- the first Next
  go_wp2_with fail
  refine (next_w1 _).mono ?_
  rintro e W ⟨rfl, hb⟩
  replace I1 := Lib.hid (I1.out.below hb I1.out.lt)
  replace I2 := Lib.hid (I2.out.below hb I2.out.lt)
  replace I3 := Lib.hid (I3.out.below hb I3.out.lt)
  replace HB := Lib.hid (HB.out.trans (hb.mono HB.out.size))
  clear hb
  have N1 : Hid (w.heap.size < W.heap.size) := I1.out.lt
  have N2 : Hid (q2 < W.heap.size) := I2.out.lt
  have N3 : Hid (q3 < W.heap.size) := I3.out.lt
  have N5 : Hid (W.heap.size < W.heap.size + 1) := Nat.lt_succ_self _
  have N0 : Hid (w.heap.size ≤ W.heap.size) := HB.out.size
  have C4 := Lib.hid ((Blk.new W 41 (clkC 0 0 0)).alloc (.cells #[.int .u64 0, .int .i64 0, .int .u64 0] 27))
  have b5 := Blk.new (W.alloc (.cells (clkC 0 0 0) 41)) 27 #[.int .u64 0, .int .i64 0, .int .u64 0]
  rw [World.size_alloc] at b5
  have I5 := Lib.hid (b5.row_other (k := W.heap.size) (by omega) (clkC 2 8 4))
  clear b5
  go_upto_region 3 with (first
    | (refine L_kstore (.tmp 4) (.tmp 22) 2 8 4 rfl rfl C4.out ?_)
    | (refine L_istoreV (.tmp 5) (.tmp 23) 8 2 4 rfl rfl I5.out ?_))
  have hb : Below W.heap.size W ((((W.alloc (.cells (clkC 0 0 0) 41)).alloc (.cells #[.int .u64 0, .int .i64 0, .int .u64 0] 27)).setRow W.heap.size (clkC 2 8 4)).setRow (W.heap.size + 1) #[.int .u64 8, .int .i64 2, .int .u64 4]) := below_setRowK (below_setRowK (((Below.refl _ _).alloc (Nat.le_refl _) _).alloc (by simp) _) (Nat.le_refl _) _) (by omega) _
  have b4 := (C4.out.row (clkC 2 8 4)).row_other (k := W.heap.size + 1) (by omega) #[.int .u64 8, .int .i64 2, .int .u64 4]
  replace C4 := Lib.hid b4
  replace I5 := Lib.hid (I5.out.row #[.int .u64 8, .int .i64 2, .int .u64 4])
  clear b4
  replace I1 := Lib.hid (I1.out.below hb I1.out.lt)
  replace I2 := Lib.hid (I2.out.below hb I2.out.lt)
  replace I3 := Lib.hid (I3.out.below hb I3.out.lt)
  replace HB := Lib.hid (HB.out.trans (hb.mono HB.out.size))
  clear hb
  generalize (((W.alloc (.cells (clkC 0 0 0) 41)).alloc (.cells #[.int .u64 0, .int .i64 0, .int .u64 0] 27)).setRow W.heap.size (clkC 2 8 4)).setRow (W.heap.size + 1) #[.int .u64 8, .int .i64 2, .int .u64 4] = X2 at I1 I2 I3 C4 I5 HB ⊢
  generalize W.heap.size + 1 = q5 at I5 N5 ⊢
  generalize W.heap.size = p4 at C4 N0 N1 N2 N3 N5 ⊢
  clear W
  -- See
  have c0 := C4.out.cell 0
  have c1 := C4.out.cell 1
  have c2 := C4.out.cell 2
  simp at c0 c1 c2
  go_wp2_with fail
  refine (see_w _ _ _ (rowU_two (Blk.new _ _ _))).mono ?_
  rintro e W ⟨rfl, hb'⟩
  have hb : Below X2.heap.size X2 W := Below.trans ((Below.refl _ _).alloc (Nat.le_refl _) _) (hb'.mono (by simp))
  clear hb' c0 c1 c2
  replace I1 := Lib.hid (I1.out.below hb I1.out.lt)
  replace I2 := Lib.hid (I2.out.below hb I2.out.lt)
  replace I3 := Lib.hid (I3.out.below hb I3.out.lt)
  replace C4 := Lib.hid (C4.out.below hb C4.out.lt)
  replace I5 := Lib.hid (I5.out.below hb I5.out.lt)
  replace HB := Lib.hid (HB.out.trans (hb.mono HB.out.size))
  clear hb
  go_upto_region 4 with (refine L_kstore (.tmp 4) (.tmp 29) 2 20 4 rfl rfl C4.out ?_)
  replace I1 := Lib.hid (I1.out.row_other (Nat.ne_of_lt N1.out) (clkC 2 20 4))
  replace I2 := Lib.hid (I2.out.row_other (Nat.ne_of_lt N2.out) (clkC 2 20 4))
  replace I3 := Lib.hid (I3.out.row_other (Nat.ne_of_lt N3.out) (clkC 2 20 4))
  replace I5 := Lib.hid (I5.out.row_other (Nat.ne_of_gt N5.out) (clkC 2 20 4))
  replace C4 := Lib.hid (C4.out.row (clkC 2 20 4))
  replace HB := Lib.hid (below_setRowK HB.out N0.out (clkC 2 20 4))
  generalize W.setRow p4 (clkC 2 20 4) = X3 at I1 I2 I3 I5 C4 HB ⊢
  generalize X2.heap.size = px
  clear W N0 N1 N2 N3 N5 X2
  -- the second Next
  have c0 := C4.out.cell 0
  have c1 := C4.out.cell 1
  have c2 := C4.out.cell 2
  simp at c0 c1 c2
  go_wp2_with fail
  refine (next_w2 _).mono ?_
  rintro e W ⟨rfl, hb⟩
  clear c0 c1 c2
  replace I1 := Lib.hid (I1.out.below hb I1.out.lt)
  replace I2 := Lib.hid (I2.out.below hb I2.out.lt)
  replace I3 := Lib.hid (I3.out.below hb I3.out.lt)
  replace I5 := Lib.hid (I5.out.below hb I5.out.lt)
  replace HB := Lib.hid (HB.out.trans (hb.mono HB.out.size))
  clear hb
  clear C4
  have C4 := Lib.hid ((Blk.new W 41 (clkC 0 0 0)).alloc (.cells #[.int .u64 0, .int .i64 0, .int .u64 0] 27))
  have b5 := Blk.new (W.alloc (.cells (clkC 0 0 0) 41)) 27 #[.int .u64 0, .int .i64 0, .int .u64 0]
  rw [World.size_alloc] at b5
  have I9 := Lib.hid (b5.row_other (k := W.heap.size) (by omega) (clkC 2 21 5))
  clear b5
  go_upto_region 5 with (first
    | (refine L_kstore (.tmp 8) (.tmp 34) 2 21 5 rfl rfl C4.out ?_)
    | (refine L_istoreV (.tmp 9) (.tmp 35) 21 2 5 rfl rfl I9.out ?_))
  have hb : Below W.heap.size W ((((W.alloc (.cells (clkC 0 0 0) 41)).alloc (.cells #[.int .u64 0, .int .i64 0, .int .u64 0] 27)).setRow W.heap.size (clkC 2 21 5)).setRow (W.heap.size + 1) #[.int .u64 21, .int .i64 2, .int .u64 5]) := below_setRowK (below_setRowK (((Below.refl _ _).alloc (Nat.le_refl _) _).alloc (by simp) _) (Nat.le_refl _) _) (by omega) _
  clear C4
  replace I9 := Lib.hid (I9.out.row #[.int .u64 21, .int .i64 2, .int .u64 5])
  replace I1 := Lib.hid (I1.out.below hb I1.out.lt)
  replace I2 := Lib.hid (I2.out.below hb I2.out.lt)
  replace I3 := Lib.hid (I3.out.below hb I3.out.lt)
  replace I5 := Lib.hid (I5.out.below hb I5.out.lt)
  replace HB := Lib.hid (HB.out.trans (hb.mono HB.out.size))
  clear hb
  generalize (((W.alloc (.cells (clkC 0 0 0) 41)).alloc (.cells #[.int .u64 0, .int .i64 0, .int .u64 0] 27)).setRow W.heap.size (clkC 2 21 5)).setRow (W.heap.size + 1) #[.int .u64 21, .int .i64 2, .int .u64 5] = X4 at I1 I2 I3 I5 I9 HB ⊢
  generalize W.heap.size + 1 = q9 at I9 ⊢
  generalize W.heap.size = p8 at I9 ⊢
  clear W
  -- the late Next
  go_wp2_with fail
  refine (next_w3 _).mono ?_
  rintro e W ⟨rfl, hb⟩
  replace I1 := Lib.hid (I1.out.below hb I1.out.lt)
  replace I2 := Lib.hid (I2.out.below hb I2.out.lt)
  replace I3 := Lib.hid (I3.out.below hb I3.out.lt)
  replace I5 := Lib.hid (I5.out.below hb I5.out.lt)
  replace I9 := Lib.hid (I9.out.below hb I9.out.lt)
  replace HB := Lib.hid (HB.out.trans (hb.mono HB.out.size))
  clear hb
  have C4 := Lib.hid ((Blk.new W 41 (clkC 0 0 0)).alloc (.cells #[.int .u64 0, .int .i64 0, .int .u64 0] 27))
  have b5 := Blk.new (W.alloc (.cells (clkC 0 0 0) 41)) 27 #[.int .u64 0, .int .i64 0, .int .u64 0]
  rw [World.size_alloc] at b5
  have IX := Lib.hid (b5.row_other (k := W.heap.size) (by omega) (clkC 0 0 0))
  clear b5
  go_upto_region 6 with (first
    | (refine L_kstore (.tmp 11) (.tmp 40) 0 0 0 rfl rfl C4.out ?_)
    | (refine L_istoreV (.tmp 12) (.tmp 41) 0 0 0 rfl rfl IX.out ?_))
  have hb : Below W.heap.size W ((((W.alloc (.cells (clkC 0 0 0) 41)).alloc (.cells #[.int .u64 0, .int .i64 0, .int .u64 0] 27)).setRow W.heap.size (clkC 0 0 0)).setRow (W.heap.size + 1) #[.int .u64 0, .int .i64 0, .int .u64 0]) := below_setRowK (below_setRowK (((Below.refl _ _).alloc (Nat.le_refl _) _).alloc (by simp) _) (Nat.le_refl _) _) (by omega) _
  clear C4 IX
  replace I1 := Lib.hid (I1.out.below hb I1.out.lt)
  replace I2 := Lib.hid (I2.out.below hb I2.out.lt)
  replace I3 := Lib.hid (I3.out.below hb I3.out.lt)
  replace I5 := Lib.hid (I5.out.below hb I5.out.lt)
  replace I9 := Lib.hid (I9.out.below hb I9.out.lt)
  replace HB := Lib.hid (HB.out.trans (hb.mono HB.out.size))
  clear hb
  generalize (((W.alloc (.cells (clkC 0 0 0) 41)).alloc (.cells #[.int .u64 0, .int .i64 0, .int .u64 0] 27)).setRow W.heap.size (clkC 0 0 0)).setRow (W.heap.size + 1) #[.int .u64 0, .int .i64 0, .int .u64 0] = X5 at I1 I2 I3 I5 I9 HB ⊢
  generalize W.heap.size + 1 = p12
  generalize W.heap.size = p11
  clear W
  -- Read
  go_wp2_with fail
  refine (read_w _ (tab_below HT.out HB.out)).mono ?_
  rintro e W ⟨rfl, hb⟩
  replace I1 := Lib.hid (I1.out.below hb I1.out.lt)
  replace I2 := Lib.hid (I2.out.below hb I2.out.lt)
  replace I3 := Lib.hid (I3.out.below hb I3.out.lt)
  replace I5 := Lib.hid (I5.out.below hb I5.out.lt)
  replace I9 := Lib.hid (I9.out.below hb I9.out.lt)
  replace HB := Lib.hid (HB.out.trans (hb.mono HB.out.size))
  clear hb
  have IX := Lib.hid (Blk.new W 27 #[.int .u64 0, .int .i64 0, .int .u64 0])
  go_upto_region 7 with (refine L_istoreV (.tmp 14) (.tmp 45) 8 2 4 rfl rfl IX.out ?_)
  have hb : Below W.heap.size W ((W.alloc (.cells #[.int .u64 0, .int .i64 0, .int .u64 0] 27)).setRow W.heap.size #[.int .u64 8, .int .i64 2, .int .u64 4]) := below_setRowK ((Below.refl _ _).alloc (Nat.le_refl _) _) (Nat.le_refl _) _
  have I14 := Lib.hid (IX.out.row #[.int .u64 8, .int .i64 2, .int .u64 4])
  clear IX
  replace I1 := Lib.hid (I1.out.below hb I1.out.lt)
  replace I2 := Lib.hid (I2.out.below hb I2.out.lt)
  replace I3 := Lib.hid (I3.out.below hb I3.out.lt)
  replace I5 := Lib.hid (I5.out.below hb I5.out.lt)
  replace I9 := Lib.hid (I9.out.below hb I9.out.lt)
  replace HB := Lib.hid (HB.out.trans (hb.mono HB.out.size))
  clear hb
  generalize (W.alloc (.cells #[.int .u64 0, .int .i64 0, .int .u64 0] 27)).setRow W.heap.size #[.int .u64 8, .int .i64 2, .int .u64 4] = Y at I1 I2 I3 I5 I9 I14 HB ⊢
  generalize W.heap.size = q14 at I14 ⊢
  clear W
  generalize hq1 : w.heap.size = q1 at I1 ⊢
  have HF : Hid (WF w Y q1 q2 q3 q5 q9 q14) := ⟨I1.out, I2.out, I3.out, I5.out, I9.out, I14.out, HB.out, tab_below HT.out HB.out⟩
  clear I1 I2 I3 I5 I9 I14 HB HT hq1
  obtain ⟨S, hS⟩ : ∃ S : World → Prop, S = fun X => Below Y.heap.size Y X := ⟨_, rfl⟩
  have HSd : Hid (∀ X, S X → Below Y.heap.size Y X) := by intro X hX; rw [hS] at hX; exact hX
  have HI1 : Hid (∀ X, S X → Blk X q1 27 #[.int .u64 3, .int .i64 1, .int .u64 2]) := fun X hX => (HF.out.below (HSd.out X hX)).i1
  have HI2 : Hid (∀ X, S X → Blk X q2 27 #[.int .u64 2, .int .i64 2, .int .u64 1]) := fun X hX => (HF.out.below (HSd.out X hX)).i2
  have HI3 : Hid (∀ X, S X → Blk X q3 27 #[.int .u64 2, .int .i64 1, .int .u64 9]) := fun X hX => (HF.out.below (HSd.out X hX)).i3
  have HI5 : Hid (∀ X, S X → Blk X q5 27 #[.int .u64 8, .int .i64 2, .int .u64 4]) := fun X hX => (HF.out.below (HSd.out X hX)).i5
  have HI9 : Hid (∀ X, S X → Blk X q9 27 #[.int .u64 21, .int .i64 2, .int .u64 5]) := fun X hX => (HF.out.below (HSd.out X hX)).i9
  have HI14 : Hid (∀ X, S X → Blk X q14 27 #[.int .u64 8, .int .i64 2, .int .u64 4]) := fun X hX => (HF.out.below (HSd.out X hX)).i14
  have HTS : Hid (∀ X, S X → Tab X) := fun X hX => (HF.out.below (HSd.out X hX)).tab
  have HSn : Hid (∀ X X', S X → Below X.heap.size X X' → S X') := by intro X X' h hb; rw [hS] at h ⊢; exact h.trans (hb.mono h.size)
  have hS0 : S Y.drew := by rw [hS]; exact (Below.refl _ _).drew
  clear hS
  refine wp_region_held_rel 61 S (fun k u X => match k with
      | 22 => ∃ b, u = .slice (some ⟨b, 0, none⟩) 3 3 ∧ Blk X b 27 #[.int .u64 3, .int .i64 1, .int .u64 2, .int .u64 2, .int .i64 2, .int .u64 1, .int .u64 2, .int .i64 1, .int .u64 9]
      | 23 => P23 u X
      | 27 => ∃ b, u = .slice (some ⟨b, 0, none⟩) 3 3 ∧ Blk X b 27 #[.int .u64 2, .int .i64 1, .int .u64 9, .int .u64 2, .int .i64 2, .int .u64 1, .int .u64 3, .int .i64 1, .int .u64 2]
      | 28 => u = .bool true
      | 47 => u = .string ⟨#[56, 46, 50, 46, 52]⟩
      | 53 => u = .int .i64 (-1)
      | 58 => u = .int .i64 210
      | _ => True) rfl (by kernel_rfl) (by kernel_rfl) (by kernel_rfl) (by
        intro k u X X' hb hF
        revert hF
        split <;> intro hF
        case h_1 => obtain ⟨b, e, h⟩ := hF; exact ⟨b, e, h.below hb h.lt⟩
        case h_2 => obtain ⟨a, c, e, h⟩ := hF; exact ⟨a, c, e, h.below hb⟩
        case h_3 => obtain ⟨b, e, h⟩ := hF; exact ⟨b, e, h.below hb h.lt⟩
        all_goals exact hF) hS0 ?_
  clear hS0
  simp only [List.take_succ_cons, List.take_zero, List.drop_succ_cons, List.drop_zero]
  refine relSeq_on rfl (fun K hK w1 hS1 hD1 => ?_)
  go_simp
  refine ⟨⟨trivial, hS1, Below.refl _ _⟩, hK _ ?_⟩
  clear hK hD1 hS1 K w1
  refine relSeq_on rfl (fun K hK w1 hS1 hD1 => ?_)
  go_simp
  refine ⟨⟨trivial, hS1, Below.refl _ _⟩, hK _ ?_⟩
  clear hK hD1 hS1 K w1
  refine relSeq_on rfl (fun K hK w1 hS1 hD1 => ?_)
  go_simp
  refine ⟨⟨trivial, hS1, Below.refl _ _⟩, hK _ ?_⟩
  clear hK hD1 hS1 K w1
  refine relSeq_on rfl (fun K hK w1 hS1 hD1 => ?_)
  go_simp
  refine ⟨⟨trivial, hS1, Below.refl _ _⟩, hK _ ?_⟩
  clear hK hD1 hS1 K w1
  refine relSeq_on rfl (fun K hK w1 hS1 hD1 => ?_)
  go_simp
  refine ⟨⟨trivial, hS1, Below.refl _ _⟩, hK _ ?_⟩
  clear hK hD1 hS1 K w1
  refine relSeq_on rfl (fun K hK w1 hS1 hD1 => ?_)
  go_simp
  refine ⟨⟨trivial, hS1, Below.refl _ _⟩, hK _ ?_⟩
  clear hK hD1 hS1 K w1
  refine relSeq_on rfl (fun K hK w1 hS1 hD1 => ?_)
  go_simp
  refine ⟨⟨trivial, hS1, Below.refl _ _⟩, hK _ ?_⟩
  clear hK hD1 hS1 K w1
  refine relSeq_on rfl (fun K hK w1 hS1 hD1 => ?_)
  go_simp
  refine ⟨⟨trivial, hS1, Below.refl _ _⟩, hK _ ?_⟩
  clear hK hD1 hS1 K w1
  refine relSeq_on rfl (fun K hK w1 hS1 hD1 => ?_)
  go_simp
  refine ⟨⟨trivial, hS1, Below.refl _ _⟩, hK _ ?_⟩
  clear hK hD1 hS1 K w1
  refine relSeq_on rfl (fun K hK w1 hS1 hD1 => ?_)
  go_simp
  refine ⟨⟨trivial, hS1, Below.refl _ _⟩, hK _ ?_⟩
  clear hK hD1 hS1 K w1
  refine relSeq_on rfl (fun K hK w1 hS1 hD1 => ?_)
  go_simp
  refine ⟨⟨trivial, hS1, Below.refl _ _⟩, hK _ ?_⟩
  clear hK hD1 hS1 K w1
  refine relSeq_on rfl (fun K hK w1 hS1 hD1 => ?_)
  go_simp
  refine ⟨⟨trivial, hS1, Below.refl _ _⟩, hK _ ?_⟩
  clear hK hD1 hS1 K w1
  refine relSeq_on rfl (fun K hK w1 hS1 hD1 => ?_)
  go_simp
  refine ⟨⟨trivial, hS1, Below.refl _ _⟩, hK _ ?_⟩
  clear hK hD1 hS1 K w1
  refine relSeq_on rfl (fun K hK w1 hS1 hD1 => ?_)
  go_simp
  refine ⟨⟨trivial, hS1, Below.refl _ _⟩, hK _ ?_⟩
  clear hK hD1 hS1 K w1
  refine relSeq_on rfl (fun K hK w1 hS1 hD1 => ?_)
  go_simp
  refine ⟨⟨trivial, hS1, Below.refl _ _⟩, hK _ ?_⟩
  clear hK hD1 hS1 K w1
  refine relSeq_on rfl (fun K hK w1 hS1 hD1 => ?_)
  go_simp
  refine ⟨⟨trivial, hS1, Below.refl _ _⟩, hK _ ?_⟩
  clear hK hD1 hS1 K w1
  refine relSeq_on rfl (fun K hK w1 hS1 hD1 => ?_)
  go_simp
  refine ⟨⟨trivial, hS1, Below.refl _ _⟩, hK _ ?_⟩
  clear hK hD1 hS1 K w1
  refine relSeq_on rfl (fun K hK w1 hS1 hD1 => ?_)
  go_simp
  refine ⟨⟨trivial, hS1, Below.refl _ _⟩, hK _ ?_⟩
  clear hK hD1 hS1 K w1
  refine relSeq_on rfl (fun K hK w1 hS1 hD1 => ?_)
  go_simp
  refine ⟨⟨trivial, hS1, Below.refl _ _⟩, hK _ ?_⟩
  clear hK hD1 hS1 K w1
  refine relSeq_on rfl (fun K hK w1 hS1 hD1 => ?_)
  have c0 := (HI1.out w1 hS1).cell 0
  have c1 := (HI1.out w1 hS1).cell 1
  have c2 := (HI1.out w1 hS1).cell 2
  simp at c0 c1 c2
  go_simp
  refine ⟨⟨trivial, hS1, Below.refl _ _⟩, hK _ ?_⟩
  clear hK hD1 c0 c1 c2 hS1 K w1
  refine relSeq_on rfl (fun K hK w1 hS1 hD1 => ?_)
  have c0 := (HI2.out w1 hS1).cell 0
  have c1 := (HI2.out w1 hS1).cell 1
  have c2 := (HI2.out w1 hS1).cell 2
  simp at c0 c1 c2
  go_simp
  refine ⟨⟨trivial, hS1, Below.refl _ _⟩, hK _ ?_⟩
  clear hK hD1 c0 c1 c2 hS1 K w1
  refine relSeq_on rfl (fun K hK w1 hS1 hD1 => ?_)
  have c0 := (HI3.out w1 hS1).cell 0
  have c1 := (HI3.out w1 hS1).cell 1
  have c2 := (HI3.out w1 hS1).cell 2
  simp at c0 c1 c2
  go_simp
  refine ⟨⟨trivial, hS1, Below.refl _ _⟩, hK _ ?_⟩
  clear hK hD1 c0 c1 c2 hS1 K w1
  refine relSeq_on rfl (fun K hK w1 hS1 hD1 => ?_)
  go_simp
  refine ⟨⟨⟨_, rfl, Blk.new _ _ _⟩, HSn.out _ _ hS1 ((Below.refl _ _).alloc (Nat.le_refl _) _), (Below.refl _ _).alloc (Nat.le_refl _) _⟩, hK _ ?_⟩
  generalize w1.heap.size = g22
  clear hK hD1 hS1 K w1
  refine relSeq_on rfl (fun K hK w1 hS1 hD1 => ?_)
  go_simp
  obtain ⟨b1, e2, h2⟩ := hD1 ⟨22, .data⟩ (by simp) rfl _ _ rfl rfl
  obtain rfl : b1 = g22 := by simp at e2; exact e2.symm
  clear e2
  refine ⟨(sorted_w _ _ w1 h2).mono fun e w2 ⟨v, h1, h2, h3⟩ => ⟨v, h1, h2, HSn.out _ _ hS1 h3, h3⟩, fun v hv => ?_⟩
  obtain ⟨_, _, la, lc, rfl, _⟩ := hv.out
  refine hK _ ?_
  clear hK hD1 hS1 K w1 hv h2
  refine relSeq_on rfl (fun K hK w1 hS1 hD1 => ?_)
  have c0 := (HI3.out w1 hS1).cell 0
  have c1 := (HI3.out w1 hS1).cell 1
  have c2 := (HI3.out w1 hS1).cell 2
  simp at c0 c1 c2
  go_simp
  refine ⟨⟨trivial, hS1, Below.refl _ _⟩, hK _ ?_⟩
  clear hK hD1 c0 c1 c2 hS1 K w1
  refine relSeq_on rfl (fun K hK w1 hS1 hD1 => ?_)
  have c0 := (HI2.out w1 hS1).cell 0
  have c1 := (HI2.out w1 hS1).cell 1
  have c2 := (HI2.out w1 hS1).cell 2
  simp at c0 c1 c2
  go_simp
  refine ⟨⟨trivial, hS1, Below.refl _ _⟩, hK _ ?_⟩
  clear hK hD1 c0 c1 c2 hS1 K w1
  refine relSeq_on rfl (fun K hK w1 hS1 hD1 => ?_)
  have c0 := (HI1.out w1 hS1).cell 0
  have c1 := (HI1.out w1 hS1).cell 1
  have c2 := (HI1.out w1 hS1).cell 2
  simp at c0 c1 c2
  go_simp
  refine ⟨⟨trivial, hS1, Below.refl _ _⟩, hK _ ?_⟩
  clear hK hD1 c0 c1 c2 hS1 K w1
  refine relSeq_on rfl (fun K hK w1 hS1 hD1 => ?_)
  go_simp
  refine ⟨⟨⟨_, rfl, Blk.new _ _ _⟩, HSn.out _ _ hS1 ((Below.refl _ _).alloc (Nat.le_refl _) _), (Below.refl _ _).alloc (Nat.le_refl _) _⟩, hK _ ?_⟩
  generalize w1.heap.size = g27
  clear hK hD1 hS1 K w1
  refine relSeq_on rfl (fun K hK w1 hS1 hD1 => ?_)
  go_simp
  obtain ⟨a1, c1, e1, h1⟩ := hD1 ⟨23, .data⟩ (by simp) rfl _ _ rfl rfl
  obtain ⟨b1, e2, h2⟩ := hD1 ⟨27, .data⟩ (by simp) rfl _ _ rfl rfl
  obtain rfl : b1 = g27 := by simp at e2; exact e2.symm
  obtain rfl : a1 = la := by simp at e1; exact e1.1.symm
  clear e1 e2
  refine ⟨(equal_w _ _ _ _ w1 h1 h2).mono fun e w2 he => ⟨_, he.1, rfl, HSn.out _ _ hS1 he.2, he.2⟩, fun v hv => ?_⟩
  obtain ⟨_, _, hv⟩ := hv.out
  obtain rfl : v = .bool true := hv
  refine hK _ ?_
  clear hK hD1 hS1 K w1 hv h1 h2
  refine relSeq_on rfl (fun K hK w1 hS1 hD1 => ?_)
  go_simp
  refine ⟨⟨trivial, hS1, Below.refl _ _⟩, hK _ ?_⟩
  clear hK hD1 hS1 K w1
  refine relSeq_on rfl (fun K hK w1 hS1 hD1 => ?_)
  go_simp
  refine ⟨⟨trivial, hS1, Below.refl _ _⟩, hK _ ?_⟩
  clear hK hD1 hS1 K w1
  refine relSeq_on rfl (fun K hK w1 hS1 hD1 => ?_)
  have c0 := (HI5.out w1 hS1).cell 0
  have c1 := (HI5.out w1 hS1).cell 1
  have c2 := (HI5.out w1 hS1).cell 2
  simp at c0 c1 c2
  go_simp
  refine ⟨⟨trivial, hS1, Below.refl _ _⟩, hK _ ?_⟩
  clear hK hD1 c0 c1 c2 hS1 K w1
  refine relSeq_on rfl (fun K hK w1 hS1 hD1 => ?_)
  go_simp
  refine ⟨⟨trivial, hS1, Below.refl _ _⟩, hK _ ?_⟩
  clear hK hD1 hS1 K w1
  refine relSeq_on rfl (fun K hK w1 hS1 hD1 => ?_)
  have he := eqlId ⟨8, 2, 4⟩ ⟨8, 2, 4⟩ w1
  simp only [encId] at he
  go_simp
  refine ⟨⟨trivial, hS1, Below.refl _ _⟩, hK _ ?_⟩
  clear hK hD1 hS1 he K w1
  refine relSeq_on rfl (fun K hK w1 hS1 hD1 => ?_)
  go_simp
  refine ⟨⟨trivial, hS1, Below.refl _ _⟩, hK _ ?_⟩
  clear hK hD1 hS1 K w1
  refine relSeq_on rfl (fun K hK w1 hS1 hD1 => ?_)
  go_simp
  refine ⟨⟨trivial, hS1, Below.refl _ _⟩, hK _ ?_⟩
  clear hK hD1 hS1 K w1
  refine relSeq_on rfl (fun K hK w1 hS1 hD1 => ?_)
  have c0 := (HI9.out w1 hS1).cell 0
  have c1 := (HI9.out w1 hS1).cell 1
  have c2 := (HI9.out w1 hS1).cell 2
  simp at c0 c1 c2
  go_simp
  refine ⟨⟨trivial, hS1, Below.refl _ _⟩, hK _ ?_⟩
  clear hK hD1 c0 c1 c2 hS1 K w1
  refine relSeq_on rfl (fun K hK w1 hS1 hD1 => ?_)
  go_simp
  refine ⟨⟨trivial, hS1, Below.refl _ _⟩, hK _ ?_⟩
  clear hK hD1 hS1 K w1
  refine relSeq_on rfl (fun K hK w1 hS1 hD1 => ?_)
  have he := eqlId ⟨21, 2, 5⟩ ⟨21, 2, 5⟩ w1
  simp only [encId] at he
  go_simp
  refine ⟨⟨trivial, hS1, Below.refl _ _⟩, hK _ ?_⟩
  clear hK hD1 hS1 he K w1
  refine relSeq_on rfl (fun K hK w1 hS1 hD1 => ?_)
  go_simp
  refine ⟨⟨trivial, hS1, Below.refl _ _⟩, hK _ ?_⟩
  clear hK hD1 hS1 K w1
  refine relSeq_on rfl (fun K hK w1 hS1 hD1 => ?_)
  go_simp
  refine ⟨⟨trivial, hS1, Below.refl _ _⟩, hK _ ?_⟩
  clear hK hD1 hS1 K w1
  refine relSeq_on rfl (fun K hK w1 hS1 hD1 => ?_)
  have c0 := (HI14.out w1 hS1).cell 0
  have c1 := (HI14.out w1 hS1).cell 1
  have c2 := (HI14.out w1 hS1).cell 2
  simp at c0 c1 c2
  go_simp
  refine ⟨⟨trivial, hS1, Below.refl _ _⟩, hK _ ?_⟩
  clear hK hD1 c0 c1 c2 hS1 K w1
  refine relSeq_on rfl (fun K hK w1 hS1 hD1 => ?_)
  have c0 := (HI5.out w1 hS1).cell 0
  have c1 := (HI5.out w1 hS1).cell 1
  have c2 := (HI5.out w1 hS1).cell 2
  simp at c0 c1 c2
  go_simp
  refine ⟨⟨trivial, hS1, Below.refl _ _⟩, hK _ ?_⟩
  clear hK hD1 c0 c1 c2 hS1 K w1
  refine relSeq_on rfl (fun K hK w1 hS1 hD1 => ?_)
  have he := eqlId ⟨8, 2, 4⟩ ⟨8, 2, 4⟩ w1
  simp only [encId] at he
  go_simp
  refine ⟨⟨trivial, hS1, Below.refl _ _⟩, hK _ ?_⟩
  clear hK hD1 hS1 he K w1
  refine relSeq_on rfl (fun K hK w1 hS1 hD1 => ?_)
  go_simp
  refine ⟨⟨trivial, hS1, Below.refl _ _⟩, hK _ ?_⟩
  clear hK hD1 hS1 K w1
  refine relSeq_on rfl (fun K hK w1 hS1 hD1 => ?_)
  go_simp
  refine ⟨⟨trivial, hS1, Below.refl _ _⟩, hK _ ?_⟩
  clear hK hD1 hS1 K w1
  refine relSeq_on rfl (fun K hK w1 hS1 hD1 => ?_)
  have c0 := (HI5.out w1 hS1).cell 0
  have c1 := (HI5.out w1 hS1).cell 1
  have c2 := (HI5.out w1 hS1).cell 2
  simp at c0 c1 c2
  go_simp
  refine ⟨⟨trivial, hS1, Below.refl _ _⟩, hK _ ?_⟩
  clear hK hD1 c0 c1 c2 hS1 K w1
  refine relSeq_on rfl (fun K hK w1 hS1 hD1 => ?_)
  go_simp
  refine ⟨(text_w w1 (HTS.out w1 hS1)).mono fun e w2 he => ⟨_, he.1, rfl, HSn.out _ _ hS1 he.2, he.2⟩, fun v hv => ?_⟩
  obtain ⟨_, _, hv⟩ := hv.out
  obtain rfl : v = .string ⟨#[56, 46, 50, 46, 52]⟩ := hv
  refine hK _ ?_
  clear hK hD1 hS1 K w1 hv
  refine relSeq_on rfl (fun K hK w1 hS1 hD1 => ?_)
  go_simp
  refine ⟨⟨trivial, hS1, Below.refl _ _⟩, hK _ ?_⟩
  clear hK hD1 hS1 K w1
  refine relSeq_on rfl (fun K hK w1 hS1 hD1 => ?_)
  go_simp
  refine ⟨⟨trivial, hS1, Below.refl _ _⟩, hK _ ?_⟩
  clear hK hD1 hS1 K w1
  refine relSeq_on rfl (fun K hK w1 hS1 hD1 => ?_)
  go_simp
  refine ⟨⟨trivial, hS1, Below.refl _ _⟩, hK _ ?_⟩
  clear hK hD1 hS1 K w1
  refine relSeq_on rfl (fun K hK w1 hS1 hD1 => ?_)
  have c0 := (HI3.out w1 hS1).cell 0
  have c1 := (HI3.out w1 hS1).cell 1
  have c2 := (HI3.out w1 hS1).cell 2
  simp at c0 c1 c2
  go_simp
  refine ⟨⟨trivial, hS1, Below.refl _ _⟩, hK _ ?_⟩
  clear hK hD1 c0 c1 c2 hS1 K w1
  refine relSeq_on rfl (fun K hK w1 hS1 hD1 => ?_)
  have c0 := (HI2.out w1 hS1).cell 0
  have c1 := (HI2.out w1 hS1).cell 1
  have c2 := (HI2.out w1 hS1).cell 2
  simp at c0 c1 c2
  go_simp
  refine ⟨⟨trivial, hS1, Below.refl _ _⟩, hK _ ?_⟩
  clear hK hD1 c0 c1 c2 hS1 K w1
  refine relSeq_on rfl (fun K hK w1 hS1 hD1 => ?_)
  go_simp
  refine ⟨(comp_w w1).mono fun e w2 he => ⟨_, he.1, rfl, HSn.out _ _ hS1 he.2, he.2⟩, fun v hv => ?_⟩
  obtain ⟨_, _, hv⟩ := hv.out
  obtain rfl : v = .int .i64 (-1) := hv
  refine hK _ ?_
  clear hK hD1 hS1 K w1 hv
  refine relSeq_on rfl (fun K hK w1 hS1 hD1 => ?_)
  go_simp
  refine ⟨⟨trivial, hS1, Below.refl _ _⟩, hK _ ?_⟩
  clear hK hD1 hS1 K w1
  refine relSeq_on rfl (fun K hK w1 hS1 hD1 => ?_)
  go_simp
  refine ⟨⟨trivial, hS1, Below.refl _ _⟩, hK _ ?_⟩
  clear hK hD1 hS1 K w1
  refine relSeq_on rfl (fun K hK w1 hS1 hD1 => ?_)
  go_simp
  refine ⟨⟨trivial, hS1, Below.refl _ _⟩, hK _ ?_⟩
  clear hK hD1 hS1 K w1
  refine relSeq_on rfl (fun K hK w1 hS1 hD1 => ?_)
  go_simp
  refine ⟨⟨trivial, hS1, Below.refl _ _⟩, hK _ ?_⟩
  clear hK hD1 hS1 K w1
  refine relSeq_on rfl (fun K hK w1 hS1 hD1 => ?_)
  go_simp
  refine ⟨(check_w w1).mono fun e w2 he => ⟨_, he.1, rfl, HSn.out _ _ hS1 he.2, he.2⟩, fun v hv => ?_⟩
  obtain ⟨_, _, hv⟩ := hv.out
  obtain rfl : v = .int .i64 210 := hv
  refine hK _ ?_
  clear hK hD1 hS1 K w1 hv
  refine relSeq_on rfl (fun K hK w1 hS1 hD1 => ?_)
  go_simp
  refine ⟨⟨trivial, hS1, Below.refl _ _⟩, hK _ ?_⟩
  clear hK hD1 hS1 K w1
  refine relSeq_on rfl (fun K hK w1 hS1 hD1 => ?_)
  go_simp
  refine ⟨⟨trivial, hS1, Below.refl _ _⟩, hK _ ?_⟩
  clear hK hD1 hS1 K w1
  refine relSeq_nil ?_
  intro listed w9 hS2 hF2 hl2
  have HBW := Lib.hid (HSd.out w9 hS2)
  clear hF2 hl2 HSd HSn HI1 HI2 HI3 HI5 HI9 HI14 HTS hS2
  go_wp2
  go_ret
  exact ⟨rfl, HF.out.hb.trans (HBW.out.mono HF.out.hb.size)⟩
end Go.Proofs.YtoiaecfiinkmjaaDoor
