/- gessolaw13.VectorBounds returns true, and turns nothing that was there, whatever the three vectors: the walk where one of the first two is none, and the given statement Rows.VectorBoundsSaid. -/
import Derived.Test.YtoiaecfiinkmjaaBounds
import Derived.Test.YtoiaecfiinkmjaaRow
namespace Go.Proofs.Ytoiaecfiinkmjaa
open Go.ChangeShapes Go.WideShapes Go.ChangeAt Go.RowKit Go.Shelf

set_option maxRecDepth 100000 in
set_option maxHeartbeats 4000000 in
theorem bounds_bad (f g h : Nat → Int) (w : World) (hbad : okVecs f [g] = false) :
    Calls Try.prog 3 #[vec f, vec g, vec h] w (Ret (.bool true) w) := by
  have KJ : Hid (∀ a c W, VSl W a 1 [g] → Calls Try.prog 8 #[vec f, .slice a 1 c] W (Ret (.tuple #[vec wZ, .int .i64 230]) W)) := by
    intro a c W hS; exact Join_bad f a 1 c [g] W hS hbad
  have KM : Hid (∀ a c W, VSl W a 1 [g] → Calls Try.prog 9 #[vec f, .slice a 1 c] W (Ret (.tuple #[vec wZ, .int .i64 230]) W)) := by
    intro a c W hS; exact Meet_bad f a 1 c [g] W hS hbad
  clear hbad
  have B0 : Hid (Blk (((w.alloc (.cells (vecC f) 24)).alloc (.cells (vecC g) 24)).alloc (.cells (vecC h) 24)) w.heap.size 24 (vecC f)) := ((Blk.new _ _ _).alloc _).alloc _
  have B1 : Hid (Blk (((w.alloc (.cells (vecC f) 24)).alloc (.cells (vecC g) 24)).alloc (.cells (vecC h) 24)) (w.heap.size + 1) 24 (vecC g)) := by
    have := (Blk.new (w.alloc (.cells (vecC f) 24)) 24 (vecC g)).alloc (.cells (vecC h) 24)
    rwa [World.size_alloc] at this
  have HB0 : Hid (Below w.heap.size w (((w.alloc (.cells (vecC f) 24)).alloc (.cells (vecC g) 24)).alloc (.cells (vecC h) 24))) := by show Below _ _ _; go_grown
  go_enter Try.func3, Try.ntmps3
  unfold vec
  go_wp2_with (first
    | (go_at_call 7
       refine (wakes_any _).mono ?_
       rintro e W1 ⟨rfl, hb⟩
       have A0 := Lib.hid (B0.out.below hb B0.out.lt)
       have A1 := Lib.hid (B1.out.below hb B1.out.lt)
       have HB := Lib.hid (HB0.out.trans (hb.mono HB0.out.size))
       clear hb B0 B1 HB0
       generalize w.heap.size + 1 + 1 = q2 at ⊢
       generalize w.heap.size + 1 = q1 at A1 ⊢
       generalize hq0 : w.heap.size = q0 at A0 ⊢
       clear hq0
       obtain ⟨c0, c1, c2, c3, c4, c5, c6, c7, c8⟩ := A0.out.c9
       obtain ⟨d0, d1, d2, d3, d4, d5, d6, d7, d8⟩ := A1.out.c9)
    | (go_at_call 8
       refine (KJ.out _ _ _ (VSl_one (g := g) (Blk.new _ _ _))).mono ?_
       rintro e W2 ⟨rfl, hb⟩
       have HW : Hid (Below W1.heap.size W1 W2) := Below.trans ((Below.refl _ _).alloc (Nat.le_refl _) _) (hb.mono (by simp))
       clear hb KJ c0 c1 c2 c3 c4 c5 c6 c7 c8 d0 d1 d2 d3 d4 d5 d6 d7 d8)
    | (refine L_vstore_new (f := wZ) (.tmp 7) (.tmp 18) wZ rfl rfl ?_
       have HU := Lib.hid (HW.out.alloc HW.out.size (.cells (vecC wZ) 24))
       have V3 : Hid (Blk (W2.alloc (.cells (vecC wZ) 24)) W2.heap.size 24 (vecC wZ)) := Blk.new _ _ _
       have V0 := Lib.hid (A0.out.below HU.out A0.out.lt)
       have V1 := Lib.hid (A1.out.below HU.out A1.out.lt)
       replace HB := Lib.hid (HB.out.trans (HU.out.mono HB.out.size))
       clear HW HU A0 A1
       generalize W2.alloc (.cells (vecC wZ) 24) = W5 at V0 V1 V3 HB ⊢
       generalize W2.heap.size = b7 at V3 ⊢
       obtain ⟨c0, c1, c2, c3, c4, c5, c6, c7, c8⟩ := V0.out.c9
       obtain ⟨d0, d1, d2, d3, d4, d5, d6, d7, d8⟩ := V1.out.c9)
    | (go_at_call 9
       refine (KM.out _ _ _ (VSl_one (g := g) (Blk.new _ _ _))).mono ?_
       rintro e W6 ⟨rfl, hb⟩
       have HW : Hid (Below W5.heap.size W5 W6) := Below.trans ((Below.refl _ _).alloc (Nat.le_refl _) _) (hb.mono (by simp))
       clear hb KM c0 c1 c2 c3 c4 c5 c6 c7 c8 d0 d1 d2 d3 d4 d5 d6 d7 d8)
    | (refine L_vstore_new (f := wZ) (.tmp 9) (.tmp 25) wZ rfl rfl ?_
       have HU := Lib.hid (HW.out.alloc HW.out.size (.cells (vecC wZ) 24))
       have U4 : Hid (Blk (W6.alloc (.cells (vecC wZ) 24)) W6.heap.size 24 (vecC wZ)) := Blk.new _ _ _
       have U3 := Lib.hid (V3.out.below HU.out V3.out.lt)
       replace HB := Lib.hid (HB.out.trans (HU.out.mono HB.out.size))
       clear HW HU V0 V1 V3
       generalize W6.alloc (.cells (vecC wZ) 24) = W7 at U3 U4 HB ⊢
       generalize W6.heap.size = b9 at U4 ⊢
       obtain ⟨c0, c1, c2, c3, c4, c5, c6, c7, c8⟩ := U3.out.c9v
       obtain ⟨d0, d1, d2, d3, d4, d5, d6, d7, d8⟩ := U4.out.c9v))
  go_ret
  exact ⟨rfl, HB.out⟩

theorem bounds_any (f g h : Nat → Int) (w : World) : Calls Try.prog 3 #[vec f, vec g, vec h] w (Ret (.bool true) w) := by
  cases hb : okVecs f [g] with
  | false => exact bounds_bad f g h w hb
  | true =>
    simp [okVecs] at hb
    exact bounds_ok f g h w hb.1 hb.2

set_option maxRecDepth 100000 in
theorem bounds_lifted (os : Os) (started : os.Started) (H : Type) (enc : TypeId × Value → H) :
    ReturnsInHanded {} Try.checked os 3 .any (Rows.vectorBoundsSpec.pre6 enc Try.prog Try.f3 Rows.vectorBoundsRow.domain false) (Rows.vectorBoundsSpec.post enc Try.prog Try.f3 false true false false) := by
  refine returnsInHanded_of_change (C := Try.checked) row_own started (by kernel_rfl) Try.func3
    (ChangeSpec.witness6 (enc := enc) (C := Try.checked) false ⟨#[], #[vec fun _ => 0, vec fun _ => 0, vec fun _ => 0], []⟩ 24 (by kernel_rfl) (by kernel_rfl) (by kernel_rfl) (by kernel_rfl)) ?_
  intro W base args ds gs before hval0 hW hcnd _
  have hval : ∀ (j : Nat) t v, Try.f3.params[j]? = some t → args[j]? = some v → Value.okWide Try.prog W .any base t v := hval0
  have hW' := hW
  obtain ⟨p, q, hA0, hV, rfl, hfz, hnd⟩ := hW
  have hA : DataW.TrodAll enc Try.prog W 0 (fun _ => true) true Try.f3.params.toList args.toList ds p := hA0
  rw [Try.params3] at hA hval
  obtain ⟨v0, vs0, d0, ds0, p0, q0, hargs, rfl, rfl, h0, r0⟩ := trodAll_cons hA
  obtain ⟨v1, vs1, d1, ds1, p1, q1, rfl, rfl, rfl, h1, r1⟩ := trodAll_cons r0
  obtain ⟨v2, vs2, d2, ds2, p2, q2, rfl, rfl, rfl, h2, r2⟩ := trodAll_cons r1
  obtain ⟨rfl, rfl, rfl⟩ := trodAll_nil r2
  obtain rfl : args = #[v0, v1, v2] := by cases args; simp_all
  obtain ⟨rfl, rfl⟩ := trodVars_none hV
  have lt0 : ∀ x ∈ p0, x.block < W.heap.size := by obtain ⟨m, hm⟩ := h0; exact DataW.trod_lt m _ _ _ hm
  have lt1 : ∀ x ∈ p1, x.block < W.heap.size := by obtain ⟨m, hm⟩ := h1; exact DataW.trod_lt m _ _ _ hm
  have lt2 : ∀ x ∈ p2, x.block < W.heap.size := by obtain ⟨m, hm⟩ := h2; exact DataW.trod_lt m _ _ _ hm
  obtain ⟨f0, rfl, _⟩ := open_vec (hval 0 24 v0 rfl rfl) h0
  obtain ⟨f1, rfl, _⟩ := open_vec (hval 1 24 v1 rfl rfl) h1
  obtain ⟨f2, rfl, _⟩ := open_vec (hval 2 24 v2 rfl rfl) h2
  clear hA0 hval0
  refine (bounds_any f0 f1 f2 W).mono fun e W' ⟨he, bel⟩ => ?_
  subst he
  exact ⟨_, rfl, _, _, _, [], _, [], hW', trodAll_mk1 (shut_bool Try.underlying4 _), (trodAll_cons_mk (Below.trod row_laidOut (by kernel_rfl) (of_decide_eq_true (by kernel_rfl)) h0 bel lt0) (trodAll_cons_mk (Below.trod row_laidOut (by kernel_rfl) (of_decide_eq_true (by kernel_rfl)) h1 bel lt1) (trodAll_cons_mk (Below.trod row_laidOut (by kernel_rfl) (of_decide_eq_true (by kernel_rfl)) h2 bel lt2) trodAll_mk0))), rfl, bel.frame _, fun h => by cases h⟩

theorem bounds_over : Rows.vectorBoundsRow.holds Try.pinned (OpenSpec.ofChange Rows.vectorBoundsSpec) :=
  OpenClaim.holds_of_wide 3 Try.f3 rfl rfl rfl rfl rfl rfl rfl ⟨rfl, rfl, rfl, rfl, rfl⟩ rfl rfl rfl rfl rfl (by kernel_rfl) Try.func3 (by kernel_rfl)
    (of_decide_eq_true (by kernel_rfl)) (by unfold Func.isWrapper; first | (rw [if_pos (by decide +kernel)]; kernel_rfl) | (rw [if_neg (by decide +kernel)]; exact ⟨rfl, rfl⟩))
    (fun os started H enc _ => bounds_lifted os started H enc)

/-- THE STATEMENT. -/
theorem bounds_proved : Rows.VectorBoundsSaid := bounds_over
#print axioms bounds_proved
end Go.Proofs.Ytoiaecfiinkmjaa
